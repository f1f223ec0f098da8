/-
  Texts joined: see the remark at the head of each part.
-/
import Derived.Test.YtjomnccladjpgaaQ11
import Derived.Test.YtjomnccladjpgaaQ12
import Derived.Test.YtjomnccladjpgaaQ09
import Derived.Test.YtjomnccladjpgaaQ08
import Derived.Test.YtjomnccladjpgaaQ10
import Derived.Test.YtjomnccladjpgaaQ14
import Derived.ScopeJumps
import Derived.Test.YtjomnccladjpgaaQ07
set_option linter.unusedVariables false
set_option linter.unusedSimpArgs false
/-
  Walks of functions: each function does what its model tells. Printed by a program of this claim's own (gen.py) off the given translation.
-/
namespace Go.Proofs.Ytjomnccladjpgaa
open Go Go.RowKit
set_option linter.unusedVariables false
set_option maxHeartbeats 4000000
set_option maxRecDepth 20000
end Go.Proofs.Ytjomnccladjpgaa

/-
  Walks of functions: each function does what its model tells. Printed by a program of this claim's own (gen.py) off the given translation.
-/
namespace Go.Proofs.Ytjomnccladjpgaa
open Go Go.RowKit
set_option linter.unusedVariables false
set_option maxHeartbeats 4000000
set_option maxRecDepth 20000
theorem fch_wal_Log_Begin (p0 : (Option Nat)) (w0 : Hp) (r : ((Option Nat) × Int × Hp)) (h : m_wal_Log_Begin p0 w0 = some r) : FCH Try.prog 76 [.t ((ptT 3 p0))] [] [] (hpA w0) (hpA r.2.2) (.tup [(ptT 5 r.1), .d (.lit (.int .i64 r.2.1))]) := by
 refine fch_mk (rs := [.tmp 2, .tmp 3]) (n := 18) [0] Try.func76 rfl rfl (Nat.le_of_ble_eq_true rfl) rfl (pins := []) rfl (L := [(HK, .hp (hpA w0)), (OB + 0, .free), (0, .t ((ptT 3 p0)))]) rfl ?_
 refine c_sr ?_
 refine o_of (e := [(2, .t (.d (.lit (.pointer none))))]) (g0 rfl) (h_mv mR (.inr rfl) rfl rfl rfl) rfl ?_
 refine o_1 (.i 0) rfl ?_
 refine o_nil (c_seq (c_sr ?_))
 refine o_of (e := [(5, .t ((ptT 3 p0)))]) (g0 rfl) (h_mv mR (.inl rfl) (cpO_pt rfl) rfl rfl) rfl ?_
 obtain ⟨x1, h2, h⟩ := bind_some h
 refine o_of (e := [(6, .i x1)]) (g0 rfl) (h_callR mR rfl (σ := []) (fr := []) rfl rfl rfl rfl rfl rfl rfl (fch_wal_Log_alive _ w0 _ h2) (pure_hpA _) rfl rfl rfl rfl (.cons (argPt rfl) .nil) rfl (.t (.flat rfl))) rfl ?_
 refine o_1 (.i x1) rfl ?_
 refine o_nil (c_sr ?_)
 refine o_m2 (.i x1) (.b (x1 != 0)) rfl ?_
 refine o_nil ?_
 rcases bif_some h with ⟨h3, h⟩ | ⟨h3, h⟩
 ·
  refine c_t h3 rfl ?_
  refine c_sr ?_
  refine o_1 (.i x1) rfl ?_
  refine o_of (e := [(2, .t (.d (.lit (.pointer none))))]) (g0 rfl) (h_mv mR (.inr rfl) rfl rfl rfl) rfl ?_
  refine o_1 (.i x1) rfl ?_
  refine o_nil (c_ret ?_)
  obtain rfl := Option.some.inj h
  exact ⟨⟨_, rfl, (.tup (.cons .r (.cons .r .nil)))⟩, trivial, rfl⟩
 refine c_f h3 rfl ?_
 refine c_skip (c_sr ?_)
 rcases ptM_some h with ⟨h4, h⟩ | ⟨i5, h4, h⟩
 ·
  refine o_of (e := [(10, .t (.d (.lit (.pointer none))))]) (g0 rfl) (h_mv mR (.inl rfl) ((cpO_pt rfl).trans (pt_eq_none h4)) rfl rfl) rfl ?_
  refine o_of (e := [(11, .t (.d (.lit (.pointer none))))]) (g0 rfl) (h_mv mR (.inl rfl) ((cpO_pt rfl).trans (pt_eq_none h4)) rfl rfl) rfl ?_
  exact none_ne h
 refine o_of (e := [(10, .t (.hpt (cd 3 i5) 0))]) (g0 rfl) (h_mv mR (.inl rfl) ((cpO_pt rfl).trans (pt_eq_some h4)) rfl rfl) rfl ?_
 refine o_of (e := [(11, .t (.hpt (cd 3 i5) 0))]) (g0 rfl) (h_mv mR (.inl rfl) ((cpO_pt rfl).trans (pt_eq_some h4)) rfl rfl) rfl ?_
 refine o_of (e := [(12, .t (.hpt (cd 3 i5) 0))]) (g0 rfl) (h_nc mR rfl rfl rfl rfl rfl) rfl ?_
 refine o_of (e := [(13, .t (.hpt (cd 3 i5) 6))]) (g0 rfl) (h_fd mR rfl rfl rfl rfl rfl rfl) rfl ?_
 obtain ⟨x6, h7, h⟩ := bind_some h
 refine o_of (e := [(14, .i x6.commits_)]) (g0 rfl) (h_ld mR rfl rfl rfl rfl (gl_lg h7) rfl rfl rfl rfl) rfl ?_
 refine o_of (e := [(HK, .hp (hpA (w0.nw_mp ([] : (List (Int × (List UInt8))))))), (15, .t (.mpt (OB + cd 6 w0.ln_mp)))]) (g0 rfl) (h_mkmH rfl rfl rfl rfl (fr_mp _) (nw_mp _ _)) rfl ?_
 refine o_of (e := [(16, .ag [.hpt (cd 3 i5) 0, .i x6.commits_, .b false, .mpt (OB + cd 6 w0.ln_mp)])]) (g0 rfl) (h_bd mR rfl rfl rfl rfl) rfl ?_
 refine o_of (e := [(HK, .hp (hpA ((w0.nw_mp ([] : (List (Int × (List UInt8))))).nw_tx (S_wal_Txn.mk (some i5) x6.commits_ false w0.ln_mp)))), (17, .t (.hpt (cd 5 ((w0.nw_mp ([] : (List (Int × (List UInt8))))).ln_tx)) 0))]) (g0 rfl) (h_box mR rfl rfl rfl rfl rfl (fr_tx _) (nw_tx _ (S_wal_Txn.mk (some i5) x6.commits_ false w0.ln_mp))) rfl ?_
 refine o_of (e := [(2, .t (.hpt (cd 5 ((w0.nw_mp ([] : (List (Int × (List UInt8))))).ln_tx)) 0))]) (g0 rfl) (h_mv mR (.inr rfl) rfl rfl rfl) rfl ?_
 refine o_1 (.i 0) rfl ?_
 refine o_nil (c_ret ?_)
 obtain rfl := Option.some.inj h
 exact ⟨⟨_, rfl, (.tup (.cons .r (.cons .r .nil)))⟩, trivial, rfl⟩
theorem fch_wal_Txn_alive (p0 : (Option Nat)) (w0 : Hp) (r : Int) (h : m_wal_Txn_alive p0 w0 = some r) : FCH Try.prog 83 [.t ((ptT 5 p0))] [] [] (hpA w0) (hpA w0) (.t (.d (.lit (.int .i64 r)))) := by
 refine fch_mk (rs := [.tmp 2]) (n := 39) [] Try.func83 rfl rfl (Nat.le_of_ble_eq_true rfl) rfl (pins := []) rfl (L := [(HK, .hp (hpA w0)), (0, .t ((ptT 5 p0)))]) rfl ?_
 refine c_sr ?_
 refine o_1 (.i 0) rfl ?_
 refine o_nil (c_seq (c_sr ?_))
 refine o_of (e := [(4, .t ((ptT 5 p0)))]) (g0 rfl) (h_mv mR (.inl rfl) (cpO_pt rfl) rfl rfl) rfl ?_
 rcases ptM_some h with ⟨h1, h⟩ | ⟨i2, h1, h⟩
 ·
  refine o_of (e := [(5, .b true)]) (g0 rfl) (h_pn mR (ng := false) rfl rfl rfl (pn_none rfl h1) rfl rfl) rfl ?_
  refine o_1 (.b true) rfl ?_
  refine o_skip rfl rfl rfl rfl rfl rfl ?_
  refine o_skip rfl rfl rfl rfl rfl rfl ?_
  refine o_skip rfl rfl rfl rfl rfl rfl ?_
  refine o_skip rfl rfl rfl rfl rfl rfl ?_
  refine o_skip rfl rfl rfl rfl rfl rfl ?_
  refine o_pk (.b true) (b := true) rfl (g0 rfl) rfl rfl rfl rfl rfl ?_
  refine o_nil ?_
  refine c_t rfl rfl ?_
  refine c_sr ?_
  refine o_1 (.i 1) rfl ?_
  refine o_nil (c_ret ?_)
  obtain rfl := Option.some.inj h
  exact ⟨⟨_, rfl, .r⟩, trivial, rfl⟩
 refine o_of (e := [(5, .b false)]) (g0 rfl) (h_pn mR (ng := false) rfl rfl rfl (pn_some rfl h1) rfl rfl) rfl ?_
 refine o_1 (.b false) rfl ?_
 refine o_of (e := [(7, .t (.hpt (cd 5 i2) 0))]) (gy rfl rfl rfl rfl) (h_mv mR (.inl rfl) ((cpO_pt rfl).trans (pt_eq_some h1)) rfl rfl) rfl ?_
 refine o_of (e := [(8, .t (.hpt (cd 5 i2) 0))]) (gy rfl rfl rfl rfl) (h_nc mR rfl rfl rfl rfl rfl) rfl ?_
 refine o_of (e := [(9, .t (.hpt (cd 5 i2) 3))]) (gy rfl rfl rfl rfl) (h_fd mR rfl rfl rfl rfl rfl rfl) rfl ?_
 obtain ⟨x3, h4, h⟩ := bind_some h
 refine o_of (e := [(10, .t (.mpt (OB + cd 6 x3.now_)))]) (gy rfl rfl rfl rfl) (h_ld mR rfl rfl rfl rfl (gl_tx h4) rfl rfl rfl rfl) rfl ?_
 refine o_of (e := [(11, .b false)]) (gy rfl rfl rfl rfl) (h_mn (ng := false) mR rfl rfl rfl rfl rfl rfl) rfl ?_
 refine o_pk (.b false) (b := false) rfl (g0 rfl) rfl rfl rfl rfl rfl ?_
 refine o_nil ?_
 refine c_f rfl rfl ?_
 refine c_skip (c_seq (c_sr ?_))
 refine o_of (e := [(13, .t (.hpt (cd 5 i2) 0))]) (g0 rfl) (h_mv mR (.inl rfl) ((cpO_pt rfl).trans (pt_eq_some h1)) rfl rfl) rfl ?_
 refine o_of (e := [(14, .t (.hpt (cd 5 i2) 0))]) (g0 rfl) (h_nc mR rfl rfl rfl rfl rfl) rfl ?_
 refine o_of (e := [(15, .t (.hpt (cd 5 i2) 0))]) (g0 rfl) (h_fd mR rfl rfl rfl rfl rfl rfl) rfl ?_
 refine o_of (e := [(16, .t ((ptT 3 x3.l_)))]) (g0 rfl) (h_ld mR rfl rfl rfl rfl (gl_tx h4) rfl (norH_pt _ _) rfl rfl) rfl ?_
 obtain ⟨x5, h6, h⟩ := bind_some h
 refine o_of (e := [(17, .i x5)]) (g0 rfl) (h_callR mR rfl (σ := []) (fr := []) rfl rfl rfl rfl rfl rfl rfl (fch_wal_Log_alive _ w0 _ h6) (pure_hpA _) rfl rfl rfl rfl (.cons (argPt rfl) .nil) rfl (.t (.flat rfl))) rfl ?_
 refine o_1 (.i x5) rfl ?_
 refine o_nil (c_sr ?_)
 refine o_m2 (.i x5) (.b (x5 != 0)) rfl ?_
 refine o_nil ?_
 rcases bif_some h with ⟨h7, h⟩ | ⟨h7, h⟩
 ·
  refine c_t h7 rfl ?_
  refine c_sr ?_
  refine o_m2 (.i x5) (.i x5) rfl ?_
  refine o_nil (c_ret ?_)
  obtain rfl := Option.some.inj h
  exact ⟨⟨_, rfl, .r⟩, trivial, rfl⟩
 refine c_f h7 rfl ?_
 refine c_skip (c_seq (c_seq ?_))
 refine c_draw mixed (by kernel_rfl) ?_
 refine d_h0 [] (e := [(21, .t (.hpt (cd 5 i2) 0))]) (ks := [21]) rfl (dg0 rfl) rfl rfl (fun S' hM hok => h_mv hM (.inl rfl) ((cpO_pt rfl).trans (pt_eq_some h1)) rfl (hok _ rfl rfl)) rfl ?_
 refine d_h0 [] (e := [(22, .t (.hpt (cd 5 i2) 0))]) (ks := [22]) rfl (dg0 rfl) rfl rfl (fun S' hM hok => h_nc hM rfl rfl rfl rfl (hok _ rfl rfl)) rfl ?_
 refine d_h0 [] (e := [(23, .t (.hpt (cd 5 i2) 2))]) (ks := [23]) rfl (dg0 rfl) rfl rfl (fun S' hM hok => h_fd hM rfl rfl rfl rfl rfl (hok _ rfl rfl)) rfl ?_
 refine d_h (e := [(24, .b x3.over_)]) (ks := [24]) rfl (dg0 rfl) rfl rfl (fun S' hM hk hok => h_ld hM hk rfl rfl rfl (gl_tx h4) rfl rfl rfl (hok _ rfl rfl)) rfl ?_
 refine d_s (.b x3.over_) rfl (dg0 rfl) rfl rfl rfl rfl ?_
 rcases bif_some h with ⟨h8, h⟩ | ⟨h8, h⟩
 ·
  refine d_skip rfl rfl rfl rfl rfl h8 rfl rfl rfl ?_
  refine d_skip rfl rfl rfl rfl rfl h8 rfl rfl rfl ?_
  refine d_skip rfl rfl rfl rfl rfl h8 rfl rfl rfl ?_
  refine d_skip rfl rfl rfl rfl rfl h8 rfl rfl rfl ?_
  refine d_skip rfl rfl rfl rfl rfl h8 rfl rfl rfl ?_
  refine d_skip rfl rfl rfl rfl rfl h8 rfl rfl rfl ?_
  refine d_skip rfl rfl rfl rfl rfl h8 rfl rfl rfl ?_
  refine d_skip rfl rfl rfl rfl rfl h8 rfl rfl rfl ?_
  refine d_skip rfl rfl rfl rfl rfl h8 rfl rfl rfl ?_
  refine d_skip rfl rfl rfl rfl rfl h8 rfl rfl rfl ?_
  refine d_skip rfl rfl rfl rfl rfl h8 rfl rfl rfl ?_
  refine d_skip rfl rfl rfl rfl rfl h8 rfl rfl rfl ?_
  refine d_pk (.b true) (b := true) h8 rfl (dg0 rfl) rfl rfl rfl rfl rfl rfl ?_
  refine d_nil (by kernel_rfl) ?_
  refine c_t rfl rfl ?_
  refine c_sr ?_
  refine o_1 (.i 34) rfl ?_
  refine o_nil (c_ret ?_)
  obtain rfl := Option.some.inj h
  exact ⟨⟨_, rfl, .r⟩, trivial, rfl⟩
 refine d_h0 [] (e := [(26, .t (.hpt (cd 5 i2) 0))]) (ks := [26]) rfl (dgy rfl rfl rfl rfl h8) rfl rfl (fun S' hM hok => h_mv hM (.inl rfl) ((cpO_pt rfl).trans (pt_eq_some h1)) rfl (hok _ rfl rfl)) rfl ?_
 refine d_h0 [] (e := [(27, .t (.hpt (cd 5 i2) 0))]) (ks := [27]) rfl (dgy rfl rfl rfl rfl h8) rfl rfl (fun S' hM hok => h_nc hM rfl rfl rfl rfl (hok _ rfl rfl)) rfl ?_
 refine d_h0 [] (e := [(28, .t (.hpt (cd 5 i2) 1))]) (ks := [28]) rfl (dgy rfl rfl rfl rfl h8) rfl rfl (fun S' hM hok => h_fd hM rfl rfl rfl rfl rfl (hok _ rfl rfl)) rfl ?_
 refine d_h (e := [(29, .i x3.at_)]) (ks := [29]) rfl (dgy rfl rfl rfl rfl h8) rfl rfl (fun S' hM hk hok => h_ld hM hk rfl rfl rfl (gl_tx h4) rfl rfl rfl (hok _ rfl rfl)) rfl ?_
 refine d_h0 [] (e := [(30, .t (.hpt (cd 5 i2) 0))]) (ks := [30]) rfl (dgy rfl rfl rfl rfl h8) rfl rfl (fun S' hM hok => h_mv hM (.inl rfl) ((cpO_pt rfl).trans (pt_eq_some h1)) rfl (hok _ rfl rfl)) rfl ?_
 refine d_h0 [] (e := [(31, .t (.hpt (cd 5 i2) 0))]) (ks := [31]) rfl (dgy rfl rfl rfl rfl h8) rfl rfl (fun S' hM hok => h_nc hM rfl rfl rfl rfl (hok _ rfl rfl)) rfl ?_
 refine d_h0 [] (e := [(32, .t (.hpt (cd 5 i2) 0))]) (ks := [32]) rfl (dgy rfl rfl rfl rfl h8) rfl rfl (fun S' hM hok => h_fd hM rfl rfl rfl rfl rfl (hok _ rfl rfl)) rfl ?_
 refine d_h (e := [(33, .t ((ptT 3 x3.l_)))]) (ks := [33]) rfl (dgy rfl rfl rfl rfl h8) rfl rfl (fun S' hM hk hok => h_ld hM hk rfl rfl rfl (gl_tx h4) rfl (norH_pt _ _) rfl (hok _ rfl rfl)) rfl ?_
 rcases ptM_some h with ⟨h9, h⟩ | ⟨i10, h9, h⟩
 ·
  exact none_ne h
 refine d_h0 [] (e := [(34, .t (.hpt (cd 3 i10) 0))]) (ks := [34]) rfl (dgy rfl rfl rfl rfl h8) rfl rfl (fun S' hM hok => h_nc hM rfl (cpO_pt rfl) (ptT_some h9) rfl (hok _ rfl rfl)) rfl ?_
 refine d_h0 [] (e := [(35, .t (.hpt (cd 3 i10) 6))]) (ks := [35]) rfl (dgy rfl rfl rfl rfl h8) rfl rfl (fun S' hM hok => h_fd hM rfl rfl rfl rfl rfl (hok _ rfl rfl)) rfl ?_
 obtain ⟨x11, h12, h⟩ := bind_some h
 refine d_h (e := [(36, .i x11.commits_)]) (ks := [36]) rfl (dgy rfl rfl rfl rfl h8) rfl rfl (fun S' hM hk hok => h_ld hM hk rfl rfl rfl (gl_lg h12) rfl rfl rfl (hok _ rfl rfl)) rfl ?_
 refine d_s (.b (x3.at_ != x11.commits_)) rfl (dgy rfl rfl rfl rfl h8) rfl rfl rfl rfl ?_
 refine d_pk (.b (x3.at_ != x11.commits_)) (b := false) h8 rfl (dg0 rfl) rfl rfl rfl rfl rfl rfl ?_
 refine d_nil (by kernel_rfl) ?_
 rcases bif_some h with ⟨h13, h⟩ | ⟨h13, h⟩
 ·
  refine c_t h13 rfl ?_
  refine c_sr ?_
  refine o_1 (.i 34) rfl ?_
  refine o_nil (c_ret ?_)
  obtain rfl := Option.some.inj h
  exact ⟨⟨_, rfl, .r⟩, trivial, rfl⟩
 refine c_f h13 rfl ?_
 refine c_skip (c_sr ?_)
 refine o_1 (.i 0) rfl ?_
 refine o_nil (c_ret ?_)
 obtain rfl := Option.some.inj h
 exact ⟨⟨_, rfl, .r⟩, trivial, rfl⟩
theorem fch_wal_Txn_Read (p0 : (Option Nat)) (p1 : Int) (w0 : Hp) (r : ((List UInt8) × Int)) (h : m_wal_Txn_Read p0 p1 w0 = some r) : FCH Try.prog 31 [.t ((ptT 5 p0)), .t (.d (.lit (.int .i64 p1)))] [] [] (hpA w0) (hpA w0) (.tup [.d (.seq 1 (bytesD r.1)), .d (.lit (.int .i64 r.2))]) := by
 refine fch_mk (rs := [.tmp 4, .tmp 5]) (n := 34) [] Try.func31 rfl rfl (Nat.le_of_ble_eq_true rfl) rfl (pins := []) rfl (L := [(HK, .hp (hpA w0)), (0, .t ((ptT 5 p0))), (1, .i p1)]) rfl ?_
 refine c_sr ?_
 refine o_m2 (.n) (.i 0) rfl ?_
 refine o_nil (c_seq (c_sr ?_))
 refine o_of (e := [(9, .t ((ptT 5 p0)))]) (g0 rfl) (h_mv mR (.inl rfl) (cpO_pt rfl) rfl rfl) rfl ?_
 obtain ⟨x1, h2, h⟩ := bind_some h
 refine o_of (e := [(10, .i x1)]) (g0 rfl) (h_callR mR rfl (σ := []) (fr := []) rfl rfl rfl rfl rfl rfl rfl (fch_wal_Txn_alive _ w0 _ h2) (pure_hpA _) rfl rfl rfl rfl (.cons (argPt rfl) .nil) rfl (.t (.flat rfl))) rfl ?_
 refine o_1 (.i x1) rfl ?_
 refine o_nil (c_sr ?_)
 refine o_m2 (.i x1) (.b (x1 != 0)) rfl ?_
 refine o_nil ?_
 rcases bif_some h with ⟨h3, h⟩ | ⟨h3, h⟩
 ·
  refine c_t h3 rfl ?_
  refine c_sr ?_
  refine o_m3 (.i x1) (.n) (.i x1) rfl ?_
  refine o_nil (c_ret ?_)
  obtain rfl := Option.some.inj h
  exact ⟨⟨_, rfl, (.tup (.cons (.d (.nil _)) (.cons .r .nil)))⟩, trivial, rfl⟩
 refine c_f h3 rfl ?_
 refine c_skip (c_seq (c_sr ?_))
 refine o_of (e := [(15, .t ((ptT 5 p0)))]) (g0 rfl) (h_mv mR (.inl rfl) (cpO_pt rfl) rfl rfl) rfl ?_
 rcases ptM_some h with ⟨h4, h⟩ | ⟨i5, h4, h⟩
 ·
  exact none_ne h
 refine o_of (e := [(16, .t (.hpt (cd 5 i5) 0))]) (g0 rfl) (h_nc mR rfl (cpO_pt rfl) (ptT_some h4) rfl rfl) rfl ?_
 refine o_of (e := [(17, .t (.hpt (cd 5 i5) 3))]) (g0 rfl) (h_fd mR rfl rfl rfl rfl rfl rfl) rfl ?_
 obtain ⟨x6, h7, h⟩ := bind_some h
 refine o_of (e := [(18, .t (.mpt (OB + cd 6 x6.now_)))]) (g0 rfl) (h_ld mR rfl rfl rfl rfl (gl_tx h7) rfl rfl rfl rfl) rfl ?_
 refine o_1 (.i p1) rfl ?_
 obtain ⟨x8, h9, h⟩ := bind_some h
 refine o_of (e := [(20, .tup [.y ((mfind x8 p1).getD ([] : (List UInt8))), .b ((mfind x8 p1).isSome)])]) (g0 rfl) (h_mlk2H (kv := (fun z : Int => Value.int .i64 z)) (cv := (fun l : List UInt8 => D.y l)) mR rfl rfl rfl (gl_mp h9) rfl rfl (keyInt (by kernel_rfl)) rfl rfl (fun _ => RepD.nilSeq _ _) rfl rfl) rfl ?_
 refine o_m5 (.tup [.y ((mfind x8 p1).getD ([] : (List UInt8))), .b ((mfind x8 p1).isSome)]) (.y ((mfind x8 p1).getD ([] : (List UInt8)))) (.b ((mfind x8 p1).isSome)) (.y ((mfind x8 p1).getD ([] : (List UInt8)))) (.b ((mfind x8 p1).isSome)) rfl ?_
 refine o_nil (c_sr ?_)
 refine o_1 (.b ((mfind x8 p1).isSome)) rfl ?_
 refine o_nil ?_
 rcases bif_some h with ⟨h10, h⟩ | ⟨h10, h⟩
 ·
  refine c_t h10 rfl ?_
  refine c_sr ?_
  refine o_1 (.y ((mfind x8 p1).getD ([] : (List UInt8)))) rfl ?_
  obtain ⟨x11, h12, h⟩ := bind_some h
  refine o_ca (fc_slices_Clone_byte _ _ h12) (g0 rfl) rfl rfl rfl rfl rfl rfl rfl (.cons .r .nil) rfl rfl ?_
  refine o_m2 (.y x11) (.i 0) rfl ?_
  refine o_nil (c_ret ?_)
  obtain rfl := Option.some.inj h
  exact ⟨⟨_, rfl, (.tup (.cons .r (.cons .r .nil)))⟩, trivial, rfl⟩
 refine c_f h10 rfl ?_
 refine c_skip (c_sr ?_)
 refine o_of (e := [(26, .t (.hpt (cd 5 i5) 0))]) (g0 rfl) (h_mv mR (.inl rfl) ((cpO_pt rfl).trans (pt_eq_some h4)) rfl rfl) rfl ?_
 refine o_of (e := [(27, .t (.hpt (cd 5 i5) 0))]) (g0 rfl) (h_nc mR rfl rfl rfl rfl rfl) rfl ?_
 refine o_of (e := [(28, .t (.hpt (cd 5 i5) 0))]) (g0 rfl) (h_fd mR rfl rfl rfl rfl rfl rfl) rfl ?_
 refine o_of (e := [(29, .t ((ptT 3 x6.l_)))]) (g0 rfl) (h_ld mR rfl rfl rfl rfl (gl_tx h7) rfl (norH_pt _ _) rfl rfl) rfl ?_
 refine o_1 (.i p1) rfl ?_
 obtain ⟨x13, h14, h⟩ := bind_some h
 refine o_of (e := [(31, .tup [.y x13.1, .i x13.2])]) (g0 rfl) (h_callR mR rfl (σ := []) (fr := []) rfl rfl rfl rfl rfl rfl rfl (fch_wal_Log_Read _ _ w0 _ h14) (pure_hpA _) rfl rfl rfl rfl (.cons (argPt rfl) (.cons (.plain .r rfl) .nil)) rfl (.tup (.cons (.flat rfl) (.cons (.flat rfl) .nil)))) rfl ?_
 refine o_m4 (.y x13.1) (.i x13.2) (.y x13.1) (.i x13.2) rfl ?_
 refine o_nil (c_ret ?_)
 obtain rfl := Option.some.inj h
 exact ⟨⟨_, rfl, (.tup (.cons .r (.cons .r .nil)))⟩, trivial, rfl⟩
theorem fch_wal_Txn_Write (p0 : (Option Nat)) (p1 : Int) (p2 : (List UInt8)) (w0 : Hp) (r : (Int × Hp)) (h : m_wal_Txn_Write p0 p1 p2 w0 = some r) : FCH Try.prog 77 [.t ((ptT 5 p0)), .t (.d (.lit (.int .i64 p1))), .t (.d (.seq 1 (bytesD p2)))] [] [] (hpA w0) (hpA r.2) (.t (.d (.lit (.int .i64 r.1)))) := by
 refine fch_mk (rs := [.tmp 6]) (n := 36) [] Try.func77 rfl rfl (Nat.le_of_ble_eq_true rfl) rfl (pins := []) rfl (L := [(HK, .hp (hpA w0)), (0, .t ((ptT 5 p0))), (1, .i p1), (2, .y p2)]) rfl ?_
 refine c_sr ?_
 refine o_1 (.i 0) rfl ?_
 refine o_nil (c_seq (c_sr ?_))
 refine o_of (e := [(8, .t ((ptT 5 p0)))]) (g0 rfl) (h_mv mR (.inl rfl) (cpO_pt rfl) rfl rfl) rfl ?_
 obtain ⟨x1, h2, h⟩ := bind_some h
 refine o_of (e := [(9, .i x1)]) (g0 rfl) (h_callR mR rfl (σ := []) (fr := []) rfl rfl rfl rfl rfl rfl rfl (fch_wal_Txn_alive _ w0 _ h2) (pure_hpA _) rfl rfl rfl rfl (.cons (argPt rfl) .nil) rfl (.t (.flat rfl))) rfl ?_
 refine o_1 (.i x1) rfl ?_
 refine o_nil (c_sr ?_)
 refine o_m2 (.i x1) (.b (x1 != 0)) rfl ?_
 refine o_nil ?_
 rcases bif_some h with ⟨h3, h⟩ | ⟨h3, h⟩
 ·
  refine c_t h3 rfl ?_
  refine c_sr ?_
  refine o_m2 (.i x1) (.i x1) rfl ?_
  refine o_nil (c_ret ?_)
  obtain rfl := Option.some.inj h
  exact ⟨⟨_, rfl, .r⟩, trivial, rfl⟩
 refine c_f h3 rfl ?_
 refine c_skip (c_seq (c_block (c_sr ?_)))
 refine o_m3 (.i p1) (.b (decide (p1 < 0))) (.b (decide (p1 < 0))) rfl ?_
 rcases bif_some h with ⟨h4, h⟩ | ⟨h4, h⟩
 ·
  refine o_skip rfl rfl rfl h4 rfl rfl ?_
  refine o_skip rfl rfl rfl h4 rfl rfl ?_
  refine o_skip rfl rfl rfl h4 rfl rfl ?_
  refine o_skip rfl rfl rfl h4 rfl rfl ?_
  refine o_skip rfl rfl rfl h4 rfl rfl ?_
  refine o_skip rfl rfl rfl h4 rfl rfl ?_
  refine o_skip rfl rfl rfl h4 rfl rfl ?_
  refine o_pk (.b true) (b := true) h4 (g0 rfl) rfl rfl rfl rfl rfl ?_
  refine o_1 (.b true) rfl ?_
  refine o_nil ?_
  refine c_t rfl rfl ?_
  refine c_sr ?_
  refine o_1 (.i 31) rfl ?_
  refine o_nil (c_ret ?_)
  obtain rfl := Option.some.inj h
  exact ⟨⟨_, rfl, .r⟩, trivial, rfl⟩
 refine o_s (.i p1) (gy rfl rfl rfl h4) rfl rfl rfl ?_
 refine o_of (e := [(18, .t ((ptT 5 p0)))]) (gy rfl rfl rfl h4) (h_mv mR (.inl rfl) (cpO_pt rfl) rfl rfl) rfl ?_
 rcases ptM_some h with ⟨h5, h⟩ | ⟨i6, h5, h⟩
 ·
  exact none_ne h
 refine o_of (e := [(19, .t (.hpt (cd 5 i6) 0))]) (gy rfl rfl rfl h4) (h_nc mR rfl (cpO_pt rfl) (ptT_some h5) rfl rfl) rfl ?_
 refine o_of (e := [(20, .t (.hpt (cd 5 i6) 0))]) (gy rfl rfl rfl h4) (h_fd mR rfl rfl rfl rfl rfl rfl) rfl ?_
 obtain ⟨x7, h8, h⟩ := bind_some h
 refine o_of (e := [(21, .t ((ptT 3 x7.l_)))]) (gy rfl rfl rfl h4) (h_ld mR rfl rfl rfl rfl (gl_tx h8) rfl (norH_pt _ _) rfl rfl) rfl ?_
 obtain ⟨x9, h10, h⟩ := bind_some h
 refine o_of (e := [(22, .i x9)]) (gy rfl rfl rfl h4) (h_callR mR rfl (σ := []) (fr := []) rfl rfl rfl rfl rfl rfl rfl (fch_wal_Log_Homes _ w0 _ h10) (pure_hpA _) rfl rfl rfl rfl (.cons (argPt rfl) .nil) rfl (.t (.flat rfl))) rfl ?_
 refine o_s (.b (decide (p1 ≥ x9))) (gy rfl rfl rfl h4) rfl rfl rfl ?_
 refine o_pk (.b (decide (p1 ≥ x9))) (b := false) h4 (g0 rfl) rfl rfl rfl rfl rfl ?_
 refine o_1 (.b (decide (p1 ≥ x9))) rfl ?_
 refine o_nil ?_
 rcases bif_some h with ⟨h11, h⟩ | ⟨h11, h⟩
 ·
  refine c_t h11 rfl ?_
  refine c_sr ?_
  refine o_1 (.i 31) rfl ?_
  refine o_nil (c_ret ?_)
  obtain rfl := Option.some.inj h
  exact ⟨⟨_, rfl, .r⟩, trivial, rfl⟩
 refine c_f h11 rfl ?_
 refine c_sr ?_
 refine o_1 (.y p2) rfl ?_
 refine o_c (g0 rfl) rfl rfl rfl (lenE _ _) trivial ?_
 refine o_m2 (.b ((p2.length : Int) != 64)) (.b ((p2.length : Int) != 64)) rfl ?_
 refine o_nil ?_
 rcases bif_some h with ⟨h12, h⟩ | ⟨h12, h⟩
 ·
  refine c_t h12 rfl ?_
  refine c_sr ?_
  refine o_1 (.i 2) rfl ?_
  refine o_nil (c_ret ?_)
  obtain rfl := Option.some.inj h
  exact ⟨⟨_, rfl, .r⟩, trivial, rfl⟩
 refine c_f h12 rfl ?_
 refine c_skip (c_seq ?_)
 refine c_draw mixed (by kernel_rfl) ?_
 refine d_h0 [] (e := [(29, .t (.hpt (cd 5 i6) 0))]) (ks := [29]) rfl (dg0 rfl) rfl rfl (fun S' hM hok => h_mv hM (.inl rfl) ((cpO_pt rfl).trans (pt_eq_some h5)) rfl (hok _ rfl rfl)) rfl ?_
 refine d_h0 [] (e := [(30, .t (.hpt (cd 5 i6) 0))]) (ks := [30]) rfl (dg0 rfl) rfl rfl (fun S' hM hok => h_nc hM rfl rfl rfl rfl (hok _ rfl rfl)) rfl ?_
 refine d_h0 [] (e := [(31, .t (.hpt (cd 5 i6) 3))]) (ks := [31]) rfl (dg0 rfl) rfl rfl (fun S' hM hok => h_fd hM rfl rfl rfl rfl rfl (hok _ rfl rfl)) rfl ?_
 refine d_h (e := [(32, .t (.mpt (OB + cd 6 x7.now_)))]) (ks := [32]) rfl (dg0 rfl) rfl rfl (fun S' hM hk hok => h_ld hM hk rfl rfl rfl (gl_tx h8) rfl rfl rfl (hok _ rfl rfl)) rfl ?_
 refine d_s (.i p1) rfl (dg0 rfl) rfl rfl rfl rfl ?_
 refine d_s (.y p2) rfl (dg0 rfl) rfl rfl rfl rfl ?_
 obtain ⟨x13, h14, h⟩ := bind_some h
 refine d_ca (fc_slices_Clone_byte _ _ h14) rfl (dg0 rfl) rfl rfl rfl rfl rfl rfl rfl rfl (.cons .r .nil) rfl rfl ?_
 obtain ⟨x15, h16, h⟩ := bind_some h
 refine d_h (e := [(HK, .hp (hpA (w0.st_mp x7.now_ (mset x15 p1 x13))))]) (ks := [HK]) rfl (dg0 rfl) rfl rfl (fun S' hM hk hok => h_mupH (kv := (fun z : Int => Value.int .i64 z)) (cv := (fun l : List UInt8 => D.y l)) hM hk rfl rfl (gl_mp h16) rfl rfl rfl (keyInt (by kernel_rfl)) rfl (su_mp (x' := (mset x15 p1 x13)) h16)) rfl ?_
 refine d_nil (by kernel_rfl) ?_
 refine c_sr ?_
 refine o_1 (.i 0) rfl ?_
 refine o_nil (c_ret ?_)
 obtain rfl := Option.some.inj h
 exact ⟨⟨_, rfl, .r⟩, trivial, rfl⟩
end Go.Proofs.Ytjomnccladjpgaa

/-
  slices.Clone over bytes: what comes back is the caller's own.
-/
namespace Go.Proofs.Ytjomnccladjpgaa
open Go Go.RowKit
set_option linter.unusedVariables false
set_option maxHeartbeats 4000000
set_option maxRecDepth 20000
theorem fc_slices_Clone_byte_o (p0 : List UInt8) (r : List UInt8) (h : m_slices_Clone_byte p0 = some r) : FC Try.prog 84 [.t (.d (.seq 1 (bytesD p0)))] [] (.t (.own 5 1 (List.map cU8 r))) := by
  refine fc_mk (rs := [.tmp 2]) (n := 8) Try.func84 rfl rfl (Nat.le_of_ble_eq_true rfl) rfl (pins := []) rfl (L := [(0, .t (.d (.seq 1 (bytesD p0))))]) rfl ?_
  have hr : r = p0 := by
    have := (appI_iff h).2
    simpa using this
  refine c_seq ?_
  refine c_region ?_
  refine o_s (.t (.d (.lit (.slice none 0 0)))) (g0 rfl) rfl rfl rfl ?_
  refine o_nil ?_
  refine then_normal ?_
  refine c_seq ?_
  refine c_seq ?_
  refine c_nil (l1 := [_]) (k := 1) (l := bytesD p0) rfl rfl rfl rfl ?_
  refine o_s (.t (.d (.seq 1 (bytesD p0)))) (g0 rfl) rfl rfl rfl ?_
  refine o_nil ⟨rfl, rfl, fun b hb => ?_⟩
  refine then_normal ?_
  refine c_cond rfl (fun hc => ?_) (fun hc => ?_)
  · have hb := hb hc
    have hp : p0 = [] := by unfold bytesD at hb; simpa using hb
    refine c_seq ?_
    refine c_region ?_
    refine o_s (.t (.d (.lit (.slice none 0 0)))) (g0 rfl) rfl rfl rfl ?_
    refine o_nil ?_
    refine then_normal ?_
    refine c_ret ?_
    repeat (refine then_ret ?_)
    subst hr hp
    exact end0 rfl (.t (.nilOwn _ _))
  · refine c_skip ?_
    refine then_normal ?_
    refine c_seq ?_
    refine c_region ?_
    refine o_b0 (.t (.own 5 1 (List.map cU8 []))) (g0 rfl) rfl rfl rfl rfl rfl ?_
    refine o_s (.t (.d (.seq 1 (bytesD p0)))) (g0 rfl) rfl rfl rfl ?_
    refine o_2c (g0 rfl) rfl rfl rfl (appE (c := cU8) h) (appC (c := cU8) h) ?_
    refine o_2 (.t (.d (.seq 1 (bytesD r)))) (.t (.own 5 1 (bytesD r))) (g0 rfl) rfl rfl rfl ?_
    refine o_nil ?_
    refine then_normal ?_
    refine c_ret ?_
    exact end0 rfl (.refl _)
end Go.Proofs.Ytjomnccladjpgaa

/-
  A scope with one label, to which the run jumps back.
-/
namespace Go.Proofs.Ytjomnccladjpgaa
open Go Go.RowKit
set_option linter.unusedVariables false

/-- As Q; by a goto to label l: K. -/
def gotoQ (l : Nat) (K : SL → Prop) (Q : Exit → SL → Prop) : Exit → SL → Prop
  | .goto l', L => l' = l ∧ K L
  | e, L => Q e L
section
variable {P : Program} {pins : List Nat} {N : Nat} {Q : Exit → SL → Prop} {L : SL} {K : SL → Prop} {l : Nat}
theorem gq_goto (h : K L) : gotoQ l K Q (.goto l) L := ⟨rfl, h⟩
theorem c_goto (h : Q (.goto l) L) : CodeOK P pins N (.goto l) Q L := fun w0 m0 o0 G a w hS => wp_goto ⟨L, h, hS⟩
/-- The rest of the scope, from the label on, does what Q tells. -/
def ScopeOK (P : Program) (pins : List Nat) (N : Nat) (c r : Code) (Q : Exit → SL → Prop) (L : SL) : Prop :=
  ∀ (w0 : World) (m0 : Mem) (o0 : OwnM) (G : Nat → Prop) (a : Act) (w : World), St w0 m0 o0 G pins N L a w → ∀ (b : Frame) (k : List Item) (cs : List Frame),
    ∃ e a' w', (∃ L', Q e L' ∧ St w0 m0 o0 G pins N L' a' w') ∧ Arrives P (lone (b.at a (.code r :: .inScope c :: k)) cs w) b k cs e a' w'
theorem scope_of {c r : Code} (hf : findLabel c l = some r) (h : CodeOK P pins N r (gotoQ l (ScopeOK P pins N c r Q) Q) L) : ScopeOK P pins N c r Q L := by
  intro w0 m0 o0 G a w hS b k cs
  have hg : gotoIn l (.inScope c :: k) = some (.code r :: .inScope c :: k) := by simp [gotoIn, hf]
  obtain ⟨e, a₁, w₁, ⟨L₁, hq, hS₁⟩, harr⟩ := h w0 m0 o0 G a w hS b (.inScope c :: k) cs
  cases e with
  | normal => exact ⟨.normal, a₁, w₁, ⟨L₁, hq, hS₁⟩, Steps.trans harr (.one step_inScope)⟩
  | exit id => exact ⟨.exit id, a₁, w₁, ⟨L₁, hq, hS₁⟩, fun k' hk => harr k' (by simp [exitTo, hk])⟩
  | goto l' =>
    obtain ⟨rfl, hJ⟩ := hq
    obtain ⟨e₂, a₂, w₂, hq₂, harr₂⟩ := hJ w0 m0 o0 G a₁ w₁ hS₁ b k cs
    exact ⟨e₂, a₂, w₂, hq₂, .of_steps (harr _ hg) harr₂⟩
  | ret => exact ⟨_, a₁, w₁, ⟨L₁, hq, hS₁⟩, harr⟩
  | panic ch => exact ⟨_, a₁, w₁, ⟨L₁, hq, hS₁⟩, harr⟩
  | outgrown => exact ⟨_, a₁, w₁, ⟨L₁, hq, hS₁⟩, harr⟩
theorem c_scope {c : Code} (l : Nat) (r : Code) (hf : findLabel c l = some r) (h : CodeOK P pins N c (gotoQ l (ScopeOK P pins N c r Q) Q) L) : CodeOK P pins N (.scope c) Q L := by
  intro w0 m0 o0 G a w hS b k cs
  have hg : gotoIn l (.inScope c :: k) = some (.code r :: .inScope c :: k) := by simp [gotoIn, hf]
  obtain ⟨e, a₁, w₁, ⟨L₁, hq, hS₁⟩, harr⟩ := h w0 m0 o0 G a w hS b (.inScope c :: k) cs
  cases e with
  | normal => exact ⟨.normal, a₁, w₁, ⟨L₁, hq, hS₁⟩, .head step_scope (Steps.trans harr (.one step_inScope))⟩
  | exit id => exact ⟨.exit id, a₁, w₁, ⟨L₁, hq, hS₁⟩, fun k' hk => .head step_scope (harr k' (by simp [exitTo, hk]))⟩
  | goto l' =>
    obtain ⟨rfl, hJ⟩ := hq
    obtain ⟨e₂, a₂, w₂, hq₂, harr₂⟩ := hJ w0 m0 o0 G a₁ w₁ hS₁ b k cs
    exact ⟨e₂, a₂, w₂, hq₂, .of_steps (.head step_scope (harr _ hg)) harr₂⟩
  | ret => exact ⟨_, a₁, w₁, ⟨L₁, hq, hS₁⟩, .of_steps (.one step_scope) harr⟩
  | panic ch => exact ⟨_, a₁, w₁, ⟨L₁, hq, hS₁⟩, .of_steps (.one step_scope) harr⟩
  | outgrown => exact ⟨_, a₁, w₁, ⟨L₁, hq, hS₁⟩, .of_steps (.one step_scope) harr⟩
theorem codeOK_mono {c : Code} {Q' : Exit → SL → Prop} (h : CodeOK P pins N c Q L) (hq : ∀ e L', Q e L' → Q' e L') : CodeOK P pins N c Q' L :=
  fun w0 m0 o0 G a w hS => wp_mono (h w0 m0 o0 G a w hS) fun e a' w' ⟨L', h1, h2⟩ => ⟨L', hq e L' h1, h2⟩
/-- The label: the rest of the scope, as its model goes round. -/
theorem c_lab {X : Type} {c b : Code} (F : X → SL) (M : Nat → X → Prop) (n0 : Nat) (x0 : X) (js0 : List Nat) (hf : findLabel c l = some (.seq .skip b)) (h0 : M n0 x0) (hb : fgtB pins js0 L = true) (hh : heapP L) (hw : WkS (fgtL js0 L) (F x0)) (hr : noRefs (F x0) = true)
    (round : ∀ n x, M n x → CodeOK P pins N b (gotoQ l (fun L' => ∃ n' x' js, n' < n ∧ M n' x' ∧ fgtB pins js L' = true ∧ heapP L' ∧ WkS (fgtL js L') (F x') ∧ noRefs (F x') = true) Q) (F x)) :
    CodeOK P pins N (.seq (.label l) b) (gotoQ l (ScopeOK P pins N c (.seq .skip b) Q) Q) L := by
  have key : ∀ n x, M n x → CodeOK P pins N b (gotoQ l (ScopeOK P pins N c (.seq .skip b) Q) Q) (F x) := by
    intro n
    induction n using Nat.strongRecOn with
    | _ n ih =>
      intro x hx
      refine codeOK_mono (round n x hx) fun e L' hq => ?_
      cases e with
      | goto l' =>
        obtain ⟨rfl, n', x', js, hlt, hM, q1, q2, q3, q4⟩ := hq
        refine ⟨rfl, fun w0 m0 o0 G a w hS => ?_⟩
        have hc : CodeOK P pins N (.seq .skip b) (gotoQ l' (ScopeOK P pins N c (.seq .skip b) Q) Q) (F x') := c_seq (c_skip (ih n' hlt x' hM))
        exact scope_of hf hc w0 m0 o0 G a w (St.weaken (hS.fgt _ _ q1 q2) q3 q4)
      | _ => exact hq
  intro w0 m0 o0 G a w hS
  exact c_seq (Q := gotoQ l (ScopeOK P pins N c (.seq .skip b) Q) Q) (fun w0 m0 o0 G a w hS => wp_label ⟨F x0, key n0 x0 h0, hS⟩) w0 m0 o0 G a w (St.weaken (hS.fgt _ _ hb hh) hw hr)
end
end Go.Proofs.Ytjomnccladjpgaa
