/-
  Texts joined: see the remark at the head of each part.
-/
import Derived.Test.YtjomnccladjpgaaC13
import Derived.Test.YtjomnccladjpgaaC11
import Derived.Test.YtjomnccladjpgaaC10
import Derived.Test.YtjomnccladjpgaaC12
import Derived.Test.YtjomnccladjpgaaC15
import Derived.ScopeJumps
import Derived.Test.YtjomnccladjpgaaC07
set_option linter.unusedVariables false
set_option linter.unusedSimpArgs false
/-
  Walks of functions: each function does what its model tells. Printed by a program of this claim's own (gen.py) off the given translation.
-/
namespace Go.Proofs.Ytjomnccladjpgaa
open Go Go.RowKit
set_option linter.unusedVariables false
set_option maxHeartbeats 4000000
set_option maxRecDepth 20000
end Go.Proofs.Ytjomnccladjpgaa

/-
  Walks of functions: each function does what its model tells. Printed by a program of this claim's own (gen.py) off the given translation.
-/
namespace Go.Proofs.Ytjomnccladjpgaa
open Go Go.RowKit
set_option linter.unusedVariables false
set_option maxHeartbeats 4000000
set_option maxRecDepth 20000
theorem fch_wal_Log_Begin (p0 : (Option Nat)) (w0 : Hp) (r : ((Option Nat) × Int × Hp)) (h : m_wal_Log_Begin p0 w0 = some r) : FCH Try.prog 76 [.t ((ptT 3 p0))] [] [] (hpA w0) (hpA r.2.2) (.tup [(ptT 5 r.1), .d (.lit (.int .i64 r.2.1))]) := by
 refine fch_mk (rs := [.tmp 2, .tmp 3]) (n := 18) [0] Try.func76 rfl rfl (Nat.le_of_ble_eq_true rfl) rfl (pins := []) rfl (L := [(HK, .hp (hpA w0)), (OB + 0, .free), (0, .t ((ptT 3 p0)))]) rfl ?_
 refine c_sr ?_
 refine o_of (e := [(2, .t (.d (.lit (.pointer none))))]) (g0 rfl) (h_mv mR (.inr rfl) rfl rfl rfl) rfl ?_
 refine o_1 (.i 0) rfl ?_
 refine o_nil (c_seq (c_sr ?_))
 refine o_of (e := [(5, .t ((ptT 3 p0)))]) (g0 rfl) (h_mv mR (.inl rfl) (cpO_pt rfl) rfl rfl) rfl ?_
 obtain ⟨x1, h2, h⟩ := bind_some h
 refine o_of (e := [(6, .i x1)]) (g0 rfl) (h_callR mR rfl (σ := []) (fr := []) rfl rfl rfl rfl rfl rfl rfl (fch_wal_Log_alive _ w0 _ h2) (pure_hpA _) rfl rfl rfl rfl (.cons (argPt rfl) .nil) rfl (.t (.flat rfl))) rfl ?_
 refine o_1 (.i x1) rfl ?_
 refine o_nil (c_sr ?_)
 refine o_m2 (.i x1) (.b (x1 != 0)) rfl ?_
 refine o_nil ?_
 rcases bif_some h with ⟨h3, h⟩ | ⟨h3, h⟩
 ·
  refine c_t h3 rfl ?_
  refine c_sr ?_
  refine o_1 (.i x1) rfl ?_
  refine o_of (e := [(2, .t (.d (.lit (.pointer none))))]) (g0 rfl) (h_mv mR (.inr rfl) rfl rfl rfl) rfl ?_
  refine o_1 (.i x1) rfl ?_
  refine o_nil (c_ret ?_)
  obtain rfl := Option.some.inj h
  exact ⟨⟨_, rfl, (.tup (.cons .r (.cons .r .nil)))⟩, trivial, rfl⟩
 refine c_f h3 rfl ?_
 refine c_skip (c_sr ?_)
 rcases ptM_some h with ⟨h4, h⟩ | ⟨i5, h4, h⟩
 ·
  refine o_of (e := [(10, .t (.d (.lit (.pointer none))))]) (g0 rfl) (h_mv mR (.inl rfl) ((cpO_pt rfl).trans (pt_eq_none h4)) rfl rfl) rfl ?_
  refine o_of (e := [(11, .t (.d (.lit (.pointer none))))]) (g0 rfl) (h_mv mR (.inl rfl) ((cpO_pt rfl).trans (pt_eq_none h4)) rfl rfl) rfl ?_
  exact none_ne h
 refine o_of (e := [(10, .t (.hpt (cd 3 i5) 0))]) (g0 rfl) (h_mv mR (.inl rfl) ((cpO_pt rfl).trans (pt_eq_some h4)) rfl rfl) rfl ?_
 refine o_of (e := [(11, .t (.hpt (cd 3 i5) 0))]) (g0 rfl) (h_mv mR (.inl rfl) ((cpO_pt rfl).trans (pt_eq_some h4)) rfl rfl) rfl ?_
 refine o_of (e := [(12, .t (.hpt (cd 3 i5) 0))]) (g0 rfl) (h_nc mR rfl rfl rfl rfl rfl) rfl ?_
 refine o_of (e := [(13, .t (.hpt (cd 3 i5) 6))]) (g0 rfl) (h_fd mR rfl rfl rfl rfl rfl rfl) rfl ?_
 obtain ⟨x6, h7, h⟩ := bind_some h
 refine o_of (e := [(14, .i x6.commits_)]) (g0 rfl) (h_ld mR rfl rfl rfl rfl (gl_lg h7) rfl rfl rfl rfl) rfl ?_
 refine o_of (e := [(HK, .hp (hpA (w0.nw_mp ([] : (List (Int × (List UInt8))))))), (15, .t (.mpt (OB + cd 6 w0.ln_mp)))]) (g0 rfl) (h_mkmH rfl rfl rfl rfl (fr_mp _) (nw_mp _ _)) rfl ?_
 refine o_of (e := [(16, .ag [.hpt (cd 3 i5) 0, .i x6.commits_, .b false, .mpt (OB + cd 6 w0.ln_mp)])]) (g0 rfl) (h_bd mR rfl rfl rfl rfl) rfl ?_
 refine o_of (e := [(HK, .hp (hpA ((w0.nw_mp ([] : (List (Int × (List UInt8))))).nw_tx (S_wal_Txn.mk (some i5) x6.commits_ false w0.ln_mp)))), (17, .t (.hpt (cd 5 ((w0.nw_mp ([] : (List (Int × (List UInt8))))).ln_tx)) 0))]) (g0 rfl) (h_box mR rfl rfl rfl rfl rfl (fr_tx _) (nw_tx _ (S_wal_Txn.mk (some i5) x6.commits_ false w0.ln_mp))) rfl ?_
 refine o_of (e := [(2, .t (.hpt (cd 5 ((w0.nw_mp ([] : (List (Int × (List UInt8))))).ln_tx)) 0))]) (g0 rfl) (h_mv mR (.inr rfl) rfl rfl rfl) rfl ?_
 refine o_1 (.i 0) rfl ?_
 refine o_nil (c_ret ?_)
 obtain rfl := Option.some.inj h
 exact ⟨⟨_, rfl, (.tup (.cons .r (.cons .r .nil)))⟩, trivial, rfl⟩
theorem fch_wal_Txn_alive (p0 : (Option Nat)) (w0 : Hp) (r : Int) (h : m_wal_Txn_alive p0 w0 = some r) : FCH Try.prog 83 [.t ((ptT 5 p0))] [] [] (hpA w0) (hpA w0) (.t (.d (.lit (.int .i64 r)))) := by
 refine fch_mk (rs := [.tmp 2]) (n := 39) [] Try.func83 rfl rfl (Nat.le_of_ble_eq_true rfl) rfl (pins := []) rfl (L := [(HK, .hp (hpA w0)), (0, .t ((ptT 5 p0)))]) rfl ?_
 refine c_sr ?_
 refine o_1 (.i 0) rfl ?_
 refine o_nil (c_seq (c_sr ?_))
 refine o_of (e := [(4, .t ((ptT 5 p0)))]) (g0 rfl) (h_mv mR (.inl rfl) (cpO_pt rfl) rfl rfl) rfl ?_
 rcases ptM_some h with ⟨h1, h⟩ | ⟨i2, h1, h⟩
 ·
  refine o_of (e := [(5, .b true)]) (g0 rfl) (h_pn mR (ng := false) rfl rfl rfl (pn_none rfl h1) rfl rfl) rfl ?_
  refine o_1 (.b true) rfl ?_
  refine o_skip rfl rfl rfl rfl rfl rfl ?_
  refine o_skip rfl rfl rfl rfl rfl rfl ?_
  refine o_skip rfl rfl rfl rfl rfl rfl ?_
  refine o_skip rfl rfl rfl rfl rfl rfl ?_
  refine o_skip rfl rfl rfl rfl rfl rfl ?_
  refine o_pk (.b true) (b := true) rfl (g0 rfl) rfl rfl rfl rfl rfl ?_
  refine o_nil ?_
  refine c_t rfl rfl ?_
  refine c_sr ?_
  refine o_1 (.i 1) rfl ?_
  refine o_nil (c_ret ?_)
  obtain rfl := Option.some.inj h
  exact ⟨⟨_, rfl, .r⟩, trivial, rfl⟩
 refine o_of (e := [(5, .b false)]) (g0 rfl) (h_pn mR (ng := false) rfl rfl rfl (pn_some rfl h1) rfl rfl) rfl ?_
 refine o_1 (.b false) rfl ?_
 refine o_of (e := [(7, .t (.hpt (cd 5 i2) 0))]) (gy rfl rfl rfl rfl) (h_mv mR (.inl rfl) ((cpO_pt rfl).trans (pt_eq_some h1)) rfl rfl) rfl ?_
 refine o_of (e := [(8, .t (.hpt (cd 5 i2) 0))]) (gy rfl rfl rfl rfl) (h_nc mR rfl rfl rfl rfl rfl) rfl ?_
 refine o_of (e := [(9, .t (.hpt (cd 5 i2) 3))]) (gy rfl rfl rfl rfl) (h_fd mR rfl rfl rfl rfl rfl rfl) rfl ?_
 obtain ⟨x3, h4, h⟩ := bind_some h
 refine o_of (e := [(10, .t (.mpt (OB + cd 6 x3.now_)))]) (gy rfl rfl rfl rfl) (h_ld mR rfl rfl rfl rfl (gl_tx h4) rfl rfl rfl rfl) rfl ?_
 refine o_of (e := [(11, .b false)]) (gy rfl rfl rfl rfl) (h_mn (ng := false) mR rfl rfl rfl rfl rfl rfl) rfl ?_
 refine o_pk (.b false) (b := false) rfl (g0 rfl) rfl rfl rfl rfl rfl ?_
 refine o_nil ?_
 refine c_f rfl rfl ?_
 refine c_skip (c_seq (c_sr ?_))
 refine o_of (e := [(13, .t (.hpt (cd 5 i2) 0))]) (g0 rfl) (h_mv mR (.inl rfl) ((cpO_pt rfl).trans (pt_eq_some h1)) rfl rfl) rfl ?_
 refine o_of (e := [(14, .t (.hpt (cd 5 i2) 0))]) (g0 rfl) (h_nc mR rfl rfl rfl rfl rfl) rfl ?_
 refine o_of (e := [(15, .t (.hpt (cd 5 i2) 0))]) (g0 rfl) (h_fd mR rfl rfl rfl rfl rfl rfl) rfl ?_
 refine o_of (e := [(16, .t ((ptT 3 x3.l_)))]) (g0 rfl) (h_ld mR rfl rfl rfl rfl (gl_tx h4) rfl (norH_pt _ _) rfl rfl) rfl ?_
 obtain ⟨x5, h6, h⟩ := bind_some h
 refine o_of (e := [(17, .i x5)]) (g0 rfl) (h_callR mR rfl (σ := []) (fr := []) rfl rfl rfl rfl rfl rfl rfl (fch_wal_Log_alive _ w0 _ h6) (pure_hpA _) rfl rfl rfl rfl (.cons (argPt rfl) .nil) rfl (.t (.flat rfl))) rfl ?_
 refine o_1 (.i x5) rfl ?_
 refine o_nil (c_sr ?_)
 refine o_m2 (.i x5) (.b (x5 != 0)) rfl ?_
 refine o_nil ?_
 rcases bif_some h with ⟨h7, h⟩ | ⟨h7, h⟩
 ·
  refine c_t h7 rfl ?_
  refine c_sr ?_
  refine o_m2 (.i x5) (.i x5) rfl ?_
  refine o_nil (c_ret ?_)
  obtain rfl := Option.some.inj h
  exact ⟨⟨_, rfl, .r⟩, trivial, rfl⟩
 refine c_f h7 rfl ?_
 refine c_skip (c_seq (c_seq ?_))
 refine c_draw mixed (by kernel_rfl) ?_
 refine d_h0 [] (e := [(21, .t (.hpt (cd 5 i2) 0))]) (ks := [21]) rfl (dg0 rfl) rfl rfl (fun S' hM hok => h_mv hM (.inl rfl) ((cpO_pt rfl).trans (pt_eq_some h1)) rfl (hok _ rfl rfl)) rfl ?_
 refine d_h0 [] (e := [(22, .t (.hpt (cd 5 i2) 0))]) (ks := [22]) rfl (dg0 rfl) rfl rfl (fun S' hM hok => h_nc hM rfl rfl rfl rfl (hok _ rfl rfl)) rfl ?_
 refine d_h0 [] (e := [(23, .t (.hpt (cd 5 i2) 2))]) (ks := [23]) rfl (dg0 rfl) rfl rfl (fun S' hM hok => h_fd hM rfl rfl rfl rfl rfl (hok _ rfl rfl)) rfl ?_
 refine d_h (e := [(24, .b x3.over_)]) (ks := [24]) rfl (dg0 rfl) rfl rfl (fun S' hM hk hok => h_ld hM hk rfl rfl rfl (gl_tx h4) rfl rfl rfl (hok _ rfl rfl)) rfl ?_
 refine d_s (.b x3.over_) rfl (dg0 rfl) rfl rfl rfl rfl ?_
 rcases bif_some h with ⟨h8, h⟩ | ⟨h8, h⟩
 ·
  refine d_skip rfl rfl rfl rfl rfl h8 rfl rfl rfl ?_
  refine d_skip rfl rfl rfl rfl rfl h8 rfl rfl rfl ?_
  refine d_skip rfl rfl rfl rfl rfl h8 rfl rfl rfl ?_
  refine d_skip rfl rfl rfl rfl rfl h8 rfl rfl rfl ?_
  refine d_skip rfl rfl rfl rfl rfl h8 rfl rfl rfl ?_
  refine d_skip rfl rfl rfl rfl rfl h8 rfl rfl rfl ?_
  refine d_skip rfl rfl rfl rfl rfl h8 rfl rfl rfl ?_
  refine d_skip rfl rfl rfl rfl rfl h8 rfl rfl rfl ?_
  refine d_skip rfl rfl rfl rfl rfl h8 rfl rfl rfl ?_
  refine d_skip rfl rfl rfl rfl rfl h8 rfl rfl rfl ?_
  refine d_skip rfl rfl rfl rfl rfl h8 rfl rfl rfl ?_
  refine d_skip rfl rfl rfl rfl rfl h8 rfl rfl rfl ?_
  refine d_pk (.b true) (b := true) h8 rfl (dg0 rfl) rfl rfl rfl rfl rfl rfl ?_
  refine d_nil (by kernel_rfl) ?_
  refine c_t rfl rfl ?_
  refine c_sr ?_
  refine o_1 (.i 34) rfl ?_
  refine o_nil (c_ret ?_)
  obtain rfl := Option.some.inj h
  exact ⟨⟨_, rfl, .r⟩, trivial, rfl⟩
 refine d_h0 [] (e := [(26, .t (.hpt (cd 5 i2) 0))]) (ks := [26]) rfl (dgy rfl rfl rfl rfl h8) rfl rfl (fun S' hM hok => h_mv hM (.inl rfl) ((cpO_pt rfl).trans (pt_eq_some h1)) rfl (hok _ rfl rfl)) rfl ?_
 refine d_h0 [] (e := [(27, .t (.hpt (cd 5 i2) 0))]) (ks := [27]) rfl (dgy rfl rfl rfl rfl h8) rfl rfl (fun S' hM hok => h_nc hM rfl rfl rfl rfl (hok _ rfl rfl)) rfl ?_
 refine d_h0 [] (e := [(28, .t (.hpt (cd 5 i2) 1))]) (ks := [28]) rfl (dgy rfl rfl rfl rfl h8) rfl rfl (fun S' hM hok => h_fd hM rfl rfl rfl rfl rfl (hok _ rfl rfl)) rfl ?_
 refine d_h (e := [(29, .i x3.at_)]) (ks := [29]) rfl (dgy rfl rfl rfl rfl h8) rfl rfl (fun S' hM hk hok => h_ld hM hk rfl rfl rfl (gl_tx h4) rfl rfl rfl (hok _ rfl rfl)) rfl ?_
 refine d_h0 [] (e := [(30, .t (.hpt (cd 5 i2) 0))]) (ks := [30]) rfl (dgy rfl rfl rfl rfl h8) rfl rfl (fun S' hM hok => h_mv hM (.inl rfl) ((cpO_pt rfl).trans (pt_eq_some h1)) rfl (hok _ rfl rfl)) rfl ?_
 refine d_h0 [] (e := [(31, .t (.hpt (cd 5 i2) 0))]) (ks := [31]) rfl (dgy rfl rfl rfl rfl h8) rfl rfl (fun S' hM hok => h_nc hM rfl rfl rfl rfl (hok _ rfl rfl)) rfl ?_
 refine d_h0 [] (e := [(32, .t (.hpt (cd 5 i2) 0))]) (ks := [32]) rfl (dgy rfl rfl rfl rfl h8) rfl rfl (fun S' hM hok => h_fd hM rfl rfl rfl rfl rfl (hok _ rfl rfl)) rfl ?_
 refine d_h (e := [(33, .t ((ptT 3 x3.l_)))]) (ks := [33]) rfl (dgy rfl rfl rfl rfl h8) rfl rfl (fun S' hM hk hok => h_ld hM hk rfl rfl rfl (gl_tx h4) rfl (norH_pt _ _) rfl (hok _ rfl rfl)) rfl ?_
 rcases ptM_some h with ⟨h9, h⟩ | ⟨i10, h9, h⟩
 ·
  exact none_ne h
 refine d_h0 [] (e := [(34, .t (.hpt (cd 3 i10) 0))]) (ks := [34]) rfl (dgy rfl rfl rfl rfl h8) rfl rfl (fun S' hM hok => h_nc hM rfl (cpO_pt rfl) (ptT_some h9) rfl (hok _ rfl rfl)) rfl ?_
 refine d_h0 [] (e := [(35, .t (.hpt (cd 3 i10) 6))]) (ks := [35]) rfl (dgy rfl rfl rfl rfl h8) rfl rfl (fun S' hM hok => h_fd hM rfl rfl rfl rfl rfl (hok _ rfl rfl)) rfl ?_
 obtain ⟨x11, h12, h⟩ := bind_some h
 refine d_h (e := [(36, .i x11.commits_)]) (ks := [36]) rfl (dgy rfl rfl rfl rfl h8) rfl rfl (fun S' hM hk hok => h_ld hM hk rfl rfl rfl (gl_lg h12) rfl rfl rfl (hok _ rfl rfl)) rfl ?_
 refine d_s (.b (x3.at_ != x11.commits_)) rfl (dgy rfl rfl rfl rfl h8) rfl rfl rfl rfl ?_
 refine d_pk (.b (x3.at_ != x11.commits_)) (b := false) h8 rfl (dg0 rfl) rfl rfl rfl rfl rfl rfl ?_
 refine d_nil (by kernel_rfl) ?_
 rcases bif_some h with ⟨h13, h⟩ | ⟨h13, h⟩
 ·
  refine c_t h13 rfl ?_
  refine c_sr ?_
  refine o_1 (.i 34) rfl ?_
  refine o_nil (c_ret ?_)
  obtain rfl := Option.some.inj h
  exact ⟨⟨_, rfl, .r⟩, trivial, rfl⟩
 refine c_f h13 rfl ?_
 refine c_skip (c_sr ?_)
 refine o_1 (.i 0) rfl ?_
 refine o_nil (c_ret ?_)
 obtain rfl := Option.some.inj h
 exact ⟨⟨_, rfl, .r⟩, trivial, rfl⟩
theorem fch_wal_Txn_Read (p0 : (Option Nat)) (p1 : Int) (w0 : Hp) (r : ((List UInt8) × Int)) (h : m_wal_Txn_Read p0 p1 w0 = some r) : FCH Try.prog 31 [.t ((ptT 5 p0)), .t (.d (.lit (.int .i64 p1)))] [] [] (hpA w0) (hpA w0) (.tup [.d (.seq 1 (bytesD r.1)), .d (.lit (.int .i64 r.2))]) := by
 refine fch_mk (rs := [.tmp 4, .tmp 5]) (n := 34) [] Try.func31 rfl rfl (Nat.le_of_ble_eq_true rfl) rfl (pins := []) rfl (L := [(HK, .hp (hpA w0)), (0, .t ((ptT 5 p0))), (1, .i p1)]) rfl ?_
 refine c_sr ?_
 refine o_m2 (.n) (.i 0) rfl ?_
 refine o_nil (c_seq (c_sr ?_))
 refine o_of (e := [(9, .t ((ptT 5 p0)))]) (g0 rfl) (h_mv mR (.inl rfl) (cpO_pt rfl) rfl rfl) rfl ?_
 obtain ⟨x1, h2, h⟩ := bind_some h
 refine o_of (e := [(10, .i x1)]) (g0 rfl) (h_callR mR rfl (σ := []) (fr := []) rfl rfl rfl rfl rfl rfl rfl (fch_wal_Txn_alive _ w0 _ h2) (pure_hpA _) rfl rfl rfl rfl (.cons (argPt rfl) .nil) rfl (.t (.flat rfl))) rfl ?_
 refine o_1 (.i x1) rfl ?_
 refine o_nil (c_sr ?_)
 refine o_m2 (.i x1) (.b (x1 != 0)) rfl ?_
 refine o_nil ?_
 rcases bif_some h with ⟨h3, h⟩ | ⟨h3, h⟩
 ·
  refine c_t h3 rfl ?_
  refine c_sr ?_
  refine o_m3 (.i x1) (.n) (.i x1) rfl ?_
  refine o_nil (c_ret ?_)
  obtain rfl := Option.some.inj h
  exact ⟨⟨_, rfl, (.tup (.cons (.d (.nil _)) (.cons .r .nil)))⟩, trivial, rfl⟩
 refine c_f h3 rfl ?_
 refine c_skip (c_seq (c_sr ?_))
 refine o_of (e := [(15, .t ((ptT 5 p0)))]) (g0 rfl) (h_mv mR (.inl rfl) (cpO_pt rfl) rfl rfl) rfl ?_
 rcases ptM_some h with ⟨h4, h⟩ | ⟨i5, h4, h⟩
 ·
  exact none_ne h
 refine o_of (e := [(16, .t (.hpt (cd 5 i5) 0))]) (g0 rfl) (h_nc mR rfl (cpO_pt rfl) (ptT_some h4) rfl rfl) rfl ?_
 refine o_of (e := [(17, .t (.hpt (cd 5 i5) 3))]) (g0 rfl) (h_fd mR rfl rfl rfl rfl rfl rfl) rfl ?_
 obtain ⟨x6, h7, h⟩ := bind_some h
 refine o_of (e := [(18, .t (.mpt (OB + cd 6 x6.now_)))]) (g0 rfl) (h_ld mR rfl rfl rfl rfl (gl_tx h7) rfl rfl rfl rfl) rfl ?_
 refine o_1 (.i p1) rfl ?_
 obtain ⟨x8, h9, h⟩ := bind_some h
 refine o_of (e := [(20, .tup [.y ((mfind x8 p1).getD ([] : (List UInt8))), .b ((mfind x8 p1).isSome)])]) (g0 rfl) (h_mlk2H (kv := (fun z : Int => Value.int .i64 z)) (cv := (fun l : List UInt8 => D.y l)) mR rfl rfl rfl (gl_mp h9) rfl rfl (keyInt (by kernel_rfl)) rfl rfl (fun _ => RepD.nilSeq _ _) rfl rfl) rfl ?_
 refine o_m5 (.tup [.y ((mfind x8 p1).getD ([] : (List UInt8))), .b ((mfind x8 p1).isSome)]) (.y ((mfind x8 p1).getD ([] : (List UInt8)))) (.b ((mfind x8 p1).isSome)) (.y ((mfind x8 p1).getD ([] : (List UInt8)))) (.b ((mfind x8 p1).isSome)) rfl ?_
 refine o_nil (c_sr ?_)
 refine o_1 (.b ((mfind x8 p1).isSome)) rfl ?_
 refine o_nil ?_
 rcases bif_some h with ⟨h10, h⟩ | ⟨h10, h⟩
 ·
  refine c_t h10 rfl ?_
  refine c_sr ?_
  refine o_1 (.y ((mfind x8 p1).getD ([] : (List UInt8)))) rfl ?_
  obtain ⟨x11, h12, h⟩ := bind_some h
  refine o_ca (fc_slices_Clone_byte _ _ h12) (g0 rfl) rfl rfl rfl rfl rfl rfl rfl (.cons .r .nil) rfl rfl ?_
  refine o_m2 (.y x11) (.i 0) rfl ?_
  refine o_nil (c_ret ?_)
  obtain rfl := Option.some.inj h
  exact ⟨⟨_, rfl, (.tup (.cons .r (.cons .r .nil)))⟩, trivial, rfl⟩
 refine c_f h10 rfl ?_
 refine c_skip (c_sr ?_)
 refine o_of (e := [(26, .t (.hpt (cd 5 i5) 0))]) (g0 rfl) (h_mv mR (.inl rfl) ((cpO_pt rfl).trans (pt_eq_some h4)) rfl rfl) rfl ?_
 refine o_of (e := [(27, .t (.hpt (cd 5 i5) 0))]) (g0 rfl) (h_nc mR rfl rfl rfl rfl rfl) rfl ?_
 refine o_of (e := [(28, .t (.hpt (cd 5 i5) 0))]) (g0 rfl) (h_fd mR rfl rfl rfl rfl rfl rfl) rfl ?_
 refine o_of (e := [(29, .t ((ptT 3 x6.l_)))]) (g0 rfl) (h_ld mR rfl rfl rfl rfl (gl_tx h7) rfl (norH_pt _ _) rfl rfl) rfl ?_
 refine o_1 (.i p1) rfl ?_
 obtain ⟨x13, h14, h⟩ := bind_some h
 refine o_of (e := [(31, .tup [.y x13.1, .i x13.2])]) (g0 rfl) (h_callR mR rfl (σ := []) (fr := []) rfl rfl rfl rfl rfl rfl rfl (fch_wal_Log_Read _ _ w0 _ h14) (pure_hpA _) rfl rfl rfl rfl (.cons (argPt rfl) (.cons (.plain .r rfl) .nil)) rfl (.tup (.cons (.flat rfl) (.cons (.flat rfl) .nil)))) rfl ?_
 refine o_m4 (.y x13.1) (.i x13.2) (.y x13.1) (.i x13.2) rfl ?_
 refine o_nil (c_ret ?_)
 obtain rfl := Option.some.inj h
 exact ⟨⟨_, rfl, (.tup (.cons .r (.cons .r .nil)))⟩, trivial, rfl⟩
theorem fch_wal_Txn_Write (p0 : (Option Nat)) (p1 : Int) (p2 : (List UInt8)) (w0 : Hp) (r : (Int × Hp)) (h : m_wal_Txn_Write p0 p1 p2 w0 = some r) : FCH Try.prog 77 [.t ((ptT 5 p0)), .t (.d (.lit (.int .i64 p1))), .t (.d (.seq 1 (bytesD p2)))] [] [] (hpA w0) (hpA r.2) (.t (.d (.lit (.int .i64 r.1)))) := by
 refine fch_mk (rs := [.tmp 6]) (n := 36) [] Try.func77 rfl rfl (Nat.le_of_ble_eq_true rfl) rfl (pins := []) rfl (L := [(HK, .hp (hpA w0)), (0, .t ((ptT 5 p0))), (1, .i p1), (2, .y p2)]) rfl ?_
 refine c_sr ?_
 refine o_1 (.i 0) rfl ?_
 refine o_nil (c_seq (c_sr ?_))
 refine o_of (e := [(8, .t ((ptT 5 p0)))]) (g0 rfl) (h_mv mR (.inl rfl) (cpO_pt rfl) rfl rfl) rfl ?_
 obtain ⟨x1, h2, h⟩ := bind_some h
 refine o_of (e := [(9, .i x1)]) (g0 rfl) (h_callR mR rfl (σ := []) (fr := []) rfl rfl rfl rfl rfl rfl rfl (fch_wal_Txn_alive _ w0 _ h2) (pure_hpA _) rfl rfl rfl rfl (.cons (argPt rfl) .nil) rfl (.t (.flat rfl))) rfl ?_
 refine o_1 (.i x1) rfl ?_
 refine o_nil (c_sr ?_)
 refine o_m2 (.i x1) (.b (x1 != 0)) rfl ?_
 refine o_nil ?_
 rcases bif_some h with ⟨h3, h⟩ | ⟨h3, h⟩
 ·
  refine c_t h3 rfl ?_
  refine c_sr ?_
  refine o_m2 (.i x1) (.i x1) rfl ?_
  refine o_nil (c_ret ?_)
  obtain rfl := Option.some.inj h
  exact ⟨⟨_, rfl, .r⟩, trivial, rfl⟩
 refine c_f h3 rfl ?_
 refine c_skip (c_seq (c_block (c_sr ?_)))
 refine o_m3 (.i p1) (.b (decide (p1 < 0))) (.b (decide (p1 < 0))) rfl ?_
 rcases bif_some h with ⟨h4, h⟩ | ⟨h4, h⟩
 ·
  refine o_skip rfl rfl rfl h4 rfl rfl ?_
  refine o_skip rfl rfl rfl h4 rfl rfl ?_
  refine o_skip rfl rfl rfl h4 rfl rfl ?_
  refine o_skip rfl rfl rfl h4 rfl rfl ?_
  refine o_skip rfl rfl rfl h4 rfl rfl ?_
  refine o_skip rfl rfl rfl h4 rfl rfl ?_
  refine o_skip rfl rfl rfl h4 rfl rfl ?_
  refine o_pk (.b true) (b := true) h4 (g0 rfl) rfl rfl rfl rfl rfl ?_
  refine o_1 (.b true) rfl ?_
  refine o_nil ?_
  refine c_t rfl rfl ?_
  refine c_sr ?_
  refine o_1 (.i 31) rfl ?_
  refine o_nil (c_ret ?_)
  obtain rfl := Option.some.inj h
  exact ⟨⟨_, rfl, .r⟩, trivial, rfl⟩
 refine o_s (.i p1) (gy rfl rfl rfl h4) rfl rfl rfl ?_
 refine o_of (e := [(18, .t ((ptT 5 p0)))]) (gy rfl rfl rfl h4) (h_mv mR (.inl rfl) (cpO_pt rfl) rfl rfl) rfl ?_
 rcases ptM_some h with ⟨h5, h⟩ | ⟨i6, h5, h⟩
 ·
  exact none_ne h
 refine o_of (e := [(19, .t (.hpt (cd 5 i6) 0))]) (gy rfl rfl rfl h4) (h_nc mR rfl (cpO_pt rfl) (ptT_some h5) rfl rfl) rfl ?_
 refine o_of (e := [(20, .t (.hpt (cd 5 i6) 0))]) (gy rfl rfl rfl h4) (h_fd mR rfl rfl rfl rfl rfl rfl) rfl ?_
 obtain ⟨x7, h8, h⟩ := bind_some h
 refine o_of (e := [(21, .t ((ptT 3 x7.l_)))]) (gy rfl rfl rfl h4) (h_ld mR rfl rfl rfl rfl (gl_tx h8) rfl (norH_pt _ _) rfl rfl) rfl ?_
 obtain ⟨x9, h10, h⟩ := bind_some h
 refine o_of (e := [(22, .i x9)]) (gy rfl rfl rfl h4) (h_callR mR rfl (σ := []) (fr := []) rfl rfl rfl rfl rfl rfl rfl (fch_wal_Log_Homes _ w0 _ h10) (pure_hpA _) rfl rfl rfl rfl (.cons (argPt rfl) .nil) rfl (.t (.flat rfl))) rfl ?_
 refine o_s (.b (decide (p1 ≥ x9))) (gy rfl rfl rfl h4) rfl rfl rfl ?_
 refine o_pk (.b (decide (p1 ≥ x9))) (b := false) h4 (g0 rfl) rfl rfl rfl rfl rfl ?_
 refine o_1 (.b (decide (p1 ≥ x9))) rfl ?_
 refine o_nil ?_
 rcases bif_some h with ⟨h11, h⟩ | ⟨h11, h⟩
 ·
  refine c_t h11 rfl ?_
  refine c_sr ?_
  refine o_1 (.i 31) rfl ?_
  refine o_nil (c_ret ?_)
  obtain rfl := Option.some.inj h
  exact ⟨⟨_, rfl, .r⟩, trivial, rfl⟩
 refine c_f h11 rfl ?_
 refine c_sr ?_
 refine o_1 (.y p2) rfl ?_
 refine o_c (g0 rfl) rfl rfl rfl (lenE _ _) trivial ?_
 refine o_m2 (.b ((p2.length : Int) != 64)) (.b ((p2.length : Int) != 64)) rfl ?_
 refine o_nil ?_
 rcases bif_some h with ⟨h12, h⟩ | ⟨h12, h⟩
 ·
  refine c_t h12 rfl ?_
  refine c_sr ?_
  refine o_1 (.i 2) rfl ?_
  refine o_nil (c_ret ?_)
  obtain rfl := Option.some.inj h
  exact ⟨⟨_, rfl, .r⟩, trivial, rfl⟩
 refine c_f h12 rfl ?_
 refine c_skip (c_seq ?_)
 refine c_draw mixed (by kernel_rfl) ?_
 refine d_h0 [] (e := [(29, .t (.hpt (cd 5 i6) 0))]) (ks := [29]) rfl (dg0 rfl) rfl rfl (fun S' hM hok => h_mv hM (.inl rfl) ((cpO_pt rfl).trans (pt_eq_some h5)) rfl (hok _ rfl rfl)) rfl ?_
 refine d_h0 [] (e := [(30, .t (.hpt (cd 5 i6) 0))]) (ks := [30]) rfl (dg0 rfl) rfl rfl (fun S' hM hok => h_nc hM rfl rfl rfl rfl (hok _ rfl rfl)) rfl ?_
 refine d_h0 [] (e := [(31, .t (.hpt (cd 5 i6) 3))]) (ks := [31]) rfl (dg0 rfl) rfl rfl (fun S' hM hok => h_fd hM rfl rfl rfl rfl rfl (hok _ rfl rfl)) rfl ?_
 refine d_h (e := [(32, .t (.mpt (OB + cd 6 x7.now_)))]) (ks := [32]) rfl (dg0 rfl) rfl rfl (fun S' hM hk hok => h_ld hM hk rfl rfl rfl (gl_tx h8) rfl rfl rfl (hok _ rfl rfl)) rfl ?_
 refine d_s (.i p1) rfl (dg0 rfl) rfl rfl rfl rfl ?_
 refine d_s (.y p2) rfl (dg0 rfl) rfl rfl rfl rfl ?_
 obtain ⟨x13, h14, h⟩ := bind_some h
 refine d_ca (fc_slices_Clone_byte _ _ h14) rfl (dg0 rfl) rfl rfl rfl rfl rfl rfl rfl rfl (.cons .r .nil) rfl rfl ?_
 obtain ⟨x15, h16, h⟩ := bind_some h
 refine d_h (e := [(HK, .hp (hpA (w0.st_mp x7.now_ (mset x15 p1 x13))))]) (ks := [HK]) rfl (dg0 rfl) rfl rfl (fun S' hM hk hok => h_mupH (kv := (fun z : Int => Value.int .i64 z)) (cv := (fun l : List UInt8 => D.y l)) hM hk rfl rfl (gl_mp h16) rfl rfl rfl (keyInt (by kernel_rfl)) rfl (su_mp (x' := (mset x15 p1 x13)) h16)) rfl ?_
 refine d_nil (by kernel_rfl) ?_
 refine c_sr ?_
 refine o_1 (.i 0) rfl ?_
 refine o_nil (c_ret ?_)
 obtain rfl := Option.some.inj h
 exact ⟨⟨_, rfl, .r⟩, trivial, rfl⟩
end Go.Proofs.Ytjomnccladjpgaa

/-
  slices.Clone over bytes: what comes back is the caller's own.
-/
namespace Go.Proofs.Ytjomnccladjpgaa
open Go Go.RowKit
set_option linter.unusedVariables false
set_option maxHeartbeats 4000000
set_option maxRecDepth 20000
end Go.Proofs.Ytjomnccladjpgaa

/-
  A scope with one label, to which the run jumps back.
-/
namespace Go.Proofs.Ytjomnccladjpgaa
open Go Go.RowKit
set_option linter.unusedVariables false

end Go.Proofs.Ytjomnccladjpgaa

/-
  Walks of functions: each function does what its model tells. Printed by a program of this claim's own (gen.py) off the given translation.
-/
namespace Go.Proofs.Ytjomnccladjpgaa
open Go Go.RowKit
set_option linter.unusedVariables false
set_option maxHeartbeats 4000000
set_option maxRecDepth 20000
end Go.Proofs.Ytjomnccladjpgaa

/-
  Walks of functions: each function does what its model tells. Printed by a program of this claim's own (gen.py) off the given translation.
-/
namespace Go.Proofs.Ytjomnccladjpgaa
open Go Go.RowKit
set_option linter.unusedVariables false
set_option maxHeartbeats 4000000
set_option maxRecDepth 20000
theorem fch_L20_Begun (p0 : (List (List UInt8))) (w0 : Hp) (r : ((Option Nat) × Hp)) (h : m_L20_Begun p0 w0 = some r) : FCH Try.prog 25 [.t (.d (.seq 1 (List.map (cSl 1 cU8) p0)))] [] [] (hpA w0) (hpA r.2) (.t ((ptT 5 r.1))) := by
 refine fch_mk (rs := [.tmp 2]) (n := 40) [] Try.func25 rfl rfl (Nat.le_of_ble_eq_true rfl) rfl (pins := []) rfl (L := [(HK, .hp (hpA w0)), (0, .t (.d (.seq 1 (List.map (cSl 1 cU8) p0))))]) rfl ?_
 refine c_sr ?_
 refine o_of (e := [(2, .t (.d (.lit (.pointer none))))]) (g0 rfl) (h_mv mR (.inr rfl) rfl rfl rfl) rfl ?_
 refine o_nil (c_sr ?_)
 obtain ⟨x1, h2, h⟩ := bind_some h
 refine o_of (e := [(HK, .hp (hpA x1.2.2)), (12, .tup [(ptT 1 x1.1), .i x1.2.1])]) (g0 rfl) (h_call mR rfl (σ := []) (fr := []) rfl rfl rfl rfl rfl rfl rfl (fch_disk_New _ w0 _ h2) (pure_hpA _) (pure_hpA _) rfl rfl rfl rfl (.cons (.plain .r rfl) .nil) rfl (.tup (.cons (ptT_pt _ _) (.cons (.flat rfl) .nil)))) rfl ?_
 refine o_c (g0 rfl) rfl rfl rfl (congrArg A.tup (cp_cons (ptT_cp _ _) (cp_cons rfl cp_nil))) trivial ?_
 refine o_c (g0 rfl) rfl rfl rfl (congrArg A.t (ptT_cp _ _)) trivial ?_
 refine o_1 (.i x1.2.1) rfl ?_
 refine o_of (e := [(3, .t ((ptT 1 x1.1)))]) (g0 rfl) (h_mv mR (.inr rfl) (cpO_pt rfl) rfl rfl) rfl ?_
 refine o_1 (.i x1.2.1) rfl ?_
 refine o_nil (c_sr ?_)
 refine o_of (e := [(15, .t ((ptT 1 x1.1)))]) (g0 rfl) (h_mv mR (.inl rfl) (cpO_pt rfl) rfl rfl) rfl ?_
 obtain ⟨x3, h4, h⟩ := bind_some h
 refine o_of (e := [(HK, .hp (hpA x3.2)), (16, .i x3.1)]) (g0 rfl) (h_call mR rfl (σ := []) (fr := []) rfl rfl rfl rfl rfl rfl rfl (fch_wal_Format _ _ x1.2.2 _ h4) (pure_hpA _) (pure_hpA _) rfl rfl rfl rfl (.cons (argPt rfl) (.cons (.plain .r rfl) .nil)) rfl (.t (.flat rfl))) rfl ?_
 refine o_nil (c_sr ?_)
 refine o_of (e := [(18, .t ((ptT 1 x1.1)))]) (g0 rfl) (h_mv mR (.inl rfl) (cpO_pt rfl) rfl rfl) rfl ?_
 obtain ⟨x5, h6, h⟩ := bind_some h
 refine o_of (e := [(HK, .hp (hpA x5.2.2)), (19, .tup [(ptT 3 x5.1), .i x5.2.1])]) (g0 rfl) (h_call mR rfl (σ := []) (fr := []) rfl rfl rfl rfl rfl rfl rfl (fch_wal_Open _ x3.2 _ h6) (pure_hpA _) (pure_hpA _) rfl rfl rfl rfl (.cons (argPt rfl) .nil) rfl (.tup (.cons (ptT_pt _ _) (.cons (.flat rfl) .nil)))) rfl ?_
 refine o_c (g0 rfl) rfl rfl rfl (congrArg A.tup (cp_cons (ptT_cp _ _) (cp_cons rfl cp_nil))) trivial ?_
 refine o_c (g0 rfl) rfl rfl rfl (congrArg A.t (ptT_cp _ _)) trivial ?_
 refine o_1 (.i x5.2.1) rfl ?_
 refine o_of (e := [(5, .t ((ptT 3 x5.1)))]) (g0 rfl) (h_mv mR (.inr rfl) (cpO_pt rfl) rfl rfl) rfl ?_
 refine o_1 (.i x5.2.1) rfl ?_
 refine o_nil (c_sr ?_)
 refine o_of (e := [(23, .t ((ptT 3 x5.1)))]) (g0 rfl) (h_mv mR (.inl rfl) (cpO_pt rfl) rfl rfl) rfl ?_
 obtain ⟨x7, h8, h⟩ := bind_some h
 refine o_of (e := [(HK, .hp (hpA x7.2.2)), (24, .tup [(ptT 5 x7.1), .i x7.2.1])]) (g0 rfl) (h_call mR rfl (σ := []) (fr := []) rfl rfl rfl rfl rfl rfl rfl (fch_wal_Log_Begin _ x5.2.2 _ h8) (pure_hpA _) (pure_hpA _) rfl rfl rfl rfl (.cons (argPt rfl) .nil) rfl (.tup (.cons (ptT_pt _ _) (.cons (.flat rfl) .nil)))) rfl ?_
 refine o_c (g0 rfl) rfl rfl rfl (congrArg A.tup (cp_cons (ptT_cp _ _) (cp_cons rfl cp_nil))) trivial ?_
 refine o_c (g0 rfl) rfl rfl rfl (congrArg A.t (ptT_cp _ _)) trivial ?_
 refine o_1 (.i x7.2.1) rfl ?_
 refine o_of (e := [(7, .t ((ptT 5 x7.1)))]) (g0 rfl) (h_mv mR (.inr rfl) (cpO_pt rfl) rfl rfl) rfl ?_
 refine o_1 (.i x7.2.1) rfl ?_
 refine o_nil (c_seq (c_sr ?_))
 refine o_1 (.t (.d (.seq 1 (List.map (cSl 1 cU8) p0)))) rfl ?_
 refine o_c (g0 rfl) rfl rfl rfl (lenE _ _) trivial ?_
 refine o_1 (.i 0) rfl ?_
 refine o_nil (c_block ?_)
 refine c_fuelH (fun (q : Int × Hp) => [(7, .t ((ptT 5 x7.1))), (27, .t (.d (.seq 1 (List.map (cSl 1 cU8) p0)))), (28, .i (p0.length : Int)), (29, .i q.1), (HK, .hp (hpA q.2))]) (fun nl1 => (fun (q : Int × Hp) => m_L20_Begun_l1 p0 x7 nl1 q.1 q.2 = some r)) (p0.length + 1) (0, x7.2.2) [] h rfl ⟨.inr ⟨_, rfl, pure_hpA _⟩, by (repeat (first | exact ObP.nil | refine ObP.cons (.inl rfl) ?_ | refine ObP.cons (.inr (fun _ => rfl)) ?_ | refine ObP.cons (.inr (ob_box (fl_noPt _ _))) ?_ | refine ObP.cons (.inr (ob_gb _ _)) ?_))⟩ ⟨.r, .r, .r, .r, .r, trivial⟩ rfl ?_
 rintro nl1 ⟨z9, z10⟩ h
 cases nl1 with
 | zero => exact none_ne h
 | succ nl1 =>
  refine c_sr ?_
  refine o_1 (.b (decide (z9 < (p0.length : Int)))) rfl ?_
  refine o_nil (c_seq ?_)
  rcases bif_some h with ⟨h11, h⟩ | ⟨h11, h⟩
  ·
   refine c_t h11 rfl ?_
   refine c_skip (c_seq (c_block (c_sr ?_)))
   refine o_1 (.i z9) rfl ?_
   obtain ⟨x12, h13, h⟩ := bind_some h
   refine o_c (g0 rfl) rfl rfl rfl (idxE h13) (idxC h13) ?_
   refine o_m3 (.y x12) (.i z9) (.y x12) rfl ?_
   refine o_nil (c_region ?_)
   refine o_of (e := [(34, .t ((ptT 5 x7.1)))]) (g0 rfl) (h_mv mR (.inl rfl) (cpO_pt rfl) rfl rfl) rfl ?_
   refine o_m2 (.i z9) (.y x12) rfl ?_
   obtain ⟨x14, h15, h⟩ := bind_some h
   refine o_of (e := [(HK, .hp (hpA x14.2)), (37, .i x14.1)]) (g0 rfl) (h_call mR rfl (σ := []) (fr := []) rfl rfl rfl rfl rfl rfl rfl (fch_wal_Txn_Write _ _ _ z10 _ h15) (pure_hpA _) (pure_hpA _) rfl rfl rfl rfl (.cons (argPt rfl) (.cons (.plain .r rfl) (.cons (.plain .r rfl) .nil))) rfl (.t (.flat rfl))) rfl ?_
   refine o_nil (c_region ?_)
   refine o_m2 (.i (wi (z9 + 1))) (.i (wi (z9 + 1))) rfl ?_
   refine o_nil ?_
   exact ⟨nl1, ((wi (z9 + 1)), x14.2), [], Nat.lt_succ_self nl1, h, rfl, ⟨.inr ⟨_, rfl, pure_hpA _⟩, by (repeat (first | exact ObP.nil | refine ObP.cons (.inl rfl) ?_ | refine ObP.cons (.inr (fun _ => rfl)) ?_ | refine ObP.cons (.inr (ob_box (fl_noPt _ _))) ?_ | refine ObP.cons (.inr (ob_gb _ _)) ?_))⟩, ⟨.r, .r, .r, .r, .r, trivial⟩, rfl⟩
  refine c_f h11 rfl ?_
  refine c_exit (c_sr ?_)
  refine o_of (e := [(39, .t ((ptT 5 x7.1)))]) (g0 rfl) (h_mv mR (.inl rfl) (cpO_pt rfl) rfl rfl) rfl ?_
  refine o_of (e := [(2, .t ((ptT 5 x7.1)))]) (g0 rfl) (h_mv mR (.inr rfl) (cpO_pt rfl) rfl rfl) rfl ?_
  refine o_nil (c_ret ?_)
  obtain rfl := Option.some.inj h
  exact ⟨⟨_, rfl, .r⟩, trivial, rfl⟩
theorem fc_R01_Same (p0 : (List UInt8)) (p1 : (List UInt8)) (r : Bool) (h : m_R01_Same p0 p1 = some r) : FC Try.prog 32 [.t (.d (.seq 1 (bytesD p0))), .t (.d (.seq 1 (bytesD p1)))] [] (.t (.d (.lit (.bool r)))) := by
 refine fc_mk (rs := [.tmp 4]) (n := 26) Try.func32 rfl rfl (Nat.le_of_ble_eq_true rfl) rfl (pins := []) rfl (L := [(0, .y p0), (1, .y p1)]) rfl ?_
 refine c_sr ?_
 refine o_1 (.b false) rfl ?_
 refine o_nil (c_seq (c_sr ?_))
 refine o_1 (.y p0) rfl ?_
 refine o_c (g0 rfl) rfl rfl rfl (lenE _ _) trivial ?_
 refine o_1 (.y p1) rfl ?_
 refine o_c (g0 rfl) rfl rfl rfl (lenE _ _) trivial ?_
 refine o_1 (.b ((p0.length : Int) != (p1.length : Int))) rfl ?_
 refine o_nil ?_
 rcases bif_some h with ⟨h1, h⟩ | ⟨h1, h⟩
 ·
  refine c_t h1 rfl ?_
  refine c_sr ?_
  refine o_1 (.b false) rfl ?_
  refine o_nil (c_ret ?_)
  obtain rfl := Option.some.inj h
  exact end0 rfl .r
 refine c_f h1 rfl ?_
 refine c_skip (c_seq (c_sr ?_))
 refine o_1 (.i 0) rfl ?_
 refine o_nil (c_block ?_)
 refine c_fuel (fun (z2 : Int) => [(0, .y p0), (1, .y p1), (5, .i z2)]) (fun nl1 => (fun (z2 : Int) => m_R01_Same_l1 p0 p1 nl1 z2 = some r)) (p0.length + 1) 0 h ⟨.r, .r, .r, trivial⟩ rfl ?_
 rintro nl1 z2 h
 cases nl1 with
 | zero => exact none_ne h
 | succ nl1 =>
  refine c_seq (c_sr ?_)
  refine o_m2 (.i z2) (.y p0) rfl ?_
  refine o_c (g0 rfl) rfl rfl rfl (lenE _ _) trivial ?_
  refine o_1 (.b (decide (z2 < (p0.length : Int)))) rfl ?_
  refine o_nil ?_
  rcases bif_some h with ⟨h3, h⟩ | ⟨h3, h⟩
  ·
   refine c_t h3 rfl ?_
   refine c_skip (c_seq (c_block (c_seq ?_)))
   refine c_draw mixed (by kernel_rfl) ?_
   refine d_s (.y p0) rfl (dg0 rfl) rfl rfl rfl rfl ?_
   refine d_s (.i z2) rfl (dg0 rfl) rfl rfl rfl rfl ?_
   obtain ⟨x4, h5, h⟩ := bind_some h
   refine d_c rfl (dg0 rfl) rfl rfl rfl rfl (idxE h5) (idxC h5) ?_
   refine d_s (.t (.d (.lit (.int .u8 (x4.toNat : Int))))) rfl (dg0 rfl) rfl rfl rfl rfl ?_
   refine d_s (.y p1) rfl (dg0 rfl) rfl rfl rfl rfl ?_
   refine d_s (.i z2) rfl (dg0 rfl) rfl rfl rfl rfl ?_
   obtain ⟨x6, h7, h⟩ := bind_some h
   refine d_c rfl (dg0 rfl) rfl rfl rfl rfl (idxE h7) (idxC h7) ?_
   refine d_s (.t (.d (.lit (.int .u8 (x6.toNat : Int))))) rfl (dg0 rfl) rfl rfl rfl rfl ?_
   refine d_s (.b ((x4.toNat : Int) != (x6.toNat : Int))) rfl (dg0 rfl) rfl rfl rfl rfl ?_
   refine d_nil (by kernel_rfl) ?_
   rcases bif_some h with ⟨h8, h⟩ | ⟨h8, h⟩
   ·
    refine c_t h8 rfl ?_
    refine c_sr ?_
    refine o_1 (.b false) rfl ?_
    refine o_nil (c_ret ?_)
    obtain rfl := Option.some.inj h
    exact end0 rfl .r
   refine c_f h8 rfl ?_
   refine c_skip (c_region ?_)
   refine o_m3 (.i z2) (.i (wi (z2 + 1))) (.i (wi (z2 + 1))) rfl ?_
   refine o_nil ?_
   exact ⟨nl1, (wi (z2 + 1)), Nat.lt_succ_self nl1, h, ⟨.r, .r, .r, trivial⟩, rfl⟩
  refine c_f h3 rfl ?_
  refine c_exit (c_sr ?_)
  refine o_1 (.b true) rfl ?_
  refine o_nil (c_ret ?_)
  obtain rfl := Option.some.inj h
  exact end0 rfl .r
end Go.Proofs.Ytjomnccladjpgaa

/-
  Walks of functions: each function does what its model tells. Printed by a program of this claim's own (gen.py) off the given translation.
-/
namespace Go.Proofs.Ytjomnccladjpgaa
open Go Go.RowKit
set_option linter.unusedVariables false
set_option maxHeartbeats 4000000
set_option maxRecDepth 20000
end Go.Proofs.Ytjomnccladjpgaa
