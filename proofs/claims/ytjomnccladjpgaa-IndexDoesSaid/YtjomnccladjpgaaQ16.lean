/-
  Walks of functions: each function does what its model tells. Printed by a program of this claim's own (gen.py) off the given translation.
-/
import Derived.Test.YtjomnccladjpgaaQ11
import Derived.Test.YtjomnccladjpgaaQ15
import Derived.Test.YtjomnccladjpgaaQ12
import Derived.Test.YtjomnccladjpgaaQ09
import Derived.Test.YtjomnccladjpgaaQ08
import Derived.Test.YtjomnccladjpgaaQ10
set_option linter.unusedVariables false
set_option linter.unusedSimpArgs false
namespace Go.Proofs.Ytjomnccladjpgaa
open Go Go.RowKit
set_option linter.unusedVariables false
set_option maxHeartbeats 4000000
set_option maxRecDepth 20000
theorem fch_index_At (p0 : (Option Nat)) (p1 : Int) (w0 : Hp) (r : ((Option Nat) × Hp)) (h : m_index_At p0 p1 w0 = some r) : FCH Try.prog 43 [.t ((ptT 5 p0)), .t (.d (.lit (.int .i64 p1)))] [] [] (hpA w0) (hpA r.2) (.t ((ptT 7 r.1))) := by
 refine fch_mk (rs := [.tmp 4]) (n := 9) [] Try.func43 rfl rfl (Nat.le_of_ble_eq_true rfl) rfl (pins := []) rfl (L := [(HK, .hp (hpA w0)), (0, .t ((ptT 5 p0))), (1, .i p1)]) rfl ?_
 refine c_sr ?_
 refine o_of (e := [(4, .t (.d (.lit (.pointer none))))]) (g0 rfl) (h_mv mR (.inr rfl) rfl rfl rfl) rfl ?_
 refine o_nil (c_sr ?_)
 rcases ptM_some h with ⟨h1, h⟩ | ⟨i2, h1, h⟩
 ·
  refine o_of (e := [(5, .t (.d (.lit (.pointer none))))]) (g0 rfl) (h_mv mR (.inl rfl) ((cpO_pt rfl).trans (pt_eq_none h1)) rfl rfl) rfl ?_
  refine o_1 (.i p1) rfl ?_
  refine o_of (e := [(7, .ag [.d (.lit (.pointer none)), .i p1])]) (g0 rfl) (h_bd mR rfl rfl rfl rfl) rfl ?_
  refine o_of (e := [(HK, .hp (hpA (w0.nw_ix (S_index_Index.mk none p1)))), (8, .t (.hpt (cd 7 w0.ln_ix) 0))]) (g0 rfl) (h_box mR rfl rfl rfl rfl rfl (fr_ix _) (nw_ix _ (S_index_Index.mk none p1))) rfl ?_
  refine o_of (e := [(4, .t (.hpt (cd 7 w0.ln_ix) 0))]) (g0 rfl) (h_mv mR (.inr rfl) rfl rfl rfl) rfl ?_
  refine o_nil (c_ret ?_)
  obtain rfl := Option.some.inj h
  exact ⟨⟨_, rfl, .r⟩, trivial, rfl⟩
 refine o_of (e := [(5, .t (.hpt (cd 5 i2) 0))]) (g0 rfl) (h_mv mR (.inl rfl) ((cpO_pt rfl).trans (pt_eq_some h1)) rfl rfl) rfl ?_
 refine o_1 (.i p1) rfl ?_
 refine o_of (e := [(7, .ag [.hpt (cd 5 i2) 0, .i p1])]) (g0 rfl) (h_bd mR rfl rfl rfl rfl) rfl ?_
 refine o_of (e := [(HK, .hp (hpA (w0.nw_ix (S_index_Index.mk (some i2) p1)))), (8, .t (.hpt (cd 7 w0.ln_ix) 0))]) (g0 rfl) (h_box mR rfl rfl rfl rfl rfl (fr_ix _) (nw_ix _ (S_index_Index.mk (some i2) p1))) rfl ?_
 refine o_of (e := [(4, .t (.hpt (cd 7 w0.ln_ix) 0))]) (g0 rfl) (h_mv mR (.inr rfl) rfl rfl rfl) rfl ?_
 refine o_nil (c_ret ?_)
 obtain rfl := Option.some.inj h
 exact ⟨⟨_, rfl, .r⟩, trivial, rfl⟩
theorem fc_index_Bucket (p0 : (List UInt8)) (r : (Int × Bool)) (h : m_index_Bucket p0 = some r) : FC Try.prog 87 [.t (.d (.lit (.string ⟨⟨p0⟩⟩)))] [] (.tup [.d (.lit (.int .i64 r.1)), .d (.lit (.bool r.2))]) := by
 refine fc_mk (rs := [.tmp 2, .tmp 3]) (n := 40) Try.func87 rfl rfl (Nat.le_of_ble_eq_true rfl) rfl (pins := []) rfl (L := [(0, .s p0)]) rfl ?_
 refine c_sr ?_
 refine o_m2 (.i 0) (.b false) rfl ?_
 refine o_nil (c_seq (c_sr ?_))
 refine o_m4 (.s p0) (.i (p0.length : Int)) (.b (decide ((p0.length : Int) < 1))) (.b (decide ((p0.length : Int) < 1))) rfl ?_
 rcases bif_some h with ⟨h1, h⟩ | ⟨h1, h⟩
 ·
  refine o_skip rfl rfl rfl h1 rfl rfl ?_
  refine o_skip rfl rfl rfl h1 rfl rfl ?_
  refine o_skip rfl rfl rfl h1 rfl rfl ?_
  refine o_pk (.b true) (b := true) h1 (g0 rfl) rfl rfl rfl rfl rfl ?_
  refine o_nil ?_
  refine c_t rfl rfl ?_
  refine c_sr ?_
  refine o_m2 (.i 0) (.b false) rfl ?_
  refine o_nil (c_ret ?_)
  obtain rfl := Option.some.inj h
  exact end0 rfl (.tup (.cons .r (.cons .r .nil)))
 refine o_s (.s p0) (gy rfl rfl rfl h1) rfl rfl rfl ?_
 refine o_s (.i (p0.length : Int)) (gy rfl rfl rfl h1) rfl rfl rfl ?_
 refine o_s (.b (decide ((p0.length : Int) > 40))) (gy rfl rfl rfl h1) rfl rfl rfl ?_
 refine o_pk (.b (decide ((p0.length : Int) > 40))) (b := false) h1 (g0 rfl) rfl rfl rfl rfl rfl ?_
 refine o_nil ?_
 rcases bif_some h with ⟨h2, h⟩ | ⟨h2, h⟩
 ·
  refine c_t h2 rfl ?_
  refine c_sr ?_
  refine o_m2 (.i 0) (.b false) rfl ?_
  refine o_nil (c_ret ?_)
  obtain rfl := Option.some.inj h
  exact end0 rfl (.tup (.cons .r (.cons .r .nil)))
 refine c_f h2 rfl ?_
 refine c_skip (c_sr ?_)
 refine o_1 (.t (.d (.lit (.int .u32 0)))) rfl ?_
 refine o_nil ?_
 refine c_cut (fun (y3 : Int) => [(4, .t (.d (.lit (.int .u32 y3))))]) (fun (y3 : Int) => m_index_Bucket_j1 y3 = some r) ?_ ?_
 ·
  refine c_sr ?_
  refine o_m3 (.s p0) (.i (p0.length : Int)) (.i 0) rfl ?_
  refine o_nil (c_block ?_)
  refine c_fuel (fun (q : Int × Int) => [(0, .s p0), (4, .t (.d (.lit (.int .u32 q.1)))), (15, .i (p0.length : Int)), (16, .i q.2)]) (fun nl2 => (fun (q : Int × Int) => m_index_Bucket_l2 p0 nl2 q.1 q.2 = some r)) (p0.length + 1) (0, 0) h ⟨.r, .r, .r, .r, trivial⟩ rfl ?_
  rintro nl2 ⟨z4, z5⟩ h
  cases nl2 with
  | zero => exact none_ne h
  | succ nl2 =>
   refine c_sr ?_
   refine o_1 (.b (decide (z5 < (p0.length : Int)))) rfl ?_
   refine o_nil (c_seq ?_)
   rcases bif_some h with ⟨h6, h⟩ | ⟨h6, h⟩
   ·
    refine c_t h6 rfl ?_
    refine c_skip (c_seq (c_block (c_sr ?_)))
    refine o_m2 (.i z5) (.i z5) rfl ?_
    refine o_nil (c_seq (c_sr ?_))
    refine o_m2 (.s p0) (.i z5) rfl ?_
    obtain ⟨x7, h8, h⟩ := bind_some h
    refine o_c (g0 rfl) rfl rfl rfl (strIdxE h8) (strIdxC h8) ?_
    refine o_m2 (.b (decide ((x7.toNat : Int) < 33))) (.b (decide ((x7.toNat : Int) < 33))) rfl ?_
    rcases bif_some h with ⟨h9, h⟩ | ⟨h9, h⟩
    ·
     refine o_skip rfl rfl rfl h9 rfl rfl ?_
     refine o_skip rfl rfl rfl h9 rfl rfl ?_
     refine o_skip rfl rfl rfl h9 rfl rfl ?_
     refine o_skip rfl rfl rfl h9 rfl rfl ?_
     refine o_pk (.b true) (b := true) h9 (g0 rfl) rfl rfl rfl rfl rfl ?_
     refine o_nil ?_
     refine c_t rfl rfl ?_
     refine c_sr ?_
     refine o_m2 (.i 0) (.b false) rfl ?_
     refine o_nil (c_ret ?_)
     obtain rfl := Option.some.inj h
     exact end0 rfl (.tup (.cons .r (.cons .r .nil)))
    refine o_s (.s p0) (gy rfl rfl rfl h9) rfl rfl rfl ?_
    refine o_s (.i z5) (gy rfl rfl rfl h9) rfl rfl rfl ?_
    obtain ⟨x10, h11, h⟩ := bind_some h
    refine o_c (gy rfl rfl rfl h9) rfl rfl rfl (strIdxE h11) (strIdxC h11) ?_
    refine o_s (.b (decide ((x10.toNat : Int) > 126))) (gy rfl rfl rfl h9) rfl rfl rfl ?_
    refine o_pk (.b (decide ((x10.toNat : Int) > 126))) (b := false) h9 (g0 rfl) rfl rfl rfl rfl rfl ?_
    refine o_nil ?_
    rcases bif_some h with ⟨h12, h⟩ | ⟨h12, h⟩
    ·
     refine c_t h12 rfl ?_
     refine c_sr ?_
     refine o_m2 (.i 0) (.b false) rfl ?_
     refine o_nil (c_ret ?_)
     obtain rfl := Option.some.inj h
     exact end0 rfl (.tup (.cons .r (.cons .r .nil)))
    refine c_f h12 rfl ?_
    refine c_skip (c_region ?_)
    refine o_m4 (.t (.d (.lit (.int .u32 z4)))) (.t (.d (.lit (.int .u32 (IntKind.u32.wrap (31 * z4)))))) (.s p0) (.i z5) rfl ?_
    obtain ⟨x13, h14, h⟩ := bind_some h
    refine o_c (g0 rfl) rfl rfl rfl (strIdxE h14) (strIdxC h14) ?_
    refine o_c (g0 rfl) rfl rfl rfl (congrArg (fun z => A.t (.d (.lit (.int .u32 z)))) (u32_u8 _)) trivial ?_
    refine o_m2 (.t (.d (.lit (.int .u32 (IntKind.u32.wrap ((IntKind.u32.wrap (31 * z4)) + (x13.toNat : Int))))))) (.t (.d (.lit (.int .u32 (IntKind.u32.wrap ((IntKind.u32.wrap (31 * z4)) + (x13.toNat : Int))))))) rfl ?_
    refine o_nil (c_region ?_)
    refine o_m2 (.i (wi (z5 + 1))) (.i (wi (z5 + 1))) rfl ?_
    refine o_nil ?_
    exact ⟨nl2, ((IntKind.u32.wrap ((IntKind.u32.wrap (31 * z4)) + (x13.toNat : Int))), (wi (z5 + 1))), Nat.lt_succ_self nl2, h, ⟨.r, .r, .r, .r, trivial⟩, rfl⟩
   refine c_f h6 rfl ?_
   refine c_exit ?_
   exact ⟨z4, h, ⟨.r, trivial⟩, rfl⟩
 rintro y3 h
 refine c_sr ?_
 refine o_m5 (.t (.d (.lit (.int .u32 y3)))) (.t (.d (.lit (.int .u32 (Int.tmod y3 64))))) (.i (wi (Int.tmod y3 64))) (.i (wi (Int.tmod y3 64))) (.b true) rfl ?_
 refine o_nil (c_ret ?_)
 obtain rfl := Option.some.inj h
 exact end0 rfl (.tup (.cons .r (.cons .r .nil)))
theorem fch_index_Index_sector (p0 : (Option Nat)) (p1 : Int) (w0 : Hp) (r : ((List UInt8) × Int)) (h : m_index_Index_sector p0 p1 w0 = some r) : FCH Try.prog 121 [.t ((ptT 7 p0)), .t (.d (.lit (.int .i64 p1)))] [] [] (hpA w0) (hpA w0) (.tup [.d (.seq 1 (bytesD r.1)), .d (.lit (.int .i64 r.2))]) := by
 refine fch_mk (rs := [.tmp 4, .tmp 5]) (n := 23) [] Try.func121 rfl rfl (Nat.le_of_ble_eq_true rfl) rfl (pins := []) rfl (L := [(HK, .hp (hpA w0)), (0, .t ((ptT 7 p0))), (1, .i p1)]) rfl ?_
 refine c_sr ?_
 refine o_m2 (.n) (.i 0) rfl ?_
 refine o_nil (c_seq (c_sr ?_))
 refine o_of (e := [(8, .t ((ptT 7 p0)))]) (g0 rfl) (h_mv mR (.inl rfl) (cpO_pt rfl) rfl rfl) rfl ?_
 rcases ptM_some h with ⟨h1, h⟩ | ⟨i2, h1, h⟩
 ·
  refine o_of (e := [(9, .b true)]) (g0 rfl) (h_pn mR (ng := false) rfl rfl rfl (pn_none rfl h1) rfl rfl) rfl ?_
  refine o_nil ?_
  refine c_t rfl rfl ?_
  refine c_sr ?_
  refine o_m2 (.n) (.i 1) rfl ?_
  refine o_nil (c_ret ?_)
  obtain rfl := Option.some.inj h
  exact ⟨⟨_, rfl, (.tup (.cons (.d (.nil _)) (.cons .r .nil)))⟩, trivial, rfl⟩
 refine o_of (e := [(9, .b false)]) (g0 rfl) (h_pn mR (ng := false) rfl rfl rfl (pn_some rfl h1) rfl rfl) rfl ?_
 refine o_nil ?_
 refine c_f rfl rfl ?_
 refine c_skip (c_sr ?_)
 refine o_of (e := [(11, .t (.hpt (cd 7 i2) 0))]) (g0 rfl) (h_mv mR (.inl rfl) ((cpO_pt rfl).trans (pt_eq_some h1)) rfl rfl) rfl ?_
 refine o_of (e := [(12, .t (.hpt (cd 7 i2) 0))]) (g0 rfl) (h_nc mR rfl rfl rfl rfl rfl) rfl ?_
 refine o_of (e := [(13, .t (.hpt (cd 7 i2) 0))]) (g0 rfl) (h_fd mR rfl rfl rfl rfl rfl rfl) rfl ?_
 obtain ⟨x3, h4, h⟩ := bind_some h
 refine o_of (e := [(14, .t ((ptT 5 x3.t_)))]) (g0 rfl) (h_ld mR rfl rfl rfl rfl (gl_ix h4) rfl (norH_pt _ _) rfl rfl) rfl ?_
 refine o_1 (.i p1) rfl ?_
 obtain ⟨x5, h6, h⟩ := bind_some h
 refine o_of (e := [(16, .tup [.y x5.1, .i x5.2])]) (g0 rfl) (h_callR mR rfl (σ := []) (fr := []) rfl rfl rfl rfl rfl rfl rfl (fch_wal_Txn_Read _ _ w0 _ h6) (pure_hpA _) rfl rfl rfl rfl (.cons (argPt rfl) (.cons (.plain .r rfl) .nil)) rfl (.tup (.cons (.flat rfl) (.cons (.flat rfl) .nil)))) rfl ?_
 refine o_m5 (.tup [.y x5.1, .i x5.2]) (.y x5.1) (.i x5.2) (.y x5.1) (.i x5.2) rfl ?_
 refine o_nil ?_
 refine c_cutH (fun (y7 : Int) => [(6, .y x5.1), (7, .i y7), (HK, .hp (hpA w0))]) (fun (y7 : Int) => m_index_Index_sector_j1 x5 y7 = some r) ?_ ?_
 ·
  refine c_sr ?_
  refine o_m2 (.i x5.2) (.b (x5.2 == 31)) rfl ?_
  refine o_nil ?_
  rcases bif_some h with ⟨h8, h⟩ | ⟨h8, h⟩
  ·
   refine c_t h8 rfl ?_
   refine c_region ?_
   refine o_1 (.i 11) rfl ?_
   refine o_nil ?_
   exact ⟨11, [], h, rfl, ⟨.inr ⟨_, rfl, pure_hpA _⟩, by (repeat (first | exact ObP.nil | refine ObP.cons (.inl rfl) ?_ | refine ObP.cons (.inr (fun _ => rfl)) ?_ | refine ObP.cons (.inr (ob_box (fl_noPt _ _))) ?_ | refine ObP.cons (.inr (ob_gb _ _)) ?_))⟩, ⟨.r, .r, .r, trivial⟩, rfl⟩
  refine c_f h8 rfl ?_
  refine c_skip ?_
  exact ⟨x5.2, [], h, rfl, ⟨.inr ⟨_, rfl, pure_hpA _⟩, by (repeat (first | exact ObP.nil | refine ObP.cons (.inl rfl) ?_ | refine ObP.cons (.inr (fun _ => rfl)) ?_ | refine ObP.cons (.inr (ob_box (fl_noPt _ _))) ?_ | refine ObP.cons (.inr (ob_gb _ _)) ?_))⟩, ⟨.r, .r, .r, trivial⟩, rfl⟩
 rintro y7 h
 refine c_sr ?_
 refine o_m4 (.y x5.1) (.i y7) (.y x5.1) (.i y7) rfl ?_
 refine o_nil (c_ret ?_)
 obtain rfl := Option.some.inj h
 exact ⟨⟨_, rfl, (.tup (.cons .r (.cons .r .nil)))⟩, trivial, rfl⟩
theorem fc_index_get (p0 : (List UInt8)) (r : Int) (h : m_index_get p0 = some r) : FC Try.prog 122 [.t (.d (.seq 1 (bytesD p0)))] [] (.t (.d (.lit (.int .i64 r)))) := by
 refine fc_mk (rs := [.tmp 2]) (n := 13) Try.func122 rfl rfl (Nat.le_of_ble_eq_true rfl) rfl (pins := []) rfl (L := [(0, .y p0)]) rfl ?_
 refine c_sr ?_
 refine o_1 (.i 0) rfl ?_
 refine o_nil (c_sr ?_)
 refine o_1 (.y p0) rfl ?_
 obtain ⟨x1, h2, h⟩ := bind_some h
 refine o_ca (fc_word_Get _ _ h2) (g0 rfl) rfl rfl rfl rfl rfl rfl rfl (.cons .r .nil) rfl rfl ?_
 refine o_m5 (.tup [.i x1.1, .i x1.2]) (.i x1.1) (.i x1.2) (.i x1.1) (.i x1.2) rfl ?_
 refine o_nil (c_seq (c_sr ?_))
 refine o_m2 (.i x1.2) (.b (x1.2 != 0)) rfl ?_
 refine o_nil ?_
 rcases bif_some h with ⟨h3, h⟩ | ⟨h3, h⟩
 ·
  refine c_t h3 rfl ?_
  refine c_sr ?_
  refine o_1 (.i (-1)) rfl ?_
  refine o_nil (c_ret ?_)
  obtain rfl := Option.some.inj h
  exact end0 rfl .r
 refine c_f h3 rfl ?_
 refine c_skip (c_sr ?_)
 refine o_m2 (.i x1.1) (.i x1.1) rfl ?_
 refine o_nil (c_ret ?_)
 obtain rfl := Option.some.inj h
 exact end0 rfl .r
theorem fch_index_Index_named (p0 : (Option Nat)) (p1 : S_index_spot) (w0 : Hp) (r : (Int × Int)) (h : m_index_Index_named p0 p1 w0 = some r) : FCH Try.prog 91 [.t ((ptT 7 p0)), .t (.agg [.lit (.int .i64 p1.home_), .lit (.int .i64 p1.off_)])] [] [] (hpA w0) (hpA w0) (.tup [.d (.lit (.int .i64 r.1)), .d (.lit (.int .i64 r.2))]) := by
 refine fch_mk (rs := [.tmp 4, .tmp 5]) (n := 26) [] Try.func91 rfl rfl (Nat.le_of_ble_eq_true rfl) rfl (pins := []) rfl (L := [(HK, .hp (hpA w0)), (0, .t ((ptT 7 p0))), (1, .t (.agg [.i p1.home_, .i p1.off_]))]) rfl ?_
 refine c_sr ?_
 refine o_m3 (.box [.i p1.home_, .i p1.off_]) (.i 0) (.i 0) rfl ?_
 refine o_nil (c_sr ?_)
 refine o_of (e := [(9, .t ((ptT 7 p0)))]) (g0 rfl) (h_mv mR (.inl rfl) (cpO_pt rfl) rfl rfl) rfl ?_
 refine o_m2 (.ref 3 0) (.i p1.home_) rfl ?_
 obtain ⟨x1, h2, h⟩ := bind_some h
 refine o_of (e := [(12, .tup [.y x1.1, .i x1.2])]) (g0 rfl) (h_callR mR rfl (σ := []) (fr := []) rfl rfl rfl rfl rfl rfl rfl (fch_index_Index_sector _ _ w0 _ h2) (pure_hpA _) rfl rfl rfl rfl (.cons (argPt rfl) (.cons (.plain .r rfl) .nil)) rfl (.tup (.cons (.flat rfl) (.cons (.flat rfl) .nil)))) rfl ?_
 refine o_m5 (.tup [.y x1.1, .i x1.2]) (.y x1.1) (.i x1.2) (.y x1.1) (.i x1.2) rfl ?_
 refine o_nil (c_seq (c_sr ?_))
 refine o_m2 (.i x1.2) (.b (x1.2 != 0)) rfl ?_
 refine o_nil ?_
 rcases bif_some h with ⟨h3, h⟩ | ⟨h3, h⟩
 ·
  refine c_t h3 rfl ?_
  refine c_sr ?_
  refine o_m3 (.i x1.2) (.i 0) (.i x1.2) rfl ?_
  refine o_nil (c_ret ?_)
  obtain rfl := Option.some.inj h
  exact ⟨⟨_, rfl, (.tup (.cons .r (.cons .r .nil)))⟩, trivial, rfl⟩
 refine c_f h3 rfl ?_
 refine c_skip (c_sr ?_)
 refine o_m6 (.y x1.1) (.ref 3 1) (.i p1.off_) (.ref 3 1) (.i p1.off_) (.i (wi (p1.off_ + 4))) rfl ?_
 obtain ⟨x4, h5, h⟩ := bind_some h
 refine o_c (g0 rfl) rfl rfl rfl (cutE (c := cU8) h5) (cutC (c := cU8) h5) ?_
 obtain ⟨x6, h7, h⟩ := bind_some h
 refine o_ca (fc_index_get _ _ h7) (g0 rfl) rfl rfl rfl rfl rfl rfl rfl (.cons .r .nil) rfl rfl ?_
 refine o_m2 (.i x6) (.i 0) rfl ?_
 refine o_nil (c_ret ?_)
 obtain rfl := Option.some.inj h
 exact ⟨⟨_, rfl, (.tup (.cons .r (.cons .r .nil)))⟩, trivial, rfl⟩
theorem fch_index_Index_head (p0 : (Option Nat)) (p1 : Int) (w0 : Hp) (r : S_index_spot) (h : m_index_Index_head p0 p1 w0 = some r) : FCH Try.prog 92 [.t ((ptT 7 p0)), .t (.d (.lit (.int .i64 p1)))] [] [] (hpA w0) (hpA w0) (.t (.agg [.lit (.int .i64 r.home_), .lit (.int .i64 r.off_)])) := by
 refine fch_mk (rs := [.cell 4 148]) (n := 19) [] Try.func92 rfl rfl (Nat.le_of_ble_eq_true rfl) rfl (pins := []) rfl (L := [(HK, .hp (hpA w0)), (0, .t ((ptT 7 p0))), (1, .i p1)]) rfl ?_
 refine c_sr ?_
 refine o_1 (.box [.i 0, .i 0]) rfl ?_
 refine o_nil (c_seq (c_sr ?_))
 refine o_of (e := [(5, .t ((ptT 7 p0)))]) (g0 rfl) (h_mv mR (.inl rfl) (cpO_pt rfl) rfl rfl) rfl ?_
 rcases ptM_some h with ⟨h1, h⟩ | ⟨i2, h1, h⟩
 ·
  refine o_of (e := [(6, .b true)]) (g0 rfl) (h_pn mR (ng := false) rfl rfl rfl (pn_none rfl h1) rfl rfl) rfl ?_
  refine o_nil ?_
  refine c_t rfl rfl ?_
  refine c_sr ?_
  refine o_1 (.t (.agg [.i 0, .i 0])) rfl ?_
  refine o_st (.box [.i 0, .i 0]) (g0 rfl) rfl rfl rfl ?_
  refine o_nil (c_ret ?_)
  obtain rfl := Option.some.inj h
  exact ⟨⟨_, rfl, .r⟩, trivial, rfl⟩
 refine o_of (e := [(6, .b false)]) (g0 rfl) (h_pn mR (ng := false) rfl rfl rfl (pn_some rfl h1) rfl rfl) rfl ?_
 refine o_nil ?_
 refine c_f rfl rfl ?_
 refine c_skip (c_sr ?_)
 refine o_of (e := [(8, .t (.hpt (cd 7 i2) 0))]) (g0 rfl) (h_mv mR (.inl rfl) ((cpO_pt rfl).trans (pt_eq_some h1)) rfl rfl) rfl ?_
 refine o_of (e := [(9, .t (.hpt (cd 7 i2) 0))]) (g0 rfl) (h_nc mR rfl rfl rfl rfl rfl) rfl ?_
 refine o_of (e := [(10, .t (.hpt (cd 7 i2) 1))]) (g0 rfl) (h_fd mR rfl rfl rfl rfl rfl rfl) rfl ?_
 obtain ⟨x3, h4, h⟩ := bind_some h
 refine o_of (e := [(11, .i x3.table_)]) (g0 rfl) (h_ld mR rfl rfl rfl rfl (gl_ix h4) rfl rfl rfl rfl) rfl ?_
 refine o_m7 (.i p1) (.i (wi (Int.tdiv p1 16))) (.i (wi (x3.table_ + (wi (Int.tdiv p1 16))))) (.i p1) (.i (Int.tmod p1 16)) (.i (wi (4 * (Int.tmod p1 16)))) (.t (.agg [.i (wi (x3.table_ + (wi (Int.tdiv p1 16)))), .i (wi (4 * (Int.tmod p1 16)))])) rfl ?_
 refine o_st (.box [.i (wi (x3.table_ + (wi (Int.tdiv p1 16)))), .i (wi (4 * (Int.tmod p1 16)))]) (g0 rfl) rfl rfl rfl ?_
 refine o_nil (c_ret ?_)
 obtain rfl := Option.some.inj h
 exact ⟨⟨_, rfl, .r⟩, trivial, rfl⟩
theorem fc_index_may (p0 : S_api_Entry) (r : Bool) (h : m_index_may p0 = some r) : FC Try.prog 89 [.t (.agg [.lit (.string ⟨⟨p0.Key⟩⟩), .lit (.int .i64 p0.Version), .lit (.int .i64 p0.Len), .lit (.int .i64 p0.First)])] [] (.t (.d (.lit (.bool r)))) := by
 refine fc_mk (rs := [.tmp 2]) (n := 42) Try.func89 rfl rfl (Nat.le_of_ble_eq_true rfl) rfl (pins := []) rfl (L := [(0, .t (.agg [.s p0.Key, .i p0.Version, .i p0.Len, .i p0.First]))]) rfl ?_
 refine c_sr ?_
 refine o_m2 (.box [.s p0.Key, .i p0.Version, .i p0.Len, .i p0.First]) (.b false) rfl ?_
 refine o_nil (c_sr ?_)
 refine o_m2 (.ref 1 0) (.s p0.Key) rfl ?_
 obtain ⟨x1, h2, h⟩ := bind_some h
 refine o_ca (fc_index_Bucket _ _ h2) (g0 rfl) rfl rfl rfl rfl rfl rfl rfl (.cons .r .nil) rfl rfl ?_
 refine o_m5 (.tup [.i x1.1, .b x1.2]) (.i x1.1) (.b x1.2) (.i x1.1) (.b x1.2) rfl ?_
 refine o_nil (c_sr ?_)
 refine o_m2 (.b x1.2) (.b x1.2) rfl ?_
 rcases bif_some h with ⟨h3, h⟩ | ⟨h3, h⟩
 ·
  refine o_s (.ref 1 1) (gy rfl rfl rfl h3) rfl rfl rfl ?_
  refine o_s (.i p0.Version) (gy rfl rfl rfl h3) rfl rfl rfl ?_
  refine o_s (.b (decide (p0.Version ≥ 0))) (gy rfl rfl rfl h3) rfl rfl rfl ?_
  refine o_pk (.b (decide (p0.Version ≥ 0))) (b := true) h3 (g0 rfl) rfl rfl rfl rfl rfl ?_
  refine o_1 (.b (decide (p0.Version ≥ 0))) rfl ?_
  rcases bif_some h with ⟨h4, h⟩ | ⟨h4, h⟩
  ·
   refine o_s (.ref 1 1) (gy rfl rfl rfl h4) rfl rfl rfl ?_
   refine o_s (.i p0.Version) (gy rfl rfl rfl h4) rfl rfl rfl ?_
   refine o_s (.b (decide (p0.Version ≤ 4611686018427387904))) (gy rfl rfl rfl h4) rfl rfl rfl ?_
   refine o_pk (.b (decide (p0.Version ≤ 4611686018427387904))) (b := true) h4 (g0 rfl) rfl rfl rfl rfl rfl ?_
   refine o_1 (.b (decide (p0.Version ≤ 4611686018427387904))) rfl ?_
   rcases bif_some h with ⟨h5, h⟩ | ⟨h5, h⟩
   ·
    refine o_s (.ref 1 2) (gy rfl rfl rfl h5) rfl rfl rfl ?_
    refine o_s (.i p0.Len) (gy rfl rfl rfl h5) rfl rfl rfl ?_
    refine o_s (.b (decide (p0.Len ≥ 0))) (gy rfl rfl rfl h5) rfl rfl rfl ?_
    refine o_pk (.b (decide (p0.Len ≥ 0))) (b := true) h5 (g0 rfl) rfl rfl rfl rfl rfl ?_
    refine o_1 (.b (decide (p0.Len ≥ 0))) rfl ?_
    rcases bif_some h with ⟨h6, h⟩ | ⟨h6, h⟩
    ·
     refine o_s (.ref 1 2) (gy rfl rfl rfl h6) rfl rfl rfl ?_
     refine o_s (.i p0.Len) (gy rfl rfl rfl h6) rfl rfl rfl ?_
     refine o_s (.b (decide (p0.Len ≤ 1024))) (gy rfl rfl rfl h6) rfl rfl rfl ?_
     refine o_pk (.b (decide (p0.Len ≤ 1024))) (b := true) h6 (g0 rfl) rfl rfl rfl rfl rfl ?_
     refine o_1 (.b (decide (p0.Len ≤ 1024))) rfl ?_
     rcases bif_some h with ⟨h7, h⟩ | ⟨h7, h⟩
     ·
      refine o_s (.ref 1 3) (gy rfl rfl rfl h7) rfl rfl rfl ?_
      refine o_s (.i p0.First) (gy rfl rfl rfl h7) rfl rfl rfl ?_
      refine o_s (.b (decide (p0.First ≥ 0))) (gy rfl rfl rfl h7) rfl rfl rfl ?_
      refine o_pk (.b (decide (p0.First ≥ 0))) (b := true) h7 (g0 rfl) rfl rfl rfl rfl rfl ?_
      refine o_1 (.b (decide (p0.First ≥ 0))) rfl ?_
      rcases bif_some h with ⟨h8, h⟩ | ⟨h8, h⟩
      ·
       refine o_s (.ref 1 3) (gy rfl rfl rfl h8) rfl rfl rfl ?_
       refine o_s (.i p0.First) (gy rfl rfl rfl h8) rfl rfl rfl ?_
       refine o_s (.b (decide (p0.First ≤ 16384))) (gy rfl rfl rfl h8) rfl rfl rfl ?_
       refine o_pk (.b (decide (p0.First ≤ 16384))) (b := true) h8 (g0 rfl) rfl rfl rfl rfl rfl ?_
       refine o_1 (.b (decide (p0.First ≤ 16384))) rfl ?_
       refine o_nil (c_ret ?_)
       obtain rfl := Option.some.inj h
       exact end0 rfl .r
      refine o_skip rfl rfl rfl h8 rfl rfl ?_
      refine o_skip rfl rfl rfl h8 rfl rfl ?_
      refine o_skip rfl rfl rfl h8 rfl rfl ?_
      refine o_pk (.b false) (b := false) h8 (g0 rfl) rfl rfl rfl rfl rfl ?_
      refine o_1 (.b false) rfl ?_
      refine o_nil (c_ret ?_)
      obtain rfl := Option.some.inj h
      exact end0 rfl .r
     refine o_skip rfl rfl rfl h7 rfl rfl ?_
     refine o_skip rfl rfl rfl h7 rfl rfl ?_
     refine o_skip rfl rfl rfl h7 rfl rfl ?_
     refine o_pk (.b false) (b := false) h7 (g0 rfl) rfl rfl rfl rfl rfl ?_
     refine o_1 (.b false) rfl ?_
     refine o_skip rfl rfl rfl rfl rfl rfl ?_
     refine o_skip rfl rfl rfl rfl rfl rfl ?_
     refine o_skip rfl rfl rfl rfl rfl rfl ?_
     refine o_pk (.b false) (b := false) rfl (g0 rfl) rfl rfl rfl rfl rfl ?_
     refine o_1 (.b false) rfl ?_
     refine o_nil (c_ret ?_)
     obtain rfl := Option.some.inj h
     exact end0 rfl .r
    refine o_skip rfl rfl rfl h6 rfl rfl ?_
    refine o_skip rfl rfl rfl h6 rfl rfl ?_
    refine o_skip rfl rfl rfl h6 rfl rfl ?_
    refine o_pk (.b false) (b := false) h6 (g0 rfl) rfl rfl rfl rfl rfl ?_
    refine o_1 (.b false) rfl ?_
    refine o_skip rfl rfl rfl rfl rfl rfl ?_
    refine o_skip rfl rfl rfl rfl rfl rfl ?_
    refine o_skip rfl rfl rfl rfl rfl rfl ?_
    refine o_pk (.b false) (b := false) rfl (g0 rfl) rfl rfl rfl rfl rfl ?_
    refine o_1 (.b false) rfl ?_
    refine o_skip rfl rfl rfl rfl rfl rfl ?_
    refine o_skip rfl rfl rfl rfl rfl rfl ?_
    refine o_skip rfl rfl rfl rfl rfl rfl ?_
    refine o_pk (.b false) (b := false) rfl (g0 rfl) rfl rfl rfl rfl rfl ?_
    refine o_1 (.b false) rfl ?_
    refine o_nil (c_ret ?_)
    obtain rfl := Option.some.inj h
    exact end0 rfl .r
   refine o_skip rfl rfl rfl h5 rfl rfl ?_
   refine o_skip rfl rfl rfl h5 rfl rfl ?_
   refine o_skip rfl rfl rfl h5 rfl rfl ?_
   refine o_pk (.b false) (b := false) h5 (g0 rfl) rfl rfl rfl rfl rfl ?_
   refine o_1 (.b false) rfl ?_
   refine o_skip rfl rfl rfl rfl rfl rfl ?_
   refine o_skip rfl rfl rfl rfl rfl rfl ?_
   refine o_skip rfl rfl rfl rfl rfl rfl ?_
   refine o_pk (.b false) (b := false) rfl (g0 rfl) rfl rfl rfl rfl rfl ?_
   refine o_1 (.b false) rfl ?_
   refine o_skip rfl rfl rfl rfl rfl rfl ?_
   refine o_skip rfl rfl rfl rfl rfl rfl ?_
   refine o_skip rfl rfl rfl rfl rfl rfl ?_
   refine o_pk (.b false) (b := false) rfl (g0 rfl) rfl rfl rfl rfl rfl ?_
   refine o_1 (.b false) rfl ?_
   refine o_skip rfl rfl rfl rfl rfl rfl ?_
   refine o_skip rfl rfl rfl rfl rfl rfl ?_
   refine o_skip rfl rfl rfl rfl rfl rfl ?_
   refine o_pk (.b false) (b := false) rfl (g0 rfl) rfl rfl rfl rfl rfl ?_
   refine o_1 (.b false) rfl ?_
   refine o_nil (c_ret ?_)
   obtain rfl := Option.some.inj h
   exact end0 rfl .r
  refine o_skip rfl rfl rfl h4 rfl rfl ?_
  refine o_skip rfl rfl rfl h4 rfl rfl ?_
  refine o_skip rfl rfl rfl h4 rfl rfl ?_
  refine o_pk (.b false) (b := false) h4 (g0 rfl) rfl rfl rfl rfl rfl ?_
  refine o_1 (.b false) rfl ?_
  refine o_skip rfl rfl rfl rfl rfl rfl ?_
  refine o_skip rfl rfl rfl rfl rfl rfl ?_
  refine o_skip rfl rfl rfl rfl rfl rfl ?_
  refine o_pk (.b false) (b := false) rfl (g0 rfl) rfl rfl rfl rfl rfl ?_
  refine o_1 (.b false) rfl ?_
  refine o_skip rfl rfl rfl rfl rfl rfl ?_
  refine o_skip rfl rfl rfl rfl rfl rfl ?_
  refine o_skip rfl rfl rfl rfl rfl rfl ?_
  refine o_pk (.b false) (b := false) rfl (g0 rfl) rfl rfl rfl rfl rfl ?_
  refine o_1 (.b false) rfl ?_
  refine o_skip rfl rfl rfl rfl rfl rfl ?_
  refine o_skip rfl rfl rfl rfl rfl rfl ?_
  refine o_skip rfl rfl rfl rfl rfl rfl ?_
  refine o_pk (.b false) (b := false) rfl (g0 rfl) rfl rfl rfl rfl rfl ?_
  refine o_1 (.b false) rfl ?_
  refine o_skip rfl rfl rfl rfl rfl rfl ?_
  refine o_skip rfl rfl rfl rfl rfl rfl ?_
  refine o_skip rfl rfl rfl rfl rfl rfl ?_
  refine o_pk (.b false) (b := false) rfl (g0 rfl) rfl rfl rfl rfl rfl ?_
  refine o_1 (.b false) rfl ?_
  refine o_nil (c_ret ?_)
  obtain rfl := Option.some.inj h
  exact end0 rfl .r
 refine o_skip rfl rfl rfl h3 rfl rfl ?_
 refine o_skip rfl rfl rfl h3 rfl rfl ?_
 refine o_skip rfl rfl rfl h3 rfl rfl ?_
 refine o_pk (.b false) (b := false) h3 (g0 rfl) rfl rfl rfl rfl rfl ?_
 refine o_1 (.b false) rfl ?_
 refine o_skip rfl rfl rfl rfl rfl rfl ?_
 refine o_skip rfl rfl rfl rfl rfl rfl ?_
 refine o_skip rfl rfl rfl rfl rfl rfl ?_
 refine o_pk (.b false) (b := false) rfl (g0 rfl) rfl rfl rfl rfl rfl ?_
 refine o_1 (.b false) rfl ?_
 refine o_skip rfl rfl rfl rfl rfl rfl ?_
 refine o_skip rfl rfl rfl rfl rfl rfl ?_
 refine o_skip rfl rfl rfl rfl rfl rfl ?_
 refine o_pk (.b false) (b := false) rfl (g0 rfl) rfl rfl rfl rfl rfl ?_
 refine o_1 (.b false) rfl ?_
 refine o_skip rfl rfl rfl rfl rfl rfl ?_
 refine o_skip rfl rfl rfl rfl rfl rfl ?_
 refine o_skip rfl rfl rfl rfl rfl rfl ?_
 refine o_pk (.b false) (b := false) rfl (g0 rfl) rfl rfl rfl rfl rfl ?_
 refine o_1 (.b false) rfl ?_
 refine o_skip rfl rfl rfl rfl rfl rfl ?_
 refine o_skip rfl rfl rfl rfl rfl rfl ?_
 refine o_skip rfl rfl rfl rfl rfl rfl ?_
 refine o_pk (.b false) (b := false) rfl (g0 rfl) rfl rfl rfl rfl rfl ?_
 refine o_1 (.b false) rfl ?_
 refine o_skip rfl rfl rfl rfl rfl rfl ?_
 refine o_skip rfl rfl rfl rfl rfl rfl ?_
 refine o_skip rfl rfl rfl rfl rfl rfl ?_
 refine o_pk (.b false) (b := false) rfl (g0 rfl) rfl rfl rfl rfl rfl ?_
 refine o_1 (.b false) rfl ?_
 refine o_nil (c_ret ?_)
 obtain rfl := Option.some.inj h
 exact end0 rfl .r
theorem fch_index_put_v0 (p0 : (List UInt8)) (o0 n0 : Nat) (p1 : Int) (w0 : Hp) (r : (List UInt8)) (h : m_index_put_v0 p0 o0 n0 p1 = some r) : FCH Try.prog 123 [.t (.view 0 o0 0 1 n0), .t (.d (.lit (.int .i64 p1)))] [.box (fl (dT cU8) p0)] [.box (fl (dT cU8) r)] (hpA w0) (hpA w0) (.tup []) := by
 refine fch_mk (rs := []) (n := 16) [] Try.func123 rfl rfl (Nat.le_of_ble_eq_true rfl) rfl (pins := [OB + 0]) rfl (L := [(HK, .hp (hpA w0)), (OB + 0, .box (fl (dT cU8) p0)), (0, .t (.view 0 o0 0 1 n0)), (1, .i p1)]) rfl ?_
 refine c_sr ?_
 refine o_m2 (.i p1) (.t (.view 0 o0 0 1 n0)) rfl ?_
 refine o_of (e := [(9, .i ((n0 : Nat) : Int))]) (g0 rfl) (h_lln mR rfl rfl rfl rfl rfl rfl) rfl ?_
 obtain ⟨x1, h2, h⟩ := bind_some h
 refine o_ca (fc_word_Put _ _ _ h2) (g0 rfl) rfl rfl rfl rfl rfl rfl rfl (.cons .r (.cons .r .nil)) rfl rfl ?_
 refine o_m5 (.tup [.y x1.1, .i x1.2]) (.y x1.1) (.i x1.2) (.y x1.1) (.i x1.2) rfl ?_
 refine o_nil (c_region ?_)
 refine o_m2 (.t (.view 0 o0 0 1 n0)) (.y x1.1) rfl ?_
 obtain ⟨x3, h4, h⟩ := bind_some h
 refine o_of (e := [((OB + 0), .box (fl (dT cU8) x3)), (15, .i ((min x1.1.length n0 : Nat) : Int))]) (g0 rfl) (h_cpy (cc := cU8) (yl := x1.1) mR rfl rfl rfl rfl rfl rfl (fun _ => rfl) rfl h4 rfl rfl rfl) rfl ?_
 obtain ⟨x5, h6, h⟩ := bind_some h
 have h6 : x3.length = p0.length := lenI_eq h6
 refine o_nil ?_
 obtain rfl := Option.some.inj h
 exact ⟨⟨_, rfl, .r⟩, ⟨rfl, trivial⟩, rfl⟩
theorem fch_index_node_bytes (p0 : S_index_node) (w0 : Hp) (r : (List UInt8)) (h : m_index_node_bytes p0 = some r) : FCH Try.prog 93 [.t (.agg [.lit (.string ⟨⟨p0.Entry.Key⟩⟩), .lit (.int .i64 p0.Entry.Version), .lit (.int .i64 p0.Entry.Len), .lit (.int .i64 p0.Entry.First), .lit (.int .i64 p0.next_)])] [] [] (hpA w0) (hpA w0) (.t (.d (.seq 1 (bytesD r)))) := by
 refine fch_mk (rs := [.tmp 2]) (n := 42) [0] Try.func93 rfl rfl (Nat.le_of_ble_eq_true rfl) rfl (pins := []) rfl (L := [(HK, .hp (hpA w0)), (OB + 0, .free), (0, .t (.agg [.s p0.Entry.Key, .i p0.Entry.Version, .i p0.Entry.Len, .i p0.Entry.First, .i p0.next_]))]) rfl ?_
 refine c_sr ?_
 refine o_m2 (.box [.s p0.Entry.Key, .i p0.Entry.Version, .i p0.Entry.Len, .i p0.Entry.First, .i p0.next_]) (.n) rfl ?_
 refine o_nil (c_sr ?_)
 obtain ⟨x1, h2, h⟩ := bind_some h
 refine o_of (e := [((OB + 0), .box (fl (dT cU8) (List.replicate x1 (0 : UInt8)))), (4, .t (.view 0 0 5 1 x1))]) (g0 rfl) (h_mkl mR rfl rfl rfl rfl rfl rfl rfl (by kernel_rfl) rfl h2 (fl_rep (c := cU8) (z := (0 : UInt8)) (by kernel_rfl) x1) rfl rfl rfl rfl) rfl ?_
 refine o_1 (.t (.view 0 0 5 1 x1)) rfl ?_
 refine o_nil (c_seq ?_)
 refine c_draw mixed (by kernel_rfl) ?_
 refine d_s (.t (.view 0 0 5 1 x1)) rfl (dg0 rfl) rfl rfl rfl rfl ?_
 obtain ⟨x3, h4, h⟩ := bind_some h
 refine d_h0 [] (e := [(6, .t (.view 0 (0 + Int.toNat 0 * 1) 5 1 (Int.toNat 4 - Int.toNat 0)))]) (ks := [6]) rfl (dg0 rfl) rfl rfl (fun S' hM hok => h_lsl hM rfl rfl rfl rfl rfl rfl rfl (vcut_iff h4) rfl rfl rfl (hok _ rfl rfl)) rfl ?_
 refine d_s (.ref 1 4) rfl (dg0 rfl) rfl rfl rfl rfl ?_
 refine d_s (.i p0.next_) rfl (dg0 rfl) rfl rfl rfl rfl ?_
 obtain ⟨x5, h6, h⟩ := bind_some h
 refine d_hm [OB + 0] (e := [((OB + 0), .box (fl (dT cU8) x5)), (9, .tup [])]) (ks := [(OB + 0), 9]) rfl (dg0 rfl) rfl rfl (fun S' hM hk hS hok => h_callR hM hk (σ := [0]) (fr := []) rfl rfl rfl (hok _ rfl rfl) rfl rfl rfl (fch_index_put_v0 _ _ _ _ w0 _ h6) (pure_hpA _) rfl (by simp [A.flatO, fl_noPt]) (by simp [A.flatO, fl_noPt]) (cons_eq (hS (OB + 0) rfl) (rfl)) (.cons (argVw0 rfl rfl) (.cons (.plain .r rfl) .nil)) rfl (.tup .nil)) rfl ?_
 obtain ⟨x7, h8, h⟩ := bind_some h
 have h8 : x5.length = (List.replicate x1 (0 : UInt8)).length := lenI_eq h8; simp only [List.length_set, List.length_replicate] at h8
 refine d_nil (by kernel_rfl) ?_
 refine c_seq ?_
 refine c_draw mixed (by kernel_rfl) ?_
 refine d_s (.t (.view 0 0 5 1 x1)) rfl (dg0 rfl) rfl rfl rfl rfl ?_
 obtain ⟨x9, h10, h⟩ := bind_some h
 refine d_h0 [] (e := [(11, .t (.view 0 (0 + Int.toNat 4 * 1) 5 1 (Int.toNat 12 - Int.toNat 4)))]) (ks := [11]) rfl (dg0 rfl) rfl rfl (fun S' hM hok => h_lsl hM rfl rfl rfl rfl rfl rfl rfl (vcut_iff h10) rfl rfl rfl (hok _ rfl rfl)) rfl ?_
 refine d_s (.ref 1 0) rfl (dg0 rfl) rfl rfl rfl rfl ?_
 refine d_s (.ref 1 1) rfl (dg0 rfl) rfl rfl rfl rfl ?_
 refine d_s (.i p0.Entry.Version) rfl (dg0 rfl) rfl rfl rfl rfl ?_
 obtain ⟨x11, h12, h⟩ := bind_some h
 refine d_hm [OB + 0] (e := [((OB + 0), .box (fl (dT cU8) x11)), (15, .tup [])]) (ks := [(OB + 0), 15]) rfl (dg0 rfl) rfl rfl (fun S' hM hk hS hok => h_callR hM hk (σ := [0]) (fr := []) rfl rfl rfl (hok _ rfl rfl) rfl rfl rfl (fch_index_put_v0 _ _ _ _ w0 _ h12) (pure_hpA _) rfl (by simp [A.flatO, fl_noPt]) (by simp [A.flatO, fl_noPt]) (cons_eq (hS (OB + 0) rfl) (rfl)) (.cons (argVw0 rfl rfl) (.cons (.plain .r rfl) .nil)) rfl (.tup .nil)) rfl ?_
 obtain ⟨x13, h14, h⟩ := bind_some h
 have h14 : x11.length = x5.length := lenI_eq h14
 refine d_nil (by kernel_rfl) ?_
 refine c_seq ?_
 refine c_draw mixed (by kernel_rfl) ?_
 refine d_s (.t (.view 0 0 5 1 x1)) rfl (dg0 rfl) rfl rfl rfl rfl ?_
 obtain ⟨x15, h16, h⟩ := bind_some h
 refine d_h0 [] (e := [(17, .t (.view 0 (0 + Int.toNat 12 * 1) 5 1 (Int.toNat 16 - Int.toNat 12)))]) (ks := [17]) rfl (dg0 rfl) rfl rfl (fun S' hM hok => h_lsl hM rfl rfl rfl rfl rfl rfl rfl (vcut_iff h16) rfl rfl rfl (hok _ rfl rfl)) rfl ?_
 refine d_s (.ref 1 0) rfl (dg0 rfl) rfl rfl rfl rfl ?_
 refine d_s (.ref 1 2) rfl (dg0 rfl) rfl rfl rfl rfl ?_
 refine d_s (.i p0.Entry.Len) rfl (dg0 rfl) rfl rfl rfl rfl ?_
 obtain ⟨x17, h18, h⟩ := bind_some h
 refine d_hm [OB + 0] (e := [((OB + 0), .box (fl (dT cU8) x17)), (21, .tup [])]) (ks := [(OB + 0), 21]) rfl (dg0 rfl) rfl rfl (fun S' hM hk hS hok => h_callR hM hk (σ := [0]) (fr := []) rfl rfl rfl (hok _ rfl rfl) rfl rfl rfl (fch_index_put_v0 _ _ _ _ w0 _ h18) (pure_hpA _) rfl (by simp [A.flatO, fl_noPt]) (by simp [A.flatO, fl_noPt]) (cons_eq (hS (OB + 0) rfl) (rfl)) (.cons (argVw0 rfl rfl) (.cons (.plain .r rfl) .nil)) rfl (.tup .nil)) rfl ?_
 obtain ⟨x19, h20, h⟩ := bind_some h
 have h20 : x17.length = x11.length := lenI_eq h20
 refine d_nil (by kernel_rfl) ?_
 refine c_seq ?_
 refine c_draw mixed (by kernel_rfl) ?_
 refine d_s (.t (.view 0 0 5 1 x1)) rfl (dg0 rfl) rfl rfl rfl rfl ?_
 obtain ⟨x21, h22, h⟩ := bind_some h
 refine d_h0 [] (e := [(23, .t (.view 0 (0 + Int.toNat 16 * 1) 5 1 (Int.toNat 20 - Int.toNat 16)))]) (ks := [23]) rfl (dg0 rfl) rfl rfl (fun S' hM hok => h_lsl hM rfl rfl rfl rfl rfl rfl rfl (vcut_iff h22) rfl rfl rfl (hok _ rfl rfl)) rfl ?_
 refine d_s (.ref 1 0) rfl (dg0 rfl) rfl rfl rfl rfl ?_
 refine d_s (.ref 1 3) rfl (dg0 rfl) rfl rfl rfl rfl ?_
 refine d_s (.i p0.Entry.First) rfl (dg0 rfl) rfl rfl rfl rfl ?_
 obtain ⟨x23, h24, h⟩ := bind_some h
 refine d_hm [OB + 0] (e := [((OB + 0), .box (fl (dT cU8) x23)), (27, .tup [])]) (ks := [(OB + 0), 27]) rfl (dg0 rfl) rfl rfl (fun S' hM hk hS hok => h_callR hM hk (σ := [0]) (fr := []) rfl rfl rfl (hok _ rfl rfl) rfl rfl rfl (fch_index_put_v0 _ _ _ _ w0 _ h24) (pure_hpA _) rfl (by simp [A.flatO, fl_noPt]) (by simp [A.flatO, fl_noPt]) (cons_eq (hS (OB + 0) rfl) (rfl)) (.cons (argVw0 rfl rfl) (.cons (.plain .r rfl) .nil)) rfl (.tup .nil)) rfl ?_
 obtain ⟨x25, h26, h⟩ := bind_some h
 have h26 : x23.length = x17.length := lenI_eq h26
 refine d_nil (by kernel_rfl) ?_
 refine c_sr ?_
 refine o_m5 (.t (.view 0 0 5 1 x1)) (.ref 1 0) (.ref 1 0) (.s p0.Entry.Key) (.i (p0.Entry.Key.length : Int)) rfl ?_
 refine o_c (g0 rfl) rfl rfl rfl (congrArg (fun z => A.t (.d (.lit (.int .u8 z)))) (u8c _)) trivial ?_
 obtain ⟨x27, h28, h⟩ := bind_some h
 refine o_of (e := [(34, .ref (OB + 0) (0 + Int.toNat 20 * 1))]) (g0 rfl) (h_lix mR rfl rfl rfl rfl rfl (idxV (by first | rfl | omega | (simp; done) | (dsimp only; omega) | (simp; omega)) h28) rfl rfl rfl) rfl ?_
 refine o_of (e := [((OB + 0), .box (fl (dT cU8) (x23.set (Int.toNat 20) (U8 (p0.Entry.Key.length : Int)))))]) (g0 rfl) (h_lst mR rfl rfl rfl rfl rfl rfl rfl (fl_room h28 (fun _ => rfl)) (fl_put h28 (U8 (p0.Entry.Key.length : Int)) (fun _ => rfl) rfl)) rfl ?_
 refine o_nil (c_seq ?_)
 refine c_draw mixed (by kernel_rfl) ?_
 refine d_s (.t (.view 0 0 5 1 x1)) rfl (dg0 rfl) rfl rfl rfl rfl ?_
 obtain ⟨x29, h30, h⟩ := bind_some h
 refine d_h0 [] (e := [(36, .t (.view 0 (0 + Int.toNat 21 * 1) 5 1 (Int.toNat (x1 : Int) - Int.toNat 21)))]) (ks := [36]) rfl (dg0 rfl) rfl rfl (fun S' hM hok => h_lsl hM rfl rfl rfl rfl rfl rfl rfl (vcut_iff h30) rfl rfl rfl (hok _ rfl rfl)) rfl ?_
 refine d_s (.ref 1 0) rfl (dg0 rfl) rfl rfl rfl rfl ?_
 refine d_s (.ref 1 0) rfl (dg0 rfl) rfl rfl rfl rfl ?_
 refine d_s (.s p0.Entry.Key) rfl (dg0 rfl) rfl rfl rfl rfl ?_
 obtain ⟨x31, h32, h⟩ := bind_some h
 refine d_h0 [OB + 0] (e := [((OB + 0), .box (fl (dT cU8) x31)), (40, .i (p0.Entry.Key.length : Int))]) (ks := [(OB + 0), 40]) rfl (dg0 rfl) rfl rfl (fun S' hM hok => h_cpyS hM rfl rfl rfl rfl rfl rfl rfl h32 rfl rfl (hok _ rfl rfl)) rfl ?_
 obtain ⟨x33, h34, h⟩ := bind_some h
 have h34 : x31.length = (x23.set (Int.toNat 20) (U8 (p0.Entry.Key.length : Int))).length := lenI_eq h34; simp only [List.length_set, List.length_replicate] at h34
 refine d_nil (by kernel_rfl) ?_
 refine c_sr ?_
 refine o_m2 (.t (.view 0 0 5 1 x1)) (.t (.view 0 0 5 1 x1)) rfl ?_
 refine o_nil ?_
 refine c_frz 2 0 rfl rfl (by first | (simp; done) | (rw [List.length_map]; omega)) (fl_flat _ _) (map_row (c := cU8) (fun _ => rfl) _) rfl ⟨.inr ⟨_, rfl, pure_hpA _⟩, by (repeat (first | exact ObP.nil | refine ObP.cons (.inl rfl) ?_ | refine ObP.cons (.inr (fun _ => rfl)) ?_ | refine ObP.cons (.inr (ob_box (fl_noPt _ _))) ?_ | refine ObP.cons (.inr (ob_gb _ _)) ?_))⟩ rfl ?_
 refine c_ret ?_
 obtain rfl := Option.some.inj h
 exact ⟨⟨_, rfl, .r⟩, trivial, rfl⟩
theorem fch_index_read (p0 : (List UInt8)) (w0 : Hp) (r : (S_index_node × Bool)) (h : m_index_read p0 = some r) : FCH Try.prog 125 [.t (.d (.seq 1 (bytesD p0)))] [] [] (hpA w0) (hpA w0) (.tup [.agg [.lit (.string ⟨⟨r.1.Entry.Key⟩⟩), .lit (.int .i64 r.1.Entry.Version), .lit (.int .i64 r.1.Entry.Len), .lit (.int .i64 r.1.Entry.First), .lit (.int .i64 r.1.next_)], .d (.lit (.bool r.2))]) := by
 refine fch_mk (rs := [.cell 2 150, .tmp 3]) (n := 48) [] Try.func125 rfl rfl (Nat.le_of_ble_eq_true rfl) rfl (pins := []) rfl (L := [(HK, .hp (hpA w0)), (0, .y p0)]) rfl ?_
 refine c_sr ?_
 refine o_m2 (.box [.s [], .i 0, .i 0, .i 0, .i 0]) (.b false) rfl ?_
 refine o_nil (c_sr ?_)
 refine o_1 (.y p0) rfl ?_
 obtain ⟨x1, h2, h⟩ := bind_some h
 refine o_c (g0 rfl) rfl rfl rfl (cutEh (c := cU8) h2) (cutCh (c := cU8) h2) ?_
 obtain ⟨x3, h4, h⟩ := bind_some h
 refine o_ca (fc_index_get _ _ h4) (g0 rfl) rfl rfl rfl rfl rfl rfl rfl (.cons .r .nil) rfl rfl ?_
 refine o_m2 (.t (.agg [.s [], .i 0, .i 0, .i 0, .i x3])) (.box [.s [], .i 0, .i 0, .i 0, .i 0]) rfl ?_
 refine o_st (.box [.s [], .i 0, .i 0, .i 0, .i x3]) (g0 rfl) rfl rfl rfl ?_
 refine o_nil (c_seq ?_)
 refine c_draw mixed (by kernel_rfl) ?_
 refine d_s (.y p0) rfl (dg0 rfl) rfl rfl rfl rfl ?_
 obtain ⟨x5, h6, h⟩ := bind_some h
 refine d_c rfl (dg0 rfl) rfl rfl rfl rfl (cutE (c := cU8) h6) (cutC (c := cU8) h6) ?_
 obtain ⟨x7, h8, h⟩ := bind_some h
 refine d_ca (fc_index_get _ _ h8) rfl (dg0 rfl) rfl rfl rfl rfl rfl rfl rfl rfl (.cons .r .nil) rfl rfl ?_
 refine d_s (.y p0) rfl (dg0 rfl) rfl rfl rfl rfl ?_
 obtain ⟨x9, h10, h⟩ := bind_some h
 refine d_c rfl (dg0 rfl) rfl rfl rfl rfl (cutE (c := cU8) h10) (cutC (c := cU8) h10) ?_
 obtain ⟨x11, h12, h⟩ := bind_some h
 refine d_ca (fc_index_get _ _ h12) rfl (dg0 rfl) rfl rfl rfl rfl rfl rfl rfl rfl (.cons .r .nil) rfl rfl ?_
 refine d_s (.y p0) rfl (dg0 rfl) rfl rfl rfl rfl ?_
 obtain ⟨x13, h14, h⟩ := bind_some h
 refine d_c rfl (dg0 rfl) rfl rfl rfl rfl (cutE (c := cU8) h14) (cutC (c := cU8) h14) ?_
 obtain ⟨x15, h16, h⟩ := bind_some h
 refine d_ca (fc_index_get _ _ h16) rfl (dg0 rfl) rfl rfl rfl rfl rfl rfl rfl rfl (.cons .r .nil) rfl rfl ?_
 refine d_s (.ref 4 0) rfl (dg0 rfl) rfl rfl rfl rfl ?_
 refine d_s (.ref 4 1) rfl (dg0 rfl) rfl rfl rfl rfl ?_
 refine d_st (.box [.s [], .i x7, .i 0, .i 0, .i x3]) rfl (dg0 rfl) rfl rfl rfl rfl ?_
 refine d_s (.ref 4 0) rfl (dg0 rfl) rfl rfl rfl rfl ?_
 refine d_s (.ref 4 2) rfl (dg0 rfl) rfl rfl rfl rfl ?_
 refine d_st (.box [.s [], .i x7, .i x11, .i 0, .i x3]) rfl (dg0 rfl) rfl rfl rfl rfl ?_
 refine d_s (.ref 4 0) rfl (dg0 rfl) rfl rfl rfl rfl ?_
 refine d_s (.ref 4 3) rfl (dg0 rfl) rfl rfl rfl rfl ?_
 refine d_st (.box [.s [], .i x7, .i x11, .i x15, .i x3]) rfl (dg0 rfl) rfl rfl rfl rfl ?_
 refine d_nil (by kernel_rfl) ?_
 refine c_cutH (fun (y17 : (List UInt8)) => [(0, .y p0), (2, .box [.s [], .i 0, .i 0, .i 0, .i 0]), (4, .box [.s y17, .i x7, .i x11, .i x15, .i x3]), (HK, .hp (hpA w0))]) (fun (y17 : (List UInt8)) => m_index_read_j1 x7 x11 x15 x3 p0 y17 = some r) ?_ ?_
 ·
  refine c_sr ?_
  refine o_1 (.y p0) rfl ?_
  obtain ⟨x25, h26, h⟩ := bind_some h
  refine o_c (g0 rfl) rfl rfl rfl (idxE h26) (idxC h26) ?_
  refine o_1 (.t (.d (.lit (.int .u8 (x25.toNat : Int))))) rfl ?_
  refine o_c (g0 rfl) rfl rfl rfl (congrArg (fun z => A.i z) (i64_u8 _)) trivial ?_
  refine o_1 (.i (x25.toNat : Int)) rfl ?_
  refine o_nil (c_sr ?_)
  refine o_m2 (.i (x25.toNat : Int)) (.b (decide ((x25.toNat : Int) ≤ 40))) rfl ?_
  refine o_nil ?_
  rcases bif_some h with ⟨h27, h⟩ | ⟨h27, h⟩
  ·
   refine c_t h27 rfl ?_
   refine c_region ?_
   refine o_m3 (.y p0) (.i (x25.toNat : Int)) (.i (wi (21 + (x25.toNat : Int)))) rfl ?_
   obtain ⟨x28, h29, h⟩ := bind_some h
   refine o_c (g0 rfl) rfl rfl rfl (cutE (c := cU8) h29) (cutC (c := cU8) h29) ?_
   refine o_c (g0 rfl) rfl rfl rfl (strE _) (isB_bytes _) ?_
   refine o_m2 (.ref 4 0) (.ref 4 0) rfl ?_
   refine o_st (.box [.s x28, .i x7, .i x11, .i x15, .i x3]) (g0 rfl) rfl rfl rfl ?_
   refine o_nil ?_
   exact ⟨x28, [], h, rfl, ⟨.inr ⟨_, rfl, pure_hpA _⟩, by (repeat (first | exact ObP.nil | refine ObP.cons (.inl rfl) ?_ | refine ObP.cons (.inr (fun _ => rfl)) ?_ | refine ObP.cons (.inr (ob_box (fl_noPt _ _))) ?_ | refine ObP.cons (.inr (ob_gb _ _)) ?_))⟩, ⟨.r, .r, .r, .r, trivial⟩, rfl⟩
  refine c_f h27 rfl ?_
  refine c_skip ?_
  exact ⟨[], [], h, rfl, ⟨.inr ⟨_, rfl, pure_hpA _⟩, by (repeat (first | exact ObP.nil | refine ObP.cons (.inl rfl) ?_ | refine ObP.cons (.inr (fun _ => rfl)) ?_ | refine ObP.cons (.inr (ob_box (fl_noPt _ _))) ?_ | refine ObP.cons (.inr (ob_gb _ _)) ?_))⟩, ⟨.r, .r, .r, .r, trivial⟩, rfl⟩
 rintro y17 h
 refine c_seq ?_
 refine c_draw mixed (by kernel_rfl) ?_
 refine d_s (.t (.agg [.s y17, .i x7, .i x11, .i x15, .i x3])) rfl (dg0 rfl) rfl rfl rfl rfl ?_
 refine d_s (.ref 4 0) rfl (dg0 rfl) rfl rfl rfl rfl ?_
 refine d_s (.t (.agg [.s y17, .i x7, .i x11, .i x15])) rfl (dg0 rfl) rfl rfl rfl rfl ?_
 obtain ⟨x18, h19, h⟩ := bind_some h
 refine d_ca (fc_index_may _ _ h19) rfl (dg0 rfl) rfl rfl rfl rfl rfl rfl rfl rfl (.cons .r .nil) rfl rfl ?_
 refine d_s (.b x18) rfl (dg0 rfl) rfl rfl rfl rfl ?_
 rcases bif_some h with ⟨h20, h⟩ | ⟨h20, h⟩
 ·
  refine d_s (.t (.agg [.s y17, .i x7, .i x11, .i x15, .i x3])) rfl (dgy rfl rfl rfl rfl h20) rfl rfl rfl rfl ?_
  obtain ⟨x21, h22, h⟩ := bind_some h
  refine d_h (e := [(44, .y x21)]) (ks := [44]) rfl (dgy rfl rfl rfl rfl h20) rfl rfl (fun S' hM hk hok => h_callR hM hk (σ := []) (fr := []) rfl rfl rfl (hok _ rfl rfl) rfl rfl rfl (fch_index_node_bytes _ w0 _ h22) (pure_hpA _) rfl rfl rfl rfl (.cons (.plain .r rfl) .nil) rfl (.t (.flat rfl))) rfl ?_
  refine d_s (.y p0) rfl (dgy rfl rfl rfl rfl h20) rfl rfl rfl rfl ?_
  obtain ⟨x23, h24, h⟩ := bind_some h
  refine d_ca (fc_slices_Equal_byte _ _ _ h24) rfl (dgy rfl rfl rfl rfl h20) rfl rfl rfl rfl rfl rfl rfl rfl (.cons .r (.cons .r .nil)) rfl rfl ?_
  refine d_pk (.b x23) (b := true) h20 rfl (dg0 rfl) rfl rfl rfl rfl rfl rfl ?_
  refine d_st (.box [.s y17, .i x7, .i x11, .i x15, .i x3]) rfl (dg0 rfl) rfl rfl rfl rfl ?_
  refine d_s (.b x23) rfl (dg0 rfl) rfl rfl rfl rfl ?_
  refine d_nil (by kernel_rfl) ?_
  refine c_ret ?_
  obtain rfl := Option.some.inj h
  exact ⟨⟨_, rfl, (.tup (.cons .r (.cons .r .nil)))⟩, trivial, rfl⟩
 refine d_skip rfl rfl rfl rfl rfl h20 rfl rfl rfl ?_
 refine d_skip rfl rfl rfl rfl rfl h20 rfl rfl rfl ?_
 refine d_skip rfl rfl rfl rfl rfl h20 rfl rfl rfl ?_
 refine d_skip rfl rfl rfl rfl rfl h20 rfl rfl rfl ?_
 refine d_pk (.b false) (b := false) h20 rfl (dg0 rfl) rfl rfl rfl rfl rfl rfl ?_
 refine d_st (.box [.s y17, .i x7, .i x11, .i x15, .i x3]) rfl (dg0 rfl) rfl rfl rfl rfl ?_
 refine d_s (.b false) rfl (dg0 rfl) rfl rfl rfl rfl ?_
 refine d_nil (by kernel_rfl) ?_
 refine c_ret ?_
 obtain rfl := Option.some.inj h
 exact ⟨⟨_, rfl, (.tup (.cons .r (.cons .r .nil)))⟩, trivial, rfl⟩
theorem fch_index_Index_each (p0 : (Option Nat)) (p1 : Int) (F2 : Nat) (C2 : List (List D)) (p2 : (Int → S_index_node → Option Bool)) (hp2 : ∀ (a0 : Int) (a1 : S_index_node) r, p2 a0 a1 = some r → FC Try.prog F2 ([.t (.d (.lit (.int .i64 a0))), .t (.agg [.lit (.string ⟨⟨a1.Entry.Key⟩⟩), .lit (.int .i64 a1.Entry.Version), .lit (.int .i64 a1.Entry.Len), .lit (.int .i64 a1.Entry.First), .lit (.int .i64 a1.next_)])] ++ C2.map A.imm) [] (.t (.d (.lit (.bool r))))) (hf2 : ∃ fn, Try.prog.funcs[F2]? = some fn ∧ fn.body.isNone = false ∧ (fn.name == "runtime.NumGoroutine") = false) (w0 : Hp) (r : (S_index_spot × Int × S_index_node × Int)) (h : m_index_Index_each p0 p1 p2 w0 = some r) : FCH Try.prog 101 [.t ((ptT 7 p0)), .t (.d (.lit (.int .i64 p1))), .t (.d (.clo F2 C2))] [] [] (hpA w0) (hpA w0) (.tup [.agg [.lit (.int .i64 r.1.home_), .lit (.int .i64 r.1.off_)], .d (.lit (.int .i64 r.2.1)), .agg [.lit (.string ⟨⟨r.2.2.1.Entry.Key⟩⟩), .lit (.int .i64 r.2.2.1.Entry.Version), .lit (.int .i64 r.2.2.1.Entry.Len), .lit (.int .i64 r.2.2.1.Entry.First), .lit (.int .i64 r.2.2.1.next_)], .d (.lit (.int .i64 r.2.2.2))]) := by
 refine fch_mk (rs := [.cell 6 148, .tmp 7, .cell 8 150, .tmp 9]) (n := 86) [] Try.func101 rfl rfl (Nat.le_of_ble_eq_true rfl) rfl (pins := []) rfl (L := [(HK, .hp (hpA w0)), (0, .t ((ptT 7 p0))), (1, .i p1), (2, .t (.d (.clo F2 C2)))]) rfl ?_
 refine c_sr ?_
 refine o_m4 (.box [.i 0, .i 0]) (.i 0) (.box [.s [], .i 0, .i 0, .i 0, .i 0]) (.i 0) rfl ?_
 refine o_nil ?_
 refine c_scope 0 _ rfl ?_
 refine c_sr ?_
 refine o_of (e := [(19, .t ((ptT 7 p0)))]) (g0 rfl) (h_mv mR (.inl rfl) (cpO_pt rfl) rfl rfl) rfl ?_
 refine o_1 (.i p1) rfl ?_
 obtain ⟨x1, h2, h⟩ := bind_some h
 refine o_of (e := [(21, .t (.agg [.i x1.home_, .i x1.off_]))]) (g0 rfl) (h_callR mR rfl (σ := []) (fr := []) rfl rfl rfl rfl rfl rfl rfl (fch_index_Index_head _ _ w0 _ h2) (pure_hpA _) rfl rfl rfl rfl (.cons (argPt rfl) (.cons (.plain .r rfl) .nil)) rfl (.t (.flat rfl))) rfl ?_
 refine o_1 (.box [.i 0, .i 0]) rfl ?_
 refine o_st (.box [.i x1.home_, .i x1.off_]) (g0 rfl) rfl rfl rfl ?_
 refine o_nil (c_sr ?_)
 refine o_of (e := [(23, .t ((ptT 7 p0)))]) (g0 rfl) (h_mv mR (.inl rfl) (cpO_pt rfl) rfl rfl) rfl ?_
 refine o_1 (.t (.agg [.i x1.home_, .i x1.off_])) rfl ?_
 obtain ⟨x3, h4, h⟩ := bind_some h
 refine o_of (e := [(25, .tup [.i x3.1, .i x3.2])]) (g0 rfl) (h_callR mR rfl (σ := []) (fr := []) rfl rfl rfl rfl rfl rfl rfl (fch_index_Index_named _ _ w0 _ h4) (pure_hpA _) rfl rfl rfl rfl (.cons (argPt rfl) (.cons (.plain .r rfl) .nil)) rfl (.tup (.cons (.flat rfl) (.cons (.flat rfl) .nil)))) rfl ?_
 refine o_m5 (.tup [.i x3.1, .i x3.2]) (.i x3.1) (.i x3.2) (.i x3.1) (.i x3.2) rfl ?_
 refine o_nil (c_seq (c_sr ?_))
 refine o_m2 (.i x3.2) (.b (x3.2 != 0)) rfl ?_
 refine o_nil ?_
 rcases bif_some h with ⟨h5, h⟩ | ⟨h5, h⟩
 ·
  refine c_t h5 rfl ?_
  refine c_sr ?_
  refine o_m3 (.t (.agg [.i 0, .i 0])) (.t (.agg [.s [], .i 0, .i 0, .i 0, .i 0])) (.i x3.2) rfl ?_
  refine o_st (.box [.i 0, .i 0]) (g0 rfl) rfl rfl rfl ?_
  refine o_1 (.i 0) rfl ?_
  refine o_st (.box [.s [], .i 0, .i 0, .i 0, .i 0]) (g0 rfl) rfl rfl rfl ?_
  refine o_1 (.i x3.2) rfl ?_
  refine o_nil (c_ret ?_)
  obtain rfl := Option.some.inj h
  exact ⟨⟨_, rfl, (.tup (.cons .r (.cons .r (.cons .r (.cons .r .nil)))))⟩, trivial, rfl⟩
 refine c_f h5 rfl ?_
 refine c_skip (c_sr ?_)
 refine o_1 (.i 0) rfl ?_
 refine o_nil ?_
 refine c_lab (fun (q : Int × Int × Int × Int) => [(0, .t ((ptT 7 p0))), (1, .i p1), (2, .t (.d (.clo F2 C2))), (6, .box [.i 0, .i 0]), (8, .box [.s [], .i 0, .i 0, .i 0, .i 0]), (10, .box [.i q.1, .i q.2.1]), (11, .i q.2.2.1), (13, .i q.2.2.2), (HK, .hp (hpA w0))]) (fun nl1 => (fun (q : Int × Int × Int × Int) => m_index_Index_each_l1 p0 w0 p1 p2 nl1 q.1 q.2.1 q.2.2.1 q.2.2.2 = some r)) (16400) (x1.home_, x1.off_, x3.1, 0) [] rfl h rfl ⟨.inr ⟨_, rfl, pure_hpA _⟩, by (repeat (first | exact ObP.nil | refine ObP.cons (.inl rfl) ?_ | refine ObP.cons (.inr (fun _ => rfl)) ?_ | refine ObP.cons (.inr (ob_box (fl_noPt _ _))) ?_ | refine ObP.cons (.inr (ob_gb _ _)) ?_))⟩ ⟨.r, .r, .r, .r, .r, .r, .r, .r, .r, trivial⟩ rfl ?_
 rintro nl1 ⟨z6, z7, z8, z9⟩ h
 cases nl1 with
 | zero => exact none_ne h
 | succ nl1 =>
  refine c_seq (c_sr ?_)
  refine o_m2 (.i z8) (.b (z8 == 0)) rfl ?_
  refine o_nil ?_
  rcases bif_some h with ⟨h10, h⟩ | ⟨h10, h⟩
  ·
   refine c_t h10 rfl ?_
   refine c_sr ?_
   refine o_m2 (.t (.agg [.i 0, .i 0])) (.t (.agg [.s [], .i 0, .i 0, .i 0, .i 0])) rfl ?_
   refine o_st (.box [.i 0, .i 0]) (g0 rfl) rfl rfl rfl ?_
   refine o_1 (.i 0) rfl ?_
   refine o_st (.box [.s [], .i 0, .i 0, .i 0, .i 0]) (g0 rfl) rfl rfl rfl ?_
   refine o_1 (.i 35) rfl ?_
   refine o_nil (c_ret ?_)
   obtain rfl := Option.some.inj h
   exact ⟨⟨_, rfl, (.tup (.cons .r (.cons .r (.cons .r (.cons .r .nil)))))⟩, trivial, rfl⟩
  refine c_f h10 rfl ?_
  refine c_skip (c_sr ?_)
  refine o_of (e := [(38, .t ((ptT 7 p0)))]) (g0 rfl) (h_mv mR (.inl rfl) (cpO_pt rfl) rfl rfl) rfl ?_
  refine o_1 (.i z8) rfl ?_
  obtain ⟨x11, h12, h⟩ := bind_some h
  refine o_of (e := [(40, .tup [.y x11.1, .i x11.2])]) (g0 rfl) (h_callR mR rfl (σ := []) (fr := []) rfl rfl rfl rfl rfl rfl rfl (fch_index_Index_sector _ _ w0 _ h12) (pure_hpA _) rfl rfl rfl rfl (.cons (argPt rfl) (.cons (.plain .r rfl) .nil)) rfl (.tup (.cons (.flat rfl) (.cons (.flat rfl) .nil)))) rfl ?_
  refine o_m5 (.tup [.y x11.1, .i x11.2]) (.y x11.1) (.i x11.2) (.y x11.1) (.i x11.2) rfl ?_
  refine o_nil (c_seq (c_sr ?_))
  refine o_m2 (.i x11.2) (.b (x11.2 != 0)) rfl ?_
  refine o_nil ?_
  rcases bif_some h with ⟨h13, h⟩ | ⟨h13, h⟩
  ·
   refine c_t h13 rfl ?_
   refine c_sr ?_
   refine o_m3 (.t (.agg [.i 0, .i 0])) (.t (.agg [.s [], .i 0, .i 0, .i 0, .i 0])) (.i x11.2) rfl ?_
   refine o_st (.box [.i 0, .i 0]) (g0 rfl) rfl rfl rfl ?_
   refine o_1 (.i 0) rfl ?_
   refine o_st (.box [.s [], .i 0, .i 0, .i 0, .i 0]) (g0 rfl) rfl rfl rfl ?_
   refine o_1 (.i x11.2) rfl ?_
   refine o_nil (c_ret ?_)
   obtain rfl := Option.some.inj h
   exact ⟨⟨_, rfl, (.tup (.cons .r (.cons .r (.cons .r (.cons .r .nil)))))⟩, trivial, rfl⟩
  refine c_f h13 rfl ?_
  refine c_skip (c_sr ?_)
  refine o_1 (.y x11.1) rfl ?_
  obtain ⟨x14, h15, h⟩ := bind_some h
  refine o_of (e := [(50, .tup [.agg [.s x14.1.Entry.Key, .i x14.1.Entry.Version, .i x14.1.Entry.Len, .i x14.1.Entry.First, .i x14.1.next_], .b x14.2])]) (g0 rfl) (h_callR mR rfl (σ := []) (fr := []) rfl rfl rfl rfl rfl rfl rfl (fch_index_read _ w0 _ h15) (pure_hpA _) rfl rfl rfl rfl (.cons (.plain .r rfl) .nil) rfl (.tup (.cons (.flat rfl) (.cons (.flat rfl) .nil)))) rfl ?_
  refine o_m4 (.tup [.agg [.s x14.1.Entry.Key, .i x14.1.Entry.Version, .i x14.1.Entry.Len, .i x14.1.Entry.First, .i x14.1.next_], .b x14.2]) (.t (.agg [.s x14.1.Entry.Key, .i x14.1.Entry.Version, .i x14.1.Entry.Len, .i x14.1.Entry.First, .i x14.1.next_])) (.b x14.2) (.box [.s [], .i 0, .i 0, .i 0, .i 0]) rfl ?_
  refine o_st (.box [.s x14.1.Entry.Key, .i x14.1.Entry.Version, .i x14.1.Entry.Len, .i x14.1.Entry.First, .i x14.1.next_]) (g0 rfl) rfl rfl rfl ?_
  refine o_1 (.b x14.2) rfl ?_
  refine o_nil (c_sr ?_)
  refine o_m3 (.ref 15 0) (.ref 15 0) (.s x14.1.Entry.Key) rfl ?_
  obtain ⟨x16, h17, h⟩ := bind_some h
  refine o_ca (fc_index_Bucket _ _ h17) (g0 rfl) rfl rfl rfl rfl rfl rfl rfl (.cons .r .nil) rfl rfl ?_
  refine o_m5 (.tup [.i x16.1, .b x16.2]) (.i x16.1) (.b x16.2) (.i x16.1) (.b x16.2) rfl ?_
  refine o_nil (c_seq (c_sr ?_))
  refine o_m3 (.i z9) (.i (wi (z9 + 1))) (.i (wi (z9 + 1))) rfl ?_
  refine o_nil (c_sr ?_)
  refine o_m3 (.b x14.2) (.b (!x14.2)) (.b (!x14.2)) rfl ?_
  rcases bif_some h with ⟨h18, h⟩ | ⟨h18, h⟩
  ·
   refine o_skip rfl rfl rfl h18 rfl rfl ?_
   refine o_skip rfl rfl rfl h18 rfl rfl ?_
   refine o_skip rfl rfl rfl h18 rfl rfl ?_
   refine o_pk (.b true) (b := true) h18 (g0 rfl) rfl rfl rfl rfl rfl ?_
   refine o_1 (.b true) rfl ?_
   refine o_skip rfl rfl rfl rfl rfl rfl ?_
   refine o_skip rfl rfl rfl rfl rfl rfl ?_
   refine o_pk (.b true) (b := true) rfl (g0 rfl) rfl rfl rfl rfl rfl ?_
   refine o_nil ?_
   refine c_t rfl rfl ?_
   refine c_sr ?_
   refine o_m2 (.t (.agg [.i 0, .i 0])) (.t (.agg [.s [], .i 0, .i 0, .i 0, .i 0])) rfl ?_
   refine o_st (.box [.i 0, .i 0]) (g0 rfl) rfl rfl rfl ?_
   refine o_1 (.i 0) rfl ?_
   refine o_st (.box [.s [], .i 0, .i 0, .i 0, .i 0]) (g0 rfl) rfl rfl rfl ?_
   refine o_1 (.i 11) rfl ?_
   refine o_nil (c_ret ?_)
   obtain rfl := Option.some.inj h
   exact ⟨⟨_, rfl, (.tup (.cons .r (.cons .r (.cons .r (.cons .r .nil)))))⟩, trivial, rfl⟩
  refine o_s (.i x16.1) (gy rfl rfl rfl h18) rfl rfl rfl ?_
  refine o_s (.i p1) (gy rfl rfl rfl h18) rfl rfl rfl ?_
  refine o_s (.b (x16.1 != p1)) (gy rfl rfl rfl h18) rfl rfl rfl ?_
  refine o_pk (.b (x16.1 != p1)) (b := false) h18 (g0 rfl) rfl rfl rfl rfl rfl ?_
  refine o_1 (.b (x16.1 != p1)) rfl ?_
  rcases bif_some h with ⟨h19, h⟩ | ⟨h19, h⟩
  ·
   refine o_skip rfl rfl rfl h19 rfl rfl ?_
   refine o_skip rfl rfl rfl h19 rfl rfl ?_
   refine o_pk (.b true) (b := true) h19 (g0 rfl) rfl rfl rfl rfl rfl ?_
   refine o_nil ?_
   refine c_t rfl rfl ?_
   refine c_sr ?_
   refine o_m2 (.t (.agg [.i 0, .i 0])) (.t (.agg [.s [], .i 0, .i 0, .i 0, .i 0])) rfl ?_
   refine o_st (.box [.i 0, .i 0]) (g0 rfl) rfl rfl rfl ?_
   refine o_1 (.i 0) rfl ?_
   refine o_st (.box [.s [], .i 0, .i 0, .i 0, .i 0]) (g0 rfl) rfl rfl rfl ?_
   refine o_1 (.i 11) rfl ?_
   refine o_nil (c_ret ?_)
   obtain rfl := Option.some.inj h
   exact ⟨⟨_, rfl, (.tup (.cons .r (.cons .r (.cons .r (.cons .r .nil)))))⟩, trivial, rfl⟩
  refine o_s (.i (wi (z9 + 1))) (gy rfl rfl rfl h19) rfl rfl rfl ?_
  refine o_s (.b (decide ((wi (z9 + 1)) > 16384))) (gy rfl rfl rfl h19) rfl rfl rfl ?_
  refine o_pk (.b (decide ((wi (z9 + 1)) > 16384))) (b := false) h19 (g0 rfl) rfl rfl rfl rfl rfl ?_
  refine o_nil ?_
  rcases bif_some h with ⟨h20, h⟩ | ⟨h20, h⟩
  ·
   refine c_t h20 rfl ?_
   refine c_sr ?_
   refine o_m2 (.t (.agg [.i 0, .i 0])) (.t (.agg [.s [], .i 0, .i 0, .i 0, .i 0])) rfl ?_
   refine o_st (.box [.i 0, .i 0]) (g0 rfl) rfl rfl rfl ?_
   refine o_1 (.i 0) rfl ?_
   refine o_st (.box [.s [], .i 0, .i 0, .i 0, .i 0]) (g0 rfl) rfl rfl rfl ?_
   refine o_1 (.i 11) rfl ?_
   refine o_nil (c_ret ?_)
   obtain rfl := Option.some.inj h
   exact ⟨⟨_, rfl, (.tup (.cons .r (.cons .r (.cons .r (.cons .r .nil)))))⟩, trivial, rfl⟩
  refine c_f h20 rfl ?_
  refine c_skip (c_seq (c_sr ?_))
  refine o_m3 (.t (.d (.clo F2 C2))) (.i z8) (.t (.agg [.s x14.1.Entry.Key, .i x14.1.Entry.Version, .i x14.1.Entry.Len, .i x14.1.Entry.First, .i x14.1.next_])) rfl ?_
  obtain ⟨x21, h22, h⟩ := bind_some h
  refine o_cc (hp2 _ _ _ h22) (g0 rfl) rfl rfl rfl rfl hf2.choose_spec.1 hf2.choose_spec.2.1 hf2.choose_spec.2.2 (.cons .r (.cons .r .nil)) rfl rfl ?_
  refine o_nil ?_
  rcases bif_some h with ⟨h23, h⟩ | ⟨h23, h⟩
  ·
   refine c_t h23 rfl ?_
   refine c_seq ?_
   refine c_draw mixed (by kernel_rfl) ?_
   refine d_s (.t (.agg [.i z6, .i z7])) rfl (dg0 rfl) rfl rfl rfl rfl ?_
   refine d_s (.i z8) rfl (dg0 rfl) rfl rfl rfl rfl ?_
   refine d_s (.t (.agg [.s x14.1.Entry.Key, .i x14.1.Entry.Version, .i x14.1.Entry.Len, .i x14.1.Entry.First, .i x14.1.next_])) rfl (dg0 rfl) rfl rfl rfl rfl ?_
   refine d_st (.box [.i z6, .i z7]) rfl (dg0 rfl) rfl rfl rfl rfl ?_
   refine d_s (.i z8) rfl (dg0 rfl) rfl rfl rfl rfl ?_
   refine d_st (.box [.s x14.1.Entry.Key, .i x14.1.Entry.Version, .i x14.1.Entry.Len, .i x14.1.Entry.First, .i x14.1.next_]) rfl (dg0 rfl) rfl rfl rfl rfl ?_
   refine d_s (.i 0) rfl (dg0 rfl) rfl rfl rfl rfl ?_
   refine d_nil (by kernel_rfl) ?_
   refine c_ret ?_
   obtain rfl := Option.some.inj h
   exact ⟨⟨_, rfl, (.tup (.cons .r (.cons .r (.cons .r (.cons .r .nil)))))⟩, trivial, rfl⟩
  refine c_f h23 rfl ?_
  refine c_skip (c_seq ?_)
  refine c_draw mixed (by kernel_rfl) ?_
  refine d_s (.i z8) rfl (dg0 rfl) rfl rfl rfl rfl ?_
  refine d_s (.t (.agg [.i z8, .i 0])) rfl (dg0 rfl) rfl rfl rfl rfl ?_
  refine d_s (.ref 15 4) rfl (dg0 rfl) rfl rfl rfl rfl ?_
  refine d_s (.i x14.1.next_) rfl (dg0 rfl) rfl rfl rfl rfl ?_
  refine d_st (.box [.i z8, .i 0]) rfl (dg0 rfl) rfl rfl rfl rfl ?_
  refine d_s (.i x14.1.next_) rfl (dg0 rfl) rfl rfl rfl rfl ?_
  refine d_nil (by kernel_rfl) ?_
  refine c_goto (gq_goto ?_)
  exact ⟨nl1, (z8, 0, x14.1.next_, (wi (z9 + 1))), [], Nat.lt_succ_self nl1, h, rfl, ⟨.inr ⟨_, rfl, pure_hpA _⟩, by (repeat (first | exact ObP.nil | refine ObP.cons (.inl rfl) ?_ | refine ObP.cons (.inr (fun _ => rfl)) ?_ | refine ObP.cons (.inr (ob_box (fl_noPt _ _))) ?_ | refine ObP.cons (.inr (ob_gb _ _)) ?_))⟩, ⟨.r, .r, .r, .r, .r, .r, .r, .r, .r, trivial⟩, rfl⟩
theorem fc_index_Index_find_c1 (p0 : Int) (p1 : S_index_node) (c2 : (List UInt8)) (r : Bool) (h : m_index_Index_find_c1 p0 p1 c2 = some r) : FC Try.prog 120 [.t (.d (.lit (.int .i64 p0))), .t (.agg [.lit (.string ⟨⟨p1.Entry.Key⟩⟩), .lit (.int .i64 p1.Entry.Version), .lit (.int .i64 p1.Entry.Len), .lit (.int .i64 p1.Entry.First), .lit (.int .i64 p1.next_)]), .imm [.lit (.string ⟨⟨c2⟩⟩)]] [] (.t (.d (.lit (.bool r)))) := by
 refine fc_mk (rs := [.tmp 5]) (n := 11) Try.func120 rfl rfl (Nat.le_of_ble_eq_true rfl) rfl (pins := []) rfl (L := [(0, .i p0), (1, .t (.agg [.s p1.Entry.Key, .i p1.Entry.Version, .i p1.Entry.Len, .i p1.Entry.First, .i p1.next_])), (2, .imm [.s c2])]) rfl ?_
 refine c_sr ?_
 refine o_m2 (.box [.s p1.Entry.Key, .i p1.Entry.Version, .i p1.Entry.Len, .i p1.Entry.First, .i p1.next_]) (.b false) rfl ?_
 refine o_nil (c_sr ?_)
 refine o_m4 (.ref 4 0) (.ref 4 0) (.s p1.Entry.Key) (.s c2) rfl ?_
 refine o_c (g0 rfl) rfl rfl rfl (congrArg (fun z => A.b z) (str_beqL _ _)) trivial ?_
 refine o_1 (.b (p1.Entry.Key == c2)) rfl ?_
 refine o_nil (c_ret ?_)
 obtain rfl := Option.some.inj h
 exact end0 rfl .r
theorem fch_index_Index_find (p0 : (Option Nat)) (p1 : (List UInt8)) (w0 : Hp) (r : (S_index_spot × Int × S_index_node × Int)) (h : m_index_Index_find p0 p1 w0 = some r) : FCH Try.prog 90 [.t ((ptT 7 p0)), .t (.d (.lit (.string ⟨⟨p1⟩⟩)))] [] [] (hpA w0) (hpA w0) (.tup [.agg [.lit (.int .i64 r.1.home_), .lit (.int .i64 r.1.off_)], .d (.lit (.int .i64 r.2.1)), .agg [.lit (.string ⟨⟨r.2.2.1.Entry.Key⟩⟩), .lit (.int .i64 r.2.2.1.Entry.Version), .lit (.int .i64 r.2.2.1.Entry.Len), .lit (.int .i64 r.2.2.1.Entry.First), .lit (.int .i64 r.2.2.1.next_)], .d (.lit (.int .i64 r.2.2.2))]) := by
 refine fch_mk (rs := [.cell 4 148, .tmp 5, .cell 6 150, .tmp 7]) (n := 27) [] Try.func90 rfl rfl (Nat.le_of_ble_eq_true rfl) rfl (pins := []) rfl (L := [(HK, .hp (hpA w0)), (0, .t ((ptT 7 p0))), (1, .s p1)]) rfl ?_
 refine c_sr ?_
 refine o_m5 (.box [.s p1]) (.box [.i 0, .i 0]) (.i 0) (.box [.s [], .i 0, .i 0, .i 0, .i 0]) (.i 0) rfl ?_
 refine o_nil (c_sr ?_)
 refine o_1 (.s p1) rfl ?_
 obtain ⟨x1, h2, h⟩ := bind_some h
 refine o_ca (fc_index_Bucket _ _ h2) (g0 rfl) rfl rfl rfl rfl rfl rfl rfl (.cons .r .nil) rfl rfl ?_
 refine o_m5 (.tup [.i x1.1, .b x1.2]) (.i x1.1) (.b x1.2) (.i x1.1) (.b x1.2) rfl ?_
 refine o_nil (c_seq (c_sr ?_))
 refine o_m2 (.b x1.2) (.b (!x1.2)) rfl ?_
 refine o_nil ?_
 rcases bif_some h with ⟨h3, h⟩ | ⟨h3, h⟩
 ·
  refine c_t h3 rfl ?_
  refine c_sr ?_
  refine o_m2 (.t (.agg [.i 0, .i 0])) (.t (.agg [.s [], .i 0, .i 0, .i 0, .i 0])) rfl ?_
  refine o_st (.box [.i 0, .i 0]) (g0 rfl) rfl rfl rfl ?_
  refine o_1 (.i 0) rfl ?_
  refine o_st (.box [.s [], .i 0, .i 0, .i 0, .i 0]) (g0 rfl) rfl rfl rfl ?_
  refine o_1 (.i 2) rfl ?_
  refine o_nil (c_ret ?_)
  obtain rfl := Option.some.inj h
  exact ⟨⟨_, rfl, (.tup (.cons .r (.cons .r (.cons .r (.cons .r .nil)))))⟩, trivial, rfl⟩
 refine c_f h3 rfl ?_
 refine c_skip (c_seq ?_)
 refine c_fz 3 (.imm [.s p1]) rfl rfl rfl rfl ?_
 refine c_region ?_
 refine o_of (e := [(19, .t ((ptT 7 p0)))]) (g0 rfl) (h_mv mR (.inl rfl) (cpO_pt rfl) rfl rfl) rfl ?_
 refine o_1 (.i x1.1) rfl ?_
 refine o_mfc (.t (.d (.clo 120 [[.s p1]]))) (g0 rfl) rfl rfl rfl rfl rfl ?_
 obtain ⟨x4, h5, h⟩ := bind_some h
 refine o_of (e := [(22, .tup [.agg [.i x4.1.home_, .i x4.1.off_], .i x4.2.1, .agg [.s x4.2.2.1.Entry.Key, .i x4.2.2.1.Entry.Version, .i x4.2.2.1.Entry.Len, .i x4.2.2.1.Entry.First, .i x4.2.2.1.next_], .i x4.2.2.2])]) (g0 rfl) (h_callR mR rfl (σ := []) (fr := []) rfl rfl rfl rfl rfl rfl rfl (fch_index_Index_each _ _ 120 [[.s p1]] _ (fun a0 a1 r h => fc_index_Index_find_c1 a0 a1 p1 r h) ⟨_, Try.func120, rfl, rfl⟩ w0 _ h5) (pure_hpA _) rfl rfl rfl rfl (.cons (argPt rfl) (.cons (.plain .r rfl) (.cons (.plain .r rfl) .nil))) rfl (.tup (.cons (.flat rfl) (.cons (.flat rfl) (.cons (.flat rfl) (.cons (.flat rfl) .nil)))))) rfl ?_
 refine o_m4 (.t (.agg [.i x4.1.home_, .i x4.1.off_])) (.i x4.2.1) (.t (.agg [.s x4.2.2.1.Entry.Key, .i x4.2.2.1.Entry.Version, .i x4.2.2.1.Entry.Len, .i x4.2.2.1.Entry.First, .i x4.2.2.1.next_])) (.i x4.2.2.2) rfl ?_
 refine o_st (.box [.i x4.1.home_, .i x4.1.off_]) (g0 rfl) rfl rfl rfl ?_
 refine o_1 (.i x4.2.1) rfl ?_
 refine o_st (.box [.s x4.2.2.1.Entry.Key, .i x4.2.2.1.Entry.Version, .i x4.2.2.1.Entry.Len, .i x4.2.2.1.Entry.First, .i x4.2.2.1.next_]) (g0 rfl) rfl rfl rfl ?_
 refine o_1 (.i x4.2.2.2) rfl ?_
 refine o_nil (c_ret ?_)
 obtain rfl := Option.some.inj h
 exact ⟨⟨_, rfl, (.tup (.cons .r (.cons .r (.cons .r (.cons .r .nil)))))⟩, trivial, rfl⟩
theorem fch_index_Index_Find (p0 : (Option Nat)) (p1 : (List UInt8)) (w0 : Hp) (r : (S_api_Entry × Int × Int)) (h : m_index_Index_Find p0 p1 w0 = some r) : FCH Try.prog 51 [.t ((ptT 7 p0)), .t (.d (.lit (.string ⟨⟨p1⟩⟩)))] [] [] (hpA w0) (hpA w0) (.tup [.agg [.lit (.string ⟨⟨r.1.Key⟩⟩), .lit (.int .i64 r.1.Version), .lit (.int .i64 r.1.Len), .lit (.int .i64 r.1.First)], .d (.lit (.int .i64 r.2.1)), .d (.lit (.int .i64 r.2.2))]) := by
 refine fch_mk (rs := [.cell 4 78, .tmp 5, .tmp 6]) (n := 23) [] Try.func51 rfl rfl (Nat.le_of_ble_eq_true rfl) rfl (pins := []) rfl (L := [(HK, .hp (hpA w0)), (0, .t ((ptT 7 p0))), (1, .s p1)]) rfl ?_
 refine c_sr ?_
 refine o_m3 (.box [.s [], .i 0, .i 0, .i 0]) (.i 0) (.i 0) rfl ?_
 refine o_nil (c_sr ?_)
 refine o_of (e := [(12, .t ((ptT 7 p0)))]) (g0 rfl) (h_mv mR (.inl rfl) (cpO_pt rfl) rfl rfl) rfl ?_
 refine o_1 (.s p1) rfl ?_
 obtain ⟨x1, h2, h⟩ := bind_some h
 refine o_of (e := [(14, .tup [.agg [.i x1.1.home_, .i x1.1.off_], .i x1.2.1, .agg [.s x1.2.2.1.Entry.Key, .i x1.2.2.1.Entry.Version, .i x1.2.2.1.Entry.Len, .i x1.2.2.1.Entry.First, .i x1.2.2.1.next_], .i x1.2.2.2])]) (g0 rfl) (h_callR mR rfl (σ := []) (fr := []) rfl rfl rfl rfl rfl rfl rfl (fch_index_Index_find _ _ w0 _ h2) (pure_hpA _) rfl rfl rfl rfl (.cons (argPt rfl) (.cons (.plain .r rfl) .nil)) rfl (.tup (.cons (.flat rfl) (.cons (.flat rfl) (.cons (.flat rfl) (.cons (.flat rfl) .nil)))))) rfl ?_
 refine o_m7 (.tup [.agg [.i x1.1.home_, .i x1.1.off_], .i x1.2.1, .agg [.s x1.2.2.1.Entry.Key, .i x1.2.2.1.Entry.Version, .i x1.2.2.1.Entry.Len, .i x1.2.2.1.Entry.First, .i x1.2.2.1.next_], .i x1.2.2.2]) (.t (.agg [.i x1.1.home_, .i x1.1.off_])) (.i x1.2.1) (.t (.agg [.s x1.2.2.1.Entry.Key, .i x1.2.2.1.Entry.Version, .i x1.2.2.1.Entry.Len, .i x1.2.2.1.Entry.First, .i x1.2.2.1.next_])) (.i x1.2.2.2) (.box [.i 0, .i 0]) (.box [.s [], .i 0, .i 0, .i 0, .i 0]) rfl ?_
 refine o_st (.box [.i x1.1.home_, .i x1.1.off_]) (g0 rfl) rfl rfl rfl ?_
 refine o_1 (.i x1.2.1) rfl ?_
 refine o_st (.box [.s x1.2.2.1.Entry.Key, .i x1.2.2.1.Entry.Version, .i x1.2.2.1.Entry.Len, .i x1.2.2.1.Entry.First, .i x1.2.2.1.next_]) (g0 rfl) rfl rfl rfl ?_
 refine o_1 (.i x1.2.2.2) rfl ?_
 refine o_nil (c_sr ?_)
 refine o_m4 (.ref 9 0) (.t (.agg [.s x1.2.2.1.Entry.Key, .i x1.2.2.1.Entry.Version, .i x1.2.2.1.Entry.Len, .i x1.2.2.1.Entry.First])) (.i x1.2.1) (.i x1.2.2.2) rfl ?_
 refine o_st (.box [.s x1.2.2.1.Entry.Key, .i x1.2.2.1.Entry.Version, .i x1.2.2.1.Entry.Len, .i x1.2.2.1.Entry.First]) (g0 rfl) rfl rfl rfl ?_
 refine o_m2 (.i x1.2.1) (.i x1.2.2.2) rfl ?_
 refine o_nil (c_ret ?_)
 obtain rfl := Option.some.inj h
 exact ⟨⟨_, rfl, (.tup (.cons .r (.cons .r (.cons .r .nil))))⟩, trivial, rfl⟩
theorem fch_disk_Disk_Read_r (p0 : (Option Nat)) (p1 : Int) (w0 : Hp) (r : ((List UInt8) × Int)) (h : m_disk_Disk_Read_r p0 p1 w0 = some r) : FCH Try.prog 20 [.t ((ptT 1 p0)), .t (.d (.lit (.int .i64 p1)))] [] [gbA cU8 r.1] (hpA w0) (hpA w0) (.tup [.view 0 0 0 1 r.1.length, .d (.lit (.int .i64 r.2))]) := by
 refine fch_mk (rs := [.tmp 4, .tmp 5]) (n := 22) [0] Try.func20 rfl rfl (Nat.le_of_ble_eq_true rfl) rfl (pins := []) rfl (L := [(HK, .hp (hpA w0)), (OB + 0, .free), (0, .t ((ptT 1 p0))), (1, .i p1)]) rfl ?_
 refine c_sr ?_
 refine o_m2 (.n) (.i 0) rfl ?_
 refine o_nil (c_seq (c_sr ?_))
 refine o_of (e := [(8, .t ((ptT 1 p0)))]) (g0 rfl) (h_mv mR (.inl rfl) (cpO_pt rfl) rfl rfl) rfl ?_
 refine o_1 (.i p1) rfl ?_
 obtain ⟨x1, h2, h⟩ := bind_some h
 refine o_of (e := [(10, .i x1)]) (g0 rfl) (h_callR mR rfl (σ := []) (fr := []) rfl rfl rfl rfl rfl rfl rfl (fch_disk_Disk_may _ _ w0 _ h2) (pure_hpA _) rfl rfl rfl rfl (.cons (argPt rfl) (.cons (.plain .r rfl) .nil)) rfl (.t (.flat rfl))) rfl ?_
 refine o_1 (.i x1) rfl ?_
 refine o_nil (c_sr ?_)
 refine o_m2 (.i x1) (.b (x1 != 0)) rfl ?_
 refine o_nil ?_
 rcases bif_some h with ⟨h3, h⟩ | ⟨h3, h⟩
 ·
  refine c_t h3 rfl ?_
  refine c_sr ?_
  refine o_m3 (.i x1) (.n) (.i x1) rfl ?_
  refine o_nil (c_ret ?_)
  obtain rfl := Option.some.inj h
  exact ⟨⟨_, rfl, (.tup (.cons (.nilView _ _ _ _) (.cons .r .nil)))⟩, ⟨rfl, trivial⟩, rfl⟩
 refine c_f h3 rfl ?_
 refine c_skip (c_sr ?_)
 refine o_of (e := [(14, .t ((ptT 1 p0)))]) (g0 rfl) (h_mv mR (.inl rfl) (cpO_pt rfl) rfl rfl) rfl ?_
 rcases ptM_some h with ⟨h4, h⟩ | ⟨i5, h4, h⟩
 ·
  exact none_ne h
 refine o_of (e := [(15, .t (.hpt (cd 1 i5) 0))]) (g0 rfl) (h_nc mR rfl (cpO_pt rfl) (ptT_some h4) rfl rfl) rfl ?_
 refine o_of (e := [(16, .t (.hpt (cd 1 i5) 1))]) (g0 rfl) (h_fd mR rfl rfl rfl rfl rfl rfl) rfl ?_
 obtain ⟨x6, h7, h⟩ := bind_some h
 refine o_of (e := [(17, .t (.hvw (cd 2 x6.now_.1) 0 119 64 x6.now_.2))]) (g0 rfl) (h_ld mR rfl rfl rfl rfl (gl_dk h7) rfl rfl rfl rfl) rfl ?_
 refine o_1 (.i p1) rfl ?_
 obtain ⟨x8, h9, h⟩ := bind_some h
 obtain ⟨x10, h11, h⟩ := bind_some h
 obtain ⟨x12, h13, h⟩ := bind_some h
 refine o_of (e := [(19, .t (.hpt (cd 2 x6.now_.1) (0 + Int.toNat p1 * 64)))]) (g0 rfl) (h_ix mR rfl rfl rfl rfl (idxV (lenI_eq h11) h13) rfl rfl rfl) rfl ?_
 refine o_of (e := [(20, .t (.agg (ar cU8 (0 : UInt8) x12 0 64)))]) (g0 rfl) (h_lr mR rfl rfl rfl rfl (gl_sec h9) (flr_at (k := 64) h13 (fun _ => (by kernel_rfl))) (by kernel_rfl) (by kernel_rfl) (by kernel_rfl) rfl rfl) rfl ?_
 refine o_of (e := [((OB + 0), .box (fl (dT cU8) (padA (0 : UInt8) ([] : (List UInt8)) 0 64))), (7, .t (.ptr 0 0))]) (g0 rfl) (h_lnew mR rfl rfl rfl rfl (by kernel_rfl) rfl rfl rfl rfl) rfl ?_
 refine o_of (e := [((OB + 0), .box (fl (dT cU8) (padA (0 : UInt8) x12 0 64)))]) (g0 rfl) (h_lst mR rfl rfl rfl rfl rfl rfl (by kernel_rfl) (Nat.le_of_ble_eq_true (by kernel_rfl)) (by kernel_rfl)) rfl ?_
 refine o_nil (c_sr ?_)
 refine o_of (e := [(21, .t (.view 0 0 0 1 64))]) (g0 rfl) (h_sla mR rfl rfl rfl rfl rfl rfl rfl (by kernel_rfl) rfl (by decide) rfl rfl rfl) rfl ?_
 refine o_m2 (.t (.view 0 0 0 1 64)) (.i 0) rfl ?_
 refine o_nil (c_ret ?_)
 obtain rfl := Option.some.inj h
 exact ⟨⟨_, rfl, (.tup (.cons .r (.cons .r .nil)))⟩, ⟨rfl, trivial⟩, rfl⟩
theorem fch_wal_Log_Read_r (p0 : (Option Nat)) (p1 : Int) (w0 : Hp) (r : ((List UInt8) × Int)) (h : m_wal_Log_Read_r p0 p1 w0 = some r) : FCH Try.prog 57 [.t ((ptT 3 p0)), .t (.d (.lit (.int .i64 p1)))] [] [gbA cU8 r.1] (hpA w0) (hpA w0) (.tup [.view 0 0 0 1 r.1.length, .d (.lit (.int .i64 r.2))]) := by
 refine fch_mk (rs := [.tmp 4, .tmp 5]) (n := 30) [0] Try.func57 rfl rfl (Nat.le_of_ble_eq_true rfl) rfl (pins := []) rfl (L := [(HK, .hp (hpA w0)), (OB + 0, .free), (0, .t ((ptT 3 p0))), (1, .i p1)]) rfl ?_
 refine c_sr ?_
 refine o_m2 (.n) (.i 0) rfl ?_
 refine o_nil (c_seq (c_sr ?_))
 refine o_of (e := [(7, .t ((ptT 3 p0)))]) (g0 rfl) (h_mv mR (.inl rfl) (cpO_pt rfl) rfl rfl) rfl ?_
 obtain ⟨x1, h2, h⟩ := bind_some h
 refine o_of (e := [(8, .i x1)]) (g0 rfl) (h_callR mR rfl (σ := []) (fr := []) rfl rfl rfl rfl rfl rfl rfl (fch_wal_Log_alive _ w0 _ h2) (pure_hpA _) rfl rfl rfl rfl (.cons (argPt rfl) .nil) rfl (.t (.flat rfl))) rfl ?_
 refine o_1 (.i x1) rfl ?_
 refine o_nil (c_sr ?_)
 refine o_m2 (.i x1) (.b (x1 != 0)) rfl ?_
 refine o_nil ?_
 rcases bif_some h with ⟨h3, h⟩ | ⟨h3, h⟩
 ·
  refine c_t h3 rfl ?_
  refine c_sr ?_
  refine o_m3 (.i x1) (.n) (.i x1) rfl ?_
  refine o_nil (c_ret ?_)
  obtain rfl := Option.some.inj h
  exact ⟨⟨_, rfl, (.tup (.cons (.nilView _ _ _ _) (.cons .r .nil)))⟩, ⟨rfl, trivial⟩, rfl⟩
 refine c_f h3 rfl ?_
 refine c_skip (c_seq (c_sr ?_))
 refine o_m3 (.i p1) (.b (decide (p1 < 0))) (.b (decide (p1 < 0))) rfl ?_
 rcases bif_some h with ⟨h4, h⟩ | ⟨h4, h⟩
 ·
  refine o_skip rfl rfl rfl h4 rfl rfl ?_
  refine o_skip rfl rfl rfl h4 rfl rfl ?_
  refine o_skip rfl rfl rfl h4 rfl rfl ?_
  refine o_skip rfl rfl rfl h4 rfl rfl ?_
  refine o_pk (.b true) (b := true) h4 (g0 rfl) rfl rfl rfl rfl rfl ?_
  refine o_nil ?_
  refine c_t rfl rfl ?_
  refine c_sr ?_
  refine o_m2 (.n) (.i 31) rfl ?_
  refine o_nil (c_ret ?_)
  obtain rfl := Option.some.inj h
  exact ⟨⟨_, rfl, (.tup (.cons (.nilView _ _ _ _) (.cons .r .nil)))⟩, ⟨rfl, trivial⟩, rfl⟩
 refine o_s (.i p1) (gy rfl rfl rfl h4) rfl rfl rfl ?_
 refine o_of (e := [(16, .t ((ptT 3 p0)))]) (gy rfl rfl rfl h4) (h_mv mR (.inl rfl) (cpO_pt rfl) rfl rfl) rfl ?_
 obtain ⟨x5, h6, h⟩ := bind_some h
 refine o_of (e := [(17, .i x5)]) (gy rfl rfl rfl h4) (h_callR mR rfl (σ := []) (fr := []) rfl rfl rfl rfl rfl rfl rfl (fch_wal_Log_Homes _ w0 _ h6) (pure_hpA _) rfl rfl rfl rfl (.cons (argPt rfl) .nil) rfl (.t (.flat rfl))) rfl ?_
 refine o_s (.b (decide (p1 ≥ x5))) (gy rfl rfl rfl h4) rfl rfl rfl ?_
 refine o_pk (.b (decide (p1 ≥ x5))) (b := false) h4 (g0 rfl) rfl rfl rfl rfl rfl ?_
 refine o_nil ?_
 rcases bif_some h with ⟨h7, h⟩ | ⟨h7, h⟩
 ·
  refine c_t h7 rfl ?_
  refine c_sr ?_
  refine o_m2 (.n) (.i 31) rfl ?_
  refine o_nil (c_ret ?_)
  obtain rfl := Option.some.inj h
  exact ⟨⟨_, rfl, (.tup (.cons (.nilView _ _ _ _) (.cons .r .nil)))⟩, ⟨rfl, trivial⟩, rfl⟩
 refine c_f h7 rfl ?_
 refine c_skip (c_seq ?_)
 refine c_draw mixed (by kernel_rfl) ?_
 rcases ptM_some h with ⟨h8, h⟩ | ⟨i9, h8, h⟩
 ·
  refine d_h0 [] (e := [(20, .t (.d (.lit (.pointer none))))]) (ks := [20]) rfl (dg0 rfl) rfl rfl (fun S' hM hok => h_mv hM (.inl rfl) ((cpO_pt rfl).trans (pt_eq_none h8)) rfl (hok _ rfl rfl)) rfl ?_
  exact none_ne h
 refine d_h0 [] (e := [(20, .t (.hpt (cd 3 i9) 0))]) (ks := [20]) rfl (dg0 rfl) rfl rfl (fun S' hM hok => h_mv hM (.inl rfl) ((cpO_pt rfl).trans (pt_eq_some h8)) rfl (hok _ rfl rfl)) rfl ?_
 refine d_h0 [] (e := [(21, .t (.hpt (cd 3 i9) 0))]) (ks := [21]) rfl (dg0 rfl) rfl rfl (fun S' hM hok => h_nc hM rfl rfl rfl rfl (hok _ rfl rfl)) rfl ?_
 refine d_h0 [] (e := [(22, .t (.hpt (cd 3 i9) 0))]) (ks := [22]) rfl (dg0 rfl) rfl rfl (fun S' hM hok => h_fd hM rfl rfl rfl rfl rfl (hok _ rfl rfl)) rfl ?_
 obtain ⟨x10, h11, h⟩ := bind_some h
 refine d_h (e := [(23, .t ((ptT 1 x10.d_)))]) (ks := [23]) rfl (dg0 rfl) rfl rfl (fun S' hM hk hok => h_ld hM hk rfl rfl rfl (gl_lg h11) rfl (norH_pt _ _) rfl (hok _ rfl rfl)) rfl ?_
 refine d_h0 [] (e := [(24, .t (.hpt (cd 3 i9) 0))]) (ks := [24]) rfl (dg0 rfl) rfl rfl (fun S' hM hok => h_mv hM (.inl rfl) ((cpO_pt rfl).trans (pt_eq_some h8)) rfl (hok _ rfl rfl)) rfl ?_
 refine d_s (.i p1) rfl (dg0 rfl) rfl rfl rfl rfl ?_
 obtain ⟨x12, h13, h⟩ := bind_some h
 refine d_h (e := [(26, .i x12)]) (ks := [26]) rfl (dg0 rfl) rfl rfl (fun S' hM hk hok => h_callR hM hk (σ := []) (fr := []) rfl rfl rfl (hok _ rfl rfl) rfl rfl rfl (fch_wal_Log_home _ _ w0 _ h13) (pure_hpA _) rfl rfl rfl rfl (.cons (.hpt _ _) (.cons (.plain .r rfl) .nil)) rfl (.t (.flat rfl))) rfl ?_
 obtain ⟨x14, h15, h⟩ := bind_some h
 refine d_hm [OB + 0] (e := [((OB + 0), gbA cU8 x14.1), (27, .tup [.view 0 0 0 1 x14.1.length, .i x14.2])]) (ks := [(OB + 0), 27]) rfl (dg0 rfl) rfl rfl (fun S' hM hk hS hok => h_callR hM hk (σ := []) (fr := [0]) rfl rfl rfl (hok _ rfl rfl) rfl rfl rfl (fch_disk_Disk_Read_r _ _ w0 _ h15) (pure_hpA _) rfl rfl (by simp [gb_flatO]) rfl (.cons (argPt rfl) (.cons (.plain .r rfl) .nil)) rfl (.tup (.cons (.view rfl) (.cons (.flat rfl) .nil)))) rfl ?_
 refine d_s (.t (.view 0 0 0 1 x14.1.length)) rfl (dg0 rfl) rfl rfl rfl rfl ?_
 refine d_s (.i x14.2) rfl (dg0 rfl) rfl rfl rfl rfl ?_
 refine d_s (.t (.view 0 0 0 1 x14.1.length)) rfl (dg0 rfl) rfl rfl rfl rfl ?_
 refine d_s (.i x14.2) rfl (dg0 rfl) rfl rfl rfl rfl ?_
 refine d_nil (by kernel_rfl) ?_
 refine c_ret ?_
 obtain rfl := Option.some.inj h
 exact ⟨⟨_, rfl, (.tup (.cons .r (.cons .r .nil)))⟩, ⟨rfl, trivial⟩, rfl⟩
theorem fch_wal_Txn_Read_r (p0 : (Option Nat)) (p1 : Int) (w0 : Hp) (r : ((List UInt8) × Int)) (h : m_wal_Txn_Read_r p0 p1 w0 = some r) : FCH Try.prog 31 [.t ((ptT 5 p0)), .t (.d (.lit (.int .i64 p1)))] [] [gbA cU8 r.1] (hpA w0) (hpA w0) (.tup [.view 0 0 0 1 r.1.length, .d (.lit (.int .i64 r.2))]) := by
 refine fch_mk (rs := [.tmp 4, .tmp 5]) (n := 34) [0] Try.func31 rfl rfl (Nat.le_of_ble_eq_true rfl) rfl (pins := []) rfl (L := [(HK, .hp (hpA w0)), (OB + 0, .free), (0, .t ((ptT 5 p0))), (1, .i p1)]) rfl ?_
 refine c_sr ?_
 refine o_m2 (.n) (.i 0) rfl ?_
 refine o_nil (c_seq (c_sr ?_))
 refine o_of (e := [(9, .t ((ptT 5 p0)))]) (g0 rfl) (h_mv mR (.inl rfl) (cpO_pt rfl) rfl rfl) rfl ?_
 obtain ⟨x1, h2, h⟩ := bind_some h
 refine o_of (e := [(10, .i x1)]) (g0 rfl) (h_callR mR rfl (σ := []) (fr := []) rfl rfl rfl rfl rfl rfl rfl (fch_wal_Txn_alive _ w0 _ h2) (pure_hpA _) rfl rfl rfl rfl (.cons (argPt rfl) .nil) rfl (.t (.flat rfl))) rfl ?_
 refine o_1 (.i x1) rfl ?_
 refine o_nil (c_sr ?_)
 refine o_m2 (.i x1) (.b (x1 != 0)) rfl ?_
 refine o_nil ?_
 rcases bif_some h with ⟨h3, h⟩ | ⟨h3, h⟩
 ·
  refine c_t h3 rfl ?_
  refine c_sr ?_
  refine o_m3 (.i x1) (.n) (.i x1) rfl ?_
  refine o_nil (c_ret ?_)
  obtain rfl := Option.some.inj h
  exact ⟨⟨_, rfl, (.tup (.cons (.nilView _ _ _ _) (.cons .r .nil)))⟩, ⟨rfl, trivial⟩, rfl⟩
 refine c_f h3 rfl ?_
 refine c_skip (c_seq (c_sr ?_))
 refine o_of (e := [(15, .t ((ptT 5 p0)))]) (g0 rfl) (h_mv mR (.inl rfl) (cpO_pt rfl) rfl rfl) rfl ?_
 rcases ptM_some h with ⟨h4, h⟩ | ⟨i5, h4, h⟩
 ·
  exact none_ne h
 refine o_of (e := [(16, .t (.hpt (cd 5 i5) 0))]) (g0 rfl) (h_nc mR rfl (cpO_pt rfl) (ptT_some h4) rfl rfl) rfl ?_
 refine o_of (e := [(17, .t (.hpt (cd 5 i5) 3))]) (g0 rfl) (h_fd mR rfl rfl rfl rfl rfl rfl) rfl ?_
 obtain ⟨x6, h7, h⟩ := bind_some h
 refine o_of (e := [(18, .t (.mpt (OB + cd 6 x6.now_)))]) (g0 rfl) (h_ld mR rfl rfl rfl rfl (gl_tx h7) rfl rfl rfl rfl) rfl ?_
 refine o_1 (.i p1) rfl ?_
 obtain ⟨x8, h9, h⟩ := bind_some h
 refine o_of (e := [(20, .tup [.y ((mfind x8 p1).getD ([] : (List UInt8))), .b ((mfind x8 p1).isSome)])]) (g0 rfl) (h_mlk2H (kv := (fun z : Int => Value.int .i64 z)) (cv := (fun l : List UInt8 => D.y l)) mR rfl rfl rfl (gl_mp h9) rfl rfl (keyInt (by kernel_rfl)) rfl rfl (fun _ => RepD.nilSeq _ _) rfl rfl) rfl ?_
 refine o_m5 (.tup [.y ((mfind x8 p1).getD ([] : (List UInt8))), .b ((mfind x8 p1).isSome)]) (.y ((mfind x8 p1).getD ([] : (List UInt8)))) (.b ((mfind x8 p1).isSome)) (.y ((mfind x8 p1).getD ([] : (List UInt8)))) (.b ((mfind x8 p1).isSome)) rfl ?_
 refine o_nil (c_sr ?_)
 refine o_1 (.b ((mfind x8 p1).isSome)) rfl ?_
 refine o_nil ?_
 rcases bif_some h with ⟨h10, h⟩ | ⟨h10, h⟩
 ·
  refine c_t h10 rfl ?_
  refine c_sr ?_
  refine o_1 (.y ((mfind x8 p1).getD ([] : (List UInt8)))) rfl ?_
  obtain ⟨x11, h12, h⟩ := bind_some h
  rcases bif_some h with ⟨h13, h⟩ | ⟨h13, h⟩
  ·
   exact none_ne h
  refine o_of (e := [((OB + 0), gbA cU8 x11), (25, .t (.view 0 0 5 1 x11.length))]) (g0 rfl) (h_callobj (c := cU8) mR rfl rfl rfl rfl rfl rfl rfl (fc_slices_Clone_byte_o _ _ h12) (.cons .r .nil) rfl rfl rfl (by rw [h13]; rfl) rfl (fun _ => rfl)) rfl ?_
  refine o_m2 (.t (.view 0 0 5 1 x11.length)) (.i 0) rfl ?_
  refine o_nil (c_ret ?_)
  obtain rfl := Option.some.inj h
  exact ⟨⟨_, rfl, (.tup (.cons (.view0 _ _ _ _ _) (.cons .r .nil)))⟩, ⟨rfl, trivial⟩, rfl⟩
 refine c_f h10 rfl ?_
 refine c_skip (c_sr ?_)
 refine o_of (e := [(26, .t (.hpt (cd 5 i5) 0))]) (g0 rfl) (h_mv mR (.inl rfl) ((cpO_pt rfl).trans (pt_eq_some h4)) rfl rfl) rfl ?_
 refine o_of (e := [(27, .t (.hpt (cd 5 i5) 0))]) (g0 rfl) (h_nc mR rfl rfl rfl rfl rfl) rfl ?_
 refine o_of (e := [(28, .t (.hpt (cd 5 i5) 0))]) (g0 rfl) (h_fd mR rfl rfl rfl rfl rfl rfl) rfl ?_
 refine o_of (e := [(29, .t ((ptT 3 x6.l_)))]) (g0 rfl) (h_ld mR rfl rfl rfl rfl (gl_tx h7) rfl (norH_pt _ _) rfl rfl) rfl ?_
 refine o_1 (.i p1) rfl ?_
 obtain ⟨x14, h15, h⟩ := bind_some h
 refine o_of (e := [((OB + 0), gbA cU8 x14.1), (31, .tup [.view 0 0 0 1 x14.1.length, .i x14.2])]) (g0 rfl) (h_callR mR rfl (σ := []) (fr := [0]) rfl rfl rfl rfl rfl rfl rfl (fch_wal_Log_Read_r _ _ w0 _ h15) (pure_hpA _) rfl rfl (by simp [gb_flatO]) rfl (.cons (argPt rfl) (.cons (.plain .r rfl) .nil)) rfl (.tup (.cons (.view rfl) (.cons (.flat rfl) .nil)))) rfl ?_
 refine o_m4 (.t (.view 0 0 0 1 x14.1.length)) (.i x14.2) (.t (.view 0 0 0 1 x14.1.length)) (.i x14.2) rfl ?_
 refine o_nil (c_ret ?_)
 obtain rfl := Option.some.inj h
 exact ⟨⟨_, rfl, (.tup (.cons .r (.cons .r .nil)))⟩, ⟨rfl, trivial⟩, rfl⟩
theorem fch_index_Index_sector_r (p0 : (Option Nat)) (p1 : Int) (w0 : Hp) (r : ((List UInt8) × Int)) (h : m_index_Index_sector_r p0 p1 w0 = some r) : FCH Try.prog 121 [.t ((ptT 7 p0)), .t (.d (.lit (.int .i64 p1)))] [] [gbA cU8 r.1] (hpA w0) (hpA w0) (.tup [.view 0 0 0 1 r.1.length, .d (.lit (.int .i64 r.2))]) := by
 refine fch_mk (rs := [.tmp 4, .tmp 5]) (n := 23) [0] Try.func121 rfl rfl (Nat.le_of_ble_eq_true rfl) rfl (pins := []) rfl (L := [(HK, .hp (hpA w0)), (OB + 0, .free), (0, .t ((ptT 7 p0))), (1, .i p1)]) rfl ?_
 refine c_sr ?_
 refine o_m2 (.n) (.i 0) rfl ?_
 refine o_nil (c_seq (c_sr ?_))
 refine o_of (e := [(8, .t ((ptT 7 p0)))]) (g0 rfl) (h_mv mR (.inl rfl) (cpO_pt rfl) rfl rfl) rfl ?_
 rcases ptM_some h with ⟨h1, h⟩ | ⟨i2, h1, h⟩
 ·
  refine o_of (e := [(9, .b true)]) (g0 rfl) (h_pn mR (ng := false) rfl rfl rfl (pn_none rfl h1) rfl rfl) rfl ?_
  refine o_nil ?_
  refine c_t rfl rfl ?_
  refine c_sr ?_
  refine o_m2 (.n) (.i 1) rfl ?_
  refine o_nil (c_ret ?_)
  obtain rfl := Option.some.inj h
  exact ⟨⟨_, rfl, (.tup (.cons (.nilView _ _ _ _) (.cons .r .nil)))⟩, ⟨rfl, trivial⟩, rfl⟩
 refine o_of (e := [(9, .b false)]) (g0 rfl) (h_pn mR (ng := false) rfl rfl rfl (pn_some rfl h1) rfl rfl) rfl ?_
 refine o_nil ?_
 refine c_f rfl rfl ?_
 refine c_skip (c_sr ?_)
 refine o_of (e := [(11, .t (.hpt (cd 7 i2) 0))]) (g0 rfl) (h_mv mR (.inl rfl) ((cpO_pt rfl).trans (pt_eq_some h1)) rfl rfl) rfl ?_
 refine o_of (e := [(12, .t (.hpt (cd 7 i2) 0))]) (g0 rfl) (h_nc mR rfl rfl rfl rfl rfl) rfl ?_
 refine o_of (e := [(13, .t (.hpt (cd 7 i2) 0))]) (g0 rfl) (h_fd mR rfl rfl rfl rfl rfl rfl) rfl ?_
 obtain ⟨x3, h4, h⟩ := bind_some h
 refine o_of (e := [(14, .t ((ptT 5 x3.t_)))]) (g0 rfl) (h_ld mR rfl rfl rfl rfl (gl_ix h4) rfl (norH_pt _ _) rfl rfl) rfl ?_
 refine o_1 (.i p1) rfl ?_
 obtain ⟨x5, h6, h⟩ := bind_some h
 refine o_of (e := [((OB + 0), gbA cU8 x5.1), (16, .tup [.view 0 0 0 1 x5.1.length, .i x5.2])]) (g0 rfl) (h_callR mR rfl (σ := []) (fr := [0]) rfl rfl rfl rfl rfl rfl rfl (fch_wal_Txn_Read_r _ _ w0 _ h6) (pure_hpA _) rfl rfl (by simp [gb_flatO]) rfl (.cons (argPt rfl) (.cons (.plain .r rfl) .nil)) rfl (.tup (.cons (.view rfl) (.cons (.flat rfl) .nil)))) rfl ?_
 refine o_m5 (.tup [.view 0 0 0 1 x5.1.length, .i x5.2]) (.t (.view 0 0 0 1 x5.1.length)) (.i x5.2) (.t (.view 0 0 0 1 x5.1.length)) (.i x5.2) rfl ?_
 refine o_nil ?_
 refine c_cutH (fun (y7 : Int) => [(6, .t (.view 0 0 0 1 x5.1.length)), (7, .i y7), ((OB + 0), gbA cU8 x5.1), (HK, .hp (hpA w0))]) (fun (y7 : Int) => m_index_Index_sector_r_j1 x5 y7 = some r) ?_ ?_
 ·
  refine c_sr ?_
  refine o_m2 (.i x5.2) (.b (x5.2 == 31)) rfl ?_
  refine o_nil ?_
  rcases bif_some h with ⟨h8, h⟩ | ⟨h8, h⟩
  ·
   refine c_t h8 rfl ?_
   refine c_region ?_
   refine o_1 (.i 11) rfl ?_
   refine o_nil ?_
   exact ⟨11, [], h, rfl, ⟨.inr ⟨_, rfl, pure_hpA _⟩, by (repeat (first | exact ObP.nil | refine ObP.cons (.inl rfl) ?_ | refine ObP.cons (.inr (fun _ => rfl)) ?_ | refine ObP.cons (.inr (ob_box (fl_noPt _ _))) ?_ | refine ObP.cons (.inr (ob_gb _ _)) ?_))⟩, ⟨.r, .r, .r, .r, trivial⟩, (by ((refine nr_of ?_; repeat (first | exact nr_nil | refine nr_cons rfl ?_ | refine nr_cons (nr_gb _ _ _) ?_))))⟩
  refine c_f h8 rfl ?_
  refine c_skip ?_
  exact ⟨x5.2, [], h, rfl, ⟨.inr ⟨_, rfl, pure_hpA _⟩, by (repeat (first | exact ObP.nil | refine ObP.cons (.inl rfl) ?_ | refine ObP.cons (.inr (fun _ => rfl)) ?_ | refine ObP.cons (.inr (ob_box (fl_noPt _ _))) ?_ | refine ObP.cons (.inr (ob_gb _ _)) ?_))⟩, ⟨.r, .r, .r, .r, trivial⟩, (by ((refine nr_of ?_; repeat (first | exact nr_nil | refine nr_cons rfl ?_ | refine nr_cons (nr_gb _ _ _) ?_))))⟩
 rintro y7 h
 refine c_sr ?_
 refine o_m4 (.t (.view 0 0 0 1 x5.1.length)) (.i y7) (.t (.view 0 0 0 1 x5.1.length)) (.i y7) rfl ?_
 refine o_nil (c_ret ?_)
 obtain rfl := Option.some.inj h
 exact ⟨⟨_, rfl, (.tup (.cons .r (.cons .r .nil)))⟩, ⟨rfl, trivial⟩, rfl⟩
theorem fch_index_Index_name (p0 : (Option Nat)) (p1 : S_index_spot) (p2 : Int) (w0 : Hp) (r : (Int × Hp)) (h : m_index_Index_name p0 p1 p2 w0 = some r) : FCH Try.prog 94 [.t ((ptT 7 p0)), .t (.agg [.lit (.int .i64 p1.home_), .lit (.int .i64 p1.off_)]), .t (.d (.lit (.int .i64 p2)))] [] [] (hpA w0) (hpA r.2) (.t (.d (.lit (.int .i64 r.1)))) := by
 refine fch_mk (rs := [.tmp 6]) (n := 36) [0] Try.func94 rfl rfl (Nat.le_of_ble_eq_true rfl) rfl (pins := []) rfl (L := [(HK, .hp (hpA w0)), (OB + 0, .free), (0, .t ((ptT 7 p0))), (1, .t (.agg [.i p1.home_, .i p1.off_])), (2, .i p2)]) rfl ?_
 refine c_sr ?_
 refine o_m2 (.box [.i p1.home_, .i p1.off_]) (.i 0) rfl ?_
 refine o_nil (c_sr ?_)
 refine o_of (e := [(10, .t ((ptT 7 p0)))]) (g0 rfl) (h_mv mR (.inl rfl) (cpO_pt rfl) rfl rfl) rfl ?_
 refine o_m2 (.ref 4 0) (.i p1.home_) rfl ?_
 obtain ⟨x1, h2, h⟩ := bind_some h
 refine o_of (e := [((OB + 0), gbA cU8 x1.1), (13, .tup [.view 0 0 0 1 x1.1.length, .i x1.2])]) (g0 rfl) (h_callR mR rfl (σ := []) (fr := [0]) rfl rfl rfl rfl rfl rfl rfl (fch_index_Index_sector_r _ _ w0 _ h2) (pure_hpA _) rfl rfl (by simp [gb_flatO]) rfl (.cons (argPt rfl) (.cons (.plain .r rfl) .nil)) rfl (.tup (.cons (.view rfl) (.cons (.flat rfl) .nil)))) rfl ?_
 refine o_m5 (.tup [.view 0 0 0 1 x1.1.length, .i x1.2]) (.t (.view 0 0 0 1 x1.1.length)) (.i x1.2) (.t (.view 0 0 0 1 x1.1.length)) (.i x1.2) rfl ?_
 refine o_nil (c_seq (c_sr ?_))
 refine o_m2 (.i x1.2) (.b (x1.2 != 0)) rfl ?_
 refine o_nil ?_
 rcases bif_some h with ⟨h3, h⟩ | ⟨h3, h⟩
 ·
  refine c_t h3 rfl ?_
  refine c_sr ?_
  refine o_m2 (.i x1.2) (.i x1.2) rfl ?_
  refine o_nil (c_ret ?_)
  obtain rfl := Option.some.inj h
  exact ⟨⟨_, rfl, .r⟩, trivial, rfl⟩
 refine c_f h3 rfl ?_
 refine c_skip (c_sr ?_)
 refine o_m6 (.t (.view 0 0 0 1 x1.1.length)) (.ref 4 1) (.i p1.off_) (.ref 4 1) (.i p1.off_) (.i (wi (p1.off_ + 4))) rfl ?_
 obtain ⟨x4, h5, h⟩ := bind_some h
 refine o_of (e := [(25, .t (.view 0 (0 + Int.toNat p1.off_ * 1) 0 1 (Int.toNat (wi (p1.off_ + 4)) - Int.toNat p1.off_)))]) (g0 rfl) (h_lsl mR rfl rfl rfl rfl rfl rfl rfl (vcut_iff h5) rfl rfl rfl rfl) rfl ?_
 refine o_1 (.i p2) rfl ?_
 rcases bif_some h with ⟨h6, h⟩ | ⟨h6, h⟩
 ·
  exact none_ne h
 obtain ⟨x7, h8, h⟩ := bind_some h
 refine o_of (e := [((OB + 0), .box (fl (dT cU8) x7)), (27, .tup [])]) (g0 rfl) (h_callR mR rfl (σ := [0]) (fr := []) rfl rfl rfl rfl rfl rfl rfl (fch_index_put_v0 _ _ _ _ w0 _ h8) (pure_hpA _) rfl (by simp [A.flatO, fl_noPt]) (by simp [A.flatO, fl_noPt]) (cons_eq (gb_ne (isE_ne h6)) rfl) (.cons (argVw0 rfl rfl) (.cons (.plain .r rfl) .nil)) rfl (.tup .nil)) rfl ?_
 obtain ⟨x9, h10, h⟩ := bind_some h
 have h10 : x7.length = x1.1.length := lenI_eq h10
 refine o_nil (c_seq ?_)
 rcases ptM_some h with ⟨h11, h⟩ | ⟨i12, h11, h⟩
 ·
  rw [pt_eq_none (t := 7) h11]
  refine c_frz 7 0 rfl rfl (by first | (simp; done) | (rw [List.length_map]; omega)) (fl_flat _ _) (map_row (c := cU8) (fun _ => rfl) _) rfl ⟨.inr ⟨_, rfl, pure_hpA _⟩, by (repeat (first | exact ObP.nil | refine ObP.cons (.inl rfl) ?_ | refine ObP.cons (.inr (fun _ => rfl)) ?_ | refine ObP.cons (.inr (ob_box (fl_noPt _ _))) ?_ | refine ObP.cons (.inr (ob_gb _ _)) ?_))⟩ rfl ?_
  refine c_draw mixed (by kernel_rfl) ?_
  refine d_h0 [] (e := [(28, .t (.d (.lit (.pointer none))))]) (ks := [28]) rfl (dg0 rfl) rfl rfl (fun S' hM hok => h_mv hM (.inl rfl) rfl rfl (hok _ rfl rfl)) rfl ?_
  exact none_ne h
 rw [pt_eq_some (t := 7) h11]
 refine c_frz 7 0 rfl rfl (by first | (simp; done) | (rw [List.length_map]; omega)) (fl_flat _ _) (map_row (c := cU8) (fun _ => rfl) _) rfl ⟨.inr ⟨_, rfl, pure_hpA _⟩, by (repeat (first | exact ObP.nil | refine ObP.cons (.inl rfl) ?_ | refine ObP.cons (.inr (fun _ => rfl)) ?_ | refine ObP.cons (.inr (ob_box (fl_noPt _ _))) ?_ | refine ObP.cons (.inr (ob_gb _ _)) ?_))⟩ rfl ?_
 refine c_draw mixed (by kernel_rfl) ?_
 refine d_h0 [] (e := [(28, .t (.hpt (cd 7 i12) 0))]) (ks := [28]) rfl (dg0 rfl) rfl rfl (fun S' hM hok => h_mv hM (.inl rfl) rfl rfl (hok _ rfl rfl)) rfl ?_
 refine d_h0 [] (e := [(29, .t (.hpt (cd 7 i12) 0))]) (ks := [29]) rfl (dg0 rfl) rfl rfl (fun S' hM hok => h_nc hM rfl rfl rfl rfl (hok _ rfl rfl)) rfl ?_
 refine d_h0 [] (e := [(30, .t (.hpt (cd 7 i12) 0))]) (ks := [30]) rfl (dg0 rfl) rfl rfl (fun S' hM hok => h_fd hM rfl rfl rfl rfl rfl (hok _ rfl rfl)) rfl ?_
 obtain ⟨x13, h14, h⟩ := bind_some h
 refine d_h (e := [(31, .t ((ptT 5 x13.t_)))]) (ks := [31]) rfl (dg0 rfl) rfl rfl (fun S' hM hk hok => h_ld hM hk rfl rfl rfl (gl_ix h14) rfl (norH_pt _ _) rfl (hok _ rfl rfl)) rfl ?_
 refine d_s (.ref 4 0) rfl (dg0 rfl) rfl rfl rfl rfl ?_
 refine d_s (.i p1.home_) rfl (dg0 rfl) rfl rfl rfl rfl ?_
 refine d_s (.y x7) rfl (dg0 rfl) rfl rfl rfl rfl ?_
 obtain ⟨x15, h16, h⟩ := bind_some h
 refine d_h (e := [(HK, .hp (hpA x15.2)), (35, .i x15.1)]) (ks := [HK, 35]) rfl (dg0 rfl) rfl rfl (fun S' hM hk hok => h_call hM hk (σ := []) (fr := []) rfl rfl rfl (hok _ rfl rfl) rfl rfl rfl (fch_wal_Txn_Write _ _ _ w0 _ h16) (pure_hpA _) (pure_hpA _) rfl rfl rfl rfl (.cons (argPt rfl) (.cons (.plain .r rfl) (.cons (.plain .r rfl) .nil))) rfl (.t (.flat rfl))) rfl ?_
 refine d_s (.i x15.1) rfl (dg0 rfl) rfl rfl rfl rfl ?_
 refine d_nil (by kernel_rfl) ?_
 refine c_ret ?_
 obtain rfl := Option.some.inj h
 exact ⟨⟨_, rfl, .r⟩, trivial, rfl⟩
theorem fch_index_Index_Put (p0 : (Option Nat)) (p1 : Int) (p2 : S_api_Entry) (w0 : Hp) (r : (Int × Hp)) (h : m_index_Index_Put p0 p1 p2 w0 = some r) : FCH Try.prog 45 [.t ((ptT 7 p0)), .t (.d (.lit (.int .i64 p1))), .t (.agg [.lit (.string ⟨⟨p2.Key⟩⟩), .lit (.int .i64 p2.Version), .lit (.int .i64 p2.Len), .lit (.int .i64 p2.First)])] [] [] (hpA w0) (hpA r.2) (.t (.d (.lit (.int .i64 r.1)))) := by
 refine fch_mk (rs := [.tmp 6]) (n := 98) [] Try.func45 rfl rfl (Nat.le_of_ble_eq_true rfl) rfl (pins := []) rfl (L := [(HK, .hp (hpA w0)), (0, .t ((ptT 7 p0))), (1, .i p1), (2, .t (.agg [.s p2.Key, .i p2.Version, .i p2.Len, .i p2.First]))]) rfl ?_
 refine c_sr ?_
 refine o_m2 (.box [.s p2.Key, .i p2.Version, .i p2.Len, .i p2.First]) (.i 0) rfl ?_
 refine o_nil ?_
 refine c_cutH (fun (_ : Unit) => [(0, .t ((ptT 7 p0))), (1, .i p1), (5, .box [.s p2.Key, .i p2.Version, .i p2.Len, .i p2.First]), (HK, .hp (hpA w0))]) (fun (_ : Unit) => m_index_Index_Put_j1 p0 p2 w0 p1 = some r) ?_ ?_
 ·
  refine c_sr ?_
  refine o_1 (.t (.agg [.s p2.Key, .i p2.Version, .i p2.Len, .i p2.First])) rfl ?_
  obtain ⟨x25, h26, h⟩ := bind_some h
  refine o_ca (fc_index_may _ _ h26) (g0 rfl) rfl rfl rfl rfl rfl rfl rfl (.cons .r .nil) rfl rfl ?_
  refine o_m2 (.b (!x25)) (.b (!x25)) rfl ?_
  rcases bif_some h with ⟨h27, h⟩ | ⟨h27, h⟩
  ·
   refine o_skip rfl rfl rfl h27 rfl rfl ?_
   refine o_skip rfl rfl rfl h27 rfl rfl ?_
   refine o_pk (.b true) (b := true) h27 (g0 rfl) rfl rfl rfl rfl rfl ?_
   refine o_1 (.b true) rfl ?_
   refine o_skip rfl rfl rfl rfl rfl rfl ?_
   refine o_skip rfl rfl rfl rfl rfl rfl ?_
   refine o_pk (.b true) (b := true) rfl (g0 rfl) rfl rfl rfl rfl rfl ?_
   refine o_1 (.b true) rfl ?_
   refine o_skip rfl rfl rfl rfl rfl rfl ?_
   refine o_skip rfl rfl rfl rfl rfl rfl ?_
   refine o_skip rfl rfl rfl rfl rfl rfl ?_
   refine o_un rfl rfl rfl rfl rfl ?_
   refine o_un rfl rfl rfl rfl rfl ?_
   refine o_un rfl rfl rfl rfl rfl ?_
   refine o_un rfl rfl rfl rfl rfl ?_
   refine o_un rfl rfl rfl rfl rfl ?_
   refine o_un rfl rfl rfl rfl rfl ?_
   refine o_skip rfl rfl rfl rfl rfl rfl ?_
   refine o_skip rfl rfl rfl rfl rfl rfl ?_
   refine o_un rfl rfl rfl rfl rfl ?_
   refine o_un rfl rfl rfl rfl rfl ?_
   refine o_un rfl rfl rfl rfl rfl ?_
   refine o_un rfl rfl rfl rfl rfl ?_
   refine o_un rfl rfl rfl rfl rfl ?_
   refine o_un rfl rfl rfl rfl rfl ?_
   refine o_un rfl rfl rfl rfl rfl ?_
   refine o_skip rfl rfl rfl rfl rfl rfl ?_
   refine o_pk (.b true) (b := true) rfl (g0 rfl) rfl rfl rfl rfl rfl ?_
   refine o_nil ?_
   refine c_t rfl rfl ?_
   refine c_sr ?_
   refine o_1 (.i 2) rfl ?_
   refine o_nil (c_ret ?_)
   obtain rfl := Option.some.inj h
   exact ⟨⟨_, rfl, .r⟩, trivial, rfl⟩
  refine o_s (.i p1) (gy rfl rfl rfl h27) rfl rfl rfl ?_
  refine o_s (.b (decide (p1 < 1))) (gy rfl rfl rfl h27) rfl rfl rfl ?_
  refine o_pk (.b (decide (p1 < 1))) (b := false) h27 (g0 rfl) rfl rfl rfl rfl rfl ?_
  refine o_1 (.b (decide (p1 < 1))) rfl ?_
  rcases bif_some h with ⟨h28, h⟩ | ⟨h28, h⟩
  ·
   refine o_skip rfl rfl rfl h28 rfl rfl ?_
   refine o_skip rfl rfl rfl h28 rfl rfl ?_
   refine o_pk (.b true) (b := true) h28 (g0 rfl) rfl rfl rfl rfl rfl ?_
   refine o_1 (.b true) rfl ?_
   refine o_skip rfl rfl rfl rfl rfl rfl ?_
   refine o_skip rfl rfl rfl rfl rfl rfl ?_
   refine o_skip rfl rfl rfl rfl rfl rfl ?_
   refine o_un rfl rfl rfl rfl rfl ?_
   refine o_un rfl rfl rfl rfl rfl ?_
   refine o_un rfl rfl rfl rfl rfl ?_
   refine o_un rfl rfl rfl rfl rfl ?_
   refine o_un rfl rfl rfl rfl rfl ?_
   refine o_un rfl rfl rfl rfl rfl ?_
   refine o_skip rfl rfl rfl rfl rfl rfl ?_
   refine o_skip rfl rfl rfl rfl rfl rfl ?_
   refine o_un rfl rfl rfl rfl rfl ?_
   refine o_un rfl rfl rfl rfl rfl ?_
   refine o_un rfl rfl rfl rfl rfl ?_
   refine o_un rfl rfl rfl rfl rfl ?_
   refine o_un rfl rfl rfl rfl rfl ?_
   refine o_un rfl rfl rfl rfl rfl ?_
   refine o_un rfl rfl rfl rfl rfl ?_
   refine o_skip rfl rfl rfl rfl rfl rfl ?_
   refine o_pk (.b true) (b := true) rfl (g0 rfl) rfl rfl rfl rfl rfl ?_
   refine o_nil ?_
   refine c_t rfl rfl ?_
   refine c_sr ?_
   refine o_1 (.i 2) rfl ?_
   refine o_nil (c_ret ?_)
   obtain rfl := Option.some.inj h
   exact ⟨⟨_, rfl, .r⟩, trivial, rfl⟩
  refine o_s (.i p1) (gy rfl rfl rfl h28) rfl rfl rfl ?_
  refine o_s (.b (decide (p1 > 16384))) (gy rfl rfl rfl h28) rfl rfl rfl ?_
  refine o_pk (.b (decide (p1 > 16384))) (b := false) h28 (g0 rfl) rfl rfl rfl rfl rfl ?_
  refine o_1 (.b (decide (p1 > 16384))) rfl ?_
  rcases bif_some h with ⟨h29, h⟩ | ⟨h29, h⟩
  ·
   refine o_skip rfl rfl rfl h29 rfl rfl ?_
   refine o_skip rfl rfl rfl h29 rfl rfl ?_
   refine o_skip rfl rfl rfl h29 rfl rfl ?_
   refine o_un rfl rfl rfl rfl rfl ?_
   refine o_un rfl rfl rfl rfl rfl ?_
   refine o_un rfl rfl rfl rfl rfl ?_
   refine o_un rfl rfl rfl rfl rfl ?_
   refine o_un rfl rfl rfl rfl rfl ?_
   refine o_un rfl rfl rfl rfl rfl ?_
   refine o_skip rfl rfl rfl h29 rfl rfl ?_
   refine o_skip rfl rfl rfl h29 rfl rfl ?_
   refine o_un rfl rfl rfl rfl rfl ?_
   refine o_un rfl rfl rfl rfl rfl ?_
   refine o_un rfl rfl rfl rfl rfl ?_
   refine o_un rfl rfl rfl rfl rfl ?_
   refine o_un rfl rfl rfl rfl rfl ?_
   refine o_un rfl rfl rfl rfl rfl ?_
   refine o_un rfl rfl rfl rfl rfl ?_
   refine o_skip rfl rfl rfl h29 rfl rfl ?_
   refine o_pk (.b true) (b := true) h29 (g0 rfl) rfl rfl rfl rfl rfl ?_
   refine o_nil ?_
   refine c_t rfl rfl ?_
   refine c_sr ?_
   refine o_1 (.i 2) rfl ?_
   refine o_nil (c_ret ?_)
   obtain rfl := Option.some.inj h
   exact ⟨⟨_, rfl, .r⟩, trivial, rfl⟩
  refine o_of (e := [(28, .t ((ptT 7 p0)))]) (gy rfl rfl rfl h29) (h_mv mR (.inl rfl) (cpO_pt rfl) rfl rfl) rfl ?_
  rcases ptM_some h with ⟨h30, h⟩ | ⟨i31, h30, h⟩
  ·
   refine o_of (e := [(29, .b false)]) (gy rfl rfl rfl h29) (h_pn mR (ng := true) rfl rfl rfl (pn_none rfl h30) rfl rfl) rfl ?_
   refine o_s (.b false) (gy rfl rfl rfl h29) rfl rfl rfl ?_
   refine o_skip rfl rfl rfl rfl rfl rfl ?_
   refine o_skip rfl rfl rfl rfl rfl rfl ?_
   refine o_skip rfl rfl rfl rfl rfl rfl ?_
   refine o_skip rfl rfl rfl rfl rfl rfl ?_
   refine o_skip rfl rfl rfl rfl rfl rfl ?_
   refine o_skip rfl rfl rfl rfl rfl rfl ?_
   refine o_pk (.b false) (b := false) rfl (gy rfl rfl rfl h29) rfl rfl rfl rfl rfl ?_
   refine o_s (.b false) (gy rfl rfl rfl h29) rfl rfl rfl ?_
   refine o_skip rfl rfl rfl rfl rfl rfl ?_
   refine o_skip rfl rfl rfl rfl rfl rfl ?_
   refine o_skip rfl rfl rfl rfl rfl rfl ?_
   refine o_skip rfl rfl rfl rfl rfl rfl ?_
   refine o_skip rfl rfl rfl rfl rfl rfl ?_
   refine o_skip rfl rfl rfl rfl rfl rfl ?_
   refine o_skip rfl rfl rfl rfl rfl rfl ?_
   refine o_pk (.b false) (b := false) rfl (gy rfl rfl rfl h29) rfl rfl rfl rfl rfl ?_
   refine o_pk (.b false) (b := false) h29 (g0 rfl) rfl rfl rfl rfl rfl ?_
   refine o_nil ?_
   refine c_f rfl rfl ?_
   refine c_skip ?_
   exact ⟨(), [], h, rfl, ⟨.inr ⟨_, rfl, pure_hpA _⟩, by (repeat (first | exact ObP.nil | refine ObP.cons (.inl rfl) ?_ | refine ObP.cons (.inr (fun _ => rfl)) ?_ | refine ObP.cons (.inr (ob_box (fl_noPt _ _))) ?_ | refine ObP.cons (.inr (ob_gb _ _)) ?_))⟩, ⟨.r, .r, .r, .r, trivial⟩, rfl⟩
  refine o_of (e := [(29, .b true)]) (gy rfl rfl rfl h29) (h_pn mR (ng := true) rfl rfl rfl (pn_some rfl h30) rfl rfl) rfl ?_
  refine o_s (.b true) (gy rfl rfl rfl h29) rfl rfl rfl ?_
  refine o_s (.i p1) (gy rfl rfl rfl rfl) rfl rfl rfl ?_
  refine o_of (e := [(32, .t (.hpt (cd 7 i31) 0))]) (gy rfl rfl rfl rfl) (h_mv mR (.inl rfl) ((cpO_pt rfl).trans (pt_eq_some h30)) rfl rfl) rfl ?_
  refine o_of (e := [(33, .t (.hpt (cd 7 i31) 0))]) (gy rfl rfl rfl rfl) (h_nc mR rfl rfl rfl rfl rfl) rfl ?_
  refine o_of (e := [(34, .t (.hpt (cd 7 i31) 1))]) (gy rfl rfl rfl rfl) (h_fd mR rfl rfl rfl rfl rfl rfl) rfl ?_
  obtain ⟨x32, h33, h⟩ := bind_some h
  refine o_of (e := [(35, .i x32.table_)]) (gy rfl rfl rfl rfl) (h_ld mR rfl rfl rfl rfl (gl_ix h33) rfl rfl rfl rfl) rfl ?_
  refine o_s (.b (decide (p1 ≥ x32.table_))) (gy rfl rfl rfl rfl) rfl rfl rfl ?_
  refine o_pk (.b (decide (p1 ≥ x32.table_))) (b := true) rfl (gy rfl rfl rfl h29) rfl rfl rfl rfl rfl ?_
  refine o_s (.b (decide (p1 ≥ x32.table_))) (gy rfl rfl rfl h29) rfl rfl rfl ?_
  rcases bif_some h with ⟨h34, h⟩ | ⟨h34, h⟩
  ·
   refine o_s (.i p1) (gy rfl rfl rfl h34) rfl rfl rfl ?_
   refine o_of (e := [(40, .t (.hpt (cd 7 i31) 0))]) (gy rfl rfl rfl h34) (h_mv mR (.inl rfl) ((cpO_pt rfl).trans (pt_eq_some h30)) rfl rfl) rfl ?_
   refine o_of (e := [(41, .t (.hpt (cd 7 i31) 0))]) (gy rfl rfl rfl h34) (h_nc mR rfl rfl rfl rfl rfl) rfl ?_
   refine o_of (e := [(42, .t (.hpt (cd 7 i31) 1))]) (gy rfl rfl rfl h34) (h_fd mR rfl rfl rfl rfl rfl rfl) rfl ?_
   refine o_of (e := [(43, .i x32.table_)]) (gy rfl rfl rfl h34) (h_ld mR rfl rfl rfl rfl (gl_ix h33) rfl rfl rfl rfl) rfl ?_
   refine o_s (.i (wi (p1 - x32.table_))) (gy rfl rfl rfl h34) rfl rfl rfl ?_
   refine o_s (.b (decide ((wi (p1 - x32.table_)) < 4))) (gy rfl rfl rfl h34) rfl rfl rfl ?_
   refine o_pk (.b (decide ((wi (p1 - x32.table_)) < 4))) (b := true) h34 (gy rfl rfl rfl h29) rfl rfl rfl rfl rfl ?_
   refine o_pk (.b (decide ((wi (p1 - x32.table_)) < 4))) (b := false) h29 (g0 rfl) rfl rfl rfl rfl rfl ?_
   refine o_nil ?_
   rcases bif_some h with ⟨h35, h⟩ | ⟨h35, h⟩
   ·
    refine c_t h35 rfl ?_
    refine c_sr ?_
    refine o_1 (.i 2) rfl ?_
    refine o_nil (c_ret ?_)
    obtain rfl := Option.some.inj h
    exact ⟨⟨_, rfl, .r⟩, trivial, rfl⟩
   refine c_f h35 rfl ?_
   refine c_skip ?_
   exact ⟨(), [], h, rfl, ⟨.inr ⟨_, rfl, pure_hpA _⟩, by (repeat (first | exact ObP.nil | refine ObP.cons (.inl rfl) ?_ | refine ObP.cons (.inr (fun _ => rfl)) ?_ | refine ObP.cons (.inr (ob_box (fl_noPt _ _))) ?_ | refine ObP.cons (.inr (ob_gb _ _)) ?_))⟩, ⟨.r, .r, .r, .r, trivial⟩, rfl⟩
  refine o_skip rfl rfl rfl h34 rfl rfl ?_
  refine o_skip rfl rfl rfl h34 rfl rfl ?_
  refine o_skip rfl rfl rfl h34 rfl rfl ?_
  refine o_skip rfl rfl rfl h34 rfl rfl ?_
  refine o_skip rfl rfl rfl h34 rfl rfl ?_
  refine o_skip rfl rfl rfl h34 rfl rfl ?_
  refine o_skip rfl rfl rfl h34 rfl rfl ?_
  refine o_pk (.b false) (b := false) h34 (gy rfl rfl rfl h29) rfl rfl rfl rfl rfl ?_
  refine o_pk (.b false) (b := false) h29 (g0 rfl) rfl rfl rfl rfl rfl ?_
  refine o_nil ?_
  refine c_f rfl rfl ?_
  refine c_skip ?_
  exact ⟨(), [], h, rfl, ⟨.inr ⟨_, rfl, pure_hpA _⟩, by (repeat (first | exact ObP.nil | refine ObP.cons (.inl rfl) ?_ | refine ObP.cons (.inr (fun _ => rfl)) ?_ | refine ObP.cons (.inr (ob_box (fl_noPt _ _))) ?_ | refine ObP.cons (.inr (ob_gb _ _)) ?_))⟩, ⟨.r, .r, .r, .r, trivial⟩, rfl⟩
 rintro ⟨⟩ h
 refine c_seq (c_sr ?_)
 refine o_of (e := [(49, .t ((ptT 7 p0)))]) (g0 rfl) (h_mv mR (.inl rfl) (cpO_pt rfl) rfl rfl) rfl ?_
 refine o_m2 (.ref 5 0) (.s p2.Key) rfl ?_
 obtain ⟨x1, h2, h⟩ := bind_some h
 refine o_of (e := [(52, .tup [.agg [.i x1.1.home_, .i x1.1.off_], .i x1.2.1, .agg [.s x1.2.2.1.Entry.Key, .i x1.2.2.1.Entry.Version, .i x1.2.2.1.Entry.Len, .i x1.2.2.1.Entry.First, .i x1.2.2.1.next_], .i x1.2.2.2])]) (g0 rfl) (h_callR mR rfl (σ := []) (fr := []) rfl rfl rfl rfl rfl rfl rfl (fch_index_Index_find _ _ w0 _ h2) (pure_hpA _) rfl rfl rfl rfl (.cons (argPt rfl) (.cons (.plain .r rfl) .nil)) rfl (.tup (.cons (.flat rfl) (.cons (.flat rfl) (.cons (.flat rfl) (.cons (.flat rfl) .nil)))))) rfl ?_
 refine o_m7 (.tup [.agg [.i x1.1.home_, .i x1.1.off_], .i x1.2.1, .agg [.s x1.2.2.1.Entry.Key, .i x1.2.2.1.Entry.Version, .i x1.2.2.1.Entry.Len, .i x1.2.2.1.Entry.First, .i x1.2.2.1.next_], .i x1.2.2.2]) (.t (.agg [.i x1.1.home_, .i x1.1.off_])) (.i x1.2.1) (.t (.agg [.s x1.2.2.1.Entry.Key, .i x1.2.2.1.Entry.Version, .i x1.2.2.1.Entry.Len, .i x1.2.2.1.Entry.First, .i x1.2.2.1.next_])) (.i x1.2.2.2) (.box [.i 0, .i 0]) (.box [.s [], .i 0, .i 0, .i 0, .i 0]) rfl ?_
 refine o_st (.box [.i x1.1.home_, .i x1.1.off_]) (g0 rfl) rfl rfl rfl ?_
 refine o_1 (.i x1.2.1) rfl ?_
 refine o_st (.box [.s x1.2.2.1.Entry.Key, .i x1.2.2.1.Entry.Version, .i x1.2.2.1.Entry.Len, .i x1.2.2.1.Entry.First, .i x1.2.2.1.next_]) (g0 rfl) rfl rfl rfl ?_
 refine o_1 (.i x1.2.2.2) rfl ?_
 refine o_nil (c_sr ?_)
 refine o_m2 (.i x1.2.2.2) (.b (x1.2.2.2 != 35)) rfl ?_
 refine o_nil ?_
 rcases bif_some h with ⟨h3, h⟩ | ⟨h3, h⟩
 ·
  refine c_t h3 rfl ?_
  refine c_seq (c_sr ?_)
  refine o_m2 (.i x1.2.2.2) (.b (x1.2.2.2 == 0)) rfl ?_
  refine o_nil ?_
  rcases bif_some h with ⟨h4, h⟩ | ⟨h4, h⟩
  ·
   refine c_t h4 rfl ?_
   refine c_sr ?_
   refine o_1 (.i 42) rfl ?_
   refine o_nil (c_ret ?_)
   obtain rfl := Option.some.inj h
   exact ⟨⟨_, rfl, .r⟩, trivial, rfl⟩
  refine c_f h4 rfl ?_
  refine c_skip (c_sr ?_)
  refine o_m2 (.i x1.2.2.2) (.i x1.2.2.2) rfl ?_
  refine o_nil (c_ret ?_)
  obtain rfl := Option.some.inj h
  exact ⟨⟨_, rfl, .r⟩, trivial, rfl⟩
 refine c_f h3 rfl ?_
 refine c_skip (c_sr ?_)
 refine o_m2 (.ref 5 0) (.s p2.Key) rfl ?_
 obtain ⟨x5, h6, h⟩ := bind_some h
 refine o_ca (fc_index_Bucket _ _ h6) (g0 rfl) rfl rfl rfl rfl rfl rfl rfl (.cons .r .nil) rfl rfl ?_
 refine o_m5 (.tup [.i x5.1, .b x5.2]) (.i x5.1) (.b x5.2) (.i x5.1) (.b x5.2) rfl ?_
 refine o_nil (c_sr ?_)
 refine o_of (e := [(69, .t ((ptT 7 p0)))]) (g0 rfl) (h_mv mR (.inl rfl) (cpO_pt rfl) rfl rfl) rfl ?_
 refine o_of (e := [(70, .t ((ptT 7 p0)))]) (g0 rfl) (h_mv mR (.inl rfl) (cpO_pt rfl) rfl rfl) rfl ?_
 refine o_1 (.i x5.1) rfl ?_
 obtain ⟨x7, h8, h⟩ := bind_some h
 refine o_of (e := [(72, .t (.agg [.i x7.home_, .i x7.off_]))]) (g0 rfl) (h_callR mR rfl (σ := []) (fr := []) rfl rfl rfl rfl rfl rfl rfl (fch_index_Index_head _ _ w0 _ h8) (pure_hpA _) rfl rfl rfl rfl (.cons (argPt rfl) (.cons (.plain .r rfl) .nil)) rfl (.t (.flat rfl))) rfl ?_
 obtain ⟨x9, h10, h⟩ := bind_some h
 refine o_of (e := [(73, .tup [.i x9.1, .i x9.2])]) (g0 rfl) (h_callR mR rfl (σ := []) (fr := []) rfl rfl rfl rfl rfl rfl rfl (fch_index_Index_named _ _ w0 _ h10) (pure_hpA _) rfl rfl rfl rfl (.cons (argPt rfl) (.cons (.plain .r rfl) .nil)) rfl (.tup (.cons (.flat rfl) (.cons (.flat rfl) .nil)))) rfl ?_
 refine o_m5 (.tup [.i x9.1, .i x9.2]) (.i x9.1) (.i x9.2) (.i x9.1) (.i x9.2) rfl ?_
 refine o_nil (c_seq (c_sr ?_))
 refine o_m2 (.i x9.2) (.b (x9.2 != 0)) rfl ?_
 refine o_nil ?_
 rcases bif_some h with ⟨h11, h⟩ | ⟨h11, h⟩
 ·
  refine c_t h11 rfl ?_
  refine c_sr ?_
  refine o_m2 (.i x9.2) (.i x9.2) rfl ?_
  refine o_nil (c_ret ?_)
  obtain rfl := Option.some.inj h
  exact ⟨⟨_, rfl, .r⟩, trivial, rfl⟩
 refine c_f h11 rfl ?_
 refine c_skip (c_seq (c_seq ?_))
 refine c_draw mixed (by kernel_rfl) ?_
 rcases ptM_some h with ⟨h12, h⟩ | ⟨i13, h12, h⟩
 ·
  refine d_h0 [] (e := [(79, .t (.d (.lit (.pointer none))))]) (ks := [79]) rfl (dg0 rfl) rfl rfl (fun S' hM hok => h_mv hM (.inl rfl) ((cpO_pt rfl).trans (pt_eq_none h12)) rfl (hok _ rfl rfl)) rfl ?_
  exact none_ne h
 refine d_h0 [] (e := [(79, .t (.hpt (cd 7 i13) 0))]) (ks := [79]) rfl (dg0 rfl) rfl rfl (fun S' hM hok => h_mv hM (.inl rfl) ((cpO_pt rfl).trans (pt_eq_some h12)) rfl (hok _ rfl rfl)) rfl ?_
 refine d_h0 [] (e := [(80, .t (.hpt (cd 7 i13) 0))]) (ks := [80]) rfl (dg0 rfl) rfl rfl (fun S' hM hok => h_nc hM rfl rfl rfl rfl (hok _ rfl rfl)) rfl ?_
 refine d_h0 [] (e := [(81, .t (.hpt (cd 7 i13) 0))]) (ks := [81]) rfl (dg0 rfl) rfl rfl (fun S' hM hok => h_fd hM rfl rfl rfl rfl rfl (hok _ rfl rfl)) rfl ?_
 obtain ⟨x14, h15, h⟩ := bind_some h
 refine d_h (e := [(82, .t ((ptT 5 x14.t_)))]) (ks := [82]) rfl (dg0 rfl) rfl rfl (fun S' hM hk hok => h_ld hM hk rfl rfl rfl (gl_ix h15) rfl (norH_pt _ _) rfl (hok _ rfl rfl)) rfl ?_
 refine d_s (.i p1) rfl (dg0 rfl) rfl rfl rfl rfl ?_
 refine d_s (.t (.agg [.s p2.Key, .i p2.Version, .i p2.Len, .i p2.First])) rfl (dg0 rfl) rfl rfl rfl rfl ?_
 refine d_s (.i x9.1) rfl (dg0 rfl) rfl rfl rfl rfl ?_
 refine d_s (.t (.agg [.s p2.Key, .i p2.Version, .i p2.Len, .i p2.First, .i x9.1])) rfl (dg0 rfl) rfl rfl rfl rfl ?_
 obtain ⟨x16, h17, h⟩ := bind_some h
 refine d_h (e := [(87, .y x16)]) (ks := [87]) rfl (dg0 rfl) rfl rfl (fun S' hM hk hok => h_callR hM hk (σ := []) (fr := []) rfl rfl rfl (hok _ rfl rfl) rfl rfl rfl (fch_index_node_bytes _ w0 _ h17) (pure_hpA _) rfl rfl rfl rfl (.cons (.plain .r rfl) .nil) rfl (.t (.flat rfl))) rfl ?_
 obtain ⟨x18, h19, h⟩ := bind_some h
 refine d_h (e := [(HK, .hp (hpA x18.2)), (88, .i x18.1)]) (ks := [HK, 88]) rfl (dg0 rfl) rfl rfl (fun S' hM hk hok => h_call hM hk (σ := []) (fr := []) rfl rfl rfl (hok _ rfl rfl) rfl rfl rfl (fch_wal_Txn_Write _ _ _ w0 _ h19) (pure_hpA _) (pure_hpA _) rfl rfl rfl rfl (.cons (argPt rfl) (.cons (.plain .r rfl) (.cons (.plain .r rfl) .nil))) rfl (.t (.flat rfl))) rfl ?_
 refine d_s (.i x18.1) rfl (dg0 rfl) rfl rfl rfl rfl ?_
 refine d_nil (by kernel_rfl) ?_
 refine c_sr ?_
 refine o_m2 (.i x18.1) (.b (x18.1 != 0)) rfl ?_
 refine o_nil ?_
 rcases bif_some h with ⟨h20, h⟩ | ⟨h20, h⟩
 ·
  refine c_t h20 rfl ?_
  refine c_sr ?_
  refine o_m2 (.i x18.1) (.i x18.1) rfl ?_
  refine o_nil (c_ret ?_)
  obtain rfl := Option.some.inj h
  exact ⟨⟨_, rfl, .r⟩, trivial, rfl⟩
 refine c_f h20 rfl ?_
 refine c_skip (c_sr ?_)
 refine o_of (e := [(92, .t (.hpt (cd 7 i13) 0))]) (g0 rfl) (h_mv mR (.inl rfl) ((cpO_pt rfl).trans (pt_eq_some h12)) rfl rfl) rfl ?_
 refine o_of (e := [(93, .t (.hpt (cd 7 i13) 0))]) (g0 rfl) (h_mv mR (.inl rfl) ((cpO_pt rfl).trans (pt_eq_some h12)) rfl rfl) rfl ?_
 refine o_1 (.i x5.1) rfl ?_
 obtain ⟨x21, h22, h⟩ := bind_some h
 refine o_of (e := [(95, .t (.agg [.i x21.home_, .i x21.off_]))]) (g0 rfl) (h_callR mR rfl (σ := []) (fr := []) rfl rfl rfl rfl rfl rfl rfl (fch_index_Index_head _ _ x18.2 _ h22) (pure_hpA _) rfl rfl rfl rfl (.cons (.hpt _ _) (.cons (.plain .r rfl) .nil)) rfl (.t (.flat rfl))) rfl ?_
 refine o_1 (.i p1) rfl ?_
 obtain ⟨x23, h24, h⟩ := bind_some h
 refine o_of (e := [(HK, .hp (hpA x23.2)), (97, .i x23.1)]) (g0 rfl) (h_call mR rfl (σ := []) (fr := []) rfl rfl rfl rfl rfl rfl rfl (fch_index_Index_name _ _ _ x18.2 _ h24) (pure_hpA _) (pure_hpA _) rfl rfl rfl rfl (.cons (.hpt _ _) (.cons (.plain .r rfl) (.cons (.plain .r rfl) .nil))) rfl (.t (.flat rfl))) rfl ?_
 refine o_1 (.i x23.1) rfl ?_
 refine o_nil (c_ret ?_)
 obtain rfl := Option.some.inj h
 exact ⟨⟨_, rfl, .r⟩, trivial, rfl⟩
theorem fch_index_Index_Set (p0 : (Option Nat)) (p1 : S_api_Entry) (w0 : Hp) (r : (Int × Hp)) (h : m_index_Index_Set p0 p1 w0 = some r) : FCH Try.prog 47 [.t ((ptT 7 p0)), .t (.agg [.lit (.string ⟨⟨p1.Key⟩⟩), .lit (.int .i64 p1.Version), .lit (.int .i64 p1.Len), .lit (.int .i64 p1.First)])] [] [] (hpA w0) (hpA r.2) (.t (.d (.lit (.int .i64 r.1)))) := by
 refine fch_mk (rs := [.tmp 4]) (n := 35) [] Try.func47 rfl rfl (Nat.le_of_ble_eq_true rfl) rfl (pins := []) rfl (L := [(HK, .hp (hpA w0)), (0, .t ((ptT 7 p0))), (1, .t (.agg [.s p1.Key, .i p1.Version, .i p1.Len, .i p1.First]))]) rfl ?_
 refine c_sr ?_
 refine o_m2 (.box [.s p1.Key, .i p1.Version, .i p1.Len, .i p1.First]) (.i 0) rfl ?_
 refine o_nil (c_seq (c_sr ?_))
 refine o_1 (.t (.agg [.s p1.Key, .i p1.Version, .i p1.Len, .i p1.First])) rfl ?_
 obtain ⟨x1, h2, h⟩ := bind_some h
 refine o_ca (fc_index_may _ _ h2) (g0 rfl) rfl rfl rfl rfl rfl rfl rfl (.cons .r .nil) rfl rfl ?_
 refine o_1 (.b (!x1)) rfl ?_
 refine o_nil ?_
 rcases bif_some h with ⟨h3, h⟩ | ⟨h3, h⟩
 ·
  refine c_t h3 rfl ?_
  refine c_sr ?_
  refine o_1 (.i 2) rfl ?_
  refine o_nil (c_ret ?_)
  obtain rfl := Option.some.inj h
  exact ⟨⟨_, rfl, .r⟩, trivial, rfl⟩
 refine c_f h3 rfl ?_
 refine c_skip (c_sr ?_)
 refine o_of (e := [(13, .t ((ptT 7 p0)))]) (g0 rfl) (h_mv mR (.inl rfl) (cpO_pt rfl) rfl rfl) rfl ?_
 refine o_m2 (.ref 3 0) (.s p1.Key) rfl ?_
 obtain ⟨x4, h5, h⟩ := bind_some h
 refine o_of (e := [(16, .tup [.agg [.i x4.1.home_, .i x4.1.off_], .i x4.2.1, .agg [.s x4.2.2.1.Entry.Key, .i x4.2.2.1.Entry.Version, .i x4.2.2.1.Entry.Len, .i x4.2.2.1.Entry.First, .i x4.2.2.1.next_], .i x4.2.2.2])]) (g0 rfl) (h_callR mR rfl (σ := []) (fr := []) rfl rfl rfl rfl rfl rfl rfl (fch_index_Index_find _ _ w0 _ h5) (pure_hpA _) rfl rfl rfl rfl (.cons (argPt rfl) (.cons (.plain .r rfl) .nil)) rfl (.tup (.cons (.flat rfl) (.cons (.flat rfl) (.cons (.flat rfl) (.cons (.flat rfl) .nil)))))) rfl ?_
 refine o_m7 (.tup [.agg [.i x4.1.home_, .i x4.1.off_], .i x4.2.1, .agg [.s x4.2.2.1.Entry.Key, .i x4.2.2.1.Entry.Version, .i x4.2.2.1.Entry.Len, .i x4.2.2.1.Entry.First, .i x4.2.2.1.next_], .i x4.2.2.2]) (.t (.agg [.i x4.1.home_, .i x4.1.off_])) (.i x4.2.1) (.t (.agg [.s x4.2.2.1.Entry.Key, .i x4.2.2.1.Entry.Version, .i x4.2.2.1.Entry.Len, .i x4.2.2.1.Entry.First, .i x4.2.2.1.next_])) (.i x4.2.2.2) (.box [.i 0, .i 0]) (.box [.s [], .i 0, .i 0, .i 0, .i 0]) rfl ?_
 refine o_st (.box [.i x4.1.home_, .i x4.1.off_]) (g0 rfl) rfl rfl rfl ?_
 refine o_1 (.i x4.2.1) rfl ?_
 refine o_st (.box [.s x4.2.2.1.Entry.Key, .i x4.2.2.1.Entry.Version, .i x4.2.2.1.Entry.Len, .i x4.2.2.1.Entry.First, .i x4.2.2.1.next_]) (g0 rfl) rfl rfl rfl ?_
 refine o_1 (.i x4.2.2.2) rfl ?_
 refine o_nil (c_seq (c_sr ?_))
 refine o_m2 (.i x4.2.2.2) (.b (x4.2.2.2 != 0)) rfl ?_
 refine o_nil ?_
 rcases bif_some h with ⟨h6, h⟩ | ⟨h6, h⟩
 ·
  refine c_t h6 rfl ?_
  refine c_sr ?_
  refine o_m2 (.i x4.2.2.2) (.i x4.2.2.2) rfl ?_
  refine o_nil (c_ret ?_)
  obtain rfl := Option.some.inj h
  exact ⟨⟨_, rfl, .r⟩, trivial, rfl⟩
 refine c_f h6 rfl ?_
 refine c_skip (c_seq ?_)
 refine c_draw mixed (by kernel_rfl) ?_
 rcases ptM_some h with ⟨h7, h⟩ | ⟨i8, h7, h⟩
 ·
  refine d_h0 [] (e := [(24, .t (.d (.lit (.pointer none))))]) (ks := [24]) rfl (dg0 rfl) rfl rfl (fun S' hM hok => h_mv hM (.inl rfl) ((cpO_pt rfl).trans (pt_eq_none h7)) rfl (hok _ rfl rfl)) rfl ?_
  exact none_ne h
 refine d_h0 [] (e := [(24, .t (.hpt (cd 7 i8) 0))]) (ks := [24]) rfl (dg0 rfl) rfl rfl (fun S' hM hok => h_mv hM (.inl rfl) ((cpO_pt rfl).trans (pt_eq_some h7)) rfl (hok _ rfl rfl)) rfl ?_
 refine d_h0 [] (e := [(25, .t (.hpt (cd 7 i8) 0))]) (ks := [25]) rfl (dg0 rfl) rfl rfl (fun S' hM hok => h_nc hM rfl rfl rfl rfl (hok _ rfl rfl)) rfl ?_
 refine d_h0 [] (e := [(26, .t (.hpt (cd 7 i8) 0))]) (ks := [26]) rfl (dg0 rfl) rfl rfl (fun S' hM hok => h_fd hM rfl rfl rfl rfl rfl (hok _ rfl rfl)) rfl ?_
 obtain ⟨x9, h10, h⟩ := bind_some h
 refine d_h (e := [(27, .t ((ptT 5 x9.t_)))]) (ks := [27]) rfl (dg0 rfl) rfl rfl (fun S' hM hk hok => h_ld hM hk rfl rfl rfl (gl_ix h10) rfl (norH_pt _ _) rfl (hok _ rfl rfl)) rfl ?_
 refine d_s (.i x4.2.1) rfl (dg0 rfl) rfl rfl rfl rfl ?_
 refine d_s (.t (.agg [.s p1.Key, .i p1.Version, .i p1.Len, .i p1.First])) rfl (dg0 rfl) rfl rfl rfl rfl ?_
 refine d_s (.ref 7 4) rfl (dg0 rfl) rfl rfl rfl rfl ?_
 refine d_s (.i x4.2.2.1.next_) rfl (dg0 rfl) rfl rfl rfl rfl ?_
 refine d_s (.t (.agg [.s p1.Key, .i p1.Version, .i p1.Len, .i p1.First, .i x4.2.2.1.next_])) rfl (dg0 rfl) rfl rfl rfl rfl ?_
 obtain ⟨x11, h12, h⟩ := bind_some h
 refine d_h (e := [(33, .y x11)]) (ks := [33]) rfl (dg0 rfl) rfl rfl (fun S' hM hk hok => h_callR hM hk (σ := []) (fr := []) rfl rfl rfl (hok _ rfl rfl) rfl rfl rfl (fch_index_node_bytes _ w0 _ h12) (pure_hpA _) rfl rfl rfl rfl (.cons (.plain .r rfl) .nil) rfl (.t (.flat rfl))) rfl ?_
 obtain ⟨x13, h14, h⟩ := bind_some h
 refine d_h (e := [(HK, .hp (hpA x13.2)), (34, .i x13.1)]) (ks := [HK, 34]) rfl (dg0 rfl) rfl rfl (fun S' hM hk hok => h_call hM hk (σ := []) (fr := []) rfl rfl rfl (hok _ rfl rfl) rfl rfl rfl (fch_wal_Txn_Write _ _ _ w0 _ h14) (pure_hpA _) (pure_hpA _) rfl rfl rfl rfl (.cons (argPt rfl) (.cons (.plain .r rfl) (.cons (.plain .r rfl) .nil))) rfl (.t (.flat rfl))) rfl ?_
 refine d_s (.i x13.1) rfl (dg0 rfl) rfl rfl rfl rfl ?_
 refine d_nil (by kernel_rfl) ?_
 refine c_ret ?_
 obtain rfl := Option.some.inj h
 exact ⟨⟨_, rfl, .r⟩, trivial, rfl⟩
theorem fch_index_Index_Drop (p0 : (Option Nat)) (p1 : (List UInt8)) (w0 : Hp) (r : (Int × Int × Hp)) (h : m_index_Index_Drop p0 p1 w0 = some r) : FCH Try.prog 49 [.t ((ptT 7 p0)), .t (.d (.lit (.string ⟨⟨p1⟩⟩)))] [] [] (hpA w0) (hpA r.2.2) (.tup [.d (.lit (.int .i64 r.1)), .d (.lit (.int .i64 r.2.1))]) := by
 refine fch_mk (rs := [.tmp 4, .tmp 5]) (n := 31) [] Try.func49 rfl rfl (Nat.le_of_ble_eq_true rfl) rfl (pins := []) rfl (L := [(HK, .hp (hpA w0)), (0, .t ((ptT 7 p0))), (1, .s p1)]) rfl ?_
 refine c_sr ?_
 refine o_m2 (.i 0) (.i 0) rfl ?_
 refine o_nil (c_sr ?_)
 refine o_of (e := [(12, .t ((ptT 7 p0)))]) (g0 rfl) (h_mv mR (.inl rfl) (cpO_pt rfl) rfl rfl) rfl ?_
 refine o_1 (.s p1) rfl ?_
 obtain ⟨x1, h2, h⟩ := bind_some h
 refine o_of (e := [(14, .tup [.agg [.i x1.1.home_, .i x1.1.off_], .i x1.2.1, .agg [.s x1.2.2.1.Entry.Key, .i x1.2.2.1.Entry.Version, .i x1.2.2.1.Entry.Len, .i x1.2.2.1.Entry.First, .i x1.2.2.1.next_], .i x1.2.2.2])]) (g0 rfl) (h_callR mR rfl (σ := []) (fr := []) rfl rfl rfl rfl rfl rfl rfl (fch_index_Index_find _ _ w0 _ h2) (pure_hpA _) rfl rfl rfl rfl (.cons (argPt rfl) (.cons (.plain .r rfl) .nil)) rfl (.tup (.cons (.flat rfl) (.cons (.flat rfl) (.cons (.flat rfl) (.cons (.flat rfl) .nil)))))) rfl ?_
 refine o_m7 (.tup [.agg [.i x1.1.home_, .i x1.1.off_], .i x1.2.1, .agg [.s x1.2.2.1.Entry.Key, .i x1.2.2.1.Entry.Version, .i x1.2.2.1.Entry.Len, .i x1.2.2.1.Entry.First, .i x1.2.2.1.next_], .i x1.2.2.2]) (.t (.agg [.i x1.1.home_, .i x1.1.off_])) (.i x1.2.1) (.t (.agg [.s x1.2.2.1.Entry.Key, .i x1.2.2.1.Entry.Version, .i x1.2.2.1.Entry.Len, .i x1.2.2.1.Entry.First, .i x1.2.2.1.next_])) (.i x1.2.2.2) (.box [.i 0, .i 0]) (.box [.s [], .i 0, .i 0, .i 0, .i 0]) rfl ?_
 refine o_st (.box [.i x1.1.home_, .i x1.1.off_]) (g0 rfl) rfl rfl rfl ?_
 refine o_1 (.i x1.2.1) rfl ?_
 refine o_st (.box [.s x1.2.2.1.Entry.Key, .i x1.2.2.1.Entry.Version, .i x1.2.2.1.Entry.Len, .i x1.2.2.1.Entry.First, .i x1.2.2.1.next_]) (g0 rfl) rfl rfl rfl ?_
 refine o_1 (.i x1.2.2.2) rfl ?_
 refine o_nil (c_seq (c_sr ?_))
 refine o_m2 (.i x1.2.2.2) (.b (x1.2.2.2 != 0)) rfl ?_
 refine o_nil ?_
 rcases bif_some h with ⟨h3, h⟩ | ⟨h3, h⟩
 ·
  refine c_t h3 rfl ?_
  refine c_sr ?_
  refine o_m3 (.i x1.2.2.2) (.i 0) (.i x1.2.2.2) rfl ?_
  refine o_nil (c_ret ?_)
  obtain rfl := Option.some.inj h
  exact ⟨⟨_, rfl, (.tup (.cons .r (.cons .r .nil)))⟩, trivial, rfl⟩
 refine c_f h3 rfl ?_
 refine c_skip (c_seq (c_sr ?_))
 refine o_of (e := [(22, .t ((ptT 7 p0)))]) (g0 rfl) (h_mv mR (.inl rfl) (cpO_pt rfl) rfl rfl) rfl ?_
 refine o_m3 (.t (.agg [.i x1.1.home_, .i x1.1.off_])) (.ref 8 4) (.i x1.2.2.1.next_) rfl ?_
 obtain ⟨x4, h5, h⟩ := bind_some h
 refine o_of (e := [(HK, .hp (hpA x4.2)), (26, .i x4.1)]) (g0 rfl) (h_call mR rfl (σ := []) (fr := []) rfl rfl rfl rfl rfl rfl rfl (fch_index_Index_name _ _ _ w0 _ h5) (pure_hpA _) (pure_hpA _) rfl rfl rfl rfl (.cons (argPt rfl) (.cons (.plain .r rfl) (.cons (.plain .r rfl) .nil))) rfl (.t (.flat rfl))) rfl ?_
 refine o_1 (.i x4.1) rfl ?_
 refine o_nil (c_sr ?_)
 refine o_m2 (.i x4.1) (.b (x4.1 != 0)) rfl ?_
 refine o_nil ?_
 rcases bif_some h with ⟨h6, h⟩ | ⟨h6, h⟩
 ·
  refine c_t h6 rfl ?_
  refine c_sr ?_
  refine o_m3 (.i x4.1) (.i 0) (.i x4.1) rfl ?_
  refine o_nil (c_ret ?_)
  obtain rfl := Option.some.inj h
  exact ⟨⟨_, rfl, (.tup (.cons .r (.cons .r .nil)))⟩, trivial, rfl⟩
 refine c_f h6 rfl ?_
 refine c_skip (c_sr ?_)
 refine o_m3 (.i x1.2.1) (.i x1.2.1) (.i 0) rfl ?_
 refine o_nil (c_ret ?_)
 obtain rfl := Option.some.inj h
 exact ⟨⟨_, rfl, (.tup (.cons .r (.cons .r .nil)))⟩, trivial, rfl⟩
end Go.Proofs.Ytjomnccladjpgaa
