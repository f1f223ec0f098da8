/-
  Walks of functions: each function does what its model tells. Printed by a program of this claim's own (gen.py) off the given translation.
-/
import Derived.Test.YtjomnccladjpgaaQ12
import Derived.Test.YtjomnccladjpgaaQ16
set_option linter.unusedVariables false
set_option linter.unusedSimpArgs false
namespace Go.Proofs.Ytjomnccladjpgaa
open Go Go.RowKit
set_option linter.unusedVariables false
set_option maxHeartbeats 4000000
set_option maxRecDepth 20000
theorem fch_L20_Begun (p0 : (List (List UInt8))) (w0 : Hp) (r : ((Option Nat) × Hp)) (h : m_L20_Begun p0 w0 = some r) : FCH Try.prog 25 [.t (.d (.seq 1 (List.map (cSl 1 cU8) p0)))] [] [] (hpA w0) (hpA r.2) (.t ((ptT 5 r.1))) := by
 refine fch_mk (rs := [.tmp 2]) (n := 40) [] Try.func25 rfl rfl (Nat.le_of_ble_eq_true rfl) rfl (pins := []) rfl (L := [(HK, .hp (hpA w0)), (0, .t (.d (.seq 1 (List.map (cSl 1 cU8) p0))))]) rfl ?_
 refine c_sr ?_
 refine o_of (e := [(2, .t (.d (.lit (.pointer none))))]) (g0 rfl) (h_mv mR (.inr rfl) rfl rfl rfl) rfl ?_
 refine o_nil (c_sr ?_)
 obtain ⟨x1, h2, h⟩ := bind_some h
 refine o_of (e := [(HK, .hp (hpA x1.2.2)), (12, .tup [(ptT 1 x1.1), .i x1.2.1])]) (g0 rfl) (h_call mR rfl (σ := []) (fr := []) rfl rfl rfl rfl rfl rfl rfl (fch_disk_New _ w0 _ h2) (pure_hpA _) (pure_hpA _) rfl rfl rfl rfl (.cons (.plain .r rfl) .nil) rfl (.tup (.cons (ptT_pt _ _) (.cons (.flat rfl) .nil)))) rfl ?_
 refine o_c (g0 rfl) rfl rfl rfl (congrArg A.tup (cp_cons (ptT_cp _ _) (cp_cons rfl cp_nil))) trivial ?_
 refine o_c (g0 rfl) rfl rfl rfl (congrArg A.t (ptT_cp _ _)) trivial ?_
 refine o_1 (.i x1.2.1) rfl ?_
 refine o_of (e := [(3, .t ((ptT 1 x1.1)))]) (g0 rfl) (h_mv mR (.inr rfl) (cpO_pt rfl) rfl rfl) rfl ?_
 refine o_1 (.i x1.2.1) rfl ?_
 refine o_nil (c_sr ?_)
 refine o_of (e := [(15, .t ((ptT 1 x1.1)))]) (g0 rfl) (h_mv mR (.inl rfl) (cpO_pt rfl) rfl rfl) rfl ?_
 obtain ⟨x3, h4, h⟩ := bind_some h
 refine o_of (e := [(HK, .hp (hpA x3.2)), (16, .i x3.1)]) (g0 rfl) (h_call mR rfl (σ := []) (fr := []) rfl rfl rfl rfl rfl rfl rfl (fch_wal_Format _ _ x1.2.2 _ h4) (pure_hpA _) (pure_hpA _) rfl rfl rfl rfl (.cons (argPt rfl) (.cons (.plain .r rfl) .nil)) rfl (.t (.flat rfl))) rfl ?_
 refine o_nil (c_sr ?_)
 refine o_of (e := [(18, .t ((ptT 1 x1.1)))]) (g0 rfl) (h_mv mR (.inl rfl) (cpO_pt rfl) rfl rfl) rfl ?_
 obtain ⟨x5, h6, h⟩ := bind_some h
 refine o_of (e := [(HK, .hp (hpA x5.2.2)), (19, .tup [(ptT 3 x5.1), .i x5.2.1])]) (g0 rfl) (h_call mR rfl (σ := []) (fr := []) rfl rfl rfl rfl rfl rfl rfl (fch_wal_Open _ x3.2 _ h6) (pure_hpA _) (pure_hpA _) rfl rfl rfl rfl (.cons (argPt rfl) .nil) rfl (.tup (.cons (ptT_pt _ _) (.cons (.flat rfl) .nil)))) rfl ?_
 refine o_c (g0 rfl) rfl rfl rfl (congrArg A.tup (cp_cons (ptT_cp _ _) (cp_cons rfl cp_nil))) trivial ?_
 refine o_c (g0 rfl) rfl rfl rfl (congrArg A.t (ptT_cp _ _)) trivial ?_
 refine o_1 (.i x5.2.1) rfl ?_
 refine o_of (e := [(5, .t ((ptT 3 x5.1)))]) (g0 rfl) (h_mv mR (.inr rfl) (cpO_pt rfl) rfl rfl) rfl ?_
 refine o_1 (.i x5.2.1) rfl ?_
 refine o_nil (c_sr ?_)
 refine o_of (e := [(23, .t ((ptT 3 x5.1)))]) (g0 rfl) (h_mv mR (.inl rfl) (cpO_pt rfl) rfl rfl) rfl ?_
 obtain ⟨x7, h8, h⟩ := bind_some h
 refine o_of (e := [(HK, .hp (hpA x7.2.2)), (24, .tup [(ptT 5 x7.1), .i x7.2.1])]) (g0 rfl) (h_call mR rfl (σ := []) (fr := []) rfl rfl rfl rfl rfl rfl rfl (fch_wal_Log_Begin _ x5.2.2 _ h8) (pure_hpA _) (pure_hpA _) rfl rfl rfl rfl (.cons (argPt rfl) .nil) rfl (.tup (.cons (ptT_pt _ _) (.cons (.flat rfl) .nil)))) rfl ?_
 refine o_c (g0 rfl) rfl rfl rfl (congrArg A.tup (cp_cons (ptT_cp _ _) (cp_cons rfl cp_nil))) trivial ?_
 refine o_c (g0 rfl) rfl rfl rfl (congrArg A.t (ptT_cp _ _)) trivial ?_
 refine o_1 (.i x7.2.1) rfl ?_
 refine o_of (e := [(7, .t ((ptT 5 x7.1)))]) (g0 rfl) (h_mv mR (.inr rfl) (cpO_pt rfl) rfl rfl) rfl ?_
 refine o_1 (.i x7.2.1) rfl ?_
 refine o_nil (c_seq (c_sr ?_))
 refine o_1 (.t (.d (.seq 1 (List.map (cSl 1 cU8) p0)))) rfl ?_
 refine o_c (g0 rfl) rfl rfl rfl (lenE _ _) trivial ?_
 refine o_1 (.i 0) rfl ?_
 refine o_nil (c_block ?_)
 refine c_fuelH (fun (q : Int × Hp) => [(7, .t ((ptT 5 x7.1))), (27, .t (.d (.seq 1 (List.map (cSl 1 cU8) p0)))), (28, .i (p0.length : Int)), (29, .i q.1), (HK, .hp (hpA q.2))]) (fun nl1 => (fun (q : Int × Hp) => m_L20_Begun_l1 p0 x7 nl1 q.1 q.2 = some r)) (p0.length + 1) (0, x7.2.2) [] h rfl ⟨.inr ⟨_, rfl, pure_hpA _⟩, by (repeat (first | exact ObP.nil | refine ObP.cons (.inl rfl) ?_ | refine ObP.cons (.inr (fun _ => rfl)) ?_ | refine ObP.cons (.inr (ob_box (fl_noPt _ _))) ?_ | refine ObP.cons (.inr (ob_gb _ _)) ?_))⟩ ⟨.r, .r, .r, .r, .r, trivial⟩ rfl ?_
 rintro nl1 ⟨z9, z10⟩ h
 cases nl1 with
 | zero => exact none_ne h
 | succ nl1 =>
  refine c_sr ?_
  refine o_1 (.b (decide (z9 < (p0.length : Int)))) rfl ?_
  refine o_nil (c_seq ?_)
  rcases bif_some h with ⟨h11, h⟩ | ⟨h11, h⟩
  ·
   refine c_t h11 rfl ?_
   refine c_skip (c_seq (c_block (c_sr ?_)))
   refine o_1 (.i z9) rfl ?_
   obtain ⟨x12, h13, h⟩ := bind_some h
   refine o_c (g0 rfl) rfl rfl rfl (idxE h13) (idxC h13) ?_
   refine o_m3 (.y x12) (.i z9) (.y x12) rfl ?_
   refine o_nil (c_region ?_)
   refine o_of (e := [(34, .t ((ptT 5 x7.1)))]) (g0 rfl) (h_mv mR (.inl rfl) (cpO_pt rfl) rfl rfl) rfl ?_
   refine o_m2 (.i z9) (.y x12) rfl ?_
   obtain ⟨x14, h15, h⟩ := bind_some h
   refine o_of (e := [(HK, .hp (hpA x14.2)), (37, .i x14.1)]) (g0 rfl) (h_call mR rfl (σ := []) (fr := []) rfl rfl rfl rfl rfl rfl rfl (fch_wal_Txn_Write _ _ _ z10 _ h15) (pure_hpA _) (pure_hpA _) rfl rfl rfl rfl (.cons (argPt rfl) (.cons (.plain .r rfl) (.cons (.plain .r rfl) .nil))) rfl (.t (.flat rfl))) rfl ?_
   refine o_nil (c_region ?_)
   refine o_m2 (.i (wi (z9 + 1))) (.i (wi (z9 + 1))) rfl ?_
   refine o_nil ?_
   exact ⟨nl1, ((wi (z9 + 1)), x14.2), [], Nat.lt_succ_self nl1, h, rfl, ⟨.inr ⟨_, rfl, pure_hpA _⟩, by (repeat (first | exact ObP.nil | refine ObP.cons (.inl rfl) ?_ | refine ObP.cons (.inr (fun _ => rfl)) ?_ | refine ObP.cons (.inr (ob_box (fl_noPt _ _))) ?_ | refine ObP.cons (.inr (ob_gb _ _)) ?_))⟩, ⟨.r, .r, .r, .r, .r, trivial⟩, rfl⟩
  refine c_f h11 rfl ?_
  refine c_exit (c_sr ?_)
  refine o_of (e := [(39, .t ((ptT 5 x7.1)))]) (g0 rfl) (h_mv mR (.inl rfl) (cpO_pt rfl) rfl rfl) rfl ?_
  refine o_of (e := [(2, .t ((ptT 5 x7.1)))]) (g0 rfl) (h_mv mR (.inr rfl) (cpO_pt rfl) rfl rfl) rfl ?_
  refine o_nil (c_ret ?_)
  obtain rfl := Option.some.inj h
  exact ⟨⟨_, rfl, .r⟩, trivial, rfl⟩
theorem fc_R01_Same (p0 : (List UInt8)) (p1 : (List UInt8)) (r : Bool) (h : m_R01_Same p0 p1 = some r) : FC Try.prog 32 [.t (.d (.seq 1 (bytesD p0))), .t (.d (.seq 1 (bytesD p1)))] [] (.t (.d (.lit (.bool r)))) := by
 refine fc_mk (rs := [.tmp 4]) (n := 26) Try.func32 rfl rfl (Nat.le_of_ble_eq_true rfl) rfl (pins := []) rfl (L := [(0, .y p0), (1, .y p1)]) rfl ?_
 refine c_sr ?_
 refine o_1 (.b false) rfl ?_
 refine o_nil (c_seq (c_sr ?_))
 refine o_1 (.y p0) rfl ?_
 refine o_c (g0 rfl) rfl rfl rfl (lenE _ _) trivial ?_
 refine o_1 (.y p1) rfl ?_
 refine o_c (g0 rfl) rfl rfl rfl (lenE _ _) trivial ?_
 refine o_1 (.b ((p0.length : Int) != (p1.length : Int))) rfl ?_
 refine o_nil ?_
 rcases bif_some h with ⟨h1, h⟩ | ⟨h1, h⟩
 ·
  refine c_t h1 rfl ?_
  refine c_sr ?_
  refine o_1 (.b false) rfl ?_
  refine o_nil (c_ret ?_)
  obtain rfl := Option.some.inj h
  exact end0 rfl .r
 refine c_f h1 rfl ?_
 refine c_skip (c_seq (c_sr ?_))
 refine o_1 (.i 0) rfl ?_
 refine o_nil (c_block ?_)
 refine c_fuel (fun (z2 : Int) => [(0, .y p0), (1, .y p1), (5, .i z2)]) (fun nl1 => (fun (z2 : Int) => m_R01_Same_l1 p0 p1 nl1 z2 = some r)) (p0.length + 1) 0 h ⟨.r, .r, .r, trivial⟩ rfl ?_
 rintro nl1 z2 h
 cases nl1 with
 | zero => exact none_ne h
 | succ nl1 =>
  refine c_seq (c_sr ?_)
  refine o_m2 (.i z2) (.y p0) rfl ?_
  refine o_c (g0 rfl) rfl rfl rfl (lenE _ _) trivial ?_
  refine o_1 (.b (decide (z2 < (p0.length : Int)))) rfl ?_
  refine o_nil ?_
  rcases bif_some h with ⟨h3, h⟩ | ⟨h3, h⟩
  ·
   refine c_t h3 rfl ?_
   refine c_skip (c_seq (c_block (c_seq ?_)))
   refine c_draw mixed (by kernel_rfl) ?_
   refine d_s (.y p0) rfl (dg0 rfl) rfl rfl rfl rfl ?_
   refine d_s (.i z2) rfl (dg0 rfl) rfl rfl rfl rfl ?_
   obtain ⟨x4, h5, h⟩ := bind_some h
   refine d_c rfl (dg0 rfl) rfl rfl rfl rfl (idxE h5) (idxC h5) ?_
   refine d_s (.t (.d (.lit (.int .u8 (x4.toNat : Int))))) rfl (dg0 rfl) rfl rfl rfl rfl ?_
   refine d_s (.y p1) rfl (dg0 rfl) rfl rfl rfl rfl ?_
   refine d_s (.i z2) rfl (dg0 rfl) rfl rfl rfl rfl ?_
   obtain ⟨x6, h7, h⟩ := bind_some h
   refine d_c rfl (dg0 rfl) rfl rfl rfl rfl (idxE h7) (idxC h7) ?_
   refine d_s (.t (.d (.lit (.int .u8 (x6.toNat : Int))))) rfl (dg0 rfl) rfl rfl rfl rfl ?_
   refine d_s (.b ((x4.toNat : Int) != (x6.toNat : Int))) rfl (dg0 rfl) rfl rfl rfl rfl ?_
   refine d_nil (by kernel_rfl) ?_
   rcases bif_some h with ⟨h8, h⟩ | ⟨h8, h⟩
   ·
    refine c_t h8 rfl ?_
    refine c_sr ?_
    refine o_1 (.b false) rfl ?_
    refine o_nil (c_ret ?_)
    obtain rfl := Option.some.inj h
    exact end0 rfl .r
   refine c_f h8 rfl ?_
   refine c_skip (c_region ?_)
   refine o_m3 (.i z2) (.i (wi (z2 + 1))) (.i (wi (z2 + 1))) rfl ?_
   refine o_nil ?_
   exact ⟨nl1, (wi (z2 + 1)), Nat.lt_succ_self nl1, h, ⟨.r, .r, .r, trivial⟩, rfl⟩
  refine c_f h3 rfl ?_
  refine c_exit (c_sr ?_)
  refine o_1 (.b true) rfl ?_
  refine o_nil (c_ret ?_)
  obtain rfl := Option.some.inj h
  exact end0 rfl .r
theorem fch_L20_awake (w0 : Hp) (r : (Bool × Hp)) (h : m_L20_awake w0 = some r) : FCH Try.prog 40 [] [] [] (hpA w0) (hpA r.2) (.t (.d (.lit (.bool r.1)))) := by
 refine fch_mk (rs := [.tmp 0]) (n := 44) [] Try.func40 rfl rfl (Nat.le_of_ble_eq_true rfl) rfl (pins := []) rfl (L := [(HK, .hp (hpA w0))]) rfl ?_
 refine c_sr ?_
 refine o_1 (.b false) rfl ?_
 refine o_nil (c_sr ?_)
 obtain ⟨x1, h2, h⟩ := bind_some h
 refine o_ca (fc_index_Bucket _ _ h2) (g0 rfl) rfl rfl rfl rfl rfl rfl rfl (.cons .r .nil) rfl rfl ?_
 refine o_m5 (.tup [.i x1.1, .b x1.2]) (.i x1.1) (.b x1.2) (.i x1.1) (.b x1.2) rfl ?_
 refine o_nil (c_sr ?_)
 obtain ⟨x3, h4, h⟩ := bind_some h
 refine o_of (e := [(HK, .hp (hpA x3.2)), (12, .t ((ptT 5 x3.1)))]) (g0 rfl) (h_call mR rfl (σ := []) (fr := []) rfl rfl rfl rfl rfl rfl rfl (fch_L20_Begun _ w0 _ h4) (pure_hpA _) (pure_hpA _) rfl rfl rfl rfl (.cons (.plain (.t (.d (.nil _))) rfl) .nil) rfl (.t (ptT_pt _ _))) rfl ?_
 refine o_of (e := [(3, .t ((ptT 5 x3.1)))]) (g0 rfl) (h_mv mR (.inr rfl) (cpO_pt rfl) rfl rfl) rfl ?_
 refine o_nil (c_sr ?_)
 refine o_of (e := [(13, .t ((ptT 5 x3.1)))]) (g0 rfl) (h_mv mR (.inl rfl) (cpO_pt rfl) rfl rfl) rfl ?_
 obtain ⟨x5, h6, h⟩ := bind_some h
 refine o_of (e := [(HK, .hp (hpA x5.2)), (14, .t ((ptT 7 x5.1)))]) (g0 rfl) (h_call mR rfl (σ := []) (fr := []) rfl rfl rfl rfl rfl rfl rfl (fch_index_At _ _ x3.2 _ h6) (pure_hpA _) (pure_hpA _) rfl rfl rfl rfl (.cons (argPt rfl) (.cons (.plain .r rfl) .nil)) rfl (.t (ptT_pt _ _))) rfl ?_
 refine o_of (e := [(4, .t ((ptT 7 x5.1)))]) (g0 rfl) (h_mv mR (.inr rfl) (cpO_pt rfl) rfl rfl) rfl ?_
 refine o_nil (c_seq (c_sr ?_))
 refine o_m3 (.b x1.2) (.b (!x1.2)) (.b (!x1.2)) rfl ?_
 rcases bif_some h with ⟨h7, h⟩ | ⟨h7, h⟩
 ·
  refine o_skip rfl rfl rfl h7 rfl rfl ?_
  refine o_skip rfl rfl rfl h7 rfl rfl ?_
  refine o_pk (.b true) (b := true) h7 (g0 rfl) rfl rfl rfl rfl rfl ?_
  refine o_1 (.b true) rfl ?_
  refine o_skip rfl rfl rfl rfl rfl rfl ?_
  refine o_skip rfl rfl rfl rfl rfl rfl ?_
  refine o_skip rfl rfl rfl rfl rfl rfl ?_
  refine o_skip rfl rfl rfl rfl rfl rfl ?_
  refine o_pk (.b true) (b := true) rfl (g0 rfl) rfl rfl rfl rfl rfl ?_
  refine o_nil ?_
  refine c_t rfl rfl ?_
  refine c_sr ?_
  refine o_1 (.b false) rfl ?_
  refine o_nil (c_ret ?_)
  obtain rfl := Option.some.inj h
  exact ⟨⟨_, rfl, .r⟩, trivial, rfl⟩
 refine o_s (.i x1.1) (gy rfl rfl rfl h7) rfl rfl rfl ?_
 refine o_s (.b (x1.1 != 1)) (gy rfl rfl rfl h7) rfl rfl rfl ?_
 refine o_pk (.b (x1.1 != 1)) (b := false) h7 (g0 rfl) rfl rfl rfl rfl rfl ?_
 refine o_1 (.b (x1.1 != 1)) rfl ?_
 rcases bif_some h with ⟨h8, h⟩ | ⟨h8, h⟩
 ·
  refine o_skip rfl rfl rfl h8 rfl rfl ?_
  refine o_skip rfl rfl rfl h8 rfl rfl ?_
  refine o_skip rfl rfl rfl h8 rfl rfl ?_
  refine o_skip rfl rfl rfl h8 rfl rfl ?_
  refine o_pk (.b true) (b := true) h8 (g0 rfl) rfl rfl rfl rfl rfl ?_
  refine o_nil ?_
  refine c_t rfl rfl ?_
  refine c_sr ?_
  refine o_1 (.b false) rfl ?_
  refine o_nil (c_ret ?_)
  obtain rfl := Option.some.inj h
  exact ⟨⟨_, rfl, .r⟩, trivial, rfl⟩
 refine o_of (e := [(22, .t ((ptT 7 x5.1)))]) (gy rfl rfl rfl h8) (h_mv mR (.inl rfl) (cpO_pt rfl) rfl rfl) rfl ?_
 refine o_s (.t (.agg [.s [65], .i 3, .i 0, .i 0])) (gy rfl rfl rfl h8) rfl rfl rfl ?_
 obtain ⟨x9, h10, h⟩ := bind_some h
 refine o_of (e := [(HK, .hp (hpA x9.2)), (24, .i x9.1)]) (gy rfl rfl rfl h8) (h_call mR rfl (σ := []) (fr := []) rfl rfl rfl rfl rfl rfl rfl (fch_index_Index_Put _ _ _ x5.2 _ h10) (pure_hpA _) (pure_hpA _) rfl rfl rfl rfl (.cons (argPt rfl) (.cons (.plain .r rfl) (.cons (.plain .r rfl) .nil))) rfl (.t (.flat rfl))) rfl ?_
 refine o_s (.b (x9.1 != 0)) (gy rfl rfl rfl h8) rfl rfl rfl ?_
 refine o_pk (.b (x9.1 != 0)) (b := false) h8 (g0 rfl) rfl rfl rfl rfl rfl ?_
 refine o_nil ?_
 rcases bif_some h with ⟨h11, h⟩ | ⟨h11, h⟩
 ·
  refine c_t h11 rfl ?_
  refine c_sr ?_
  refine o_1 (.b false) rfl ?_
  refine o_nil (c_ret ?_)
  obtain rfl := Option.some.inj h
  exact ⟨⟨_, rfl, .r⟩, trivial, rfl⟩
 refine c_f h11 rfl ?_
 refine c_skip (c_sr ?_)
 refine o_of (e := [(28, .t ((ptT 7 x5.1)))]) (g0 rfl) (h_mv mR (.inl rfl) (cpO_pt rfl) rfl rfl) rfl ?_
 obtain ⟨x12, h13, h⟩ := bind_some h
 refine o_of (e := [(29, .tup [.agg [.s x12.1.Key, .i x12.1.Version, .i x12.1.Len, .i x12.1.First], .i x12.2.1, .i x12.2.2])]) (g0 rfl) (h_callR mR rfl (σ := []) (fr := []) rfl rfl rfl rfl rfl rfl rfl (fch_index_Index_Find _ _ x9.2 _ h13) (pure_hpA _) rfl rfl rfl rfl (.cons (argPt rfl) (.cons (.plain .r rfl) .nil)) rfl (.tup (.cons (.flat rfl) (.cons (.flat rfl) (.cons (.flat rfl) .nil))))) rfl ?_
 refine o_m5 (.tup [.agg [.s x12.1.Key, .i x12.1.Version, .i x12.1.Len, .i x12.1.First], .i x12.2.1, .i x12.2.2]) (.t (.agg [.s x12.1.Key, .i x12.1.Version, .i x12.1.Len, .i x12.1.First])) (.i x12.2.1) (.i x12.2.2) (.box [.s [], .i 0, .i 0, .i 0]) rfl ?_
 refine o_st (.box [.s x12.1.Key, .i x12.1.Version, .i x12.1.Len, .i x12.1.First]) (g0 rfl) rfl rfl rfl ?_
 refine o_m2 (.i x12.2.1) (.i x12.2.2) rfl ?_
 refine o_nil (c_sr ?_)
 refine o_m3 (.i x12.2.2) (.b (x12.2.2 == 0)) (.b (x12.2.2 == 0)) rfl ?_
 rcases bif_some h with ⟨h14, h⟩ | ⟨h14, h⟩
 ·
  refine o_s (.i x12.2.1) (gy rfl rfl rfl h14) rfl rfl rfl ?_
  refine o_s (.b (x12.2.1 == 5)) (gy rfl rfl rfl h14) rfl rfl rfl ?_
  refine o_pk (.b (x12.2.1 == 5)) (b := true) h14 (g0 rfl) rfl rfl rfl rfl rfl ?_
  refine o_1 (.b (x12.2.1 == 5)) rfl ?_
  rcases bif_some h with ⟨h15, h⟩ | ⟨h15, h⟩
  ·
   refine o_s (.ref 5 1) (gy rfl rfl rfl h15) rfl rfl rfl ?_
   refine o_s (.i x12.1.Version) (gy rfl rfl rfl h15) rfl rfl rfl ?_
   refine o_s (.b (x12.1.Version == 3)) (gy rfl rfl rfl h15) rfl rfl rfl ?_
   refine o_pk (.b (x12.1.Version == 3)) (b := true) h15 (g0 rfl) rfl rfl rfl rfl rfl ?_
   refine o_1 (.b (x12.1.Version == 3)) rfl ?_
   refine o_nil (c_ret ?_)
   obtain rfl := Option.some.inj h
   exact ⟨⟨_, rfl, .r⟩, trivial, rfl⟩
  refine o_skip rfl rfl rfl h15 rfl rfl ?_
  refine o_skip rfl rfl rfl h15 rfl rfl ?_
  refine o_skip rfl rfl rfl h15 rfl rfl ?_
  refine o_pk (.b false) (b := false) h15 (g0 rfl) rfl rfl rfl rfl rfl ?_
  refine o_1 (.b false) rfl ?_
  refine o_nil (c_ret ?_)
  obtain rfl := Option.some.inj h
  exact ⟨⟨_, rfl, .r⟩, trivial, rfl⟩
 refine o_skip rfl rfl rfl h14 rfl rfl ?_
 refine o_skip rfl rfl rfl h14 rfl rfl ?_
 refine o_pk (.b false) (b := false) h14 (g0 rfl) rfl rfl rfl rfl rfl ?_
 refine o_1 (.b false) rfl ?_
 refine o_skip rfl rfl rfl rfl rfl rfl ?_
 refine o_skip rfl rfl rfl rfl rfl rfl ?_
 refine o_skip rfl rfl rfl rfl rfl rfl ?_
 refine o_pk (.b false) (b := false) rfl (g0 rfl) rfl rfl rfl rfl rfl ?_
 refine o_1 (.b false) rfl ?_
 refine o_nil (c_ret ?_)
 obtain rfl := Option.some.inj h
 exact ⟨⟨_, rfl, .r⟩, trivial, rfl⟩
theorem fc_L20_few (p0 : (List S_L20_Do)) (r : Bool) (h : m_L20_few p0 = some r) : FC Try.prog 41 [.t (.d (.seq 6 (List.map cS_L20_Do p0)))] [] (.t (.d (.lit (.bool r)))) := by
 refine fc_mk (rs := [.tmp 2]) (n := 20) Try.func41 rfl rfl (Nat.le_of_ble_eq_true rfl) rfl (pins := []) rfl (L := [(0, .t (.d (.seq 6 (List.map cS_L20_Do p0))))]) rfl ?_
 refine c_sr ?_
 refine o_1 (.b false) rfl ?_
 refine o_nil ?_
 refine c_cut (fun (_ : Unit) => [(0, .t (.d (.seq 6 (List.map cS_L20_Do p0))))]) (fun (_ : Unit) => m_L20_few_j1 p0 = some r) ?_ ?_
 ·
  refine c_sr ?_
  refine o_1 (.t (.d (.seq 6 (List.map cS_L20_Do p0)))) rfl ?_
  refine o_c (g0 rfl) rfl rfl rfl (lenE _ _) trivial ?_
  refine o_1 (.i 0) rfl ?_
  refine o_nil (c_block ?_)
  refine c_fuel (fun (z1 : Int) => [(0, .t (.d (.seq 6 (List.map cS_L20_Do p0)))), (5, .t (.d (.seq 6 (List.map cS_L20_Do p0)))), (6, .i (p0.length : Int)), (7, .i z1)]) (fun nl2 => (fun (z1 : Int) => m_L20_few_l2 p0 nl2 z1 = some r)) (p0.length + 1) 0 h ⟨.r, .r, .r, .r, trivial⟩ rfl ?_
  rintro nl2 z1 h
  cases nl2 with
  | zero => exact none_ne h
  | succ nl2 =>
   refine c_sr ?_
   refine o_1 (.b (decide (z1 < (p0.length : Int)))) rfl ?_
   refine o_nil (c_seq ?_)
   rcases bif_some h with ⟨h2, h⟩ | ⟨h2, h⟩
   ·
    refine c_t h2 rfl ?_
    refine c_skip (c_seq (c_block (c_sr ?_)))
    obtain ⟨x3, h4, h⟩ := bind_some h
    refine o_c (g0 rfl) rfl rfl rfl (idxE h4) (idxC h4) ?_
    refine o_m2 (.t (.agg [.i x3.Kind, .i x3.Home, .s x3.E.Key, .i x3.E.Version, .i x3.E.Len, .i x3.E.First])) (.box [.i 0, .i 0, .s [], .i 0, .i 0, .i 0]) rfl ?_
    refine o_st (.box [.i x3.Kind, .i x3.Home, .s x3.E.Key, .i x3.E.Version, .i x3.E.Len, .i x3.E.First]) (g0 rfl) rfl rfl rfl ?_
    refine o_nil (c_sr ?_)
    refine o_m5 (.ref 4 2) (.ref 4 2) (.s x3.E.Key) (.i (x3.E.Key.length : Int)) (.b (decide ((x3.E.Key.length : Int) > 100))) rfl ?_
    refine o_nil ?_
    rcases bif_some h with ⟨h5, h⟩ | ⟨h5, h⟩
    ·
     refine c_t h5 rfl ?_
     refine c_sr ?_
     refine o_1 (.b false) rfl ?_
     refine o_nil (c_ret ?_)
     obtain rfl := Option.some.inj h
     exact end0 rfl .r
    refine c_f h5 rfl ?_
    refine c_skip (c_region ?_)
    refine o_m2 (.i (wi (z1 + 1))) (.i (wi (z1 + 1))) rfl ?_
    refine o_nil ?_
    exact ⟨nl2, (wi (z1 + 1)), Nat.lt_succ_self nl2, h, ⟨.r, .r, .r, .r, trivial⟩, rfl⟩
   refine c_f h2 rfl ?_
   refine c_exit ?_
   exact ⟨(), h, ⟨.r, trivial⟩, rfl⟩
 rintro ⟨⟩ h
 refine c_sr ?_
 refine o_1 (.t (.d (.seq 6 (List.map cS_L20_Do p0)))) rfl ?_
 refine o_c (g0 rfl) rfl rfl rfl (lenE _ _) trivial ?_
 refine o_m2 (.b (decide ((p0.length : Int) ≤ 30))) (.b (decide ((p0.length : Int) ≤ 30))) rfl ?_
 refine o_nil (c_ret ?_)
 obtain rfl := Option.some.inj h
 exact end0 rfl .r
theorem fc_R20_Bucket (p0 : (List UInt8)) (r : Int) (h : m_R20_Bucket p0 = some r) : FC Try.prog 95 [.t (.d (.lit (.string ⟨⟨p0⟩⟩)))] [] (.t (.d (.lit (.int .i64 r)))) := by
 refine fc_mk (rs := [.tmp 2]) (n := 21) Try.func95 rfl rfl (Nat.le_of_ble_eq_true rfl) rfl (pins := []) rfl (L := [(0, .s p0)]) rfl ?_
 refine c_sr ?_
 refine o_1 (.i 0) rfl ?_
 refine o_nil (c_sr ?_)
 refine o_1 (.i 0) rfl ?_
 refine o_nil ?_
 refine c_cut (fun (y1 : Int) => [(3, .i y1)]) (fun (y1 : Int) => m_R20_Bucket_j1 y1 = some r) ?_ ?_
 ·
  refine c_sr ?_
  refine o_1 (.i 0) rfl ?_
  refine o_nil (c_block ?_)
  refine c_fuel (fun (q : Int × Int) => [(0, .s p0), (3, .i q.1), (4, .i q.2)]) (fun nl2 => (fun (q : Int × Int) => m_R20_Bucket_l2 p0 nl2 q.1 q.2 = some r)) (p0.length + 1) (0, 0) h ⟨.r, .r, .r, trivial⟩ rfl ?_
  rintro nl2 ⟨z2, z3⟩ h
  cases nl2 with
  | zero => exact none_ne h
  | succ nl2 =>
   refine c_seq (c_sr ?_)
   refine o_m4 (.i z3) (.s p0) (.i (p0.length : Int)) (.b (decide (z3 < (p0.length : Int)))) rfl ?_
   refine o_nil ?_
   rcases bif_some h with ⟨h4, h⟩ | ⟨h4, h⟩
   ·
    refine c_t h4 rfl ?_
    refine c_skip (c_seq (c_block (c_region ?_)))
    refine o_m4 (.i z2) (.i (wi (31 * z2))) (.s p0) (.i z3) rfl ?_
    obtain ⟨x5, h6, h⟩ := bind_some h
    refine o_c (g0 rfl) rfl rfl rfl (strIdxE h6) (strIdxC h6) ?_
    refine o_c (g0 rfl) rfl rfl rfl (congrArg (fun z => A.i z) (i64_u8 _)) trivial ?_
    refine o_m3 (.i (wi ((wi (31 * z2)) + (x5.toNat : Int)))) (.i (Int.tmod (wi ((wi (31 * z2)) + (x5.toNat : Int))) 4294967296)) (.i (Int.tmod (wi ((wi (31 * z2)) + (x5.toNat : Int))) 4294967296)) rfl ?_
    refine o_nil (c_region ?_)
    refine o_m3 (.i z3) (.i (wi (z3 + 1))) (.i (wi (z3 + 1))) rfl ?_
    refine o_nil ?_
    exact ⟨nl2, ((Int.tmod (wi ((wi (31 * z2)) + (x5.toNat : Int))) 4294967296), (wi (z3 + 1))), Nat.lt_succ_self nl2, h, ⟨.r, .r, .r, trivial⟩, rfl⟩
   refine c_f h4 rfl ?_
   refine c_exit ?_
   exact ⟨z2, h, ⟨.r, trivial⟩, rfl⟩
 rintro y1 h
 refine c_sr ?_
 refine o_m3 (.i y1) (.i (Int.tmod y1 64)) (.i (Int.tmod y1 64)) rfl ?_
 refine o_nil (c_ret ?_)
 obtain rfl := Option.some.inj h
 exact end0 rfl .r
theorem fc_R01_Get (p0 : (List UInt8)) (r : (Int × Int)) (h : m_R01_Get p0 = some r) : FC Try.prog 86 [.t (.d (.seq 1 (bytesD p0)))] [] (.tup [.d (.lit (.int .i64 r.1)), .d (.lit (.int .i64 r.2))]) := by
 refine fc_mk (rs := [.tmp 2, .tmp 3]) (n := 39) Try.func86 rfl rfl (Nat.le_of_ble_eq_true rfl) rfl (pins := []) rfl (L := [(0, .y p0)]) rfl ?_
 refine c_sr ?_
 refine o_m2 (.i 0) (.i 0) rfl ?_
 refine o_nil (c_seq (c_sr ?_))
 refine o_1 (.y p0) rfl ?_
 refine o_c (g0 rfl) rfl rfl rfl (lenE _ _) trivial ?_
 refine o_1 (.b ((p0.length : Int) == 0)) rfl ?_
 refine o_nil ?_
 rcases bif_some h with ⟨h1, h⟩ | ⟨h1, h⟩
 ·
  refine c_t h1 rfl ?_
  refine c_sr ?_
  refine o_m2 (.i 0) (.i 10) rfl ?_
  refine o_nil (c_ret ?_)
  obtain rfl := Option.some.inj h
  exact end0 rfl (.tup (.cons .r (.cons .r .nil)))
 refine c_f h1 rfl ?_
 refine c_skip (c_seq (c_sr ?_))
 refine o_1 (.y p0) rfl ?_
 refine o_c (g0 rfl) rfl rfl rfl (lenE _ _) trivial ?_
 refine o_1 (.b (decide ((p0.length : Int) > 8))) rfl ?_
 refine o_nil ?_
 rcases bif_some h with ⟨h2, h⟩ | ⟨h2, h⟩
 ·
  refine c_t h2 rfl ?_
  refine c_sr ?_
  refine o_m2 (.i 0) (.i 2) rfl ?_
  refine o_nil (c_ret ?_)
  obtain rfl := Option.some.inj h
  exact end0 rfl (.tup (.cons .r (.cons .r .nil)))
 refine c_f h2 rfl ?_
 refine c_skip (c_sr ?_)
 refine o_1 (.i 0) rfl ?_
 refine o_nil ?_
 refine c_cut (fun (y3 : Int) => [(4, .i y3)]) (fun (y3 : Int) => m_R01_Get_j1 y3 = some r) ?_ ?_
 ·
  refine c_sr ?_
  refine o_1 (.i 0) rfl ?_
  refine o_nil (c_block ?_)
  refine c_fuel (fun (q : Int × Int) => [(0, .y p0), (4, .i q.1), (5, .i q.2)]) (fun nl2 => (fun (q : Int × Int) => m_R01_Get_l2 p0 nl2 q.1 q.2 = some r)) (p0.length + 1) (0, 0) h ⟨.r, .r, .r, trivial⟩ rfl ?_
  rintro nl2 ⟨z4, z5⟩ h
  cases nl2 with
  | zero => exact none_ne h
  | succ nl2 =>
   refine c_seq (c_sr ?_)
   refine o_m2 (.i z5) (.y p0) rfl ?_
   refine o_c (g0 rfl) rfl rfl rfl (lenE _ _) trivial ?_
   refine o_1 (.b (decide (z5 < (p0.length : Int)))) rfl ?_
   refine o_nil ?_
   rcases bif_some h with ⟨h6, h⟩ | ⟨h6, h⟩
   ·
    refine c_t h6 rfl ?_
    refine c_skip (c_seq (c_block (c_sr ?_)))
    refine o_m2 (.y p0) (.i z5) rfl ?_
    obtain ⟨x7, h8, h⟩ := bind_some h
    refine o_c (g0 rfl) rfl rfl rfl (idxE h8) (idxC h8) ?_
    refine o_1 (.t (.d (.lit (.int .u8 (x7.toNat : Int))))) rfl ?_
    refine o_c (g0 rfl) rfl rfl rfl (congrArg (fun z => A.i z) (i64_u8 _)) trivial ?_
    refine o_1 (.i (x7.toNat : Int)) rfl ?_
    refine o_nil ?_
    refine c_cut (fun (y9 : Bool) => [(0, .y p0), (4, .i z4), (5, .i z5), (6, .i (x7.toNat : Int)), (27, .i z4), (28, .b (z4 == 18014398509481984)), (29, .b (z4 == 18014398509481984)), (32, .b y9)]) (fun (y9 : Bool) => m_R01_Get_j3 (m_R01_Get_l2 p0 nl2) z4 x7 z5 y9 = some r) ?_ ?_
    ·
     refine c_sr ?_
     refine o_m3 (.i z4) (.b (decide (z4 > 18014398509481984))) (.b (decide (z4 > 18014398509481984))) rfl ?_
     rcases bif_some h with ⟨h10, h⟩ | ⟨h10, h⟩
     ·
      refine o_skip rfl rfl rfl h10 rfl rfl ?_
      refine o_skip rfl rfl rfl h10 rfl rfl ?_
      refine o_skip rfl rfl rfl h10 rfl rfl ?_
      refine o_un rfl rfl rfl rfl rfl ?_
      refine o_un rfl rfl rfl rfl rfl ?_
      refine o_skip rfl rfl rfl h10 rfl rfl ?_
      refine o_pk (.b true) (b := true) h10 (g0 rfl) rfl rfl rfl rfl rfl ?_
      refine o_nil ?_
      refine c_t rfl rfl ?_
      refine c_sr ?_
      refine o_m2 (.i 0) (.i 11) rfl ?_
      refine o_nil (c_ret ?_)
      obtain rfl := Option.some.inj h
      exact end0 rfl (.tup (.cons .r (.cons .r .nil)))
     refine o_s (.i z4) (gy rfl rfl rfl h10) rfl rfl rfl ?_
     refine o_s (.b (z4 == 18014398509481984)) (gy rfl rfl rfl h10) rfl rfl rfl ?_
     refine o_s (.b (z4 == 18014398509481984)) (gy rfl rfl rfl h10) rfl rfl rfl ?_
     rcases bif_some h with ⟨h11, h⟩ | ⟨h11, h⟩
     ·
      refine o_s (.i (x7.toNat : Int)) (gy rfl rfl rfl h11) rfl rfl rfl ?_
      refine o_s (.b (decide ((x7.toNat : Int) > 0))) (gy rfl rfl rfl h11) rfl rfl rfl ?_
      refine o_pk (.b (decide ((x7.toNat : Int) > 0))) (b := true) h11 (gy rfl rfl rfl h10) rfl rfl rfl rfl rfl ?_
      refine o_pk (.b (decide ((x7.toNat : Int) > 0))) (b := false) h10 (g0 rfl) rfl rfl rfl rfl rfl ?_
      refine o_nil ?_
      rcases bif_some h with ⟨h12, h⟩ | ⟨h12, h⟩
      ·
       refine c_t h12 rfl ?_
       refine c_sr ?_
       refine o_m2 (.i 0) (.i 11) rfl ?_
       refine o_nil (c_ret ?_)
       obtain rfl := Option.some.inj h
       exact end0 rfl (.tup (.cons .r (.cons .r .nil)))
      refine c_f h12 rfl ?_
      refine c_skip ?_
      exact ⟨(decide ((x7.toNat : Int) > 0)), h, ⟨.r, .r, .r, .r, .r, .r, .r, .r, trivial⟩, rfl⟩
     refine o_skip rfl rfl rfl h11 rfl rfl ?_
     refine o_skip rfl rfl rfl h11 rfl rfl ?_
     refine o_pk (.b false) (b := false) h11 (gy rfl rfl rfl h10) rfl rfl rfl rfl rfl ?_
     refine o_pk (.b false) (b := false) h10 (g0 rfl) rfl rfl rfl rfl rfl ?_
     refine o_nil ?_
     refine c_f rfl rfl ?_
     refine c_skip ?_
     exact ⟨false, h, ⟨.r, .r, .r, .r, .r, .r, .r, .r, trivial⟩, rfl⟩
    rintro y9 h
    refine c_region ?_
    refine o_m5 (.i z4) (.i (wi (256 * z4))) (.i (x7.toNat : Int)) (.i (wi ((wi (256 * z4)) + (x7.toNat : Int)))) (.i (wi ((wi (256 * z4)) + (x7.toNat : Int)))) rfl ?_
    refine o_nil (c_region ?_)
    refine o_m3 (.i z5) (.i (wi (z5 + 1))) (.i (wi (z5 + 1))) rfl ?_
    refine o_nil ?_
    exact ⟨nl2, ((wi ((wi (256 * z4)) + (x7.toNat : Int))), (wi (z5 + 1))), Nat.lt_succ_self nl2, h, ⟨.r, .r, .r, trivial⟩, rfl⟩
   refine c_f h6 rfl ?_
   refine c_exit ?_
   exact ⟨z4, h, ⟨.r, trivial⟩, rfl⟩
 rintro y3 h
 refine c_sr ?_
 refine o_m3 (.i y3) (.i y3) (.i 0) rfl ?_
 refine o_nil (c_ret ?_)
 obtain rfl := Option.some.inj h
 exact end0 rfl (.tup (.cons .r (.cons .r .nil)))
theorem fc_R20_Key (p0 : (List UInt8)) (r : Bool) (h : m_R20_Key p0 = some r) : FC Try.prog 100 [.t (.d (.lit (.string ⟨⟨p0⟩⟩)))] [] (.t (.d (.lit (.bool r)))) := by
 refine fc_mk (rs := [.tmp 2]) (n := 28) Try.func100 rfl rfl (Nat.le_of_ble_eq_true rfl) rfl (pins := []) rfl (L := [(0, .s p0)]) rfl ?_
 refine c_sr ?_
 refine o_1 (.b false) rfl ?_
 refine o_nil (c_seq (c_sr ?_))
 refine o_m4 (.s p0) (.i (p0.length : Int)) (.b (decide ((p0.length : Int) < 1))) (.b (decide ((p0.length : Int) < 1))) rfl ?_
 rcases bif_some h with ⟨h1, h⟩ | ⟨h1, h⟩
 ·
  refine o_skip rfl rfl rfl h1 rfl rfl ?_
  refine o_skip rfl rfl rfl h1 rfl rfl ?_
  refine o_skip rfl rfl rfl h1 rfl rfl ?_
  refine o_pk (.b true) (b := true) h1 (g0 rfl) rfl rfl rfl rfl rfl ?_
  refine o_nil ?_
  refine c_t rfl rfl ?_
  refine c_sr ?_
  refine o_1 (.b false) rfl ?_
  refine o_nil (c_ret ?_)
  obtain rfl := Option.some.inj h
  exact end0 rfl .r
 refine o_s (.s p0) (gy rfl rfl rfl h1) rfl rfl rfl ?_
 refine o_s (.i (p0.length : Int)) (gy rfl rfl rfl h1) rfl rfl rfl ?_
 refine o_s (.b (decide ((p0.length : Int) > 40))) (gy rfl rfl rfl h1) rfl rfl rfl ?_
 refine o_pk (.b (decide ((p0.length : Int) > 40))) (b := false) h1 (g0 rfl) rfl rfl rfl rfl rfl ?_
 refine o_nil ?_
 rcases bif_some h with ⟨h2, h⟩ | ⟨h2, h⟩
 ·
  refine c_t h2 rfl ?_
  refine c_sr ?_
  refine o_1 (.b false) rfl ?_
  refine o_nil (c_ret ?_)
  obtain rfl := Option.some.inj h
  exact end0 rfl .r
 refine c_f h2 rfl ?_
 refine c_skip (c_seq (c_sr ?_))
 refine o_1 (.i 0) rfl ?_
 refine o_nil (c_block ?_)
 refine c_fuel (fun (z3 : Int) => [(0, .s p0), (3, .i z3)]) (fun nl1 => (fun (z3 : Int) => m_R20_Key_l1 p0 nl1 z3 = some r)) (p0.length + 1) 0 h ⟨.r, .r, trivial⟩ rfl ?_
 rintro nl1 z3 h
 cases nl1 with
 | zero => exact none_ne h
 | succ nl1 =>
  refine c_seq (c_sr ?_)
  refine o_m4 (.i z3) (.s p0) (.i (p0.length : Int)) (.b (decide (z3 < (p0.length : Int)))) rfl ?_
  refine o_nil ?_
  rcases bif_some h with ⟨h4, h⟩ | ⟨h4, h⟩
  ·
   refine c_t h4 rfl ?_
   refine c_skip (c_seq (c_block (c_sr ?_)))
   refine o_m2 (.s p0) (.i z3) rfl ?_
   obtain ⟨x5, h6, h⟩ := bind_some h
   refine o_c (g0 rfl) rfl rfl rfl (strIdxE h6) (strIdxC h6) ?_
   refine o_m2 (.b (decide ((x5.toNat : Int) < 33))) (.b (decide ((x5.toNat : Int) < 33))) rfl ?_
   rcases bif_some h with ⟨h7, h⟩ | ⟨h7, h⟩
   ·
    refine o_skip rfl rfl rfl h7 rfl rfl ?_
    refine o_skip rfl rfl rfl h7 rfl rfl ?_
    refine o_skip rfl rfl rfl h7 rfl rfl ?_
    refine o_skip rfl rfl rfl h7 rfl rfl ?_
    refine o_pk (.b true) (b := true) h7 (g0 rfl) rfl rfl rfl rfl rfl ?_
    refine o_nil ?_
    refine c_t rfl rfl ?_
    refine c_sr ?_
    refine o_1 (.b false) rfl ?_
    refine o_nil (c_ret ?_)
    obtain rfl := Option.some.inj h
    exact end0 rfl .r
   refine o_s (.s p0) (gy rfl rfl rfl h7) rfl rfl rfl ?_
   refine o_s (.i z3) (gy rfl rfl rfl h7) rfl rfl rfl ?_
   obtain ⟨x8, h9, h⟩ := bind_some h
   refine o_c (gy rfl rfl rfl h7) rfl rfl rfl (strIdxE h9) (strIdxC h9) ?_
   refine o_s (.b (decide ((x8.toNat : Int) > 126))) (gy rfl rfl rfl h7) rfl rfl rfl ?_
   refine o_pk (.b (decide ((x8.toNat : Int) > 126))) (b := false) h7 (g0 rfl) rfl rfl rfl rfl rfl ?_
   refine o_nil ?_
   rcases bif_some h with ⟨h10, h⟩ | ⟨h10, h⟩
   ·
    refine c_t h10 rfl ?_
    refine c_sr ?_
    refine o_1 (.b false) rfl ?_
    refine o_nil (c_ret ?_)
    obtain rfl := Option.some.inj h
    exact end0 rfl .r
   refine c_f h10 rfl ?_
   refine c_skip (c_region ?_)
   refine o_m3 (.i z3) (.i (wi (z3 + 1))) (.i (wi (z3 + 1))) rfl ?_
   refine o_nil ?_
   exact ⟨nl1, (wi (z3 + 1)), Nat.lt_succ_self nl1, h, ⟨.r, .r, trivial⟩, rfl⟩
  refine c_f h4 rfl ?_
  refine c_exit (c_sr ?_)
  refine o_1 (.b true) rfl ?_
  refine o_nil (c_ret ?_)
  obtain rfl := Option.some.inj h
  exact end0 rfl .r
theorem fc_R20_May (p0 : S_api_Entry) (r : Bool) (h : m_R20_May p0 = some r) : FC Try.prog 54 [.t (.agg [.lit (.string ⟨⟨p0.Key⟩⟩), .lit (.int .i64 p0.Version), .lit (.int .i64 p0.Len), .lit (.int .i64 p0.First)])] [] (.t (.d (.lit (.bool r)))) := by
 refine fc_mk (rs := [.tmp 2]) (n := 36) Try.func54 rfl rfl (Nat.le_of_ble_eq_true rfl) rfl (pins := []) rfl (L := [(0, .t (.agg [.s p0.Key, .i p0.Version, .i p0.Len, .i p0.First]))]) rfl ?_
 refine c_sr ?_
 refine o_m2 (.box [.s p0.Key, .i p0.Version, .i p0.Len, .i p0.First]) (.b false) rfl ?_
 refine o_nil (c_sr ?_)
 refine o_m2 (.ref 1 0) (.s p0.Key) rfl ?_
 obtain ⟨x1, h2, h⟩ := bind_some h
 refine o_ca (fc_R20_Key _ _ h2) (g0 rfl) rfl rfl rfl rfl rfl rfl rfl (.cons .r .nil) rfl rfl ?_
 refine o_1 (.b x1) rfl ?_
 rcases bif_some h with ⟨h3, h⟩ | ⟨h3, h⟩
 ·
  refine o_s (.ref 1 1) (gy rfl rfl rfl h3) rfl rfl rfl ?_
  refine o_s (.i p0.Version) (gy rfl rfl rfl h3) rfl rfl rfl ?_
  refine o_s (.b (decide (p0.Version ≥ 0))) (gy rfl rfl rfl h3) rfl rfl rfl ?_
  refine o_pk (.b (decide (p0.Version ≥ 0))) (b := true) h3 (g0 rfl) rfl rfl rfl rfl rfl ?_
  refine o_1 (.b (decide (p0.Version ≥ 0))) rfl ?_
  rcases bif_some h with ⟨h4, h⟩ | ⟨h4, h⟩
  ·
   refine o_s (.ref 1 1) (gy rfl rfl rfl h4) rfl rfl rfl ?_
   refine o_s (.i p0.Version) (gy rfl rfl rfl h4) rfl rfl rfl ?_
   refine o_s (.b (decide (p0.Version ≤ 4611686018427387904))) (gy rfl rfl rfl h4) rfl rfl rfl ?_
   refine o_pk (.b (decide (p0.Version ≤ 4611686018427387904))) (b := true) h4 (g0 rfl) rfl rfl rfl rfl rfl ?_
   refine o_1 (.b (decide (p0.Version ≤ 4611686018427387904))) rfl ?_
   rcases bif_some h with ⟨h5, h⟩ | ⟨h5, h⟩
   ·
    refine o_s (.ref 1 2) (gy rfl rfl rfl h5) rfl rfl rfl ?_
    refine o_s (.i p0.Len) (gy rfl rfl rfl h5) rfl rfl rfl ?_
    refine o_s (.b (decide (p0.Len ≥ 0))) (gy rfl rfl rfl h5) rfl rfl rfl ?_
    refine o_pk (.b (decide (p0.Len ≥ 0))) (b := true) h5 (g0 rfl) rfl rfl rfl rfl rfl ?_
    refine o_1 (.b (decide (p0.Len ≥ 0))) rfl ?_
    rcases bif_some h with ⟨h6, h⟩ | ⟨h6, h⟩
    ·
     refine o_s (.ref 1 2) (gy rfl rfl rfl h6) rfl rfl rfl ?_
     refine o_s (.i p0.Len) (gy rfl rfl rfl h6) rfl rfl rfl ?_
     refine o_s (.b (decide (p0.Len ≤ 1024))) (gy rfl rfl rfl h6) rfl rfl rfl ?_
     refine o_pk (.b (decide (p0.Len ≤ 1024))) (b := true) h6 (g0 rfl) rfl rfl rfl rfl rfl ?_
     refine o_1 (.b (decide (p0.Len ≤ 1024))) rfl ?_
     rcases bif_some h with ⟨h7, h⟩ | ⟨h7, h⟩
     ·
      refine o_s (.ref 1 3) (gy rfl rfl rfl h7) rfl rfl rfl ?_
      refine o_s (.i p0.First) (gy rfl rfl rfl h7) rfl rfl rfl ?_
      refine o_s (.b (decide (p0.First ≥ 0))) (gy rfl rfl rfl h7) rfl rfl rfl ?_
      refine o_pk (.b (decide (p0.First ≥ 0))) (b := true) h7 (g0 rfl) rfl rfl rfl rfl rfl ?_
      refine o_1 (.b (decide (p0.First ≥ 0))) rfl ?_
      rcases bif_some h with ⟨h8, h⟩ | ⟨h8, h⟩
      ·
       refine o_s (.ref 1 3) (gy rfl rfl rfl h8) rfl rfl rfl ?_
       refine o_s (.i p0.First) (gy rfl rfl rfl h8) rfl rfl rfl ?_
       refine o_s (.b (decide (p0.First ≤ 16384))) (gy rfl rfl rfl h8) rfl rfl rfl ?_
       refine o_pk (.b (decide (p0.First ≤ 16384))) (b := true) h8 (g0 rfl) rfl rfl rfl rfl rfl ?_
       refine o_1 (.b (decide (p0.First ≤ 16384))) rfl ?_
       refine o_nil (c_ret ?_)
       obtain rfl := Option.some.inj h
       exact end0 rfl .r
      refine o_skip rfl rfl rfl h8 rfl rfl ?_
      refine o_skip rfl rfl rfl h8 rfl rfl ?_
      refine o_skip rfl rfl rfl h8 rfl rfl ?_
      refine o_pk (.b false) (b := false) h8 (g0 rfl) rfl rfl rfl rfl rfl ?_
      refine o_1 (.b false) rfl ?_
      refine o_nil (c_ret ?_)
      obtain rfl := Option.some.inj h
      exact end0 rfl .r
     refine o_skip rfl rfl rfl h7 rfl rfl ?_
     refine o_skip rfl rfl rfl h7 rfl rfl ?_
     refine o_skip rfl rfl rfl h7 rfl rfl ?_
     refine o_pk (.b false) (b := false) h7 (g0 rfl) rfl rfl rfl rfl rfl ?_
     refine o_1 (.b false) rfl ?_
     refine o_skip rfl rfl rfl rfl rfl rfl ?_
     refine o_skip rfl rfl rfl rfl rfl rfl ?_
     refine o_skip rfl rfl rfl rfl rfl rfl ?_
     refine o_pk (.b false) (b := false) rfl (g0 rfl) rfl rfl rfl rfl rfl ?_
     refine o_1 (.b false) rfl ?_
     refine o_nil (c_ret ?_)
     obtain rfl := Option.some.inj h
     exact end0 rfl .r
    refine o_skip rfl rfl rfl h6 rfl rfl ?_
    refine o_skip rfl rfl rfl h6 rfl rfl ?_
    refine o_skip rfl rfl rfl h6 rfl rfl ?_
    refine o_pk (.b false) (b := false) h6 (g0 rfl) rfl rfl rfl rfl rfl ?_
    refine o_1 (.b false) rfl ?_
    refine o_skip rfl rfl rfl rfl rfl rfl ?_
    refine o_skip rfl rfl rfl rfl rfl rfl ?_
    refine o_skip rfl rfl rfl rfl rfl rfl ?_
    refine o_pk (.b false) (b := false) rfl (g0 rfl) rfl rfl rfl rfl rfl ?_
    refine o_1 (.b false) rfl ?_
    refine o_skip rfl rfl rfl rfl rfl rfl ?_
    refine o_skip rfl rfl rfl rfl rfl rfl ?_
    refine o_skip rfl rfl rfl rfl rfl rfl ?_
    refine o_pk (.b false) (b := false) rfl (g0 rfl) rfl rfl rfl rfl rfl ?_
    refine o_1 (.b false) rfl ?_
    refine o_nil (c_ret ?_)
    obtain rfl := Option.some.inj h
    exact end0 rfl .r
   refine o_skip rfl rfl rfl h5 rfl rfl ?_
   refine o_skip rfl rfl rfl h5 rfl rfl ?_
   refine o_skip rfl rfl rfl h5 rfl rfl ?_
   refine o_pk (.b false) (b := false) h5 (g0 rfl) rfl rfl rfl rfl rfl ?_
   refine o_1 (.b false) rfl ?_
   refine o_skip rfl rfl rfl rfl rfl rfl ?_
   refine o_skip rfl rfl rfl rfl rfl rfl ?_
   refine o_skip rfl rfl rfl rfl rfl rfl ?_
   refine o_pk (.b false) (b := false) rfl (g0 rfl) rfl rfl rfl rfl rfl ?_
   refine o_1 (.b false) rfl ?_
   refine o_skip rfl rfl rfl rfl rfl rfl ?_
   refine o_skip rfl rfl rfl rfl rfl rfl ?_
   refine o_skip rfl rfl rfl rfl rfl rfl ?_
   refine o_pk (.b false) (b := false) rfl (g0 rfl) rfl rfl rfl rfl rfl ?_
   refine o_1 (.b false) rfl ?_
   refine o_skip rfl rfl rfl rfl rfl rfl ?_
   refine o_skip rfl rfl rfl rfl rfl rfl ?_
   refine o_skip rfl rfl rfl rfl rfl rfl ?_
   refine o_pk (.b false) (b := false) rfl (g0 rfl) rfl rfl rfl rfl rfl ?_
   refine o_1 (.b false) rfl ?_
   refine o_nil (c_ret ?_)
   obtain rfl := Option.some.inj h
   exact end0 rfl .r
  refine o_skip rfl rfl rfl h4 rfl rfl ?_
  refine o_skip rfl rfl rfl h4 rfl rfl ?_
  refine o_skip rfl rfl rfl h4 rfl rfl ?_
  refine o_pk (.b false) (b := false) h4 (g0 rfl) rfl rfl rfl rfl rfl ?_
  refine o_1 (.b false) rfl ?_
  refine o_skip rfl rfl rfl rfl rfl rfl ?_
  refine o_skip rfl rfl rfl rfl rfl rfl ?_
  refine o_skip rfl rfl rfl rfl rfl rfl ?_
  refine o_pk (.b false) (b := false) rfl (g0 rfl) rfl rfl rfl rfl rfl ?_
  refine o_1 (.b false) rfl ?_
  refine o_skip rfl rfl rfl rfl rfl rfl ?_
  refine o_skip rfl rfl rfl rfl rfl rfl ?_
  refine o_skip rfl rfl rfl rfl rfl rfl ?_
  refine o_pk (.b false) (b := false) rfl (g0 rfl) rfl rfl rfl rfl rfl ?_
  refine o_1 (.b false) rfl ?_
  refine o_skip rfl rfl rfl rfl rfl rfl ?_
  refine o_skip rfl rfl rfl rfl rfl rfl ?_
  refine o_skip rfl rfl rfl rfl rfl rfl ?_
  refine o_pk (.b false) (b := false) rfl (g0 rfl) rfl rfl rfl rfl rfl ?_
  refine o_1 (.b false) rfl ?_
  refine o_skip rfl rfl rfl rfl rfl rfl ?_
  refine o_skip rfl rfl rfl rfl rfl rfl ?_
  refine o_skip rfl rfl rfl rfl rfl rfl ?_
  refine o_pk (.b false) (b := false) rfl (g0 rfl) rfl rfl rfl rfl rfl ?_
  refine o_1 (.b false) rfl ?_
  refine o_nil (c_ret ?_)
  obtain rfl := Option.some.inj h
  exact end0 rfl .r
 refine o_skip rfl rfl rfl h3 rfl rfl ?_
 refine o_skip rfl rfl rfl h3 rfl rfl ?_
 refine o_skip rfl rfl rfl h3 rfl rfl ?_
 refine o_pk (.b false) (b := false) h3 (g0 rfl) rfl rfl rfl rfl rfl ?_
 refine o_1 (.b false) rfl ?_
 refine o_skip rfl rfl rfl rfl rfl rfl ?_
 refine o_skip rfl rfl rfl rfl rfl rfl ?_
 refine o_skip rfl rfl rfl rfl rfl rfl ?_
 refine o_pk (.b false) (b := false) rfl (g0 rfl) rfl rfl rfl rfl rfl ?_
 refine o_1 (.b false) rfl ?_
 refine o_skip rfl rfl rfl rfl rfl rfl ?_
 refine o_skip rfl rfl rfl rfl rfl rfl ?_
 refine o_skip rfl rfl rfl rfl rfl rfl ?_
 refine o_pk (.b false) (b := false) rfl (g0 rfl) rfl rfl rfl rfl rfl ?_
 refine o_1 (.b false) rfl ?_
 refine o_skip rfl rfl rfl rfl rfl rfl ?_
 refine o_skip rfl rfl rfl rfl rfl rfl ?_
 refine o_skip rfl rfl rfl rfl rfl rfl ?_
 refine o_pk (.b false) (b := false) rfl (g0 rfl) rfl rfl rfl rfl rfl ?_
 refine o_1 (.b false) rfl ?_
 refine o_skip rfl rfl rfl rfl rfl rfl ?_
 refine o_skip rfl rfl rfl rfl rfl rfl ?_
 refine o_skip rfl rfl rfl rfl rfl rfl ?_
 refine o_pk (.b false) (b := false) rfl (g0 rfl) rfl rfl rfl rfl rfl ?_
 refine o_1 (.b false) rfl ?_
 refine o_skip rfl rfl rfl rfl rfl rfl ?_
 refine o_skip rfl rfl rfl rfl rfl rfl ?_
 refine o_skip rfl rfl rfl rfl rfl rfl ?_
 refine o_pk (.b false) (b := false) rfl (g0 rfl) rfl rfl rfl rfl rfl ?_
 refine o_1 (.b false) rfl ?_
 refine o_nil (c_ret ?_)
 obtain rfl := Option.some.inj h
 exact end0 rfl .r
theorem fc_R01_Low (p0 : Int) (p1 : Int) (r : ((List UInt8) × Int)) (h : m_R01_Low p0 p1 = some r) : FC Try.prog 117 [.t (.d (.lit (.int .i64 p0))), .t (.d (.lit (.int .i64 p1)))] [] (.tup [.d (.seq 1 (bytesD r.1)), .d (.lit (.int .i64 r.2))]) := by
 refine fc_mk (rs := [.tmp 4, .tmp 5]) (n := 38) Try.func117 rfl rfl (Nat.le_of_ble_eq_true rfl) rfl (pins := []) rfl (L := [(0, .i p0), (1, .i p1)]) rfl ?_
 refine c_sr ?_
 refine o_m2 (.n) (.i 0) rfl ?_
 refine o_nil (c_seq (c_sr ?_))
 refine o_m3 (.i p1) (.b (decide (p1 < 1))) (.b (decide (p1 < 1))) rfl ?_
 rcases bif_some h with ⟨h1, h⟩ | ⟨h1, h⟩
 ·
  refine o_skip rfl rfl rfl h1 rfl rfl ?_
  refine o_skip rfl rfl rfl h1 rfl rfl ?_
  refine o_pk (.b true) (b := true) h1 (g0 rfl) rfl rfl rfl rfl rfl ?_
  refine o_1 (.b true) rfl ?_
  refine o_skip rfl rfl rfl rfl rfl rfl ?_
  refine o_skip rfl rfl rfl rfl rfl rfl ?_
  refine o_pk (.b true) (b := true) rfl (g0 rfl) rfl rfl rfl rfl rfl ?_
  refine o_1 (.b true) rfl ?_
  refine o_skip rfl rfl rfl rfl rfl rfl ?_
  refine o_skip rfl rfl rfl rfl rfl rfl ?_
  refine o_pk (.b true) (b := true) rfl (g0 rfl) rfl rfl rfl rfl rfl ?_
  refine o_nil ?_
  refine c_t rfl rfl ?_
  refine c_sr ?_
  refine o_m2 (.n) (.i 2) rfl ?_
  refine o_nil (c_ret ?_)
  obtain rfl := Option.some.inj h
  exact end0 rfl (.tup (.cons (.d (.nil _)) (.cons .r .nil)))
 refine o_s (.i p1) (gy rfl rfl rfl h1) rfl rfl rfl ?_
 refine o_s (.b (decide (p1 > 8))) (gy rfl rfl rfl h1) rfl rfl rfl ?_
 refine o_pk (.b (decide (p1 > 8))) (b := false) h1 (g0 rfl) rfl rfl rfl rfl rfl ?_
 refine o_1 (.b (decide (p1 > 8))) rfl ?_
 rcases bif_some h with ⟨h2, h⟩ | ⟨h2, h⟩
 ·
  refine o_skip rfl rfl rfl h2 rfl rfl ?_
  refine o_skip rfl rfl rfl h2 rfl rfl ?_
  refine o_pk (.b true) (b := true) h2 (g0 rfl) rfl rfl rfl rfl rfl ?_
  refine o_1 (.b true) rfl ?_
  refine o_skip rfl rfl rfl rfl rfl rfl ?_
  refine o_skip rfl rfl rfl rfl rfl rfl ?_
  refine o_pk (.b true) (b := true) rfl (g0 rfl) rfl rfl rfl rfl rfl ?_
  refine o_nil ?_
  refine c_t rfl rfl ?_
  refine c_sr ?_
  refine o_m2 (.n) (.i 2) rfl ?_
  refine o_nil (c_ret ?_)
  obtain rfl := Option.some.inj h
  exact end0 rfl (.tup (.cons (.d (.nil _)) (.cons .r .nil)))
 refine o_s (.i p0) (gy rfl rfl rfl h2) rfl rfl rfl ?_
 refine o_s (.b (decide (p0 < 0))) (gy rfl rfl rfl h2) rfl rfl rfl ?_
 refine o_pk (.b (decide (p0 < 0))) (b := false) h2 (g0 rfl) rfl rfl rfl rfl rfl ?_
 refine o_1 (.b (decide (p0 < 0))) rfl ?_
 rcases bif_some h with ⟨h3, h⟩ | ⟨h3, h⟩
 ·
  refine o_skip rfl rfl rfl h3 rfl rfl ?_
  refine o_skip rfl rfl rfl h3 rfl rfl ?_
  refine o_pk (.b true) (b := true) h3 (g0 rfl) rfl rfl rfl rfl rfl ?_
  refine o_nil ?_
  refine c_t rfl rfl ?_
  refine c_sr ?_
  refine o_m2 (.n) (.i 2) rfl ?_
  refine o_nil (c_ret ?_)
  obtain rfl := Option.some.inj h
  exact end0 rfl (.tup (.cons (.d (.nil _)) (.cons .r .nil)))
 refine o_s (.i p0) (gy rfl rfl rfl h3) rfl rfl rfl ?_
 refine o_s (.b (decide (p0 > 4611686018427387904))) (gy rfl rfl rfl h3) rfl rfl rfl ?_
 refine o_pk (.b (decide (p0 > 4611686018427387904))) (b := false) h3 (g0 rfl) rfl rfl rfl rfl rfl ?_
 refine o_nil ?_
 rcases bif_some h with ⟨h4, h⟩ | ⟨h4, h⟩
 ·
  refine c_t h4 rfl ?_
  refine c_sr ?_
  refine o_m2 (.n) (.i 2) rfl ?_
  refine o_nil (c_ret ?_)
  obtain rfl := Option.some.inj h
  exact end0 rfl (.tup (.cons (.d (.nil _)) (.cons .r .nil)))
 refine c_f h4 rfl ?_
 refine c_skip (c_sr ?_)
 refine o_1 (.n) rfl ?_
 refine o_nil ?_
 refine c_cut (fun (q : Int × (List UInt8)) => [(0, .i q.1), (6, .t (.own 5 1 (bytesD q.2)))]) (fun (q : Int × (List UInt8)) => m_R01_Low_j1 q.1 q.2 = some r) ?_ ?_
 ·
  refine c_sr ?_
  refine o_1 (.i 0) rfl ?_
  refine o_nil (c_block ?_)
  refine c_fuel (fun (q : Int × (List UInt8) × Int) => [(0, .i q.1), (1, .i p1), (6, .t (.own 5 1 (bytesD q.2.1))), (7, .i q.2.2)]) (fun nl2 => (fun (q : Int × (List UInt8) × Int) => m_R01_Low_l2 p1 nl2 q.1 q.2.1 q.2.2 = some r)) (Int.toNat p1 + 1) (p0, [], 0) h ⟨.r, .r, (.t (.nilOwn _ _)), .r, trivial⟩ rfl ?_
  rintro nl2 ⟨z8, z9, z10⟩ h
  cases nl2 with
  | zero => exact none_ne h
  | succ nl2 =>
   refine c_seq (c_sr ?_)
   refine o_m3 (.i z10) (.i p1) (.b (decide (z10 < p1))) rfl ?_
   refine o_nil ?_
   rcases bif_some h with ⟨h11, h⟩ | ⟨h11, h⟩
   ·
    refine c_t h11 rfl ?_
    refine c_skip (c_seq (c_block (c_sr ?_)))
    refine o_2 (.y z9) (.t (.own 5 1 (bytesD z9))) (g0 rfl) rfl rfl rfl ?_
    refine o_m2 (.i z8) (.i (Int.tmod z8 256)) rfl ?_
    refine o_c (g0 rfl) rfl rfl rfl (congrArg (fun z => A.t (.d (.lit (.int .u8 z)))) (u8c _)) trivial ?_
    refine o_1 (.t (.own 5 1 (bytesD [(U8 (Int.tmod z8 256))]))) rfl ?_
    obtain ⟨x12, h13, h⟩ := bind_some h
    refine o_2c (g0 rfl) rfl rfl rfl (appE (c := cU8) h13) (appC (c := cU8) h13) ?_
    refine o_2 (.y x12) (.t (.own 5 1 (bytesD x12))) (g0 rfl) rfl rfl rfl ?_
    refine o_nil (c_region ?_)
    refine o_m3 (.i z8) (.i (wi (Int.tdiv z8 256))) (.i (wi (Int.tdiv z8 256))) rfl ?_
    refine o_nil (c_region ?_)
    refine o_m3 (.i z10) (.i (wi (z10 + 1))) (.i (wi (z10 + 1))) rfl ?_
    refine o_nil ?_
    exact ⟨nl2, ((wi (Int.tdiv z8 256)), x12, (wi (z10 + 1))), Nat.lt_succ_self nl2, h, ⟨.r, .r, .r, .r, trivial⟩, rfl⟩
   refine c_f h11 rfl ?_
   refine c_exit ?_
   exact ⟨(z8, z9), h, ⟨.r, .r, trivial⟩, rfl⟩
 rintro ⟨y5, y6⟩ h
 refine c_seq (c_sr ?_)
 refine o_m2 (.i y5) (.b (decide (y5 > 0))) rfl ?_
 refine o_nil ?_
 rcases bif_some h with ⟨h7, h⟩ | ⟨h7, h⟩
 ·
  refine c_t h7 rfl ?_
  refine c_sr ?_
  refine o_m2 (.n) (.i 2) rfl ?_
  refine o_nil (c_ret ?_)
  obtain rfl := Option.some.inj h
  exact end0 rfl (.tup (.cons (.d (.nil _)) (.cons .r .nil)))
 refine c_f h7 rfl ?_
 refine c_skip (c_sr ?_)
 refine o_2 (.y y6) (.t (.own 5 1 (bytesD y6))) (g0 rfl) rfl rfl rfl ?_
 refine o_2 (.y y6) (.t (.own 5 1 (bytesD y6))) (g0 rfl) rfl rfl rfl ?_
 refine o_1 (.i 0) rfl ?_
 refine o_nil (c_ret ?_)
 obtain rfl := Option.some.inj h
 exact end0 rfl (.tup (.cons .r (.cons .r .nil)))
theorem fc_R01_Turned (p0 : (List UInt8)) (r : (List UInt8)) (h : m_R01_Turned p0 = some r) : FC Try.prog 118 [.t (.d (.seq 1 (bytesD p0)))] [] (.t (.own 5 1 (bytesD r))) := by
 refine fc_mk (rs := [.tmp 2]) (n := 20) Try.func118 rfl rfl (Nat.le_of_ble_eq_true rfl) rfl (pins := []) rfl (L := [(0, .y p0)]) rfl ?_
 refine c_sr ?_
 refine o_1 (.n) rfl ?_
 refine o_nil (c_sr ?_)
 refine o_1 (.n) rfl ?_
 refine o_nil (c_seq (c_sr ?_))
 refine o_1 (.y p0) rfl ?_
 refine o_c (g0 rfl) rfl rfl rfl (lenE _ _) trivial ?_
 refine o_m2 (.i (wi ((p0.length : Int) - 1))) (.i (wi ((p0.length : Int) - 1))) rfl ?_
 refine o_nil (c_block ?_)
 refine c_fuel (fun (q : (List UInt8) × Int) => [(0, .y p0), (3, .t (.own 5 1 (bytesD q.1))), (4, .i q.2)]) (fun nl1 => (fun (q : (List UInt8) × Int) => m_R01_Turned_l1 p0 nl1 q.1 q.2 = some r)) (Int.toNat (wi ((p0.length : Int) - 1)) + 2) ([], (wi ((p0.length : Int) - 1))) h ⟨.r, (.t (.nilOwn _ _)), .r, trivial⟩ rfl ?_
 rintro nl1 ⟨z1, z2⟩ h
 cases nl1 with
 | zero => exact none_ne h
 | succ nl1 =>
  refine c_seq (c_sr ?_)
  refine o_m2 (.i z2) (.b (decide (z2 ≥ 0))) rfl ?_
  refine o_nil ?_
  rcases bif_some h with ⟨h3, h⟩ | ⟨h3, h⟩
  ·
   refine c_t h3 rfl ?_
   refine c_skip (c_seq (c_block (c_region ?_)))
   refine o_2 (.y z1) (.t (.own 5 1 (bytesD z1))) (g0 rfl) rfl rfl rfl ?_
   refine o_m2 (.y p0) (.i z2) rfl ?_
   obtain ⟨x4, h5, h⟩ := bind_some h
   refine o_c (g0 rfl) rfl rfl rfl (idxE h5) (idxC h5) ?_
   refine o_m2 (.t (.d (.lit (.int .u8 (x4.toNat : Int))))) (.t (.own 5 1 (bytesD [x4]))) rfl ?_
   obtain ⟨x6, h7, h⟩ := bind_some h
   refine o_2c (g0 rfl) rfl rfl rfl (appE (c := cU8) h7) (appC (c := cU8) h7) ?_
   refine o_2 (.y x6) (.t (.own 5 1 (bytesD x6))) (g0 rfl) rfl rfl rfl ?_
   refine o_nil (c_region ?_)
   refine o_m3 (.i z2) (.i (wi (z2 - 1))) (.i (wi (z2 - 1))) rfl ?_
   refine o_nil ?_
   exact ⟨nl1, (x6, (wi (z2 - 1))), Nat.lt_succ_self nl1, h, ⟨.r, .r, .r, trivial⟩, rfl⟩
  refine c_f h3 rfl ?_
  refine c_exit (c_sr ?_)
  refine o_2 (.y z1) (.t (.own 5 1 (bytesD z1))) (g0 rfl) rfl rfl rfl ?_
  refine o_2 (.y z1) (.t (.own 5 1 (bytesD z1))) (g0 rfl) rfl rfl rfl ?_
  refine o_nil (c_ret ?_)
  obtain rfl := Option.some.inj h
  exact end0 rfl .r
theorem fc_R01_Put (p0 : Int) (p1 : Int) (r : ((List UInt8) × Int)) (h : m_R01_Put p0 p1 = some r) : FC Try.prog 82 [.t (.d (.lit (.int .i64 p0))), .t (.d (.lit (.int .i64 p1)))] [] (.tup [.d (.seq 1 (bytesD r.1)), .d (.lit (.int .i64 r.2))]) := by
 refine fc_mk (rs := [.tmp 4, .tmp 5]) (n := 17) Try.func82 rfl rfl (Nat.le_of_ble_eq_true rfl) rfl (pins := []) rfl (L := [(0, .i p0), (1, .i p1)]) rfl ?_
 refine c_sr ?_
 refine o_m2 (.n) (.i 0) rfl ?_
 refine o_nil (c_sr ?_)
 refine o_m2 (.i p0) (.i p1) rfl ?_
 obtain ⟨x1, h2, h⟩ := bind_some h
 refine o_ca (fc_R01_Low _ _ _ h2) (g0 rfl) rfl rfl rfl rfl rfl rfl rfl (.cons .r (.cons .r .nil)) rfl rfl ?_
 refine o_m5 (.tup [.y x1.1, .i x1.2]) (.y x1.1) (.i x1.2) (.y x1.1) (.i x1.2) rfl ?_
 refine o_nil (c_sr ?_)
 refine o_1 (.y x1.1) rfl ?_
 obtain ⟨x3, h4, h⟩ := bind_some h
 refine o_ca (fc_R01_Turned _ _ h4) (g0 rfl) rfl rfl rfl rfl rfl rfl rfl (.cons .r .nil) rfl rfl ?_
 refine o_1 (.i x1.2) rfl ?_
 refine o_2 (.y x3) (.t (.own 5 1 (bytesD x3))) (g0 rfl) rfl rfl rfl ?_
 refine o_1 (.i x1.2) rfl ?_
 refine o_nil (c_ret ?_)
 obtain rfl := Option.some.inj h
 exact end0 rfl (.tup (.cons .r (.cons .r .nil)))
theorem fc_R20_number (p0 : Int) (p1 : Int) (r : (List UInt8)) (h : m_R20_number p0 p1 = some r) : FC Try.prog 124 [.t (.d (.lit (.int .i64 p0))), .t (.d (.lit (.int .i64 p1)))] [] (.t (.d (.seq 1 (bytesD r)))) := by
 refine fc_mk (rs := [.tmp 4]) (n := 14) Try.func124 rfl rfl (Nat.le_of_ble_eq_true rfl) rfl (pins := []) rfl (L := [(0, .i p0), (1, .i p1)]) rfl ?_
 refine c_sr ?_
 refine o_1 (.n) rfl ?_
 refine o_nil (c_sr ?_)
 refine o_m2 (.i p0) (.i p1) rfl ?_
 obtain ⟨x1, h2, h⟩ := bind_some h
 refine o_ca (fc_R01_Put _ _ _ h2) (g0 rfl) rfl rfl rfl rfl rfl rfl rfl (.cons .r (.cons .r .nil)) rfl rfl ?_
 refine o_m5 (.tup [.y x1.1, .i x1.2]) (.y x1.1) (.i x1.2) (.y x1.1) (.i x1.2) rfl ?_
 refine o_nil (c_sr ?_)
 refine o_m2 (.y x1.1) (.y x1.1) rfl ?_
 refine o_nil (c_ret ?_)
 obtain rfl := Option.some.inj h
 exact end0 rfl .r
theorem fc_R20_Bytes (p0 : S_api_Entry) (p1 : Int) (r : (List UInt8)) (h : m_R20_Bytes p0 p1 = some r) : FC Try.prog 97 [.t (.agg [.lit (.string ⟨⟨p0.Key⟩⟩), .lit (.int .i64 p0.Version), .lit (.int .i64 p0.Len), .lit (.int .i64 p0.First)]), .t (.d (.lit (.int .i64 p1)))] [] (.t (.own 5 1 (bytesD r))) := by
 refine fc_mk (rs := [.tmp 4]) (n := 44) Try.func97 rfl rfl (Nat.le_of_ble_eq_true rfl) rfl (pins := []) rfl (L := [(0, .t (.agg [.s p0.Key, .i p0.Version, .i p0.Len, .i p0.First])), (1, .i p1)]) rfl ?_
 refine c_sr ?_
 refine o_m2 (.box [.s p0.Key, .i p0.Version, .i p0.Len, .i p0.First]) (.n) rfl ?_
 refine o_nil (c_sr ?_)
 refine o_1 (.n) rfl ?_
 refine o_nil (c_sr ?_)
 refine o_m2 (.n) (.i p1) rfl ?_
 obtain ⟨x1, h2, h⟩ := bind_some h
 refine o_ca (fc_R20_number _ _ _ h2) (g0 rfl) rfl rfl rfl rfl rfl rfl rfl (.cons .r (.cons .r .nil)) rfl rfl ?_
 obtain ⟨x3, h4, h⟩ := bind_some h
 refine o_c (g0 rfl) rfl rfl rfl (appE0 (c := cU8) h4) (appC0 (c := cU8) h4) ?_
 refine o_2 (.y x3) (.t (.own 5 1 (bytesD x3))) (g0 rfl) rfl rfl rfl ?_
 refine o_nil (c_sr ?_)
 refine o_2 (.y x3) (.t (.own 5 1 (bytesD x3))) (g0 rfl) rfl rfl rfl ?_
 refine o_m2 (.ref 2 1) (.i p0.Version) rfl ?_
 obtain ⟨x5, h6, h⟩ := bind_some h
 refine o_ca (fc_R20_number _ _ _ h6) (g0 rfl) rfl rfl rfl rfl rfl rfl rfl (.cons .r (.cons .r .nil)) rfl rfl ?_
 obtain ⟨x7, h8, h⟩ := bind_some h
 refine o_2c (g0 rfl) rfl rfl rfl (appE (c := cU8) h8) (appC (c := cU8) h8) ?_
 refine o_2 (.y x7) (.t (.own 5 1 (bytesD x7))) (g0 rfl) rfl rfl rfl ?_
 refine o_nil (c_sr ?_)
 refine o_2 (.y x7) (.t (.own 5 1 (bytesD x7))) (g0 rfl) rfl rfl rfl ?_
 refine o_m2 (.ref 2 2) (.i p0.Len) rfl ?_
 obtain ⟨x9, h10, h⟩ := bind_some h
 refine o_ca (fc_R20_number _ _ _ h10) (g0 rfl) rfl rfl rfl rfl rfl rfl rfl (.cons .r (.cons .r .nil)) rfl rfl ?_
 obtain ⟨x11, h12, h⟩ := bind_some h
 refine o_2c (g0 rfl) rfl rfl rfl (appE (c := cU8) h12) (appC (c := cU8) h12) ?_
 refine o_2 (.y x11) (.t (.own 5 1 (bytesD x11))) (g0 rfl) rfl rfl rfl ?_
 refine o_nil (c_sr ?_)
 refine o_2 (.y x11) (.t (.own 5 1 (bytesD x11))) (g0 rfl) rfl rfl rfl ?_
 refine o_m2 (.ref 2 3) (.i p0.First) rfl ?_
 obtain ⟨x13, h14, h⟩ := bind_some h
 refine o_ca (fc_R20_number _ _ _ h14) (g0 rfl) rfl rfl rfl rfl rfl rfl rfl (.cons .r (.cons .r .nil)) rfl rfl ?_
 obtain ⟨x15, h16, h⟩ := bind_some h
 refine o_2c (g0 rfl) rfl rfl rfl (appE (c := cU8) h16) (appC (c := cU8) h16) ?_
 refine o_2 (.y x15) (.t (.own 5 1 (bytesD x15))) (g0 rfl) rfl rfl rfl ?_
 refine o_nil (c_sr ?_)
 refine o_2 (.y x15) (.t (.own 5 1 (bytesD x15))) (g0 rfl) rfl rfl rfl ?_
 refine o_m3 (.ref 2 0) (.s p0.Key) (.i (p0.Key.length : Int)) rfl ?_
 refine o_c (g0 rfl) rfl rfl rfl (congrArg (fun z => A.t (.d (.lit (.int .u8 z)))) (u8c _)) trivial ?_
 refine o_1 (.t (.own 5 1 (bytesD [(U8 (p0.Key.length : Int))]))) rfl ?_
 obtain ⟨x17, h18, h⟩ := bind_some h
 refine o_2c (g0 rfl) rfl rfl rfl (appE (c := cU8) h18) (appC (c := cU8) h18) ?_
 refine o_2 (.y x17) (.t (.own 5 1 (bytesD x17))) (g0 rfl) rfl rfl rfl ?_
 refine o_nil (c_sr ?_)
 refine o_2 (.y x17) (.t (.own 5 1 (bytesD x17))) (g0 rfl) rfl rfl rfl ?_
 refine o_m2 (.ref 2 0) (.s p0.Key) rfl ?_
 obtain ⟨x19, h20, h⟩ := bind_some h
 refine o_c (g0 rfl) rfl rfl rfl (strBE h20) (strBC h20) ?_
 obtain ⟨x21, h22, h⟩ := bind_some h
 refine o_2c (g0 rfl) rfl rfl rfl (appE (c := cU8) h22) (appC (c := cU8) h22) ?_
 refine o_2 (.y x21) (.t (.own 5 1 (bytesD x21))) (g0 rfl) rfl rfl rfl ?_
 refine o_nil (c_seq (c_block ?_))
 refine c_fuel (fun (z23 : (List UInt8)) => [(5, .t (.own 5 1 (bytesD z23)))]) (fun nl1 => (fun (z23 : (List UInt8)) => m_R20_Bytes_l1 nl1 z23 = some r)) (Int.toNat 64 + 1) x21 h ⟨.r, trivial⟩ rfl ?_
 rintro nl1 z23 h
 cases nl1 with
 | zero => exact none_ne h
 | succ nl1 =>
  refine c_seq (c_sr ?_)
  refine o_1 (.y z23) rfl ?_
  refine o_c (g0 rfl) rfl rfl rfl (lenE _ _) trivial ?_
  refine o_1 (.b (decide ((z23.length : Int) < 64))) rfl ?_
  refine o_nil ?_
  rcases bif_some h with ⟨h24, h⟩ | ⟨h24, h⟩
  ·
   refine c_t h24 rfl ?_
   refine c_skip (c_block (c_region ?_))
   refine o_2 (.y z23) (.t (.own 5 1 (bytesD z23))) (g0 rfl) rfl rfl rfl ?_
   refine o_1 (.t (.own 5 1 (bytesD [0]))) rfl ?_
   obtain ⟨x25, h26, h⟩ := bind_some h
   refine o_2c (g0 rfl) rfl rfl rfl (appE (c := cU8) h26) (appC (c := cU8) h26) ?_
   refine o_2 (.y x25) (.t (.own 5 1 (bytesD x25))) (g0 rfl) rfl rfl rfl ?_
   refine o_nil ?_
   exact ⟨nl1, x25, Nat.lt_succ_self nl1, h, ⟨.r, trivial⟩, rfl⟩
  refine c_f h24 rfl ?_
  refine c_exit (c_sr ?_)
  refine o_2 (.y z23) (.t (.own 5 1 (bytesD z23))) (g0 rfl) rfl rfl rfl ?_
  refine o_2 (.y z23) (.t (.own 5 1 (bytesD z23))) (g0 rfl) rfl rfl rfl ?_
  refine o_nil (c_ret ?_)
  obtain rfl := Option.some.inj h
  exact end0 rfl .r
theorem fc_R20_Read (p0 : (List UInt8)) (r : (S_api_Entry × Int × Bool)) (h : m_R20_Read p0 = some r) : FC Try.prog 99 [.t (.d (.seq 1 (bytesD p0)))] [] (.tup [.agg [.lit (.string ⟨⟨r.1.Key⟩⟩), .lit (.int .i64 r.1.Version), .lit (.int .i64 r.1.Len), .lit (.int .i64 r.1.First)], .d (.lit (.int .i64 r.2.1)), .d (.lit (.bool r.2.2))]) := by
 refine fc_mk (rs := [.cell 2 78, .tmp 3, .tmp 4]) (n := 70) Try.func99 rfl rfl (Nat.le_of_ble_eq_true rfl) rfl (pins := []) rfl (L := [(0, .y p0)]) rfl ?_
 refine c_sr ?_
 refine o_m3 (.box [.s [], .i 0, .i 0, .i 0]) (.i 0) (.b false) rfl ?_
 refine o_nil (c_sr ?_)
 refine o_1 (.y p0) rfl ?_
 obtain ⟨x1, h2, h⟩ := bind_some h
 refine o_c (g0 rfl) rfl rfl rfl (cutEh (c := cU8) h2) (cutCh (c := cU8) h2) ?_
 obtain ⟨x3, h4, h⟩ := bind_some h
 refine o_ca (fc_R01_Get _ _ h4) (g0 rfl) rfl rfl rfl rfl rfl rfl rfl (.cons .r .nil) rfl rfl ?_
 refine o_m5 (.tup [.i x3.1, .i x3.2]) (.i x3.1) (.i x3.2) (.i x3.1) (.i x3.2) rfl ?_
 refine o_nil (c_sr ?_)
 refine o_1 (.y p0) rfl ?_
 obtain ⟨x5, h6, h⟩ := bind_some h
 refine o_c (g0 rfl) rfl rfl rfl (cutE (c := cU8) h6) (cutC (c := cU8) h6) ?_
 obtain ⟨x7, h8, h⟩ := bind_some h
 refine o_ca (fc_R01_Get _ _ h8) (g0 rfl) rfl rfl rfl rfl rfl rfl rfl (.cons .r .nil) rfl rfl ?_
 refine o_m5 (.tup [.i x7.1, .i x7.2]) (.i x7.1) (.i x7.2) (.i x7.1) (.i x7.2) rfl ?_
 refine o_nil (c_sr ?_)
 refine o_1 (.y p0) rfl ?_
 obtain ⟨x9, h10, h⟩ := bind_some h
 refine o_c (g0 rfl) rfl rfl rfl (cutE (c := cU8) h10) (cutC (c := cU8) h10) ?_
 obtain ⟨x11, h12, h⟩ := bind_some h
 refine o_ca (fc_R01_Get _ _ h12) (g0 rfl) rfl rfl rfl rfl rfl rfl rfl (.cons .r .nil) rfl rfl ?_
 refine o_m5 (.tup [.i x11.1, .i x11.2]) (.i x11.1) (.i x11.2) (.i x11.1) (.i x11.2) rfl ?_
 refine o_nil (c_sr ?_)
 refine o_1 (.y p0) rfl ?_
 obtain ⟨x13, h14, h⟩ := bind_some h
 refine o_c (g0 rfl) rfl rfl rfl (cutE (c := cU8) h14) (cutC (c := cU8) h14) ?_
 obtain ⟨x15, h16, h⟩ := bind_some h
 refine o_ca (fc_R01_Get _ _ h16) (g0 rfl) rfl rfl rfl rfl rfl rfl rfl (.cons .r .nil) rfl rfl ?_
 refine o_m5 (.tup [.i x15.1, .i x15.2]) (.i x15.1) (.i x15.2) (.i x15.1) (.i x15.2) rfl ?_
 refine o_nil (c_sr ?_)
 refine o_1 (.y p0) rfl ?_
 obtain ⟨x17, h18, h⟩ := bind_some h
 refine o_c (g0 rfl) rfl rfl rfl (idxE h18) (idxC h18) ?_
 refine o_1 (.t (.d (.lit (.int .u8 (x17.toNat : Int))))) rfl ?_
 refine o_c (g0 rfl) rfl rfl rfl (congrArg (fun z => A.i z) (i64_u8 _)) trivial ?_
 refine o_1 (.i (x17.toNat : Int)) rfl ?_
 refine o_nil (c_seq (c_sr ?_))
 refine o_m3 (.i x7.2) (.b (x7.2 != 0)) (.b (x7.2 != 0)) rfl ?_
 rcases bif_some h with ⟨h19, h⟩ | ⟨h19, h⟩
 ·
  refine o_skip rfl rfl rfl h19 rfl rfl ?_
  refine o_skip rfl rfl rfl h19 rfl rfl ?_
  refine o_pk (.b true) (b := true) h19 (g0 rfl) rfl rfl rfl rfl rfl ?_
  refine o_nil ?_
  refine c_t rfl rfl ?_
  refine c_sr ?_
  refine o_1 (.t (.agg [.s [], .i 0, .i 0, .i 0])) rfl ?_
  refine o_st (.box [.s [], .i 0, .i 0, .i 0]) (g0 rfl) rfl rfl rfl ?_
  refine o_m2 (.i 0) (.b false) rfl ?_
  refine o_nil (c_ret ?_)
  obtain rfl := Option.some.inj h
  exact end0 rfl (.tup (.cons .r (.cons .r (.cons .r .nil))))
 refine o_s (.i (x17.toNat : Int)) (gy rfl rfl rfl h19) rfl rfl rfl ?_
 refine o_s (.b (decide ((x17.toNat : Int) > 40))) (gy rfl rfl rfl h19) rfl rfl rfl ?_
 refine o_pk (.b (decide ((x17.toNat : Int) > 40))) (b := false) h19 (g0 rfl) rfl rfl rfl rfl rfl ?_
 refine o_nil ?_
 rcases bif_some h with ⟨h20, h⟩ | ⟨h20, h⟩
 ·
  refine c_t h20 rfl ?_
  refine c_sr ?_
  refine o_1 (.t (.agg [.s [], .i 0, .i 0, .i 0])) rfl ?_
  refine o_st (.box [.s [], .i 0, .i 0, .i 0]) (g0 rfl) rfl rfl rfl ?_
  refine o_m2 (.i 0) (.b false) rfl ?_
  refine o_nil (c_ret ?_)
  obtain rfl := Option.some.inj h
  exact end0 rfl (.tup (.cons .r (.cons .r (.cons .r .nil))))
 refine c_f h20 rfl ?_
 refine c_skip (c_sr ?_)
 refine o_m3 (.y p0) (.i (x17.toNat : Int)) (.i (wi (21 + (x17.toNat : Int)))) rfl ?_
 obtain ⟨x21, h22, h⟩ := bind_some h
 refine o_c (g0 rfl) rfl rfl rfl (cutE (c := cU8) h22) (cutC (c := cU8) h22) ?_
 refine o_c (g0 rfl) rfl rfl rfl (strE _) (isB_bytes _) ?_
 refine o_m5 (.i x7.1) (.i x11.1) (.i x15.1) (.t (.agg [.s x21, .i x7.1, .i x11.1, .i x15.1])) (.box [.s [], .i 0, .i 0, .i 0]) rfl ?_
 refine o_st (.box [.s x21, .i x7.1, .i x11.1, .i x15.1]) (g0 rfl) rfl rfl rfl ?_
 refine o_nil (c_seq ?_)
 refine c_draw mixed (by kernel_rfl) ?_
 refine d_s (.t (.agg [.s x21, .i x7.1, .i x11.1, .i x15.1])) rfl (dg0 rfl) rfl rfl rfl rfl ?_
 refine d_s (.i x3.1) rfl (dg0 rfl) rfl rfl rfl rfl ?_
 refine d_s (.t (.agg [.s x21, .i x7.1, .i x11.1, .i x15.1])) rfl (dg0 rfl) rfl rfl rfl rfl ?_
 obtain ⟨x23, h24, h⟩ := bind_some h
 refine d_ca (fc_R20_May _ _ h24) rfl (dg0 rfl) rfl rfl rfl rfl rfl rfl rfl rfl (.cons .r .nil) rfl rfl ?_
 refine d_s (.b x23) rfl (dg0 rfl) rfl rfl rfl rfl ?_
 rcases bif_some h with ⟨h25, h⟩ | ⟨h25, h⟩
 ·
  refine d_s (.t (.agg [.s x21, .i x7.1, .i x11.1, .i x15.1])) rfl (dgy rfl rfl rfl rfl h25) rfl rfl rfl rfl ?_
  refine d_s (.i x3.1) rfl (dgy rfl rfl rfl rfl h25) rfl rfl rfl rfl ?_
  obtain ⟨x26, h27, h⟩ := bind_some h
  refine d_ca (fc_R20_Bytes _ _ _ h27) rfl (dgy rfl rfl rfl rfl h25) rfl rfl rfl rfl rfl rfl rfl rfl (.cons .r (.cons .r .nil)) rfl rfl ?_
  refine d_s (.y p0) rfl (dgy rfl rfl rfl rfl h25) rfl rfl rfl rfl ?_
  obtain ⟨x28, h29, h⟩ := bind_some h
  refine d_ca (fc_R01_Same _ _ _ h29) rfl (dgy rfl rfl rfl rfl h25) rfl rfl rfl rfl rfl rfl rfl rfl (.cons .r (.cons .r .nil)) rfl rfl ?_
  refine d_pk (.b x28) (b := true) h25 rfl (dg0 rfl) rfl rfl rfl rfl rfl rfl ?_
  refine d_st (.box [.s x21, .i x7.1, .i x11.1, .i x15.1]) rfl (dg0 rfl) rfl rfl rfl rfl ?_
  refine d_s (.i x3.1) rfl (dg0 rfl) rfl rfl rfl rfl ?_
  refine d_s (.b x28) rfl (dg0 rfl) rfl rfl rfl rfl ?_
  refine d_nil (by kernel_rfl) ?_
  refine c_ret ?_
  obtain rfl := Option.some.inj h
  exact end0 rfl (.tup (.cons .r (.cons .r (.cons .r .nil))))
 refine d_skip rfl rfl rfl rfl rfl h25 rfl rfl rfl ?_
 refine d_skip rfl rfl rfl rfl rfl h25 rfl rfl rfl ?_
 refine d_skip rfl rfl rfl rfl rfl h25 rfl rfl rfl ?_
 refine d_skip rfl rfl rfl rfl rfl h25 rfl rfl rfl ?_
 refine d_skip rfl rfl rfl rfl rfl h25 rfl rfl rfl ?_
 refine d_pk (.b false) (b := false) h25 rfl (dg0 rfl) rfl rfl rfl rfl rfl rfl ?_
 refine d_st (.box [.s x21, .i x7.1, .i x11.1, .i x15.1]) rfl (dg0 rfl) rfl rfl rfl rfl ?_
 refine d_s (.i x3.1) rfl (dg0 rfl) rfl rfl rfl rfl ?_
 refine d_s (.b false) rfl (dg0 rfl) rfl rfl rfl rfl ?_
 refine d_nil (by kernel_rfl) ?_
 refine c_ret ?_
 obtain rfl := Option.some.inj h
 exact end0 rfl (.tup (.cons .r (.cons .r (.cons .r .nil))))
theorem fch_L20_sectors_r (p0 : (List (List UInt8))) (w0 : Hp) (r : (List (List UInt8))) (h : m_L20_sectors_r p0 = some r) : FCH Try.prog 42 [.t (.d (.seq 1 (List.map (cSl 1 cU8) p0)))] [] [gbA (cSl 1 cU8) r] (hpA w0) (hpA w0) (.t (.view 0 0 41 1 r.length)) := by
 refine fch_mk (rs := [.tmp 2]) (n := 34) [0, 1] Try.func42 rfl rfl (Nat.le_of_ble_eq_true rfl) rfl (pins := []) rfl (L := [(HK, .hp (hpA w0)), (OB + 0, .free), (OB + 1, .free), (0, .t (.d (.seq 1 (List.map (cSl 1 cU8) p0))))]) rfl ?_
 refine c_sr ?_
 refine o_1 (.n) rfl ?_
 refine o_nil (c_sr ?_)
 refine o_of (e := [(3, .t (.view 0 0 41 1 0))]) (g0 rfl) (h_nilv (.inr rfl) rfl rfl rfl) rfl ?_
 refine o_nil (c_seq (c_sr ?_))
 refine o_1 (.i 0) rfl ?_
 refine o_nil (c_block ?_)
 refine c_fuelH (fun (q : Int × (List (List UInt8))) => [(0, .t (.d (.seq 1 (List.map (cSl 1 cU8) p0)))), (3, .t (.view 0 0 41 1 q.2.length)), (6, .i q.1), ((OB + 0), gbA (cSl 1 cU8) q.2), (HK, .hp (hpA w0)), (OB + 1, .free)]) (fun nl1 => (fun (q : Int × (List (List UInt8))) => m_L20_sectors_r_l1 p0 nl1 q.1 q.2 = some r)) (Int.toNat 20 + 1) (0, []) [] h rfl ⟨.inr ⟨_, rfl, pure_hpA _⟩, by (repeat (first | exact ObP.nil | refine ObP.cons (.inl rfl) ?_ | refine ObP.cons (.inr (fun _ => rfl)) ?_ | refine ObP.cons (.inr (ob_box (fl_noPt _ _))) ?_ | refine ObP.cons (.inr (ob_gb _ _)) ?_))⟩ ⟨.r, (.vwn (by first | rfl | omega | (simp; done) | (dsimp only; omega) | (simp; omega))), .r, .r, .r, .r, trivial⟩ (by ((refine nr_of ?_; repeat (first | exact nr_nil | refine nr_cons rfl ?_ | refine nr_cons (nr_gb _ _ _) ?_)))) ?_
 rintro nl1 ⟨z1, z2⟩ h
 cases nl1 with
 | zero => exact none_ne h
 | succ nl1 =>
  refine c_sr ?_
  refine o_1 (.b (decide (z1 < 20))) rfl ?_
  refine o_nil (c_seq ?_)
  rcases bif_some h with ⟨h3, h⟩ | ⟨h3, h⟩
  ·
   refine c_t h3 rfl ?_
   refine c_skip (c_seq (c_block (c_sr ?_)))
   refine o_m2 (.i z1) (.i z1) rfl ?_
   refine o_nil (c_sr ?_)
   obtain ⟨x4, h5, h⟩ := bind_some h
   refine o_of (e := [((OB + 1), .box (fl (dT cU8) (List.replicate x4 (0 : UInt8)))), (9, .t (.view 1 0 5 1 x4))]) (g0 rfl) (h_mkl mR rfl rfl rfl rfl rfl rfl rfl (by kernel_rfl) rfl h5 (fl_rep (c := cU8) (z := (0 : UInt8)) (by kernel_rfl) x4) rfl rfl rfl rfl) rfl ?_
   refine o_1 (.t (.view 1 0 5 1 x4)) rfl ?_
   refine o_nil ?_
   refine c_cutH (fun (y6 : (List UInt8)) => [(0, .t (.d (.seq 1 (List.map (cSl 1 cU8) p0)))), (3, .t (.view 0 0 41 1 z2.length)), (5, .t (.view 1 0 5 1 y6.length)), (6, .i z1), ((OB + 0), gbA (cSl 1 cU8) z2), ((OB + 1), .box (fl (dT cU8) y6)), (HK, .hp (hpA w0))]) (fun (y6 : (List UInt8)) => m_L20_sectors_r_j2 (m_L20_sectors_r_l1 p0 nl1) z2 z1 y6 = some r) ?_ ?_
   ·
    refine c_sr ?_
    refine o_m2 (.i z1) (.t (.d (.seq 1 (List.map (cSl 1 cU8) p0)))) rfl ?_
    refine o_c (g0 rfl) rfl rfl rfl (lenE _ _) trivial ?_
    refine o_m2 (.b (decide (z1 < (p0.length : Int)))) (.b (decide (z1 < (p0.length : Int)))) rfl ?_
    rcases bif_some h with ⟨h9, h⟩ | ⟨h9, h⟩
    ·
     refine o_s (.t (.d (.seq 1 (List.map (cSl 1 cU8) p0)))) (gy rfl rfl rfl h9) rfl rfl rfl ?_
     refine o_s (.i z1) (gy rfl rfl rfl h9) rfl rfl rfl ?_
     obtain ⟨x10, h11, h⟩ := bind_some h
     refine o_c (gy rfl rfl rfl h9) rfl rfl rfl (idxE h11) (idxC h11) ?_
     refine o_s (.y x10) (gy rfl rfl rfl h9) rfl rfl rfl ?_
     refine o_c (gy rfl rfl rfl h9) rfl rfl rfl (lenE _ _) trivial ?_
     refine o_s (.b ((x10.length : Int) == 64)) (gy rfl rfl rfl h9) rfl rfl rfl ?_
     refine o_pk (.b ((x10.length : Int) == 64)) (b := true) h9 (g0 rfl) rfl rfl rfl rfl rfl ?_
     refine o_nil ?_
     rcases bif_some h with ⟨h12, h⟩ | ⟨h12, h⟩
     ·
      refine c_t h12 rfl ?_
      refine c_region ?_
      refine o_m3 (.t (.view 1 0 5 1 x4)) (.t (.d (.seq 1 (List.map (cSl 1 cU8) p0)))) (.i z1) rfl ?_
      obtain ⟨x13, h14, h⟩ := bind_some h
      refine o_c (g0 rfl) rfl rfl rfl (idxE h14) (idxC h14) ?_
      refine o_1 (.y x13) rfl ?_
      obtain ⟨x15, h16, h⟩ := bind_some h
      refine o_of (e := [((OB + 1), .box (fl (dT cU8) x15)), (27, .i ((min x13.length x4 : Nat) : Int))]) (g0 rfl) (h_cpy (cc := cU8) (yl := x13) mR rfl rfl rfl rfl rfl rfl (fun _ => rfl) rfl h16 rfl rfl rfl) rfl ?_
      obtain ⟨x17, h18, h⟩ := bind_some h
      have h18 : x15.length = (List.replicate x4 (0 : UInt8)).length := lenI_eq h18; simp only [List.length_set, List.length_replicate] at h18
      refine o_nil ?_
      exact ⟨x15, [], h, rfl, ⟨.inr ⟨_, rfl, pure_hpA _⟩, by (repeat (first | exact ObP.nil | refine ObP.cons (.inl rfl) ?_ | refine ObP.cons (.inr (fun _ => rfl)) ?_ | refine ObP.cons (.inr (ob_box (fl_noPt _ _))) ?_ | refine ObP.cons (.inr (ob_gb _ _)) ?_))⟩, ⟨.r, .r, (.vwn (by first | rfl | omega | (simp; done) | (dsimp only; omega) | (simp; omega))), .r, .r, .r, .r, trivial⟩, (by ((refine nr_of ?_; repeat (first | exact nr_nil | refine nr_cons rfl ?_ | refine nr_cons (nr_gb _ _ _) ?_))))⟩
     refine c_f h12 rfl ?_
     refine c_skip ?_
     exact ⟨(List.replicate x4 (0 : UInt8)), [], h, rfl, ⟨.inr ⟨_, rfl, pure_hpA _⟩, by (repeat (first | exact ObP.nil | refine ObP.cons (.inl rfl) ?_ | refine ObP.cons (.inr (fun _ => rfl)) ?_ | refine ObP.cons (.inr (ob_box (fl_noPt _ _))) ?_ | refine ObP.cons (.inr (ob_gb _ _)) ?_))⟩, ⟨.r, .r, (.vwn (by first | rfl | omega | (simp; done) | (dsimp only; omega) | (simp; omega))), .r, .r, .r, .r, trivial⟩, (by ((refine nr_of ?_; repeat (first | exact nr_nil | refine nr_cons rfl ?_ | refine nr_cons (nr_gb _ _ _) ?_))))⟩
    refine o_skip rfl rfl rfl h9 rfl rfl ?_
    refine o_skip rfl rfl rfl h9 rfl rfl ?_
    refine o_skip rfl rfl rfl h9 rfl rfl ?_
    refine o_skip rfl rfl rfl h9 rfl rfl ?_
    refine o_skip rfl rfl rfl h9 rfl rfl ?_
    refine o_skip rfl rfl rfl h9 rfl rfl ?_
    refine o_pk (.b false) (b := false) h9 (g0 rfl) rfl rfl rfl rfl rfl ?_
    refine o_nil ?_
    refine c_f rfl rfl ?_
    refine c_skip ?_
    exact ⟨(List.replicate x4 (0 : UInt8)), [], h, rfl, ⟨.inr ⟨_, rfl, pure_hpA _⟩, by (repeat (first | exact ObP.nil | refine ObP.cons (.inl rfl) ?_ | refine ObP.cons (.inr (fun _ => rfl)) ?_ | refine ObP.cons (.inr (ob_box (fl_noPt _ _))) ?_ | refine ObP.cons (.inr (ob_gb _ _)) ?_))⟩, ⟨.r, .r, (.vwn (by first | rfl | omega | (simp; done) | (dsimp only; omega) | (simp; omega))), .r, .r, .r, .r, trivial⟩, (by ((refine nr_of ?_; repeat (first | exact nr_nil | refine nr_cons rfl ?_ | refine nr_cons (nr_gb _ _ _) ?_))))⟩
   rintro y6 h
   refine c_frz 5 1 rfl rfl (by first | (simp; done) | (rw [List.length_map]; omega)) (fl_flat _ _) (map_row (c := cU8) (fun _ => rfl) _) rfl ⟨.inr ⟨_, rfl, pure_hpA _⟩, by (repeat (first | exact ObP.nil | refine ObP.cons (.inl rfl) ?_ | refine ObP.cons (.inr (fun _ => rfl)) ?_ | refine ObP.cons (.inr (ob_box (fl_noPt _ _))) ?_ | refine ObP.cons (.inr (ob_gb _ _)) ?_))⟩ rfl ?_
   refine c_region ?_
   refine o_m3 (.t (.view 0 0 41 1 z2.length)) (.y y6) (.t (.own 41 1 (List.map (cSl 1 cU8) [y6]))) rfl ?_
   obtain ⟨x7, h8, h⟩ := bind_some h
   refine o_of (e := [(3, .any), (28, .any), ((OB + 0), gbA (cSl 1 cU8) x7), (31, .t (.view 0 0 41 1 x7.length))]) (g0 rfl) (h_apgI (c := (cSl 1 cU8)) mR [3, 28] h8 rfl rfl rfl rfl (fun _ => rfl) rfl (by simp) rfl rfl rfl (NoM.get (by (repeat (first | exact NoM.nil | refine NoM.skip rfl ?_ | refine NoM.cons rfl ?_ | refine NoM.cons (ptT_ment _ _ _) ?_ | refine NoM.cons (ob_box (fl_noPt _ _) _) ?_ | refine NoM.cons (ob_gb _ _ _) ?_)))) (.inr ⟨_, rfl, pure_hpA _⟩) rfl) rfl ?_
   refine o_1 (.t (.view 0 0 41 1 x7.length)) rfl ?_
   refine o_nil (c_region ?_)
   refine o_m2 (.i (wi (z1 + 1))) (.i (wi (z1 + 1))) rfl ?_
   refine o_nil ?_
   exact ⟨nl1, ((wi (z1 + 1)), x7), [], Nat.lt_succ_self nl1, h, rfl, ⟨.inr ⟨_, rfl, pure_hpA _⟩, by (repeat (first | exact ObP.nil | refine ObP.cons (.inl rfl) ?_ | refine ObP.cons (.inr (fun _ => rfl)) ?_ | refine ObP.cons (.inr (ob_box (fl_noPt _ _))) ?_ | refine ObP.cons (.inr (ob_gb _ _)) ?_))⟩, ⟨.r, .r, .r, .r, .r, .r, trivial⟩, (by ((refine nr_of ?_; repeat (first | exact nr_nil | refine nr_cons rfl ?_ | refine nr_cons (nr_gb _ _ _) ?_))))⟩
  refine c_f h3 rfl ?_
  refine c_exit (c_sr ?_)
  refine o_m2 (.t (.view 0 0 41 1 z2.length)) (.t (.view 0 0 41 1 z2.length)) rfl ?_
  refine o_nil (c_ret ?_)
  obtain rfl := Option.some.inj h
  exact ⟨⟨_, rfl, .r⟩, ⟨rfl, trivial⟩, rfl⟩
theorem fch_L20_Begun_v0 (p0 : (List (List UInt8))) (w0 : Hp) (r : ((Option Nat) × Hp)) (h : m_L20_Begun p0 w0 = some r) : FCH Try.prog 25 [.t (.view 0 0 41 1 p0.length)] [.box (fl (dT (cSl 1 cU8)) p0)] [.box (fl (dT (cSl 1 cU8)) p0)] (hpA w0) (hpA r.2) (.t ((ptT 5 r.1))) := by
 refine fch_mk (rs := [.tmp 2]) (n := 40) [] Try.func25 rfl rfl (Nat.le_of_ble_eq_true rfl) rfl (pins := [OB + 0]) rfl (L := [(HK, .hp (hpA w0)), (OB + 0, .box (fl (dT (cSl 1 cU8)) p0)), (0, .t (.view 0 0 41 1 p0.length))]) rfl ?_
 refine c_sr ?_
 refine o_of (e := [(2, .t (.d (.lit (.pointer none))))]) (g0 rfl) (h_mv mR (.inr rfl) rfl rfl rfl) rfl ?_
 refine o_nil (c_sr ?_)
 obtain ⟨x1, h2, h⟩ := bind_some h
 refine o_of (e := [(HK, .hp (hpA x1.2.2)), (12, .tup [(ptT 1 x1.1), .i x1.2.1])]) (g0 rfl) (h_call mR rfl (σ := []) (fr := []) rfl rfl rfl rfl rfl rfl rfl (fch_disk_New _ w0 _ h2) (pure_hpA _) (pure_hpA _) rfl rfl rfl rfl (.cons (.plain .r rfl) .nil) rfl (.tup (.cons (ptT_pt _ _) (.cons (.flat rfl) .nil)))) rfl ?_
 refine o_c (g0 rfl) rfl rfl rfl (congrArg A.tup (cp_cons (ptT_cp _ _) (cp_cons rfl cp_nil))) trivial ?_
 refine o_c (g0 rfl) rfl rfl rfl (congrArg A.t (ptT_cp _ _)) trivial ?_
 refine o_1 (.i x1.2.1) rfl ?_
 refine o_of (e := [(3, .t ((ptT 1 x1.1)))]) (g0 rfl) (h_mv mR (.inr rfl) (cpO_pt rfl) rfl rfl) rfl ?_
 refine o_1 (.i x1.2.1) rfl ?_
 refine o_nil (c_sr ?_)
 refine o_of (e := [(15, .t ((ptT 1 x1.1)))]) (g0 rfl) (h_mv mR (.inl rfl) (cpO_pt rfl) rfl rfl) rfl ?_
 obtain ⟨x3, h4, h⟩ := bind_some h
 refine o_of (e := [(HK, .hp (hpA x3.2)), (16, .i x3.1)]) (g0 rfl) (h_call mR rfl (σ := []) (fr := []) rfl rfl rfl rfl rfl rfl rfl (fch_wal_Format _ _ x1.2.2 _ h4) (pure_hpA _) (pure_hpA _) rfl rfl rfl rfl (.cons (argPt rfl) (.cons (.plain .r rfl) .nil)) rfl (.t (.flat rfl))) rfl ?_
 refine o_nil (c_sr ?_)
 refine o_of (e := [(18, .t ((ptT 1 x1.1)))]) (g0 rfl) (h_mv mR (.inl rfl) (cpO_pt rfl) rfl rfl) rfl ?_
 obtain ⟨x5, h6, h⟩ := bind_some h
 refine o_of (e := [(HK, .hp (hpA x5.2.2)), (19, .tup [(ptT 3 x5.1), .i x5.2.1])]) (g0 rfl) (h_call mR rfl (σ := []) (fr := []) rfl rfl rfl rfl rfl rfl rfl (fch_wal_Open _ x3.2 _ h6) (pure_hpA _) (pure_hpA _) rfl rfl rfl rfl (.cons (argPt rfl) .nil) rfl (.tup (.cons (ptT_pt _ _) (.cons (.flat rfl) .nil)))) rfl ?_
 refine o_c (g0 rfl) rfl rfl rfl (congrArg A.tup (cp_cons (ptT_cp _ _) (cp_cons rfl cp_nil))) trivial ?_
 refine o_c (g0 rfl) rfl rfl rfl (congrArg A.t (ptT_cp _ _)) trivial ?_
 refine o_1 (.i x5.2.1) rfl ?_
 refine o_of (e := [(5, .t ((ptT 3 x5.1)))]) (g0 rfl) (h_mv mR (.inr rfl) (cpO_pt rfl) rfl rfl) rfl ?_
 refine o_1 (.i x5.2.1) rfl ?_
 refine o_nil (c_sr ?_)
 refine o_of (e := [(23, .t ((ptT 3 x5.1)))]) (g0 rfl) (h_mv mR (.inl rfl) (cpO_pt rfl) rfl rfl) rfl ?_
 obtain ⟨x7, h8, h⟩ := bind_some h
 refine o_of (e := [(HK, .hp (hpA x7.2.2)), (24, .tup [(ptT 5 x7.1), .i x7.2.1])]) (g0 rfl) (h_call mR rfl (σ := []) (fr := []) rfl rfl rfl rfl rfl rfl rfl (fch_wal_Log_Begin _ x5.2.2 _ h8) (pure_hpA _) (pure_hpA _) rfl rfl rfl rfl (.cons (argPt rfl) .nil) rfl (.tup (.cons (ptT_pt _ _) (.cons (.flat rfl) .nil)))) rfl ?_
 refine o_c (g0 rfl) rfl rfl rfl (congrArg A.tup (cp_cons (ptT_cp _ _) (cp_cons rfl cp_nil))) trivial ?_
 refine o_c (g0 rfl) rfl rfl rfl (congrArg A.t (ptT_cp _ _)) trivial ?_
 refine o_1 (.i x7.2.1) rfl ?_
 refine o_of (e := [(7, .t ((ptT 5 x7.1)))]) (g0 rfl) (h_mv mR (.inr rfl) (cpO_pt rfl) rfl rfl) rfl ?_
 refine o_1 (.i x7.2.1) rfl ?_
 refine o_nil (c_seq (c_sr ?_))
 refine o_1 (.t (.view 0 0 41 1 p0.length)) rfl ?_
 refine o_of (e := [(28, .i (p0.length : Int))]) (g0 rfl) (h_lln mR rfl rfl rfl rfl rfl rfl) rfl ?_
 refine o_1 (.i 0) rfl ?_
 refine o_nil (c_block ?_)
 refine c_fuelH (fun (q : Int × Hp) => [(0, .t (.view 0 0 41 1 p0.length)), (7, .t ((ptT 5 x7.1))), (27, .t (.view 0 0 41 1 p0.length)), (28, .i (p0.length : Int)), (29, .i q.1), ((OB + 0), .box (fl (dT (cSl 1 cU8)) p0)), (HK, .hp (hpA q.2))]) (fun nl1 => (fun (q : Int × Hp) => m_L20_Begun_l1 p0 x7 nl1 q.1 q.2 = some r)) (p0.length + 1) (0, x7.2.2) [] h rfl ⟨.inr ⟨_, rfl, pure_hpA _⟩, by (repeat (first | exact ObP.nil | refine ObP.cons (.inl rfl) ?_ | refine ObP.cons (.inr (fun _ => rfl)) ?_ | refine ObP.cons (.inr (ob_box (fl_noPt _ _))) ?_ | refine ObP.cons (.inr (ob_gb _ _)) ?_))⟩ ⟨.r, .r, .r, .r, .r, .r, .r, trivial⟩ rfl ?_
 rintro nl1 ⟨z9, z10⟩ h
 cases nl1 with
 | zero => exact none_ne h
 | succ nl1 =>
  refine c_sr ?_
  refine o_1 (.b (decide (z9 < (p0.length : Int)))) rfl ?_
  refine o_nil (c_seq ?_)
  rcases bif_some h with ⟨h11, h⟩ | ⟨h11, h⟩
  ·
   refine c_t h11 rfl ?_
   refine c_skip (c_seq (c_block (c_sr ?_)))
   refine o_1 (.i z9) rfl ?_
   obtain ⟨x12, h13, h⟩ := bind_some h
   refine o_of (e := [(32, .ref (OB + 0) (0 + Int.toNat z9 * 1))]) (g0 rfl) (h_lix mR rfl rfl rfl rfl rfl (idxV rfl h13) rfl rfl rfl) rfl ?_
   refine o_of (e := [(33, .y x12)]) (g0 rfl) (h_lld mR rfl rfl rfl rfl (fl_at h13 rfl (fun _ => rfl)) rfl rfl rfl) rfl ?_
   refine o_m2 (.i z9) (.y x12) rfl ?_
   refine o_nil (c_region ?_)
   refine o_of (e := [(34, .t ((ptT 5 x7.1)))]) (g0 rfl) (h_mv mR (.inl rfl) (cpO_pt rfl) rfl rfl) rfl ?_
   refine o_m2 (.i z9) (.y x12) rfl ?_
   obtain ⟨x14, h15, h⟩ := bind_some h
   refine o_of (e := [(HK, .hp (hpA x14.2)), (37, .i x14.1)]) (g0 rfl) (h_call mR rfl (σ := []) (fr := []) rfl rfl rfl rfl rfl rfl rfl (fch_wal_Txn_Write _ _ _ z10 _ h15) (pure_hpA _) (pure_hpA _) rfl rfl rfl rfl (.cons (argPt rfl) (.cons (.plain .r rfl) (.cons (.plain .r rfl) .nil))) rfl (.t (.flat rfl))) rfl ?_
   refine o_nil (c_region ?_)
   refine o_m2 (.i (wi (z9 + 1))) (.i (wi (z9 + 1))) rfl ?_
   refine o_nil ?_
   exact ⟨nl1, ((wi (z9 + 1)), x14.2), [], Nat.lt_succ_self nl1, h, rfl, ⟨.inr ⟨_, rfl, pure_hpA _⟩, by (repeat (first | exact ObP.nil | refine ObP.cons (.inl rfl) ?_ | refine ObP.cons (.inr (fun _ => rfl)) ?_ | refine ObP.cons (.inr (ob_box (fl_noPt _ _))) ?_ | refine ObP.cons (.inr (ob_gb _ _)) ?_))⟩, ⟨.r, .r, .r, .r, .r, .r, .r, trivial⟩, rfl⟩
  refine c_f h11 rfl ?_
  refine c_exit (c_sr ?_)
  refine o_of (e := [(39, .t ((ptT 5 x7.1)))]) (g0 rfl) (h_mv mR (.inl rfl) (cpO_pt rfl) rfl rfl) rfl ?_
  refine o_of (e := [(2, .t ((ptT 5 x7.1)))]) (g0 rfl) (h_mv mR (.inr rfl) (cpO_pt rfl) rfl rfl) rfl ?_
  refine o_nil (c_ret ?_)
  obtain rfl := Option.some.inj h
  exact ⟨⟨_, rfl, .r⟩, ⟨rfl, trivial⟩, rfl⟩
theorem fch_R20_Head_v0 (p0 : (List (List UInt8))) (p1 : Int) (p2 : Int) (w0 : Hp) (r : Int) (h : m_R20_Head p0 p1 p2 = some r) : FCH Try.prog 96 [.t (.view 0 0 41 1 p0.length), .t (.d (.lit (.int .i64 p1))), .t (.d (.lit (.int .i64 p2)))] [.box (fl (dT (cSl 1 cU8)) p0)] [.box (fl (dT (cSl 1 cU8)) p0)] (hpA w0) (hpA w0) (.t (.d (.lit (.int .i64 r)))) := by
 refine fch_mk (rs := [.tmp 6]) (n := 39) [] Try.func96 rfl rfl (Nat.le_of_ble_eq_true rfl) rfl (pins := [OB + 0]) rfl (L := [(HK, .hp (hpA w0)), (OB + 0, .box (fl (dT (cSl 1 cU8)) p0)), (0, .t (.view 0 0 41 1 p0.length)), (1, .i p1), (2, .i p2)]) rfl ?_
 refine c_sr ?_
 refine o_1 (.i 0) rfl ?_
 refine o_nil (c_sr ?_)
 refine o_m5 (.i p1) (.i p2) (.i (wi (Int.tdiv p2 16))) (.i (wi (p1 + (wi (Int.tdiv p2 16))))) (.i (wi (p1 + (wi (Int.tdiv p2 16))))) rfl ?_
 refine o_nil (c_seq (c_sr ?_))
 refine o_m3 (.i (wi (p1 + (wi (Int.tdiv p2 16))))) (.b (decide ((wi (p1 + (wi (Int.tdiv p2 16)))) < 0))) (.b (decide ((wi (p1 + (wi (Int.tdiv p2 16)))) < 0))) rfl ?_
 rcases bif_some h with ⟨h1, h⟩ | ⟨h1, h⟩
 ·
  refine o_skip rfl rfl rfl h1 rfl rfl ?_
  refine o_skip rfl rfl rfl h1 rfl rfl ?_
  refine o_skip rfl rfl rfl h1 rfl rfl ?_
  refine o_skip rfl rfl rfl h1 rfl rfl ?_
  refine o_pk (.b true) (b := true) h1 (g0 rfl) rfl rfl rfl rfl rfl ?_
  refine o_nil ?_
  refine c_t rfl rfl ?_
  refine c_sr ?_
  refine o_1 (.i (-1)) rfl ?_
  refine o_nil (c_ret ?_)
  obtain rfl := Option.some.inj h
  exact ⟨⟨_, rfl, .r⟩, ⟨rfl, trivial⟩, rfl⟩
 refine o_s (.i (wi (p1 + (wi (Int.tdiv p2 16))))) (gy rfl rfl rfl h1) rfl rfl rfl ?_
 refine o_s (.t (.view 0 0 41 1 p0.length)) (gy rfl rfl rfl h1) rfl rfl rfl ?_
 refine o_of (e := [(19, .i (p0.length : Int))]) (gy rfl rfl rfl h1) (h_lln mR rfl rfl rfl rfl rfl rfl) rfl ?_
 refine o_s (.b (decide ((wi (p1 + (wi (Int.tdiv p2 16)))) ≥ (p0.length : Int)))) (gy rfl rfl rfl h1) rfl rfl rfl ?_
 refine o_pk (.b (decide ((wi (p1 + (wi (Int.tdiv p2 16)))) ≥ (p0.length : Int)))) (b := false) h1 (g0 rfl) rfl rfl rfl rfl rfl ?_
 refine o_nil ?_
 rcases bif_some h with ⟨h2, h⟩ | ⟨h2, h⟩
 ·
  refine c_t h2 rfl ?_
  refine c_sr ?_
  refine o_1 (.i (-1)) rfl ?_
  refine o_nil (c_ret ?_)
  obtain rfl := Option.some.inj h
  exact ⟨⟨_, rfl, .r⟩, ⟨rfl, trivial⟩, rfl⟩
 refine c_f h2 rfl ?_
 refine c_skip (c_sr ?_)
 refine o_m2 (.t (.view 0 0 41 1 p0.length)) (.i (wi (p1 + (wi (Int.tdiv p2 16))))) rfl ?_
 obtain ⟨x3, h4, h⟩ := bind_some h
 refine o_of (e := [(25, .ref (OB + 0) (0 + Int.toNat (wi (p1 + (wi (Int.tdiv p2 16)))) * 1))]) (g0 rfl) (h_lix mR rfl rfl rfl rfl rfl (idxV rfl h4) rfl rfl rfl) rfl ?_
 refine o_of (e := [(26, .y x3)]) (g0 rfl) (h_lld mR rfl rfl rfl rfl (fl_at h4 rfl (fun _ => rfl)) rfl rfl rfl) rfl ?_
 refine o_m7 (.i p2) (.i (Int.tmod p2 16)) (.i (wi (4 * (Int.tmod p2 16)))) (.i p2) (.i (Int.tmod p2 16)) (.i (wi (4 * (Int.tmod p2 16)))) (.i (wi ((wi (4 * (Int.tmod p2 16))) + 4))) rfl ?_
 obtain ⟨x5, h6, h⟩ := bind_some h
 refine o_c (g0 rfl) rfl rfl rfl (cutE (c := cU8) h6) (cutC (c := cU8) h6) ?_
 obtain ⟨x7, h8, h⟩ := bind_some h
 refine o_ca (fc_R01_Get _ _ h8) (g0 rfl) rfl rfl rfl rfl rfl rfl rfl (.cons .r .nil) rfl rfl ?_
 refine o_m5 (.tup [.i x7.1, .i x7.2]) (.i x7.1) (.i x7.2) (.i x7.1) (.i x7.2) rfl ?_
 refine o_nil (c_sr ?_)
 refine o_m2 (.i x7.1) (.i x7.1) rfl ?_
 refine o_nil (c_ret ?_)
 obtain rfl := Option.some.inj h
 exact ⟨⟨_, rfl, .r⟩, ⟨rfl, trivial⟩, rfl⟩
end Go.Proofs.Ytjomnccladjpgaa
