/-
  Walks of functions: each function does what its model tells. Printed by a program of this claim's own (gen.py) off the given translation.
-/
import Derived.Test.YtjomnccladjpgaaC13
import Derived.Test.YtjomnccladjpgaaC11
import Derived.Test.YtjomnccladjpgaaC10
import Derived.Test.YtjomnccladjpgaaC12
import Derived.Test.YtjomnccladjpgaaC14
set_option linter.unusedVariables false
set_option linter.unusedSimpArgs false
namespace Go.Proofs.Ytjomnccladjpgaa
open Go Go.RowKit
set_option linter.unusedVariables false
set_option maxHeartbeats 4000000
set_option maxRecDepth 20000
theorem fc_slices_Grow_byte_n0 (p1 : Int) (r : (List UInt8)) (h : m_slices_Grow_byte_n0 p1 = some r) : FC Try.prog 138 [.t (.d (.lit (.slice none 0 0))), .t (.d (.lit (.int .i64 p1)))] [] (.t (.own 5 1 (bytesD r))) := by
 refine fc_mk (rs := [.tmp 4]) (n := 27) Try.func138 rfl rfl (Nat.le_of_ble_eq_true rfl) rfl (pins := []) rfl (L := [(0, .n), (1, .i p1)]) rfl ?_
 refine c_sr ?_
 refine o_1 (.n) rfl ?_
 refine o_nil (c_seq (c_sr ?_))
 refine o_m2 (.i p1) (.b (decide (p1 < 0))) rfl ?_
 refine o_nil ?_
 rcases bif_some h with ⟨h1, h⟩ | ⟨h1, h⟩
 ·
  refine c_t h1 rfl ?_
  refine c_region ?_
  exact none_ne h
 refine c_f h1 rfl ?_
 refine c_skip (c_seq (c_sr ?_))
 refine o_m2 (.i p1) (.n) rfl ?_
 refine o_of (e := [(10, .i 0)]) (g0 rfl) (h_cap0 mR rfl rfl rfl rfl rfl) rfl ?_
 refine o_m5 (.n) (.i 0) (.i (wi (0 - 0))) (.i (wi (p1 - (wi (0 - 0))))) (.i (wi (p1 - (wi (0 - 0))))) rfl ?_
 refine o_nil (c_sr ?_)
 refine o_m2 (.i (wi (p1 - (wi (0 - 0))))) (.b (decide ((wi (p1 - (wi (0 - 0)))) > 0))) rfl ?_
 refine o_nil ?_
 rcases bif_some h with ⟨h2, h⟩ | ⟨h2, h⟩
 ·
  refine c_t h2 rfl ?_
  refine c_region ?_
  refine o_m2 (.n) (.n) rfl ?_
  refine o_of (e := [(19, .i 0)]) (g0 rfl) (h_cap0 mR rfl rfl rfl rfl rfl) rfl ?_
  refine o_of (e := [(20, .n)]) (g0 rfl) (h_slnil mR rfl rfl rfl rfl rfl rfl rfl) rfl ?_
  refine o_1 (.i (wi (p1 - (wi (0 - 0))))) rfl ?_
  obtain ⟨x3, h4, h⟩ := bind_some h
  refine o_of (e := [(22, .fr 5 1)]) (g0 rfl) (h_apfr mR rfl rfl rfl rfl h4 rfl rfl) rfl ?_
  refine o_m2 (.n) (.i 0) rfl ?_
  refine o_of (e := [(22, .any), (25, .t (.own 5 1 (bytesD [])))]) (g0 rfl) (h_slfr mR rfl rfl rfl rfl rfl rfl rfl rfl rfl) rfl ?_
  refine o_2 (.y []) (.t (.own 5 1 (bytesD []))) (g0 rfl) rfl rfl rfl ?_
  refine o_nil (c_sr ?_)
  refine o_2 (.y []) (.t (.own 5 1 (bytesD []))) (g0 rfl) rfl rfl rfl ?_
  refine o_2 (.y []) (.t (.own 5 1 (bytesD []))) (g0 rfl) rfl rfl rfl ?_
  refine o_nil (c_ret ?_)
  obtain rfl := Option.some.inj h
  exact end0 rfl .r
 refine c_f h2 rfl ?_
 refine c_skip (c_sr ?_)
 refine o_m2 (.n) (.n) rfl ?_
 refine o_nil (c_ret ?_)
 obtain rfl := Option.some.inj h
 exact end0 rfl (.t (.nilOwn _ _))
theorem fc_slices_Concat_byte (p0 : (List (List UInt8))) (r : (List UInt8)) (h : m_slices_Concat_byte p0 = some r) : FC Try.prog 131 [.t (.d (.seq 1 (List.map (cSl 1 cU8) p0)))] [] (.t (.own 5 1 (bytesD r))) := by
 refine fc_mk (rs := [.tmp 2]) (n := 36) Try.func131 rfl rfl (Nat.le_of_ble_eq_true rfl) rfl (pins := []) rfl (L := [(0, .t (.d (.seq 1 (List.map (cSl 1 cU8) p0))))]) rfl ?_
 refine c_sr ?_
 refine o_1 (.n) rfl ?_
 refine o_nil (c_sr ?_)
 refine o_1 (.i 0) rfl ?_
 refine o_nil ?_
 refine c_cut (fun (y1 : Int) => [(0, .t (.d (.seq 1 (List.map (cSl 1 cU8) p0)))), (3, .i y1)]) (fun (y1 : Int) => m_slices_Concat_byte_j1 p0 y1 = some r) ?_ ?_
 ·
  refine c_sr ?_
  refine o_1 (.t (.d (.seq 1 (List.map (cSl 1 cU8) p0)))) rfl ?_
  refine o_c (g0 rfl) rfl rfl rfl (lenE _ _) trivial ?_
  refine o_1 (.i 0) rfl ?_
  refine o_nil (c_block ?_)
  refine c_fuel (fun (q : Int × Int) => [(0, .t (.d (.seq 1 (List.map (cSl 1 cU8) p0)))), (3, .i q.1), (9, .t (.d (.seq 1 (List.map (cSl 1 cU8) p0)))), (10, .i (p0.length : Int)), (11, .i q.2)]) (fun nl3 => (fun (q : Int × Int) => m_slices_Concat_byte_l3 p0 nl3 q.1 q.2 = some r)) (p0.length + 1) (0, 0) h ⟨.r, .r, .r, .r, .r, trivial⟩ rfl ?_
  rintro nl3 ⟨z11, z12⟩ h
  cases nl3 with
  | zero => exact none_ne h
  | succ nl3 =>
   refine c_sr ?_
   refine o_1 (.b (decide (z12 < (p0.length : Int)))) rfl ?_
   refine o_nil (c_seq ?_)
   rcases bif_some h with ⟨h13, h⟩ | ⟨h13, h⟩
   ·
    refine c_t h13 rfl ?_
    refine c_skip (c_seq (c_block (c_sr ?_)))
    obtain ⟨x14, h15, h⟩ := bind_some h
    refine o_c (g0 rfl) rfl rfl rfl (idxE h15) (idxC h15) ?_
    refine o_m2 (.y x14) (.y x14) rfl ?_
    refine o_nil (c_sr ?_)
    refine o_m2 (.i z11) (.y x14) rfl ?_
    refine o_c (g0 rfl) rfl rfl rfl (lenE _ _) trivial ?_
    refine o_m2 (.i (wi (z11 + (x14.length : Int)))) (.i (wi (z11 + (x14.length : Int)))) rfl ?_
    refine o_nil (c_sr ?_)
    refine o_m2 (.i (wi (z11 + (x14.length : Int)))) (.b (decide ((wi (z11 + (x14.length : Int))) < 0))) rfl ?_
    refine o_nil ?_
    rcases bif_some h with ⟨h16, h⟩ | ⟨h16, h⟩
    ·
     refine c_t h16 rfl ?_
     refine c_region ?_
     exact none_ne h
    refine c_f h16 rfl ?_
    refine c_skip (c_region ?_)
    refine o_m2 (.i (wi (z12 + 1))) (.i (wi (z12 + 1))) rfl ?_
    refine o_nil ?_
    exact ⟨nl3, ((wi (z11 + (x14.length : Int))), (wi (z12 + 1))), Nat.lt_succ_self nl3, h, ⟨.r, .r, .r, .r, .r, trivial⟩, rfl⟩
   refine c_f h13 rfl ?_
   refine c_exit ?_
   exact ⟨z11, h, ⟨.r, .r, trivial⟩, rfl⟩
 rintro y1 h
 refine c_sr ?_
 refine o_1 (.i y1) rfl ?_
 obtain ⟨x2, h3, h⟩ := bind_some h
 refine o_ca (fc_slices_Grow_byte_n0 _ _ h3) (g0 rfl) rfl rfl rfl rfl rfl rfl rfl (.cons .r (.cons .r .nil)) rfl rfl ?_
 refine o_2 (.y x2) (.t (.own 5 1 (bytesD x2))) (g0 rfl) rfl rfl rfl ?_
 refine o_nil (c_seq (c_sr ?_))
 refine o_1 (.t (.d (.seq 1 (List.map (cSl 1 cU8) p0)))) rfl ?_
 refine o_c (g0 rfl) rfl rfl rfl (lenE _ _) trivial ?_
 refine o_1 (.i 0) rfl ?_
 refine o_nil (c_block ?_)
 refine c_fuel (fun (q : (List UInt8) × Int) => [(6, .t (.own 5 1 (bytesD q.1))), (25, .t (.d (.seq 1 (List.map (cSl 1 cU8) p0)))), (26, .i (p0.length : Int)), (27, .i q.2)]) (fun nl2 => (fun (q : (List UInt8) × Int) => m_slices_Concat_byte_l2 p0 nl2 q.1 q.2 = some r)) (p0.length + 1) (x2, 0) h ⟨.r, .r, .r, .r, trivial⟩ rfl ?_
 rintro nl2 ⟨z4, z5⟩ h
 cases nl2 with
 | zero => exact none_ne h
 | succ nl2 =>
  refine c_sr ?_
  refine o_1 (.b (decide (z5 < (p0.length : Int)))) rfl ?_
  refine o_nil (c_seq ?_)
  rcases bif_some h with ⟨h6, h⟩ | ⟨h6, h⟩
  ·
   refine c_t h6 rfl ?_
   refine c_skip (c_seq (c_block (c_sr ?_)))
   obtain ⟨x7, h8, h⟩ := bind_some h
   refine o_c (g0 rfl) rfl rfl rfl (idxE h8) (idxC h8) ?_
   refine o_m2 (.y x7) (.y x7) rfl ?_
   refine o_nil (c_region ?_)
   refine o_2 (.y z4) (.t (.own 5 1 (bytesD z4))) (g0 rfl) rfl rfl rfl ?_
   refine o_1 (.y x7) rfl ?_
   obtain ⟨x9, h10, h⟩ := bind_some h
   refine o_2c (g0 rfl) rfl rfl rfl (appE (c := cU8) h10) (appC (c := cU8) h10) ?_
   refine o_2 (.y x9) (.t (.own 5 1 (bytesD x9))) (g0 rfl) rfl rfl rfl ?_
   refine o_nil (c_region ?_)
   refine o_m2 (.i (wi (z5 + 1))) (.i (wi (z5 + 1))) rfl ?_
   refine o_nil ?_
   exact ⟨nl2, (x9, (wi (z5 + 1))), Nat.lt_succ_self nl2, h, ⟨.r, .r, .r, .r, trivial⟩, rfl⟩
  refine c_f h6 rfl ?_
  refine c_exit (c_sr ?_)
  refine o_2 (.y z4) (.t (.own 5 1 (bytesD z4))) (g0 rfl) rfl rfl rfl ?_
  refine o_2 (.y z4) (.t (.own 5 1 (bytesD z4))) (g0 rfl) rfl rfl rfl ?_
  refine o_nil (c_ret ?_)
  obtain rfl := Option.some.inj h
  exact end0 rfl .r
theorem fch_wal_Log_one (p0 : (Option Nat)) (p1 : Int) (w0 : Hp) (r : ((List S_api_Write) × Int)) (h : m_wal_Log_one p0 p1 w0 = some r) : FCH Try.prog 110 [.t ((ptT 3 p0)), .t (.d (.lit (.int .i64 p1)))] [] [] (hpA w0) (hpA w0) (.tup [.d (.seq 2 (List.map cS_api_Write r.1)), .d (.lit (.int .i64 r.2))]) := by
 refine fch_mk (rs := [.tmp 4, .tmp 5]) (n := 88) [] Try.func110 rfl rfl (Nat.le_of_ble_eq_true rfl) rfl (pins := []) rfl (L := [(HK, .hp (hpA w0)), (0, .t ((ptT 3 p0))), (1, .i p1)]) rfl ?_
 refine c_sr ?_
 refine o_m2 (.n) (.i 0) rfl ?_
 refine o_nil (c_sr ?_)
 refine o_1 (.n) rfl ?_
 refine o_nil (c_sr ?_)
 refine o_m2 (.i p1) (.i p1) rfl ?_
 refine o_nil (c_block ?_)
 refine c_fuelH (fun (q : (List S_api_Write) × Int) => [(0, .t ((ptT 3 p0))), (1, .i p1), (6, .t (.own 100 2 (List.map cS_api_Write q.1))), (7, .i q.2), (HK, .hp (hpA w0))]) (fun nl1 => (fun (q : (List S_api_Write) × Int) => m_wal_Log_one_l1 p0 w0 p1 nl1 q.1 q.2 = some r)) (16400) ([], p1) [] h rfl ⟨.inr ⟨_, rfl, pure_hpA _⟩, by (repeat (first | exact ObP.nil | refine ObP.cons (.inl rfl) ?_ | refine ObP.cons (.inr (fun _ => rfl)) ?_ | refine ObP.cons (.inr (ob_box (fl_noPt _ _))) ?_ | refine ObP.cons (.inr (ob_gb _ _)) ?_))⟩ ⟨.r, .r, (.t (.nilOwn _ _)), .r, .r, trivial⟩ rfl ?_
 rintro nl1 ⟨z1, z2⟩ h
 cases nl1 with
 | zero => exact none_ne h
 | succ nl1 =>
  refine c_seq (c_block (c_sr ?_))
  refine o_of (e := [(13, .t ((ptT 3 p0)))]) (g0 rfl) (h_mv mR (.inl rfl) (cpO_pt rfl) rfl rfl) rfl ?_
  refine o_1 (.i z2) rfl ?_
  obtain ⟨x3, h4, h⟩ := bind_some h
  refine o_of (e := [(15, .t (.agg [.i x3.kind_, .i x3.number_, .y x3.data_, .b x3.ok_]))]) (g0 rfl) (h_callR mR rfl (σ := []) (fr := []) rfl rfl rfl rfl rfl rfl rfl (fch_wal_Log_at _ _ w0 _ h4) (pure_hpA _) rfl rfl rfl rfl (.cons (argPt rfl) (.cons (.plain .r rfl) .nil)) rfl (.t (.flat rfl))) rfl ?_
  refine o_1 (.box [.i 0, .i 0, .n, .b false]) rfl ?_
  refine o_st (.box [.i x3.kind_, .i x3.number_, .y x3.data_, .b x3.ok_]) (g0 rfl) rfl rfl rfl ?_
  refine o_nil ?_
  refine c_cutH (fun (q : (Option Nat) × Int × Bool) => [(0, .t ((ptT 3 p0))), (1, .i p1), (6, .t (.own 100 2 (List.map cS_api_Write z1))), (7, .i z2), (8, .box [.i x3.kind_, .i x3.number_, .y x3.data_, .b x3.ok_]), (51, .ref 8 1), (52, .i x3.number_), (53, .t ((ptT 3 q.1))), (54, .i q.2.1), (55, .b q.2.2), (HK, .hp (hpA w0))]) (fun (q : (Option Nat) × Int × Bool) => m_wal_Log_one_j2 (m_wal_Log_one_l1 p0 w0 p1 nl1) p0 z2 w0 x3 z1 q.1 q.2.1 q.2.2 = some r) ?_ ?_
  ·
   refine c_block (c_sr ?_)
   refine o_m4 (.ref 8 3) (.b x3.ok_) (.b (!x3.ok_)) (.b (!x3.ok_)) rfl ?_
   refine o_nil ?_
   rcases bif_some h with ⟨h17, h⟩ | ⟨h17, h⟩
   ·
    refine c_t h17 rfl ?_
    refine c_sr ?_
    refine o_m2 (.n) (.i 0) rfl ?_
    refine o_nil (c_ret ?_)
    obtain rfl := Option.some.inj h
    exact ⟨⟨_, rfl, (.tup (.cons (.d (.nil _)) (.cons .r .nil)))⟩, trivial, rfl⟩
   refine c_f h17 rfl ?_
   refine c_cutH (fun (y18 : Bool) => [(0, .t ((ptT 3 p0))), (1, .i p1), (6, .t (.own 100 2 (List.map cS_api_Write z1))), (7, .i z2), (8, .box [.i x3.kind_, .i x3.number_, .y x3.data_, .b x3.ok_]), (20, .b y18), (HK, .hp (hpA w0))]) (fun (y18 : Bool) => m_wal_Log_one_j3 (m_wal_Log_one_l1 p0 w0 p1 nl1) z1 z2 p1 x3 p0 w0 y18 = some r) ?_ ?_
   ·
    refine c_region ?_
    refine o_m4 (.ref 8 0) (.i x3.kind_) (.b (x3.kind_ == 3)) (.b (x3.kind_ == 3)) rfl ?_
    rcases bif_some h with ⟨h29, h⟩ | ⟨h29, h⟩
    ·
     refine o_s (.t (.d (.seq 2 (List.map cS_api_Write z1)))) (gy rfl rfl rfl h29) rfl rfl rfl ?_
     refine o_c (gy rfl rfl rfl h29) rfl rfl rfl (lenE _ _) trivial ?_
     refine o_s (.b (decide ((z1.length : Int) > 0))) (gy rfl rfl rfl h29) rfl rfl rfl ?_
     refine o_pk (.b (decide ((z1.length : Int) > 0))) (b := true) h29 (g0 rfl) rfl rfl rfl rfl rfl ?_
     refine o_1 (.b (decide ((z1.length : Int) > 0))) rfl ?_
     rcases bif_some h with ⟨h30, h⟩ | ⟨h30, h⟩
     ·
      refine o_s (.ref 8 1) (gy rfl rfl rfl h30) rfl rfl rfl ?_
      refine o_s (.i x3.number_) (gy rfl rfl rfl h30) rfl rfl rfl ?_
      refine o_s (.t (.d (.seq 2 (List.map cS_api_Write z1)))) (gy rfl rfl rfl h30) rfl rfl rfl ?_
      refine o_c (gy rfl rfl rfl h30) rfl rfl rfl (lenE _ _) trivial ?_
      refine o_s (.b (x3.number_ == (z1.length : Int))) (gy rfl rfl rfl h30) rfl rfl rfl ?_
      refine o_pk (.b (x3.number_ == (z1.length : Int))) (b := true) h30 (g0 rfl) rfl rfl rfl rfl rfl ?_
      refine o_1 (.b (x3.number_ == (z1.length : Int))) rfl ?_
      rcases bif_some h with ⟨h31, h⟩ | ⟨h31, h⟩
      ·
       refine o_s (.ref 8 2) (gy rfl rfl rfl h31) rfl rfl rfl ?_
       refine o_s (.y x3.data_) (gy rfl rfl rfl h31) rfl rfl rfl ?_
       obtain ⟨x32, h33, h⟩ := bind_some h
       refine o_ca (fc_wal_noughts _ _ h33) (gy rfl rfl rfl h31) rfl rfl rfl rfl rfl rfl rfl (.cons .r .nil) rfl rfl ?_
       refine o_pk (.b x32) (b := true) h31 (g0 rfl) rfl rfl rfl rfl rfl ?_
       refine o_1 (.b x32) rfl ?_
       refine o_nil ?_
       exact ⟨x32, [], h, rfl, ⟨.inr ⟨_, rfl, pure_hpA _⟩, by (repeat (first | exact ObP.nil | refine ObP.cons (.inl rfl) ?_ | refine ObP.cons (.inr (fun _ => rfl)) ?_ | refine ObP.cons (.inr (ob_box (fl_noPt _ _))) ?_ | refine ObP.cons (.inr (ob_gb _ _)) ?_))⟩, ⟨.r, .r, .r, .r, .r, .r, .r, trivial⟩, rfl⟩
      refine o_skip rfl rfl rfl h31 rfl rfl ?_
      refine o_skip rfl rfl rfl h31 rfl rfl ?_
      refine o_skip rfl rfl rfl h31 rfl rfl ?_
      refine o_pk (.b false) (b := false) h31 (g0 rfl) rfl rfl rfl rfl rfl ?_
      refine o_1 (.b false) rfl ?_
      refine o_nil ?_
      exact ⟨false, [], h, rfl, ⟨.inr ⟨_, rfl, pure_hpA _⟩, by (repeat (first | exact ObP.nil | refine ObP.cons (.inl rfl) ?_ | refine ObP.cons (.inr (fun _ => rfl)) ?_ | refine ObP.cons (.inr (ob_box (fl_noPt _ _))) ?_ | refine ObP.cons (.inr (ob_gb _ _)) ?_))⟩, ⟨.r, .r, .r, .r, .r, .r, .r, trivial⟩, rfl⟩
     refine o_skip rfl rfl rfl h30 rfl rfl ?_
     refine o_skip rfl rfl rfl h30 rfl rfl ?_
     refine o_skip rfl rfl rfl h30 rfl rfl ?_
     refine o_skip rfl rfl rfl h30 rfl rfl ?_
     refine o_skip rfl rfl rfl h30 rfl rfl ?_
     refine o_pk (.b false) (b := false) h30 (g0 rfl) rfl rfl rfl rfl rfl ?_
     refine o_1 (.b false) rfl ?_
     refine o_skip rfl rfl rfl rfl rfl rfl ?_
     refine o_skip rfl rfl rfl rfl rfl rfl ?_
     refine o_skip rfl rfl rfl rfl rfl rfl ?_
     refine o_pk (.b false) (b := false) rfl (g0 rfl) rfl rfl rfl rfl rfl ?_
     refine o_1 (.b false) rfl ?_
     refine o_nil ?_
     exact ⟨false, [], h, rfl, ⟨.inr ⟨_, rfl, pure_hpA _⟩, by (repeat (first | exact ObP.nil | refine ObP.cons (.inl rfl) ?_ | refine ObP.cons (.inr (fun _ => rfl)) ?_ | refine ObP.cons (.inr (ob_box (fl_noPt _ _))) ?_ | refine ObP.cons (.inr (ob_gb _ _)) ?_))⟩, ⟨.r, .r, .r, .r, .r, .r, .r, trivial⟩, rfl⟩
    refine o_skip rfl rfl rfl h29 rfl rfl ?_
    refine o_skip rfl rfl rfl h29 rfl rfl ?_
    refine o_skip rfl rfl rfl h29 rfl rfl ?_
    refine o_pk (.b false) (b := false) h29 (g0 rfl) rfl rfl rfl rfl rfl ?_
    refine o_1 (.b false) rfl ?_
    refine o_skip rfl rfl rfl rfl rfl rfl ?_
    refine o_skip rfl rfl rfl rfl rfl rfl ?_
    refine o_skip rfl rfl rfl rfl rfl rfl ?_
    refine o_skip rfl rfl rfl rfl rfl rfl ?_
    refine o_skip rfl rfl rfl rfl rfl rfl ?_
    refine o_pk (.b false) (b := false) rfl (g0 rfl) rfl rfl rfl rfl rfl ?_
    refine o_1 (.b false) rfl ?_
    refine o_skip rfl rfl rfl rfl rfl rfl ?_
    refine o_skip rfl rfl rfl rfl rfl rfl ?_
    refine o_skip rfl rfl rfl rfl rfl rfl ?_
    refine o_pk (.b false) (b := false) rfl (g0 rfl) rfl rfl rfl rfl rfl ?_
    refine o_1 (.b false) rfl ?_
    refine o_nil ?_
    exact ⟨false, [], h, rfl, ⟨.inr ⟨_, rfl, pure_hpA _⟩, by (repeat (first | exact ObP.nil | refine ObP.cons (.inl rfl) ?_ | refine ObP.cons (.inr (fun _ => rfl)) ?_ | refine ObP.cons (.inr (ob_box (fl_noPt _ _))) ?_ | refine ObP.cons (.inr (ob_gb _ _)) ?_))⟩, ⟨.r, .r, .r, .r, .r, .r, .r, trivial⟩, rfl⟩
   rintro y18 h
   rcases bif_some h with ⟨h19, h⟩ | ⟨h19, h⟩
   ·
    refine c_t h19 rfl ?_
    refine c_sr ?_
    refine o_2 (.t (.d (.seq 2 (List.map cS_api_Write z1)))) (.t (.own 100 2 (List.map cS_api_Write z1))) (g0 rfl) rfl rfl rfl ?_
    refine o_m4 (.i z2) (.i (wi (z2 + 1))) (.i p1) (.i (wi ((wi (z2 + 1)) - p1))) rfl ?_
    refine o_2 (.t (.d (.seq 2 (List.map cS_api_Write z1)))) (.t (.own 100 2 (List.map cS_api_Write z1))) (g0 rfl) rfl rfl rfl ?_
    refine o_1 (.i (wi ((wi (z2 + 1)) - p1))) rfl ?_
    refine o_nil (c_ret ?_)
    obtain rfl := Option.some.inj h
    exact ⟨⟨_, rfl, (.tup (.cons .r (.cons .r .nil)))⟩, trivial, rfl⟩
   refine c_f h19 rfl ?_
   refine c_seq ?_
   refine c_draw mixed (by kernel_rfl) ?_
   refine d_s (.ref 8 0) rfl (dg0 rfl) rfl rfl rfl rfl ?_
   refine d_s (.i x3.kind_) rfl (dg0 rfl) rfl rfl rfl rfl ?_
   refine d_s (.b (x3.kind_ != 1)) rfl (dg0 rfl) rfl rfl rfl rfl ?_
   refine d_s (.b (x3.kind_ != 1)) rfl (dg0 rfl) rfl rfl rfl rfl ?_
   rcases bif_some h with ⟨h20, h⟩ | ⟨h20, h⟩
   ·
    refine d_skip rfl rfl rfl rfl rfl h20 rfl rfl rfl ?_
    refine d_skip rfl rfl rfl rfl rfl h20 rfl rfl rfl ?_
    refine d_skip rfl rfl rfl rfl rfl h20 rfl rfl rfl ?_
    refine d_skip rfl rfl rfl rfl rfl h20 rfl rfl rfl ?_
    refine d_skip rfl rfl rfl rfl rfl h20 rfl rfl rfl ?_
    refine d_pk (.b true) (b := true) h20 rfl (dg0 rfl) rfl rfl rfl rfl rfl rfl ?_
    refine d_s (.b true) rfl (dg0 rfl) rfl rfl rfl rfl ?_
    refine d_nil (by kernel_rfl) ?_
    refine c_t rfl rfl ?_
    refine c_sr ?_
    refine o_m2 (.n) (.i 0) rfl ?_
    refine o_nil (c_ret ?_)
    obtain rfl := Option.some.inj h
    exact ⟨⟨_, rfl, (.tup (.cons (.d (.nil _)) (.cons .r .nil)))⟩, trivial, rfl⟩
   refine d_s (.ref 8 1) rfl (dgy rfl rfl rfl rfl h20) rfl rfl rfl rfl ?_
   refine d_s (.i x3.number_) rfl (dgy rfl rfl rfl rfl h20) rfl rfl rfl rfl ?_
   rcases ptM_some h with ⟨h21, h⟩ | ⟨i22, h21, h⟩
   ·
    refine d_h0 [] (e := [(53, .t (.d (.lit (.pointer none))))]) (ks := [53]) rfl (dgy rfl rfl rfl rfl h20) rfl rfl (fun S' hM hok => h_mv hM (.inl rfl) ((cpO_pt rfl).trans (pt_eq_none h21)) rfl (hok _ rfl rfl)) rfl ?_
    obtain ⟨x23, h24, h⟩ := bind_some h
    refine d_h (e := [(54, .i x23)]) (ks := [54]) rfl (dgy rfl rfl rfl rfl h20) rfl rfl (fun S' hM hk hok => h_callR hM hk (σ := []) (fr := []) rfl rfl rfl (hok _ rfl rfl) rfl rfl rfl (fch_wal_Log_Homes _ w0 _ h24) (pure_hpA _) rfl rfl rfl rfl (.cons (.plain .r rfl) .nil) rfl (.t (.flat rfl))) rfl ?_
    refine d_s (.b (decide (x3.number_ ≥ x23))) rfl (dgy rfl rfl rfl rfl h20) rfl rfl rfl rfl ?_
    refine d_pk (.b (decide (x3.number_ ≥ x23))) (b := false) h20 rfl (dg0 rfl) rfl rfl rfl rfl rfl rfl ?_
    refine d_s (.b (decide (x3.number_ ≥ x23))) rfl (dg0 rfl) rfl rfl rfl rfl ?_
    refine d_nil (by kernel_rfl) ?_
    rcases bif_some h with ⟨h25, h⟩ | ⟨h25, h⟩
    ·
     refine c_t h25 rfl ?_
     refine c_sr ?_
     refine o_m2 (.n) (.i 0) rfl ?_
     refine o_nil (c_ret ?_)
     obtain rfl := Option.some.inj h
     exact ⟨⟨_, rfl, (.tup (.cons (.d (.nil _)) (.cons .r .nil)))⟩, trivial, rfl⟩
    refine c_f h25 rfl ?_
    refine c_skip ?_
    exact ⟨(none, x23, (decide (x3.number_ ≥ x23))), [], h, rfl, ⟨.inr ⟨_, rfl, pure_hpA _⟩, by (repeat (first | exact ObP.nil | refine ObP.cons (.inl rfl) ?_ | refine ObP.cons (.inr (fun _ => rfl)) ?_ | refine ObP.cons (.inr (ob_box (fl_noPt _ _))) ?_ | refine ObP.cons (.inr (ob_gb _ _)) ?_))⟩, ⟨.r, .r, .r, .r, .r, .r, .r, .r, .r, .r, .r, trivial⟩, rfl⟩
   refine d_h0 [] (e := [(53, .t (.hpt (cd 3 i22) 0))]) (ks := [53]) rfl (dgy rfl rfl rfl rfl h20) rfl rfl (fun S' hM hok => h_mv hM (.inl rfl) ((cpO_pt rfl).trans (pt_eq_some h21)) rfl (hok _ rfl rfl)) rfl ?_
   obtain ⟨x26, h27, h⟩ := bind_some h
   refine d_h (e := [(54, .i x26)]) (ks := [54]) rfl (dgy rfl rfl rfl rfl h20) rfl rfl (fun S' hM hk hok => h_callR hM hk (σ := []) (fr := []) rfl rfl rfl (hok _ rfl rfl) rfl rfl rfl (fch_wal_Log_Homes _ w0 _ h27) (pure_hpA _) rfl rfl rfl rfl (.cons (.hpt _ _) .nil) rfl (.t (.flat rfl))) rfl ?_
   refine d_s (.b (decide (x3.number_ ≥ x26))) rfl (dgy rfl rfl rfl rfl h20) rfl rfl rfl rfl ?_
   refine d_pk (.b (decide (x3.number_ ≥ x26))) (b := false) h20 rfl (dg0 rfl) rfl rfl rfl rfl rfl rfl ?_
   refine d_s (.b (decide (x3.number_ ≥ x26))) rfl (dg0 rfl) rfl rfl rfl rfl ?_
   refine d_nil (by kernel_rfl) ?_
   rcases bif_some h with ⟨h28, h⟩ | ⟨h28, h⟩
   ·
    refine c_t h28 rfl ?_
    refine c_sr ?_
    refine o_m2 (.n) (.i 0) rfl ?_
    refine o_nil (c_ret ?_)
    obtain rfl := Option.some.inj h
    exact ⟨⟨_, rfl, (.tup (.cons (.d (.nil _)) (.cons .r .nil)))⟩, trivial, rfl⟩
   refine c_f h28 rfl ?_
   refine c_skip ?_
   exact ⟨((some i22), x26, (decide (x3.number_ ≥ x26))), [], h, rfl, ⟨.inr ⟨_, rfl, pure_hpA _⟩, by (repeat (first | exact ObP.nil | refine ObP.cons (.inl rfl) ?_ | refine ObP.cons (.inr (fun _ => rfl)) ?_ | refine ObP.cons (.inr (ob_box (fl_noPt _ _))) ?_ | refine ObP.cons (.inr (ob_gb _ _)) ?_))⟩, ⟨.r, .r, .r, .r, .r, .r, .r, .r, .r, .r, .r, trivial⟩, rfl⟩
  rintro ⟨y5, y6, y7⟩ h
  refine c_sr ?_
  refine o_of (e := [(57, .t ((ptT 3 p0)))]) (g0 rfl) (h_mv mR (.inl rfl) (cpO_pt rfl) rfl rfl) rfl ?_
  refine o_m2 (.i z2) (.i (wi (z2 + 1))) rfl ?_
  obtain ⟨x8, h9, h⟩ := bind_some h
  refine o_of (e := [(60, .t (.agg [.i x8.kind_, .i x8.number_, .y x8.data_, .b x8.ok_]))]) (g0 rfl) (h_callR mR rfl (σ := []) (fr := []) rfl rfl rfl rfl rfl rfl rfl (fch_wal_Log_at _ _ w0 _ h9) (pure_hpA _) rfl rfl rfl rfl (.cons (argPt rfl) (.cons (.plain .r rfl) .nil)) rfl (.t (.flat rfl))) rfl ?_
  refine o_1 (.box [.i 0, .i 0, .n, .b false]) rfl ?_
  refine o_st (.box [.i x8.kind_, .i x8.number_, .y x8.data_, .b x8.ok_]) (g0 rfl) rfl rfl rfl ?_
  refine o_nil (c_seq (c_sr ?_))
  refine o_m4 (.ref 9 3) (.b x8.ok_) (.b (!x8.ok_)) (.b (!x8.ok_)) rfl ?_
  rcases bif_some h with ⟨h10, h⟩ | ⟨h10, h⟩
  ·
   refine o_skip rfl rfl rfl h10 rfl rfl ?_
   refine o_skip rfl rfl rfl h10 rfl rfl ?_
   refine o_skip rfl rfl rfl h10 rfl rfl ?_
   refine o_pk (.b true) (b := true) h10 (g0 rfl) rfl rfl rfl rfl rfl ?_
   refine o_1 (.b true) rfl ?_
   refine o_skip rfl rfl rfl rfl rfl rfl ?_
   refine o_skip rfl rfl rfl rfl rfl rfl ?_
   refine o_skip rfl rfl rfl rfl rfl rfl ?_
   refine o_skip rfl rfl rfl rfl rfl rfl ?_
   refine o_skip rfl rfl rfl rfl rfl rfl ?_
   refine o_pk (.b true) (b := true) rfl (g0 rfl) rfl rfl rfl rfl rfl ?_
   refine o_nil ?_
   refine c_t rfl rfl ?_
   refine c_sr ?_
   refine o_m2 (.n) (.i 0) rfl ?_
   refine o_nil (c_ret ?_)
   obtain rfl := Option.some.inj h
   exact ⟨⟨_, rfl, (.tup (.cons (.d (.nil _)) (.cons .r .nil)))⟩, trivial, rfl⟩
  refine o_s (.ref 9 0) (gy rfl rfl rfl h10) rfl rfl rfl ?_
  refine o_s (.i x8.kind_) (gy rfl rfl rfl h10) rfl rfl rfl ?_
  refine o_s (.b (x8.kind_ != 2)) (gy rfl rfl rfl h10) rfl rfl rfl ?_
  refine o_pk (.b (x8.kind_ != 2)) (b := false) h10 (g0 rfl) rfl rfl rfl rfl rfl ?_
  refine o_1 (.b (x8.kind_ != 2)) rfl ?_
  rcases bif_some h with ⟨h11, h⟩ | ⟨h11, h⟩
  ·
   refine o_skip rfl rfl rfl h11 rfl rfl ?_
   refine o_skip rfl rfl rfl h11 rfl rfl ?_
   refine o_skip rfl rfl rfl h11 rfl rfl ?_
   refine o_skip rfl rfl rfl h11 rfl rfl ?_
   refine o_skip rfl rfl rfl h11 rfl rfl ?_
   refine o_pk (.b true) (b := true) h11 (g0 rfl) rfl rfl rfl rfl rfl ?_
   refine o_nil ?_
   refine c_t rfl rfl ?_
   refine c_sr ?_
   refine o_m2 (.n) (.i 0) rfl ?_
   refine o_nil (c_ret ?_)
   obtain rfl := Option.some.inj h
   exact ⟨⟨_, rfl, (.tup (.cons (.d (.nil _)) (.cons .r .nil)))⟩, trivial, rfl⟩
  refine o_s (.ref 9 1) (gy rfl rfl rfl h11) rfl rfl rfl ?_
  refine o_s (.i x8.number_) (gy rfl rfl rfl h11) rfl rfl rfl ?_
  refine o_s (.ref 8 1) (gy rfl rfl rfl h11) rfl rfl rfl ?_
  refine o_s (.i x3.number_) (gy rfl rfl rfl h11) rfl rfl rfl ?_
  refine o_s (.b (x8.number_ != x3.number_)) (gy rfl rfl rfl h11) rfl rfl rfl ?_
  refine o_pk (.b (x8.number_ != x3.number_)) (b := false) h11 (g0 rfl) rfl rfl rfl rfl rfl ?_
  refine o_nil ?_
  rcases bif_some h with ⟨h12, h⟩ | ⟨h12, h⟩
  ·
   refine c_t h12 rfl ?_
   refine c_sr ?_
   refine o_m2 (.n) (.i 0) rfl ?_
   refine o_nil (c_ret ?_)
   obtain rfl := Option.some.inj h
   exact ⟨⟨_, rfl, (.tup (.cons (.d (.nil _)) (.cons .r .nil)))⟩, trivial, rfl⟩
  refine c_f h12 rfl ?_
  refine c_skip ?_
  refine c_draw mixed (by kernel_rfl) ?_
  refine d_2 (.t (.d (.seq 2 (List.map cS_api_Write z1)))) (.t (.own 100 2 (List.map cS_api_Write z1))) rfl (dg0 rfl) rfl rfl rfl rfl rfl ?_
  refine d_s (.ref 8 1) rfl (dg0 rfl) rfl rfl rfl rfl ?_
  refine d_s (.i x3.number_) rfl (dg0 rfl) rfl rfl rfl rfl ?_
  refine d_s (.ref 8 2) rfl (dg0 rfl) rfl rfl rfl rfl ?_
  refine d_s (.y x3.data_) rfl (dg0 rfl) rfl rfl rfl rfl ?_
  refine d_s (.ref 9 2) rfl (dg0 rfl) rfl rfl rfl rfl ?_
  refine d_s (.y x8.data_) rfl (dg0 rfl) rfl rfl rfl rfl ?_
  refine d_s (.t (.own 41 1 (List.map (cSl 1 cU8) [x3.data_, x8.data_]))) rfl (dg0 rfl) rfl rfl rfl rfl ?_
  obtain ⟨x13, h14, h⟩ := bind_some h
  refine d_ca (fc_slices_Concat_byte _ _ h14) rfl (dg0 rfl) rfl rfl rfl rfl rfl rfl rfl rfl (.cons .r .nil) rfl rfl ?_
  refine d_s (.t (.agg [.i x3.number_, .y x13])) rfl (dg0 rfl) rfl rfl rfl rfl ?_
  refine d_s (.t (.own 100 2 (List.map cS_api_Write [(S_api_Write.mk x3.number_ x13)]))) rfl (dg0 rfl) rfl rfl rfl rfl ?_
  obtain ⟨x15, h16, h⟩ := bind_some h
  refine d_2c rfl (dg0 rfl) rfl rfl rfl rfl rfl (appE (c := cS_api_Write) h16) (appC (c := cS_api_Write) h16) ?_
  refine d_2 (.t (.d (.seq 2 (List.map cS_api_Write x15)))) (.t (.own 100 2 (List.map cS_api_Write x15))) rfl (dg0 rfl) rfl rfl rfl rfl rfl ?_
  refine d_nil (by kernel_rfl) ?_
  refine c_region ?_
  refine o_m3 (.i z2) (.i (wi (z2 + 2))) (.i (wi (z2 + 2))) rfl ?_
  refine o_nil ?_
  exact ⟨nl1, (x15, (wi (z2 + 2))), [], Nat.lt_succ_self nl1, h, rfl, ⟨.inr ⟨_, rfl, pure_hpA _⟩, by (repeat (first | exact ObP.nil | refine ObP.cons (.inl rfl) ?_ | refine ObP.cons (.inr (fun _ => rfl)) ?_ | refine ObP.cons (.inr (ob_box (fl_noPt _ _))) ?_ | refine ObP.cons (.inr (ob_gb _ _)) ?_))⟩, ⟨.r, .r, .r, .r, .r, trivial⟩, rfl⟩
theorem fch_wal_Log_says (p0 : (Option Nat)) (w0 : Hp) (r : (List S_api_Write)) (h : m_wal_Log_says p0 w0 = some r) : FCH Try.prog 67 [.t ((ptT 3 p0))] [] [] (hpA w0) (hpA w0) (.t (.own 100 2 (List.map cS_api_Write r))) := by
 refine fch_mk (rs := [.tmp 2]) (n := 22) [] Try.func67 rfl rfl (Nat.le_of_ble_eq_true rfl) rfl (pins := []) rfl (L := [(HK, .hp (hpA w0)), (0, .t ((ptT 3 p0)))]) rfl ?_
 refine c_sr ?_
 refine o_1 (.n) rfl ?_
 refine o_nil (c_sr ?_)
 refine o_1 (.n) rfl ?_
 refine o_nil (c_sr ?_)
 refine o_1 (.i 0) rfl ?_
 refine o_nil (c_block ?_)
 refine c_fuelH (fun (q : (List S_api_Write) × Int) => [(0, .t ((ptT 3 p0))), (3, .t (.own 100 2 (List.map cS_api_Write q.1))), (4, .i q.2), (HK, .hp (hpA w0))]) (fun nl1 => (fun (q : (List S_api_Write) × Int) => m_wal_Log_says_l1 p0 w0 nl1 q.1 q.2 = some r)) (16400) ([], 0) [] h rfl ⟨.inr ⟨_, rfl, pure_hpA _⟩, by (repeat (first | exact ObP.nil | refine ObP.cons (.inl rfl) ?_ | refine ObP.cons (.inr (fun _ => rfl)) ?_ | refine ObP.cons (.inr (ob_box (fl_noPt _ _))) ?_ | refine ObP.cons (.inr (ob_gb _ _)) ?_))⟩ ⟨.r, (.t (.nilOwn _ _)), .r, .r, trivial⟩ rfl ?_
 rintro nl1 ⟨z1, z2⟩ h
 cases nl1 with
 | zero => exact none_ne h
 | succ nl1 =>
  refine c_block (c_sr ?_)
  refine o_of (e := [(8, .t ((ptT 3 p0)))]) (g0 rfl) (h_mv mR (.inl rfl) (cpO_pt rfl) rfl rfl) rfl ?_
  refine o_1 (.i z2) rfl ?_
  obtain ⟨x3, h4, h⟩ := bind_some h
  refine o_of (e := [(10, .tup [.d (.seq 2 (List.map cS_api_Write x3.1)), .i x3.2])]) (g0 rfl) (h_callR mR rfl (σ := []) (fr := []) rfl rfl rfl rfl rfl rfl rfl (fch_wal_Log_one _ _ w0 _ h4) (pure_hpA _) rfl rfl rfl rfl (.cons (argPt rfl) (.cons (.plain .r rfl) .nil)) rfl (.tup (.cons (.flat rfl) (.cons (.flat rfl) .nil)))) rfl ?_
  refine o_m5 (.tup [.d (.seq 2 (List.map cS_api_Write x3.1)), .i x3.2]) (.t (.d (.seq 2 (List.map cS_api_Write x3.1)))) (.i x3.2) (.t (.d (.seq 2 (List.map cS_api_Write x3.1)))) (.i x3.2) rfl ?_
  refine o_nil (c_seq (c_sr ?_))
  refine o_m2 (.i x3.2) (.b (x3.2 == 0)) rfl ?_
  refine o_nil ?_
  rcases bif_some h with ⟨h5, h⟩ | ⟨h5, h⟩
  ·
   refine c_t h5 rfl ?_
   refine c_sr ?_
   refine o_2 (.t (.d (.seq 2 (List.map cS_api_Write z1)))) (.t (.own 100 2 (List.map cS_api_Write z1))) (g0 rfl) rfl rfl rfl ?_
   refine o_2 (.t (.d (.seq 2 (List.map cS_api_Write z1)))) (.t (.own 100 2 (List.map cS_api_Write z1))) (g0 rfl) rfl rfl rfl ?_
   refine o_nil (c_ret ?_)
   obtain rfl := Option.some.inj h
   exact ⟨⟨_, rfl, .r⟩, trivial, rfl⟩
  refine c_f h5 rfl ?_
  refine c_skip (c_sr ?_)
  refine o_2 (.t (.d (.seq 2 (List.map cS_api_Write z1)))) (.t (.own 100 2 (List.map cS_api_Write z1))) (g0 rfl) rfl rfl rfl ?_
  refine o_1 (.t (.d (.seq 2 (List.map cS_api_Write x3.1)))) rfl ?_
  obtain ⟨x6, h7, h⟩ := bind_some h
  refine o_2c (g0 rfl) rfl rfl rfl (appE (c := cS_api_Write) h7) (appC (c := cS_api_Write) h7) ?_
  refine o_2 (.t (.d (.seq 2 (List.map cS_api_Write x6)))) (.t (.own 100 2 (List.map cS_api_Write x6))) (g0 rfl) rfl rfl rfl ?_
  refine o_nil (c_region ?_)
  refine o_m4 (.i z2) (.i x3.2) (.i (wi (z2 + x3.2))) (.i (wi (z2 + x3.2))) rfl ?_
  refine o_nil ?_
  exact ⟨nl1, (x6, (wi (z2 + x3.2))), [], Nat.lt_succ_self nl1, h, rfl, ⟨.inr ⟨_, rfl, pure_hpA _⟩, by (repeat (first | exact ObP.nil | refine ObP.cons (.inl rfl) ?_ | refine ObP.cons (.inr (fun _ => rfl)) ?_ | refine ObP.cons (.inr (ob_box (fl_noPt _ _))) ?_ | refine ObP.cons (.inr (ob_gb _ _)) ?_))⟩, ⟨.r, .r, .r, .r, trivial⟩, rfl⟩
theorem fch_wal_Log_alive (p0 : (Option Nat)) (w0 : Hp) (r : Int) (h : m_wal_Log_alive p0 w0 = some r) : FCH Try.prog 69 [.t ((ptT 3 p0))] [] [] (hpA w0) (hpA w0) (.t (.d (.lit (.int .i64 r)))) := by
 refine fch_mk (rs := [.tmp 2]) (n := 31) [] Try.func69 rfl rfl (Nat.le_of_ble_eq_true rfl) rfl (pins := []) rfl (L := [(HK, .hp (hpA w0)), (0, .t ((ptT 3 p0)))]) rfl ?_
 refine c_sr ?_
 refine o_1 (.i 0) rfl ?_
 refine o_nil (c_seq (c_block ?_))
 refine c_cutH (fun (y1 : Bool) => [(0, .t ((ptT 3 p0))), (3, .b y1), (HK, .hp (hpA w0))]) (fun (y1 : Bool) => m_wal_Log_alive_j1 p0 w0 y1 = some r) ?_ ?_
 ·
  refine c_region ?_
  refine o_of (e := [(4, .t ((ptT 3 p0)))]) (g0 rfl) (h_mv mR (.inl rfl) (cpO_pt rfl) rfl rfl) rfl ?_
  rcases ptM_some h with ⟨h13, h⟩ | ⟨i14, h13, h⟩
  ·
   refine o_of (e := [(5, .b true)]) (g0 rfl) (h_pn mR (ng := false) rfl rfl rfl (pn_none rfl h13) rfl rfl) rfl ?_
   refine o_1 (.b true) rfl ?_
   refine o_skip rfl rfl rfl rfl rfl rfl ?_
   refine o_skip rfl rfl rfl rfl rfl rfl ?_
   refine o_skip rfl rfl rfl rfl rfl rfl ?_
   refine o_skip rfl rfl rfl rfl rfl rfl ?_
   refine o_skip rfl rfl rfl rfl rfl rfl ?_
   refine o_pk (.b true) (b := true) rfl (g0 rfl) rfl rfl rfl rfl rfl ?_
   refine o_1 (.b true) rfl ?_
   refine o_nil ?_
   exact ⟨true, [], h, rfl, ⟨.inr ⟨_, rfl, pure_hpA _⟩, by (repeat (first | exact ObP.nil | refine ObP.cons (.inl rfl) ?_ | refine ObP.cons (.inr (fun _ => rfl)) ?_ | refine ObP.cons (.inr (ob_box (fl_noPt _ _))) ?_ | refine ObP.cons (.inr (ob_gb _ _)) ?_))⟩, ⟨.r, .r, .r, trivial⟩, rfl⟩
  refine o_of (e := [(5, .b false)]) (g0 rfl) (h_pn mR (ng := false) rfl rfl rfl (pn_some rfl h13) rfl rfl) rfl ?_
  refine o_1 (.b false) rfl ?_
  refine o_of (e := [(7, .t (.hpt (cd 3 i14) 0))]) (gy rfl rfl rfl rfl) (h_mv mR (.inl rfl) ((cpO_pt rfl).trans (pt_eq_some h13)) rfl rfl) rfl ?_
  refine o_of (e := [(8, .t (.hpt (cd 3 i14) 0))]) (gy rfl rfl rfl rfl) (h_nc mR rfl rfl rfl rfl rfl) rfl ?_
  refine o_of (e := [(9, .t (.hpt (cd 3 i14) 0))]) (gy rfl rfl rfl rfl) (h_fd mR rfl rfl rfl rfl rfl rfl) rfl ?_
  obtain ⟨x15, h16, h⟩ := bind_some h
  refine o_of (e := [(10, .t ((ptT 1 x15.d_)))]) (gy rfl rfl rfl rfl) (h_ld mR rfl rfl rfl rfl (gl_lg h16) rfl (norH_pt _ _) rfl rfl) rfl ?_
  rcases ptM_some h with ⟨h17, h⟩ | ⟨i18, h17, h⟩
  ·
   refine o_of (e := [(11, .b true)]) (gy rfl rfl rfl rfl) (h_pn mR (ng := false) rfl rfl rfl (pn_none rfl h17) rfl rfl) rfl ?_
   refine o_pk (.b true) (b := false) rfl (g0 rfl) rfl rfl rfl rfl rfl ?_
   refine o_1 (.b true) rfl ?_
   refine o_nil ?_
   exact ⟨true, [], h, rfl, ⟨.inr ⟨_, rfl, pure_hpA _⟩, by (repeat (first | exact ObP.nil | refine ObP.cons (.inl rfl) ?_ | refine ObP.cons (.inr (fun _ => rfl)) ?_ | refine ObP.cons (.inr (ob_box (fl_noPt _ _))) ?_ | refine ObP.cons (.inr (ob_gb _ _)) ?_))⟩, ⟨.r, .r, .r, trivial⟩, rfl⟩
  refine o_of (e := [(11, .b false)]) (gy rfl rfl rfl rfl) (h_pn mR (ng := false) rfl rfl rfl (pn_some rfl h17) rfl rfl) rfl ?_
  refine o_pk (.b false) (b := false) rfl (g0 rfl) rfl rfl rfl rfl rfl ?_
  refine o_1 (.b false) rfl ?_
  refine o_nil ?_
  exact ⟨false, [], h, rfl, ⟨.inr ⟨_, rfl, pure_hpA _⟩, by (repeat (first | exact ObP.nil | refine ObP.cons (.inl rfl) ?_ | refine ObP.cons (.inr (fun _ => rfl)) ?_ | refine ObP.cons (.inr (ob_box (fl_noPt _ _))) ?_ | refine ObP.cons (.inr (ob_gb _ _)) ?_))⟩, ⟨.r, .r, .r, trivial⟩, rfl⟩
 rintro y1 h
 rcases bif_some h with ⟨h2, h⟩ | ⟨h2, h⟩
 ·
  refine c_t h2 rfl ?_
  refine c_sr ?_
  refine o_1 (.i 1) rfl ?_
  refine o_nil (c_ret ?_)
  obtain rfl := Option.some.inj h
  exact ⟨⟨_, rfl, .r⟩, trivial, rfl⟩
 refine c_f h2 rfl ?_
 refine c_seq ?_
 refine c_draw mixed (by kernel_rfl) ?_
 rcases ptM_some h with ⟨h3, h⟩ | ⟨i4, h3, h⟩
 ·
  refine d_h0 [] (e := [(14, .t (.d (.lit (.pointer none))))]) (ks := [14]) rfl (dg0 rfl) rfl rfl (fun S' hM hok => h_mv hM (.inl rfl) ((cpO_pt rfl).trans (pt_eq_none h3)) rfl (hok _ rfl rfl)) rfl ?_
  exact none_ne h
 refine d_h0 [] (e := [(14, .t (.hpt (cd 3 i4) 0))]) (ks := [14]) rfl (dg0 rfl) rfl rfl (fun S' hM hok => h_mv hM (.inl rfl) ((cpO_pt rfl).trans (pt_eq_some h3)) rfl (hok _ rfl rfl)) rfl ?_
 refine d_h0 [] (e := [(15, .t (.hpt (cd 3 i4) 0))]) (ks := [15]) rfl (dg0 rfl) rfl rfl (fun S' hM hok => h_nc hM rfl rfl rfl rfl (hok _ rfl rfl)) rfl ?_
 refine d_h0 [] (e := [(16, .t (.hpt (cd 3 i4) 0))]) (ks := [16]) rfl (dg0 rfl) rfl rfl (fun S' hM hok => h_fd hM rfl rfl rfl rfl rfl (hok _ rfl rfl)) rfl ?_
 obtain ⟨x5, h6, h⟩ := bind_some h
 refine d_h (e := [(17, .t ((ptT 1 x5.d_)))]) (ks := [17]) rfl (dg0 rfl) rfl rfl (fun S' hM hk hok => h_ld hM hk rfl rfl rfl (gl_lg h6) rfl (norH_pt _ _) rfl (hok _ rfl rfl)) rfl ?_
 obtain ⟨x7, h8, h⟩ := bind_some h
 refine d_h (e := [(18, .b x7)]) (ks := [18]) rfl (dg0 rfl) rfl rfl (fun S' hM hk hok => h_callR hM hk (σ := []) (fr := []) rfl rfl rfl (hok _ rfl rfl) rfl rfl rfl (fch_disk_Disk_Off _ w0 _ h8) (pure_hpA _) rfl rfl rfl rfl (.cons (argPt rfl) .nil) rfl (.t (.flat rfl))) rfl ?_
 refine d_s (.b x7) rfl (dg0 rfl) rfl rfl rfl rfl ?_
 rcases bif_some h with ⟨h9, h⟩ | ⟨h9, h⟩
 ·
  refine d_skip rfl rfl rfl rfl rfl h9 rfl rfl rfl ?_
  refine d_skip rfl rfl rfl rfl rfl h9 rfl rfl rfl ?_
  refine d_skip rfl rfl rfl rfl rfl h9 rfl rfl rfl ?_
  refine d_skip rfl rfl rfl rfl rfl h9 rfl rfl rfl ?_
  refine d_skip rfl rfl rfl rfl rfl h9 rfl rfl rfl ?_
  refine d_skip rfl rfl rfl rfl rfl h9 rfl rfl rfl ?_
  refine d_skip rfl rfl rfl rfl rfl h9 rfl rfl rfl ?_
  refine d_skip rfl rfl rfl rfl rfl h9 rfl rfl rfl ?_
  refine d_skip rfl rfl rfl rfl rfl h9 rfl rfl rfl ?_
  refine d_skip rfl rfl rfl rfl rfl h9 rfl rfl rfl ?_
  refine d_pk (.b true) (b := true) h9 rfl (dg0 rfl) rfl rfl rfl rfl rfl rfl ?_
  refine d_s (.b true) rfl (dg0 rfl) rfl rfl rfl rfl ?_
  refine d_nil (by kernel_rfl) ?_
  refine c_t rfl rfl ?_
  refine c_sr ?_
  refine o_1 (.i 30) rfl ?_
  refine o_nil (c_ret ?_)
  obtain rfl := Option.some.inj h
  exact ⟨⟨_, rfl, .r⟩, trivial, rfl⟩
 refine d_h0 [] (e := [(20, .t (.hpt (cd 3 i4) 0))]) (ks := [20]) rfl (dgy rfl rfl rfl rfl h9) rfl rfl (fun S' hM hok => h_mv hM (.inl rfl) ((cpO_pt rfl).trans (pt_eq_some h3)) rfl (hok _ rfl rfl)) rfl ?_
 refine d_h0 [] (e := [(21, .t (.hpt (cd 3 i4) 0))]) (ks := [21]) rfl (dgy rfl rfl rfl rfl h9) rfl rfl (fun S' hM hok => h_nc hM rfl rfl rfl rfl (hok _ rfl rfl)) rfl ?_
 refine d_h0 [] (e := [(22, .t (.hpt (cd 3 i4) 0))]) (ks := [22]) rfl (dgy rfl rfl rfl rfl h9) rfl rfl (fun S' hM hok => h_fd hM rfl rfl rfl rfl rfl (hok _ rfl rfl)) rfl ?_
 refine d_h (e := [(23, .t ((ptT 1 x5.d_)))]) (ks := [23]) rfl (dgy rfl rfl rfl rfl h9) rfl rfl (fun S' hM hk hok => h_ld hM hk rfl rfl rfl (gl_lg h6) rfl (norH_pt _ _) rfl (hok _ rfl rfl)) rfl ?_
 obtain ⟨x10, h11, h⟩ := bind_some h
 refine d_h (e := [(24, .i x10)]) (ks := [24]) rfl (dgy rfl rfl rfl rfl h9) rfl rfl (fun S' hM hk hok => h_callR hM hk (σ := []) (fr := []) rfl rfl rfl (hok _ rfl rfl) rfl rfl rfl (fch_disk_Disk_Lives _ w0 _ h11) (pure_hpA _) rfl rfl rfl rfl (.cons (argPt rfl) .nil) rfl (.t (.flat rfl))) rfl ?_
 refine d_h0 [] (e := [(25, .t (.hpt (cd 3 i4) 0))]) (ks := [25]) rfl (dgy rfl rfl rfl rfl h9) rfl rfl (fun S' hM hok => h_mv hM (.inl rfl) ((cpO_pt rfl).trans (pt_eq_some h3)) rfl (hok _ rfl rfl)) rfl ?_
 refine d_h0 [] (e := [(26, .t (.hpt (cd 3 i4) 0))]) (ks := [26]) rfl (dgy rfl rfl rfl rfl h9) rfl rfl (fun S' hM hok => h_nc hM rfl rfl rfl rfl (hok _ rfl rfl)) rfl ?_
 refine d_h0 [] (e := [(27, .t (.hpt (cd 3 i4) 5))]) (ks := [27]) rfl (dgy rfl rfl rfl rfl h9) rfl rfl (fun S' hM hok => h_fd hM rfl rfl rfl rfl rfl (hok _ rfl rfl)) rfl ?_
 refine d_h (e := [(28, .i x5.life_)]) (ks := [28]) rfl (dgy rfl rfl rfl rfl h9) rfl rfl (fun S' hM hk hok => h_ld hM hk rfl rfl rfl (gl_lg h6) rfl rfl rfl (hok _ rfl rfl)) rfl ?_
 refine d_s (.b (x10 != x5.life_)) rfl (dgy rfl rfl rfl rfl h9) rfl rfl rfl rfl ?_
 refine d_pk (.b (x10 != x5.life_)) (b := false) h9 rfl (dg0 rfl) rfl rfl rfl rfl rfl rfl ?_
 refine d_s (.b (x10 != x5.life_)) rfl (dg0 rfl) rfl rfl rfl rfl ?_
 refine d_nil (by kernel_rfl) ?_
 rcases bif_some h with ⟨h12, h⟩ | ⟨h12, h⟩
 ·
  refine c_t h12 rfl ?_
  refine c_sr ?_
  refine o_1 (.i 30) rfl ?_
  refine o_nil (c_ret ?_)
  obtain rfl := Option.some.inj h
  exact ⟨⟨_, rfl, .r⟩, trivial, rfl⟩
 refine c_f h12 rfl ?_
 refine c_skip (c_sr ?_)
 refine o_1 (.i 0) rfl ?_
 refine o_nil (c_ret ?_)
 obtain rfl := Option.some.inj h
 exact ⟨⟨_, rfl, .r⟩, trivial, rfl⟩
theorem fch_wal_Log_raise (p0 : (Option Nat)) (w0 : Hp) (r : (Int × Hp)) (h : m_wal_Log_raise p0 w0 = some r) : FCH Try.prog 111 [.t ((ptT 3 p0))] [] [] (hpA w0) (hpA r.2) (.t (.d (.lit (.int .i64 r.1)))) := by
 refine fch_mk (rs := [.tmp 2]) (n := 60) [] Try.func111 rfl rfl (Nat.le_of_ble_eq_true rfl) rfl (pins := []) rfl (L := [(HK, .hp (hpA w0)), (0, .t ((ptT 3 p0)))]) rfl ?_
 refine c_sr ?_
 refine o_1 (.i 0) rfl ?_
 refine o_nil (c_sr ?_)
 refine o_of (e := [(6, .t ((ptT 3 p0)))]) (g0 rfl) (h_mv mR (.inl rfl) (cpO_pt rfl) rfl rfl) rfl ?_
 rcases ptM_some h with ⟨h1, h⟩ | ⟨i2, h1, h⟩
 ·
  exact none_ne h
 refine o_of (e := [(7, .t (.hpt (cd 3 i2) 0))]) (g0 rfl) (h_nc mR rfl (cpO_pt rfl) (ptT_some h1) rfl rfl) rfl ?_
 refine o_of (e := [(8, .t (.hpt (cd 3 i2) 3))]) (g0 rfl) (h_fd mR rfl rfl rfl rfl rfl rfl) rfl ?_
 obtain ⟨x3, h4, h⟩ := bind_some h
 refine o_of (e := [(9, .i x3.slot_)]) (g0 rfl) (h_ld mR rfl rfl rfl rfl (gl_lg h4) rfl rfl rfl rfl) rfl ?_
 refine o_m2 (.i (wi (1 - x3.slot_))) (.i (wi (1 - x3.slot_))) rfl ?_
 refine o_nil (c_seq (c_seq ?_))
 refine c_draw mixed (by kernel_rfl) ?_
 refine d_h0 [] (e := [(11, .t (.hpt (cd 3 i2) 0))]) (ks := [11]) rfl (dg0 rfl) rfl rfl (fun S' hM hok => h_mv hM (.inl rfl) ((cpO_pt rfl).trans (pt_eq_some h1)) rfl (hok _ rfl rfl)) rfl ?_
 refine d_h0 [] (e := [(12, .t (.hpt (cd 3 i2) 0))]) (ks := [12]) rfl (dg0 rfl) rfl rfl (fun S' hM hok => h_nc hM rfl rfl rfl rfl (hok _ rfl rfl)) rfl ?_
 refine d_h0 [] (e := [(13, .t (.hpt (cd 3 i2) 0))]) (ks := [13]) rfl (dg0 rfl) rfl rfl (fun S' hM hok => h_fd hM rfl rfl rfl rfl rfl (hok _ rfl rfl)) rfl ?_
 refine d_h (e := [(14, .t ((ptT 1 x3.d_)))]) (ks := [14]) rfl (dg0 rfl) rfl rfl (fun S' hM hk hok => h_ld hM hk rfl rfl rfl (gl_lg h4) rfl (norH_pt _ _) rfl (hok _ rfl rfl)) rfl ?_
 refine d_s (.i (wi (1 - x3.slot_))) rfl (dg0 rfl) rfl rfl rfl rfl ?_
 refine d_h0 [] (e := [(16, .t (.hpt (cd 3 i2) 0))]) (ks := [16]) rfl (dg0 rfl) rfl rfl (fun S' hM hok => h_mv hM (.inl rfl) ((cpO_pt rfl).trans (pt_eq_some h1)) rfl (hok _ rfl rfl)) rfl ?_
 refine d_h0 [] (e := [(17, .t (.hpt (cd 3 i2) 0))]) (ks := [17]) rfl (dg0 rfl) rfl rfl (fun S' hM hok => h_nc hM rfl rfl rfl rfl (hok _ rfl rfl)) rfl ?_
 refine d_h0 [] (e := [(18, .t (.hpt (cd 3 i2) 2))]) (ks := [18]) rfl (dg0 rfl) rfl rfl (fun S' hM hok => h_fd hM rfl rfl rfl rfl rfl (hok _ rfl rfl)) rfl ?_
 refine d_h (e := [(19, .i x3.base_)]) (ks := [19]) rfl (dg0 rfl) rfl rfl (fun S' hM hk hok => h_ld hM hk rfl rfl rfl (gl_lg h4) rfl rfl rfl (hok _ rfl rfl)) rfl ?_
 refine d_h0 [] (e := [(20, .t (.hpt (cd 3 i2) 0))]) (ks := [20]) rfl (dg0 rfl) rfl rfl (fun S' hM hok => h_mv hM (.inl rfl) ((cpO_pt rfl).trans (pt_eq_some h1)) rfl (hok _ rfl rfl)) rfl ?_
 refine d_h0 [] (e := [(21, .t (.hpt (cd 3 i2) 0))]) (ks := [21]) rfl (dg0 rfl) rfl rfl (fun S' hM hok => h_nc hM rfl rfl rfl rfl (hok _ rfl rfl)) rfl ?_
 refine d_h0 [] (e := [(22, .t (.hpt (cd 3 i2) 1))]) (ks := [22]) rfl (dg0 rfl) rfl rfl (fun S' hM hok => h_fd hM rfl rfl rfl rfl rfl (hok _ rfl rfl)) rfl ?_
 refine d_h (e := [(23, .i x3.size_)]) (ks := [23]) rfl (dg0 rfl) rfl rfl (fun S' hM hk hok => h_ld hM hk rfl rfl rfl (gl_lg h4) rfl rfl rfl (hok _ rfl rfl)) rfl ?_
 refine d_s (.i (wi (x3.base_ + x3.size_))) rfl (dg0 rfl) rfl rfl rfl rfl ?_
 refine d_h0 [] (e := [(25, .t (.hpt (cd 3 i2) 0))]) (ks := [25]) rfl (dg0 rfl) rfl rfl (fun S' hM hok => h_mv hM (.inl rfl) ((cpO_pt rfl).trans (pt_eq_some h1)) rfl (hok _ rfl rfl)) rfl ?_
 refine d_h0 [] (e := [(26, .t (.hpt (cd 3 i2) 0))]) (ks := [26]) rfl (dg0 rfl) rfl rfl (fun S' hM hok => h_nc hM rfl rfl rfl rfl (hok _ rfl rfl)) rfl ?_
 refine d_h0 [] (e := [(27, .t (.hpt (cd 3 i2) 1))]) (ks := [27]) rfl (dg0 rfl) rfl rfl (fun S' hM hok => h_fd hM rfl rfl rfl rfl rfl (hok _ rfl rfl)) rfl ?_
 refine d_h (e := [(28, .i x3.size_)]) (ks := [28]) rfl (dg0 rfl) rfl rfl (fun S' hM hk hok => h_ld hM hk rfl rfl rfl (gl_lg h4) rfl rfl rfl (hok _ rfl rfl)) rfl ?_
 obtain ⟨x5, h6, h⟩ := bind_some h
 refine d_h (e := [(29, .y x5)]) (ks := [29]) rfl (dg0 rfl) rfl rfl (fun S' hM hk hok => h_callR hM hk (σ := []) (fr := []) rfl rfl rfl (hok _ rfl rfl) rfl rfl rfl (fch_wal_slotBytes _ _ w0 _ h6) (pure_hpA _) rfl rfl rfl rfl (.cons (.plain .r rfl) (.cons (.plain .r rfl) .nil)) rfl (.t (.flat rfl))) rfl ?_
 obtain ⟨x7, h8, h⟩ := bind_some h
 refine d_h (e := [(HK, .hp (hpA x7.2)), (30, .i x7.1)]) (ks := [HK, 30]) rfl (dg0 rfl) rfl rfl (fun S' hM hk hok => h_call hM hk (σ := []) (fr := []) rfl rfl rfl (hok _ rfl rfl) rfl rfl rfl (fch_disk_Disk_Write _ _ _ w0 _ h8) (pure_hpA _) (pure_hpA _) rfl rfl rfl rfl (.cons (argPt rfl) (.cons (.plain .r rfl) (.cons (.plain .r rfl) .nil))) rfl (.t (.flat rfl))) rfl ?_
 refine d_s (.i x7.1) rfl (dg0 rfl) rfl rfl rfl rfl ?_
 refine d_nil (by kernel_rfl) ?_
 refine c_sr ?_
 refine o_m2 (.i x7.1) (.b (x7.1 != 0)) rfl ?_
 refine o_nil ?_
 rcases bif_some h with ⟨h9, h⟩ | ⟨h9, h⟩
 ·
  refine c_t h9 rfl ?_
  refine c_sr ?_
  refine o_m2 (.i x7.1) (.i x7.1) rfl ?_
  refine o_nil (c_ret ?_)
  obtain rfl := Option.some.inj h
  exact ⟨⟨_, rfl, .r⟩, trivial, rfl⟩
 refine c_f h9 rfl ?_
 refine c_skip (c_seq (c_sr ?_))
 refine o_of (e := [(34, .t (.hpt (cd 3 i2) 0))]) (g0 rfl) (h_mv mR (.inl rfl) ((cpO_pt rfl).trans (pt_eq_some h1)) rfl rfl) rfl ?_
 refine o_of (e := [(35, .t (.hpt (cd 3 i2) 0))]) (g0 rfl) (h_nc mR rfl rfl rfl rfl rfl) rfl ?_
 refine o_of (e := [(36, .t (.hpt (cd 3 i2) 0))]) (g0 rfl) (h_fd mR rfl rfl rfl rfl rfl rfl) rfl ?_
 obtain ⟨x10, h11, h⟩ := bind_some h
 refine o_of (e := [(37, .t ((ptT 1 x10.d_)))]) (g0 rfl) (h_ld mR rfl rfl rfl rfl (gl_lg h11) rfl (norH_pt _ _) rfl rfl) rfl ?_
 obtain ⟨x12, h13, h⟩ := bind_some h
 refine o_of (e := [(HK, .hp (hpA x12.2)), (38, .i x12.1)]) (g0 rfl) (h_call mR rfl (σ := []) (fr := []) rfl rfl rfl rfl rfl rfl rfl (fch_disk_Disk_Flush _ x7.2 _ h13) (pure_hpA _) (pure_hpA _) rfl rfl rfl rfl (.cons (argPt rfl) .nil) rfl (.t (.flat rfl))) rfl ?_
 refine o_1 (.i x12.1) rfl ?_
 refine o_nil (c_sr ?_)
 refine o_m2 (.i x12.1) (.b (x12.1 != 0)) rfl ?_
 refine o_nil ?_
 rcases bif_some h with ⟨h14, h⟩ | ⟨h14, h⟩
 ·
  refine c_t h14 rfl ?_
  refine c_sr ?_
  refine o_m2 (.i x12.1) (.i x12.1) rfl ?_
  refine o_nil (c_ret ?_)
  obtain rfl := Option.some.inj h
  exact ⟨⟨_, rfl, .r⟩, trivial, rfl⟩
 refine c_f h14 rfl ?_
 refine c_skip (c_sr ?_)
 refine o_of (e := [(42, .t (.hpt (cd 3 i2) 0))]) (g0 rfl) (h_mv mR (.inl rfl) ((cpO_pt rfl).trans (pt_eq_some h1)) rfl rfl) rfl ?_
 refine o_of (e := [(43, .t (.hpt (cd 3 i2) 0))]) (g0 rfl) (h_mv mR (.inl rfl) ((cpO_pt rfl).trans (pt_eq_some h1)) rfl rfl) rfl ?_
 refine o_1 (.i (wi (1 - x3.slot_))) rfl ?_
 refine o_of (e := [(45, .t (.hpt (cd 3 i2) 0))]) (g0 rfl) (h_nc mR rfl rfl rfl rfl rfl) rfl ?_
 refine o_of (e := [(46, .t (.hpt (cd 3 i2) 3))]) (g0 rfl) (h_fd mR rfl rfl rfl rfl rfl rfl) rfl ?_
 obtain ⟨x15, h16, h⟩ := bind_some h
 refine o_of (e := [(HK, .hp (hpA (x12.2.st_lg i2 (S_wal_Log.mk x15.d_ x15.size_ x15.base_ (wi (1 - x3.slot_)) x15.used_ x15.life_ x15.commits_))))]) (g0 rfl) (h_st mR rfl rfl rfl rfl rfl (gl_lg h16) rfl rfl (Nat.le_of_ble_eq_true rfl) rfl (su_lg (x' := (S_wal_Log.mk x15.d_ x15.size_ x15.base_ (wi (1 - x3.slot_)) x15.used_ x15.life_ x15.commits_)) h16)) rfl ?_
 refine o_of (e := [(47, .t (.hpt (cd 3 i2) 0))]) (g0 rfl) (h_nc mR rfl rfl rfl rfl rfl) rfl ?_
 refine o_of (e := [(48, .t (.hpt (cd 3 i2) 4))]) (g0 rfl) (h_fd mR rfl rfl rfl rfl rfl rfl) rfl ?_
 refine o_of (e := [(HK, .hp (hpA ((x12.2.st_lg i2 (S_wal_Log.mk x15.d_ x15.size_ x15.base_ (wi (1 - x3.slot_)) x15.used_ x15.life_ x15.commits_)).st_lg i2 (S_wal_Log.mk x15.d_ x15.size_ x15.base_ (wi (1 - x3.slot_)) 0 x15.life_ x15.commits_))))]) (g0 rfl) (h_st mR rfl rfl rfl rfl rfl (gl_lg (set_get h16)) rfl rfl (Nat.le_of_ble_eq_true rfl) rfl (su_lg (x' := (S_wal_Log.mk x15.d_ x15.size_ x15.base_ (wi (1 - x3.slot_)) 0 x15.life_ x15.commits_)) (set_get h16))) rfl ?_
 refine o_nil (c_seq ?_)
 refine c_draw mixed (by kernel_rfl) ?_
 refine d_h0 [] (e := [(49, .t (.hpt (cd 3 i2) 0))]) (ks := [49]) rfl (dg0 rfl) rfl rfl (fun S' hM hok => h_mv hM (.inl rfl) ((cpO_pt rfl).trans (pt_eq_some h1)) rfl (hok _ rfl rfl)) rfl ?_
 refine d_h0 [] (e := [(50, .t (.hpt (cd 3 i2) 0))]) (ks := [50]) rfl (dg0 rfl) rfl rfl (fun S' hM hok => h_nc hM rfl rfl rfl rfl (hok _ rfl rfl)) rfl ?_
 refine d_h0 [] (e := [(51, .t (.hpt (cd 3 i2) 2))]) (ks := [51]) rfl (dg0 rfl) rfl rfl (fun S' hM hok => h_fd hM rfl rfl rfl rfl rfl (hok _ rfl rfl)) rfl ?_
 refine d_h (e := [(52, .i ((S_wal_Log.mk x15.d_ x15.size_ x15.base_ (wi (1 - x3.slot_)) 0 x15.life_ x15.commits_).base_))]) (ks := [52]) rfl (dg0 rfl) rfl rfl (fun S' hM hk hok => h_ld hM hk rfl rfl rfl (gl_lg (set_get (set_get h16))) rfl rfl rfl (hok _ rfl rfl)) rfl ?_
 refine d_h0 [] (e := [(53, .t (.hpt (cd 3 i2) 0))]) (ks := [53]) rfl (dg0 rfl) rfl rfl (fun S' hM hok => h_mv hM (.inl rfl) ((cpO_pt rfl).trans (pt_eq_some h1)) rfl (hok _ rfl rfl)) rfl ?_
 refine d_h0 [] (e := [(54, .t (.hpt (cd 3 i2) 0))]) (ks := [54]) rfl (dg0 rfl) rfl rfl (fun S' hM hok => h_nc hM rfl rfl rfl rfl (hok _ rfl rfl)) rfl ?_
 refine d_h0 [] (e := [(55, .t (.hpt (cd 3 i2) 1))]) (ks := [55]) rfl (dg0 rfl) rfl rfl (fun S' hM hok => h_fd hM rfl rfl rfl rfl rfl (hok _ rfl rfl)) rfl ?_
 refine d_h (e := [(56, .i ((S_wal_Log.mk x15.d_ x15.size_ x15.base_ (wi (1 - x3.slot_)) 0 x15.life_ x15.commits_).size_))]) (ks := [56]) rfl (dg0 rfl) rfl rfl (fun S' hM hk hok => h_ld hM hk rfl rfl rfl (gl_lg (set_get (set_get h16))) rfl rfl rfl (hok _ rfl rfl)) rfl ?_
 refine d_s (.i (wi (((S_wal_Log.mk x15.d_ x15.size_ x15.base_ (wi (1 - x3.slot_)) 0 x15.life_ x15.commits_).base_) + ((S_wal_Log.mk x15.d_ x15.size_ x15.base_ (wi (1 - x3.slot_)) 0 x15.life_ x15.commits_).size_)))) rfl (dg0 rfl) rfl rfl rfl rfl ?_
 refine d_h0 [] (e := [(58, .t (.hpt (cd 3 i2) 0))]) (ks := [58]) rfl (dg0 rfl) rfl rfl (fun S' hM hok => h_nc hM rfl rfl rfl rfl (hok _ rfl rfl)) rfl ?_
 refine d_h0 [] (e := [(59, .t (.hpt (cd 3 i2) 2))]) (ks := [59]) rfl (dg0 rfl) rfl rfl (fun S' hM hok => h_fd hM rfl rfl rfl rfl rfl (hok _ rfl rfl)) rfl ?_
 refine d_h (e := [(HK, .hp (hpA (((x12.2.st_lg i2 (S_wal_Log.mk x15.d_ x15.size_ x15.base_ (wi (1 - x3.slot_)) x15.used_ x15.life_ x15.commits_)).st_lg i2 (S_wal_Log.mk x15.d_ x15.size_ x15.base_ (wi (1 - x3.slot_)) 0 x15.life_ x15.commits_)).st_lg i2 (S_wal_Log.mk x15.d_ x15.size_ (wi (((S_wal_Log.mk x15.d_ x15.size_ x15.base_ (wi (1 - x3.slot_)) 0 x15.life_ x15.commits_).base_) + ((S_wal_Log.mk x15.d_ x15.size_ x15.base_ (wi (1 - x3.slot_)) 0 x15.life_ x15.commits_).size_))) (wi (1 - x3.slot_)) 0 x15.life_ x15.commits_))))]) (ks := [HK]) rfl (dg0 rfl) rfl rfl (fun S' hM hk hok => h_st hM hk rfl rfl rfl rfl (gl_lg (set_get (set_get h16))) rfl rfl (Nat.le_of_ble_eq_true rfl) rfl (su_lg (x' := (S_wal_Log.mk x15.d_ x15.size_ (wi (((S_wal_Log.mk x15.d_ x15.size_ x15.base_ (wi (1 - x3.slot_)) 0 x15.life_ x15.commits_).base_) + ((S_wal_Log.mk x15.d_ x15.size_ x15.base_ (wi (1 - x3.slot_)) 0 x15.life_ x15.commits_).size_))) (wi (1 - x3.slot_)) 0 x15.life_ x15.commits_)) (set_get (set_get h16)))) rfl ?_
 refine d_nil (by kernel_rfl) ?_
 refine c_sr ?_
 refine o_1 (.i 0) rfl ?_
 refine o_nil (c_ret ?_)
 obtain rfl := Option.some.inj h
 exact ⟨⟨_, rfl, .r⟩, trivial, rfl⟩
theorem fch_wal_Log_Checkpoint (p0 : (Option Nat)) (w0 : Hp) (r : (Int × Hp)) (h : m_wal_Log_Checkpoint p0 w0 = some r) : FCH Try.prog 68 [.t ((ptT 3 p0))] [] [] (hpA w0) (hpA r.2) (.t (.d (.lit (.int .i64 r.1)))) := by
 refine fch_mk (rs := [.tmp 2]) (n := 30) [] Try.func68 rfl rfl (Nat.le_of_ble_eq_true rfl) rfl (pins := []) rfl (L := [(HK, .hp (hpA w0)), (0, .t ((ptT 3 p0)))]) rfl ?_
 refine c_sr ?_
 refine o_1 (.i 0) rfl ?_
 refine o_nil (c_seq (c_sr ?_))
 refine o_of (e := [(5, .t ((ptT 3 p0)))]) (g0 rfl) (h_mv mR (.inl rfl) (cpO_pt rfl) rfl rfl) rfl ?_
 obtain ⟨x1, h2, h⟩ := bind_some h
 refine o_of (e := [(6, .i x1)]) (g0 rfl) (h_callR mR rfl (σ := []) (fr := []) rfl rfl rfl rfl rfl rfl rfl (fch_wal_Log_alive _ w0 _ h2) (pure_hpA _) rfl rfl rfl rfl (.cons (argPt rfl) .nil) rfl (.t (.flat rfl))) rfl ?_
 refine o_1 (.i x1) rfl ?_
 refine o_nil (c_sr ?_)
 refine o_m2 (.i x1) (.b (x1 != 0)) rfl ?_
 refine o_nil ?_
 rcases bif_some h with ⟨h3, h⟩ | ⟨h3, h⟩
 ·
  refine c_t h3 rfl ?_
  refine c_sr ?_
  refine o_m2 (.i x1) (.i x1) rfl ?_
  refine o_nil (c_ret ?_)
  obtain rfl := Option.some.inj h
  exact ⟨⟨_, rfl, .r⟩, trivial, rfl⟩
 refine c_f h3 rfl ?_
 refine c_skip (c_seq (c_seq ?_))
 refine c_draw mixed (by kernel_rfl) ?_
 rcases ptM_some h with ⟨h4, h⟩ | ⟨i5, h4, h⟩
 ·
  refine d_h0 [] (e := [(10, .t (.d (.lit (.pointer none))))]) (ks := [10]) rfl (dg0 rfl) rfl rfl (fun S' hM hok => h_mv hM (.inl rfl) ((cpO_pt rfl).trans (pt_eq_none h4)) rfl (hok _ rfl rfl)) rfl ?_
  exact none_ne h
 refine d_h0 [] (e := [(10, .t (.hpt (cd 3 i5) 0))]) (ks := [10]) rfl (dg0 rfl) rfl rfl (fun S' hM hok => h_mv hM (.inl rfl) ((cpO_pt rfl).trans (pt_eq_some h4)) rfl (hok _ rfl rfl)) rfl ?_
 refine d_h0 [] (e := [(11, .t (.hpt (cd 3 i5) 0))]) (ks := [11]) rfl (dg0 rfl) rfl rfl (fun S' hM hok => h_nc hM rfl rfl rfl rfl (hok _ rfl rfl)) rfl ?_
 refine d_h0 [] (e := [(12, .t (.hpt (cd 3 i5) 2))]) (ks := [12]) rfl (dg0 rfl) rfl rfl (fun S' hM hok => h_fd hM rfl rfl rfl rfl rfl (hok _ rfl rfl)) rfl ?_
 obtain ⟨x6, h7, h⟩ := bind_some h
 refine d_h (e := [(13, .i x6.base_)]) (ks := [13]) rfl (dg0 rfl) rfl rfl (fun S' hM hk hok => h_ld hM hk rfl rfl rfl (gl_lg h7) rfl rfl rfl (hok _ rfl rfl)) rfl ?_
 refine d_h0 [] (e := [(14, .t (.hpt (cd 3 i5) 0))]) (ks := [14]) rfl (dg0 rfl) rfl rfl (fun S' hM hok => h_mv hM (.inl rfl) ((cpO_pt rfl).trans (pt_eq_some h4)) rfl (hok _ rfl rfl)) rfl ?_
 refine d_h0 [] (e := [(15, .t (.hpt (cd 3 i5) 0))]) (ks := [15]) rfl (dg0 rfl) rfl rfl (fun S' hM hok => h_nc hM rfl rfl rfl rfl (hok _ rfl rfl)) rfl ?_
 refine d_h0 [] (e := [(16, .t (.hpt (cd 3 i5) 1))]) (ks := [16]) rfl (dg0 rfl) rfl rfl (fun S' hM hok => h_fd hM rfl rfl rfl rfl rfl (hok _ rfl rfl)) rfl ?_
 refine d_h (e := [(17, .i x6.size_)]) (ks := [17]) rfl (dg0 rfl) rfl rfl (fun S' hM hk hok => h_ld hM hk rfl rfl rfl (gl_lg h7) rfl rfl rfl (hok _ rfl rfl)) rfl ?_
 refine d_s (.i (wi (2305843009213693952 - x6.size_))) rfl (dg0 rfl) rfl rfl rfl rfl ?_
 refine d_s (.b (decide (x6.base_ > (wi (2305843009213693952 - x6.size_))))) rfl (dg0 rfl) rfl rfl rfl rfl ?_
 refine d_nil (by kernel_rfl) ?_
 rcases bif_some h with ⟨h8, h⟩ | ⟨h8, h⟩
 ·
  refine c_t h8 rfl ?_
  refine c_sr ?_
  refine o_1 (.i 3) rfl ?_
  refine o_nil (c_ret ?_)
  obtain rfl := Option.some.inj h
  exact ⟨⟨_, rfl, .r⟩, trivial, rfl⟩
 refine c_f h8 rfl ?_
 refine c_skip (c_seq (c_sr ?_))
 refine o_of (e := [(20, .t (.hpt (cd 3 i5) 0))]) (g0 rfl) (h_mv mR (.inl rfl) ((cpO_pt rfl).trans (pt_eq_some h4)) rfl rfl) rfl ?_
 refine o_of (e := [(21, .t (.hpt (cd 3 i5) 0))]) (g0 rfl) (h_nc mR rfl rfl rfl rfl rfl) rfl ?_
 refine o_of (e := [(22, .t (.hpt (cd 3 i5) 0))]) (g0 rfl) (h_fd mR rfl rfl rfl rfl rfl rfl) rfl ?_
 refine o_of (e := [(23, .t ((ptT 1 x6.d_)))]) (g0 rfl) (h_ld mR rfl rfl rfl rfl (gl_lg h7) rfl (norH_pt _ _) rfl rfl) rfl ?_
 obtain ⟨x9, h10, h⟩ := bind_some h
 refine o_of (e := [(HK, .hp (hpA x9.2)), (24, .i x9.1)]) (g0 rfl) (h_call mR rfl (σ := []) (fr := []) rfl rfl rfl rfl rfl rfl rfl (fch_disk_Disk_Flush _ w0 _ h10) (pure_hpA _) (pure_hpA _) rfl rfl rfl rfl (.cons (argPt rfl) .nil) rfl (.t (.flat rfl))) rfl ?_
 refine o_1 (.i x9.1) rfl ?_
 refine o_nil (c_sr ?_)
 refine o_m2 (.i x9.1) (.b (x9.1 != 0)) rfl ?_
 refine o_nil ?_
 rcases bif_some h with ⟨h11, h⟩ | ⟨h11, h⟩
 ·
  refine c_t h11 rfl ?_
  refine c_sr ?_
  refine o_m2 (.i x9.1) (.i x9.1) rfl ?_
  refine o_nil (c_ret ?_)
  obtain rfl := Option.some.inj h
  exact ⟨⟨_, rfl, .r⟩, trivial, rfl⟩
 refine c_f h11 rfl ?_
 refine c_skip (c_sr ?_)
 refine o_of (e := [(28, .t (.hpt (cd 3 i5) 0))]) (g0 rfl) (h_mv mR (.inl rfl) ((cpO_pt rfl).trans (pt_eq_some h4)) rfl rfl) rfl ?_
 obtain ⟨x12, h13, h⟩ := bind_some h
 refine o_of (e := [(HK, .hp (hpA x12.2)), (29, .i x12.1)]) (g0 rfl) (h_call mR rfl (σ := []) (fr := []) rfl rfl rfl rfl rfl rfl rfl (fch_wal_Log_raise _ x9.2 _ h13) (pure_hpA _) (pure_hpA _) rfl rfl rfl rfl (.cons (.hpt _ _) .nil) rfl (.t (.flat rfl))) rfl ?_
 refine o_1 (.i x12.1) rfl ?_
 refine o_nil (c_ret ?_)
 obtain rfl := Option.some.inj h
 exact ⟨⟨_, rfl, .r⟩, trivial, rfl⟩
theorem fch_wal_Open (p0 : (Option Nat)) (w0 : Hp) (r : ((Option Nat) × Int × Hp)) (h : m_wal_Open p0 w0 = some r) : FCH Try.prog 14 [.t ((ptT 1 p0))] [] [] (hpA w0) (hpA r.2.2) (.tup [(ptT 3 r.1), .d (.lit (.int .i64 r.2.1))]) := by
 refine fch_mk (rs := [.tmp 2, .tmp 3]) (n := 83) [] Try.func14 rfl rfl (Nat.le_of_ble_eq_true rfl) rfl (pins := []) rfl (L := [(HK, .hp (hpA w0)), (0, .t ((ptT 1 p0)))]) rfl ?_
 refine c_sr ?_
 refine o_of (e := [(2, .t (.d (.lit (.pointer none))))]) (g0 rfl) (h_mv mR (.inr rfl) rfl rfl rfl) rfl ?_
 refine o_1 (.i 0) rfl ?_
 refine o_nil (c_seq (c_block (c_sr ?_)))
 refine o_of (e := [(12, .t ((ptT 1 p0)))]) (g0 rfl) (h_mv mR (.inl rfl) (cpO_pt rfl) rfl rfl) rfl ?_
 obtain ⟨x1, h2, h⟩ := bind_some h
 refine o_of (e := [(13, .i x1)]) (g0 rfl) (h_callR mR rfl (σ := []) (fr := []) rfl rfl rfl rfl rfl rfl rfl (fch_disk_Disk_Size _ w0 _ h2) (pure_hpA _) rfl rfl rfl rfl (.cons (argPt rfl) .nil) rfl (.t (.flat rfl))) rfl ?_
 refine o_m2 (.b (x1 == 0)) (.b (x1 == 0)) rfl ?_
 refine o_nil ?_
 rcases bif_some h with ⟨h3, h⟩ | ⟨h3, h⟩
 ·
  refine c_t h3 rfl ?_
  refine c_sr ?_
  refine o_of (e := [(2, .t (.d (.lit (.pointer none))))]) (g0 rfl) (h_mv mR (.inr rfl) rfl rfl rfl) rfl ?_
  refine o_1 (.i 1) rfl ?_
  refine o_nil (c_ret ?_)
  obtain rfl := Option.some.inj h
  exact ⟨⟨_, rfl, (.tup (.cons .r (.cons .r .nil)))⟩, trivial, rfl⟩
 refine c_f h3 rfl ?_
 refine c_sr ?_
 refine o_of (e := [(16, .t ((ptT 1 p0)))]) (g0 rfl) (h_mv mR (.inl rfl) (cpO_pt rfl) rfl rfl) rfl ?_
 obtain ⟨x4, h5, h⟩ := bind_some h
 refine o_of (e := [(17, .b x4)]) (g0 rfl) (h_callR mR rfl (σ := []) (fr := []) rfl rfl rfl rfl rfl rfl rfl (fch_disk_Disk_Off _ w0 _ h5) (pure_hpA _) rfl rfl rfl rfl (.cons (argPt rfl) .nil) rfl (.t (.flat rfl))) rfl ?_
 refine o_1 (.b x4) rfl ?_
 refine o_nil ?_
 rcases bif_some h with ⟨h6, h⟩ | ⟨h6, h⟩
 ·
  refine c_t h6 rfl ?_
  refine c_sr ?_
  refine o_of (e := [(2, .t (.d (.lit (.pointer none))))]) (g0 rfl) (h_mv mR (.inr rfl) rfl rfl rfl) rfl ?_
  refine o_1 (.i 30) rfl ?_
  refine o_nil (c_ret ?_)
  obtain rfl := Option.some.inj h
  exact ⟨⟨_, rfl, (.tup (.cons .r (.cons .r .nil)))⟩, trivial, rfl⟩
 refine c_f h6 rfl ?_
 refine c_skip (c_sr ?_)
 rcases ptM_some h with ⟨h7, h⟩ | ⟨i8, h7, h⟩
 ·
  refine o_of (e := [(18, .t (.d (.lit (.pointer none))))]) (g0 rfl) (h_mv mR (.inl rfl) ((cpO_pt rfl).trans (pt_eq_none h7)) rfl rfl) rfl ?_
  refine o_of (e := [(19, .t (.d (.lit (.pointer none))))]) (g0 rfl) (h_mv mR (.inl rfl) ((cpO_pt rfl).trans (pt_eq_none h7)) rfl rfl) rfl ?_
  obtain ⟨x9, h10, h⟩ := bind_some h
  refine o_of (e := [(20, .i x9)]) (g0 rfl) (h_callR mR rfl (σ := []) (fr := []) rfl rfl rfl rfl rfl rfl rfl (fch_disk_Disk_Lives _ w0 _ h10) (pure_hpA _) rfl rfl rfl rfl (.cons (.plain .r rfl) .nil) rfl (.t (.flat rfl))) rfl ?_
  refine o_of (e := [(21, .ag [.d (.lit (.pointer none)), .i 0, .i 0, .i 0, .i 0, .i x9, .i 0])]) (g0 rfl) (h_bd mR rfl rfl rfl rfl) rfl ?_
  refine o_of (e := [(HK, .hp (hpA (w0.nw_lg (S_wal_Log.mk none 0 0 0 0 x9 0)))), (22, .t (.hpt (cd 3 w0.ln_lg) 0))]) (g0 rfl) (h_box mR rfl rfl rfl rfl rfl (fr_lg _) (nw_lg _ (S_wal_Log.mk none 0 0 0 0 x9 0))) rfl ?_
  refine o_of (e := [(4, .t (.hpt (cd 3 w0.ln_lg) 0))]) (g0 rfl) (h_mv mR (.inr rfl) rfl rfl rfl) rfl ?_
  refine o_nil ?_
  refine c_cutH (fun (y11 : Hp) => [(4, .t (.hpt (cd 3 w0.ln_lg) 0)), (HK, .hp (hpA y11))]) (fun (y11 : Hp) => m_wal_Open_j1 w0 y11 = some r) ?_ ?_
  ·
   refine c_sr ?_
   refine o_1 (.i 0) rfl ?_
   refine o_nil (c_block ?_)
   refine c_fuelH (fun (q : Int × Hp) => [(0, .t ((ptT 1 p0))), (4, .t (.hpt (cd 3 w0.ln_lg) 0)), (23, .i q.1), (HK, .hp (hpA q.2))]) (fun nl2 => (fun (q : Int × Hp) => m_wal_Open_l2 w0 nl2 q.1 q.2 = some r)) (Int.toNat 2 + 1) (0, (w0.nw_lg (S_wal_Log.mk none 0 0 0 0 x9 0))) [] h rfl ⟨.inr ⟨_, rfl, pure_hpA _⟩, by (repeat (first | exact ObP.nil | refine ObP.cons (.inl rfl) ?_ | refine ObP.cons (.inr (fun _ => rfl)) ?_ | refine ObP.cons (.inr (ob_box (fl_noPt _ _))) ?_ | refine ObP.cons (.inr (ob_gb _ _)) ?_))⟩ ⟨.r, .r, .r, .r, trivial⟩ rfl ?_
   rintro nl2 ⟨z24, z25⟩ h
   cases nl2 with
   | zero => exact none_ne h
   | succ nl2 =>
    refine c_sr ?_
    refine o_1 (.b (decide (z24 < 2))) rfl ?_
    refine o_nil (c_seq ?_)
    rcases bif_some h with ⟨h26, h⟩ | ⟨h26, h⟩
    ·
     refine c_t h26 rfl ?_
     refine c_skip (c_seq (c_block (c_sr ?_)))
     refine o_m2 (.i z24) (.i z24) rfl ?_
     refine o_nil (c_sr ?_)
     refine o_of (e := [(27, .t (.d (.lit (.pointer none))))]) (g0 rfl) (h_mv mR (.inl rfl) ((cpO_pt rfl).trans (pt_eq_none h7)) rfl rfl) rfl ?_
     refine o_1 (.i z24) rfl ?_
     obtain ⟨x27, h28, h⟩ := bind_some h
     refine o_of (e := [(29, .tup [.i x27.1, .i x27.2.1, .b x27.2.2])]) (g0 rfl) (h_callR mR rfl (σ := []) (fr := []) rfl rfl rfl rfl rfl rfl rfl (fch_wal_readSlot _ _ z25 _ h28) (pure_hpA _) rfl rfl rfl rfl (.cons (.plain .r rfl) (.cons (.plain .r rfl) .nil)) rfl (.tup (.cons (.flat rfl) (.cons (.flat rfl) (.cons (.flat rfl) .nil))))) rfl ?_
     refine o_m7 (.tup [.i x27.1, .i x27.2.1, .b x27.2.2]) (.i x27.1) (.i x27.2.1) (.b x27.2.2) (.i x27.1) (.i x27.2.1) (.b x27.2.2) rfl ?_
     refine o_nil ?_
     refine c_cutH (fun (y29 : Bool) => [(0, .t ((ptT 1 p0))), (4, .t (.hpt (cd 3 w0.ln_lg) 0)), (5, .i z24), (6, .i x27.1), (7, .i x27.2.1), (23, .i z24), (41, .b y29), (HK, .hp (hpA z25))]) (fun (y29 : Bool) => m_wal_Open_j3 (m_wal_Open_l2 w0 nl2) z25 w0 z24 x27 y29 = some r) ?_ ?_
     ·
      refine c_region ?_
      refine o_m2 (.b x27.2.2) (.b x27.2.2) rfl ?_
      rcases bif_some h with ⟨h33, h⟩ | ⟨h33, h⟩
      ·
       refine o_s (.i x27.1) (gy rfl rfl rfl h33) rfl rfl rfl ?_
       refine o_of (e := [(36, .t (.hpt (cd 3 w0.ln_lg) 0))]) (gy rfl rfl rfl h33) (h_mv mR (.inl rfl) rfl rfl rfl) rfl ?_
       refine o_of (e := [(37, .t (.hpt (cd 3 w0.ln_lg) 0))]) (gy rfl rfl rfl h33) (h_nc mR rfl rfl rfl rfl rfl) rfl ?_
       refine o_of (e := [(38, .t (.hpt (cd 3 w0.ln_lg) 2))]) (gy rfl rfl rfl h33) (h_fd mR rfl rfl rfl rfl rfl rfl) rfl ?_
       obtain ⟨x34, h35, h⟩ := bind_some h
       refine o_of (e := [(39, .i x34.base_)]) (gy rfl rfl rfl h33) (h_ld mR rfl rfl rfl rfl (gl_lg h35) rfl rfl rfl rfl) rfl ?_
       refine o_s (.b (decide (x27.1 > x34.base_))) (gy rfl rfl rfl h33) rfl rfl rfl ?_
       refine o_pk (.b (decide (x27.1 > x34.base_))) (b := true) h33 (g0 rfl) rfl rfl rfl rfl rfl ?_
       refine o_nil ?_
       exact ⟨(decide (x27.1 > x34.base_)), [], h, rfl, ⟨.inr ⟨_, rfl, pure_hpA _⟩, by (repeat (first | exact ObP.nil | refine ObP.cons (.inl rfl) ?_ | refine ObP.cons (.inr (fun _ => rfl)) ?_ | refine ObP.cons (.inr (ob_box (fl_noPt _ _))) ?_ | refine ObP.cons (.inr (ob_gb _ _)) ?_))⟩, ⟨.r, .r, .r, .r, .r, .r, .r, .r, trivial⟩, rfl⟩
      refine o_skip rfl rfl rfl h33 rfl rfl ?_
      refine o_skip rfl rfl rfl h33 rfl rfl ?_
      refine o_skip rfl rfl rfl h33 rfl rfl ?_
      refine o_skip rfl rfl rfl h33 rfl rfl ?_
      refine o_skip rfl rfl rfl h33 rfl rfl ?_
      refine o_skip rfl rfl rfl h33 rfl rfl ?_
      refine o_pk (.b false) (b := false) h33 (g0 rfl) rfl rfl rfl rfl rfl ?_
      refine o_nil ?_
      exact ⟨false, [], h, rfl, ⟨.inr ⟨_, rfl, pure_hpA _⟩, by (repeat (first | exact ObP.nil | refine ObP.cons (.inl rfl) ?_ | refine ObP.cons (.inr (fun _ => rfl)) ?_ | refine ObP.cons (.inr (ob_box (fl_noPt _ _))) ?_ | refine ObP.cons (.inr (ob_gb _ _)) ?_))⟩, ⟨.r, .r, .r, .r, .r, .r, .r, .r, trivial⟩, rfl⟩
     rintro y29 h
     rcases bif_some h with ⟨h30, h⟩ | ⟨h30, h⟩
     ·
      refine c_t h30 rfl ?_
      refine c_region ?_
      refine o_of (e := [(42, .t (.hpt (cd 3 w0.ln_lg) 0))]) (g0 rfl) (h_mv mR (.inl rfl) rfl rfl rfl) rfl ?_
      refine o_of (e := [(43, .t (.hpt (cd 3 w0.ln_lg) 0))]) (g0 rfl) (h_mv mR (.inl rfl) rfl rfl rfl) rfl ?_
      refine o_of (e := [(44, .t (.hpt (cd 3 w0.ln_lg) 0))]) (g0 rfl) (h_mv mR (.inl rfl) rfl rfl rfl) rfl ?_
      refine o_m3 (.i x27.1) (.i x27.2.1) (.i z24) rfl ?_
      refine o_of (e := [(48, .t (.hpt (cd 3 w0.ln_lg) 0))]) (g0 rfl) (h_nc mR rfl rfl rfl rfl rfl) rfl ?_
      refine o_of (e := [(49, .t (.hpt (cd 3 w0.ln_lg) 2))]) (g0 rfl) (h_fd mR rfl rfl rfl rfl rfl rfl) rfl ?_
      obtain ⟨x31, h32, h⟩ := bind_some h
      refine o_of (e := [(HK, .hp (hpA (z25.st_lg w0.ln_lg (S_wal_Log.mk x31.d_ x31.size_ x27.1 x31.slot_ x31.used_ x31.life_ x31.commits_))))]) (g0 rfl) (h_st mR rfl rfl rfl rfl rfl (gl_lg h32) rfl rfl (Nat.le_of_ble_eq_true rfl) rfl (su_lg (x' := (S_wal_Log.mk x31.d_ x31.size_ x27.1 x31.slot_ x31.used_ x31.life_ x31.commits_)) h32)) rfl ?_
      refine o_of (e := [(50, .t (.hpt (cd 3 w0.ln_lg) 0))]) (g0 rfl) (h_nc mR rfl rfl rfl rfl rfl) rfl ?_
      refine o_of (e := [(51, .t (.hpt (cd 3 w0.ln_lg) 1))]) (g0 rfl) (h_fd mR rfl rfl rfl rfl rfl rfl) rfl ?_
      refine o_of (e := [(HK, .hp (hpA ((z25.st_lg w0.ln_lg (S_wal_Log.mk x31.d_ x31.size_ x27.1 x31.slot_ x31.used_ x31.life_ x31.commits_)).st_lg w0.ln_lg (S_wal_Log.mk x31.d_ x27.2.1 x27.1 x31.slot_ x31.used_ x31.life_ x31.commits_))))]) (g0 rfl) (h_st mR rfl rfl rfl rfl rfl (gl_lg (set_get h32)) rfl rfl (Nat.le_of_ble_eq_true rfl) rfl (su_lg (x' := (S_wal_Log.mk x31.d_ x27.2.1 x27.1 x31.slot_ x31.used_ x31.life_ x31.commits_)) (set_get h32))) rfl ?_
      refine o_of (e := [(52, .t (.hpt (cd 3 w0.ln_lg) 0))]) (g0 rfl) (h_nc mR rfl rfl rfl rfl rfl) rfl ?_
      refine o_of (e := [(53, .t (.hpt (cd 3 w0.ln_lg) 3))]) (g0 rfl) (h_fd mR rfl rfl rfl rfl rfl rfl) rfl ?_
      refine o_of (e := [(HK, .hp (hpA (((z25.st_lg w0.ln_lg (S_wal_Log.mk x31.d_ x31.size_ x27.1 x31.slot_ x31.used_ x31.life_ x31.commits_)).st_lg w0.ln_lg (S_wal_Log.mk x31.d_ x27.2.1 x27.1 x31.slot_ x31.used_ x31.life_ x31.commits_)).st_lg w0.ln_lg (S_wal_Log.mk x31.d_ x27.2.1 x27.1 z24 x31.used_ x31.life_ x31.commits_))))]) (g0 rfl) (h_st mR rfl rfl rfl rfl rfl (gl_lg (set_get (set_get h32))) rfl rfl (Nat.le_of_ble_eq_true rfl) rfl (su_lg (x' := (S_wal_Log.mk x31.d_ x27.2.1 x27.1 z24 x31.used_ x31.life_ x31.commits_)) (set_get (set_get h32)))) rfl ?_
      refine o_nil (c_region ?_)
      refine o_m2 (.i (wi (z24 + 1))) (.i (wi (z24 + 1))) rfl ?_
      refine o_nil ?_
      exact ⟨nl2, ((wi (z24 + 1)), (((z25.st_lg w0.ln_lg (S_wal_Log.mk x31.d_ x31.size_ x27.1 x31.slot_ x31.used_ x31.life_ x31.commits_)).st_lg w0.ln_lg (S_wal_Log.mk x31.d_ x27.2.1 x27.1 x31.slot_ x31.used_ x31.life_ x31.commits_)).st_lg w0.ln_lg (S_wal_Log.mk x31.d_ x27.2.1 x27.1 z24 x31.used_ x31.life_ x31.commits_))), [], Nat.lt_succ_self nl2, h, rfl, ⟨.inr ⟨_, rfl, pure_hpA _⟩, by (repeat (first | exact ObP.nil | refine ObP.cons (.inl rfl) ?_ | refine ObP.cons (.inr (fun _ => rfl)) ?_ | refine ObP.cons (.inr (ob_box (fl_noPt _ _))) ?_ | refine ObP.cons (.inr (ob_gb _ _)) ?_))⟩, ⟨.r, .r, .r, .r, trivial⟩, rfl⟩
     refine c_f h30 rfl ?_
     refine c_skip (c_region ?_)
     refine o_m2 (.i (wi (z24 + 1))) (.i (wi (z24 + 1))) rfl ?_
     refine o_nil ?_
     exact ⟨nl2, ((wi (z24 + 1)), z25), [], Nat.lt_succ_self nl2, h, rfl, ⟨.inr ⟨_, rfl, pure_hpA _⟩, by (repeat (first | exact ObP.nil | refine ObP.cons (.inl rfl) ?_ | refine ObP.cons (.inr (fun _ => rfl)) ?_ | refine ObP.cons (.inr (ob_box (fl_noPt _ _))) ?_ | refine ObP.cons (.inr (ob_gb _ _)) ?_))⟩, ⟨.r, .r, .r, .r, trivial⟩, rfl⟩
    refine c_f h26 rfl ?_
    refine c_exit ?_
    exact ⟨z25, [], h, rfl, ⟨.inr ⟨_, rfl, pure_hpA _⟩, by (repeat (first | exact ObP.nil | refine ObP.cons (.inl rfl) ?_ | refine ObP.cons (.inr (fun _ => rfl)) ?_ | refine ObP.cons (.inr (ob_box (fl_noPt _ _))) ?_ | refine ObP.cons (.inr (ob_gb _ _)) ?_))⟩, ⟨.r, .r, trivial⟩, rfl⟩
  rintro y11 h
  refine c_seq (c_sr ?_)
  refine o_of (e := [(55, .t (.hpt (cd 3 w0.ln_lg) 0))]) (g0 rfl) (h_mv mR (.inl rfl) rfl rfl rfl) rfl ?_
  refine o_of (e := [(56, .t (.hpt (cd 3 w0.ln_lg) 0))]) (g0 rfl) (h_nc mR rfl rfl rfl rfl rfl) rfl ?_
  refine o_of (e := [(57, .t (.hpt (cd 3 w0.ln_lg) 2))]) (g0 rfl) (h_fd mR rfl rfl rfl rfl rfl rfl) rfl ?_
  obtain ⟨x12, h13, h⟩ := bind_some h
  refine o_of (e := [(58, .i x12.base_)]) (g0 rfl) (h_ld mR rfl rfl rfl rfl (gl_lg h13) rfl rfl rfl rfl) rfl ?_
  refine o_1 (.b (x12.base_ == 0)) rfl ?_
  refine o_nil ?_
  rcases bif_some h with ⟨h14, h⟩ | ⟨h14, h⟩
  ·
   refine c_t h14 rfl ?_
   refine c_sr ?_
   refine o_of (e := [(2, .t (.d (.lit (.pointer none))))]) (g0 rfl) (h_mv mR (.inr rfl) rfl rfl rfl) rfl ?_
   refine o_1 (.i 11) rfl ?_
   refine o_nil (c_ret ?_)
   obtain rfl := Option.some.inj h
   exact ⟨⟨_, rfl, (.tup (.cons .r (.cons .r .nil)))⟩, trivial, rfl⟩
  refine c_f h14 rfl ?_
  refine c_skip (c_seq (c_seq ?_))
  refine c_draw mixed (by kernel_rfl) ?_
  refine d_h0 [] (e := [(60, .t (.hpt (cd 3 w0.ln_lg) 0))]) (ks := [60]) rfl (dg0 rfl) rfl rfl (fun S' hM hok => h_mv hM (.inl rfl) rfl rfl (hok _ rfl rfl)) rfl ?_
  refine d_h0 [] (e := [(61, .t (.hpt (cd 3 w0.ln_lg) 0))]) (ks := [61]) rfl (dg0 rfl) rfl rfl (fun S' hM hok => h_nc hM rfl rfl rfl rfl (hok _ rfl rfl)) rfl ?_
  refine d_h0 [] (e := [(62, .t (.hpt (cd 3 w0.ln_lg) 2))]) (ks := [62]) rfl (dg0 rfl) rfl rfl (fun S' hM hok => h_fd hM rfl rfl rfl rfl rfl (hok _ rfl rfl)) rfl ?_
  refine d_h (e := [(63, .i x12.base_)]) (ks := [63]) rfl (dg0 rfl) rfl rfl (fun S' hM hk hok => h_ld hM hk rfl rfl rfl (gl_lg h13) rfl rfl rfl (hok _ rfl rfl)) rfl ?_
  refine d_h0 [] (e := [(64, .t (.hpt (cd 3 w0.ln_lg) 0))]) (ks := [64]) rfl (dg0 rfl) rfl rfl (fun S' hM hok => h_mv hM (.inl rfl) rfl rfl (hok _ rfl rfl)) rfl ?_
  refine d_h0 [] (e := [(65, .t (.hpt (cd 3 w0.ln_lg) 0))]) (ks := [65]) rfl (dg0 rfl) rfl rfl (fun S' hM hok => h_nc hM rfl rfl rfl rfl (hok _ rfl rfl)) rfl ?_
  refine d_h0 [] (e := [(66, .t (.hpt (cd 3 w0.ln_lg) 1))]) (ks := [66]) rfl (dg0 rfl) rfl rfl (fun S' hM hok => h_fd hM rfl rfl rfl rfl rfl (hok _ rfl rfl)) rfl ?_
  refine d_h (e := [(67, .i x12.size_)]) (ks := [67]) rfl (dg0 rfl) rfl rfl (fun S' hM hk hok => h_ld hM hk rfl rfl rfl (gl_lg h13) rfl rfl rfl (hok _ rfl rfl)) rfl ?_
  refine d_s (.i (wi (2305843009213693952 - x12.size_))) rfl (dg0 rfl) rfl rfl rfl rfl ?_
  refine d_s (.b (decide (x12.base_ > (wi (2305843009213693952 - x12.size_))))) rfl (dg0 rfl) rfl rfl rfl rfl ?_
  refine d_nil (by kernel_rfl) ?_
  rcases bif_some h with ⟨h15, h⟩ | ⟨h15, h⟩
  ·
   refine c_t h15 rfl ?_
   refine c_sr ?_
   refine o_of (e := [(2, .t (.d (.lit (.pointer none))))]) (g0 rfl) (h_mv mR (.inr rfl) rfl rfl rfl) rfl ?_
   refine o_1 (.i 3) rfl ?_
   refine o_nil (c_ret ?_)
   obtain rfl := Option.some.inj h
   exact ⟨⟨_, rfl, (.tup (.cons .r (.cons .r .nil)))⟩, trivial, rfl⟩
  refine c_f h15 rfl ?_
  refine c_skip (c_seq (c_sr ?_))
  refine o_of (e := [(70, .t (.hpt (cd 3 w0.ln_lg) 0))]) (g0 rfl) (h_mv mR (.inl rfl) rfl rfl rfl) rfl ?_
  refine o_of (e := [(71, .t (.hpt (cd 3 w0.ln_lg) 0))]) (g0 rfl) (h_mv mR (.inl rfl) rfl rfl rfl) rfl ?_
  obtain ⟨x16, h17, h⟩ := bind_some h
  refine o_of (e := [(72, .t (.own 100 2 (List.map cS_api_Write x16)))]) (g0 rfl) (h_callR mR rfl (σ := []) (fr := []) rfl rfl rfl rfl rfl rfl rfl (fch_wal_Log_says _ y11 _ h17) (pure_hpA _) rfl rfl rfl rfl (.cons (.hpt _ _) .nil) rfl (.t (.flat rfl))) rfl ?_
  obtain ⟨x18, h19, h⟩ := bind_some h
  refine o_of (e := [(HK, .hp (hpA x18.2)), (73, .i x18.1)]) (g0 rfl) (h_call mR rfl (σ := []) (fr := []) rfl rfl rfl rfl rfl rfl rfl (fch_wal_Log_redo _ _ y11 _ h19) (pure_hpA _) (pure_hpA _) rfl rfl rfl rfl (.cons (.hpt _ _) (.cons (.plain .r rfl) .nil)) rfl (.t (.flat rfl))) rfl ?_
  refine o_1 (.i x18.1) rfl ?_
  refine o_nil (c_sr ?_)
  refine o_m2 (.i x18.1) (.b (x18.1 != 0)) rfl ?_
  refine o_nil ?_
  rcases bif_some h with ⟨h20, h⟩ | ⟨h20, h⟩
  ·
   refine c_t h20 rfl ?_
   refine c_sr ?_
   refine o_1 (.i x18.1) rfl ?_
   refine o_of (e := [(2, .t (.d (.lit (.pointer none))))]) (g0 rfl) (h_mv mR (.inr rfl) rfl rfl rfl) rfl ?_
   refine o_1 (.i x18.1) rfl ?_
   refine o_nil (c_ret ?_)
   obtain rfl := Option.some.inj h
   exact ⟨⟨_, rfl, (.tup (.cons .r (.cons .r .nil)))⟩, trivial, rfl⟩
  refine c_f h20 rfl ?_
  refine c_skip (c_seq (c_sr ?_))
  refine o_of (e := [(77, .t (.hpt (cd 3 w0.ln_lg) 0))]) (g0 rfl) (h_mv mR (.inl rfl) rfl rfl rfl) rfl ?_
  obtain ⟨x21, h22, h⟩ := bind_some h
  refine o_of (e := [(HK, .hp (hpA x21.2)), (78, .i x21.1)]) (g0 rfl) (h_call mR rfl (σ := []) (fr := []) rfl rfl rfl rfl rfl rfl rfl (fch_wal_Log_Checkpoint _ x18.2 _ h22) (pure_hpA _) (pure_hpA _) rfl rfl rfl rfl (.cons (.hpt _ _) .nil) rfl (.t (.flat rfl))) rfl ?_
  refine o_1 (.i x21.1) rfl ?_
  refine o_nil (c_sr ?_)
  refine o_m2 (.i x21.1) (.b (x21.1 != 0)) rfl ?_
  refine o_nil ?_
  rcases bif_some h with ⟨h23, h⟩ | ⟨h23, h⟩
  ·
   refine c_t h23 rfl ?_
   refine c_sr ?_
   refine o_1 (.i x21.1) rfl ?_
   refine o_of (e := [(2, .t (.d (.lit (.pointer none))))]) (g0 rfl) (h_mv mR (.inr rfl) rfl rfl rfl) rfl ?_
   refine o_1 (.i x21.1) rfl ?_
   refine o_nil (c_ret ?_)
   obtain rfl := Option.some.inj h
   exact ⟨⟨_, rfl, (.tup (.cons .r (.cons .r .nil)))⟩, trivial, rfl⟩
  refine c_f h23 rfl ?_
  refine c_skip (c_sr ?_)
  refine o_of (e := [(82, .t (.hpt (cd 3 w0.ln_lg) 0))]) (g0 rfl) (h_mv mR (.inl rfl) rfl rfl rfl) rfl ?_
  refine o_of (e := [(2, .t (.hpt (cd 3 w0.ln_lg) 0))]) (g0 rfl) (h_mv mR (.inr rfl) rfl rfl rfl) rfl ?_
  refine o_1 (.i 0) rfl ?_
  refine o_nil (c_ret ?_)
  obtain rfl := Option.some.inj h
  exact ⟨⟨_, rfl, (.tup (.cons .r (.cons .r .nil)))⟩, trivial, rfl⟩
 refine o_of (e := [(18, .t (.hpt (cd 1 i8) 0))]) (g0 rfl) (h_mv mR (.inl rfl) ((cpO_pt rfl).trans (pt_eq_some h7)) rfl rfl) rfl ?_
 refine o_of (e := [(19, .t (.hpt (cd 1 i8) 0))]) (g0 rfl) (h_mv mR (.inl rfl) ((cpO_pt rfl).trans (pt_eq_some h7)) rfl rfl) rfl ?_
 obtain ⟨x36, h37, h⟩ := bind_some h
 refine o_of (e := [(20, .i x36)]) (g0 rfl) (h_callR mR rfl (σ := []) (fr := []) rfl rfl rfl rfl rfl rfl rfl (fch_disk_Disk_Lives _ w0 _ h37) (pure_hpA _) rfl rfl rfl rfl (.cons (.hpt _ _) .nil) rfl (.t (.flat rfl))) rfl ?_
 refine o_of (e := [(21, .ag [.hpt (cd 1 i8) 0, .i 0, .i 0, .i 0, .i 0, .i x36, .i 0])]) (g0 rfl) (h_bd mR rfl rfl rfl rfl) rfl ?_
 refine o_of (e := [(HK, .hp (hpA (w0.nw_lg (S_wal_Log.mk (some i8) 0 0 0 0 x36 0)))), (22, .t (.hpt (cd 3 w0.ln_lg) 0))]) (g0 rfl) (h_box mR rfl rfl rfl rfl rfl (fr_lg _) (nw_lg _ (S_wal_Log.mk (some i8) 0 0 0 0 x36 0))) rfl ?_
 refine o_of (e := [(4, .t (.hpt (cd 3 w0.ln_lg) 0))]) (g0 rfl) (h_mv mR (.inr rfl) rfl rfl rfl) rfl ?_
 refine o_nil ?_
 refine c_cutH (fun (y38 : Hp) => [(4, .t (.hpt (cd 3 w0.ln_lg) 0)), (HK, .hp (hpA y38))]) (fun (y38 : Hp) => m_wal_Open_j4 w0 y38 = some r) ?_ ?_
 ·
  refine c_sr ?_
  refine o_1 (.i 0) rfl ?_
  refine o_nil (c_block ?_)
  refine c_fuelH (fun (q : Int × Hp) => [(0, .t ((ptT 1 p0))), (4, .t (.hpt (cd 3 w0.ln_lg) 0)), (23, .i q.1), (HK, .hp (hpA q.2))]) (fun nl5 => (fun (q : Int × Hp) => m_wal_Open_l5 i8 w0 nl5 q.1 q.2 = some r)) (Int.toNat 2 + 1) (0, (w0.nw_lg (S_wal_Log.mk (some i8) 0 0 0 0 x36 0))) [] h rfl ⟨.inr ⟨_, rfl, pure_hpA _⟩, by (repeat (first | exact ObP.nil | refine ObP.cons (.inl rfl) ?_ | refine ObP.cons (.inr (fun _ => rfl)) ?_ | refine ObP.cons (.inr (ob_box (fl_noPt _ _))) ?_ | refine ObP.cons (.inr (ob_gb _ _)) ?_))⟩ ⟨.r, .r, .r, .r, trivial⟩ rfl ?_
  rintro nl5 ⟨z51, z52⟩ h
  cases nl5 with
  | zero => exact none_ne h
  | succ nl5 =>
   refine c_sr ?_
   refine o_1 (.b (decide (z51 < 2))) rfl ?_
   refine o_nil (c_seq ?_)
   rcases bif_some h with ⟨h53, h⟩ | ⟨h53, h⟩
   ·
    refine c_t h53 rfl ?_
    refine c_skip (c_seq (c_block (c_sr ?_)))
    refine o_m2 (.i z51) (.i z51) rfl ?_
    refine o_nil (c_sr ?_)
    refine o_of (e := [(27, .t (.hpt (cd 1 i8) 0))]) (g0 rfl) (h_mv mR (.inl rfl) ((cpO_pt rfl).trans (pt_eq_some h7)) rfl rfl) rfl ?_
    refine o_1 (.i z51) rfl ?_
    obtain ⟨x54, h55, h⟩ := bind_some h
    refine o_of (e := [(29, .tup [.i x54.1, .i x54.2.1, .b x54.2.2])]) (g0 rfl) (h_callR mR rfl (σ := []) (fr := []) rfl rfl rfl rfl rfl rfl rfl (fch_wal_readSlot _ _ z52 _ h55) (pure_hpA _) rfl rfl rfl rfl (.cons (.hpt _ _) (.cons (.plain .r rfl) .nil)) rfl (.tup (.cons (.flat rfl) (.cons (.flat rfl) (.cons (.flat rfl) .nil))))) rfl ?_
    refine o_m7 (.tup [.i x54.1, .i x54.2.1, .b x54.2.2]) (.i x54.1) (.i x54.2.1) (.b x54.2.2) (.i x54.1) (.i x54.2.1) (.b x54.2.2) rfl ?_
    refine o_nil ?_
    refine c_cutH (fun (y56 : Bool) => [(0, .t ((ptT 1 p0))), (4, .t (.hpt (cd 3 w0.ln_lg) 0)), (5, .i z51), (6, .i x54.1), (7, .i x54.2.1), (23, .i z51), (41, .b y56), (HK, .hp (hpA z52))]) (fun (y56 : Bool) => m_wal_Open_j6 (m_wal_Open_l5 i8 w0 nl5) z52 w0 z51 x54 y56 = some r) ?_ ?_
    ·
     refine c_region ?_
     refine o_m2 (.b x54.2.2) (.b x54.2.2) rfl ?_
     rcases bif_some h with ⟨h60, h⟩ | ⟨h60, h⟩
     ·
      refine o_s (.i x54.1) (gy rfl rfl rfl h60) rfl rfl rfl ?_
      refine o_of (e := [(36, .t (.hpt (cd 3 w0.ln_lg) 0))]) (gy rfl rfl rfl h60) (h_mv mR (.inl rfl) rfl rfl rfl) rfl ?_
      refine o_of (e := [(37, .t (.hpt (cd 3 w0.ln_lg) 0))]) (gy rfl rfl rfl h60) (h_nc mR rfl rfl rfl rfl rfl) rfl ?_
      refine o_of (e := [(38, .t (.hpt (cd 3 w0.ln_lg) 2))]) (gy rfl rfl rfl h60) (h_fd mR rfl rfl rfl rfl rfl rfl) rfl ?_
      obtain ⟨x61, h62, h⟩ := bind_some h
      refine o_of (e := [(39, .i x61.base_)]) (gy rfl rfl rfl h60) (h_ld mR rfl rfl rfl rfl (gl_lg h62) rfl rfl rfl rfl) rfl ?_
      refine o_s (.b (decide (x54.1 > x61.base_))) (gy rfl rfl rfl h60) rfl rfl rfl ?_
      refine o_pk (.b (decide (x54.1 > x61.base_))) (b := true) h60 (g0 rfl) rfl rfl rfl rfl rfl ?_
      refine o_nil ?_
      exact ⟨(decide (x54.1 > x61.base_)), [], h, rfl, ⟨.inr ⟨_, rfl, pure_hpA _⟩, by (repeat (first | exact ObP.nil | refine ObP.cons (.inl rfl) ?_ | refine ObP.cons (.inr (fun _ => rfl)) ?_ | refine ObP.cons (.inr (ob_box (fl_noPt _ _))) ?_ | refine ObP.cons (.inr (ob_gb _ _)) ?_))⟩, ⟨.r, .r, .r, .r, .r, .r, .r, .r, trivial⟩, rfl⟩
     refine o_skip rfl rfl rfl h60 rfl rfl ?_
     refine o_skip rfl rfl rfl h60 rfl rfl ?_
     refine o_skip rfl rfl rfl h60 rfl rfl ?_
     refine o_skip rfl rfl rfl h60 rfl rfl ?_
     refine o_skip rfl rfl rfl h60 rfl rfl ?_
     refine o_skip rfl rfl rfl h60 rfl rfl ?_
     refine o_pk (.b false) (b := false) h60 (g0 rfl) rfl rfl rfl rfl rfl ?_
     refine o_nil ?_
     exact ⟨false, [], h, rfl, ⟨.inr ⟨_, rfl, pure_hpA _⟩, by (repeat (first | exact ObP.nil | refine ObP.cons (.inl rfl) ?_ | refine ObP.cons (.inr (fun _ => rfl)) ?_ | refine ObP.cons (.inr (ob_box (fl_noPt _ _))) ?_ | refine ObP.cons (.inr (ob_gb _ _)) ?_))⟩, ⟨.r, .r, .r, .r, .r, .r, .r, .r, trivial⟩, rfl⟩
    rintro y56 h
    rcases bif_some h with ⟨h57, h⟩ | ⟨h57, h⟩
    ·
     refine c_t h57 rfl ?_
     refine c_region ?_
     refine o_of (e := [(42, .t (.hpt (cd 3 w0.ln_lg) 0))]) (g0 rfl) (h_mv mR (.inl rfl) rfl rfl rfl) rfl ?_
     refine o_of (e := [(43, .t (.hpt (cd 3 w0.ln_lg) 0))]) (g0 rfl) (h_mv mR (.inl rfl) rfl rfl rfl) rfl ?_
     refine o_of (e := [(44, .t (.hpt (cd 3 w0.ln_lg) 0))]) (g0 rfl) (h_mv mR (.inl rfl) rfl rfl rfl) rfl ?_
     refine o_m3 (.i x54.1) (.i x54.2.1) (.i z51) rfl ?_
     refine o_of (e := [(48, .t (.hpt (cd 3 w0.ln_lg) 0))]) (g0 rfl) (h_nc mR rfl rfl rfl rfl rfl) rfl ?_
     refine o_of (e := [(49, .t (.hpt (cd 3 w0.ln_lg) 2))]) (g0 rfl) (h_fd mR rfl rfl rfl rfl rfl rfl) rfl ?_
     obtain ⟨x58, h59, h⟩ := bind_some h
     refine o_of (e := [(HK, .hp (hpA (z52.st_lg w0.ln_lg (S_wal_Log.mk x58.d_ x58.size_ x54.1 x58.slot_ x58.used_ x58.life_ x58.commits_))))]) (g0 rfl) (h_st mR rfl rfl rfl rfl rfl (gl_lg h59) rfl rfl (Nat.le_of_ble_eq_true rfl) rfl (su_lg (x' := (S_wal_Log.mk x58.d_ x58.size_ x54.1 x58.slot_ x58.used_ x58.life_ x58.commits_)) h59)) rfl ?_
     refine o_of (e := [(50, .t (.hpt (cd 3 w0.ln_lg) 0))]) (g0 rfl) (h_nc mR rfl rfl rfl rfl rfl) rfl ?_
     refine o_of (e := [(51, .t (.hpt (cd 3 w0.ln_lg) 1))]) (g0 rfl) (h_fd mR rfl rfl rfl rfl rfl rfl) rfl ?_
     refine o_of (e := [(HK, .hp (hpA ((z52.st_lg w0.ln_lg (S_wal_Log.mk x58.d_ x58.size_ x54.1 x58.slot_ x58.used_ x58.life_ x58.commits_)).st_lg w0.ln_lg (S_wal_Log.mk x58.d_ x54.2.1 x54.1 x58.slot_ x58.used_ x58.life_ x58.commits_))))]) (g0 rfl) (h_st mR rfl rfl rfl rfl rfl (gl_lg (set_get h59)) rfl rfl (Nat.le_of_ble_eq_true rfl) rfl (su_lg (x' := (S_wal_Log.mk x58.d_ x54.2.1 x54.1 x58.slot_ x58.used_ x58.life_ x58.commits_)) (set_get h59))) rfl ?_
     refine o_of (e := [(52, .t (.hpt (cd 3 w0.ln_lg) 0))]) (g0 rfl) (h_nc mR rfl rfl rfl rfl rfl) rfl ?_
     refine o_of (e := [(53, .t (.hpt (cd 3 w0.ln_lg) 3))]) (g0 rfl) (h_fd mR rfl rfl rfl rfl rfl rfl) rfl ?_
     refine o_of (e := [(HK, .hp (hpA (((z52.st_lg w0.ln_lg (S_wal_Log.mk x58.d_ x58.size_ x54.1 x58.slot_ x58.used_ x58.life_ x58.commits_)).st_lg w0.ln_lg (S_wal_Log.mk x58.d_ x54.2.1 x54.1 x58.slot_ x58.used_ x58.life_ x58.commits_)).st_lg w0.ln_lg (S_wal_Log.mk x58.d_ x54.2.1 x54.1 z51 x58.used_ x58.life_ x58.commits_))))]) (g0 rfl) (h_st mR rfl rfl rfl rfl rfl (gl_lg (set_get (set_get h59))) rfl rfl (Nat.le_of_ble_eq_true rfl) rfl (su_lg (x' := (S_wal_Log.mk x58.d_ x54.2.1 x54.1 z51 x58.used_ x58.life_ x58.commits_)) (set_get (set_get h59)))) rfl ?_
     refine o_nil (c_region ?_)
     refine o_m2 (.i (wi (z51 + 1))) (.i (wi (z51 + 1))) rfl ?_
     refine o_nil ?_
     exact ⟨nl5, ((wi (z51 + 1)), (((z52.st_lg w0.ln_lg (S_wal_Log.mk x58.d_ x58.size_ x54.1 x58.slot_ x58.used_ x58.life_ x58.commits_)).st_lg w0.ln_lg (S_wal_Log.mk x58.d_ x54.2.1 x54.1 x58.slot_ x58.used_ x58.life_ x58.commits_)).st_lg w0.ln_lg (S_wal_Log.mk x58.d_ x54.2.1 x54.1 z51 x58.used_ x58.life_ x58.commits_))), [], Nat.lt_succ_self nl5, h, rfl, ⟨.inr ⟨_, rfl, pure_hpA _⟩, by (repeat (first | exact ObP.nil | refine ObP.cons (.inl rfl) ?_ | refine ObP.cons (.inr (fun _ => rfl)) ?_ | refine ObP.cons (.inr (ob_box (fl_noPt _ _))) ?_ | refine ObP.cons (.inr (ob_gb _ _)) ?_))⟩, ⟨.r, .r, .r, .r, trivial⟩, rfl⟩
    refine c_f h57 rfl ?_
    refine c_skip (c_region ?_)
    refine o_m2 (.i (wi (z51 + 1))) (.i (wi (z51 + 1))) rfl ?_
    refine o_nil ?_
    exact ⟨nl5, ((wi (z51 + 1)), z52), [], Nat.lt_succ_self nl5, h, rfl, ⟨.inr ⟨_, rfl, pure_hpA _⟩, by (repeat (first | exact ObP.nil | refine ObP.cons (.inl rfl) ?_ | refine ObP.cons (.inr (fun _ => rfl)) ?_ | refine ObP.cons (.inr (ob_box (fl_noPt _ _))) ?_ | refine ObP.cons (.inr (ob_gb _ _)) ?_))⟩, ⟨.r, .r, .r, .r, trivial⟩, rfl⟩
   refine c_f h53 rfl ?_
   refine c_exit ?_
   exact ⟨z52, [], h, rfl, ⟨.inr ⟨_, rfl, pure_hpA _⟩, by (repeat (first | exact ObP.nil | refine ObP.cons (.inl rfl) ?_ | refine ObP.cons (.inr (fun _ => rfl)) ?_ | refine ObP.cons (.inr (ob_box (fl_noPt _ _))) ?_ | refine ObP.cons (.inr (ob_gb _ _)) ?_))⟩, ⟨.r, .r, trivial⟩, rfl⟩
 rintro y38 h
 refine c_seq (c_sr ?_)
 refine o_of (e := [(55, .t (.hpt (cd 3 w0.ln_lg) 0))]) (g0 rfl) (h_mv mR (.inl rfl) rfl rfl rfl) rfl ?_
 refine o_of (e := [(56, .t (.hpt (cd 3 w0.ln_lg) 0))]) (g0 rfl) (h_nc mR rfl rfl rfl rfl rfl) rfl ?_
 refine o_of (e := [(57, .t (.hpt (cd 3 w0.ln_lg) 2))]) (g0 rfl) (h_fd mR rfl rfl rfl rfl rfl rfl) rfl ?_
 obtain ⟨x39, h40, h⟩ := bind_some h
 refine o_of (e := [(58, .i x39.base_)]) (g0 rfl) (h_ld mR rfl rfl rfl rfl (gl_lg h40) rfl rfl rfl rfl) rfl ?_
 refine o_1 (.b (x39.base_ == 0)) rfl ?_
 refine o_nil ?_
 rcases bif_some h with ⟨h41, h⟩ | ⟨h41, h⟩
 ·
  refine c_t h41 rfl ?_
  refine c_sr ?_
  refine o_of (e := [(2, .t (.d (.lit (.pointer none))))]) (g0 rfl) (h_mv mR (.inr rfl) rfl rfl rfl) rfl ?_
  refine o_1 (.i 11) rfl ?_
  refine o_nil (c_ret ?_)
  obtain rfl := Option.some.inj h
  exact ⟨⟨_, rfl, (.tup (.cons .r (.cons .r .nil)))⟩, trivial, rfl⟩
 refine c_f h41 rfl ?_
 refine c_skip (c_seq (c_seq ?_))
 refine c_draw mixed (by kernel_rfl) ?_
 refine d_h0 [] (e := [(60, .t (.hpt (cd 3 w0.ln_lg) 0))]) (ks := [60]) rfl (dg0 rfl) rfl rfl (fun S' hM hok => h_mv hM (.inl rfl) rfl rfl (hok _ rfl rfl)) rfl ?_
 refine d_h0 [] (e := [(61, .t (.hpt (cd 3 w0.ln_lg) 0))]) (ks := [61]) rfl (dg0 rfl) rfl rfl (fun S' hM hok => h_nc hM rfl rfl rfl rfl (hok _ rfl rfl)) rfl ?_
 refine d_h0 [] (e := [(62, .t (.hpt (cd 3 w0.ln_lg) 2))]) (ks := [62]) rfl (dg0 rfl) rfl rfl (fun S' hM hok => h_fd hM rfl rfl rfl rfl rfl (hok _ rfl rfl)) rfl ?_
 refine d_h (e := [(63, .i x39.base_)]) (ks := [63]) rfl (dg0 rfl) rfl rfl (fun S' hM hk hok => h_ld hM hk rfl rfl rfl (gl_lg h40) rfl rfl rfl (hok _ rfl rfl)) rfl ?_
 refine d_h0 [] (e := [(64, .t (.hpt (cd 3 w0.ln_lg) 0))]) (ks := [64]) rfl (dg0 rfl) rfl rfl (fun S' hM hok => h_mv hM (.inl rfl) rfl rfl (hok _ rfl rfl)) rfl ?_
 refine d_h0 [] (e := [(65, .t (.hpt (cd 3 w0.ln_lg) 0))]) (ks := [65]) rfl (dg0 rfl) rfl rfl (fun S' hM hok => h_nc hM rfl rfl rfl rfl (hok _ rfl rfl)) rfl ?_
 refine d_h0 [] (e := [(66, .t (.hpt (cd 3 w0.ln_lg) 1))]) (ks := [66]) rfl (dg0 rfl) rfl rfl (fun S' hM hok => h_fd hM rfl rfl rfl rfl rfl (hok _ rfl rfl)) rfl ?_
 refine d_h (e := [(67, .i x39.size_)]) (ks := [67]) rfl (dg0 rfl) rfl rfl (fun S' hM hk hok => h_ld hM hk rfl rfl rfl (gl_lg h40) rfl rfl rfl (hok _ rfl rfl)) rfl ?_
 refine d_s (.i (wi (2305843009213693952 - x39.size_))) rfl (dg0 rfl) rfl rfl rfl rfl ?_
 refine d_s (.b (decide (x39.base_ > (wi (2305843009213693952 - x39.size_))))) rfl (dg0 rfl) rfl rfl rfl rfl ?_
 refine d_nil (by kernel_rfl) ?_
 rcases bif_some h with ⟨h42, h⟩ | ⟨h42, h⟩
 ·
  refine c_t h42 rfl ?_
  refine c_sr ?_
  refine o_of (e := [(2, .t (.d (.lit (.pointer none))))]) (g0 rfl) (h_mv mR (.inr rfl) rfl rfl rfl) rfl ?_
  refine o_1 (.i 3) rfl ?_
  refine o_nil (c_ret ?_)
  obtain rfl := Option.some.inj h
  exact ⟨⟨_, rfl, (.tup (.cons .r (.cons .r .nil)))⟩, trivial, rfl⟩
 refine c_f h42 rfl ?_
 refine c_skip (c_seq (c_sr ?_))
 refine o_of (e := [(70, .t (.hpt (cd 3 w0.ln_lg) 0))]) (g0 rfl) (h_mv mR (.inl rfl) rfl rfl rfl) rfl ?_
 refine o_of (e := [(71, .t (.hpt (cd 3 w0.ln_lg) 0))]) (g0 rfl) (h_mv mR (.inl rfl) rfl rfl rfl) rfl ?_
 obtain ⟨x43, h44, h⟩ := bind_some h
 refine o_of (e := [(72, .t (.own 100 2 (List.map cS_api_Write x43)))]) (g0 rfl) (h_callR mR rfl (σ := []) (fr := []) rfl rfl rfl rfl rfl rfl rfl (fch_wal_Log_says _ y38 _ h44) (pure_hpA _) rfl rfl rfl rfl (.cons (.hpt _ _) .nil) rfl (.t (.flat rfl))) rfl ?_
 obtain ⟨x45, h46, h⟩ := bind_some h
 refine o_of (e := [(HK, .hp (hpA x45.2)), (73, .i x45.1)]) (g0 rfl) (h_call mR rfl (σ := []) (fr := []) rfl rfl rfl rfl rfl rfl rfl (fch_wal_Log_redo _ _ y38 _ h46) (pure_hpA _) (pure_hpA _) rfl rfl rfl rfl (.cons (.hpt _ _) (.cons (.plain .r rfl) .nil)) rfl (.t (.flat rfl))) rfl ?_
 refine o_1 (.i x45.1) rfl ?_
 refine o_nil (c_sr ?_)
 refine o_m2 (.i x45.1) (.b (x45.1 != 0)) rfl ?_
 refine o_nil ?_
 rcases bif_some h with ⟨h47, h⟩ | ⟨h47, h⟩
 ·
  refine c_t h47 rfl ?_
  refine c_sr ?_
  refine o_1 (.i x45.1) rfl ?_
  refine o_of (e := [(2, .t (.d (.lit (.pointer none))))]) (g0 rfl) (h_mv mR (.inr rfl) rfl rfl rfl) rfl ?_
  refine o_1 (.i x45.1) rfl ?_
  refine o_nil (c_ret ?_)
  obtain rfl := Option.some.inj h
  exact ⟨⟨_, rfl, (.tup (.cons .r (.cons .r .nil)))⟩, trivial, rfl⟩
 refine c_f h47 rfl ?_
 refine c_skip (c_seq (c_sr ?_))
 refine o_of (e := [(77, .t (.hpt (cd 3 w0.ln_lg) 0))]) (g0 rfl) (h_mv mR (.inl rfl) rfl rfl rfl) rfl ?_
 obtain ⟨x48, h49, h⟩ := bind_some h
 refine o_of (e := [(HK, .hp (hpA x48.2)), (78, .i x48.1)]) (g0 rfl) (h_call mR rfl (σ := []) (fr := []) rfl rfl rfl rfl rfl rfl rfl (fch_wal_Log_Checkpoint _ x45.2 _ h49) (pure_hpA _) (pure_hpA _) rfl rfl rfl rfl (.cons (.hpt _ _) .nil) rfl (.t (.flat rfl))) rfl ?_
 refine o_1 (.i x48.1) rfl ?_
 refine o_nil (c_sr ?_)
 refine o_m2 (.i x48.1) (.b (x48.1 != 0)) rfl ?_
 refine o_nil ?_
 rcases bif_some h with ⟨h50, h⟩ | ⟨h50, h⟩
 ·
  refine c_t h50 rfl ?_
  refine c_sr ?_
  refine o_1 (.i x48.1) rfl ?_
  refine o_of (e := [(2, .t (.d (.lit (.pointer none))))]) (g0 rfl) (h_mv mR (.inr rfl) rfl rfl rfl) rfl ?_
  refine o_1 (.i x48.1) rfl ?_
  refine o_nil (c_ret ?_)
  obtain rfl := Option.some.inj h
  exact ⟨⟨_, rfl, (.tup (.cons .r (.cons .r .nil)))⟩, trivial, rfl⟩
 refine c_f h50 rfl ?_
 refine c_skip (c_sr ?_)
 refine o_of (e := [(82, .t (.hpt (cd 3 w0.ln_lg) 0))]) (g0 rfl) (h_mv mR (.inl rfl) rfl rfl rfl) rfl ?_
 refine o_of (e := [(2, .t (.hpt (cd 3 w0.ln_lg) 0))]) (g0 rfl) (h_mv mR (.inr rfl) rfl rfl rfl) rfl ?_
 refine o_1 (.i 0) rfl ?_
 refine o_nil (c_ret ?_)
 obtain rfl := Option.some.inj h
 exact ⟨⟨_, rfl, (.tup (.cons .r (.cons .r .nil)))⟩, trivial, rfl⟩
theorem fch_wal_Log_Read (p0 : (Option Nat)) (p1 : Int) (w0 : Hp) (r : ((List UInt8) × Int)) (h : m_wal_Log_Read p0 p1 w0 = some r) : FCH Try.prog 57 [.t ((ptT 3 p0)), .t (.d (.lit (.int .i64 p1)))] [] [] (hpA w0) (hpA w0) (.tup [.d (.seq 1 (bytesD r.1)), .d (.lit (.int .i64 r.2))]) := by
 refine fch_mk (rs := [.tmp 4, .tmp 5]) (n := 30) [] Try.func57 rfl rfl (Nat.le_of_ble_eq_true rfl) rfl (pins := []) rfl (L := [(HK, .hp (hpA w0)), (0, .t ((ptT 3 p0))), (1, .i p1)]) rfl ?_
 refine c_sr ?_
 refine o_m2 (.n) (.i 0) rfl ?_
 refine o_nil (c_seq (c_sr ?_))
 refine o_of (e := [(7, .t ((ptT 3 p0)))]) (g0 rfl) (h_mv mR (.inl rfl) (cpO_pt rfl) rfl rfl) rfl ?_
 obtain ⟨x1, h2, h⟩ := bind_some h
 refine o_of (e := [(8, .i x1)]) (g0 rfl) (h_callR mR rfl (σ := []) (fr := []) rfl rfl rfl rfl rfl rfl rfl (fch_wal_Log_alive _ w0 _ h2) (pure_hpA _) rfl rfl rfl rfl (.cons (argPt rfl) .nil) rfl (.t (.flat rfl))) rfl ?_
 refine o_1 (.i x1) rfl ?_
 refine o_nil (c_sr ?_)
 refine o_m2 (.i x1) (.b (x1 != 0)) rfl ?_
 refine o_nil ?_
 rcases bif_some h with ⟨h3, h⟩ | ⟨h3, h⟩
 ·
  refine c_t h3 rfl ?_
  refine c_sr ?_
  refine o_m3 (.i x1) (.n) (.i x1) rfl ?_
  refine o_nil (c_ret ?_)
  obtain rfl := Option.some.inj h
  exact ⟨⟨_, rfl, (.tup (.cons (.d (.nil _)) (.cons .r .nil)))⟩, trivial, rfl⟩
 refine c_f h3 rfl ?_
 refine c_skip (c_seq (c_sr ?_))
 refine o_m3 (.i p1) (.b (decide (p1 < 0))) (.b (decide (p1 < 0))) rfl ?_
 rcases bif_some h with ⟨h4, h⟩ | ⟨h4, h⟩
 ·
  refine o_skip rfl rfl rfl h4 rfl rfl ?_
  refine o_skip rfl rfl rfl h4 rfl rfl ?_
  refine o_skip rfl rfl rfl h4 rfl rfl ?_
  refine o_skip rfl rfl rfl h4 rfl rfl ?_
  refine o_pk (.b true) (b := true) h4 (g0 rfl) rfl rfl rfl rfl rfl ?_
  refine o_nil ?_
  refine c_t rfl rfl ?_
  refine c_sr ?_
  refine o_m2 (.n) (.i 31) rfl ?_
  refine o_nil (c_ret ?_)
  obtain rfl := Option.some.inj h
  exact ⟨⟨_, rfl, (.tup (.cons (.d (.nil _)) (.cons .r .nil)))⟩, trivial, rfl⟩
 refine o_s (.i p1) (gy rfl rfl rfl h4) rfl rfl rfl ?_
 refine o_of (e := [(16, .t ((ptT 3 p0)))]) (gy rfl rfl rfl h4) (h_mv mR (.inl rfl) (cpO_pt rfl) rfl rfl) rfl ?_
 obtain ⟨x5, h6, h⟩ := bind_some h
 refine o_of (e := [(17, .i x5)]) (gy rfl rfl rfl h4) (h_callR mR rfl (σ := []) (fr := []) rfl rfl rfl rfl rfl rfl rfl (fch_wal_Log_Homes _ w0 _ h6) (pure_hpA _) rfl rfl rfl rfl (.cons (argPt rfl) .nil) rfl (.t (.flat rfl))) rfl ?_
 refine o_s (.b (decide (p1 ≥ x5))) (gy rfl rfl rfl h4) rfl rfl rfl ?_
 refine o_pk (.b (decide (p1 ≥ x5))) (b := false) h4 (g0 rfl) rfl rfl rfl rfl rfl ?_
 refine o_nil ?_
 rcases bif_some h with ⟨h7, h⟩ | ⟨h7, h⟩
 ·
  refine c_t h7 rfl ?_
  refine c_sr ?_
  refine o_m2 (.n) (.i 31) rfl ?_
  refine o_nil (c_ret ?_)
  obtain rfl := Option.some.inj h
  exact ⟨⟨_, rfl, (.tup (.cons (.d (.nil _)) (.cons .r .nil)))⟩, trivial, rfl⟩
 refine c_f h7 rfl ?_
 refine c_skip (c_seq ?_)
 refine c_draw mixed (by kernel_rfl) ?_
 rcases ptM_some h with ⟨h8, h⟩ | ⟨i9, h8, h⟩
 ·
  refine d_h0 [] (e := [(20, .t (.d (.lit (.pointer none))))]) (ks := [20]) rfl (dg0 rfl) rfl rfl (fun S' hM hok => h_mv hM (.inl rfl) ((cpO_pt rfl).trans (pt_eq_none h8)) rfl (hok _ rfl rfl)) rfl ?_
  exact none_ne h
 refine d_h0 [] (e := [(20, .t (.hpt (cd 3 i9) 0))]) (ks := [20]) rfl (dg0 rfl) rfl rfl (fun S' hM hok => h_mv hM (.inl rfl) ((cpO_pt rfl).trans (pt_eq_some h8)) rfl (hok _ rfl rfl)) rfl ?_
 refine d_h0 [] (e := [(21, .t (.hpt (cd 3 i9) 0))]) (ks := [21]) rfl (dg0 rfl) rfl rfl (fun S' hM hok => h_nc hM rfl rfl rfl rfl (hok _ rfl rfl)) rfl ?_
 refine d_h0 [] (e := [(22, .t (.hpt (cd 3 i9) 0))]) (ks := [22]) rfl (dg0 rfl) rfl rfl (fun S' hM hok => h_fd hM rfl rfl rfl rfl rfl (hok _ rfl rfl)) rfl ?_
 obtain ⟨x10, h11, h⟩ := bind_some h
 refine d_h (e := [(23, .t ((ptT 1 x10.d_)))]) (ks := [23]) rfl (dg0 rfl) rfl rfl (fun S' hM hk hok => h_ld hM hk rfl rfl rfl (gl_lg h11) rfl (norH_pt _ _) rfl (hok _ rfl rfl)) rfl ?_
 refine d_h0 [] (e := [(24, .t (.hpt (cd 3 i9) 0))]) (ks := [24]) rfl (dg0 rfl) rfl rfl (fun S' hM hok => h_mv hM (.inl rfl) ((cpO_pt rfl).trans (pt_eq_some h8)) rfl (hok _ rfl rfl)) rfl ?_
 refine d_s (.i p1) rfl (dg0 rfl) rfl rfl rfl rfl ?_
 obtain ⟨x12, h13, h⟩ := bind_some h
 refine d_h (e := [(26, .i x12)]) (ks := [26]) rfl (dg0 rfl) rfl rfl (fun S' hM hk hok => h_callR hM hk (σ := []) (fr := []) rfl rfl rfl (hok _ rfl rfl) rfl rfl rfl (fch_wal_Log_home _ _ w0 _ h13) (pure_hpA _) rfl rfl rfl rfl (.cons (.hpt _ _) (.cons (.plain .r rfl) .nil)) rfl (.t (.flat rfl))) rfl ?_
 obtain ⟨x14, h15, h⟩ := bind_some h
 refine d_h (e := [(27, .tup [.y x14.1, .i x14.2])]) (ks := [27]) rfl (dg0 rfl) rfl rfl (fun S' hM hk hok => h_callR hM hk (σ := []) (fr := []) rfl rfl rfl (hok _ rfl rfl) rfl rfl rfl (fch_disk_Disk_Read _ _ w0 _ h15) (pure_hpA _) rfl rfl rfl rfl (.cons (argPt rfl) (.cons (.plain .r rfl) .nil)) rfl (.tup (.cons (.flat rfl) (.cons (.flat rfl) .nil)))) rfl ?_
 refine d_s (.y x14.1) rfl (dg0 rfl) rfl rfl rfl rfl ?_
 refine d_s (.i x14.2) rfl (dg0 rfl) rfl rfl rfl rfl ?_
 refine d_s (.y x14.1) rfl (dg0 rfl) rfl rfl rfl rfl ?_
 refine d_s (.i x14.2) rfl (dg0 rfl) rfl rfl rfl rfl ?_
 refine d_nil (by kernel_rfl) ?_
 refine c_ret ?_
 obtain rfl := Option.some.inj h
 exact ⟨⟨_, rfl, (.tup (.cons .r (.cons .r .nil)))⟩, trivial, rfl⟩
end Go.Proofs.Ytjomnccladjpgaa
