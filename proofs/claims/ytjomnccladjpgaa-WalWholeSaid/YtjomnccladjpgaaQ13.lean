/-
  Walks of functions: each function does what its model tells. Printed by a program of this claim's own (gen.py) off the given translation.
-/
import Derived.Test.YtjomnccladjpgaaQ10
import Derived.Test.YtjomnccladjpgaaQ11
import Derived.Test.YtjomnccladjpgaaQ09
import Derived.Test.YtjomnccladjpgaaQ08
import Derived.Test.YtjomnccladjpgaaQ12
set_option linter.unusedVariables false
set_option linter.unusedSimpArgs false
namespace Go.Proofs.Ytjomnccladjpgaa
open Go Go.RowKit
set_option linter.unusedVariables false
set_option maxHeartbeats 4000000
set_option maxRecDepth 20000
theorem fc_slices_Grow_byte_n0 (p1 : Int) (r : (List UInt8)) (h : m_slices_Grow_byte_n0 p1 = some r) : FC Try.prog 138 [.t (.d (.lit (.slice none 0 0))), .t (.d (.lit (.int .i64 p1)))] [] (.t (.own 5 1 (bytesD r))) := by
 refine fc_mk (rs := [.tmp 4]) (n := 27) Try.func138 rfl rfl (Nat.le_of_ble_eq_true rfl) rfl (pins := []) rfl (L := [(0, .t (.d (.lit (.slice none 0 0)))), (1, .t (.d (.lit (.int .i64 p1))))]) rfl ?_
 refine c_sr ?_
 refine o_s (.t (.d (.lit (.slice none 0 0)))) (g0 rfl) rfl rfl rfl ?_
 refine o_nil ?_
 repeat (first | refine k1 ?_ | refine k4 ?_)
 refine c_seq ?_
 refine c_sr ?_
 refine o_s (.t (.d (.lit (.int .i64 p1)))) (g0 rfl) rfl rfl rfl ?_
 refine o_s (.t (.d (.lit (.bool (decide (p1 < 0)))))) (g0 rfl) rfl rfl rfl ?_
 refine o_nil ?_
 repeat (first | refine k1 ?_ | refine k4 ?_)
 rcases bif_some h with ⟨h1, h⟩ | ⟨h1, h⟩
 ·
  refine c_t h1 rfl ?_
  refine c_region ?_
  exact none_ne h
 ·
  refine c_f h1 rfl ?_
  refine c_skip ?_
  repeat (first | refine k1 ?_ | refine k4 ?_)
  refine c_seq ?_
  refine c_sr ?_
  refine o_s (.t (.d (.lit (.int .i64 p1)))) (g0 rfl) rfl rfl rfl ?_
  refine o_s (.t (.d (.lit (.slice none 0 0)))) (g0 rfl) rfl rfl rfl ?_
  refine o_of (e := [(10, .t (.d (.lit (.int .i64 0))))]) (g0 rfl) (h_cap0 (Mk.refl _) rfl rfl rfl rfl rfl) rfl ?_
  refine o_s (.t (.d (.lit (.slice none 0 0)))) (g0 rfl) rfl rfl rfl ?_
  refine o_s (.t (.d (.lit (.int .i64 0)))) (g0 rfl) rfl rfl rfl ?_
  refine o_s (.t (.d (.lit (.int .i64 (wi (0 - 0)))))) (g0 rfl) rfl rfl rfl ?_
  refine o_s (.t (.d (.lit (.int .i64 (wi (p1 - (wi (0 - 0)))))))) (g0 rfl) rfl rfl rfl ?_
  refine o_s (.t (.d (.lit (.int .i64 (wi (p1 - (wi (0 - 0)))))))) (g0 rfl) rfl rfl rfl ?_
  refine o_nil ?_
  repeat (first | refine k1 ?_ | refine k4 ?_)
  refine c_sr ?_
  refine o_s (.t (.d (.lit (.int .i64 (wi (p1 - (wi (0 - 0)))))))) (g0 rfl) rfl rfl rfl ?_
  refine o_s (.t (.d (.lit (.bool (decide ((wi (p1 - (wi (0 - 0)))) > 0)))))) (g0 rfl) rfl rfl rfl ?_
  refine o_nil ?_
  repeat (first | refine k1 ?_ | refine k4 ?_)
  rcases bif_some h with ⟨h2, h⟩ | ⟨h2, h⟩
  ·
   refine c_t h2 rfl ?_
   refine c_region ?_
   refine o_s (.t (.d (.lit (.slice none 0 0)))) (g0 rfl) rfl rfl rfl ?_
   refine o_s (.t (.d (.lit (.slice none 0 0)))) (g0 rfl) rfl rfl rfl ?_
   refine o_of (e := [(19, .t (.d (.lit (.int .i64 0))))]) (g0 rfl) (h_cap0 (Mk.refl _) rfl rfl rfl rfl rfl) rfl ?_
   refine o_of (e := [(20, .t (.d (.lit (.slice none 0 0))))]) (g0 rfl) (h_slnil (Mk.refl _) rfl rfl rfl rfl rfl rfl rfl) rfl ?_
   refine o_s (.t (.d (.lit (.int .i64 (wi (p1 - (wi (0 - 0)))))))) (g0 rfl) rfl rfl rfl ?_
   obtain ⟨x3, h4, h⟩ := bind_some h
   refine o_of (e := [(22, .fr 5 1)]) (g0 rfl) (h_apfr (Mk.refl _) rfl rfl rfl rfl h4 rfl rfl) rfl ?_
   refine o_s (.t (.d (.lit (.slice none 0 0)))) (g0 rfl) rfl rfl rfl ?_
   refine o_s (.t (.d (.lit (.int .i64 0)))) (g0 rfl) rfl rfl rfl ?_
   refine o_of (e := [(22, .any), (25, .t (.own 5 1 (bytesD [])))]) (g0 rfl) (h_slfr (Mk.refl _) rfl rfl rfl rfl rfl rfl rfl rfl rfl) rfl ?_
   refine o_2 (.t (.d (.seq 1 (bytesD [])))) (.t (.own 5 1 (bytesD []))) (g0 rfl) rfl rfl rfl ?_
   refine o_nil ?_
   repeat (first | refine k1 ?_ | refine k4 ?_)
   refine c_sr ?_
   refine o_2 (.t (.d (.seq 1 (bytesD [])))) (.t (.own 5 1 (bytesD []))) (g0 rfl) rfl rfl rfl ?_
   refine o_2 (.t (.d (.seq 1 (bytesD [])))) (.t (.own 5 1 (bytesD []))) (g0 rfl) rfl rfl rfl ?_
   refine o_nil ?_
   repeat (first | refine k1 ?_ | refine k4 ?_)
   refine c_ret ?_
   repeat (first | refine k3 ?_ | refine k5 ?_)
   obtain rfl := Option.some.inj h
   exact end0 rfl (.refl _)
  ·
   refine c_f h2 rfl ?_
   refine c_skip ?_
   repeat (first | refine k1 ?_ | refine k4 ?_)
   refine c_sr ?_
   refine o_s (.t (.d (.lit (.slice none 0 0)))) (g0 rfl) rfl rfl rfl ?_
   refine o_s (.t (.d (.lit (.slice none 0 0)))) (g0 rfl) rfl rfl rfl ?_
   refine o_nil ?_
   repeat (first | refine k1 ?_ | refine k4 ?_)
   refine c_ret ?_
   repeat (first | refine k3 ?_ | refine k5 ?_)
   obtain rfl := Option.some.inj h
   exact end0 rfl (.t (.nilOwn _ _))

theorem fc_slices_Concat_byte (p0 : (List (List UInt8))) (r : (List UInt8)) (h : m_slices_Concat_byte p0 = some r) : FC Try.prog 131 [.t (.d (.seq 1 (List.map (cSl 1 cU8) p0)))] [] (.t (.own 5 1 (bytesD r))) := by
 refine fc_mk (rs := [.tmp 2]) (n := 36) Try.func131 rfl rfl (Nat.le_of_ble_eq_true rfl) rfl (pins := []) rfl (L := [(0, .t (.d (.seq 1 (List.map (cSl 1 cU8) p0))))]) rfl ?_
 refine c_sr ?_
 refine o_s (.t (.d (.lit (.slice none 0 0)))) (g0 rfl) rfl rfl rfl ?_
 refine o_nil ?_
 repeat (first | refine k1 ?_ | refine k4 ?_)
 refine c_sr ?_
 refine o_s (.t (.d (.lit (.int .i64 0)))) (g0 rfl) rfl rfl rfl ?_
 refine o_nil ?_
 repeat (first | refine k1 ?_ | refine k4 ?_)
 refine c_cut (fun (y1 : Int) => [(0, .t (.d (.seq 1 (List.map (cSl 1 cU8) p0)))), (3, .t (.d (.lit (.int .i64 y1))))]) (fun (y1 : Int) => m_slices_Concat_byte_j1 p0 y1 = some r) ?_ ?_
 ·
  refine c_sr ?_
  refine o_s (.t (.d (.seq 1 (List.map (cSl 1 cU8) p0)))) (g0 rfl) rfl rfl rfl ?_
  refine o_c (g0 rfl) rfl rfl rfl (lenE _ _) trivial ?_
  refine o_s (.t (.d (.lit (.int .i64 0)))) (g0 rfl) rfl rfl rfl ?_
  refine o_nil ?_
  repeat (first | refine k1 ?_ | refine k4 ?_)
  refine c_block ?_
  refine c_fuel (fun (q : Int × Int) => [(0, .t (.d (.seq 1 (List.map (cSl 1 cU8) p0)))), (3, .t (.d (.lit (.int .i64 q.1)))), (9, .t (.d (.seq 1 (List.map (cSl 1 cU8) p0)))), (10, .t (.d (.lit (.int .i64 (p0.length : Int))))), (11, .t (.d (.lit (.int .i64 q.2))))]) (fun nl3 => (fun (q : Int × Int) => m_slices_Concat_byte_l3 p0 nl3 q.1 q.2 = some r)) (p0.length + 1) (0, 0) h ⟨(.refl _), ⟨(.refl _), ⟨(.refl _), ⟨(.refl _), ⟨(.refl _), trivial⟩⟩⟩⟩⟩ rfl ?_
  rintro nl3 ⟨z11, z12⟩ h
  cases nl3 with
  | zero => exact none_ne h
  | succ nl3 =>
   refine c_sr ?_
   refine o_s (.t (.d (.lit (.bool (decide (z12 < (p0.length : Int))))))) (g0 rfl) rfl rfl rfl ?_
   refine o_nil ?_
   repeat (first | refine k1 ?_ | refine k4 ?_)
   refine c_seq ?_
   rcases bif_some h with ⟨h13, h⟩ | ⟨h13, h⟩
   ·
    refine c_t h13 rfl ?_
    refine c_skip ?_
    repeat (first | refine k1 ?_ | refine k4 ?_)
    refine c_seq ?_
    refine c_block ?_
    refine c_sr ?_
    obtain ⟨x14, h15, h⟩ := bind_some h
    refine o_c (g0 rfl) rfl rfl rfl (idxE h15) (idxC h15) ?_
    refine o_s (.t (.d (.seq 1 (bytesD x14)))) (g0 rfl) rfl rfl rfl ?_
    refine o_s (.t (.d (.seq 1 (bytesD x14)))) (g0 rfl) rfl rfl rfl ?_
    refine o_nil ?_
    repeat (first | refine k1 ?_ | refine k4 ?_)
    refine c_sr ?_
    refine o_s (.t (.d (.lit (.int .i64 z11)))) (g0 rfl) rfl rfl rfl ?_
    refine o_s (.t (.d (.seq 1 (bytesD x14)))) (g0 rfl) rfl rfl rfl ?_
    refine o_c (g0 rfl) rfl rfl rfl (lenE _ _) trivial ?_
    refine o_s (.t (.d (.lit (.int .i64 (wi (z11 + (x14.length : Int))))))) (g0 rfl) rfl rfl rfl ?_
    refine o_s (.t (.d (.lit (.int .i64 (wi (z11 + (x14.length : Int))))))) (g0 rfl) rfl rfl rfl ?_
    refine o_nil ?_
    repeat (first | refine k1 ?_ | refine k4 ?_)
    refine c_sr ?_
    refine o_s (.t (.d (.lit (.int .i64 (wi (z11 + (x14.length : Int))))))) (g0 rfl) rfl rfl rfl ?_
    refine o_s (.t (.d (.lit (.bool (decide ((wi (z11 + (x14.length : Int))) < 0)))))) (g0 rfl) rfl rfl rfl ?_
    refine o_nil ?_
    repeat (first | refine k1 ?_ | refine k4 ?_)
    rcases bif_some h with ⟨h16, h⟩ | ⟨h16, h⟩
    ·
     refine c_t h16 rfl ?_
     refine c_region ?_
     exact none_ne h
    ·
     refine c_f h16 rfl ?_
     refine c_skip ?_
     repeat (first | refine k1 ?_ | refine k4 ?_)
     refine c_region ?_
     refine o_s (.t (.d (.lit (.int .i64 (wi (z12 + 1)))))) (g0 rfl) rfl rfl rfl ?_
     refine o_s (.t (.d (.lit (.int .i64 (wi (z12 + 1)))))) (g0 rfl) rfl rfl rfl ?_
     refine o_nil ?_
     repeat (first | refine k1 ?_ | refine k4 ?_)
     exact ⟨nl3, ((wi (z11 + (x14.length : Int))), (wi (z12 + 1))), Nat.lt_succ_self nl3, h, ⟨(.refl _), ⟨(.refl _), ⟨(.refl _), ⟨(.refl _), ⟨(.refl _), trivial⟩⟩⟩⟩⟩, rfl⟩
   ·
    refine c_f h13 rfl ?_
    refine c_exit ?_
    repeat (first | refine k1 ?_ | refine k2 ?_ | refine k3 ?_ | refine k4 ?_ | refine k5 ?_ | refine k6 ?_ | refine k7 rfl ?_)
    exact ⟨z11, h, ⟨(.refl _), ⟨(.refl _), trivial⟩⟩, rfl⟩
 ·
  rintro y1 h
  refine c_sr ?_
  refine o_s (.t (.d (.lit (.int .i64 y1)))) (g0 rfl) rfl rfl rfl ?_
  obtain ⟨x2, h3, h⟩ := bind_some h
  refine o_ca (fc_slices_Grow_byte_n0 _ _ h3) (g0 rfl) rfl rfl rfl rfl rfl rfl rfl (.cons (.refl _) (.cons (.refl _) .nil)) rfl rfl ?_
  refine o_2 (.t (.d (.seq 1 (bytesD x2)))) (.t (.own 5 1 (bytesD x2))) (g0 rfl) rfl rfl rfl ?_
  refine o_nil ?_
  repeat (first | refine k1 ?_ | refine k4 ?_)
  refine c_seq ?_
  refine c_sr ?_
  refine o_s (.t (.d (.seq 1 (List.map (cSl 1 cU8) p0)))) (g0 rfl) rfl rfl rfl ?_
  refine o_c (g0 rfl) rfl rfl rfl (lenE _ _) trivial ?_
  refine o_s (.t (.d (.lit (.int .i64 0)))) (g0 rfl) rfl rfl rfl ?_
  refine o_nil ?_
  repeat (first | refine k1 ?_ | refine k4 ?_)
  refine c_block ?_
  refine c_fuel (fun (q : (List UInt8) × Int) => [(6, .t (.own 5 1 (bytesD q.1))), (25, .t (.d (.seq 1 (List.map (cSl 1 cU8) p0)))), (26, .t (.d (.lit (.int .i64 (p0.length : Int))))), (27, .t (.d (.lit (.int .i64 q.2))))]) (fun nl2 => (fun (q : (List UInt8) × Int) => m_slices_Concat_byte_l2 p0 nl2 q.1 q.2 = some r)) (p0.length + 1) (x2, 0) h ⟨(.refl _), ⟨(.refl _), ⟨(.refl _), ⟨(.refl _), trivial⟩⟩⟩⟩ rfl ?_
  rintro nl2 ⟨z4, z5⟩ h
  cases nl2 with
  | zero => exact none_ne h
  | succ nl2 =>
   refine c_sr ?_
   refine o_s (.t (.d (.lit (.bool (decide (z5 < (p0.length : Int))))))) (g0 rfl) rfl rfl rfl ?_
   refine o_nil ?_
   repeat (first | refine k1 ?_ | refine k4 ?_)
   refine c_seq ?_
   rcases bif_some h with ⟨h6, h⟩ | ⟨h6, h⟩
   ·
    refine c_t h6 rfl ?_
    refine c_skip ?_
    repeat (first | refine k1 ?_ | refine k4 ?_)
    refine c_seq ?_
    refine c_block ?_
    refine c_sr ?_
    obtain ⟨x7, h8, h⟩ := bind_some h
    refine o_c (g0 rfl) rfl rfl rfl (idxE h8) (idxC h8) ?_
    refine o_s (.t (.d (.seq 1 (bytesD x7)))) (g0 rfl) rfl rfl rfl ?_
    refine o_s (.t (.d (.seq 1 (bytesD x7)))) (g0 rfl) rfl rfl rfl ?_
    refine o_nil ?_
    repeat (first | refine k1 ?_ | refine k4 ?_)
    refine c_region ?_
    refine o_2 (.t (.d (.seq 1 (bytesD z4)))) (.t (.own 5 1 (bytesD z4))) (g0 rfl) rfl rfl rfl ?_
    refine o_s (.t (.d (.seq 1 (bytesD x7)))) (g0 rfl) rfl rfl rfl ?_
    obtain ⟨x9, h10, h⟩ := bind_some h
    refine o_2c (g0 rfl) rfl rfl rfl (appE (c := cU8) h10) (appC (c := cU8) h10) ?_
    refine o_2 (.t (.d (.seq 1 (bytesD x9)))) (.t (.own 5 1 (bytesD x9))) (g0 rfl) rfl rfl rfl ?_
    refine o_nil ?_
    repeat (first | refine k1 ?_ | refine k4 ?_)
    refine c_region ?_
    refine o_s (.t (.d (.lit (.int .i64 (wi (z5 + 1)))))) (g0 rfl) rfl rfl rfl ?_
    refine o_s (.t (.d (.lit (.int .i64 (wi (z5 + 1)))))) (g0 rfl) rfl rfl rfl ?_
    refine o_nil ?_
    repeat (first | refine k1 ?_ | refine k4 ?_)
    exact ⟨nl2, (x9, (wi (z5 + 1))), Nat.lt_succ_self nl2, h, ⟨(.refl _), ⟨(.refl _), ⟨(.refl _), ⟨(.refl _), trivial⟩⟩⟩⟩, rfl⟩
   ·
    refine c_f h6 rfl ?_
    refine c_exit ?_
    repeat (first | refine k1 ?_ | refine k2 ?_ | refine k3 ?_ | refine k4 ?_ | refine k5 ?_ | refine k6 ?_ | refine k7 rfl ?_)
    refine c_sr ?_
    refine o_2 (.t (.d (.seq 1 (bytesD z4)))) (.t (.own 5 1 (bytesD z4))) (g0 rfl) rfl rfl rfl ?_
    refine o_2 (.t (.d (.seq 1 (bytesD z4)))) (.t (.own 5 1 (bytesD z4))) (g0 rfl) rfl rfl rfl ?_
    refine o_nil ?_
    repeat (first | refine k1 ?_ | refine k4 ?_)
    refine c_ret ?_
    repeat (first | refine k3 ?_ | refine k5 ?_)
    obtain rfl := Option.some.inj h
    exact end0 rfl (.refl _)

theorem fch_wal_Log_one (p0 : (Option Nat)) (p1 : Int) (w0 : Hp) (r : ((List S_api_Write) × Int)) (h : m_wal_Log_one p0 p1 w0 = some r) : FCH Try.prog 110 [.t ((ptT 3 p0)), .t (.d (.lit (.int .i64 p1)))] [] [] (hpA w0) (hpA w0) (.tup [.d (.seq 2 (List.map cS_api_Write r.1)), .d (.lit (.int .i64 r.2))]) := by
 refine fch_mk (rs := [.tmp 4, .tmp 5]) (n := 88) [] Try.func110 rfl rfl (Nat.le_of_ble_eq_true rfl) rfl (pins := []) rfl (L := [(HK, .hp (hpA w0)), (0, .t ((ptT 3 p0))), (1, .t (.d (.lit (.int .i64 p1))))]) rfl ?_
 refine c_sr ?_
 refine o_s (.t (.d (.lit (.slice none 0 0)))) (g0 rfl) rfl rfl rfl ?_
 refine o_s (.t (.d (.lit (.int .i64 0)))) (g0 rfl) rfl rfl rfl ?_
 refine o_nil ?_
 repeat (first | refine k1 ?_ | refine k4 ?_)
 refine c_sr ?_
 refine o_s (.t (.d (.lit (.slice none 0 0)))) (g0 rfl) rfl rfl rfl ?_
 refine o_nil ?_
 repeat (first | refine k1 ?_ | refine k4 ?_)
 refine c_sr ?_
 refine o_s (.t (.d (.lit (.int .i64 p1)))) (g0 rfl) rfl rfl rfl ?_
 refine o_s (.t (.d (.lit (.int .i64 p1)))) (g0 rfl) rfl rfl rfl ?_
 refine o_nil ?_
 repeat (first | refine k1 ?_ | refine k4 ?_)
 refine c_block ?_
 refine c_fuelH (fun (q : (List S_api_Write) × Int) => [(0, .t ((ptT 3 p0))), (1, .t (.d (.lit (.int .i64 p1)))), (6, .t (.own 100 2 (List.map cS_api_Write q.1))), (7, .t (.d (.lit (.int .i64 q.2)))), (HK, .hp (hpA w0))]) (fun nl1 => (fun (q : (List S_api_Write) × Int) => m_wal_Log_one_l1 p0 w0 p1 nl1 q.1 q.2 = some r)) (16400) ([], p1) [] h rfl ⟨.inr ⟨_, rfl, pure_hpA _⟩, by (repeat (first | exact ObP.nil | refine ObP.cons (.inl rfl) ?_ | refine ObP.cons (.inr (fun _ => rfl)) ?_ | refine ObP.cons (.inr (ob_box (fl_noPt _ _))) ?_ | refine ObP.cons (.inr (ob_gb _ _)) ?_))⟩ ⟨(.refl _), ⟨(.refl _), ⟨(.t (.nilOwn _ _)), ⟨(.refl _), ⟨(.refl _), trivial⟩⟩⟩⟩⟩ rfl ?_
 rintro nl1 ⟨z1, z2⟩ h
 cases nl1 with
 | zero => exact none_ne h
 | succ nl1 =>
  refine c_seq ?_
  refine c_block ?_
  refine c_sr ?_
  refine o_of (e := [(13, .t ((ptT 3 p0)))]) (g0 rfl) (h_mv (Mk.refl _) (.inl rfl) (cpO_pt rfl) rfl rfl) rfl ?_
  refine o_s (.t (.d (.lit (.int .i64 z2)))) (g0 rfl) rfl rfl rfl ?_
  obtain ⟨x3, h4, h⟩ := bind_some h
  refine o_of (e := [(15, .t (.agg [.lit (.int .i64 x3.kind_), .lit (.int .i64 x3.number_), .seq 1 (bytesD x3.data_), .lit (.bool x3.ok_)]))]) (g0 rfl) (h_callR (Mk.refl _) rfl (σ := []) (fr := []) rfl rfl rfl rfl rfl rfl rfl (fch_wal_Log_at _ _ w0 _ h4) (pure_hpA _) rfl rfl rfl rfl (.cons (argPt rfl) (.cons (.plain (.refl _) rfl) .nil)) rfl (.t (.flat rfl))) rfl ?_
  refine o_s (.box [.d (.lit (.int .i64 0)), .d (.lit (.int .i64 0)), .d (.lit (.slice none 0 0)), .d (.lit (.bool false))]) (g0 rfl) rfl rfl rfl ?_
  refine o_st (.box [.d (.lit (.int .i64 x3.kind_)), .d (.lit (.int .i64 x3.number_)), .d (.seq 1 (bytesD x3.data_)), .d (.lit (.bool x3.ok_))]) (g0 rfl) rfl rfl rfl ?_
  refine o_nil ?_
  repeat (first | refine k1 ?_ | refine k4 ?_)
  refine c_seq ?_
  refine c_block ?_
  refine c_sr ?_
  refine o_s (.ref 8 3) (g0 rfl) rfl rfl rfl ?_
  refine o_s (.t (.d (.lit (.bool x3.ok_)))) (g0 rfl) rfl rfl rfl ?_
  refine o_s (.t (.d (.lit (.bool (!x3.ok_))))) (g0 rfl) rfl rfl rfl ?_
  refine o_s (.t (.d (.lit (.bool (!x3.ok_))))) (g0 rfl) rfl rfl rfl ?_
  refine o_nil ?_
  repeat (first | refine k1 ?_ | refine k4 ?_)
  rcases bif_some h with ⟨h5, h⟩ | ⟨h5, h⟩
  ·
   refine c_t h5 rfl ?_
   refine c_sr ?_
   refine o_s (.t (.d (.lit (.slice none 0 0)))) (g0 rfl) rfl rfl rfl ?_
   refine o_s (.t (.d (.lit (.int .i64 0)))) (g0 rfl) rfl rfl rfl ?_
   refine o_nil ?_
   repeat (first | refine k1 ?_ | refine k4 ?_)
   refine c_ret ?_
   repeat (first | refine k3 ?_ | refine k5 ?_)
   obtain rfl := Option.some.inj h
   exact ⟨⟨_, rfl, (.tup (.cons (.d (.nil _)) (.cons (.refl _) .nil)))⟩, trivial, rfl⟩
  ·
   refine c_f h5 rfl ?_
   refine c_cutH (fun (y6 : Bool) => [(0, .t ((ptT 3 p0))), (1, .t (.d (.lit (.int .i64 p1)))), (6, .t (.own 100 2 (List.map cS_api_Write z1))), (7, .t (.d (.lit (.int .i64 z2)))), (8, .box [.d (.lit (.int .i64 x3.kind_)), .d (.lit (.int .i64 x3.number_)), .d (.seq 1 (bytesD x3.data_)), .d (.lit (.bool x3.ok_))]), (20, .t (.d (.lit (.bool y6)))), (HK, .hp (hpA w0))]) (fun (y6 : Bool) => m_wal_Log_one_j2 (m_wal_Log_one_l1 p0 w0 p1 nl1) z1 z2 p1 x3 p0 w0 y6 = some r) ?_ ?_
   ·
    refine c_region ?_
    refine o_s (.ref 8 0) (g0 rfl) rfl rfl rfl ?_
    refine o_s (.t (.d (.lit (.int .i64 x3.kind_)))) (g0 rfl) rfl rfl rfl ?_
    refine o_s (.t (.d (.lit (.bool (x3.kind_ == 3))))) (g0 rfl) rfl rfl rfl ?_
    refine o_s (.t (.d (.lit (.bool (x3.kind_ == 3))))) (g0 rfl) rfl rfl rfl ?_
    rcases bif_some h with ⟨h21, h⟩ | ⟨h21, h⟩
    ·
     refine o_s (.t (.d (.seq 2 (List.map cS_api_Write z1)))) (gy rfl rfl rfl h21) rfl rfl rfl ?_
     refine o_c (gy rfl rfl rfl h21) rfl rfl rfl (lenE _ _) trivial ?_
     refine o_s (.t (.d (.lit (.bool (decide ((z1.length : Int) > 0)))))) (gy rfl rfl rfl h21) rfl rfl rfl ?_
     refine o_pk (.t (.d (.lit (.bool (decide ((z1.length : Int) > 0)))))) (b := true) h21 (g0 rfl) rfl rfl rfl rfl rfl ?_
     refine o_s (.t (.d (.lit (.bool (decide ((z1.length : Int) > 0)))))) (g0 rfl) rfl rfl rfl ?_
     rcases bif_some h with ⟨h22, h⟩ | ⟨h22, h⟩
     ·
      refine o_s (.ref 8 1) (gy rfl rfl rfl h22) rfl rfl rfl ?_
      refine o_s (.t (.d (.lit (.int .i64 x3.number_)))) (gy rfl rfl rfl h22) rfl rfl rfl ?_
      refine o_s (.t (.d (.seq 2 (List.map cS_api_Write z1)))) (gy rfl rfl rfl h22) rfl rfl rfl ?_
      refine o_c (gy rfl rfl rfl h22) rfl rfl rfl (lenE _ _) trivial ?_
      refine o_s (.t (.d (.lit (.bool (x3.number_ == (z1.length : Int)))))) (gy rfl rfl rfl h22) rfl rfl rfl ?_
      refine o_pk (.t (.d (.lit (.bool (x3.number_ == (z1.length : Int)))))) (b := true) h22 (g0 rfl) rfl rfl rfl rfl rfl ?_
      refine o_s (.t (.d (.lit (.bool (x3.number_ == (z1.length : Int)))))) (g0 rfl) rfl rfl rfl ?_
      rcases bif_some h with ⟨h23, h⟩ | ⟨h23, h⟩
      ·
       refine o_s (.ref 8 2) (gy rfl rfl rfl h23) rfl rfl rfl ?_
       refine o_s (.t (.d (.seq 1 (bytesD x3.data_)))) (gy rfl rfl rfl h23) rfl rfl rfl ?_
       obtain ⟨x24, h25, h⟩ := bind_some h
       refine o_ca (fc_wal_noughts _ _ h25) (gy rfl rfl rfl h23) rfl rfl rfl rfl rfl rfl rfl (.cons (.refl _) .nil) rfl rfl ?_
       refine o_pk (.t (.d (.lit (.bool x24)))) (b := true) h23 (g0 rfl) rfl rfl rfl rfl rfl ?_
       refine o_s (.t (.d (.lit (.bool x24)))) (g0 rfl) rfl rfl rfl ?_
       refine o_nil ?_
       repeat (first | refine k1 ?_ | refine k4 ?_)
       exact ⟨x24, [], h, rfl, ⟨.inr ⟨_, rfl, pure_hpA _⟩, by (repeat (first | exact ObP.nil | refine ObP.cons (.inl rfl) ?_ | refine ObP.cons (.inr (fun _ => rfl)) ?_ | refine ObP.cons (.inr (ob_box (fl_noPt _ _))) ?_ | refine ObP.cons (.inr (ob_gb _ _)) ?_))⟩, ⟨(.refl _), ⟨(.refl _), ⟨(.refl _), ⟨(.refl _), ⟨(.refl _), ⟨(.refl _), ⟨(.refl _), trivial⟩⟩⟩⟩⟩⟩⟩, rfl⟩
      ·
       refine o_skip rfl rfl rfl h23 rfl rfl ?_
       refine o_skip rfl rfl rfl h23 rfl rfl ?_
       refine o_skip rfl rfl rfl h23 rfl rfl ?_
       refine o_pk (.t (.d (.lit (.bool false)))) (b := false) h23 (g0 rfl) rfl rfl rfl rfl rfl ?_
       refine o_s (.t (.d (.lit (.bool false)))) (g0 rfl) rfl rfl rfl ?_
       refine o_nil ?_
       repeat (first | refine k1 ?_ | refine k4 ?_)
       exact ⟨false, [], h, rfl, ⟨.inr ⟨_, rfl, pure_hpA _⟩, by (repeat (first | exact ObP.nil | refine ObP.cons (.inl rfl) ?_ | refine ObP.cons (.inr (fun _ => rfl)) ?_ | refine ObP.cons (.inr (ob_box (fl_noPt _ _))) ?_ | refine ObP.cons (.inr (ob_gb _ _)) ?_))⟩, ⟨(.refl _), ⟨(.refl _), ⟨(.refl _), ⟨(.refl _), ⟨(.refl _), ⟨(.refl _), ⟨(.refl _), trivial⟩⟩⟩⟩⟩⟩⟩, rfl⟩
     ·
      refine o_skip rfl rfl rfl h22 rfl rfl ?_
      refine o_skip rfl rfl rfl h22 rfl rfl ?_
      refine o_skip rfl rfl rfl h22 rfl rfl ?_
      refine o_skip rfl rfl rfl h22 rfl rfl ?_
      refine o_skip rfl rfl rfl h22 rfl rfl ?_
      refine o_pk (.t (.d (.lit (.bool false)))) (b := false) h22 (g0 rfl) rfl rfl rfl rfl rfl ?_
      refine o_s (.t (.d (.lit (.bool false)))) (g0 rfl) rfl rfl rfl ?_
      refine o_skip rfl rfl rfl rfl rfl rfl ?_
      refine o_skip rfl rfl rfl rfl rfl rfl ?_
      refine o_skip rfl rfl rfl rfl rfl rfl ?_
      refine o_pk (.t (.d (.lit (.bool false)))) (b := false) rfl (g0 rfl) rfl rfl rfl rfl rfl ?_
      refine o_s (.t (.d (.lit (.bool false)))) (g0 rfl) rfl rfl rfl ?_
      refine o_nil ?_
      repeat (first | refine k1 ?_ | refine k4 ?_)
      exact ⟨false, [], h, rfl, ⟨.inr ⟨_, rfl, pure_hpA _⟩, by (repeat (first | exact ObP.nil | refine ObP.cons (.inl rfl) ?_ | refine ObP.cons (.inr (fun _ => rfl)) ?_ | refine ObP.cons (.inr (ob_box (fl_noPt _ _))) ?_ | refine ObP.cons (.inr (ob_gb _ _)) ?_))⟩, ⟨(.refl _), ⟨(.refl _), ⟨(.refl _), ⟨(.refl _), ⟨(.refl _), ⟨(.refl _), ⟨(.refl _), trivial⟩⟩⟩⟩⟩⟩⟩, rfl⟩
    ·
     refine o_skip rfl rfl rfl h21 rfl rfl ?_
     refine o_skip rfl rfl rfl h21 rfl rfl ?_
     refine o_skip rfl rfl rfl h21 rfl rfl ?_
     refine o_pk (.t (.d (.lit (.bool false)))) (b := false) h21 (g0 rfl) rfl rfl rfl rfl rfl ?_
     refine o_s (.t (.d (.lit (.bool false)))) (g0 rfl) rfl rfl rfl ?_
     refine o_skip rfl rfl rfl rfl rfl rfl ?_
     refine o_skip rfl rfl rfl rfl rfl rfl ?_
     refine o_skip rfl rfl rfl rfl rfl rfl ?_
     refine o_skip rfl rfl rfl rfl rfl rfl ?_
     refine o_skip rfl rfl rfl rfl rfl rfl ?_
     refine o_pk (.t (.d (.lit (.bool false)))) (b := false) rfl (g0 rfl) rfl rfl rfl rfl rfl ?_
     refine o_s (.t (.d (.lit (.bool false)))) (g0 rfl) rfl rfl rfl ?_
     refine o_skip rfl rfl rfl rfl rfl rfl ?_
     refine o_skip rfl rfl rfl rfl rfl rfl ?_
     refine o_skip rfl rfl rfl rfl rfl rfl ?_
     refine o_pk (.t (.d (.lit (.bool false)))) (b := false) rfl (g0 rfl) rfl rfl rfl rfl rfl ?_
     refine o_s (.t (.d (.lit (.bool false)))) (g0 rfl) rfl rfl rfl ?_
     refine o_nil ?_
     repeat (first | refine k1 ?_ | refine k4 ?_)
     exact ⟨false, [], h, rfl, ⟨.inr ⟨_, rfl, pure_hpA _⟩, by (repeat (first | exact ObP.nil | refine ObP.cons (.inl rfl) ?_ | refine ObP.cons (.inr (fun _ => rfl)) ?_ | refine ObP.cons (.inr (ob_box (fl_noPt _ _))) ?_ | refine ObP.cons (.inr (ob_gb _ _)) ?_))⟩, ⟨(.refl _), ⟨(.refl _), ⟨(.refl _), ⟨(.refl _), ⟨(.refl _), ⟨(.refl _), ⟨(.refl _), trivial⟩⟩⟩⟩⟩⟩⟩, rfl⟩
   ·
    rintro y6 h
    rcases bif_some h with ⟨h7, h⟩ | ⟨h7, h⟩
    ·
     refine c_t h7 rfl ?_
     refine c_sr ?_
     refine o_2 (.t (.d (.seq 2 (List.map cS_api_Write z1)))) (.t (.own 100 2 (List.map cS_api_Write z1))) (g0 rfl) rfl rfl rfl ?_
     refine o_s (.t (.d (.lit (.int .i64 z2)))) (g0 rfl) rfl rfl rfl ?_
     refine o_s (.t (.d (.lit (.int .i64 (wi (z2 + 1)))))) (g0 rfl) rfl rfl rfl ?_
     refine o_s (.t (.d (.lit (.int .i64 p1)))) (g0 rfl) rfl rfl rfl ?_
     refine o_s (.t (.d (.lit (.int .i64 (wi ((wi (z2 + 1)) - p1)))))) (g0 rfl) rfl rfl rfl ?_
     refine o_2 (.t (.d (.seq 2 (List.map cS_api_Write z1)))) (.t (.own 100 2 (List.map cS_api_Write z1))) (g0 rfl) rfl rfl rfl ?_
     refine o_s (.t (.d (.lit (.int .i64 (wi ((wi (z2 + 1)) - p1)))))) (g0 rfl) rfl rfl rfl ?_
     refine o_nil ?_
     repeat (first | refine k1 ?_ | refine k4 ?_)
     refine c_ret ?_
     repeat (first | refine k3 ?_ | refine k5 ?_)
     obtain rfl := Option.some.inj h
     exact ⟨⟨_, rfl, (.tup (.cons (.refl _) (.cons (.refl _) .nil)))⟩, trivial, rfl⟩
    ·
     refine c_f h7 rfl ?_
     refine c_seq ?_
     refine c_draw mixed (by kernel_rfl) ?_
     refine d_s (.ref 8 0) rfl (dg0 rfl) rfl rfl rfl rfl ?_
     refine d_s (.t (.d (.lit (.int .i64 x3.kind_)))) rfl (dg0 rfl) rfl rfl rfl rfl ?_
     refine d_s (.t (.d (.lit (.bool (x3.kind_ != 1))))) rfl (dg0 rfl) rfl rfl rfl rfl ?_
     refine d_s (.t (.d (.lit (.bool (x3.kind_ != 1))))) rfl (dg0 rfl) rfl rfl rfl rfl ?_
     rcases bif_some h with ⟨h8, h⟩ | ⟨h8, h⟩
     ·
      refine d_skip rfl rfl rfl rfl rfl h8 rfl rfl rfl ?_
      refine d_skip rfl rfl rfl rfl rfl h8 rfl rfl rfl ?_
      refine d_skip rfl rfl rfl rfl rfl h8 rfl rfl rfl ?_
      refine d_skip rfl rfl rfl rfl rfl h8 rfl rfl rfl ?_
      refine d_skip rfl rfl rfl rfl rfl h8 rfl rfl rfl ?_
      refine d_pk (.t (.d (.lit (.bool true)))) (b := true) h8 rfl (dg0 rfl) rfl rfl rfl rfl rfl rfl ?_
      refine d_s (.t (.d (.lit (.bool true)))) rfl (dg0 rfl) rfl rfl rfl rfl ?_
      refine d_nil (by kernel_rfl) ?_
      repeat (first | refine k1 ?_ | refine k2 ?_ | refine k3 ?_ | refine k4 ?_ | refine k5 ?_ | refine k6 ?_ | refine k7 rfl ?_)
      refine c_t rfl rfl ?_
      refine c_sr ?_
      refine o_s (.t (.d (.lit (.slice none 0 0)))) (g0 rfl) rfl rfl rfl ?_
      refine o_s (.t (.d (.lit (.int .i64 0)))) (g0 rfl) rfl rfl rfl ?_
      refine o_nil ?_
      repeat (first | refine k1 ?_ | refine k4 ?_)
      refine c_ret ?_
      repeat (first | refine k3 ?_ | refine k5 ?_)
      obtain rfl := Option.some.inj h
      exact ⟨⟨_, rfl, (.tup (.cons (.d (.nil _)) (.cons (.refl _) .nil)))⟩, trivial, rfl⟩
     ·
      refine d_s (.ref 8 1) rfl (dgy rfl rfl rfl rfl h8) rfl rfl rfl rfl ?_
      refine d_s (.t (.d (.lit (.int .i64 x3.number_)))) rfl (dgy rfl rfl rfl rfl h8) rfl rfl rfl rfl ?_
      refine d_h0 [] (e := [(53, .t ((ptT 3 p0)))]) (ks := [53]) rfl (dgy rfl rfl rfl rfl h8) rfl rfl (fun S' hM hok => h_mv hM (.inl rfl) (cpO_pt rfl) rfl (hok _ rfl rfl)) rfl ?_
      obtain ⟨x9, h10, h⟩ := bind_some h
      refine d_h (e := [(54, .t (.d (.lit (.int .i64 x9))))]) (ks := [54]) rfl (dgy rfl rfl rfl rfl h8) rfl rfl (fun S' hM hk hok => h_callR hM hk (σ := []) (fr := []) rfl rfl rfl (hok _ rfl rfl) rfl rfl rfl (fch_wal_Log_Homes _ w0 _ h10) (pure_hpA _) rfl rfl rfl rfl (.cons (argPt rfl) .nil) rfl (.t (.flat rfl))) rfl ?_
      refine d_s (.t (.d (.lit (.bool (decide (x3.number_ ≥ x9)))))) rfl (dgy rfl rfl rfl rfl h8) rfl rfl rfl rfl ?_
      refine d_pk (.t (.d (.lit (.bool (decide (x3.number_ ≥ x9)))))) (b := false) h8 rfl (dg0 rfl) rfl rfl rfl rfl rfl rfl ?_
      refine d_s (.t (.d (.lit (.bool (decide (x3.number_ ≥ x9)))))) rfl (dg0 rfl) rfl rfl rfl rfl ?_
      refine d_nil (by kernel_rfl) ?_
      repeat (first | refine k1 ?_ | refine k2 ?_ | refine k3 ?_ | refine k4 ?_ | refine k5 ?_ | refine k6 ?_ | refine k7 rfl ?_)
      rcases bif_some h with ⟨h11, h⟩ | ⟨h11, h⟩
      ·
       refine c_t h11 rfl ?_
       refine c_sr ?_
       refine o_s (.t (.d (.lit (.slice none 0 0)))) (g0 rfl) rfl rfl rfl ?_
       refine o_s (.t (.d (.lit (.int .i64 0)))) (g0 rfl) rfl rfl rfl ?_
       refine o_nil ?_
       repeat (first | refine k1 ?_ | refine k4 ?_)
       refine c_ret ?_
       repeat (first | refine k3 ?_ | refine k5 ?_)
       obtain rfl := Option.some.inj h
       exact ⟨⟨_, rfl, (.tup (.cons (.d (.nil _)) (.cons (.refl _) .nil)))⟩, trivial, rfl⟩
      ·
       refine c_f h11 rfl ?_
       refine c_skip ?_
       repeat (first | refine k1 ?_ | refine k4 ?_)
       refine c_sr ?_
       refine o_of (e := [(57, .t ((ptT 3 p0)))]) (g0 rfl) (h_mv (Mk.refl _) (.inl rfl) (cpO_pt rfl) rfl rfl) rfl ?_
       refine o_s (.t (.d (.lit (.int .i64 z2)))) (g0 rfl) rfl rfl rfl ?_
       refine o_s (.t (.d (.lit (.int .i64 (wi (z2 + 1)))))) (g0 rfl) rfl rfl rfl ?_
       obtain ⟨x12, h13, h⟩ := bind_some h
       refine o_of (e := [(60, .t (.agg [.lit (.int .i64 x12.kind_), .lit (.int .i64 x12.number_), .seq 1 (bytesD x12.data_), .lit (.bool x12.ok_)]))]) (g0 rfl) (h_callR (Mk.refl _) rfl (σ := []) (fr := []) rfl rfl rfl rfl rfl rfl rfl (fch_wal_Log_at _ _ w0 _ h13) (pure_hpA _) rfl rfl rfl rfl (.cons (argPt rfl) (.cons (.plain (.refl _) rfl) .nil)) rfl (.t (.flat rfl))) rfl ?_
       refine o_s (.box [.d (.lit (.int .i64 0)), .d (.lit (.int .i64 0)), .d (.lit (.slice none 0 0)), .d (.lit (.bool false))]) (g0 rfl) rfl rfl rfl ?_
       refine o_st (.box [.d (.lit (.int .i64 x12.kind_)), .d (.lit (.int .i64 x12.number_)), .d (.seq 1 (bytesD x12.data_)), .d (.lit (.bool x12.ok_))]) (g0 rfl) rfl rfl rfl ?_
       refine o_nil ?_
       repeat (first | refine k1 ?_ | refine k4 ?_)
       refine c_seq ?_
       refine c_sr ?_
       refine o_s (.ref 9 3) (g0 rfl) rfl rfl rfl ?_
       refine o_s (.t (.d (.lit (.bool x12.ok_)))) (g0 rfl) rfl rfl rfl ?_
       refine o_s (.t (.d (.lit (.bool (!x12.ok_))))) (g0 rfl) rfl rfl rfl ?_
       refine o_s (.t (.d (.lit (.bool (!x12.ok_))))) (g0 rfl) rfl rfl rfl ?_
       rcases bif_some h with ⟨h14, h⟩ | ⟨h14, h⟩
       ·
        refine o_skip rfl rfl rfl h14 rfl rfl ?_
        refine o_skip rfl rfl rfl h14 rfl rfl ?_
        refine o_skip rfl rfl rfl h14 rfl rfl ?_
        refine o_pk (.t (.d (.lit (.bool true)))) (b := true) h14 (g0 rfl) rfl rfl rfl rfl rfl ?_
        refine o_s (.t (.d (.lit (.bool true)))) (g0 rfl) rfl rfl rfl ?_
        refine o_skip rfl rfl rfl rfl rfl rfl ?_
        refine o_skip rfl rfl rfl rfl rfl rfl ?_
        refine o_skip rfl rfl rfl rfl rfl rfl ?_
        refine o_skip rfl rfl rfl rfl rfl rfl ?_
        refine o_skip rfl rfl rfl rfl rfl rfl ?_
        refine o_pk (.t (.d (.lit (.bool true)))) (b := true) rfl (g0 rfl) rfl rfl rfl rfl rfl ?_
        refine o_nil ?_
        repeat (first | refine k1 ?_ | refine k4 ?_)
        refine c_t rfl rfl ?_
        refine c_sr ?_
        refine o_s (.t (.d (.lit (.slice none 0 0)))) (g0 rfl) rfl rfl rfl ?_
        refine o_s (.t (.d (.lit (.int .i64 0)))) (g0 rfl) rfl rfl rfl ?_
        refine o_nil ?_
        repeat (first | refine k1 ?_ | refine k4 ?_)
        refine c_ret ?_
        repeat (first | refine k3 ?_ | refine k5 ?_)
        obtain rfl := Option.some.inj h
        exact ⟨⟨_, rfl, (.tup (.cons (.d (.nil _)) (.cons (.refl _) .nil)))⟩, trivial, rfl⟩
       ·
        refine o_s (.ref 9 0) (gy rfl rfl rfl h14) rfl rfl rfl ?_
        refine o_s (.t (.d (.lit (.int .i64 x12.kind_)))) (gy rfl rfl rfl h14) rfl rfl rfl ?_
        refine o_s (.t (.d (.lit (.bool (x12.kind_ != 2))))) (gy rfl rfl rfl h14) rfl rfl rfl ?_
        refine o_pk (.t (.d (.lit (.bool (x12.kind_ != 2))))) (b := false) h14 (g0 rfl) rfl rfl rfl rfl rfl ?_
        refine o_s (.t (.d (.lit (.bool (x12.kind_ != 2))))) (g0 rfl) rfl rfl rfl ?_
        rcases bif_some h with ⟨h15, h⟩ | ⟨h15, h⟩
        ·
         refine o_skip rfl rfl rfl h15 rfl rfl ?_
         refine o_skip rfl rfl rfl h15 rfl rfl ?_
         refine o_skip rfl rfl rfl h15 rfl rfl ?_
         refine o_skip rfl rfl rfl h15 rfl rfl ?_
         refine o_skip rfl rfl rfl h15 rfl rfl ?_
         refine o_pk (.t (.d (.lit (.bool true)))) (b := true) h15 (g0 rfl) rfl rfl rfl rfl rfl ?_
         refine o_nil ?_
         repeat (first | refine k1 ?_ | refine k4 ?_)
         refine c_t rfl rfl ?_
         refine c_sr ?_
         refine o_s (.t (.d (.lit (.slice none 0 0)))) (g0 rfl) rfl rfl rfl ?_
         refine o_s (.t (.d (.lit (.int .i64 0)))) (g0 rfl) rfl rfl rfl ?_
         refine o_nil ?_
         repeat (first | refine k1 ?_ | refine k4 ?_)
         refine c_ret ?_
         repeat (first | refine k3 ?_ | refine k5 ?_)
         obtain rfl := Option.some.inj h
         exact ⟨⟨_, rfl, (.tup (.cons (.d (.nil _)) (.cons (.refl _) .nil)))⟩, trivial, rfl⟩
        ·
         refine o_s (.ref 9 1) (gy rfl rfl rfl h15) rfl rfl rfl ?_
         refine o_s (.t (.d (.lit (.int .i64 x12.number_)))) (gy rfl rfl rfl h15) rfl rfl rfl ?_
         refine o_s (.ref 8 1) (gy rfl rfl rfl h15) rfl rfl rfl ?_
         refine o_s (.t (.d (.lit (.int .i64 x3.number_)))) (gy rfl rfl rfl h15) rfl rfl rfl ?_
         refine o_s (.t (.d (.lit (.bool (x12.number_ != x3.number_))))) (gy rfl rfl rfl h15) rfl rfl rfl ?_
         refine o_pk (.t (.d (.lit (.bool (x12.number_ != x3.number_))))) (b := false) h15 (g0 rfl) rfl rfl rfl rfl rfl ?_
         refine o_nil ?_
         repeat (first | refine k1 ?_ | refine k4 ?_)
         rcases bif_some h with ⟨h16, h⟩ | ⟨h16, h⟩
         ·
          refine c_t h16 rfl ?_
          refine c_sr ?_
          refine o_s (.t (.d (.lit (.slice none 0 0)))) (g0 rfl) rfl rfl rfl ?_
          refine o_s (.t (.d (.lit (.int .i64 0)))) (g0 rfl) rfl rfl rfl ?_
          refine o_nil ?_
          repeat (first | refine k1 ?_ | refine k4 ?_)
          refine c_ret ?_
          repeat (first | refine k3 ?_ | refine k5 ?_)
          obtain rfl := Option.some.inj h
          exact ⟨⟨_, rfl, (.tup (.cons (.d (.nil _)) (.cons (.refl _) .nil)))⟩, trivial, rfl⟩
         ·
          refine c_f h16 rfl ?_
          refine c_skip ?_
          repeat (first | refine k1 ?_ | refine k4 ?_)
          refine c_draw mixed (by kernel_rfl) ?_
          refine d_2 (.t (.d (.seq 2 (List.map cS_api_Write z1)))) (.t (.own 100 2 (List.map cS_api_Write z1))) rfl (dg0 rfl) rfl rfl rfl rfl rfl ?_
          refine d_s (.ref 8 1) rfl (dg0 rfl) rfl rfl rfl rfl ?_
          refine d_s (.t (.d (.lit (.int .i64 x3.number_)))) rfl (dg0 rfl) rfl rfl rfl rfl ?_
          refine d_s (.ref 8 2) rfl (dg0 rfl) rfl rfl rfl rfl ?_
          refine d_s (.t (.d (.seq 1 (bytesD x3.data_)))) rfl (dg0 rfl) rfl rfl rfl rfl ?_
          refine d_s (.ref 9 2) rfl (dg0 rfl) rfl rfl rfl rfl ?_
          refine d_s (.t (.d (.seq 1 (bytesD x12.data_)))) rfl (dg0 rfl) rfl rfl rfl rfl ?_
          refine d_s (.t (.own 41 1 (List.map (cSl 1 cU8) [x3.data_, x12.data_]))) rfl (dg0 rfl) rfl rfl rfl rfl ?_
          obtain ⟨x17, h18, h⟩ := bind_some h
          refine d_ca (fc_slices_Concat_byte _ _ h18) rfl (dg0 rfl) rfl rfl rfl rfl rfl rfl rfl rfl (.cons (.refl _) .nil) rfl rfl ?_
          refine d_s (.t (.agg [.lit (.int .i64 x3.number_), .seq 1 (bytesD x17)])) rfl (dg0 rfl) rfl rfl rfl rfl ?_
          refine d_s (.t (.own 100 2 (List.map cS_api_Write [(S_api_Write.mk x3.number_ x17)]))) rfl (dg0 rfl) rfl rfl rfl rfl ?_
          obtain ⟨x19, h20, h⟩ := bind_some h
          refine d_2c rfl (dg0 rfl) rfl rfl rfl rfl rfl (appE (c := cS_api_Write) h20) (appC (c := cS_api_Write) h20) ?_
          refine d_2 (.t (.d (.seq 2 (List.map cS_api_Write x19)))) (.t (.own 100 2 (List.map cS_api_Write x19))) rfl (dg0 rfl) rfl rfl rfl rfl rfl ?_
          refine d_nil (by kernel_rfl) ?_
          repeat (first | refine k1 ?_ | refine k2 ?_ | refine k3 ?_ | refine k4 ?_ | refine k5 ?_ | refine k6 ?_ | refine k7 rfl ?_)
          refine c_region ?_
          refine o_s (.t (.d (.lit (.int .i64 z2)))) (g0 rfl) rfl rfl rfl ?_
          refine o_s (.t (.d (.lit (.int .i64 (wi (z2 + 2)))))) (g0 rfl) rfl rfl rfl ?_
          refine o_s (.t (.d (.lit (.int .i64 (wi (z2 + 2)))))) (g0 rfl) rfl rfl rfl ?_
          refine o_nil ?_
          repeat (first | refine k1 ?_ | refine k4 ?_)
          exact ⟨nl1, (x19, (wi (z2 + 2))), [], Nat.lt_succ_self nl1, h, rfl, ⟨.inr ⟨_, rfl, pure_hpA _⟩, by (repeat (first | exact ObP.nil | refine ObP.cons (.inl rfl) ?_ | refine ObP.cons (.inr (fun _ => rfl)) ?_ | refine ObP.cons (.inr (ob_box (fl_noPt _ _))) ?_ | refine ObP.cons (.inr (ob_gb _ _)) ?_))⟩, ⟨(.refl _), ⟨(.refl _), ⟨(.refl _), ⟨(.refl _), ⟨(.refl _), trivial⟩⟩⟩⟩⟩, rfl⟩

theorem fch_wal_Log_says (p0 : (Option Nat)) (w0 : Hp) (r : (List S_api_Write)) (h : m_wal_Log_says p0 w0 = some r) : FCH Try.prog 67 [.t ((ptT 3 p0))] [] [] (hpA w0) (hpA w0) (.t (.own 100 2 (List.map cS_api_Write r))) := by
 refine fch_mk (rs := [.tmp 2]) (n := 22) [] Try.func67 rfl rfl (Nat.le_of_ble_eq_true rfl) rfl (pins := []) rfl (L := [(HK, .hp (hpA w0)), (0, .t ((ptT 3 p0)))]) rfl ?_
 refine c_sr ?_
 refine o_s (.t (.d (.lit (.slice none 0 0)))) (g0 rfl) rfl rfl rfl ?_
 refine o_nil ?_
 repeat (first | refine k1 ?_ | refine k4 ?_)
 refine c_sr ?_
 refine o_s (.t (.d (.lit (.slice none 0 0)))) (g0 rfl) rfl rfl rfl ?_
 refine o_nil ?_
 repeat (first | refine k1 ?_ | refine k4 ?_)
 refine c_sr ?_
 refine o_s (.t (.d (.lit (.int .i64 0)))) (g0 rfl) rfl rfl rfl ?_
 refine o_nil ?_
 repeat (first | refine k1 ?_ | refine k4 ?_)
 refine c_block ?_
 refine c_fuelH (fun (q : (List S_api_Write) × Int) => [(0, .t ((ptT 3 p0))), (3, .t (.own 100 2 (List.map cS_api_Write q.1))), (4, .t (.d (.lit (.int .i64 q.2)))), (HK, .hp (hpA w0))]) (fun nl1 => (fun (q : (List S_api_Write) × Int) => m_wal_Log_says_l1 p0 w0 nl1 q.1 q.2 = some r)) (16400) ([], 0) [] h rfl ⟨.inr ⟨_, rfl, pure_hpA _⟩, by (repeat (first | exact ObP.nil | refine ObP.cons (.inl rfl) ?_ | refine ObP.cons (.inr (fun _ => rfl)) ?_ | refine ObP.cons (.inr (ob_box (fl_noPt _ _))) ?_ | refine ObP.cons (.inr (ob_gb _ _)) ?_))⟩ ⟨(.refl _), ⟨(.t (.nilOwn _ _)), ⟨(.refl _), ⟨(.refl _), trivial⟩⟩⟩⟩ rfl ?_
 rintro nl1 ⟨z1, z2⟩ h
 cases nl1 with
 | zero => exact none_ne h
 | succ nl1 =>
  refine c_block ?_
  refine c_sr ?_
  refine o_of (e := [(8, .t ((ptT 3 p0)))]) (g0 rfl) (h_mv (Mk.refl _) (.inl rfl) (cpO_pt rfl) rfl rfl) rfl ?_
  refine o_s (.t (.d (.lit (.int .i64 z2)))) (g0 rfl) rfl rfl rfl ?_
  obtain ⟨x3, h4, h⟩ := bind_some h
  refine o_of (e := [(10, .tup [.d (.seq 2 (List.map cS_api_Write x3.1)), .d (.lit (.int .i64 x3.2))])]) (g0 rfl) (h_callR (Mk.refl _) rfl (σ := []) (fr := []) rfl rfl rfl rfl rfl rfl rfl (fch_wal_Log_one _ _ w0 _ h4) (pure_hpA _) rfl rfl rfl rfl (.cons (argPt rfl) (.cons (.plain (.refl _) rfl) .nil)) rfl (.tup (.cons (.flat rfl) (.cons (.flat rfl) .nil)))) rfl ?_
  refine o_s (.tup [.d (.seq 2 (List.map cS_api_Write x3.1)), .d (.lit (.int .i64 x3.2))]) (g0 rfl) rfl rfl rfl ?_
  refine o_s (.t (.d (.seq 2 (List.map cS_api_Write x3.1)))) (g0 rfl) rfl rfl rfl ?_
  refine o_s (.t (.d (.lit (.int .i64 x3.2)))) (g0 rfl) rfl rfl rfl ?_
  refine o_s (.t (.d (.seq 2 (List.map cS_api_Write x3.1)))) (g0 rfl) rfl rfl rfl ?_
  refine o_s (.t (.d (.lit (.int .i64 x3.2)))) (g0 rfl) rfl rfl rfl ?_
  refine o_nil ?_
  repeat (first | refine k1 ?_ | refine k4 ?_)
  refine c_seq ?_
  refine c_sr ?_
  refine o_s (.t (.d (.lit (.int .i64 x3.2)))) (g0 rfl) rfl rfl rfl ?_
  refine o_s (.t (.d (.lit (.bool (x3.2 == 0))))) (g0 rfl) rfl rfl rfl ?_
  refine o_nil ?_
  repeat (first | refine k1 ?_ | refine k4 ?_)
  rcases bif_some h with ⟨h5, h⟩ | ⟨h5, h⟩
  ·
   refine c_t h5 rfl ?_
   refine c_sr ?_
   refine o_2 (.t (.d (.seq 2 (List.map cS_api_Write z1)))) (.t (.own 100 2 (List.map cS_api_Write z1))) (g0 rfl) rfl rfl rfl ?_
   refine o_2 (.t (.d (.seq 2 (List.map cS_api_Write z1)))) (.t (.own 100 2 (List.map cS_api_Write z1))) (g0 rfl) rfl rfl rfl ?_
   refine o_nil ?_
   repeat (first | refine k1 ?_ | refine k4 ?_)
   refine c_ret ?_
   repeat (first | refine k3 ?_ | refine k5 ?_)
   obtain rfl := Option.some.inj h
   exact ⟨⟨_, rfl, (.refl _)⟩, trivial, rfl⟩
  ·
   refine c_f h5 rfl ?_
   refine c_skip ?_
   repeat (first | refine k1 ?_ | refine k4 ?_)
   refine c_sr ?_
   refine o_2 (.t (.d (.seq 2 (List.map cS_api_Write z1)))) (.t (.own 100 2 (List.map cS_api_Write z1))) (g0 rfl) rfl rfl rfl ?_
   refine o_s (.t (.d (.seq 2 (List.map cS_api_Write x3.1)))) (g0 rfl) rfl rfl rfl ?_
   obtain ⟨x6, h7, h⟩ := bind_some h
   refine o_2c (g0 rfl) rfl rfl rfl (appE (c := cS_api_Write) h7) (appC (c := cS_api_Write) h7) ?_
   refine o_2 (.t (.d (.seq 2 (List.map cS_api_Write x6)))) (.t (.own 100 2 (List.map cS_api_Write x6))) (g0 rfl) rfl rfl rfl ?_
   refine o_nil ?_
   repeat (first | refine k1 ?_ | refine k4 ?_)
   refine c_region ?_
   refine o_s (.t (.d (.lit (.int .i64 z2)))) (g0 rfl) rfl rfl rfl ?_
   refine o_s (.t (.d (.lit (.int .i64 x3.2)))) (g0 rfl) rfl rfl rfl ?_
   refine o_s (.t (.d (.lit (.int .i64 (wi (z2 + x3.2)))))) (g0 rfl) rfl rfl rfl ?_
   refine o_s (.t (.d (.lit (.int .i64 (wi (z2 + x3.2)))))) (g0 rfl) rfl rfl rfl ?_
   refine o_nil ?_
   repeat (first | refine k1 ?_ | refine k4 ?_)
   exact ⟨nl1, (x6, (wi (z2 + x3.2))), [], Nat.lt_succ_self nl1, h, rfl, ⟨.inr ⟨_, rfl, pure_hpA _⟩, by (repeat (first | exact ObP.nil | refine ObP.cons (.inl rfl) ?_ | refine ObP.cons (.inr (fun _ => rfl)) ?_ | refine ObP.cons (.inr (ob_box (fl_noPt _ _))) ?_ | refine ObP.cons (.inr (ob_gb _ _)) ?_))⟩, ⟨(.refl _), ⟨(.refl _), ⟨(.refl _), ⟨(.refl _), trivial⟩⟩⟩⟩, rfl⟩

theorem fch_wal_Log_alive (p0 : (Option Nat)) (w0 : Hp) (r : Int) (h : m_wal_Log_alive p0 w0 = some r) : FCH Try.prog 69 [.t ((ptT 3 p0))] [] [] (hpA w0) (hpA w0) (.t (.d (.lit (.int .i64 r)))) := by
 refine fch_mk (rs := [.tmp 2]) (n := 31) [] Try.func69 rfl rfl (Nat.le_of_ble_eq_true rfl) rfl (pins := []) rfl (L := [(HK, .hp (hpA w0)), (0, .t ((ptT 3 p0)))]) rfl ?_
 refine c_sr ?_
 refine o_s (.t (.d (.lit (.int .i64 0)))) (g0 rfl) rfl rfl rfl ?_
 refine o_nil ?_
 repeat (first | refine k1 ?_ | refine k4 ?_)
 refine c_seq ?_
 refine c_block ?_
 refine c_cutH (fun (y1 : Bool) => [(0, .t ((ptT 3 p0))), (3, .t (.d (.lit (.bool y1)))), (HK, .hp (hpA w0))]) (fun (y1 : Bool) => m_wal_Log_alive_j1 p0 w0 y1 = some r) ?_ ?_
 ·
  refine c_region ?_
  refine o_of (e := [(4, .t ((ptT 3 p0)))]) (g0 rfl) (h_mv (Mk.refl _) (.inl rfl) (cpO_pt rfl) rfl rfl) rfl ?_
  rcases ptM_some h with ⟨h13, h⟩ | ⟨i14, h13, h⟩
  ·
   refine o_of (e := [(5, .t (.d (.lit (.bool true))))]) (g0 rfl) (h_pn (Mk.refl _) (ng := false) rfl rfl rfl (pn_none rfl h13) rfl rfl) rfl ?_
   refine o_s (.t (.d (.lit (.bool true)))) (g0 rfl) rfl rfl rfl ?_
   refine o_skip rfl rfl rfl rfl rfl rfl ?_
   refine o_skip rfl rfl rfl rfl rfl rfl ?_
   refine o_skip rfl rfl rfl rfl rfl rfl ?_
   refine o_skip rfl rfl rfl rfl rfl rfl ?_
   refine o_skip rfl rfl rfl rfl rfl rfl ?_
   refine o_pk (.t (.d (.lit (.bool true)))) (b := true) rfl (g0 rfl) rfl rfl rfl rfl rfl ?_
   refine o_s (.t (.d (.lit (.bool true)))) (g0 rfl) rfl rfl rfl ?_
   refine o_nil ?_
   repeat (first | refine k1 ?_ | refine k4 ?_)
   exact ⟨true, [], h, rfl, ⟨.inr ⟨_, rfl, pure_hpA _⟩, by (repeat (first | exact ObP.nil | refine ObP.cons (.inl rfl) ?_ | refine ObP.cons (.inr (fun _ => rfl)) ?_ | refine ObP.cons (.inr (ob_box (fl_noPt _ _))) ?_ | refine ObP.cons (.inr (ob_gb _ _)) ?_))⟩, ⟨(.refl _), ⟨(.refl _), ⟨(.refl _), trivial⟩⟩⟩, rfl⟩
  ·
   refine o_of (e := [(5, .t (.d (.lit (.bool false))))]) (g0 rfl) (h_pn (Mk.refl _) (ng := false) rfl rfl rfl (pn_some rfl h13) rfl rfl) rfl ?_
   refine o_s (.t (.d (.lit (.bool false)))) (g0 rfl) rfl rfl rfl ?_
   refine o_of (e := [(7, .t (.hpt (cd 3 i14) 0))]) (gy rfl rfl rfl rfl) (h_mv (Mk.refl _) (.inl rfl) ((cpO_pt rfl).trans (pt_eq_some h13)) rfl rfl) rfl ?_
   refine o_of (e := [(8, .t (.hpt (cd 3 i14) 0))]) (gy rfl rfl rfl rfl) (h_nc (Mk.refl _) rfl rfl rfl rfl rfl) rfl ?_
   refine o_of (e := [(9, .t (.hpt (cd 3 i14) 0))]) (gy rfl rfl rfl rfl) (h_fd (Mk.refl _) rfl rfl rfl rfl rfl rfl) rfl ?_
   obtain ⟨x15, h16, h⟩ := bind_some h
   refine o_of (e := [(10, .t ((ptT 1 x15.d_)))]) (gy rfl rfl rfl rfl) (h_ld (Mk.refl _) rfl rfl rfl rfl (gl_lg h16) rfl (norH_pt _ _) rfl rfl) rfl ?_
   rcases ptM_some h with ⟨h17, h⟩ | ⟨i18, h17, h⟩
   ·
    refine o_of (e := [(11, .t (.d (.lit (.bool true))))]) (gy rfl rfl rfl rfl) (h_pn (Mk.refl _) (ng := false) rfl rfl rfl (pn_none rfl h17) rfl rfl) rfl ?_
    refine o_pk (.t (.d (.lit (.bool true)))) (b := false) rfl (g0 rfl) rfl rfl rfl rfl rfl ?_
    refine o_s (.t (.d (.lit (.bool true)))) (g0 rfl) rfl rfl rfl ?_
    refine o_nil ?_
    repeat (first | refine k1 ?_ | refine k4 ?_)
    exact ⟨true, [], h, rfl, ⟨.inr ⟨_, rfl, pure_hpA _⟩, by (repeat (first | exact ObP.nil | refine ObP.cons (.inl rfl) ?_ | refine ObP.cons (.inr (fun _ => rfl)) ?_ | refine ObP.cons (.inr (ob_box (fl_noPt _ _))) ?_ | refine ObP.cons (.inr (ob_gb _ _)) ?_))⟩, ⟨(.refl _), ⟨(.refl _), ⟨(.refl _), trivial⟩⟩⟩, rfl⟩
   ·
    refine o_of (e := [(11, .t (.d (.lit (.bool false))))]) (gy rfl rfl rfl rfl) (h_pn (Mk.refl _) (ng := false) rfl rfl rfl (pn_some rfl h17) rfl rfl) rfl ?_
    refine o_pk (.t (.d (.lit (.bool false)))) (b := false) rfl (g0 rfl) rfl rfl rfl rfl rfl ?_
    refine o_s (.t (.d (.lit (.bool false)))) (g0 rfl) rfl rfl rfl ?_
    refine o_nil ?_
    repeat (first | refine k1 ?_ | refine k4 ?_)
    exact ⟨false, [], h, rfl, ⟨.inr ⟨_, rfl, pure_hpA _⟩, by (repeat (first | exact ObP.nil | refine ObP.cons (.inl rfl) ?_ | refine ObP.cons (.inr (fun _ => rfl)) ?_ | refine ObP.cons (.inr (ob_box (fl_noPt _ _))) ?_ | refine ObP.cons (.inr (ob_gb _ _)) ?_))⟩, ⟨(.refl _), ⟨(.refl _), ⟨(.refl _), trivial⟩⟩⟩, rfl⟩
 ·
  rintro y1 h
  rcases bif_some h with ⟨h2, h⟩ | ⟨h2, h⟩
  ·
   refine c_t h2 rfl ?_
   refine c_sr ?_
   refine o_s (.t (.d (.lit (.int .i64 1)))) (g0 rfl) rfl rfl rfl ?_
   refine o_nil ?_
   repeat (first | refine k1 ?_ | refine k4 ?_)
   refine c_ret ?_
   repeat (first | refine k3 ?_ | refine k5 ?_)
   obtain rfl := Option.some.inj h
   exact ⟨⟨_, rfl, (.refl _)⟩, trivial, rfl⟩
  ·
   refine c_f h2 rfl ?_
   refine c_seq ?_
   refine c_draw mixed (by kernel_rfl) ?_
   refine d_h0 [] (e := [(14, .t ((ptT 3 p0)))]) (ks := [14]) rfl (dg0 rfl) rfl rfl (fun S' hM hok => h_mv hM (.inl rfl) (cpO_pt rfl) rfl (hok _ rfl rfl)) rfl ?_
   rcases ptM_some h with ⟨h3, h⟩ | ⟨i4, h3, h⟩
   ·
    exact none_ne h
   ·
    refine d_h0 [] (e := [(15, .t (.hpt (cd 3 i4) 0))]) (ks := [15]) rfl (dg0 rfl) rfl rfl (fun S' hM hok => h_nc hM rfl (cpO_pt rfl) (ptT_some h3) rfl (hok _ rfl rfl)) rfl ?_
    refine d_h0 [] (e := [(16, .t (.hpt (cd 3 i4) 0))]) (ks := [16]) rfl (dg0 rfl) rfl rfl (fun S' hM hok => h_fd hM rfl rfl rfl rfl rfl (hok _ rfl rfl)) rfl ?_
    obtain ⟨x5, h6, h⟩ := bind_some h
    refine d_h (e := [(17, .t ((ptT 1 x5.d_)))]) (ks := [17]) rfl (dg0 rfl) rfl rfl (fun S' hM hk hok => h_ld hM hk rfl rfl rfl (gl_lg h6) rfl (norH_pt _ _) rfl (hok _ rfl rfl)) rfl ?_
    obtain ⟨x7, h8, h⟩ := bind_some h
    refine d_h (e := [(18, .t (.d (.lit (.bool x7))))]) (ks := [18]) rfl (dg0 rfl) rfl rfl (fun S' hM hk hok => h_callR hM hk (σ := []) (fr := []) rfl rfl rfl (hok _ rfl rfl) rfl rfl rfl (fch_disk_Disk_Off _ w0 _ h8) (pure_hpA _) rfl rfl rfl rfl (.cons (argPt rfl) .nil) rfl (.t (.flat rfl))) rfl ?_
    refine d_s (.t (.d (.lit (.bool x7)))) rfl (dg0 rfl) rfl rfl rfl rfl ?_
    rcases bif_some h with ⟨h9, h⟩ | ⟨h9, h⟩
    ·
     refine d_skip rfl rfl rfl rfl rfl h9 rfl rfl rfl ?_
     refine d_skip rfl rfl rfl rfl rfl h9 rfl rfl rfl ?_
     refine d_skip rfl rfl rfl rfl rfl h9 rfl rfl rfl ?_
     refine d_skip rfl rfl rfl rfl rfl h9 rfl rfl rfl ?_
     refine d_skip rfl rfl rfl rfl rfl h9 rfl rfl rfl ?_
     refine d_skip rfl rfl rfl rfl rfl h9 rfl rfl rfl ?_
     refine d_skip rfl rfl rfl rfl rfl h9 rfl rfl rfl ?_
     refine d_skip rfl rfl rfl rfl rfl h9 rfl rfl rfl ?_
     refine d_skip rfl rfl rfl rfl rfl h9 rfl rfl rfl ?_
     refine d_skip rfl rfl rfl rfl rfl h9 rfl rfl rfl ?_
     refine d_pk (.t (.d (.lit (.bool true)))) (b := true) h9 rfl (dg0 rfl) rfl rfl rfl rfl rfl rfl ?_
     refine d_s (.t (.d (.lit (.bool true)))) rfl (dg0 rfl) rfl rfl rfl rfl ?_
     refine d_nil (by kernel_rfl) ?_
     repeat (first | refine k1 ?_ | refine k2 ?_ | refine k3 ?_ | refine k4 ?_ | refine k5 ?_ | refine k6 ?_ | refine k7 rfl ?_)
     refine c_t rfl rfl ?_
     refine c_sr ?_
     refine o_s (.t (.d (.lit (.int .i64 30)))) (g0 rfl) rfl rfl rfl ?_
     refine o_nil ?_
     repeat (first | refine k1 ?_ | refine k4 ?_)
     refine c_ret ?_
     repeat (first | refine k3 ?_ | refine k5 ?_)
     obtain rfl := Option.some.inj h
     exact ⟨⟨_, rfl, (.refl _)⟩, trivial, rfl⟩
    ·
     refine d_h0 [] (e := [(20, .t (.hpt (cd 3 i4) 0))]) (ks := [20]) rfl (dgy rfl rfl rfl rfl h9) rfl rfl (fun S' hM hok => h_mv hM (.inl rfl) ((cpO_pt rfl).trans (pt_eq_some h3)) rfl (hok _ rfl rfl)) rfl ?_
     refine d_h0 [] (e := [(21, .t (.hpt (cd 3 i4) 0))]) (ks := [21]) rfl (dgy rfl rfl rfl rfl h9) rfl rfl (fun S' hM hok => h_nc hM rfl rfl rfl rfl (hok _ rfl rfl)) rfl ?_
     refine d_h0 [] (e := [(22, .t (.hpt (cd 3 i4) 0))]) (ks := [22]) rfl (dgy rfl rfl rfl rfl h9) rfl rfl (fun S' hM hok => h_fd hM rfl rfl rfl rfl rfl (hok _ rfl rfl)) rfl ?_
     refine d_h (e := [(23, .t ((ptT 1 x5.d_)))]) (ks := [23]) rfl (dgy rfl rfl rfl rfl h9) rfl rfl (fun S' hM hk hok => h_ld hM hk rfl rfl rfl (gl_lg h6) rfl (norH_pt _ _) rfl (hok _ rfl rfl)) rfl ?_
     obtain ⟨x10, h11, h⟩ := bind_some h
     refine d_h (e := [(24, .t (.d (.lit (.int .i64 x10))))]) (ks := [24]) rfl (dgy rfl rfl rfl rfl h9) rfl rfl (fun S' hM hk hok => h_callR hM hk (σ := []) (fr := []) rfl rfl rfl (hok _ rfl rfl) rfl rfl rfl (fch_disk_Disk_Lives _ w0 _ h11) (pure_hpA _) rfl rfl rfl rfl (.cons (argPt rfl) .nil) rfl (.t (.flat rfl))) rfl ?_
     refine d_h0 [] (e := [(25, .t (.hpt (cd 3 i4) 0))]) (ks := [25]) rfl (dgy rfl rfl rfl rfl h9) rfl rfl (fun S' hM hok => h_mv hM (.inl rfl) ((cpO_pt rfl).trans (pt_eq_some h3)) rfl (hok _ rfl rfl)) rfl ?_
     refine d_h0 [] (e := [(26, .t (.hpt (cd 3 i4) 0))]) (ks := [26]) rfl (dgy rfl rfl rfl rfl h9) rfl rfl (fun S' hM hok => h_nc hM rfl rfl rfl rfl (hok _ rfl rfl)) rfl ?_
     refine d_h0 [] (e := [(27, .t (.hpt (cd 3 i4) 5))]) (ks := [27]) rfl (dgy rfl rfl rfl rfl h9) rfl rfl (fun S' hM hok => h_fd hM rfl rfl rfl rfl rfl (hok _ rfl rfl)) rfl ?_
     refine d_h (e := [(28, .t (.d (.lit (.int .i64 x5.life_))))]) (ks := [28]) rfl (dgy rfl rfl rfl rfl h9) rfl rfl (fun S' hM hk hok => h_ld hM hk rfl rfl rfl (gl_lg h6) rfl rfl rfl (hok _ rfl rfl)) rfl ?_
     refine d_s (.t (.d (.lit (.bool (x10 != x5.life_))))) rfl (dgy rfl rfl rfl rfl h9) rfl rfl rfl rfl ?_
     refine d_pk (.t (.d (.lit (.bool (x10 != x5.life_))))) (b := false) h9 rfl (dg0 rfl) rfl rfl rfl rfl rfl rfl ?_
     refine d_s (.t (.d (.lit (.bool (x10 != x5.life_))))) rfl (dg0 rfl) rfl rfl rfl rfl ?_
     refine d_nil (by kernel_rfl) ?_
     repeat (first | refine k1 ?_ | refine k2 ?_ | refine k3 ?_ | refine k4 ?_ | refine k5 ?_ | refine k6 ?_ | refine k7 rfl ?_)
     rcases bif_some h with ⟨h12, h⟩ | ⟨h12, h⟩
     ·
      refine c_t h12 rfl ?_
      refine c_sr ?_
      refine o_s (.t (.d (.lit (.int .i64 30)))) (g0 rfl) rfl rfl rfl ?_
      refine o_nil ?_
      repeat (first | refine k1 ?_ | refine k4 ?_)
      refine c_ret ?_
      repeat (first | refine k3 ?_ | refine k5 ?_)
      obtain rfl := Option.some.inj h
      exact ⟨⟨_, rfl, (.refl _)⟩, trivial, rfl⟩
     ·
      refine c_f h12 rfl ?_
      refine c_skip ?_
      repeat (first | refine k1 ?_ | refine k4 ?_)
      refine c_sr ?_
      refine o_s (.t (.d (.lit (.int .i64 0)))) (g0 rfl) rfl rfl rfl ?_
      refine o_nil ?_
      repeat (first | refine k1 ?_ | refine k4 ?_)
      refine c_ret ?_
      repeat (first | refine k3 ?_ | refine k5 ?_)
      obtain rfl := Option.some.inj h
      exact ⟨⟨_, rfl, (.refl _)⟩, trivial, rfl⟩

theorem fch_wal_Log_raise (p0 : (Option Nat)) (w0 : Hp) (r : (Int × Hp)) (h : m_wal_Log_raise p0 w0 = some r) : FCH Try.prog 111 [.t ((ptT 3 p0))] [] [] (hpA w0) (hpA r.2) (.t (.d (.lit (.int .i64 r.1)))) := by
 refine fch_mk (rs := [.tmp 2]) (n := 60) [] Try.func111 rfl rfl (Nat.le_of_ble_eq_true rfl) rfl (pins := []) rfl (L := [(HK, .hp (hpA w0)), (0, .t ((ptT 3 p0)))]) rfl ?_
 refine c_sr ?_
 refine o_s (.t (.d (.lit (.int .i64 0)))) (g0 rfl) rfl rfl rfl ?_
 refine o_nil ?_
 repeat (first | refine k1 ?_ | refine k4 ?_)
 refine c_sr ?_
 refine o_of (e := [(6, .t ((ptT 3 p0)))]) (g0 rfl) (h_mv (Mk.refl _) (.inl rfl) (cpO_pt rfl) rfl rfl) rfl ?_
 rcases ptM_some h with ⟨h1, h⟩ | ⟨i2, h1, h⟩
 ·
  exact none_ne h
 ·
  refine o_of (e := [(7, .t (.hpt (cd 3 i2) 0))]) (g0 rfl) (h_nc (Mk.refl _) rfl (cpO_pt rfl) (ptT_some h1) rfl rfl) rfl ?_
  refine o_of (e := [(8, .t (.hpt (cd 3 i2) 3))]) (g0 rfl) (h_fd (Mk.refl _) rfl rfl rfl rfl rfl rfl) rfl ?_
  obtain ⟨x3, h4, h⟩ := bind_some h
  refine o_of (e := [(9, .t (.d (.lit (.int .i64 x3.slot_))))]) (g0 rfl) (h_ld (Mk.refl _) rfl rfl rfl rfl (gl_lg h4) rfl rfl rfl rfl) rfl ?_
  refine o_s (.t (.d (.lit (.int .i64 (wi (1 - x3.slot_)))))) (g0 rfl) rfl rfl rfl ?_
  refine o_s (.t (.d (.lit (.int .i64 (wi (1 - x3.slot_)))))) (g0 rfl) rfl rfl rfl ?_
  refine o_nil ?_
  repeat (first | refine k1 ?_ | refine k4 ?_)
  refine c_seq ?_
  refine c_seq ?_
  refine c_draw mixed (by kernel_rfl) ?_
  refine d_h0 [] (e := [(11, .t (.hpt (cd 3 i2) 0))]) (ks := [11]) rfl (dg0 rfl) rfl rfl (fun S' hM hok => h_mv hM (.inl rfl) ((cpO_pt rfl).trans (pt_eq_some h1)) rfl (hok _ rfl rfl)) rfl ?_
  refine d_h0 [] (e := [(12, .t (.hpt (cd 3 i2) 0))]) (ks := [12]) rfl (dg0 rfl) rfl rfl (fun S' hM hok => h_nc hM rfl rfl rfl rfl (hok _ rfl rfl)) rfl ?_
  refine d_h0 [] (e := [(13, .t (.hpt (cd 3 i2) 0))]) (ks := [13]) rfl (dg0 rfl) rfl rfl (fun S' hM hok => h_fd hM rfl rfl rfl rfl rfl (hok _ rfl rfl)) rfl ?_
  refine d_h (e := [(14, .t ((ptT 1 x3.d_)))]) (ks := [14]) rfl (dg0 rfl) rfl rfl (fun S' hM hk hok => h_ld hM hk rfl rfl rfl (gl_lg h4) rfl (norH_pt _ _) rfl (hok _ rfl rfl)) rfl ?_
  refine d_s (.t (.d (.lit (.int .i64 (wi (1 - x3.slot_)))))) rfl (dg0 rfl) rfl rfl rfl rfl ?_
  refine d_h0 [] (e := [(16, .t (.hpt (cd 3 i2) 0))]) (ks := [16]) rfl (dg0 rfl) rfl rfl (fun S' hM hok => h_mv hM (.inl rfl) ((cpO_pt rfl).trans (pt_eq_some h1)) rfl (hok _ rfl rfl)) rfl ?_
  refine d_h0 [] (e := [(17, .t (.hpt (cd 3 i2) 0))]) (ks := [17]) rfl (dg0 rfl) rfl rfl (fun S' hM hok => h_nc hM rfl rfl rfl rfl (hok _ rfl rfl)) rfl ?_
  refine d_h0 [] (e := [(18, .t (.hpt (cd 3 i2) 2))]) (ks := [18]) rfl (dg0 rfl) rfl rfl (fun S' hM hok => h_fd hM rfl rfl rfl rfl rfl (hok _ rfl rfl)) rfl ?_
  refine d_h (e := [(19, .t (.d (.lit (.int .i64 x3.base_))))]) (ks := [19]) rfl (dg0 rfl) rfl rfl (fun S' hM hk hok => h_ld hM hk rfl rfl rfl (gl_lg h4) rfl rfl rfl (hok _ rfl rfl)) rfl ?_
  refine d_h0 [] (e := [(20, .t (.hpt (cd 3 i2) 0))]) (ks := [20]) rfl (dg0 rfl) rfl rfl (fun S' hM hok => h_mv hM (.inl rfl) ((cpO_pt rfl).trans (pt_eq_some h1)) rfl (hok _ rfl rfl)) rfl ?_
  refine d_h0 [] (e := [(21, .t (.hpt (cd 3 i2) 0))]) (ks := [21]) rfl (dg0 rfl) rfl rfl (fun S' hM hok => h_nc hM rfl rfl rfl rfl (hok _ rfl rfl)) rfl ?_
  refine d_h0 [] (e := [(22, .t (.hpt (cd 3 i2) 1))]) (ks := [22]) rfl (dg0 rfl) rfl rfl (fun S' hM hok => h_fd hM rfl rfl rfl rfl rfl (hok _ rfl rfl)) rfl ?_
  refine d_h (e := [(23, .t (.d (.lit (.int .i64 x3.size_))))]) (ks := [23]) rfl (dg0 rfl) rfl rfl (fun S' hM hk hok => h_ld hM hk rfl rfl rfl (gl_lg h4) rfl rfl rfl (hok _ rfl rfl)) rfl ?_
  refine d_s (.t (.d (.lit (.int .i64 (wi (x3.base_ + x3.size_)))))) rfl (dg0 rfl) rfl rfl rfl rfl ?_
  refine d_h0 [] (e := [(25, .t (.hpt (cd 3 i2) 0))]) (ks := [25]) rfl (dg0 rfl) rfl rfl (fun S' hM hok => h_mv hM (.inl rfl) ((cpO_pt rfl).trans (pt_eq_some h1)) rfl (hok _ rfl rfl)) rfl ?_
  refine d_h0 [] (e := [(26, .t (.hpt (cd 3 i2) 0))]) (ks := [26]) rfl (dg0 rfl) rfl rfl (fun S' hM hok => h_nc hM rfl rfl rfl rfl (hok _ rfl rfl)) rfl ?_
  refine d_h0 [] (e := [(27, .t (.hpt (cd 3 i2) 1))]) (ks := [27]) rfl (dg0 rfl) rfl rfl (fun S' hM hok => h_fd hM rfl rfl rfl rfl rfl (hok _ rfl rfl)) rfl ?_
  refine d_h (e := [(28, .t (.d (.lit (.int .i64 x3.size_))))]) (ks := [28]) rfl (dg0 rfl) rfl rfl (fun S' hM hk hok => h_ld hM hk rfl rfl rfl (gl_lg h4) rfl rfl rfl (hok _ rfl rfl)) rfl ?_
  obtain ⟨x5, h6, h⟩ := bind_some h
  refine d_h (e := [(29, .t (.d (.seq 1 (bytesD x5))))]) (ks := [29]) rfl (dg0 rfl) rfl rfl (fun S' hM hk hok => h_callR hM hk (σ := []) (fr := []) rfl rfl rfl (hok _ rfl rfl) rfl rfl rfl (fch_wal_slotBytes _ _ w0 _ h6) (pure_hpA _) rfl rfl rfl rfl (.cons (.plain (.refl _) rfl) (.cons (.plain (.refl _) rfl) .nil)) rfl (.t (.flat rfl))) rfl ?_
  obtain ⟨x7, h8, h⟩ := bind_some h
  refine d_h (e := [(HK, .hp (hpA x7.2)), (30, .t (.d (.lit (.int .i64 x7.1))))]) (ks := [HK, 30]) rfl (dg0 rfl) rfl rfl (fun S' hM hk hok => h_call hM hk (σ := []) (fr := []) rfl rfl rfl (hok _ rfl rfl) rfl rfl rfl (fch_disk_Disk_Write _ _ _ w0 _ h8) (pure_hpA _) (pure_hpA _) rfl rfl rfl rfl (.cons (argPt rfl) (.cons (.plain (.refl _) rfl) (.cons (.plain (.refl _) rfl) .nil))) rfl (.t (.flat rfl))) rfl ?_
  refine d_s (.t (.d (.lit (.int .i64 x7.1)))) rfl (dg0 rfl) rfl rfl rfl rfl ?_
  refine d_nil (by kernel_rfl) ?_
  repeat (first | refine k1 ?_ | refine k2 ?_ | refine k3 ?_ | refine k4 ?_ | refine k5 ?_ | refine k6 ?_ | refine k7 rfl ?_)
  refine c_sr ?_
  refine o_s (.t (.d (.lit (.int .i64 x7.1)))) (g0 rfl) rfl rfl rfl ?_
  refine o_s (.t (.d (.lit (.bool (x7.1 != 0))))) (g0 rfl) rfl rfl rfl ?_
  refine o_nil ?_
  repeat (first | refine k1 ?_ | refine k4 ?_)
  rcases bif_some h with ⟨h9, h⟩ | ⟨h9, h⟩
  ·
   refine c_t h9 rfl ?_
   refine c_sr ?_
   refine o_s (.t (.d (.lit (.int .i64 x7.1)))) (g0 rfl) rfl rfl rfl ?_
   refine o_s (.t (.d (.lit (.int .i64 x7.1)))) (g0 rfl) rfl rfl rfl ?_
   refine o_nil ?_
   repeat (first | refine k1 ?_ | refine k4 ?_)
   refine c_ret ?_
   repeat (first | refine k3 ?_ | refine k5 ?_)
   obtain rfl := Option.some.inj h
   exact ⟨⟨_, rfl, (.refl _)⟩, trivial, rfl⟩
  ·
   refine c_f h9 rfl ?_
   refine c_skip ?_
   repeat (first | refine k1 ?_ | refine k4 ?_)
   refine c_seq ?_
   refine c_sr ?_
   refine o_of (e := [(34, .t (.hpt (cd 3 i2) 0))]) (g0 rfl) (h_mv (Mk.refl _) (.inl rfl) ((cpO_pt rfl).trans (pt_eq_some h1)) rfl rfl) rfl ?_
   refine o_of (e := [(35, .t (.hpt (cd 3 i2) 0))]) (g0 rfl) (h_nc (Mk.refl _) rfl rfl rfl rfl rfl) rfl ?_
   refine o_of (e := [(36, .t (.hpt (cd 3 i2) 0))]) (g0 rfl) (h_fd (Mk.refl _) rfl rfl rfl rfl rfl rfl) rfl ?_
   obtain ⟨x10, h11, h⟩ := bind_some h
   refine o_of (e := [(37, .t ((ptT 1 x10.d_)))]) (g0 rfl) (h_ld (Mk.refl _) rfl rfl rfl rfl (gl_lg h11) rfl (norH_pt _ _) rfl rfl) rfl ?_
   obtain ⟨x12, h13, h⟩ := bind_some h
   refine o_of (e := [(HK, .hp (hpA x12.2)), (38, .t (.d (.lit (.int .i64 x12.1))))]) (g0 rfl) (h_call (Mk.refl _) rfl (σ := []) (fr := []) rfl rfl rfl rfl rfl rfl rfl (fch_disk_Disk_Flush _ x7.2 _ h13) (pure_hpA _) (pure_hpA _) rfl rfl rfl rfl (.cons (argPt rfl) .nil) rfl (.t (.flat rfl))) rfl ?_
   refine o_s (.t (.d (.lit (.int .i64 x12.1)))) (g0 rfl) rfl rfl rfl ?_
   refine o_nil ?_
   repeat (first | refine k1 ?_ | refine k4 ?_)
   refine c_sr ?_
   refine o_s (.t (.d (.lit (.int .i64 x12.1)))) (g0 rfl) rfl rfl rfl ?_
   refine o_s (.t (.d (.lit (.bool (x12.1 != 0))))) (g0 rfl) rfl rfl rfl ?_
   refine o_nil ?_
   repeat (first | refine k1 ?_ | refine k4 ?_)
   rcases bif_some h with ⟨h14, h⟩ | ⟨h14, h⟩
   ·
    refine c_t h14 rfl ?_
    refine c_sr ?_
    refine o_s (.t (.d (.lit (.int .i64 x12.1)))) (g0 rfl) rfl rfl rfl ?_
    refine o_s (.t (.d (.lit (.int .i64 x12.1)))) (g0 rfl) rfl rfl rfl ?_
    refine o_nil ?_
    repeat (first | refine k1 ?_ | refine k4 ?_)
    refine c_ret ?_
    repeat (first | refine k3 ?_ | refine k5 ?_)
    obtain rfl := Option.some.inj h
    exact ⟨⟨_, rfl, (.refl _)⟩, trivial, rfl⟩
   ·
    refine c_f h14 rfl ?_
    refine c_skip ?_
    repeat (first | refine k1 ?_ | refine k4 ?_)
    refine c_sr ?_
    refine o_of (e := [(42, .t (.hpt (cd 3 i2) 0))]) (g0 rfl) (h_mv (Mk.refl _) (.inl rfl) ((cpO_pt rfl).trans (pt_eq_some h1)) rfl rfl) rfl ?_
    refine o_of (e := [(43, .t (.hpt (cd 3 i2) 0))]) (g0 rfl) (h_mv (Mk.refl _) (.inl rfl) ((cpO_pt rfl).trans (pt_eq_some h1)) rfl rfl) rfl ?_
    refine o_s (.t (.d (.lit (.int .i64 (wi (1 - x3.slot_)))))) (g0 rfl) rfl rfl rfl ?_
    refine o_of (e := [(45, .t (.hpt (cd 3 i2) 0))]) (g0 rfl) (h_nc (Mk.refl _) rfl rfl rfl rfl rfl) rfl ?_
    refine o_of (e := [(46, .t (.hpt (cd 3 i2) 3))]) (g0 rfl) (h_fd (Mk.refl _) rfl rfl rfl rfl rfl rfl) rfl ?_
    obtain ⟨x15, h16, h⟩ := bind_some h
    refine o_of (e := [(HK, .hp (hpA (x12.2.st_lg i2 (S_wal_Log.mk x15.d_ x15.size_ x15.base_ (wi (1 - x3.slot_)) x15.used_ x15.life_ x15.commits_))))]) (g0 rfl) (h_st (Mk.refl _) rfl rfl rfl rfl rfl (gl_lg h16) rfl rfl (Nat.le_of_ble_eq_true rfl) rfl (su_lg (x' := (S_wal_Log.mk x15.d_ x15.size_ x15.base_ (wi (1 - x3.slot_)) x15.used_ x15.life_ x15.commits_)) h16)) rfl ?_
    refine o_of (e := [(47, .t (.hpt (cd 3 i2) 0))]) (g0 rfl) (h_nc (Mk.refl _) rfl rfl rfl rfl rfl) rfl ?_
    refine o_of (e := [(48, .t (.hpt (cd 3 i2) 4))]) (g0 rfl) (h_fd (Mk.refl _) rfl rfl rfl rfl rfl rfl) rfl ?_
    refine o_of (e := [(HK, .hp (hpA ((x12.2.st_lg i2 (S_wal_Log.mk x15.d_ x15.size_ x15.base_ (wi (1 - x3.slot_)) x15.used_ x15.life_ x15.commits_)).st_lg i2 (S_wal_Log.mk x15.d_ x15.size_ x15.base_ (wi (1 - x3.slot_)) 0 x15.life_ x15.commits_))))]) (g0 rfl) (h_st (Mk.refl _) rfl rfl rfl rfl rfl (gl_lg (set_get h16)) rfl rfl (Nat.le_of_ble_eq_true rfl) rfl (su_lg (x' := (S_wal_Log.mk x15.d_ x15.size_ x15.base_ (wi (1 - x3.slot_)) 0 x15.life_ x15.commits_)) (set_get h16))) rfl ?_
    refine o_nil ?_
    repeat (first | refine k1 ?_ | refine k4 ?_)
    refine c_seq ?_
    refine c_draw mixed (by kernel_rfl) ?_
    refine d_h0 [] (e := [(49, .t (.hpt (cd 3 i2) 0))]) (ks := [49]) rfl (dg0 rfl) rfl rfl (fun S' hM hok => h_mv hM (.inl rfl) ((cpO_pt rfl).trans (pt_eq_some h1)) rfl (hok _ rfl rfl)) rfl ?_
    refine d_h0 [] (e := [(50, .t (.hpt (cd 3 i2) 0))]) (ks := [50]) rfl (dg0 rfl) rfl rfl (fun S' hM hok => h_nc hM rfl rfl rfl rfl (hok _ rfl rfl)) rfl ?_
    refine d_h0 [] (e := [(51, .t (.hpt (cd 3 i2) 2))]) (ks := [51]) rfl (dg0 rfl) rfl rfl (fun S' hM hok => h_fd hM rfl rfl rfl rfl rfl (hok _ rfl rfl)) rfl ?_
    refine d_h (e := [(52, .t (.d (.lit (.int .i64 ((S_wal_Log.mk x15.d_ x15.size_ x15.base_ (wi (1 - x3.slot_)) 0 x15.life_ x15.commits_).base_)))))]) (ks := [52]) rfl (dg0 rfl) rfl rfl (fun S' hM hk hok => h_ld hM hk rfl rfl rfl (gl_lg (set_get (set_get h16))) rfl rfl rfl (hok _ rfl rfl)) rfl ?_
    refine d_h0 [] (e := [(53, .t (.hpt (cd 3 i2) 0))]) (ks := [53]) rfl (dg0 rfl) rfl rfl (fun S' hM hok => h_mv hM (.inl rfl) ((cpO_pt rfl).trans (pt_eq_some h1)) rfl (hok _ rfl rfl)) rfl ?_
    refine d_h0 [] (e := [(54, .t (.hpt (cd 3 i2) 0))]) (ks := [54]) rfl (dg0 rfl) rfl rfl (fun S' hM hok => h_nc hM rfl rfl rfl rfl (hok _ rfl rfl)) rfl ?_
    refine d_h0 [] (e := [(55, .t (.hpt (cd 3 i2) 1))]) (ks := [55]) rfl (dg0 rfl) rfl rfl (fun S' hM hok => h_fd hM rfl rfl rfl rfl rfl (hok _ rfl rfl)) rfl ?_
    refine d_h (e := [(56, .t (.d (.lit (.int .i64 ((S_wal_Log.mk x15.d_ x15.size_ x15.base_ (wi (1 - x3.slot_)) 0 x15.life_ x15.commits_).size_)))))]) (ks := [56]) rfl (dg0 rfl) rfl rfl (fun S' hM hk hok => h_ld hM hk rfl rfl rfl (gl_lg (set_get (set_get h16))) rfl rfl rfl (hok _ rfl rfl)) rfl ?_
    refine d_s (.t (.d (.lit (.int .i64 (wi (((S_wal_Log.mk x15.d_ x15.size_ x15.base_ (wi (1 - x3.slot_)) 0 x15.life_ x15.commits_).base_) + ((S_wal_Log.mk x15.d_ x15.size_ x15.base_ (wi (1 - x3.slot_)) 0 x15.life_ x15.commits_).size_))))))) rfl (dg0 rfl) rfl rfl rfl rfl ?_
    refine d_h0 [] (e := [(58, .t (.hpt (cd 3 i2) 0))]) (ks := [58]) rfl (dg0 rfl) rfl rfl (fun S' hM hok => h_nc hM rfl rfl rfl rfl (hok _ rfl rfl)) rfl ?_
    refine d_h0 [] (e := [(59, .t (.hpt (cd 3 i2) 2))]) (ks := [59]) rfl (dg0 rfl) rfl rfl (fun S' hM hok => h_fd hM rfl rfl rfl rfl rfl (hok _ rfl rfl)) rfl ?_
    refine d_h (e := [(HK, .hp (hpA (((x12.2.st_lg i2 (S_wal_Log.mk x15.d_ x15.size_ x15.base_ (wi (1 - x3.slot_)) x15.used_ x15.life_ x15.commits_)).st_lg i2 (S_wal_Log.mk x15.d_ x15.size_ x15.base_ (wi (1 - x3.slot_)) 0 x15.life_ x15.commits_)).st_lg i2 (S_wal_Log.mk x15.d_ x15.size_ (wi (((S_wal_Log.mk x15.d_ x15.size_ x15.base_ (wi (1 - x3.slot_)) 0 x15.life_ x15.commits_).base_) + ((S_wal_Log.mk x15.d_ x15.size_ x15.base_ (wi (1 - x3.slot_)) 0 x15.life_ x15.commits_).size_))) (wi (1 - x3.slot_)) 0 x15.life_ x15.commits_))))]) (ks := [HK]) rfl (dg0 rfl) rfl rfl (fun S' hM hk hok => h_st hM hk rfl rfl rfl rfl (gl_lg (set_get (set_get h16))) rfl rfl (Nat.le_of_ble_eq_true rfl) rfl (su_lg (x' := (S_wal_Log.mk x15.d_ x15.size_ (wi (((S_wal_Log.mk x15.d_ x15.size_ x15.base_ (wi (1 - x3.slot_)) 0 x15.life_ x15.commits_).base_) + ((S_wal_Log.mk x15.d_ x15.size_ x15.base_ (wi (1 - x3.slot_)) 0 x15.life_ x15.commits_).size_))) (wi (1 - x3.slot_)) 0 x15.life_ x15.commits_)) (set_get (set_get h16)))) rfl ?_
    refine d_nil (by kernel_rfl) ?_
    repeat (first | refine k1 ?_ | refine k2 ?_ | refine k3 ?_ | refine k4 ?_ | refine k5 ?_ | refine k6 ?_ | refine k7 rfl ?_)
    refine c_sr ?_
    refine o_s (.t (.d (.lit (.int .i64 0)))) (g0 rfl) rfl rfl rfl ?_
    refine o_nil ?_
    repeat (first | refine k1 ?_ | refine k4 ?_)
    refine c_ret ?_
    repeat (first | refine k3 ?_ | refine k5 ?_)
    obtain rfl := Option.some.inj h
    exact ⟨⟨_, rfl, (.refl _)⟩, trivial, rfl⟩

theorem fch_wal_Log_Checkpoint (p0 : (Option Nat)) (w0 : Hp) (r : (Int × Hp)) (h : m_wal_Log_Checkpoint p0 w0 = some r) : FCH Try.prog 68 [.t ((ptT 3 p0))] [] [] (hpA w0) (hpA r.2) (.t (.d (.lit (.int .i64 r.1)))) := by
 refine fch_mk (rs := [.tmp 2]) (n := 30) [] Try.func68 rfl rfl (Nat.le_of_ble_eq_true rfl) rfl (pins := []) rfl (L := [(HK, .hp (hpA w0)), (0, .t ((ptT 3 p0)))]) rfl ?_
 refine c_sr ?_
 refine o_s (.t (.d (.lit (.int .i64 0)))) (g0 rfl) rfl rfl rfl ?_
 refine o_nil ?_
 repeat (first | refine k1 ?_ | refine k4 ?_)
 refine c_seq ?_
 refine c_sr ?_
 refine o_of (e := [(5, .t ((ptT 3 p0)))]) (g0 rfl) (h_mv (Mk.refl _) (.inl rfl) (cpO_pt rfl) rfl rfl) rfl ?_
 obtain ⟨x1, h2, h⟩ := bind_some h
 refine o_of (e := [(6, .t (.d (.lit (.int .i64 x1))))]) (g0 rfl) (h_callR (Mk.refl _) rfl (σ := []) (fr := []) rfl rfl rfl rfl rfl rfl rfl (fch_wal_Log_alive _ w0 _ h2) (pure_hpA _) rfl rfl rfl rfl (.cons (argPt rfl) .nil) rfl (.t (.flat rfl))) rfl ?_
 refine o_s (.t (.d (.lit (.int .i64 x1)))) (g0 rfl) rfl rfl rfl ?_
 refine o_nil ?_
 repeat (first | refine k1 ?_ | refine k4 ?_)
 refine c_sr ?_
 refine o_s (.t (.d (.lit (.int .i64 x1)))) (g0 rfl) rfl rfl rfl ?_
 refine o_s (.t (.d (.lit (.bool (x1 != 0))))) (g0 rfl) rfl rfl rfl ?_
 refine o_nil ?_
 repeat (first | refine k1 ?_ | refine k4 ?_)
 rcases bif_some h with ⟨h3, h⟩ | ⟨h3, h⟩
 ·
  refine c_t h3 rfl ?_
  refine c_sr ?_
  refine o_s (.t (.d (.lit (.int .i64 x1)))) (g0 rfl) rfl rfl rfl ?_
  refine o_s (.t (.d (.lit (.int .i64 x1)))) (g0 rfl) rfl rfl rfl ?_
  refine o_nil ?_
  repeat (first | refine k1 ?_ | refine k4 ?_)
  refine c_ret ?_
  repeat (first | refine k3 ?_ | refine k5 ?_)
  obtain rfl := Option.some.inj h
  exact ⟨⟨_, rfl, (.refl _)⟩, trivial, rfl⟩
 ·
  refine c_f h3 rfl ?_
  refine c_skip ?_
  repeat (first | refine k1 ?_ | refine k4 ?_)
  refine c_seq ?_
  refine c_seq ?_
  refine c_draw mixed (by kernel_rfl) ?_
  refine d_h0 [] (e := [(10, .t ((ptT 3 p0)))]) (ks := [10]) rfl (dg0 rfl) rfl rfl (fun S' hM hok => h_mv hM (.inl rfl) (cpO_pt rfl) rfl (hok _ rfl rfl)) rfl ?_
  rcases ptM_some h with ⟨h4, h⟩ | ⟨i5, h4, h⟩
  ·
   exact none_ne h
  ·
   refine d_h0 [] (e := [(11, .t (.hpt (cd 3 i5) 0))]) (ks := [11]) rfl (dg0 rfl) rfl rfl (fun S' hM hok => h_nc hM rfl (cpO_pt rfl) (ptT_some h4) rfl (hok _ rfl rfl)) rfl ?_
   refine d_h0 [] (e := [(12, .t (.hpt (cd 3 i5) 2))]) (ks := [12]) rfl (dg0 rfl) rfl rfl (fun S' hM hok => h_fd hM rfl rfl rfl rfl rfl (hok _ rfl rfl)) rfl ?_
   obtain ⟨x6, h7, h⟩ := bind_some h
   refine d_h (e := [(13, .t (.d (.lit (.int .i64 x6.base_))))]) (ks := [13]) rfl (dg0 rfl) rfl rfl (fun S' hM hk hok => h_ld hM hk rfl rfl rfl (gl_lg h7) rfl rfl rfl (hok _ rfl rfl)) rfl ?_
   refine d_h0 [] (e := [(14, .t (.hpt (cd 3 i5) 0))]) (ks := [14]) rfl (dg0 rfl) rfl rfl (fun S' hM hok => h_mv hM (.inl rfl) ((cpO_pt rfl).trans (pt_eq_some h4)) rfl (hok _ rfl rfl)) rfl ?_
   refine d_h0 [] (e := [(15, .t (.hpt (cd 3 i5) 0))]) (ks := [15]) rfl (dg0 rfl) rfl rfl (fun S' hM hok => h_nc hM rfl rfl rfl rfl (hok _ rfl rfl)) rfl ?_
   refine d_h0 [] (e := [(16, .t (.hpt (cd 3 i5) 1))]) (ks := [16]) rfl (dg0 rfl) rfl rfl (fun S' hM hok => h_fd hM rfl rfl rfl rfl rfl (hok _ rfl rfl)) rfl ?_
   refine d_h (e := [(17, .t (.d (.lit (.int .i64 x6.size_))))]) (ks := [17]) rfl (dg0 rfl) rfl rfl (fun S' hM hk hok => h_ld hM hk rfl rfl rfl (gl_lg h7) rfl rfl rfl (hok _ rfl rfl)) rfl ?_
   refine d_s (.t (.d (.lit (.int .i64 (wi (2305843009213693952 - x6.size_)))))) rfl (dg0 rfl) rfl rfl rfl rfl ?_
   refine d_s (.t (.d (.lit (.bool (decide (x6.base_ > (wi (2305843009213693952 - x6.size_)))))))) rfl (dg0 rfl) rfl rfl rfl rfl ?_
   refine d_nil (by kernel_rfl) ?_
   repeat (first | refine k1 ?_ | refine k2 ?_ | refine k3 ?_ | refine k4 ?_ | refine k5 ?_ | refine k6 ?_ | refine k7 rfl ?_)
   rcases bif_some h with ⟨h8, h⟩ | ⟨h8, h⟩
   ·
    refine c_t h8 rfl ?_
    refine c_sr ?_
    refine o_s (.t (.d (.lit (.int .i64 3)))) (g0 rfl) rfl rfl rfl ?_
    refine o_nil ?_
    repeat (first | refine k1 ?_ | refine k4 ?_)
    refine c_ret ?_
    repeat (first | refine k3 ?_ | refine k5 ?_)
    obtain rfl := Option.some.inj h
    exact ⟨⟨_, rfl, (.refl _)⟩, trivial, rfl⟩
   ·
    refine c_f h8 rfl ?_
    refine c_skip ?_
    repeat (first | refine k1 ?_ | refine k4 ?_)
    refine c_seq ?_
    refine c_sr ?_
    refine o_of (e := [(20, .t (.hpt (cd 3 i5) 0))]) (g0 rfl) (h_mv (Mk.refl _) (.inl rfl) ((cpO_pt rfl).trans (pt_eq_some h4)) rfl rfl) rfl ?_
    refine o_of (e := [(21, .t (.hpt (cd 3 i5) 0))]) (g0 rfl) (h_nc (Mk.refl _) rfl rfl rfl rfl rfl) rfl ?_
    refine o_of (e := [(22, .t (.hpt (cd 3 i5) 0))]) (g0 rfl) (h_fd (Mk.refl _) rfl rfl rfl rfl rfl rfl) rfl ?_
    refine o_of (e := [(23, .t ((ptT 1 x6.d_)))]) (g0 rfl) (h_ld (Mk.refl _) rfl rfl rfl rfl (gl_lg h7) rfl (norH_pt _ _) rfl rfl) rfl ?_
    obtain ⟨x9, h10, h⟩ := bind_some h
    refine o_of (e := [(HK, .hp (hpA x9.2)), (24, .t (.d (.lit (.int .i64 x9.1))))]) (g0 rfl) (h_call (Mk.refl _) rfl (σ := []) (fr := []) rfl rfl rfl rfl rfl rfl rfl (fch_disk_Disk_Flush _ w0 _ h10) (pure_hpA _) (pure_hpA _) rfl rfl rfl rfl (.cons (argPt rfl) .nil) rfl (.t (.flat rfl))) rfl ?_
    refine o_s (.t (.d (.lit (.int .i64 x9.1)))) (g0 rfl) rfl rfl rfl ?_
    refine o_nil ?_
    repeat (first | refine k1 ?_ | refine k4 ?_)
    refine c_sr ?_
    refine o_s (.t (.d (.lit (.int .i64 x9.1)))) (g0 rfl) rfl rfl rfl ?_
    refine o_s (.t (.d (.lit (.bool (x9.1 != 0))))) (g0 rfl) rfl rfl rfl ?_
    refine o_nil ?_
    repeat (first | refine k1 ?_ | refine k4 ?_)
    rcases bif_some h with ⟨h11, h⟩ | ⟨h11, h⟩
    ·
     refine c_t h11 rfl ?_
     refine c_sr ?_
     refine o_s (.t (.d (.lit (.int .i64 x9.1)))) (g0 rfl) rfl rfl rfl ?_
     refine o_s (.t (.d (.lit (.int .i64 x9.1)))) (g0 rfl) rfl rfl rfl ?_
     refine o_nil ?_
     repeat (first | refine k1 ?_ | refine k4 ?_)
     refine c_ret ?_
     repeat (first | refine k3 ?_ | refine k5 ?_)
     obtain rfl := Option.some.inj h
     exact ⟨⟨_, rfl, (.refl _)⟩, trivial, rfl⟩
    ·
     refine c_f h11 rfl ?_
     refine c_skip ?_
     repeat (first | refine k1 ?_ | refine k4 ?_)
     refine c_sr ?_
     refine o_of (e := [(28, .t (.hpt (cd 3 i5) 0))]) (g0 rfl) (h_mv (Mk.refl _) (.inl rfl) ((cpO_pt rfl).trans (pt_eq_some h4)) rfl rfl) rfl ?_
     obtain ⟨x12, h13, h⟩ := bind_some h
     refine o_of (e := [(HK, .hp (hpA x12.2)), (29, .t (.d (.lit (.int .i64 x12.1))))]) (g0 rfl) (h_call (Mk.refl _) rfl (σ := []) (fr := []) rfl rfl rfl rfl rfl rfl rfl (fch_wal_Log_raise _ x9.2 _ h13) (pure_hpA _) (pure_hpA _) rfl rfl rfl rfl (.cons (.hpt _ _) .nil) rfl (.t (.flat rfl))) rfl ?_
     refine o_s (.t (.d (.lit (.int .i64 x12.1)))) (g0 rfl) rfl rfl rfl ?_
     refine o_nil ?_
     repeat (first | refine k1 ?_ | refine k4 ?_)
     refine c_ret ?_
     repeat (first | refine k3 ?_ | refine k5 ?_)
     obtain rfl := Option.some.inj h
     exact ⟨⟨_, rfl, (.refl _)⟩, trivial, rfl⟩

theorem fch_wal_Open (p0 : (Option Nat)) (w0 : Hp) (r : ((Option Nat) × Int × Hp)) (h : m_wal_Open p0 w0 = some r) : FCH Try.prog 14 [.t ((ptT 1 p0))] [] [] (hpA w0) (hpA r.2.2) (.tup [(ptT 3 r.1), .d (.lit (.int .i64 r.2.1))]) := by
 refine fch_mk (rs := [.tmp 2, .tmp 3]) (n := 83) [] Try.func14 rfl rfl (Nat.le_of_ble_eq_true rfl) rfl (pins := []) rfl (L := [(HK, .hp (hpA w0)), (0, .t ((ptT 1 p0)))]) rfl ?_
 refine c_sr ?_
 refine o_of (e := [(2, .t (.d (.lit (.pointer none))))]) (g0 rfl) (h_mv (Mk.refl _) (.inr rfl) rfl rfl rfl) rfl ?_
 refine o_s (.t (.d (.lit (.int .i64 0)))) (g0 rfl) rfl rfl rfl ?_
 refine o_nil ?_
 repeat (first | refine k1 ?_ | refine k4 ?_)
 refine c_seq ?_
 refine c_block ?_
 refine c_sr ?_
 refine o_of (e := [(12, .t ((ptT 1 p0)))]) (g0 rfl) (h_mv (Mk.refl _) (.inl rfl) (cpO_pt rfl) rfl rfl) rfl ?_
 obtain ⟨x1, h2, h⟩ := bind_some h
 refine o_of (e := [(13, .t (.d (.lit (.int .i64 x1))))]) (g0 rfl) (h_callR (Mk.refl _) rfl (σ := []) (fr := []) rfl rfl rfl rfl rfl rfl rfl (fch_disk_Disk_Size _ w0 _ h2) (pure_hpA _) rfl rfl rfl rfl (.cons (argPt rfl) .nil) rfl (.t (.flat rfl))) rfl ?_
 refine o_s (.t (.d (.lit (.bool (x1 == 0))))) (g0 rfl) rfl rfl rfl ?_
 refine o_s (.t (.d (.lit (.bool (x1 == 0))))) (g0 rfl) rfl rfl rfl ?_
 refine o_nil ?_
 repeat (first | refine k1 ?_ | refine k4 ?_)
 rcases bif_some h with ⟨h3, h⟩ | ⟨h3, h⟩
 ·
  refine c_t h3 rfl ?_
  refine c_sr ?_
  refine o_of (e := [(2, .t (.d (.lit (.pointer none))))]) (g0 rfl) (h_mv (Mk.refl _) (.inr rfl) rfl rfl rfl) rfl ?_
  refine o_s (.t (.d (.lit (.int .i64 1)))) (g0 rfl) rfl rfl rfl ?_
  refine o_nil ?_
  repeat (first | refine k1 ?_ | refine k4 ?_)
  refine c_ret ?_
  repeat (first | refine k3 ?_ | refine k5 ?_)
  obtain rfl := Option.some.inj h
  exact ⟨⟨_, rfl, (.tup (.cons (.refl _) (.cons (.refl _) .nil)))⟩, trivial, rfl⟩
 ·
  refine c_f h3 rfl ?_
  refine c_sr ?_
  refine o_of (e := [(16, .t ((ptT 1 p0)))]) (g0 rfl) (h_mv (Mk.refl _) (.inl rfl) (cpO_pt rfl) rfl rfl) rfl ?_
  obtain ⟨x4, h5, h⟩ := bind_some h
  refine o_of (e := [(17, .t (.d (.lit (.bool x4))))]) (g0 rfl) (h_callR (Mk.refl _) rfl (σ := []) (fr := []) rfl rfl rfl rfl rfl rfl rfl (fch_disk_Disk_Off _ w0 _ h5) (pure_hpA _) rfl rfl rfl rfl (.cons (argPt rfl) .nil) rfl (.t (.flat rfl))) rfl ?_
  refine o_s (.t (.d (.lit (.bool x4)))) (g0 rfl) rfl rfl rfl ?_
  refine o_nil ?_
  repeat (first | refine k1 ?_ | refine k4 ?_)
  rcases bif_some h with ⟨h6, h⟩ | ⟨h6, h⟩
  ·
   refine c_t h6 rfl ?_
   refine c_sr ?_
   refine o_of (e := [(2, .t (.d (.lit (.pointer none))))]) (g0 rfl) (h_mv (Mk.refl _) (.inr rfl) rfl rfl rfl) rfl ?_
   refine o_s (.t (.d (.lit (.int .i64 30)))) (g0 rfl) rfl rfl rfl ?_
   refine o_nil ?_
   repeat (first | refine k1 ?_ | refine k4 ?_)
   refine c_ret ?_
   repeat (first | refine k3 ?_ | refine k5 ?_)
   obtain rfl := Option.some.inj h
   exact ⟨⟨_, rfl, (.tup (.cons (.refl _) (.cons (.refl _) .nil)))⟩, trivial, rfl⟩
  ·
   refine c_f h6 rfl ?_
   refine c_skip ?_
   repeat (first | refine k1 ?_ | refine k4 ?_)
   refine c_sr ?_
   rcases ptM_some h with ⟨h7, h⟩ | ⟨i8, h7, h⟩
   ·
    refine o_of (e := [(18, .t (.d (.lit (.pointer none))))]) (g0 rfl) (h_mv (Mk.refl _) (.inl rfl) ((cpO_pt rfl).trans (pt_eq_none h7)) rfl rfl) rfl ?_
    refine o_of (e := [(19, .t (.d (.lit (.pointer none))))]) (g0 rfl) (h_mv (Mk.refl _) (.inl rfl) ((cpO_pt rfl).trans (pt_eq_none h7)) rfl rfl) rfl ?_
    obtain ⟨x9, h10, h⟩ := bind_some h
    refine o_of (e := [(20, .t (.d (.lit (.int .i64 x9))))]) (g0 rfl) (h_callR (Mk.refl _) rfl (σ := []) (fr := []) rfl rfl rfl rfl rfl rfl rfl (fch_disk_Disk_Lives _ w0 _ h10) (pure_hpA _) rfl rfl rfl rfl (.cons (.plain (.refl _) rfl) .nil) rfl (.t (.flat rfl))) rfl ?_
    refine o_of (e := [(21, .ag [.d (.lit (.pointer none)), .d (.lit (.int .i64 0)), .d (.lit (.int .i64 0)), .d (.lit (.int .i64 0)), .d (.lit (.int .i64 0)), .d (.lit (.int .i64 x9)), .d (.lit (.int .i64 0))])]) (g0 rfl) (h_bd (Mk.refl _) rfl rfl rfl rfl) rfl ?_
    refine o_of (e := [(HK, .hp (hpA (w0.nw_lg (S_wal_Log.mk none 0 0 0 0 x9 0)))), (22, .t (.hpt (cd 3 w0.ln_lg) 0))]) (g0 rfl) (h_box (Mk.refl _) rfl rfl rfl rfl rfl (fr_lg _) (nw_lg _ (S_wal_Log.mk none 0 0 0 0 x9 0))) rfl ?_
    refine o_of (e := [(4, .t (.hpt (cd 3 w0.ln_lg) 0))]) (g0 rfl) (h_mv (Mk.refl _) (.inr rfl) rfl rfl rfl) rfl ?_
    refine o_nil ?_
    repeat (first | refine k1 ?_ | refine k4 ?_)
    refine c_cutH (fun (y11 : Hp) => [(4, .t (.hpt (cd 3 w0.ln_lg) 0)), (HK, .hp (hpA y11))]) (fun (y11 : Hp) => m_wal_Open_j1 w0 y11 = some r) ?_ ?_
    ·
     refine c_sr ?_
     refine o_s (.t (.d (.lit (.int .i64 0)))) (g0 rfl) rfl rfl rfl ?_
     refine o_nil ?_
     repeat (first | refine k1 ?_ | refine k4 ?_)
     refine c_block ?_
     refine c_fuelH (fun (q : Int × Hp) => [(0, .t ((ptT 1 p0))), (4, .t (.hpt (cd 3 w0.ln_lg) 0)), (23, .t (.d (.lit (.int .i64 q.1)))), (HK, .hp (hpA q.2))]) (fun nl2 => (fun (q : Int × Hp) => m_wal_Open_l2 w0 nl2 q.1 q.2 = some r)) (Int.toNat 2 + 1) (0, (w0.nw_lg (S_wal_Log.mk none 0 0 0 0 x9 0))) [] h rfl ⟨.inr ⟨_, rfl, pure_hpA _⟩, by (repeat (first | exact ObP.nil | refine ObP.cons (.inl rfl) ?_ | refine ObP.cons (.inr (fun _ => rfl)) ?_ | refine ObP.cons (.inr (ob_box (fl_noPt _ _))) ?_ | refine ObP.cons (.inr (ob_gb _ _)) ?_))⟩ ⟨(.refl _), ⟨(.refl _), ⟨(.refl _), ⟨(.refl _), trivial⟩⟩⟩⟩ rfl ?_
     rintro nl2 ⟨z24, z25⟩ h
     cases nl2 with
     | zero => exact none_ne h
     | succ nl2 =>
      refine c_sr ?_
      refine o_s (.t (.d (.lit (.bool (decide (z24 < 2)))))) (g0 rfl) rfl rfl rfl ?_
      refine o_nil ?_
      repeat (first | refine k1 ?_ | refine k4 ?_)
      refine c_seq ?_
      rcases bif_some h with ⟨h26, h⟩ | ⟨h26, h⟩
      ·
       refine c_t h26 rfl ?_
       refine c_skip ?_
       repeat (first | refine k1 ?_ | refine k4 ?_)
       refine c_seq ?_
       refine c_block ?_
       refine c_sr ?_
       refine o_s (.t (.d (.lit (.int .i64 z24)))) (g0 rfl) rfl rfl rfl ?_
       refine o_s (.t (.d (.lit (.int .i64 z24)))) (g0 rfl) rfl rfl rfl ?_
       refine o_nil ?_
       repeat (first | refine k1 ?_ | refine k4 ?_)
       refine c_sr ?_
       refine o_of (e := [(27, .t (.d (.lit (.pointer none))))]) (g0 rfl) (h_mv (Mk.refl _) (.inl rfl) ((cpO_pt rfl).trans (pt_eq_none h7)) rfl rfl) rfl ?_
       refine o_s (.t (.d (.lit (.int .i64 z24)))) (g0 rfl) rfl rfl rfl ?_
       obtain ⟨x27, h28, h⟩ := bind_some h
       refine o_of (e := [(29, .tup [.d (.lit (.int .i64 x27.1)), .d (.lit (.int .i64 x27.2.1)), .d (.lit (.bool x27.2.2))])]) (g0 rfl) (h_callR (Mk.refl _) rfl (σ := []) (fr := []) rfl rfl rfl rfl rfl rfl rfl (fch_wal_readSlot _ _ z25 _ h28) (pure_hpA _) rfl rfl rfl rfl (.cons (.plain (.refl _) rfl) (.cons (.plain (.refl _) rfl) .nil)) rfl (.tup (.cons (.flat rfl) (.cons (.flat rfl) (.cons (.flat rfl) .nil))))) rfl ?_
       refine o_s (.tup [.d (.lit (.int .i64 x27.1)), .d (.lit (.int .i64 x27.2.1)), .d (.lit (.bool x27.2.2))]) (g0 rfl) rfl rfl rfl ?_
       refine o_s (.t (.d (.lit (.int .i64 x27.1)))) (g0 rfl) rfl rfl rfl ?_
       refine o_s (.t (.d (.lit (.int .i64 x27.2.1)))) (g0 rfl) rfl rfl rfl ?_
       refine o_s (.t (.d (.lit (.bool x27.2.2)))) (g0 rfl) rfl rfl rfl ?_
       refine o_s (.t (.d (.lit (.int .i64 x27.1)))) (g0 rfl) rfl rfl rfl ?_
       refine o_s (.t (.d (.lit (.int .i64 x27.2.1)))) (g0 rfl) rfl rfl rfl ?_
       refine o_s (.t (.d (.lit (.bool x27.2.2)))) (g0 rfl) rfl rfl rfl ?_
       refine o_nil ?_
       repeat (first | refine k1 ?_ | refine k4 ?_)
       refine c_cutH (fun (y29 : Bool) => [(0, .t ((ptT 1 p0))), (4, .t (.hpt (cd 3 w0.ln_lg) 0)), (5, .t (.d (.lit (.int .i64 z24)))), (6, .t (.d (.lit (.int .i64 x27.1)))), (7, .t (.d (.lit (.int .i64 x27.2.1)))), (23, .t (.d (.lit (.int .i64 z24)))), (41, .t (.d (.lit (.bool y29)))), (HK, .hp (hpA z25))]) (fun (y29 : Bool) => m_wal_Open_j3 (m_wal_Open_l2 w0 nl2) z25 w0 z24 x27 y29 = some r) ?_ ?_
       ·
        refine c_region ?_
        refine o_s (.t (.d (.lit (.bool x27.2.2)))) (g0 rfl) rfl rfl rfl ?_
        refine o_s (.t (.d (.lit (.bool x27.2.2)))) (g0 rfl) rfl rfl rfl ?_
        rcases bif_some h with ⟨h33, h⟩ | ⟨h33, h⟩
        ·
         refine o_s (.t (.d (.lit (.int .i64 x27.1)))) (gy rfl rfl rfl h33) rfl rfl rfl ?_
         refine o_of (e := [(36, .t (.hpt (cd 3 w0.ln_lg) 0))]) (gy rfl rfl rfl h33) (h_mv (Mk.refl _) (.inl rfl) rfl rfl rfl) rfl ?_
         refine o_of (e := [(37, .t (.hpt (cd 3 w0.ln_lg) 0))]) (gy rfl rfl rfl h33) (h_nc (Mk.refl _) rfl rfl rfl rfl rfl) rfl ?_
         refine o_of (e := [(38, .t (.hpt (cd 3 w0.ln_lg) 2))]) (gy rfl rfl rfl h33) (h_fd (Mk.refl _) rfl rfl rfl rfl rfl rfl) rfl ?_
         obtain ⟨x34, h35, h⟩ := bind_some h
         refine o_of (e := [(39, .t (.d (.lit (.int .i64 x34.base_))))]) (gy rfl rfl rfl h33) (h_ld (Mk.refl _) rfl rfl rfl rfl (gl_lg h35) rfl rfl rfl rfl) rfl ?_
         refine o_s (.t (.d (.lit (.bool (decide (x27.1 > x34.base_)))))) (gy rfl rfl rfl h33) rfl rfl rfl ?_
         refine o_pk (.t (.d (.lit (.bool (decide (x27.1 > x34.base_)))))) (b := true) h33 (g0 rfl) rfl rfl rfl rfl rfl ?_
         refine o_nil ?_
         repeat (first | refine k1 ?_ | refine k4 ?_)
         exact ⟨(decide (x27.1 > x34.base_)), [], h, rfl, ⟨.inr ⟨_, rfl, pure_hpA _⟩, by (repeat (first | exact ObP.nil | refine ObP.cons (.inl rfl) ?_ | refine ObP.cons (.inr (fun _ => rfl)) ?_ | refine ObP.cons (.inr (ob_box (fl_noPt _ _))) ?_ | refine ObP.cons (.inr (ob_gb _ _)) ?_))⟩, ⟨(.refl _), ⟨(.refl _), ⟨(.refl _), ⟨(.refl _), ⟨(.refl _), ⟨(.refl _), ⟨(.refl _), ⟨(.refl _), trivial⟩⟩⟩⟩⟩⟩⟩⟩, rfl⟩
        ·
         refine o_skip rfl rfl rfl h33 rfl rfl ?_
         refine o_skip rfl rfl rfl h33 rfl rfl ?_
         refine o_skip rfl rfl rfl h33 rfl rfl ?_
         refine o_skip rfl rfl rfl h33 rfl rfl ?_
         refine o_skip rfl rfl rfl h33 rfl rfl ?_
         refine o_skip rfl rfl rfl h33 rfl rfl ?_
         refine o_pk (.t (.d (.lit (.bool false)))) (b := false) h33 (g0 rfl) rfl rfl rfl rfl rfl ?_
         refine o_nil ?_
         repeat (first | refine k1 ?_ | refine k4 ?_)
         exact ⟨false, [], h, rfl, ⟨.inr ⟨_, rfl, pure_hpA _⟩, by (repeat (first | exact ObP.nil | refine ObP.cons (.inl rfl) ?_ | refine ObP.cons (.inr (fun _ => rfl)) ?_ | refine ObP.cons (.inr (ob_box (fl_noPt _ _))) ?_ | refine ObP.cons (.inr (ob_gb _ _)) ?_))⟩, ⟨(.refl _), ⟨(.refl _), ⟨(.refl _), ⟨(.refl _), ⟨(.refl _), ⟨(.refl _), ⟨(.refl _), ⟨(.refl _), trivial⟩⟩⟩⟩⟩⟩⟩⟩, rfl⟩
       ·
        rintro y29 h
        rcases bif_some h with ⟨h30, h⟩ | ⟨h30, h⟩
        ·
         refine c_t h30 rfl ?_
         refine c_region ?_
         refine o_of (e := [(42, .t (.hpt (cd 3 w0.ln_lg) 0))]) (g0 rfl) (h_mv (Mk.refl _) (.inl rfl) rfl rfl rfl) rfl ?_
         refine o_of (e := [(43, .t (.hpt (cd 3 w0.ln_lg) 0))]) (g0 rfl) (h_mv (Mk.refl _) (.inl rfl) rfl rfl rfl) rfl ?_
         refine o_of (e := [(44, .t (.hpt (cd 3 w0.ln_lg) 0))]) (g0 rfl) (h_mv (Mk.refl _) (.inl rfl) rfl rfl rfl) rfl ?_
         refine o_s (.t (.d (.lit (.int .i64 x27.1)))) (g0 rfl) rfl rfl rfl ?_
         refine o_s (.t (.d (.lit (.int .i64 x27.2.1)))) (g0 rfl) rfl rfl rfl ?_
         refine o_s (.t (.d (.lit (.int .i64 z24)))) (g0 rfl) rfl rfl rfl ?_
         refine o_of (e := [(48, .t (.hpt (cd 3 w0.ln_lg) 0))]) (g0 rfl) (h_nc (Mk.refl _) rfl rfl rfl rfl rfl) rfl ?_
         refine o_of (e := [(49, .t (.hpt (cd 3 w0.ln_lg) 2))]) (g0 rfl) (h_fd (Mk.refl _) rfl rfl rfl rfl rfl rfl) rfl ?_
         obtain ⟨x31, h32, h⟩ := bind_some h
         refine o_of (e := [(HK, .hp (hpA (z25.st_lg w0.ln_lg (S_wal_Log.mk x31.d_ x31.size_ x27.1 x31.slot_ x31.used_ x31.life_ x31.commits_))))]) (g0 rfl) (h_st (Mk.refl _) rfl rfl rfl rfl rfl (gl_lg h32) rfl rfl (Nat.le_of_ble_eq_true rfl) rfl (su_lg (x' := (S_wal_Log.mk x31.d_ x31.size_ x27.1 x31.slot_ x31.used_ x31.life_ x31.commits_)) h32)) rfl ?_
         refine o_of (e := [(50, .t (.hpt (cd 3 w0.ln_lg) 0))]) (g0 rfl) (h_nc (Mk.refl _) rfl rfl rfl rfl rfl) rfl ?_
         refine o_of (e := [(51, .t (.hpt (cd 3 w0.ln_lg) 1))]) (g0 rfl) (h_fd (Mk.refl _) rfl rfl rfl rfl rfl rfl) rfl ?_
         refine o_of (e := [(HK, .hp (hpA ((z25.st_lg w0.ln_lg (S_wal_Log.mk x31.d_ x31.size_ x27.1 x31.slot_ x31.used_ x31.life_ x31.commits_)).st_lg w0.ln_lg (S_wal_Log.mk x31.d_ x27.2.1 x27.1 x31.slot_ x31.used_ x31.life_ x31.commits_))))]) (g0 rfl) (h_st (Mk.refl _) rfl rfl rfl rfl rfl (gl_lg (set_get h32)) rfl rfl (Nat.le_of_ble_eq_true rfl) rfl (su_lg (x' := (S_wal_Log.mk x31.d_ x27.2.1 x27.1 x31.slot_ x31.used_ x31.life_ x31.commits_)) (set_get h32))) rfl ?_
         refine o_of (e := [(52, .t (.hpt (cd 3 w0.ln_lg) 0))]) (g0 rfl) (h_nc (Mk.refl _) rfl rfl rfl rfl rfl) rfl ?_
         refine o_of (e := [(53, .t (.hpt (cd 3 w0.ln_lg) 3))]) (g0 rfl) (h_fd (Mk.refl _) rfl rfl rfl rfl rfl rfl) rfl ?_
         refine o_of (e := [(HK, .hp (hpA (((z25.st_lg w0.ln_lg (S_wal_Log.mk x31.d_ x31.size_ x27.1 x31.slot_ x31.used_ x31.life_ x31.commits_)).st_lg w0.ln_lg (S_wal_Log.mk x31.d_ x27.2.1 x27.1 x31.slot_ x31.used_ x31.life_ x31.commits_)).st_lg w0.ln_lg (S_wal_Log.mk x31.d_ x27.2.1 x27.1 z24 x31.used_ x31.life_ x31.commits_))))]) (g0 rfl) (h_st (Mk.refl _) rfl rfl rfl rfl rfl (gl_lg (set_get (set_get h32))) rfl rfl (Nat.le_of_ble_eq_true rfl) rfl (su_lg (x' := (S_wal_Log.mk x31.d_ x27.2.1 x27.1 z24 x31.used_ x31.life_ x31.commits_)) (set_get (set_get h32)))) rfl ?_
         refine o_nil ?_
         repeat (first | refine k1 ?_ | refine k4 ?_)
         refine c_region ?_
         refine o_s (.t (.d (.lit (.int .i64 (wi (z24 + 1)))))) (g0 rfl) rfl rfl rfl ?_
         refine o_s (.t (.d (.lit (.int .i64 (wi (z24 + 1)))))) (g0 rfl) rfl rfl rfl ?_
         refine o_nil ?_
         repeat (first | refine k1 ?_ | refine k4 ?_)
         exact ⟨nl2, ((wi (z24 + 1)), (((z25.st_lg w0.ln_lg (S_wal_Log.mk x31.d_ x31.size_ x27.1 x31.slot_ x31.used_ x31.life_ x31.commits_)).st_lg w0.ln_lg (S_wal_Log.mk x31.d_ x27.2.1 x27.1 x31.slot_ x31.used_ x31.life_ x31.commits_)).st_lg w0.ln_lg (S_wal_Log.mk x31.d_ x27.2.1 x27.1 z24 x31.used_ x31.life_ x31.commits_))), [], Nat.lt_succ_self nl2, h, rfl, ⟨.inr ⟨_, rfl, pure_hpA _⟩, by (repeat (first | exact ObP.nil | refine ObP.cons (.inl rfl) ?_ | refine ObP.cons (.inr (fun _ => rfl)) ?_ | refine ObP.cons (.inr (ob_box (fl_noPt _ _))) ?_ | refine ObP.cons (.inr (ob_gb _ _)) ?_))⟩, ⟨(.refl _), ⟨(.refl _), ⟨(.refl _), ⟨(.refl _), trivial⟩⟩⟩⟩, rfl⟩
        ·
         refine c_f h30 rfl ?_
         refine c_skip ?_
         repeat (first | refine k1 ?_ | refine k4 ?_)
         refine c_region ?_
         refine o_s (.t (.d (.lit (.int .i64 (wi (z24 + 1)))))) (g0 rfl) rfl rfl rfl ?_
         refine o_s (.t (.d (.lit (.int .i64 (wi (z24 + 1)))))) (g0 rfl) rfl rfl rfl ?_
         refine o_nil ?_
         repeat (first | refine k1 ?_ | refine k4 ?_)
         exact ⟨nl2, ((wi (z24 + 1)), z25), [], Nat.lt_succ_self nl2, h, rfl, ⟨.inr ⟨_, rfl, pure_hpA _⟩, by (repeat (first | exact ObP.nil | refine ObP.cons (.inl rfl) ?_ | refine ObP.cons (.inr (fun _ => rfl)) ?_ | refine ObP.cons (.inr (ob_box (fl_noPt _ _))) ?_ | refine ObP.cons (.inr (ob_gb _ _)) ?_))⟩, ⟨(.refl _), ⟨(.refl _), ⟨(.refl _), ⟨(.refl _), trivial⟩⟩⟩⟩, rfl⟩
      ·
       refine c_f h26 rfl ?_
       refine c_exit ?_
       repeat (first | refine k1 ?_ | refine k2 ?_ | refine k3 ?_ | refine k4 ?_ | refine k5 ?_ | refine k6 ?_ | refine k7 rfl ?_)
       exact ⟨z25, [], h, rfl, ⟨.inr ⟨_, rfl, pure_hpA _⟩, by (repeat (first | exact ObP.nil | refine ObP.cons (.inl rfl) ?_ | refine ObP.cons (.inr (fun _ => rfl)) ?_ | refine ObP.cons (.inr (ob_box (fl_noPt _ _))) ?_ | refine ObP.cons (.inr (ob_gb _ _)) ?_))⟩, ⟨(.refl _), ⟨(.refl _), trivial⟩⟩, rfl⟩
    ·
     rintro y11 h
     refine c_seq ?_
     refine c_sr ?_
     refine o_of (e := [(55, .t (.hpt (cd 3 w0.ln_lg) 0))]) (g0 rfl) (h_mv (Mk.refl _) (.inl rfl) rfl rfl rfl) rfl ?_
     refine o_of (e := [(56, .t (.hpt (cd 3 w0.ln_lg) 0))]) (g0 rfl) (h_nc (Mk.refl _) rfl rfl rfl rfl rfl) rfl ?_
     refine o_of (e := [(57, .t (.hpt (cd 3 w0.ln_lg) 2))]) (g0 rfl) (h_fd (Mk.refl _) rfl rfl rfl rfl rfl rfl) rfl ?_
     obtain ⟨x12, h13, h⟩ := bind_some h
     refine o_of (e := [(58, .t (.d (.lit (.int .i64 x12.base_))))]) (g0 rfl) (h_ld (Mk.refl _) rfl rfl rfl rfl (gl_lg h13) rfl rfl rfl rfl) rfl ?_
     refine o_s (.t (.d (.lit (.bool (x12.base_ == 0))))) (g0 rfl) rfl rfl rfl ?_
     refine o_nil ?_
     repeat (first | refine k1 ?_ | refine k4 ?_)
     rcases bif_some h with ⟨h14, h⟩ | ⟨h14, h⟩
     ·
      refine c_t h14 rfl ?_
      refine c_sr ?_
      refine o_of (e := [(2, .t (.d (.lit (.pointer none))))]) (g0 rfl) (h_mv (Mk.refl _) (.inr rfl) rfl rfl rfl) rfl ?_
      refine o_s (.t (.d (.lit (.int .i64 11)))) (g0 rfl) rfl rfl rfl ?_
      refine o_nil ?_
      repeat (first | refine k1 ?_ | refine k4 ?_)
      refine c_ret ?_
      repeat (first | refine k3 ?_ | refine k5 ?_)
      obtain rfl := Option.some.inj h
      exact ⟨⟨_, rfl, (.tup (.cons (.refl _) (.cons (.refl _) .nil)))⟩, trivial, rfl⟩
     ·
      refine c_f h14 rfl ?_
      refine c_skip ?_
      repeat (first | refine k1 ?_ | refine k4 ?_)
      refine c_seq ?_
      refine c_seq ?_
      refine c_draw mixed (by kernel_rfl) ?_
      refine d_h0 [] (e := [(60, .t (.hpt (cd 3 w0.ln_lg) 0))]) (ks := [60]) rfl (dg0 rfl) rfl rfl (fun S' hM hok => h_mv hM (.inl rfl) rfl rfl (hok _ rfl rfl)) rfl ?_
      refine d_h0 [] (e := [(61, .t (.hpt (cd 3 w0.ln_lg) 0))]) (ks := [61]) rfl (dg0 rfl) rfl rfl (fun S' hM hok => h_nc hM rfl rfl rfl rfl (hok _ rfl rfl)) rfl ?_
      refine d_h0 [] (e := [(62, .t (.hpt (cd 3 w0.ln_lg) 2))]) (ks := [62]) rfl (dg0 rfl) rfl rfl (fun S' hM hok => h_fd hM rfl rfl rfl rfl rfl (hok _ rfl rfl)) rfl ?_
      refine d_h (e := [(63, .t (.d (.lit (.int .i64 x12.base_))))]) (ks := [63]) rfl (dg0 rfl) rfl rfl (fun S' hM hk hok => h_ld hM hk rfl rfl rfl (gl_lg h13) rfl rfl rfl (hok _ rfl rfl)) rfl ?_
      refine d_h0 [] (e := [(64, .t (.hpt (cd 3 w0.ln_lg) 0))]) (ks := [64]) rfl (dg0 rfl) rfl rfl (fun S' hM hok => h_mv hM (.inl rfl) rfl rfl (hok _ rfl rfl)) rfl ?_
      refine d_h0 [] (e := [(65, .t (.hpt (cd 3 w0.ln_lg) 0))]) (ks := [65]) rfl (dg0 rfl) rfl rfl (fun S' hM hok => h_nc hM rfl rfl rfl rfl (hok _ rfl rfl)) rfl ?_
      refine d_h0 [] (e := [(66, .t (.hpt (cd 3 w0.ln_lg) 1))]) (ks := [66]) rfl (dg0 rfl) rfl rfl (fun S' hM hok => h_fd hM rfl rfl rfl rfl rfl (hok _ rfl rfl)) rfl ?_
      refine d_h (e := [(67, .t (.d (.lit (.int .i64 x12.size_))))]) (ks := [67]) rfl (dg0 rfl) rfl rfl (fun S' hM hk hok => h_ld hM hk rfl rfl rfl (gl_lg h13) rfl rfl rfl (hok _ rfl rfl)) rfl ?_
      refine d_s (.t (.d (.lit (.int .i64 (wi (2305843009213693952 - x12.size_)))))) rfl (dg0 rfl) rfl rfl rfl rfl ?_
      refine d_s (.t (.d (.lit (.bool (decide (x12.base_ > (wi (2305843009213693952 - x12.size_)))))))) rfl (dg0 rfl) rfl rfl rfl rfl ?_
      refine d_nil (by kernel_rfl) ?_
      repeat (first | refine k1 ?_ | refine k2 ?_ | refine k3 ?_ | refine k4 ?_ | refine k5 ?_ | refine k6 ?_ | refine k7 rfl ?_)
      rcases bif_some h with ⟨h15, h⟩ | ⟨h15, h⟩
      ·
       refine c_t h15 rfl ?_
       refine c_sr ?_
       refine o_of (e := [(2, .t (.d (.lit (.pointer none))))]) (g0 rfl) (h_mv (Mk.refl _) (.inr rfl) rfl rfl rfl) rfl ?_
       refine o_s (.t (.d (.lit (.int .i64 3)))) (g0 rfl) rfl rfl rfl ?_
       refine o_nil ?_
       repeat (first | refine k1 ?_ | refine k4 ?_)
       refine c_ret ?_
       repeat (first | refine k3 ?_ | refine k5 ?_)
       obtain rfl := Option.some.inj h
       exact ⟨⟨_, rfl, (.tup (.cons (.refl _) (.cons (.refl _) .nil)))⟩, trivial, rfl⟩
      ·
       refine c_f h15 rfl ?_
       refine c_skip ?_
       repeat (first | refine k1 ?_ | refine k4 ?_)
       refine c_seq ?_
       refine c_sr ?_
       refine o_of (e := [(70, .t (.hpt (cd 3 w0.ln_lg) 0))]) (g0 rfl) (h_mv (Mk.refl _) (.inl rfl) rfl rfl rfl) rfl ?_
       refine o_of (e := [(71, .t (.hpt (cd 3 w0.ln_lg) 0))]) (g0 rfl) (h_mv (Mk.refl _) (.inl rfl) rfl rfl rfl) rfl ?_
       obtain ⟨x16, h17, h⟩ := bind_some h
       refine o_of (e := [(72, .t (.own 100 2 (List.map cS_api_Write x16)))]) (g0 rfl) (h_callR (Mk.refl _) rfl (σ := []) (fr := []) rfl rfl rfl rfl rfl rfl rfl (fch_wal_Log_says _ y11 _ h17) (pure_hpA _) rfl rfl rfl rfl (.cons (.hpt _ _) .nil) rfl (.t (.flat rfl))) rfl ?_
       obtain ⟨x18, h19, h⟩ := bind_some h
       refine o_of (e := [(HK, .hp (hpA x18.2)), (73, .t (.d (.lit (.int .i64 x18.1))))]) (g0 rfl) (h_call (Mk.refl _) rfl (σ := []) (fr := []) rfl rfl rfl rfl rfl rfl rfl (fch_wal_Log_redo _ _ y11 _ h19) (pure_hpA _) (pure_hpA _) rfl rfl rfl rfl (.cons (.hpt _ _) (.cons (.plain (.refl _) rfl) .nil)) rfl (.t (.flat rfl))) rfl ?_
       refine o_s (.t (.d (.lit (.int .i64 x18.1)))) (g0 rfl) rfl rfl rfl ?_
       refine o_nil ?_
       repeat (first | refine k1 ?_ | refine k4 ?_)
       refine c_sr ?_
       refine o_s (.t (.d (.lit (.int .i64 x18.1)))) (g0 rfl) rfl rfl rfl ?_
       refine o_s (.t (.d (.lit (.bool (x18.1 != 0))))) (g0 rfl) rfl rfl rfl ?_
       refine o_nil ?_
       repeat (first | refine k1 ?_ | refine k4 ?_)
       rcases bif_some h with ⟨h20, h⟩ | ⟨h20, h⟩
       ·
        refine c_t h20 rfl ?_
        refine c_sr ?_
        refine o_s (.t (.d (.lit (.int .i64 x18.1)))) (g0 rfl) rfl rfl rfl ?_
        refine o_of (e := [(2, .t (.d (.lit (.pointer none))))]) (g0 rfl) (h_mv (Mk.refl _) (.inr rfl) rfl rfl rfl) rfl ?_
        refine o_s (.t (.d (.lit (.int .i64 x18.1)))) (g0 rfl) rfl rfl rfl ?_
        refine o_nil ?_
        repeat (first | refine k1 ?_ | refine k4 ?_)
        refine c_ret ?_
        repeat (first | refine k3 ?_ | refine k5 ?_)
        obtain rfl := Option.some.inj h
        exact ⟨⟨_, rfl, (.tup (.cons (.refl _) (.cons (.refl _) .nil)))⟩, trivial, rfl⟩
       ·
        refine c_f h20 rfl ?_
        refine c_skip ?_
        repeat (first | refine k1 ?_ | refine k4 ?_)
        refine c_seq ?_
        refine c_sr ?_
        refine o_of (e := [(77, .t (.hpt (cd 3 w0.ln_lg) 0))]) (g0 rfl) (h_mv (Mk.refl _) (.inl rfl) rfl rfl rfl) rfl ?_
        obtain ⟨x21, h22, h⟩ := bind_some h
        refine o_of (e := [(HK, .hp (hpA x21.2)), (78, .t (.d (.lit (.int .i64 x21.1))))]) (g0 rfl) (h_call (Mk.refl _) rfl (σ := []) (fr := []) rfl rfl rfl rfl rfl rfl rfl (fch_wal_Log_Checkpoint _ x18.2 _ h22) (pure_hpA _) (pure_hpA _) rfl rfl rfl rfl (.cons (.hpt _ _) .nil) rfl (.t (.flat rfl))) rfl ?_
        refine o_s (.t (.d (.lit (.int .i64 x21.1)))) (g0 rfl) rfl rfl rfl ?_
        refine o_nil ?_
        repeat (first | refine k1 ?_ | refine k4 ?_)
        refine c_sr ?_
        refine o_s (.t (.d (.lit (.int .i64 x21.1)))) (g0 rfl) rfl rfl rfl ?_
        refine o_s (.t (.d (.lit (.bool (x21.1 != 0))))) (g0 rfl) rfl rfl rfl ?_
        refine o_nil ?_
        repeat (first | refine k1 ?_ | refine k4 ?_)
        rcases bif_some h with ⟨h23, h⟩ | ⟨h23, h⟩
        ·
         refine c_t h23 rfl ?_
         refine c_sr ?_
         refine o_s (.t (.d (.lit (.int .i64 x21.1)))) (g0 rfl) rfl rfl rfl ?_
         refine o_of (e := [(2, .t (.d (.lit (.pointer none))))]) (g0 rfl) (h_mv (Mk.refl _) (.inr rfl) rfl rfl rfl) rfl ?_
         refine o_s (.t (.d (.lit (.int .i64 x21.1)))) (g0 rfl) rfl rfl rfl ?_
         refine o_nil ?_
         repeat (first | refine k1 ?_ | refine k4 ?_)
         refine c_ret ?_
         repeat (first | refine k3 ?_ | refine k5 ?_)
         obtain rfl := Option.some.inj h
         exact ⟨⟨_, rfl, (.tup (.cons (.refl _) (.cons (.refl _) .nil)))⟩, trivial, rfl⟩
        ·
         refine c_f h23 rfl ?_
         refine c_skip ?_
         repeat (first | refine k1 ?_ | refine k4 ?_)
         refine c_sr ?_
         refine o_of (e := [(82, .t (.hpt (cd 3 w0.ln_lg) 0))]) (g0 rfl) (h_mv (Mk.refl _) (.inl rfl) rfl rfl rfl) rfl ?_
         refine o_of (e := [(2, .t (.hpt (cd 3 w0.ln_lg) 0))]) (g0 rfl) (h_mv (Mk.refl _) (.inr rfl) rfl rfl rfl) rfl ?_
         refine o_s (.t (.d (.lit (.int .i64 0)))) (g0 rfl) rfl rfl rfl ?_
         refine o_nil ?_
         repeat (first | refine k1 ?_ | refine k4 ?_)
         refine c_ret ?_
         repeat (first | refine k3 ?_ | refine k5 ?_)
         obtain rfl := Option.some.inj h
         exact ⟨⟨_, rfl, (.tup (.cons (.refl _) (.cons (.refl _) .nil)))⟩, trivial, rfl⟩
   ·
    refine o_of (e := [(18, .t (.hpt (cd 1 i8) 0))]) (g0 rfl) (h_mv (Mk.refl _) (.inl rfl) ((cpO_pt rfl).trans (pt_eq_some h7)) rfl rfl) rfl ?_
    refine o_of (e := [(19, .t (.hpt (cd 1 i8) 0))]) (g0 rfl) (h_mv (Mk.refl _) (.inl rfl) ((cpO_pt rfl).trans (pt_eq_some h7)) rfl rfl) rfl ?_
    obtain ⟨x36, h37, h⟩ := bind_some h
    refine o_of (e := [(20, .t (.d (.lit (.int .i64 x36))))]) (g0 rfl) (h_callR (Mk.refl _) rfl (σ := []) (fr := []) rfl rfl rfl rfl rfl rfl rfl (fch_disk_Disk_Lives _ w0 _ h37) (pure_hpA _) rfl rfl rfl rfl (.cons (.hpt _ _) .nil) rfl (.t (.flat rfl))) rfl ?_
    refine o_of (e := [(21, .ag [.hpt (cd 1 i8) 0, .d (.lit (.int .i64 0)), .d (.lit (.int .i64 0)), .d (.lit (.int .i64 0)), .d (.lit (.int .i64 0)), .d (.lit (.int .i64 x36)), .d (.lit (.int .i64 0))])]) (g0 rfl) (h_bd (Mk.refl _) rfl rfl rfl rfl) rfl ?_
    refine o_of (e := [(HK, .hp (hpA (w0.nw_lg (S_wal_Log.mk (some i8) 0 0 0 0 x36 0)))), (22, .t (.hpt (cd 3 w0.ln_lg) 0))]) (g0 rfl) (h_box (Mk.refl _) rfl rfl rfl rfl rfl (fr_lg _) (nw_lg _ (S_wal_Log.mk (some i8) 0 0 0 0 x36 0))) rfl ?_
    refine o_of (e := [(4, .t (.hpt (cd 3 w0.ln_lg) 0))]) (g0 rfl) (h_mv (Mk.refl _) (.inr rfl) rfl rfl rfl) rfl ?_
    refine o_nil ?_
    repeat (first | refine k1 ?_ | refine k4 ?_)
    refine c_cutH (fun (y38 : Hp) => [(4, .t (.hpt (cd 3 w0.ln_lg) 0)), (HK, .hp (hpA y38))]) (fun (y38 : Hp) => m_wal_Open_j4 w0 y38 = some r) ?_ ?_
    ·
     refine c_sr ?_
     refine o_s (.t (.d (.lit (.int .i64 0)))) (g0 rfl) rfl rfl rfl ?_
     refine o_nil ?_
     repeat (first | refine k1 ?_ | refine k4 ?_)
     refine c_block ?_
     refine c_fuelH (fun (q : Int × Hp) => [(0, .t ((ptT 1 p0))), (4, .t (.hpt (cd 3 w0.ln_lg) 0)), (23, .t (.d (.lit (.int .i64 q.1)))), (HK, .hp (hpA q.2))]) (fun nl5 => (fun (q : Int × Hp) => m_wal_Open_l5 i8 w0 nl5 q.1 q.2 = some r)) (Int.toNat 2 + 1) (0, (w0.nw_lg (S_wal_Log.mk (some i8) 0 0 0 0 x36 0))) [] h rfl ⟨.inr ⟨_, rfl, pure_hpA _⟩, by (repeat (first | exact ObP.nil | refine ObP.cons (.inl rfl) ?_ | refine ObP.cons (.inr (fun _ => rfl)) ?_ | refine ObP.cons (.inr (ob_box (fl_noPt _ _))) ?_ | refine ObP.cons (.inr (ob_gb _ _)) ?_))⟩ ⟨(.refl _), ⟨(.refl _), ⟨(.refl _), ⟨(.refl _), trivial⟩⟩⟩⟩ rfl ?_
     rintro nl5 ⟨z51, z52⟩ h
     cases nl5 with
     | zero => exact none_ne h
     | succ nl5 =>
      refine c_sr ?_
      refine o_s (.t (.d (.lit (.bool (decide (z51 < 2)))))) (g0 rfl) rfl rfl rfl ?_
      refine o_nil ?_
      repeat (first | refine k1 ?_ | refine k4 ?_)
      refine c_seq ?_
      rcases bif_some h with ⟨h53, h⟩ | ⟨h53, h⟩
      ·
       refine c_t h53 rfl ?_
       refine c_skip ?_
       repeat (first | refine k1 ?_ | refine k4 ?_)
       refine c_seq ?_
       refine c_block ?_
       refine c_sr ?_
       refine o_s (.t (.d (.lit (.int .i64 z51)))) (g0 rfl) rfl rfl rfl ?_
       refine o_s (.t (.d (.lit (.int .i64 z51)))) (g0 rfl) rfl rfl rfl ?_
       refine o_nil ?_
       repeat (first | refine k1 ?_ | refine k4 ?_)
       refine c_sr ?_
       refine o_of (e := [(27, .t (.hpt (cd 1 i8) 0))]) (g0 rfl) (h_mv (Mk.refl _) (.inl rfl) ((cpO_pt rfl).trans (pt_eq_some h7)) rfl rfl) rfl ?_
       refine o_s (.t (.d (.lit (.int .i64 z51)))) (g0 rfl) rfl rfl rfl ?_
       obtain ⟨x54, h55, h⟩ := bind_some h
       refine o_of (e := [(29, .tup [.d (.lit (.int .i64 x54.1)), .d (.lit (.int .i64 x54.2.1)), .d (.lit (.bool x54.2.2))])]) (g0 rfl) (h_callR (Mk.refl _) rfl (σ := []) (fr := []) rfl rfl rfl rfl rfl rfl rfl (fch_wal_readSlot _ _ z52 _ h55) (pure_hpA _) rfl rfl rfl rfl (.cons (.hpt _ _) (.cons (.plain (.refl _) rfl) .nil)) rfl (.tup (.cons (.flat rfl) (.cons (.flat rfl) (.cons (.flat rfl) .nil))))) rfl ?_
       refine o_s (.tup [.d (.lit (.int .i64 x54.1)), .d (.lit (.int .i64 x54.2.1)), .d (.lit (.bool x54.2.2))]) (g0 rfl) rfl rfl rfl ?_
       refine o_s (.t (.d (.lit (.int .i64 x54.1)))) (g0 rfl) rfl rfl rfl ?_
       refine o_s (.t (.d (.lit (.int .i64 x54.2.1)))) (g0 rfl) rfl rfl rfl ?_
       refine o_s (.t (.d (.lit (.bool x54.2.2)))) (g0 rfl) rfl rfl rfl ?_
       refine o_s (.t (.d (.lit (.int .i64 x54.1)))) (g0 rfl) rfl rfl rfl ?_
       refine o_s (.t (.d (.lit (.int .i64 x54.2.1)))) (g0 rfl) rfl rfl rfl ?_
       refine o_s (.t (.d (.lit (.bool x54.2.2)))) (g0 rfl) rfl rfl rfl ?_
       refine o_nil ?_
       repeat (first | refine k1 ?_ | refine k4 ?_)
       refine c_cutH (fun (y56 : Bool) => [(0, .t ((ptT 1 p0))), (4, .t (.hpt (cd 3 w0.ln_lg) 0)), (5, .t (.d (.lit (.int .i64 z51)))), (6, .t (.d (.lit (.int .i64 x54.1)))), (7, .t (.d (.lit (.int .i64 x54.2.1)))), (23, .t (.d (.lit (.int .i64 z51)))), (41, .t (.d (.lit (.bool y56)))), (HK, .hp (hpA z52))]) (fun (y56 : Bool) => m_wal_Open_j6 (m_wal_Open_l5 i8 w0 nl5) z52 w0 z51 x54 y56 = some r) ?_ ?_
       ·
        refine c_region ?_
        refine o_s (.t (.d (.lit (.bool x54.2.2)))) (g0 rfl) rfl rfl rfl ?_
        refine o_s (.t (.d (.lit (.bool x54.2.2)))) (g0 rfl) rfl rfl rfl ?_
        rcases bif_some h with ⟨h60, h⟩ | ⟨h60, h⟩
        ·
         refine o_s (.t (.d (.lit (.int .i64 x54.1)))) (gy rfl rfl rfl h60) rfl rfl rfl ?_
         refine o_of (e := [(36, .t (.hpt (cd 3 w0.ln_lg) 0))]) (gy rfl rfl rfl h60) (h_mv (Mk.refl _) (.inl rfl) rfl rfl rfl) rfl ?_
         refine o_of (e := [(37, .t (.hpt (cd 3 w0.ln_lg) 0))]) (gy rfl rfl rfl h60) (h_nc (Mk.refl _) rfl rfl rfl rfl rfl) rfl ?_
         refine o_of (e := [(38, .t (.hpt (cd 3 w0.ln_lg) 2))]) (gy rfl rfl rfl h60) (h_fd (Mk.refl _) rfl rfl rfl rfl rfl rfl) rfl ?_
         obtain ⟨x61, h62, h⟩ := bind_some h
         refine o_of (e := [(39, .t (.d (.lit (.int .i64 x61.base_))))]) (gy rfl rfl rfl h60) (h_ld (Mk.refl _) rfl rfl rfl rfl (gl_lg h62) rfl rfl rfl rfl) rfl ?_
         refine o_s (.t (.d (.lit (.bool (decide (x54.1 > x61.base_)))))) (gy rfl rfl rfl h60) rfl rfl rfl ?_
         refine o_pk (.t (.d (.lit (.bool (decide (x54.1 > x61.base_)))))) (b := true) h60 (g0 rfl) rfl rfl rfl rfl rfl ?_
         refine o_nil ?_
         repeat (first | refine k1 ?_ | refine k4 ?_)
         exact ⟨(decide (x54.1 > x61.base_)), [], h, rfl, ⟨.inr ⟨_, rfl, pure_hpA _⟩, by (repeat (first | exact ObP.nil | refine ObP.cons (.inl rfl) ?_ | refine ObP.cons (.inr (fun _ => rfl)) ?_ | refine ObP.cons (.inr (ob_box (fl_noPt _ _))) ?_ | refine ObP.cons (.inr (ob_gb _ _)) ?_))⟩, ⟨(.refl _), ⟨(.refl _), ⟨(.refl _), ⟨(.refl _), ⟨(.refl _), ⟨(.refl _), ⟨(.refl _), ⟨(.refl _), trivial⟩⟩⟩⟩⟩⟩⟩⟩, rfl⟩
        ·
         refine o_skip rfl rfl rfl h60 rfl rfl ?_
         refine o_skip rfl rfl rfl h60 rfl rfl ?_
         refine o_skip rfl rfl rfl h60 rfl rfl ?_
         refine o_skip rfl rfl rfl h60 rfl rfl ?_
         refine o_skip rfl rfl rfl h60 rfl rfl ?_
         refine o_skip rfl rfl rfl h60 rfl rfl ?_
         refine o_pk (.t (.d (.lit (.bool false)))) (b := false) h60 (g0 rfl) rfl rfl rfl rfl rfl ?_
         refine o_nil ?_
         repeat (first | refine k1 ?_ | refine k4 ?_)
         exact ⟨false, [], h, rfl, ⟨.inr ⟨_, rfl, pure_hpA _⟩, by (repeat (first | exact ObP.nil | refine ObP.cons (.inl rfl) ?_ | refine ObP.cons (.inr (fun _ => rfl)) ?_ | refine ObP.cons (.inr (ob_box (fl_noPt _ _))) ?_ | refine ObP.cons (.inr (ob_gb _ _)) ?_))⟩, ⟨(.refl _), ⟨(.refl _), ⟨(.refl _), ⟨(.refl _), ⟨(.refl _), ⟨(.refl _), ⟨(.refl _), ⟨(.refl _), trivial⟩⟩⟩⟩⟩⟩⟩⟩, rfl⟩
       ·
        rintro y56 h
        rcases bif_some h with ⟨h57, h⟩ | ⟨h57, h⟩
        ·
         refine c_t h57 rfl ?_
         refine c_region ?_
         refine o_of (e := [(42, .t (.hpt (cd 3 w0.ln_lg) 0))]) (g0 rfl) (h_mv (Mk.refl _) (.inl rfl) rfl rfl rfl) rfl ?_
         refine o_of (e := [(43, .t (.hpt (cd 3 w0.ln_lg) 0))]) (g0 rfl) (h_mv (Mk.refl _) (.inl rfl) rfl rfl rfl) rfl ?_
         refine o_of (e := [(44, .t (.hpt (cd 3 w0.ln_lg) 0))]) (g0 rfl) (h_mv (Mk.refl _) (.inl rfl) rfl rfl rfl) rfl ?_
         refine o_s (.t (.d (.lit (.int .i64 x54.1)))) (g0 rfl) rfl rfl rfl ?_
         refine o_s (.t (.d (.lit (.int .i64 x54.2.1)))) (g0 rfl) rfl rfl rfl ?_
         refine o_s (.t (.d (.lit (.int .i64 z51)))) (g0 rfl) rfl rfl rfl ?_
         refine o_of (e := [(48, .t (.hpt (cd 3 w0.ln_lg) 0))]) (g0 rfl) (h_nc (Mk.refl _) rfl rfl rfl rfl rfl) rfl ?_
         refine o_of (e := [(49, .t (.hpt (cd 3 w0.ln_lg) 2))]) (g0 rfl) (h_fd (Mk.refl _) rfl rfl rfl rfl rfl rfl) rfl ?_
         obtain ⟨x58, h59, h⟩ := bind_some h
         refine o_of (e := [(HK, .hp (hpA (z52.st_lg w0.ln_lg (S_wal_Log.mk x58.d_ x58.size_ x54.1 x58.slot_ x58.used_ x58.life_ x58.commits_))))]) (g0 rfl) (h_st (Mk.refl _) rfl rfl rfl rfl rfl (gl_lg h59) rfl rfl (Nat.le_of_ble_eq_true rfl) rfl (su_lg (x' := (S_wal_Log.mk x58.d_ x58.size_ x54.1 x58.slot_ x58.used_ x58.life_ x58.commits_)) h59)) rfl ?_
         refine o_of (e := [(50, .t (.hpt (cd 3 w0.ln_lg) 0))]) (g0 rfl) (h_nc (Mk.refl _) rfl rfl rfl rfl rfl) rfl ?_
         refine o_of (e := [(51, .t (.hpt (cd 3 w0.ln_lg) 1))]) (g0 rfl) (h_fd (Mk.refl _) rfl rfl rfl rfl rfl rfl) rfl ?_
         refine o_of (e := [(HK, .hp (hpA ((z52.st_lg w0.ln_lg (S_wal_Log.mk x58.d_ x58.size_ x54.1 x58.slot_ x58.used_ x58.life_ x58.commits_)).st_lg w0.ln_lg (S_wal_Log.mk x58.d_ x54.2.1 x54.1 x58.slot_ x58.used_ x58.life_ x58.commits_))))]) (g0 rfl) (h_st (Mk.refl _) rfl rfl rfl rfl rfl (gl_lg (set_get h59)) rfl rfl (Nat.le_of_ble_eq_true rfl) rfl (su_lg (x' := (S_wal_Log.mk x58.d_ x54.2.1 x54.1 x58.slot_ x58.used_ x58.life_ x58.commits_)) (set_get h59))) rfl ?_
         refine o_of (e := [(52, .t (.hpt (cd 3 w0.ln_lg) 0))]) (g0 rfl) (h_nc (Mk.refl _) rfl rfl rfl rfl rfl) rfl ?_
         refine o_of (e := [(53, .t (.hpt (cd 3 w0.ln_lg) 3))]) (g0 rfl) (h_fd (Mk.refl _) rfl rfl rfl rfl rfl rfl) rfl ?_
         refine o_of (e := [(HK, .hp (hpA (((z52.st_lg w0.ln_lg (S_wal_Log.mk x58.d_ x58.size_ x54.1 x58.slot_ x58.used_ x58.life_ x58.commits_)).st_lg w0.ln_lg (S_wal_Log.mk x58.d_ x54.2.1 x54.1 x58.slot_ x58.used_ x58.life_ x58.commits_)).st_lg w0.ln_lg (S_wal_Log.mk x58.d_ x54.2.1 x54.1 z51 x58.used_ x58.life_ x58.commits_))))]) (g0 rfl) (h_st (Mk.refl _) rfl rfl rfl rfl rfl (gl_lg (set_get (set_get h59))) rfl rfl (Nat.le_of_ble_eq_true rfl) rfl (su_lg (x' := (S_wal_Log.mk x58.d_ x54.2.1 x54.1 z51 x58.used_ x58.life_ x58.commits_)) (set_get (set_get h59)))) rfl ?_
         refine o_nil ?_
         repeat (first | refine k1 ?_ | refine k4 ?_)
         refine c_region ?_
         refine o_s (.t (.d (.lit (.int .i64 (wi (z51 + 1)))))) (g0 rfl) rfl rfl rfl ?_
         refine o_s (.t (.d (.lit (.int .i64 (wi (z51 + 1)))))) (g0 rfl) rfl rfl rfl ?_
         refine o_nil ?_
         repeat (first | refine k1 ?_ | refine k4 ?_)
         exact ⟨nl5, ((wi (z51 + 1)), (((z52.st_lg w0.ln_lg (S_wal_Log.mk x58.d_ x58.size_ x54.1 x58.slot_ x58.used_ x58.life_ x58.commits_)).st_lg w0.ln_lg (S_wal_Log.mk x58.d_ x54.2.1 x54.1 x58.slot_ x58.used_ x58.life_ x58.commits_)).st_lg w0.ln_lg (S_wal_Log.mk x58.d_ x54.2.1 x54.1 z51 x58.used_ x58.life_ x58.commits_))), [], Nat.lt_succ_self nl5, h, rfl, ⟨.inr ⟨_, rfl, pure_hpA _⟩, by (repeat (first | exact ObP.nil | refine ObP.cons (.inl rfl) ?_ | refine ObP.cons (.inr (fun _ => rfl)) ?_ | refine ObP.cons (.inr (ob_box (fl_noPt _ _))) ?_ | refine ObP.cons (.inr (ob_gb _ _)) ?_))⟩, ⟨(.refl _), ⟨(.refl _), ⟨(.refl _), ⟨(.refl _), trivial⟩⟩⟩⟩, rfl⟩
        ·
         refine c_f h57 rfl ?_
         refine c_skip ?_
         repeat (first | refine k1 ?_ | refine k4 ?_)
         refine c_region ?_
         refine o_s (.t (.d (.lit (.int .i64 (wi (z51 + 1)))))) (g0 rfl) rfl rfl rfl ?_
         refine o_s (.t (.d (.lit (.int .i64 (wi (z51 + 1)))))) (g0 rfl) rfl rfl rfl ?_
         refine o_nil ?_
         repeat (first | refine k1 ?_ | refine k4 ?_)
         exact ⟨nl5, ((wi (z51 + 1)), z52), [], Nat.lt_succ_self nl5, h, rfl, ⟨.inr ⟨_, rfl, pure_hpA _⟩, by (repeat (first | exact ObP.nil | refine ObP.cons (.inl rfl) ?_ | refine ObP.cons (.inr (fun _ => rfl)) ?_ | refine ObP.cons (.inr (ob_box (fl_noPt _ _))) ?_ | refine ObP.cons (.inr (ob_gb _ _)) ?_))⟩, ⟨(.refl _), ⟨(.refl _), ⟨(.refl _), ⟨(.refl _), trivial⟩⟩⟩⟩, rfl⟩
      ·
       refine c_f h53 rfl ?_
       refine c_exit ?_
       repeat (first | refine k1 ?_ | refine k2 ?_ | refine k3 ?_ | refine k4 ?_ | refine k5 ?_ | refine k6 ?_ | refine k7 rfl ?_)
       exact ⟨z52, [], h, rfl, ⟨.inr ⟨_, rfl, pure_hpA _⟩, by (repeat (first | exact ObP.nil | refine ObP.cons (.inl rfl) ?_ | refine ObP.cons (.inr (fun _ => rfl)) ?_ | refine ObP.cons (.inr (ob_box (fl_noPt _ _))) ?_ | refine ObP.cons (.inr (ob_gb _ _)) ?_))⟩, ⟨(.refl _), ⟨(.refl _), trivial⟩⟩, rfl⟩
    ·
     rintro y38 h
     refine c_seq ?_
     refine c_sr ?_
     refine o_of (e := [(55, .t (.hpt (cd 3 w0.ln_lg) 0))]) (g0 rfl) (h_mv (Mk.refl _) (.inl rfl) rfl rfl rfl) rfl ?_
     refine o_of (e := [(56, .t (.hpt (cd 3 w0.ln_lg) 0))]) (g0 rfl) (h_nc (Mk.refl _) rfl rfl rfl rfl rfl) rfl ?_
     refine o_of (e := [(57, .t (.hpt (cd 3 w0.ln_lg) 2))]) (g0 rfl) (h_fd (Mk.refl _) rfl rfl rfl rfl rfl rfl) rfl ?_
     obtain ⟨x39, h40, h⟩ := bind_some h
     refine o_of (e := [(58, .t (.d (.lit (.int .i64 x39.base_))))]) (g0 rfl) (h_ld (Mk.refl _) rfl rfl rfl rfl (gl_lg h40) rfl rfl rfl rfl) rfl ?_
     refine o_s (.t (.d (.lit (.bool (x39.base_ == 0))))) (g0 rfl) rfl rfl rfl ?_
     refine o_nil ?_
     repeat (first | refine k1 ?_ | refine k4 ?_)
     rcases bif_some h with ⟨h41, h⟩ | ⟨h41, h⟩
     ·
      refine c_t h41 rfl ?_
      refine c_sr ?_
      refine o_of (e := [(2, .t (.d (.lit (.pointer none))))]) (g0 rfl) (h_mv (Mk.refl _) (.inr rfl) rfl rfl rfl) rfl ?_
      refine o_s (.t (.d (.lit (.int .i64 11)))) (g0 rfl) rfl rfl rfl ?_
      refine o_nil ?_
      repeat (first | refine k1 ?_ | refine k4 ?_)
      refine c_ret ?_
      repeat (first | refine k3 ?_ | refine k5 ?_)
      obtain rfl := Option.some.inj h
      exact ⟨⟨_, rfl, (.tup (.cons (.refl _) (.cons (.refl _) .nil)))⟩, trivial, rfl⟩
     ·
      refine c_f h41 rfl ?_
      refine c_skip ?_
      repeat (first | refine k1 ?_ | refine k4 ?_)
      refine c_seq ?_
      refine c_seq ?_
      refine c_draw mixed (by kernel_rfl) ?_
      refine d_h0 [] (e := [(60, .t (.hpt (cd 3 w0.ln_lg) 0))]) (ks := [60]) rfl (dg0 rfl) rfl rfl (fun S' hM hok => h_mv hM (.inl rfl) rfl rfl (hok _ rfl rfl)) rfl ?_
      refine d_h0 [] (e := [(61, .t (.hpt (cd 3 w0.ln_lg) 0))]) (ks := [61]) rfl (dg0 rfl) rfl rfl (fun S' hM hok => h_nc hM rfl rfl rfl rfl (hok _ rfl rfl)) rfl ?_
      refine d_h0 [] (e := [(62, .t (.hpt (cd 3 w0.ln_lg) 2))]) (ks := [62]) rfl (dg0 rfl) rfl rfl (fun S' hM hok => h_fd hM rfl rfl rfl rfl rfl (hok _ rfl rfl)) rfl ?_
      refine d_h (e := [(63, .t (.d (.lit (.int .i64 x39.base_))))]) (ks := [63]) rfl (dg0 rfl) rfl rfl (fun S' hM hk hok => h_ld hM hk rfl rfl rfl (gl_lg h40) rfl rfl rfl (hok _ rfl rfl)) rfl ?_
      refine d_h0 [] (e := [(64, .t (.hpt (cd 3 w0.ln_lg) 0))]) (ks := [64]) rfl (dg0 rfl) rfl rfl (fun S' hM hok => h_mv hM (.inl rfl) rfl rfl (hok _ rfl rfl)) rfl ?_
      refine d_h0 [] (e := [(65, .t (.hpt (cd 3 w0.ln_lg) 0))]) (ks := [65]) rfl (dg0 rfl) rfl rfl (fun S' hM hok => h_nc hM rfl rfl rfl rfl (hok _ rfl rfl)) rfl ?_
      refine d_h0 [] (e := [(66, .t (.hpt (cd 3 w0.ln_lg) 1))]) (ks := [66]) rfl (dg0 rfl) rfl rfl (fun S' hM hok => h_fd hM rfl rfl rfl rfl rfl (hok _ rfl rfl)) rfl ?_
      refine d_h (e := [(67, .t (.d (.lit (.int .i64 x39.size_))))]) (ks := [67]) rfl (dg0 rfl) rfl rfl (fun S' hM hk hok => h_ld hM hk rfl rfl rfl (gl_lg h40) rfl rfl rfl (hok _ rfl rfl)) rfl ?_
      refine d_s (.t (.d (.lit (.int .i64 (wi (2305843009213693952 - x39.size_)))))) rfl (dg0 rfl) rfl rfl rfl rfl ?_
      refine d_s (.t (.d (.lit (.bool (decide (x39.base_ > (wi (2305843009213693952 - x39.size_)))))))) rfl (dg0 rfl) rfl rfl rfl rfl ?_
      refine d_nil (by kernel_rfl) ?_
      repeat (first | refine k1 ?_ | refine k2 ?_ | refine k3 ?_ | refine k4 ?_ | refine k5 ?_ | refine k6 ?_ | refine k7 rfl ?_)
      rcases bif_some h with ⟨h42, h⟩ | ⟨h42, h⟩
      ·
       refine c_t h42 rfl ?_
       refine c_sr ?_
       refine o_of (e := [(2, .t (.d (.lit (.pointer none))))]) (g0 rfl) (h_mv (Mk.refl _) (.inr rfl) rfl rfl rfl) rfl ?_
       refine o_s (.t (.d (.lit (.int .i64 3)))) (g0 rfl) rfl rfl rfl ?_
       refine o_nil ?_
       repeat (first | refine k1 ?_ | refine k4 ?_)
       refine c_ret ?_
       repeat (first | refine k3 ?_ | refine k5 ?_)
       obtain rfl := Option.some.inj h
       exact ⟨⟨_, rfl, (.tup (.cons (.refl _) (.cons (.refl _) .nil)))⟩, trivial, rfl⟩
      ·
       refine c_f h42 rfl ?_
       refine c_skip ?_
       repeat (first | refine k1 ?_ | refine k4 ?_)
       refine c_seq ?_
       refine c_sr ?_
       refine o_of (e := [(70, .t (.hpt (cd 3 w0.ln_lg) 0))]) (g0 rfl) (h_mv (Mk.refl _) (.inl rfl) rfl rfl rfl) rfl ?_
       refine o_of (e := [(71, .t (.hpt (cd 3 w0.ln_lg) 0))]) (g0 rfl) (h_mv (Mk.refl _) (.inl rfl) rfl rfl rfl) rfl ?_
       obtain ⟨x43, h44, h⟩ := bind_some h
       refine o_of (e := [(72, .t (.own 100 2 (List.map cS_api_Write x43)))]) (g0 rfl) (h_callR (Mk.refl _) rfl (σ := []) (fr := []) rfl rfl rfl rfl rfl rfl rfl (fch_wal_Log_says _ y38 _ h44) (pure_hpA _) rfl rfl rfl rfl (.cons (.hpt _ _) .nil) rfl (.t (.flat rfl))) rfl ?_
       obtain ⟨x45, h46, h⟩ := bind_some h
       refine o_of (e := [(HK, .hp (hpA x45.2)), (73, .t (.d (.lit (.int .i64 x45.1))))]) (g0 rfl) (h_call (Mk.refl _) rfl (σ := []) (fr := []) rfl rfl rfl rfl rfl rfl rfl (fch_wal_Log_redo _ _ y38 _ h46) (pure_hpA _) (pure_hpA _) rfl rfl rfl rfl (.cons (.hpt _ _) (.cons (.plain (.refl _) rfl) .nil)) rfl (.t (.flat rfl))) rfl ?_
       refine o_s (.t (.d (.lit (.int .i64 x45.1)))) (g0 rfl) rfl rfl rfl ?_
       refine o_nil ?_
       repeat (first | refine k1 ?_ | refine k4 ?_)
       refine c_sr ?_
       refine o_s (.t (.d (.lit (.int .i64 x45.1)))) (g0 rfl) rfl rfl rfl ?_
       refine o_s (.t (.d (.lit (.bool (x45.1 != 0))))) (g0 rfl) rfl rfl rfl ?_
       refine o_nil ?_
       repeat (first | refine k1 ?_ | refine k4 ?_)
       rcases bif_some h with ⟨h47, h⟩ | ⟨h47, h⟩
       ·
        refine c_t h47 rfl ?_
        refine c_sr ?_
        refine o_s (.t (.d (.lit (.int .i64 x45.1)))) (g0 rfl) rfl rfl rfl ?_
        refine o_of (e := [(2, .t (.d (.lit (.pointer none))))]) (g0 rfl) (h_mv (Mk.refl _) (.inr rfl) rfl rfl rfl) rfl ?_
        refine o_s (.t (.d (.lit (.int .i64 x45.1)))) (g0 rfl) rfl rfl rfl ?_
        refine o_nil ?_
        repeat (first | refine k1 ?_ | refine k4 ?_)
        refine c_ret ?_
        repeat (first | refine k3 ?_ | refine k5 ?_)
        obtain rfl := Option.some.inj h
        exact ⟨⟨_, rfl, (.tup (.cons (.refl _) (.cons (.refl _) .nil)))⟩, trivial, rfl⟩
       ·
        refine c_f h47 rfl ?_
        refine c_skip ?_
        repeat (first | refine k1 ?_ | refine k4 ?_)
        refine c_seq ?_
        refine c_sr ?_
        refine o_of (e := [(77, .t (.hpt (cd 3 w0.ln_lg) 0))]) (g0 rfl) (h_mv (Mk.refl _) (.inl rfl) rfl rfl rfl) rfl ?_
        obtain ⟨x48, h49, h⟩ := bind_some h
        refine o_of (e := [(HK, .hp (hpA x48.2)), (78, .t (.d (.lit (.int .i64 x48.1))))]) (g0 rfl) (h_call (Mk.refl _) rfl (σ := []) (fr := []) rfl rfl rfl rfl rfl rfl rfl (fch_wal_Log_Checkpoint _ x45.2 _ h49) (pure_hpA _) (pure_hpA _) rfl rfl rfl rfl (.cons (.hpt _ _) .nil) rfl (.t (.flat rfl))) rfl ?_
        refine o_s (.t (.d (.lit (.int .i64 x48.1)))) (g0 rfl) rfl rfl rfl ?_
        refine o_nil ?_
        repeat (first | refine k1 ?_ | refine k4 ?_)
        refine c_sr ?_
        refine o_s (.t (.d (.lit (.int .i64 x48.1)))) (g0 rfl) rfl rfl rfl ?_
        refine o_s (.t (.d (.lit (.bool (x48.1 != 0))))) (g0 rfl) rfl rfl rfl ?_
        refine o_nil ?_
        repeat (first | refine k1 ?_ | refine k4 ?_)
        rcases bif_some h with ⟨h50, h⟩ | ⟨h50, h⟩
        ·
         refine c_t h50 rfl ?_
         refine c_sr ?_
         refine o_s (.t (.d (.lit (.int .i64 x48.1)))) (g0 rfl) rfl rfl rfl ?_
         refine o_of (e := [(2, .t (.d (.lit (.pointer none))))]) (g0 rfl) (h_mv (Mk.refl _) (.inr rfl) rfl rfl rfl) rfl ?_
         refine o_s (.t (.d (.lit (.int .i64 x48.1)))) (g0 rfl) rfl rfl rfl ?_
         refine o_nil ?_
         repeat (first | refine k1 ?_ | refine k4 ?_)
         refine c_ret ?_
         repeat (first | refine k3 ?_ | refine k5 ?_)
         obtain rfl := Option.some.inj h
         exact ⟨⟨_, rfl, (.tup (.cons (.refl _) (.cons (.refl _) .nil)))⟩, trivial, rfl⟩
        ·
         refine c_f h50 rfl ?_
         refine c_skip ?_
         repeat (first | refine k1 ?_ | refine k4 ?_)
         refine c_sr ?_
         refine o_of (e := [(82, .t (.hpt (cd 3 w0.ln_lg) 0))]) (g0 rfl) (h_mv (Mk.refl _) (.inl rfl) rfl rfl rfl) rfl ?_
         refine o_of (e := [(2, .t (.hpt (cd 3 w0.ln_lg) 0))]) (g0 rfl) (h_mv (Mk.refl _) (.inr rfl) rfl rfl rfl) rfl ?_
         refine o_s (.t (.d (.lit (.int .i64 0)))) (g0 rfl) rfl rfl rfl ?_
         refine o_nil ?_
         repeat (first | refine k1 ?_ | refine k4 ?_)
         refine c_ret ?_
         repeat (first | refine k3 ?_ | refine k5 ?_)
         obtain rfl := Option.some.inj h
         exact ⟨⟨_, rfl, (.tup (.cons (.refl _) (.cons (.refl _) .nil)))⟩, trivial, rfl⟩

theorem fch_wal_Log_Left (p0 : (Option Nat)) (w0 : Hp) (r : Int) (h : m_wal_Log_Left p0 w0 = some r) : FCH Try.prog 58 [.t ((ptT 3 p0))] [] [] (hpA w0) (hpA w0) (.t (.d (.lit (.int .i64 r)))) := by
 refine fch_mk (rs := [.tmp 2]) (n := 14) [] Try.func58 rfl rfl (Nat.le_of_ble_eq_true rfl) rfl (pins := []) rfl (L := [(HK, .hp (hpA w0)), (0, .t ((ptT 3 p0)))]) rfl ?_
 refine c_sr ?_
 refine o_s (.t (.d (.lit (.int .i64 0)))) (g0 rfl) rfl rfl rfl ?_
 refine o_nil ?_
 repeat (first | refine k1 ?_ | refine k4 ?_)
 refine c_seq ?_
 refine c_sr ?_
 refine o_of (e := [(3, .t ((ptT 3 p0)))]) (g0 rfl) (h_mv (Mk.refl _) (.inl rfl) (cpO_pt rfl) rfl rfl) rfl ?_
 rcases ptM_some h with ⟨h1, h⟩ | ⟨i2, h1, h⟩
 ·
  refine o_of (e := [(4, .t (.d (.lit (.bool true))))]) (g0 rfl) (h_pn (Mk.refl _) (ng := false) rfl rfl rfl (pn_none rfl h1) rfl rfl) rfl ?_
  refine o_nil ?_
  repeat (first | refine k1 ?_ | refine k4 ?_)
  refine c_t rfl rfl ?_
  refine c_sr ?_
  refine o_s (.t (.d (.lit (.int .i64 0)))) (g0 rfl) rfl rfl rfl ?_
  refine o_nil ?_
  repeat (first | refine k1 ?_ | refine k4 ?_)
  refine c_ret ?_
  repeat (first | refine k3 ?_ | refine k5 ?_)
  obtain rfl := Option.some.inj h
  exact ⟨⟨_, rfl, (.refl _)⟩, trivial, rfl⟩
 ·
  refine o_of (e := [(4, .t (.d (.lit (.bool false))))]) (g0 rfl) (h_pn (Mk.refl _) (ng := false) rfl rfl rfl (pn_some rfl h1) rfl rfl) rfl ?_
  refine o_nil ?_
  repeat (first | refine k1 ?_ | refine k4 ?_)
  refine c_f rfl rfl ?_
  refine c_skip ?_
  repeat (first | refine k1 ?_ | refine k4 ?_)
  refine c_seq ?_
  refine c_draw mixed (by kernel_rfl) ?_
  refine d_h0 [] (e := [(5, .t (.hpt (cd 3 i2) 0))]) (ks := [5]) rfl (dg0 rfl) rfl rfl (fun S' hM hok => h_mv hM (.inl rfl) ((cpO_pt rfl).trans (pt_eq_some h1)) rfl (hok _ rfl rfl)) rfl ?_
  refine d_h0 [] (e := [(6, .t (.hpt (cd 3 i2) 0))]) (ks := [6]) rfl (dg0 rfl) rfl rfl (fun S' hM hok => h_nc hM rfl rfl rfl rfl (hok _ rfl rfl)) rfl ?_
  refine d_h0 [] (e := [(7, .t (.hpt (cd 3 i2) 1))]) (ks := [7]) rfl (dg0 rfl) rfl rfl (fun S' hM hok => h_fd hM rfl rfl rfl rfl rfl (hok _ rfl rfl)) rfl ?_
  obtain ⟨x3, h4, h⟩ := bind_some h
  refine d_h (e := [(8, .t (.d (.lit (.int .i64 x3.size_))))]) (ks := [8]) rfl (dg0 rfl) rfl rfl (fun S' hM hk hok => h_ld hM hk rfl rfl rfl (gl_lg h4) rfl rfl rfl (hok _ rfl rfl)) rfl ?_
  refine d_h0 [] (e := [(9, .t (.hpt (cd 3 i2) 0))]) (ks := [9]) rfl (dg0 rfl) rfl rfl (fun S' hM hok => h_mv hM (.inl rfl) ((cpO_pt rfl).trans (pt_eq_some h1)) rfl (hok _ rfl rfl)) rfl ?_
  refine d_h0 [] (e := [(10, .t (.hpt (cd 3 i2) 0))]) (ks := [10]) rfl (dg0 rfl) rfl rfl (fun S' hM hok => h_nc hM rfl rfl rfl rfl (hok _ rfl rfl)) rfl ?_
  refine d_h0 [] (e := [(11, .t (.hpt (cd 3 i2) 4))]) (ks := [11]) rfl (dg0 rfl) rfl rfl (fun S' hM hok => h_fd hM rfl rfl rfl rfl rfl (hok _ rfl rfl)) rfl ?_
  refine d_h (e := [(12, .t (.d (.lit (.int .i64 x3.used_))))]) (ks := [12]) rfl (dg0 rfl) rfl rfl (fun S' hM hk hok => h_ld hM hk rfl rfl rfl (gl_lg h4) rfl rfl rfl (hok _ rfl rfl)) rfl ?_
  refine d_s (.t (.d (.lit (.int .i64 (wi (x3.size_ - x3.used_)))))) rfl (dg0 rfl) rfl rfl rfl rfl ?_
  refine d_s (.t (.d (.lit (.int .i64 (wi (x3.size_ - x3.used_)))))) rfl (dg0 rfl) rfl rfl rfl rfl ?_
  refine d_nil (by kernel_rfl) ?_
  repeat (first | refine k1 ?_ | refine k2 ?_ | refine k3 ?_ | refine k4 ?_ | refine k5 ?_ | refine k6 ?_ | refine k7 rfl ?_)
  refine c_ret ?_
  repeat (first | refine k3 ?_ | refine k5 ?_)
  obtain rfl := Option.some.inj h
  exact ⟨⟨_, rfl, (.refl _)⟩, trivial, rfl⟩

theorem fc_wal_entries (p0 : (List S_api_Write)) (r : (List S_wal_entry)) (h : m_wal_entries p0 = some r) : FC Try.prog 70 [.t (.d (.seq 2 (List.map cS_api_Write p0)))] [] (.t (.own 116 4 (List.map cS_wal_entry r))) := by
 refine fc_mk (rs := [.tmp 2]) (n := 34) Try.func70 rfl rfl (Nat.le_of_ble_eq_true rfl) rfl (pins := []) rfl (L := [(0, .t (.d (.seq 2 (List.map cS_api_Write p0))))]) rfl ?_
 refine c_sr ?_
 refine o_s (.t (.d (.lit (.slice none 0 0)))) (g0 rfl) rfl rfl rfl ?_
 refine o_nil ?_
 repeat (first | refine k1 ?_ | refine k4 ?_)
 refine c_sr ?_
 refine o_s (.t (.d (.lit (.slice none 0 0)))) (g0 rfl) rfl rfl rfl ?_
 refine o_nil ?_
 repeat (first | refine k1 ?_ | refine k4 ?_)
 refine c_cut (fun (y1 : (List S_wal_entry)) => [(0, .t (.d (.seq 2 (List.map cS_api_Write p0)))), (3, .t (.own 116 4 (List.map cS_wal_entry y1)))]) (fun (y1 : (List S_wal_entry)) => m_wal_entries_j1 p0 y1 = some r) ?_ ?_
 ·
  refine c_sr ?_
  refine o_s (.t (.d (.seq 2 (List.map cS_api_Write p0)))) (g0 rfl) rfl rfl rfl ?_
  refine o_c (g0 rfl) rfl rfl rfl (lenE _ _) trivial ?_
  refine o_s (.t (.d (.lit (.int .i64 0)))) (g0 rfl) rfl rfl rfl ?_
  refine o_nil ?_
  repeat (first | refine k1 ?_ | refine k4 ?_)
  refine c_block ?_
  refine c_fuel (fun (q : (List S_wal_entry) × Int) => [(0, .t (.d (.seq 2 (List.map cS_api_Write p0)))), (3, .t (.own 116 4 (List.map cS_wal_entry q.1))), (6, .t (.d (.seq 2 (List.map cS_api_Write p0)))), (7, .t (.d (.lit (.int .i64 (p0.length : Int))))), (8, .t (.d (.lit (.int .i64 q.2))))]) (fun nl2 => (fun (q : (List S_wal_entry) × Int) => m_wal_entries_l2 p0 nl2 q.1 q.2 = some r)) (p0.length + 1) ([], 0) h ⟨(.refl _), ⟨(.t (.nilOwn _ _)), ⟨(.refl _), ⟨(.refl _), ⟨(.refl _), trivial⟩⟩⟩⟩⟩ rfl ?_
  rintro nl2 ⟨z4, z5⟩ h
  cases nl2 with
  | zero => exact none_ne h
  | succ nl2 =>
   refine c_sr ?_
   refine o_s (.t (.d (.lit (.bool (decide (z5 < (p0.length : Int))))))) (g0 rfl) rfl rfl rfl ?_
   refine o_nil ?_
   repeat (first | refine k1 ?_ | refine k4 ?_)
   refine c_seq ?_
   rcases bif_some h with ⟨h6, h⟩ | ⟨h6, h⟩
   ·
    refine c_t h6 rfl ?_
    refine c_skip ?_
    repeat (first | refine k1 ?_ | refine k4 ?_)
    refine c_seq ?_
    refine c_block ?_
    refine c_sr ?_
    obtain ⟨x7, h8, h⟩ := bind_some h
    refine o_c (g0 rfl) rfl rfl rfl (idxE h8) (idxC h8) ?_
    refine o_s (.t (.agg [.lit (.int .i64 x7.Home), .seq 1 (bytesD x7.Data)])) (g0 rfl) rfl rfl rfl ?_
    refine o_s (.box [.d (.lit (.int .i64 0)), .d (.lit (.slice none 0 0))]) (g0 rfl) rfl rfl rfl ?_
    refine o_st (.box [.d (.lit (.int .i64 x7.Home)), .d (.seq 1 (bytesD x7.Data))]) (g0 rfl) rfl rfl rfl ?_
    refine o_nil ?_
    repeat (first | refine k1 ?_ | refine k4 ?_)
    refine c_draw mixed (by kernel_rfl) ?_
    refine d_2 (.t (.d (.seq 4 (List.map cS_wal_entry z4)))) (.t (.own 116 4 (List.map cS_wal_entry z4))) rfl (dg0 rfl) rfl rfl rfl rfl rfl ?_
    refine d_s (.ref 5 0) rfl (dg0 rfl) rfl rfl rfl rfl ?_
    refine d_s (.t (.d (.lit (.int .i64 x7.Home)))) rfl (dg0 rfl) rfl rfl rfl rfl ?_
    refine d_s (.ref 5 1) rfl (dg0 rfl) rfl rfl rfl rfl ?_
    refine d_s (.t (.d (.seq 1 (bytesD x7.Data)))) rfl (dg0 rfl) rfl rfl rfl rfl ?_
    obtain ⟨x9, h10, h⟩ := bind_some h
    refine d_c rfl (dg0 rfl) rfl rfl rfl rfl (cutEh (c := cU8) h10) (cutCh (c := cU8) h10) ?_
    refine d_s (.t (.agg [.lit (.int .i64 1), .lit (.int .i64 x7.Home), .seq 1 (bytesD x9), .lit (.bool false)])) rfl (dg0 rfl) rfl rfl rfl rfl ?_
    refine d_s (.ref 5 0) rfl (dg0 rfl) rfl rfl rfl rfl ?_
    refine d_s (.t (.d (.lit (.int .i64 x7.Home)))) rfl (dg0 rfl) rfl rfl rfl rfl ?_
    refine d_s (.ref 5 1) rfl (dg0 rfl) rfl rfl rfl rfl ?_
    refine d_s (.t (.d (.seq 1 (bytesD x7.Data)))) rfl (dg0 rfl) rfl rfl rfl rfl ?_
    obtain ⟨x11, h12, h⟩ := bind_some h
    refine d_c rfl (dg0 rfl) rfl rfl rfl rfl (cutEl (c := cU8) h12) (cutCl (c := cU8) h12) ?_
    refine d_s (.t (.agg [.lit (.int .i64 2), .lit (.int .i64 x7.Home), .seq 1 (bytesD x11), .lit (.bool false)])) rfl (dg0 rfl) rfl rfl rfl rfl ?_
    refine d_s (.t (.own 116 4 (List.map cS_wal_entry [(S_wal_entry.mk 1 x7.Home x9 false), (S_wal_entry.mk 2 x7.Home x11 false)]))) rfl (dg0 rfl) rfl rfl rfl rfl ?_
    obtain ⟨x13, h14, h⟩ := bind_some h
    refine d_2c rfl (dg0 rfl) rfl rfl rfl rfl rfl (appE (c := cS_wal_entry) h14) (appC (c := cS_wal_entry) h14) ?_
    refine d_2 (.t (.d (.seq 4 (List.map cS_wal_entry x13)))) (.t (.own 116 4 (List.map cS_wal_entry x13))) rfl (dg0 rfl) rfl rfl rfl rfl rfl ?_
    refine d_nil (by kernel_rfl) ?_
    repeat (first | refine k1 ?_ | refine k2 ?_ | refine k3 ?_ | refine k4 ?_ | refine k5 ?_ | refine k6 ?_ | refine k7 rfl ?_)
    refine c_region ?_
    refine o_s (.t (.d (.lit (.int .i64 (wi (z5 + 1)))))) (g0 rfl) rfl rfl rfl ?_
    refine o_s (.t (.d (.lit (.int .i64 (wi (z5 + 1)))))) (g0 rfl) rfl rfl rfl ?_
    refine o_nil ?_
    repeat (first | refine k1 ?_ | refine k4 ?_)
    exact ⟨nl2, (x13, (wi (z5 + 1))), Nat.lt_succ_self nl2, h, ⟨(.refl _), ⟨(.refl _), ⟨(.refl _), ⟨(.refl _), ⟨(.refl _), trivial⟩⟩⟩⟩⟩, rfl⟩
   ·
    refine c_f h6 rfl ?_
    refine c_exit ?_
    repeat (first | refine k1 ?_ | refine k2 ?_ | refine k3 ?_ | refine k4 ?_ | refine k5 ?_ | refine k6 ?_ | refine k7 rfl ?_)
    exact ⟨z4, h, ⟨(.refl _), ⟨(.refl _), trivial⟩⟩, rfl⟩
 ·
  rintro y1 h
  refine c_sr ?_
  refine o_2 (.t (.d (.seq 4 (List.map cS_wal_entry y1)))) (.t (.own 116 4 (List.map cS_wal_entry y1))) (g0 rfl) rfl rfl rfl ?_
  refine o_s (.t (.d (.seq 2 (List.map cS_api_Write p0)))) (g0 rfl) rfl rfl rfl ?_
  refine o_c (g0 rfl) rfl rfl rfl (lenE _ _) trivial ?_
  refine o_s (.t (.agg [.lit (.int .i64 3), .lit (.int .i64 (p0.length : Int)), .lit (.slice none 0 0), .lit (.bool false)])) (g0 rfl) rfl rfl rfl ?_
  refine o_w (.t (.own 116 4 (List.map cS_wal_entry [(S_wal_entry.mk 3 (p0.length : Int) [] false)]))) (g0 rfl) rfl rfl rfl (.t (.rows _ _ (.cons (.cons (.refl _) (.cons (.refl _) (.cons (.nil _) (.cons (.refl _) .nil)))) .nil) rfl)) (fun e => nomatch e) ?_
  obtain ⟨x2, h3, h⟩ := bind_some h
  refine o_2c (g0 rfl) rfl rfl rfl (appE (c := cS_wal_entry) h3) (appC (c := cS_wal_entry) h3) ?_
  refine o_2 (.t (.d (.seq 4 (List.map cS_wal_entry x2)))) (.t (.own 116 4 (List.map cS_wal_entry x2))) (g0 rfl) rfl rfl rfl ?_
  refine o_nil ?_
  repeat (first | refine k1 ?_ | refine k4 ?_)
  refine c_ret ?_
  repeat (first | refine k3 ?_ | refine k5 ?_)
  obtain rfl := Option.some.inj h
  exact end0 rfl (.refl _)

theorem fch_wal_Log_Commit (p0 : (Option Nat)) (p1 : (List S_api_Write)) (w0 : Hp) (r : (Int × Hp)) (h : m_wal_Log_Commit p0 p1 w0 = some r) : FCH Try.prog 16 [.t ((ptT 3 p0)), .t (.d (.seq 2 (List.map cS_api_Write p1)))] [] [] (hpA w0) (hpA r.2) (.t (.d (.lit (.int .i64 r.1)))) := by
 refine fch_mk (rs := [.tmp 4]) (n := 127) [] Try.func16 rfl rfl (Nat.le_of_ble_eq_true rfl) rfl (pins := []) rfl (L := [(HK, .hp (hpA w0)), (0, .t ((ptT 3 p0))), (1, .t (.d (.seq 2 (List.map cS_api_Write p1))))]) rfl ?_
 refine c_sr ?_
 refine o_s (.t (.d (.lit (.int .i64 0)))) (g0 rfl) rfl rfl rfl ?_
 refine o_nil ?_
 repeat (first | refine k1 ?_ | refine k4 ?_)
 refine c_seq ?_
 refine c_sr ?_
 refine o_of (e := [(15, .t ((ptT 3 p0)))]) (g0 rfl) (h_mv (Mk.refl _) (.inl rfl) (cpO_pt rfl) rfl rfl) rfl ?_
 obtain ⟨x1, h2, h⟩ := bind_some h
 refine o_of (e := [(16, .t (.d (.lit (.int .i64 x1))))]) (g0 rfl) (h_callR (Mk.refl _) rfl (σ := []) (fr := []) rfl rfl rfl rfl rfl rfl rfl (fch_wal_Log_alive _ w0 _ h2) (pure_hpA _) rfl rfl rfl rfl (.cons (argPt rfl) .nil) rfl (.t (.flat rfl))) rfl ?_
 refine o_s (.t (.d (.lit (.int .i64 x1)))) (g0 rfl) rfl rfl rfl ?_
 refine o_nil ?_
 repeat (first | refine k1 ?_ | refine k4 ?_)
 refine c_sr ?_
 refine o_s (.t (.d (.lit (.int .i64 x1)))) (g0 rfl) rfl rfl rfl ?_
 refine o_s (.t (.d (.lit (.bool (x1 != 0))))) (g0 rfl) rfl rfl rfl ?_
 refine o_nil ?_
 repeat (first | refine k1 ?_ | refine k4 ?_)
 rcases bif_some h with ⟨h3, h⟩ | ⟨h3, h⟩
 ·
  refine c_t h3 rfl ?_
  refine c_sr ?_
  refine o_s (.t (.d (.lit (.int .i64 x1)))) (g0 rfl) rfl rfl rfl ?_
  refine o_s (.t (.d (.lit (.int .i64 x1)))) (g0 rfl) rfl rfl rfl ?_
  refine o_nil ?_
  repeat (first | refine k1 ?_ | refine k4 ?_)
  refine c_ret ?_
  repeat (first | refine k3 ?_ | refine k5 ?_)
  obtain rfl := Option.some.inj h
  exact ⟨⟨_, rfl, (.refl _)⟩, trivial, rfl⟩
 ·
  refine c_f h3 rfl ?_
  refine c_skip ?_
  repeat (first | refine k1 ?_ | refine k4 ?_)
  refine c_cutH (fun (_ : Unit) => [(0, .t ((ptT 3 p0))), (1, .t (.d (.seq 2 (List.map cS_api_Write p1)))), (HK, .hp (hpA w0))]) (fun (_ : Unit) => m_wal_Log_Commit_j1 p0 w0 p1 = some r) ?_ ?_
  ·
   refine c_sr ?_
   refine o_s (.t (.d (.seq 2 (List.map cS_api_Write p1)))) (g0 rfl) rfl rfl rfl ?_
   refine o_c (g0 rfl) rfl rfl rfl (lenE _ _) trivial ?_
   refine o_s (.t (.d (.lit (.int .i64 0)))) (g0 rfl) rfl rfl rfl ?_
   refine o_nil ?_
   repeat (first | refine k1 ?_ | refine k4 ?_)
   refine c_block ?_
   refine c_fuelH (fun (z45 : Int) => [(0, .t ((ptT 3 p0))), (1, .t (.d (.seq 2 (List.map cS_api_Write p1)))), (20, .t (.d (.seq 2 (List.map cS_api_Write p1)))), (21, .t (.d (.lit (.int .i64 (p1.length : Int))))), (22, .t (.d (.lit (.int .i64 z45)))), (HK, .hp (hpA w0))]) (fun nl5 => (fun (z45 : Int) => m_wal_Log_Commit_l5 p1 w0 p0 nl5 z45 = some r)) (p1.length + 1) 0 [] h rfl ⟨.inr ⟨_, rfl, pure_hpA _⟩, by (repeat (first | exact ObP.nil | refine ObP.cons (.inl rfl) ?_ | refine ObP.cons (.inr (fun _ => rfl)) ?_ | refine ObP.cons (.inr (ob_box (fl_noPt _ _))) ?_ | refine ObP.cons (.inr (ob_gb _ _)) ?_))⟩ ⟨(.refl _), ⟨(.refl _), ⟨(.refl _), ⟨(.refl _), ⟨(.refl _), ⟨(.refl _), trivial⟩⟩⟩⟩⟩⟩ rfl ?_
   rintro nl5 z45 h
   cases nl5 with
   | zero => exact none_ne h
   | succ nl5 =>
    refine c_sr ?_
    refine o_s (.t (.d (.lit (.bool (decide (z45 < (p1.length : Int))))))) (g0 rfl) rfl rfl rfl ?_
    refine o_nil ?_
    repeat (first | refine k1 ?_ | refine k4 ?_)
    refine c_seq ?_
    rcases bif_some h with ⟨h46, h⟩ | ⟨h46, h⟩
    ·
     refine c_t h46 rfl ?_
     refine c_skip ?_
     repeat (first | refine k1 ?_ | refine k4 ?_)
     refine c_seq ?_
     refine c_block ?_
     refine c_sr ?_
     obtain ⟨x47, h48, h⟩ := bind_some h
     refine o_c (g0 rfl) rfl rfl rfl (idxE h48) (idxC h48) ?_
     refine o_s (.t (.agg [.lit (.int .i64 x47.Home), .seq 1 (bytesD x47.Data)])) (g0 rfl) rfl rfl rfl ?_
     refine o_s (.box [.d (.lit (.int .i64 0)), .d (.lit (.slice none 0 0))]) (g0 rfl) rfl rfl rfl ?_
     refine o_st (.box [.d (.lit (.int .i64 x47.Home)), .d (.seq 1 (bytesD x47.Data))]) (g0 rfl) rfl rfl rfl ?_
     refine o_nil ?_
     repeat (first | refine k1 ?_ | refine k4 ?_)
     refine c_seq ?_
     refine c_draw mixed (by kernel_rfl) ?_
     refine d_s (.ref 7 0) rfl (dg0 rfl) rfl rfl rfl rfl ?_
     refine d_s (.t (.d (.lit (.int .i64 x47.Home)))) rfl (dg0 rfl) rfl rfl rfl rfl ?_
     refine d_s (.t (.d (.lit (.bool (decide (x47.Home < 0)))))) rfl (dg0 rfl) rfl rfl rfl rfl ?_
     refine d_s (.t (.d (.lit (.bool (decide (x47.Home < 0)))))) rfl (dg0 rfl) rfl rfl rfl rfl ?_
     rcases bif_some h with ⟨h49, h⟩ | ⟨h49, h⟩
     ·
      refine d_skip rfl rfl rfl rfl rfl h49 rfl rfl rfl ?_
      refine d_skip rfl rfl rfl rfl rfl h49 rfl rfl rfl ?_
      refine d_skip rfl rfl rfl rfl rfl h49 rfl rfl rfl ?_
      refine d_skip rfl rfl rfl rfl rfl h49 rfl rfl rfl ?_
      refine d_skip rfl rfl rfl rfl rfl h49 rfl rfl rfl ?_
      refine d_pk (.t (.d (.lit (.bool true)))) (b := true) h49 rfl (dg0 rfl) rfl rfl rfl rfl rfl rfl ?_
      refine d_s (.t (.d (.lit (.bool true)))) rfl (dg0 rfl) rfl rfl rfl rfl ?_
      refine d_skip rfl rfl rfl rfl rfl rfl rfl rfl rfl ?_
      refine d_skip rfl rfl rfl rfl rfl rfl rfl rfl rfl ?_
      refine d_skip rfl rfl rfl rfl rfl rfl rfl rfl rfl ?_
      refine d_skip rfl rfl rfl rfl rfl rfl rfl rfl rfl ?_
      refine d_pk (.t (.d (.lit (.bool true)))) (b := true) rfl rfl (dg0 rfl) rfl rfl rfl rfl rfl rfl ?_
      refine d_nil (by kernel_rfl) ?_
      repeat (first | refine k1 ?_ | refine k2 ?_ | refine k3 ?_ | refine k4 ?_ | refine k5 ?_ | refine k6 ?_ | refine k7 rfl ?_)
      refine c_t rfl rfl ?_
      refine c_sr ?_
      refine o_s (.t (.d (.lit (.int .i64 2)))) (g0 rfl) rfl rfl rfl ?_
      refine o_nil ?_
      repeat (first | refine k1 ?_ | refine k4 ?_)
      refine c_ret ?_
      repeat (first | refine k3 ?_ | refine k5 ?_)
      obtain rfl := Option.some.inj h
      exact ⟨⟨_, rfl, (.refl _)⟩, trivial, rfl⟩
     ·
      refine d_s (.ref 7 0) rfl (dgy rfl rfl rfl rfl h49) rfl rfl rfl rfl ?_
      refine d_s (.t (.d (.lit (.int .i64 x47.Home)))) rfl (dgy rfl rfl rfl rfl h49) rfl rfl rfl rfl ?_
      refine d_h0 [] (e := [(32, .t ((ptT 3 p0)))]) (ks := [32]) rfl (dgy rfl rfl rfl rfl h49) rfl rfl (fun S' hM hok => h_mv hM (.inl rfl) (cpO_pt rfl) rfl (hok _ rfl rfl)) rfl ?_
      obtain ⟨x50, h51, h⟩ := bind_some h
      refine d_h (e := [(33, .t (.d (.lit (.int .i64 x50))))]) (ks := [33]) rfl (dgy rfl rfl rfl rfl h49) rfl rfl (fun S' hM hk hok => h_callR hM hk (σ := []) (fr := []) rfl rfl rfl (hok _ rfl rfl) rfl rfl rfl (fch_wal_Log_Homes _ w0 _ h51) (pure_hpA _) rfl rfl rfl rfl (.cons (argPt rfl) .nil) rfl (.t (.flat rfl))) rfl ?_
      refine d_s (.t (.d (.lit (.bool (decide (x47.Home ≥ x50)))))) rfl (dgy rfl rfl rfl rfl h49) rfl rfl rfl rfl ?_
      refine d_pk (.t (.d (.lit (.bool (decide (x47.Home ≥ x50)))))) (b := false) h49 rfl (dg0 rfl) rfl rfl rfl rfl rfl rfl ?_
      refine d_s (.t (.d (.lit (.bool (decide (x47.Home ≥ x50)))))) rfl (dg0 rfl) rfl rfl rfl rfl ?_
      rcases bif_some h with ⟨h52, h⟩ | ⟨h52, h⟩
      ·
       refine d_skip rfl rfl rfl rfl rfl h52 rfl rfl rfl ?_
       refine d_skip rfl rfl rfl rfl rfl h52 rfl rfl rfl ?_
       refine d_skip rfl rfl rfl rfl rfl h52 rfl rfl rfl ?_
       refine d_skip rfl rfl rfl rfl rfl h52 rfl rfl rfl ?_
       refine d_pk (.t (.d (.lit (.bool true)))) (b := true) h52 rfl (dg0 rfl) rfl rfl rfl rfl rfl rfl ?_
       refine d_nil (by kernel_rfl) ?_
       repeat (first | refine k1 ?_ | refine k2 ?_ | refine k3 ?_ | refine k4 ?_ | refine k5 ?_ | refine k6 ?_ | refine k7 rfl ?_)
       refine c_t rfl rfl ?_
       refine c_sr ?_
       refine o_s (.t (.d (.lit (.int .i64 2)))) (g0 rfl) rfl rfl rfl ?_
       refine o_nil ?_
       repeat (first | refine k1 ?_ | refine k4 ?_)
       refine c_ret ?_
       repeat (first | refine k3 ?_ | refine k5 ?_)
       obtain rfl := Option.some.inj h
       exact ⟨⟨_, rfl, (.refl _)⟩, trivial, rfl⟩
      ·
       refine d_s (.ref 7 1) rfl (dgy rfl rfl rfl rfl h52) rfl rfl rfl rfl ?_
       refine d_s (.t (.d (.seq 1 (bytesD x47.Data)))) rfl (dgy rfl rfl rfl rfl h52) rfl rfl rfl rfl ?_
       refine d_c rfl (dgy rfl rfl rfl rfl h52) rfl rfl rfl rfl (lenE _ _) trivial ?_
       refine d_s (.t (.d (.lit (.bool ((x47.Data.length : Int) != 64))))) rfl (dgy rfl rfl rfl rfl h52) rfl rfl rfl rfl ?_
       refine d_pk (.t (.d (.lit (.bool ((x47.Data.length : Int) != 64))))) (b := false) h52 rfl (dg0 rfl) rfl rfl rfl rfl rfl rfl ?_
       refine d_nil (by kernel_rfl) ?_
       repeat (first | refine k1 ?_ | refine k2 ?_ | refine k3 ?_ | refine k4 ?_ | refine k5 ?_ | refine k6 ?_ | refine k7 rfl ?_)
       rcases bif_some h with ⟨h53, h⟩ | ⟨h53, h⟩
       ·
        refine c_t h53 rfl ?_
        refine c_sr ?_
        refine o_s (.t (.d (.lit (.int .i64 2)))) (g0 rfl) rfl rfl rfl ?_
        refine o_nil ?_
        repeat (first | refine k1 ?_ | refine k4 ?_)
        refine c_ret ?_
        repeat (first | refine k3 ?_ | refine k5 ?_)
        obtain rfl := Option.some.inj h
        exact ⟨⟨_, rfl, (.refl _)⟩, trivial, rfl⟩
       ·
        refine c_f h53 rfl ?_
        refine c_skip ?_
        repeat (first | refine k1 ?_ | refine k4 ?_)
        refine c_region ?_
        refine o_s (.t (.d (.lit (.int .i64 (wi (z45 + 1)))))) (g0 rfl) rfl rfl rfl ?_
        refine o_s (.t (.d (.lit (.int .i64 (wi (z45 + 1)))))) (g0 rfl) rfl rfl rfl ?_
        refine o_nil ?_
        repeat (first | refine k1 ?_ | refine k4 ?_)
        exact ⟨nl5, (wi (z45 + 1)), [], Nat.lt_succ_self nl5, h, rfl, ⟨.inr ⟨_, rfl, pure_hpA _⟩, by (repeat (first | exact ObP.nil | refine ObP.cons (.inl rfl) ?_ | refine ObP.cons (.inr (fun _ => rfl)) ?_ | refine ObP.cons (.inr (ob_box (fl_noPt _ _))) ?_ | refine ObP.cons (.inr (ob_gb _ _)) ?_))⟩, ⟨(.refl _), ⟨(.refl _), ⟨(.refl _), ⟨(.refl _), ⟨(.refl _), ⟨(.refl _), trivial⟩⟩⟩⟩⟩⟩, rfl⟩
    ·
     refine c_f h46 rfl ?_
     refine c_exit ?_
     repeat (first | refine k1 ?_ | refine k2 ?_ | refine k3 ?_ | refine k4 ?_ | refine k5 ?_ | refine k6 ?_ | refine k7 rfl ?_)
     exact ⟨(), [], h, rfl, ⟨.inr ⟨_, rfl, pure_hpA _⟩, by (repeat (first | exact ObP.nil | refine ObP.cons (.inl rfl) ?_ | refine ObP.cons (.inr (fun _ => rfl)) ?_ | refine ObP.cons (.inr (ob_box (fl_noPt _ _))) ?_ | refine ObP.cons (.inr (ob_gb _ _)) ?_))⟩, ⟨(.refl _), ⟨(.refl _), ⟨(.refl _), trivial⟩⟩⟩, rfl⟩
  ·
   rintro ⟨⟩ h
   refine c_sr ?_
   refine o_s (.t (.d (.seq 2 (List.map cS_api_Write p1)))) (g0 rfl) rfl rfl rfl ?_
   refine o_c (g0 rfl) rfl rfl rfl (lenE _ _) trivial ?_
   refine o_s (.t (.d (.lit (.int .i64 (wi (2 * (p1.length : Int))))))) (g0 rfl) rfl rfl rfl ?_
   refine o_s (.t (.d (.lit (.int .i64 (wi ((wi (2 * (p1.length : Int))) + 1)))))) (g0 rfl) rfl rfl rfl ?_
   refine o_s (.t (.d (.lit (.int .i64 (wi ((wi (2 * (p1.length : Int))) + 1)))))) (g0 rfl) rfl rfl rfl ?_
   refine o_nil ?_
   repeat (first | refine k1 ?_ | refine k4 ?_)
   refine c_cutH (fun (y4 : Hp) => [(0, .t ((ptT 3 p0))), (1, .t (.d (.seq 2 (List.map cS_api_Write p1)))), (8, .t (.d (.lit (.int .i64 (wi ((wi (2 * (p1.length : Int))) + 1)))))), (HK, .hp (hpA y4))]) (fun (y4 : Hp) => m_wal_Log_Commit_j2 p1 p0 y4 = some r) ?_ ?_
   ·
    refine c_block ?_
    refine c_sr ?_
    refine o_s (.t (.d (.lit (.int .i64 (wi ((wi (2 * (p1.length : Int))) + 1)))))) (g0 rfl) rfl rfl rfl ?_
    refine o_of (e := [(49, .t ((ptT 3 p0)))]) (g0 rfl) (h_mv (Mk.refl _) (.inl rfl) (cpO_pt rfl) rfl rfl) rfl ?_
    rcases ptM_some h with ⟨h33, h⟩ | ⟨i34, h33, h⟩
    ·
     exact none_ne h
    ·
     refine o_of (e := [(50, .t (.hpt (cd 3 i34) 0))]) (g0 rfl) (h_nc (Mk.refl _) rfl (cpO_pt rfl) (ptT_some h33) rfl rfl) rfl ?_
     refine o_of (e := [(51, .t (.hpt (cd 3 i34) 1))]) (g0 rfl) (h_fd (Mk.refl _) rfl rfl rfl rfl rfl rfl) rfl ?_
     obtain ⟨x35, h36, h⟩ := bind_some h
     refine o_of (e := [(52, .t (.d (.lit (.int .i64 x35.size_))))]) (g0 rfl) (h_ld (Mk.refl _) rfl rfl rfl rfl (gl_lg h36) rfl rfl rfl rfl) rfl ?_
     refine o_s (.t (.d (.lit (.bool (decide ((wi ((wi (2 * (p1.length : Int))) + 1)) > x35.size_)))))) (g0 rfl) rfl rfl rfl ?_
     refine o_s (.t (.d (.lit (.bool (decide ((wi ((wi (2 * (p1.length : Int))) + 1)) > x35.size_)))))) (g0 rfl) rfl rfl rfl ?_
     refine o_nil ?_
     repeat (first | refine k1 ?_ | refine k4 ?_)
     rcases bif_some h with ⟨h37, h⟩ | ⟨h37, h⟩
     ·
      refine c_t h37 rfl ?_
      refine c_sr ?_
      refine o_s (.t (.d (.lit (.int .i64 3)))) (g0 rfl) rfl rfl rfl ?_
      refine o_nil ?_
      repeat (first | refine k1 ?_ | refine k4 ?_)
      refine c_ret ?_
      repeat (first | refine k3 ?_ | refine k5 ?_)
      obtain rfl := Option.some.inj h
      exact ⟨⟨_, rfl, (.refl _)⟩, trivial, rfl⟩
     ·
      refine c_f h37 rfl ?_
      refine c_sr ?_
      refine o_s (.t (.d (.seq 2 (List.map cS_api_Write p1)))) (g0 rfl) rfl rfl rfl ?_
      refine o_c (g0 rfl) rfl rfl rfl (lenE _ _) trivial ?_
      refine o_s (.t (.d (.lit (.bool ((p1.length : Int) == 0))))) (g0 rfl) rfl rfl rfl ?_
      refine o_s (.t (.d (.lit (.bool ((p1.length : Int) == 0))))) (g0 rfl) rfl rfl rfl ?_
      refine o_nil ?_
      repeat (first | refine k1 ?_ | refine k4 ?_)
      rcases bif_some h with ⟨h38, h⟩ | ⟨h38, h⟩
      ·
       refine c_t h38 rfl ?_
       refine c_sr ?_
       refine o_s (.t (.d (.lit (.int .i64 0)))) (g0 rfl) rfl rfl rfl ?_
       refine o_nil ?_
       repeat (first | refine k1 ?_ | refine k4 ?_)
       refine c_ret ?_
       repeat (first | refine k3 ?_ | refine k5 ?_)
       obtain rfl := Option.some.inj h
       exact ⟨⟨_, rfl, (.refl _)⟩, trivial, rfl⟩
      ·
       refine c_f h38 rfl ?_
       refine c_sr ?_
       refine o_s (.t (.d (.lit (.int .i64 (wi ((wi (2 * (p1.length : Int))) + 1)))))) (g0 rfl) rfl rfl rfl ?_
       refine o_of (e := [(60, .t (.hpt (cd 3 i34) 0))]) (g0 rfl) (h_mv (Mk.refl _) (.inl rfl) ((cpO_pt rfl).trans (pt_eq_some h33)) rfl rfl) rfl ?_
       obtain ⟨x39, h40, h⟩ := bind_some h
       refine o_of (e := [(61, .t (.d (.lit (.int .i64 x39))))]) (g0 rfl) (h_callR (Mk.refl _) rfl (σ := []) (fr := []) rfl rfl rfl rfl rfl rfl rfl (fch_wal_Log_Left _ w0 _ h40) (pure_hpA _) rfl rfl rfl rfl (.cons (.hpt _ _) .nil) rfl (.t (.flat rfl))) rfl ?_
       refine o_s (.t (.d (.lit (.bool (decide ((wi ((wi (2 * (p1.length : Int))) + 1)) > x39)))))) (g0 rfl) rfl rfl rfl ?_
       refine o_s (.t (.d (.lit (.bool (decide ((wi ((wi (2 * (p1.length : Int))) + 1)) > x39)))))) (g0 rfl) rfl rfl rfl ?_
       refine o_nil ?_
       repeat (first | refine k1 ?_ | refine k4 ?_)
       rcases bif_some h with ⟨h41, h⟩ | ⟨h41, h⟩
       ·
        refine c_t h41 rfl ?_
        refine c_sr ?_
        refine o_of (e := [(63, .t (.hpt (cd 3 i34) 0))]) (g0 rfl) (h_mv (Mk.refl _) (.inl rfl) ((cpO_pt rfl).trans (pt_eq_some h33)) rfl rfl) rfl ?_
        obtain ⟨x42, h43, h⟩ := bind_some h
        refine o_of (e := [(HK, .hp (hpA x42.2)), (64, .t (.d (.lit (.int .i64 x42.1))))]) (g0 rfl) (h_call (Mk.refl _) rfl (σ := []) (fr := []) rfl rfl rfl rfl rfl rfl rfl (fch_wal_Log_Checkpoint _ w0 _ h43) (pure_hpA _) (pure_hpA _) rfl rfl rfl rfl (.cons (.hpt _ _) .nil) rfl (.t (.flat rfl))) rfl ?_
        refine o_s (.t (.d (.lit (.int .i64 x42.1)))) (g0 rfl) rfl rfl rfl ?_
        refine o_nil ?_
        repeat (first | refine k1 ?_ | refine k4 ?_)
        refine c_sr ?_
        refine o_s (.t (.d (.lit (.int .i64 x42.1)))) (g0 rfl) rfl rfl rfl ?_
        refine o_s (.t (.d (.lit (.bool (x42.1 != 0))))) (g0 rfl) rfl rfl rfl ?_
        refine o_nil ?_
        repeat (first | refine k1 ?_ | refine k4 ?_)
        rcases bif_some h with ⟨h44, h⟩ | ⟨h44, h⟩
        ·
         refine c_t h44 rfl ?_
         refine c_sr ?_
         refine o_s (.t (.d (.lit (.int .i64 x42.1)))) (g0 rfl) rfl rfl rfl ?_
         refine o_s (.t (.d (.lit (.int .i64 x42.1)))) (g0 rfl) rfl rfl rfl ?_
         refine o_nil ?_
         repeat (first | refine k1 ?_ | refine k4 ?_)
         refine c_ret ?_
         repeat (first | refine k3 ?_ | refine k5 ?_)
         obtain rfl := Option.some.inj h
         exact ⟨⟨_, rfl, (.refl _)⟩, trivial, rfl⟩
        ·
         refine c_f h44 rfl ?_
         refine c_skip ?_
         repeat (first | refine k1 ?_ | refine k4 ?_)
         exact ⟨x42.2, [], h, rfl, ⟨.inr ⟨_, rfl, pure_hpA _⟩, by (repeat (first | exact ObP.nil | refine ObP.cons (.inl rfl) ?_ | refine ObP.cons (.inr (fun _ => rfl)) ?_ | refine ObP.cons (.inr (ob_box (fl_noPt _ _))) ?_ | refine ObP.cons (.inr (ob_gb _ _)) ?_))⟩, ⟨(.refl _), ⟨(.refl _), ⟨(.refl _), ⟨(.refl _), trivial⟩⟩⟩⟩, rfl⟩
       ·
        refine c_f h41 rfl ?_
        refine c_skip ?_
        repeat (first | refine k1 ?_ | refine k4 ?_)
        exact ⟨w0, [], h, rfl, ⟨.inr ⟨_, rfl, pure_hpA _⟩, by (repeat (first | exact ObP.nil | refine ObP.cons (.inl rfl) ?_ | refine ObP.cons (.inr (fun _ => rfl)) ?_ | refine ObP.cons (.inr (ob_box (fl_noPt _ _))) ?_ | refine ObP.cons (.inr (ob_gb _ _)) ?_))⟩, ⟨(.refl _), ⟨(.refl _), ⟨(.refl _), ⟨(.refl _), trivial⟩⟩⟩⟩, rfl⟩
   ·
    rintro y4 h
    refine c_cutH (fun (y5 : Hp) => [(0, .t ((ptT 3 p0))), (1, .t (.d (.seq 2 (List.map cS_api_Write p1)))), (8, .t (.d (.lit (.int .i64 (wi ((wi (2 * (p1.length : Int))) + 1)))))), (HK, .hp (hpA y5))]) (fun (y5 : Hp) => m_wal_Log_Commit_j3 p0 p1 y5 = some r) ?_ ?_
    ·
     refine c_sr ?_
     refine o_s (.t (.d (.seq 2 (List.map cS_api_Write p1)))) (g0 rfl) rfl rfl rfl ?_
     obtain ⟨x17, h18, h⟩ := bind_some h
     refine o_ca (fc_wal_entries _ _ h18) (g0 rfl) rfl rfl rfl rfl rfl rfl rfl (.cons (.refl _) .nil) rfl rfl ?_
     refine o_c (g0 rfl) rfl rfl rfl (lenE _ _) trivial ?_
     refine o_s (.t (.d (.lit (.int .i64 0)))) (g0 rfl) rfl rfl rfl ?_
     refine o_nil ?_
     repeat (first | refine k1 ?_ | refine k4 ?_)
     refine c_block ?_
     refine c_fuelH (fun (q : Int × Hp) => [(0, .t ((ptT 3 p0))), (1, .t (.d (.seq 2 (List.map cS_api_Write p1)))), (8, .t (.d (.lit (.int .i64 (wi ((wi (2 * (p1.length : Int))) + 1)))))), (69, .t (.own 116 4 (List.map cS_wal_entry x17))), (70, .t (.d (.lit (.int .i64 (x17.length : Int))))), (71, .t (.d (.lit (.int .i64 q.1)))), (HK, .hp (hpA q.2))]) (fun nl4 => (fun (q : Int × Hp) => m_wal_Log_Commit_l4 x17 p0 p1 nl4 q.1 q.2 = some r)) (x17.length + 1) (0, y4) [] h rfl ⟨.inr ⟨_, rfl, pure_hpA _⟩, by (repeat (first | exact ObP.nil | refine ObP.cons (.inl rfl) ?_ | refine ObP.cons (.inr (fun _ => rfl)) ?_ | refine ObP.cons (.inr (ob_box (fl_noPt _ _))) ?_ | refine ObP.cons (.inr (ob_gb _ _)) ?_))⟩ ⟨(.refl _), ⟨(.refl _), ⟨(.refl _), ⟨(.refl _), ⟨(.refl _), ⟨(.refl _), ⟨(.refl _), trivial⟩⟩⟩⟩⟩⟩⟩ rfl ?_
     rintro nl4 ⟨z19, z20⟩ h
     cases nl4 with
     | zero => exact none_ne h
     | succ nl4 =>
      refine c_sr ?_
      refine o_s (.t (.d (.lit (.bool (decide (z19 < (x17.length : Int))))))) (g0 rfl) rfl rfl rfl ?_
      refine o_nil ?_
      repeat (first | refine k1 ?_ | refine k4 ?_)
      refine c_seq ?_
      rcases bif_some h with ⟨h21, h⟩ | ⟨h21, h⟩
      ·
       refine c_t h21 rfl ?_
       refine c_skip ?_
       repeat (first | refine k1 ?_ | refine k4 ?_)
       refine c_seq ?_
       refine c_block ?_
       refine c_sr ?_
       refine o_s (.t (.d (.lit (.int .i64 z19)))) (g0 rfl) rfl rfl rfl ?_
       obtain ⟨x22, h23, h⟩ := bind_some h
       refine o_c (g0 rfl) rfl rfl rfl (idxE h23) (idxC h23) ?_
       refine o_s (.t (.agg [.lit (.int .i64 x22.kind_), .lit (.int .i64 x22.number_), .seq 1 (bytesD x22.data_), .lit (.bool x22.ok_)])) (g0 rfl) rfl rfl rfl ?_
       refine o_s (.box [.d (.lit (.int .i64 0)), .d (.lit (.int .i64 0)), .d (.lit (.slice none 0 0)), .d (.lit (.bool false))]) (g0 rfl) rfl rfl rfl ?_
       refine o_s (.t (.d (.lit (.int .i64 z19)))) (g0 rfl) rfl rfl rfl ?_
       refine o_st (.box [.d (.lit (.int .i64 x22.kind_)), .d (.lit (.int .i64 x22.number_)), .d (.seq 1 (bytesD x22.data_)), .d (.lit (.bool x22.ok_))]) (g0 rfl) rfl rfl rfl ?_
       refine o_nil ?_
       repeat (first | refine k1 ?_ | refine k4 ?_)
       refine c_sr ?_
       refine o_of (e := [(76, .t ((ptT 3 p0)))]) (g0 rfl) (h_mv (Mk.refl _) (.inl rfl) (cpO_pt rfl) rfl rfl) rfl ?_
       rcases ptM_some h with ⟨h24, h⟩ | ⟨i25, h24, h⟩
       ·
        exact none_ne h
       ·
        refine o_of (e := [(77, .t (.hpt (cd 3 i25) 0))]) (g0 rfl) (h_nc (Mk.refl _) rfl (cpO_pt rfl) (ptT_some h24) rfl rfl) rfl ?_
        refine o_of (e := [(78, .t (.hpt (cd 3 i25) 4))]) (g0 rfl) (h_fd (Mk.refl _) rfl rfl rfl rfl rfl rfl) rfl ?_
        obtain ⟨x26, h27, h⟩ := bind_some h
        refine o_of (e := [(79, .t (.d (.lit (.int .i64 x26.used_))))]) (g0 rfl) (h_ld (Mk.refl _) rfl rfl rfl rfl (gl_lg h27) rfl rfl rfl rfl) rfl ?_
        refine o_s (.t (.d (.lit (.int .i64 z19)))) (g0 rfl) rfl rfl rfl ?_
        refine o_s (.t (.d (.lit (.int .i64 (wi (x26.used_ + z19)))))) (g0 rfl) rfl rfl rfl ?_
        refine o_s (.t (.d (.lit (.int .i64 (wi (x26.used_ + z19)))))) (g0 rfl) rfl rfl rfl ?_
        refine o_nil ?_
        repeat (first | refine k1 ?_ | refine k4 ?_)
        refine c_seq ?_
        refine c_draw mixed (by kernel_rfl) ?_
        refine d_h0 [] (e := [(82, .t (.hpt (cd 3 i25) 0))]) (ks := [82]) rfl (dg0 rfl) rfl rfl (fun S' hM hok => h_mv hM (.inl rfl) ((cpO_pt rfl).trans (pt_eq_some h24)) rfl (hok _ rfl rfl)) rfl ?_
        refine d_h0 [] (e := [(83, .t (.hpt (cd 3 i25) 0))]) (ks := [83]) rfl (dg0 rfl) rfl rfl (fun S' hM hok => h_nc hM rfl rfl rfl rfl (hok _ rfl rfl)) rfl ?_
        refine d_h0 [] (e := [(84, .t (.hpt (cd 3 i25) 0))]) (ks := [84]) rfl (dg0 rfl) rfl rfl (fun S' hM hok => h_fd hM rfl rfl rfl rfl rfl (hok _ rfl rfl)) rfl ?_
        refine d_h (e := [(85, .t ((ptT 1 x26.d_)))]) (ks := [85]) rfl (dg0 rfl) rfl rfl (fun S' hM hk hok => h_ld hM hk rfl rfl rfl (gl_lg h27) rfl (norH_pt _ _) rfl (hok _ rfl rfl)) rfl ?_
        refine d_s (.t (.d (.lit (.int .i64 (wi (x26.used_ + z19)))))) rfl (dg0 rfl) rfl rfl rfl rfl ?_
        refine d_s (.t (.d (.lit (.int .i64 (wi (2 + (wi (x26.used_ + z19)))))))) rfl (dg0 rfl) rfl rfl rfl rfl ?_
        refine d_s (.t (.agg [.lit (.int .i64 x22.kind_), .lit (.int .i64 x22.number_), .seq 1 (bytesD x22.data_), .lit (.bool x22.ok_)])) rfl (dg0 rfl) rfl rfl rfl rfl ?_
        refine d_h0 [] (e := [(89, .t (.hpt (cd 3 i25) 0))]) (ks := [89]) rfl (dg0 rfl) rfl rfl (fun S' hM hok => h_mv hM (.inl rfl) ((cpO_pt rfl).trans (pt_eq_some h24)) rfl (hok _ rfl rfl)) rfl ?_
        refine d_h0 [] (e := [(90, .t (.hpt (cd 3 i25) 0))]) (ks := [90]) rfl (dg0 rfl) rfl rfl (fun S' hM hok => h_nc hM rfl rfl rfl rfl (hok _ rfl rfl)) rfl ?_
        refine d_h0 [] (e := [(91, .t (.hpt (cd 3 i25) 2))]) (ks := [91]) rfl (dg0 rfl) rfl rfl (fun S' hM hok => h_fd hM rfl rfl rfl rfl rfl (hok _ rfl rfl)) rfl ?_
        refine d_h (e := [(92, .t (.d (.lit (.int .i64 x26.base_))))]) (ks := [92]) rfl (dg0 rfl) rfl rfl (fun S' hM hk hok => h_ld hM hk rfl rfl rfl (gl_lg h27) rfl rfl rfl (hok _ rfl rfl)) rfl ?_
        refine d_s (.t (.d (.lit (.int .i64 (wi (x26.used_ + z19)))))) rfl (dg0 rfl) rfl rfl rfl rfl ?_
        refine d_s (.t (.d (.lit (.int .i64 (wi (x26.base_ + (wi (x26.used_ + z19)))))))) rfl (dg0 rfl) rfl rfl rfl rfl ?_
        obtain ⟨x28, h29, h⟩ := bind_some h
        refine d_h (e := [(95, .t (.d (.seq 1 (bytesD x28))))]) (ks := [95]) rfl (dg0 rfl) rfl rfl (fun S' hM hk hok => h_callR hM hk (σ := []) (fr := []) rfl rfl rfl (hok _ rfl rfl) rfl rfl rfl (fch_wal_entry_bytes _ _ z20 _ h29) (pure_hpA _) rfl rfl rfl rfl (.cons (.plain (.refl _) rfl) (.cons (.plain (.refl _) rfl) .nil)) rfl (.t (.flat rfl))) rfl ?_
        obtain ⟨x30, h31, h⟩ := bind_some h
        refine d_h (e := [(HK, .hp (hpA x30.2)), (96, .t (.d (.lit (.int .i64 x30.1))))]) (ks := [HK, 96]) rfl (dg0 rfl) rfl rfl (fun S' hM hk hok => h_call hM hk (σ := []) (fr := []) rfl rfl rfl (hok _ rfl rfl) rfl rfl rfl (fch_disk_Disk_Write _ _ _ z20 _ h31) (pure_hpA _) (pure_hpA _) rfl rfl rfl rfl (.cons (argPt rfl) (.cons (.plain (.refl _) rfl) (.cons (.plain (.refl _) rfl) .nil))) rfl (.t (.flat rfl))) rfl ?_
        refine d_s (.t (.d (.lit (.int .i64 x30.1)))) rfl (dg0 rfl) rfl rfl rfl rfl ?_
        refine d_nil (by kernel_rfl) ?_
        repeat (first | refine k1 ?_ | refine k2 ?_ | refine k3 ?_ | refine k4 ?_ | refine k5 ?_ | refine k6 ?_ | refine k7 rfl ?_)
        refine c_sr ?_
        refine o_s (.t (.d (.lit (.int .i64 x30.1)))) (g0 rfl) rfl rfl rfl ?_
        refine o_s (.t (.d (.lit (.bool (x30.1 != 0))))) (g0 rfl) rfl rfl rfl ?_
        refine o_nil ?_
        repeat (first | refine k1 ?_ | refine k4 ?_)
        rcases bif_some h with ⟨h32, h⟩ | ⟨h32, h⟩
        ·
         refine c_t h32 rfl ?_
         refine c_sr ?_
         refine o_s (.t (.d (.lit (.int .i64 x30.1)))) (g0 rfl) rfl rfl rfl ?_
         refine o_s (.t (.d (.lit (.int .i64 x30.1)))) (g0 rfl) rfl rfl rfl ?_
         refine o_nil ?_
         repeat (first | refine k1 ?_ | refine k4 ?_)
         refine c_ret ?_
         repeat (first | refine k3 ?_ | refine k5 ?_)
         obtain rfl := Option.some.inj h
         exact ⟨⟨_, rfl, (.refl _)⟩, trivial, rfl⟩
        ·
         refine c_f h32 rfl ?_
         refine c_skip ?_
         repeat (first | refine k1 ?_ | refine k4 ?_)
         refine c_region ?_
         refine o_s (.t (.d (.lit (.int .i64 (wi (z19 + 1)))))) (g0 rfl) rfl rfl rfl ?_
         refine o_s (.t (.d (.lit (.int .i64 (wi (z19 + 1)))))) (g0 rfl) rfl rfl rfl ?_
         refine o_nil ?_
         repeat (first | refine k1 ?_ | refine k4 ?_)
         exact ⟨nl4, ((wi (z19 + 1)), x30.2), [], Nat.lt_succ_self nl4, h, rfl, ⟨.inr ⟨_, rfl, pure_hpA _⟩, by (repeat (first | exact ObP.nil | refine ObP.cons (.inl rfl) ?_ | refine ObP.cons (.inr (fun _ => rfl)) ?_ | refine ObP.cons (.inr (ob_box (fl_noPt _ _))) ?_ | refine ObP.cons (.inr (ob_gb _ _)) ?_))⟩, ⟨(.refl _), ⟨(.refl _), ⟨(.refl _), ⟨(.refl _), ⟨(.refl _), ⟨(.refl _), ⟨(.refl _), trivial⟩⟩⟩⟩⟩⟩⟩, rfl⟩
      ·
       refine c_f h21 rfl ?_
       refine c_exit ?_
       repeat (first | refine k1 ?_ | refine k2 ?_ | refine k3 ?_ | refine k4 ?_ | refine k5 ?_ | refine k6 ?_ | refine k7 rfl ?_)
       exact ⟨z20, [], h, rfl, ⟨.inr ⟨_, rfl, pure_hpA _⟩, by (repeat (first | exact ObP.nil | refine ObP.cons (.inl rfl) ?_ | refine ObP.cons (.inr (fun _ => rfl)) ?_ | refine ObP.cons (.inr (ob_box (fl_noPt _ _))) ?_ | refine ObP.cons (.inr (ob_gb _ _)) ?_))⟩, ⟨(.refl _), ⟨(.refl _), ⟨(.refl _), ⟨(.refl _), trivial⟩⟩⟩⟩, rfl⟩
    ·
     rintro y5 h
     refine c_seq ?_
     refine c_sr ?_
     refine o_of (e := [(101, .t ((ptT 3 p0)))]) (g0 rfl) (h_mv (Mk.refl _) (.inl rfl) (cpO_pt rfl) rfl rfl) rfl ?_
     rcases ptM_some h with ⟨h6, h⟩ | ⟨i7, h6, h⟩
     ·
      exact none_ne h
     ·
      refine o_of (e := [(102, .t (.hpt (cd 3 i7) 0))]) (g0 rfl) (h_nc (Mk.refl _) rfl (cpO_pt rfl) (ptT_some h6) rfl rfl) rfl ?_
      refine o_of (e := [(103, .t (.hpt (cd 3 i7) 0))]) (g0 rfl) (h_fd (Mk.refl _) rfl rfl rfl rfl rfl rfl) rfl ?_
      obtain ⟨x8, h9, h⟩ := bind_some h
      refine o_of (e := [(104, .t ((ptT 1 x8.d_)))]) (g0 rfl) (h_ld (Mk.refl _) rfl rfl rfl rfl (gl_lg h9) rfl (norH_pt _ _) rfl rfl) rfl ?_
      obtain ⟨x10, h11, h⟩ := bind_some h
      refine o_of (e := [(HK, .hp (hpA x10.2)), (105, .t (.d (.lit (.int .i64 x10.1))))]) (g0 rfl) (h_call (Mk.refl _) rfl (σ := []) (fr := []) rfl rfl rfl rfl rfl rfl rfl (fch_disk_Disk_Flush _ y5 _ h11) (pure_hpA _) (pure_hpA _) rfl rfl rfl rfl (.cons (argPt rfl) .nil) rfl (.t (.flat rfl))) rfl ?_
      refine o_s (.t (.d (.lit (.int .i64 x10.1)))) (g0 rfl) rfl rfl rfl ?_
      refine o_nil ?_
      repeat (first | refine k1 ?_ | refine k4 ?_)
      refine c_sr ?_
      refine o_s (.t (.d (.lit (.int .i64 x10.1)))) (g0 rfl) rfl rfl rfl ?_
      refine o_s (.t (.d (.lit (.bool (x10.1 != 0))))) (g0 rfl) rfl rfl rfl ?_
      refine o_nil ?_
      repeat (first | refine k1 ?_ | refine k4 ?_)
      rcases bif_some h with ⟨h12, h⟩ | ⟨h12, h⟩
      ·
       refine c_t h12 rfl ?_
       refine c_sr ?_
       refine o_s (.t (.d (.lit (.int .i64 x10.1)))) (g0 rfl) rfl rfl rfl ?_
       refine o_s (.t (.d (.lit (.int .i64 x10.1)))) (g0 rfl) rfl rfl rfl ?_
       refine o_nil ?_
       repeat (first | refine k1 ?_ | refine k4 ?_)
       refine c_ret ?_
       repeat (first | refine k3 ?_ | refine k5 ?_)
       obtain rfl := Option.some.inj h
       exact ⟨⟨_, rfl, (.refl _)⟩, trivial, rfl⟩
      ·
       refine c_f h12 rfl ?_
       refine c_skip ?_
       repeat (first | refine k1 ?_ | refine k4 ?_)
       refine c_sr ?_
       refine o_of (e := [(109, .t (.hpt (cd 3 i7) 0))]) (g0 rfl) (h_mv (Mk.refl _) (.inl rfl) ((cpO_pt rfl).trans (pt_eq_some h6)) rfl rfl) rfl ?_
       refine o_of (e := [(110, .t (.hpt (cd 3 i7) 0))]) (g0 rfl) (h_nc (Mk.refl _) rfl rfl rfl rfl rfl) rfl ?_
       refine o_of (e := [(111, .t (.hpt (cd 3 i7) 4))]) (g0 rfl) (h_fd (Mk.refl _) rfl rfl rfl rfl rfl rfl) rfl ?_
       obtain ⟨x13, h14, h⟩ := bind_some h
       refine o_of (e := [(112, .t (.d (.lit (.int .i64 x13.used_))))]) (g0 rfl) (h_ld (Mk.refl _) rfl rfl rfl rfl (gl_lg h14) rfl rfl rfl rfl) rfl ?_
       refine o_s (.t (.d (.lit (.int .i64 (wi ((wi (2 * (p1.length : Int))) + 1)))))) (g0 rfl) rfl rfl rfl ?_
       refine o_s (.t (.d (.lit (.int .i64 (wi (x13.used_ + (wi ((wi (2 * (p1.length : Int))) + 1)))))))) (g0 rfl) rfl rfl rfl ?_
       refine o_of (e := [(115, .t (.hpt (cd 3 i7) 0))]) (g0 rfl) (h_nc (Mk.refl _) rfl rfl rfl rfl rfl) rfl ?_
       refine o_of (e := [(116, .t (.hpt (cd 3 i7) 4))]) (g0 rfl) (h_fd (Mk.refl _) rfl rfl rfl rfl rfl rfl) rfl ?_
       refine o_of (e := [(HK, .hp (hpA (x10.2.st_lg i7 (S_wal_Log.mk x13.d_ x13.size_ x13.base_ x13.slot_ (wi (x13.used_ + (wi ((wi (2 * (p1.length : Int))) + 1)))) x13.life_ x13.commits_))))]) (g0 rfl) (h_st (Mk.refl _) rfl rfl rfl rfl rfl (gl_lg h14) rfl rfl (Nat.le_of_ble_eq_true rfl) rfl (su_lg (x' := (S_wal_Log.mk x13.d_ x13.size_ x13.base_ x13.slot_ (wi (x13.used_ + (wi ((wi (2 * (p1.length : Int))) + 1)))) x13.life_ x13.commits_)) h14)) rfl ?_
       refine o_nil ?_
       repeat (first | refine k1 ?_ | refine k4 ?_)
       refine c_sr ?_
       refine o_of (e := [(117, .t (.hpt (cd 3 i7) 0))]) (g0 rfl) (h_mv (Mk.refl _) (.inl rfl) ((cpO_pt rfl).trans (pt_eq_some h6)) rfl rfl) rfl ?_
       refine o_of (e := [(118, .t (.hpt (cd 3 i7) 0))]) (g0 rfl) (h_nc (Mk.refl _) rfl rfl rfl rfl rfl) rfl ?_
       refine o_of (e := [(119, .t (.hpt (cd 3 i7) 6))]) (g0 rfl) (h_fd (Mk.refl _) rfl rfl rfl rfl rfl rfl) rfl ?_
       refine o_of (e := [(120, .t (.d (.lit (.int .i64 ((S_wal_Log.mk x13.d_ x13.size_ x13.base_ x13.slot_ (wi (x13.used_ + (wi ((wi (2 * (p1.length : Int))) + 1)))) x13.life_ x13.commits_).commits_)))))]) (g0 rfl) (h_ld (Mk.refl _) rfl rfl rfl rfl (gl_lg (set_get h14)) rfl rfl rfl rfl) rfl ?_
       refine o_s (.t (.d (.lit (.int .i64 (wi (((S_wal_Log.mk x13.d_ x13.size_ x13.base_ x13.slot_ (wi (x13.used_ + (wi ((wi (2 * (p1.length : Int))) + 1)))) x13.life_ x13.commits_).commits_) + 1)))))) (g0 rfl) rfl rfl rfl ?_
       refine o_of (e := [(122, .t (.hpt (cd 3 i7) 0))]) (g0 rfl) (h_nc (Mk.refl _) rfl rfl rfl rfl rfl) rfl ?_
       refine o_of (e := [(123, .t (.hpt (cd 3 i7) 6))]) (g0 rfl) (h_fd (Mk.refl _) rfl rfl rfl rfl rfl rfl) rfl ?_
       refine o_of (e := [(HK, .hp (hpA ((x10.2.st_lg i7 (S_wal_Log.mk x13.d_ x13.size_ x13.base_ x13.slot_ (wi (x13.used_ + (wi ((wi (2 * (p1.length : Int))) + 1)))) x13.life_ x13.commits_)).st_lg i7 (S_wal_Log.mk x13.d_ x13.size_ x13.base_ x13.slot_ (wi (x13.used_ + (wi ((wi (2 * (p1.length : Int))) + 1)))) x13.life_ (wi (((S_wal_Log.mk x13.d_ x13.size_ x13.base_ x13.slot_ (wi (x13.used_ + (wi ((wi (2 * (p1.length : Int))) + 1)))) x13.life_ x13.commits_).commits_) + 1))))))]) (g0 rfl) (h_st (Mk.refl _) rfl rfl rfl rfl rfl (gl_lg (set_get h14)) rfl rfl (Nat.le_of_ble_eq_true rfl) rfl (su_lg (x' := (S_wal_Log.mk x13.d_ x13.size_ x13.base_ x13.slot_ (wi (x13.used_ + (wi ((wi (2 * (p1.length : Int))) + 1)))) x13.life_ (wi (((S_wal_Log.mk x13.d_ x13.size_ x13.base_ x13.slot_ (wi (x13.used_ + (wi ((wi (2 * (p1.length : Int))) + 1)))) x13.life_ x13.commits_).commits_) + 1)))) (set_get h14))) rfl ?_
       refine o_nil ?_
       repeat (first | refine k1 ?_ | refine k4 ?_)
       refine c_sr ?_
       refine o_of (e := [(124, .t (.hpt (cd 3 i7) 0))]) (g0 rfl) (h_mv (Mk.refl _) (.inl rfl) ((cpO_pt rfl).trans (pt_eq_some h6)) rfl rfl) rfl ?_
       refine o_s (.t (.d (.seq 2 (List.map cS_api_Write p1)))) (g0 rfl) rfl rfl rfl ?_
       obtain ⟨x15, h16, h⟩ := bind_some h
       refine o_of (e := [(HK, .hp (hpA x15.2)), (126, .t (.d (.lit (.int .i64 x15.1))))]) (g0 rfl) (h_call (Mk.refl _) rfl (σ := []) (fr := []) rfl rfl rfl rfl rfl rfl rfl (fch_wal_Log_redo _ _ ((x10.2.st_lg i7 (S_wal_Log.mk x13.d_ x13.size_ x13.base_ x13.slot_ (wi (x13.used_ + (wi ((wi (2 * (p1.length : Int))) + 1)))) x13.life_ x13.commits_)).st_lg i7 (S_wal_Log.mk x13.d_ x13.size_ x13.base_ x13.slot_ (wi (x13.used_ + (wi ((wi (2 * (p1.length : Int))) + 1)))) x13.life_ (wi (((S_wal_Log.mk x13.d_ x13.size_ x13.base_ x13.slot_ (wi (x13.used_ + (wi ((wi (2 * (p1.length : Int))) + 1)))) x13.life_ x13.commits_).commits_) + 1)))) _ h16) (pure_hpA _) (pure_hpA _) rfl rfl rfl rfl (.cons (.hpt _ _) (.cons (.plain (.refl _) rfl) .nil)) rfl (.t (.flat rfl))) rfl ?_
       refine o_s (.t (.d (.lit (.int .i64 x15.1)))) (g0 rfl) rfl rfl rfl ?_
       refine o_nil ?_
       repeat (first | refine k1 ?_ | refine k4 ?_)
       refine c_ret ?_
       repeat (first | refine k3 ?_ | refine k5 ?_)
       obtain rfl := Option.some.inj h
       exact ⟨⟨_, rfl, (.refl _)⟩, trivial, rfl⟩

theorem fch_wal_Log_Read (p0 : (Option Nat)) (p1 : Int) (w0 : Hp) (r : ((List UInt8) × Int)) (h : m_wal_Log_Read p0 p1 w0 = some r) : FCH Try.prog 57 [.t ((ptT 3 p0)), .t (.d (.lit (.int .i64 p1)))] [] [] (hpA w0) (hpA w0) (.tup [.d (.seq 1 (bytesD r.1)), .d (.lit (.int .i64 r.2))]) := by
 refine fch_mk (rs := [.tmp 4, .tmp 5]) (n := 30) [] Try.func57 rfl rfl (Nat.le_of_ble_eq_true rfl) rfl (pins := []) rfl (L := [(HK, .hp (hpA w0)), (0, .t ((ptT 3 p0))), (1, .t (.d (.lit (.int .i64 p1))))]) rfl ?_
 refine c_sr ?_
 refine o_s (.t (.d (.lit (.slice none 0 0)))) (g0 rfl) rfl rfl rfl ?_
 refine o_s (.t (.d (.lit (.int .i64 0)))) (g0 rfl) rfl rfl rfl ?_
 refine o_nil ?_
 repeat (first | refine k1 ?_ | refine k4 ?_)
 refine c_seq ?_
 refine c_sr ?_
 refine o_of (e := [(7, .t ((ptT 3 p0)))]) (g0 rfl) (h_mv (Mk.refl _) (.inl rfl) (cpO_pt rfl) rfl rfl) rfl ?_
 obtain ⟨x1, h2, h⟩ := bind_some h
 refine o_of (e := [(8, .t (.d (.lit (.int .i64 x1))))]) (g0 rfl) (h_callR (Mk.refl _) rfl (σ := []) (fr := []) rfl rfl rfl rfl rfl rfl rfl (fch_wal_Log_alive _ w0 _ h2) (pure_hpA _) rfl rfl rfl rfl (.cons (argPt rfl) .nil) rfl (.t (.flat rfl))) rfl ?_
 refine o_s (.t (.d (.lit (.int .i64 x1)))) (g0 rfl) rfl rfl rfl ?_
 refine o_nil ?_
 repeat (first | refine k1 ?_ | refine k4 ?_)
 refine c_sr ?_
 refine o_s (.t (.d (.lit (.int .i64 x1)))) (g0 rfl) rfl rfl rfl ?_
 refine o_s (.t (.d (.lit (.bool (x1 != 0))))) (g0 rfl) rfl rfl rfl ?_
 refine o_nil ?_
 repeat (first | refine k1 ?_ | refine k4 ?_)
 rcases bif_some h with ⟨h3, h⟩ | ⟨h3, h⟩
 ·
  refine c_t h3 rfl ?_
  refine c_sr ?_
  refine o_s (.t (.d (.lit (.int .i64 x1)))) (g0 rfl) rfl rfl rfl ?_
  refine o_s (.t (.d (.lit (.slice none 0 0)))) (g0 rfl) rfl rfl rfl ?_
  refine o_s (.t (.d (.lit (.int .i64 x1)))) (g0 rfl) rfl rfl rfl ?_
  refine o_nil ?_
  repeat (first | refine k1 ?_ | refine k4 ?_)
  refine c_ret ?_
  repeat (first | refine k3 ?_ | refine k5 ?_)
  obtain rfl := Option.some.inj h
  exact ⟨⟨_, rfl, (.tup (.cons (.d (.nil _)) (.cons (.refl _) .nil)))⟩, trivial, rfl⟩
 ·
  refine c_f h3 rfl ?_
  refine c_skip ?_
  repeat (first | refine k1 ?_ | refine k4 ?_)
  refine c_seq ?_
  refine c_sr ?_
  refine o_s (.t (.d (.lit (.int .i64 p1)))) (g0 rfl) rfl rfl rfl ?_
  refine o_s (.t (.d (.lit (.bool (decide (p1 < 0)))))) (g0 rfl) rfl rfl rfl ?_
  refine o_s (.t (.d (.lit (.bool (decide (p1 < 0)))))) (g0 rfl) rfl rfl rfl ?_
  rcases bif_some h with ⟨h4, h⟩ | ⟨h4, h⟩
  ·
   refine o_skip rfl rfl rfl h4 rfl rfl ?_
   refine o_skip rfl rfl rfl h4 rfl rfl ?_
   refine o_skip rfl rfl rfl h4 rfl rfl ?_
   refine o_skip rfl rfl rfl h4 rfl rfl ?_
   refine o_pk (.t (.d (.lit (.bool true)))) (b := true) h4 (g0 rfl) rfl rfl rfl rfl rfl ?_
   refine o_nil ?_
   repeat (first | refine k1 ?_ | refine k4 ?_)
   refine c_t rfl rfl ?_
   refine c_sr ?_
   refine o_s (.t (.d (.lit (.slice none 0 0)))) (g0 rfl) rfl rfl rfl ?_
   refine o_s (.t (.d (.lit (.int .i64 31)))) (g0 rfl) rfl rfl rfl ?_
   refine o_nil ?_
   repeat (first | refine k1 ?_ | refine k4 ?_)
   refine c_ret ?_
   repeat (first | refine k3 ?_ | refine k5 ?_)
   obtain rfl := Option.some.inj h
   exact ⟨⟨_, rfl, (.tup (.cons (.d (.nil _)) (.cons (.refl _) .nil)))⟩, trivial, rfl⟩
  ·
   refine o_s (.t (.d (.lit (.int .i64 p1)))) (gy rfl rfl rfl h4) rfl rfl rfl ?_
   refine o_of (e := [(16, .t ((ptT 3 p0)))]) (gy rfl rfl rfl h4) (h_mv (Mk.refl _) (.inl rfl) (cpO_pt rfl) rfl rfl) rfl ?_
   obtain ⟨x5, h6, h⟩ := bind_some h
   refine o_of (e := [(17, .t (.d (.lit (.int .i64 x5))))]) (gy rfl rfl rfl h4) (h_callR (Mk.refl _) rfl (σ := []) (fr := []) rfl rfl rfl rfl rfl rfl rfl (fch_wal_Log_Homes _ w0 _ h6) (pure_hpA _) rfl rfl rfl rfl (.cons (argPt rfl) .nil) rfl (.t (.flat rfl))) rfl ?_
   refine o_s (.t (.d (.lit (.bool (decide (p1 ≥ x5)))))) (gy rfl rfl rfl h4) rfl rfl rfl ?_
   refine o_pk (.t (.d (.lit (.bool (decide (p1 ≥ x5)))))) (b := false) h4 (g0 rfl) rfl rfl rfl rfl rfl ?_
   refine o_nil ?_
   repeat (first | refine k1 ?_ | refine k4 ?_)
   rcases bif_some h with ⟨h7, h⟩ | ⟨h7, h⟩
   ·
    refine c_t h7 rfl ?_
    refine c_sr ?_
    refine o_s (.t (.d (.lit (.slice none 0 0)))) (g0 rfl) rfl rfl rfl ?_
    refine o_s (.t (.d (.lit (.int .i64 31)))) (g0 rfl) rfl rfl rfl ?_
    refine o_nil ?_
    repeat (first | refine k1 ?_ | refine k4 ?_)
    refine c_ret ?_
    repeat (first | refine k3 ?_ | refine k5 ?_)
    obtain rfl := Option.some.inj h
    exact ⟨⟨_, rfl, (.tup (.cons (.d (.nil _)) (.cons (.refl _) .nil)))⟩, trivial, rfl⟩
   ·
    refine c_f h7 rfl ?_
    refine c_skip ?_
    repeat (first | refine k1 ?_ | refine k4 ?_)
    refine c_seq ?_
    refine c_draw mixed (by kernel_rfl) ?_
    refine d_h0 [] (e := [(20, .t ((ptT 3 p0)))]) (ks := [20]) rfl (dg0 rfl) rfl rfl (fun S' hM hok => h_mv hM (.inl rfl) (cpO_pt rfl) rfl (hok _ rfl rfl)) rfl ?_
    rcases ptM_some h with ⟨h8, h⟩ | ⟨i9, h8, h⟩
    ·
     exact none_ne h
    ·
     refine d_h0 [] (e := [(21, .t (.hpt (cd 3 i9) 0))]) (ks := [21]) rfl (dg0 rfl) rfl rfl (fun S' hM hok => h_nc hM rfl (cpO_pt rfl) (ptT_some h8) rfl (hok _ rfl rfl)) rfl ?_
     refine d_h0 [] (e := [(22, .t (.hpt (cd 3 i9) 0))]) (ks := [22]) rfl (dg0 rfl) rfl rfl (fun S' hM hok => h_fd hM rfl rfl rfl rfl rfl (hok _ rfl rfl)) rfl ?_
     obtain ⟨x10, h11, h⟩ := bind_some h
     refine d_h (e := [(23, .t ((ptT 1 x10.d_)))]) (ks := [23]) rfl (dg0 rfl) rfl rfl (fun S' hM hk hok => h_ld hM hk rfl rfl rfl (gl_lg h11) rfl (norH_pt _ _) rfl (hok _ rfl rfl)) rfl ?_
     refine d_h0 [] (e := [(24, .t (.hpt (cd 3 i9) 0))]) (ks := [24]) rfl (dg0 rfl) rfl rfl (fun S' hM hok => h_mv hM (.inl rfl) ((cpO_pt rfl).trans (pt_eq_some h8)) rfl (hok _ rfl rfl)) rfl ?_
     refine d_s (.t (.d (.lit (.int .i64 p1)))) rfl (dg0 rfl) rfl rfl rfl rfl ?_
     obtain ⟨x12, h13, h⟩ := bind_some h
     refine d_h (e := [(26, .t (.d (.lit (.int .i64 x12))))]) (ks := [26]) rfl (dg0 rfl) rfl rfl (fun S' hM hk hok => h_callR hM hk (σ := []) (fr := []) rfl rfl rfl (hok _ rfl rfl) rfl rfl rfl (fch_wal_Log_home _ _ w0 _ h13) (pure_hpA _) rfl rfl rfl rfl (.cons (.hpt _ _) (.cons (.plain (.refl _) rfl) .nil)) rfl (.t (.flat rfl))) rfl ?_
     obtain ⟨x14, h15, h⟩ := bind_some h
     refine d_h (e := [(27, .tup [.d (.seq 1 (bytesD x14.1)), .d (.lit (.int .i64 x14.2))])]) (ks := [27]) rfl (dg0 rfl) rfl rfl (fun S' hM hk hok => h_callR hM hk (σ := []) (fr := []) rfl rfl rfl (hok _ rfl rfl) rfl rfl rfl (fch_disk_Disk_Read _ _ w0 _ h15) (pure_hpA _) rfl rfl rfl rfl (.cons (argPt rfl) (.cons (.plain (.refl _) rfl) .nil)) rfl (.tup (.cons (.flat rfl) (.cons (.flat rfl) .nil)))) rfl ?_
     refine d_s (.t (.d (.seq 1 (bytesD x14.1)))) rfl (dg0 rfl) rfl rfl rfl rfl ?_
     refine d_s (.t (.d (.lit (.int .i64 x14.2)))) rfl (dg0 rfl) rfl rfl rfl rfl ?_
     refine d_s (.t (.d (.seq 1 (bytesD x14.1)))) rfl (dg0 rfl) rfl rfl rfl rfl ?_
     refine d_s (.t (.d (.lit (.int .i64 x14.2)))) rfl (dg0 rfl) rfl rfl rfl rfl ?_
     refine d_nil (by kernel_rfl) ?_
     repeat (first | refine k1 ?_ | refine k2 ?_ | refine k3 ?_ | refine k4 ?_ | refine k5 ?_ | refine k6 ?_ | refine k7 rfl ?_)
     refine c_ret ?_
     repeat (first | refine k3 ?_ | refine k5 ?_)
     obtain rfl := Option.some.inj h
     exact ⟨⟨_, rfl, (.tup (.cons (.refl _) (.cons (.refl _) .nil)))⟩, trivial, rfl⟩

theorem fch_wal_Log_Base (p0 : (Option Nat)) (w0 : Hp) (r : Int) (h : m_wal_Log_Base p0 w0 = some r) : FCH Try.prog 55 [.t ((ptT 3 p0))] [] [] (hpA w0) (hpA w0) (.t (.d (.lit (.int .i64 r)))) := by
 refine fch_mk (rs := [.tmp 2]) (n := 9) [] Try.func55 rfl rfl (Nat.le_of_ble_eq_true rfl) rfl (pins := []) rfl (L := [(HK, .hp (hpA w0)), (0, .t ((ptT 3 p0)))]) rfl ?_
 refine c_sr ?_
 refine o_s (.t (.d (.lit (.int .i64 0)))) (g0 rfl) rfl rfl rfl ?_
 refine o_nil ?_
 repeat (first | refine k1 ?_ | refine k4 ?_)
 refine c_seq ?_
 refine c_sr ?_
 refine o_of (e := [(3, .t ((ptT 3 p0)))]) (g0 rfl) (h_mv (Mk.refl _) (.inl rfl) (cpO_pt rfl) rfl rfl) rfl ?_
 rcases ptM_some h with ⟨h1, h⟩ | ⟨i2, h1, h⟩
 ·
  refine o_of (e := [(4, .t (.d (.lit (.bool true))))]) (g0 rfl) (h_pn (Mk.refl _) (ng := false) rfl rfl rfl (pn_none rfl h1) rfl rfl) rfl ?_
  refine o_nil ?_
  repeat (first | refine k1 ?_ | refine k4 ?_)
  refine c_t rfl rfl ?_
  refine c_sr ?_
  refine o_s (.t (.d (.lit (.int .i64 0)))) (g0 rfl) rfl rfl rfl ?_
  refine o_nil ?_
  repeat (first | refine k1 ?_ | refine k4 ?_)
  refine c_ret ?_
  repeat (first | refine k3 ?_ | refine k5 ?_)
  obtain rfl := Option.some.inj h
  exact ⟨⟨_, rfl, (.refl _)⟩, trivial, rfl⟩
 ·
  refine o_of (e := [(4, .t (.d (.lit (.bool false))))]) (g0 rfl) (h_pn (Mk.refl _) (ng := false) rfl rfl rfl (pn_some rfl h1) rfl rfl) rfl ?_
  refine o_nil ?_
  repeat (first | refine k1 ?_ | refine k4 ?_)
  refine c_f rfl rfl ?_
  refine c_skip ?_
  repeat (first | refine k1 ?_ | refine k4 ?_)
  refine c_sr ?_
  refine o_of (e := [(5, .t (.hpt (cd 3 i2) 0))]) (g0 rfl) (h_mv (Mk.refl _) (.inl rfl) ((cpO_pt rfl).trans (pt_eq_some h1)) rfl rfl) rfl ?_
  refine o_of (e := [(6, .t (.hpt (cd 3 i2) 0))]) (g0 rfl) (h_nc (Mk.refl _) rfl rfl rfl rfl rfl) rfl ?_
  refine o_of (e := [(7, .t (.hpt (cd 3 i2) 2))]) (g0 rfl) (h_fd (Mk.refl _) rfl rfl rfl rfl rfl rfl) rfl ?_
  obtain ⟨x3, h4, h⟩ := bind_some h
  refine o_of (e := [(8, .t (.d (.lit (.int .i64 x3.base_))))]) (g0 rfl) (h_ld (Mk.refl _) rfl rfl rfl rfl (gl_lg h4) rfl rfl rfl rfl) rfl ?_
  refine o_s (.t (.d (.lit (.int .i64 x3.base_)))) (g0 rfl) rfl rfl rfl ?_
  refine o_nil ?_
  repeat (first | refine k1 ?_ | refine k4 ?_)
  refine c_ret ?_
  repeat (first | refine k3 ?_ | refine k5 ?_)
  obtain rfl := Option.some.inj h
  exact ⟨⟨_, rfl, (.refl _)⟩, trivial, rfl⟩

end Go.Proofs.Ytjomnccladjpgaa
