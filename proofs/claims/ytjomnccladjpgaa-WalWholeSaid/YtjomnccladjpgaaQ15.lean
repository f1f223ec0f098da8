/-
  Walks of functions: each function does what its model tells. Printed by a program of this claim's own (gen.py) off the given translation.
-/
import Derived.Test.YtjomnccladjpgaaQ10
import Derived.Test.YtjomnccladjpgaaQ14
import Derived.Test.YtjomnccladjpgaaQ11
import Derived.Test.YtjomnccladjpgaaQ09
import Derived.Test.YtjomnccladjpgaaQ08
set_option linter.unusedVariables false
set_option linter.unusedSimpArgs false
namespace Go.Proofs.Ytjomnccladjpgaa
open Go Go.RowKit
set_option linter.unusedVariables false
set_option maxHeartbeats 4000000
set_option maxRecDepth 20000
theorem fc_R01_Same (p0 : (List UInt8)) (p1 : (List UInt8)) (r : Bool) (h : m_R01_Same p0 p1 = some r) : FC Try.prog 32 [.t (.d (.seq 1 (bytesD p0))), .t (.d (.seq 1 (bytesD p1)))] [] (.t (.d (.lit (.bool r)))) := by
 refine fc_mk (rs := [.tmp 4]) (n := 26) Try.func32 rfl rfl (Nat.le_of_ble_eq_true rfl) rfl (pins := []) rfl (L := [(0, .t (.d (.seq 1 (bytesD p0)))), (1, .t (.d (.seq 1 (bytesD p1))))]) rfl ?_
 refine c_sr ?_
 refine o_s (.t (.d (.lit (.bool false)))) (g0 rfl) rfl rfl rfl ?_
 refine o_nil ?_
 repeat (first | refine k1 ?_ | refine k4 ?_)
 refine c_seq ?_
 refine c_sr ?_
 refine o_s (.t (.d (.seq 1 (bytesD p0)))) (g0 rfl) rfl rfl rfl ?_
 refine o_c (g0 rfl) rfl rfl rfl (lenE _ _) trivial ?_
 refine o_s (.t (.d (.seq 1 (bytesD p1)))) (g0 rfl) rfl rfl rfl ?_
 refine o_c (g0 rfl) rfl rfl rfl (lenE _ _) trivial ?_
 refine o_s (.t (.d (.lit (.bool ((p0.length : Int) != (p1.length : Int)))))) (g0 rfl) rfl rfl rfl ?_
 refine o_nil ?_
 repeat (first | refine k1 ?_ | refine k4 ?_)
 rcases bif_some h with ⟨h1, h⟩ | ⟨h1, h⟩
 ·
  refine c_t h1 rfl ?_
  refine c_sr ?_
  refine o_s (.t (.d (.lit (.bool false)))) (g0 rfl) rfl rfl rfl ?_
  refine o_nil ?_
  repeat (first | refine k1 ?_ | refine k4 ?_)
  refine c_ret ?_
  repeat (first | refine k3 ?_ | refine k5 ?_)
  obtain rfl := Option.some.inj h
  exact end0 rfl (.refl _)
 ·
  refine c_f h1 rfl ?_
  refine c_skip ?_
  repeat (first | refine k1 ?_ | refine k4 ?_)
  refine c_seq ?_
  refine c_sr ?_
  refine o_s (.t (.d (.lit (.int .i64 0)))) (g0 rfl) rfl rfl rfl ?_
  refine o_nil ?_
  repeat (first | refine k1 ?_ | refine k4 ?_)
  refine c_block ?_
  refine c_fuel (fun (z2 : Int) => [(0, .t (.d (.seq 1 (bytesD p0)))), (1, .t (.d (.seq 1 (bytesD p1)))), (5, .t (.d (.lit (.int .i64 z2))))]) (fun nl1 => (fun (z2 : Int) => m_R01_Same_l1 p0 p1 nl1 z2 = some r)) (p0.length + 1) 0 h ⟨(.refl _), ⟨(.refl _), ⟨(.refl _), trivial⟩⟩⟩ rfl ?_
  rintro nl1 z2 h
  cases nl1 with
  | zero => exact none_ne h
  | succ nl1 =>
   refine c_seq ?_
   refine c_sr ?_
   refine o_s (.t (.d (.lit (.int .i64 z2)))) (g0 rfl) rfl rfl rfl ?_
   refine o_s (.t (.d (.seq 1 (bytesD p0)))) (g0 rfl) rfl rfl rfl ?_
   refine o_c (g0 rfl) rfl rfl rfl (lenE _ _) trivial ?_
   refine o_s (.t (.d (.lit (.bool (decide (z2 < (p0.length : Int))))))) (g0 rfl) rfl rfl rfl ?_
   refine o_nil ?_
   repeat (first | refine k1 ?_ | refine k4 ?_)
   rcases bif_some h with ⟨h3, h⟩ | ⟨h3, h⟩
   ·
    refine c_t h3 rfl ?_
    refine c_skip ?_
    repeat (first | refine k1 ?_ | refine k4 ?_)
    refine c_seq ?_
    refine c_block ?_
    refine c_seq ?_
    refine c_draw mixed (by kernel_rfl) ?_
    refine d_s (.t (.d (.seq 1 (bytesD p0)))) rfl (dg0 rfl) rfl rfl rfl rfl ?_
    refine d_s (.t (.d (.lit (.int .i64 z2)))) rfl (dg0 rfl) rfl rfl rfl rfl ?_
    obtain ⟨x4, h5, h⟩ := bind_some h
    refine d_c rfl (dg0 rfl) rfl rfl rfl rfl (idxE h5) (idxC h5) ?_
    refine d_s (.t (.d (.lit (.int .u8 (x4.toNat : Int))))) rfl (dg0 rfl) rfl rfl rfl rfl ?_
    refine d_s (.t (.d (.seq 1 (bytesD p1)))) rfl (dg0 rfl) rfl rfl rfl rfl ?_
    refine d_s (.t (.d (.lit (.int .i64 z2)))) rfl (dg0 rfl) rfl rfl rfl rfl ?_
    obtain ⟨x6, h7, h⟩ := bind_some h
    refine d_c rfl (dg0 rfl) rfl rfl rfl rfl (idxE h7) (idxC h7) ?_
    refine d_s (.t (.d (.lit (.int .u8 (x6.toNat : Int))))) rfl (dg0 rfl) rfl rfl rfl rfl ?_
    refine d_s (.t (.d (.lit (.bool ((x4.toNat : Int) != (x6.toNat : Int)))))) rfl (dg0 rfl) rfl rfl rfl rfl ?_
    refine d_nil (by kernel_rfl) ?_
    repeat (first | refine k1 ?_ | refine k2 ?_ | refine k3 ?_ | refine k4 ?_ | refine k5 ?_ | refine k6 ?_ | refine k7 rfl ?_)
    rcases bif_some h with ⟨h8, h⟩ | ⟨h8, h⟩
    ·
     refine c_t h8 rfl ?_
     refine c_sr ?_
     refine o_s (.t (.d (.lit (.bool false)))) (g0 rfl) rfl rfl rfl ?_
     refine o_nil ?_
     repeat (first | refine k1 ?_ | refine k4 ?_)
     refine c_ret ?_
     repeat (first | refine k3 ?_ | refine k5 ?_)
     obtain rfl := Option.some.inj h
     exact end0 rfl (.refl _)
    ·
     refine c_f h8 rfl ?_
     refine c_skip ?_
     repeat (first | refine k1 ?_ | refine k4 ?_)
     refine c_region ?_
     refine o_s (.t (.d (.lit (.int .i64 z2)))) (g0 rfl) rfl rfl rfl ?_
     refine o_s (.t (.d (.lit (.int .i64 (wi (z2 + 1)))))) (g0 rfl) rfl rfl rfl ?_
     refine o_s (.t (.d (.lit (.int .i64 (wi (z2 + 1)))))) (g0 rfl) rfl rfl rfl ?_
     refine o_nil ?_
     repeat (first | refine k1 ?_ | refine k4 ?_)
     exact ⟨nl1, (wi (z2 + 1)), Nat.lt_succ_self nl1, h, ⟨(.refl _), ⟨(.refl _), ⟨(.refl _), trivial⟩⟩⟩, rfl⟩
   ·
    refine c_f h3 rfl ?_
    refine c_exit ?_
    repeat (first | refine k1 ?_ | refine k2 ?_ | refine k3 ?_ | refine k4 ?_ | refine k5 ?_ | refine k6 ?_ | refine k7 rfl ?_)
    refine c_sr ?_
    refine o_s (.t (.d (.lit (.bool true)))) (g0 rfl) rfl rfl rfl ?_
    refine o_nil ?_
    repeat (first | refine k1 ?_ | refine k4 ?_)
    refine c_ret ?_
    repeat (first | refine k3 ?_ | refine k5 ?_)
    obtain rfl := Option.some.inj h
    exact end0 rfl (.refl _)

theorem fch_L18_fill (p0 : UInt8) (w0 : Hp) (r : (List UInt8)) (h : m_L18_fill p0 = some r) : FCH Try.prog 56 [.t (.d (.lit (.int .u8 (p0.toNat : Int))))] [] [] (hpA w0) (hpA w0) (.t (.d (.seq 1 (bytesD r)))) := by
 refine fch_mk (rs := [.tmp 2]) (n := 17) [0] Try.func56 rfl rfl (Nat.le_of_ble_eq_true rfl) rfl (pins := []) rfl (L := [(HK, .hp (hpA w0)), (OB + 0, .free), (0, .t (.d (.lit (.int .u8 (p0.toNat : Int)))))]) rfl ?_
 refine c_sr ?_
 refine o_s (.t (.d (.lit (.slice none 0 0)))) (g0 rfl) rfl rfl rfl ?_
 refine o_nil ?_
 repeat (first | refine k1 ?_ | refine k4 ?_)
 refine c_sr ?_
 obtain ⟨x1, h2, h⟩ := bind_some h
 refine o_of (e := [((OB + 0), .box (fl (dT cU8) (List.replicate x1 (0 : UInt8)))), (5, .t (.view 0 0 5 1 x1))]) (g0 rfl) (h_mkl (Mk.refl _) rfl rfl rfl rfl rfl rfl rfl (by kernel_rfl) rfl h2 (fl_rep (c := cU8) (z := (0 : UInt8)) (by kernel_rfl) x1) rfl rfl rfl rfl) rfl ?_
 refine o_s (.t (.view 0 0 5 1 x1)) (g0 rfl) rfl rfl rfl ?_
 refine o_nil ?_
 repeat (first | refine k1 ?_ | refine k4 ?_)
 refine c_seq ?_
 refine c_sr ?_
 refine o_s (.t (.view 0 0 5 1 x1)) (g0 rfl) rfl rfl rfl ?_
 refine o_of (e := [(7, .t (.d (.lit (.int .i64 ((x1 : Nat) : Int)))))]) (g0 rfl) (h_lln (Mk.refl _) rfl rfl rfl rfl rfl rfl) rfl ?_
 refine o_s (.t (.d (.lit (.int .i64 0)))) (g0 rfl) rfl rfl rfl ?_
 refine o_nil ?_
 repeat (first | refine k1 ?_ | refine k4 ?_)
 refine c_block ?_
 refine c_fuelH (fun (q : Int × (List UInt8)) => [(0, .t (.d (.lit (.int .u8 (p0.toNat : Int))))), (3, .t (.view 0 0 5 1 q.2.length)), (7, .t (.d (.lit (.int .i64 ((x1 : Nat) : Int))))), (8, .t (.d (.lit (.int .i64 q.1)))), ((OB + 0), .box (fl (dT cU8) q.2)), (HK, .hp (hpA w0))]) (fun nl1 => (fun (q : Int × (List UInt8)) => m_L18_fill_l1 x1 p0 nl1 q.1 q.2 = some r)) (Int.toNat ((x1 : Nat) : Int) + 1) (0, (List.replicate x1 (0 : UInt8))) [] h rfl ⟨.inr ⟨_, rfl, pure_hpA _⟩, by (repeat (first | exact ObP.nil | refine ObP.cons (.inl rfl) ?_ | refine ObP.cons (.inr (fun _ => rfl)) ?_ | refine ObP.cons (.inr (ob_box (fl_noPt _ _))) ?_ | refine ObP.cons (.inr (ob_gb _ _)) ?_))⟩ ⟨(.refl _), ⟨(.vwn (by first | rfl | (simp; done) | (dsimp only; omega) | (simp; omega))), ⟨(.refl _), ⟨(.refl _), ⟨(.refl _), ⟨(.refl _), trivial⟩⟩⟩⟩⟩⟩ rfl ?_
 rintro nl1 ⟨z3, z4⟩ h
 cases nl1 with
 | zero => exact none_ne h
 | succ nl1 =>
  refine c_sr ?_
  refine o_s (.t (.d (.lit (.bool (decide (z3 < ((x1 : Nat) : Int))))))) (g0 rfl) rfl rfl rfl ?_
  refine o_nil ?_
  repeat (first | refine k1 ?_ | refine k4 ?_)
  refine c_seq ?_
  rcases bif_some h with ⟨h5, h⟩ | ⟨h5, h⟩
  ·
   refine c_t h5 rfl ?_
   refine c_skip ?_
   repeat (first | refine k1 ?_ | refine k4 ?_)
   refine c_seq ?_
   refine c_block ?_
   refine c_sr ?_
   refine o_s (.t (.d (.lit (.int .i64 z3)))) (g0 rfl) rfl rfl rfl ?_
   refine o_s (.t (.d (.lit (.int .i64 z3)))) (g0 rfl) rfl rfl rfl ?_
   refine o_nil ?_
   repeat (first | refine k1 ?_ | refine k4 ?_)
   refine c_region ?_
   refine o_s (.t (.view 0 0 5 1 z4.length)) (g0 rfl) rfl rfl rfl ?_
   refine o_s (.t (.d (.lit (.int .i64 z3)))) (g0 rfl) rfl rfl rfl ?_
   refine o_s (.t (.d (.lit (.int .u8 (p0.toNat : Int))))) (g0 rfl) rfl rfl rfl ?_
   obtain ⟨x6, h7, h⟩ := bind_some h
   refine o_of (e := [(14, .ref (OB + 0) (0 + Int.toNat z3 * 1))]) (g0 rfl) (h_lix (Mk.refl _) rfl rfl rfl rfl rfl (idxV rfl h7) rfl rfl rfl) rfl ?_
   refine o_of (e := [((OB + 0), .box (fl (dT cU8) (z4.set (Int.toNat z3) p0)))]) (g0 rfl) (h_lst (Mk.refl _) rfl rfl rfl rfl rfl rfl rfl (fl_room h7 (fun _ => rfl)) (fl_put h7 p0 (fun _ => rfl) rfl)) rfl ?_
   refine o_nil ?_
   repeat (first | refine k1 ?_ | refine k4 ?_)
   refine c_region ?_
   refine o_s (.t (.d (.lit (.int .i64 (wi (z3 + 1)))))) (g0 rfl) rfl rfl rfl ?_
   refine o_s (.t (.d (.lit (.int .i64 (wi (z3 + 1)))))) (g0 rfl) rfl rfl rfl ?_
   refine o_nil ?_
   repeat (first | refine k1 ?_ | refine k4 ?_)
   exact ⟨nl1, ((wi (z3 + 1)), (z4.set (Int.toNat z3) p0)), [], Nat.lt_succ_self nl1, h, rfl, ⟨.inr ⟨_, rfl, pure_hpA _⟩, by (repeat (first | exact ObP.nil | refine ObP.cons (.inl rfl) ?_ | refine ObP.cons (.inr (fun _ => rfl)) ?_ | refine ObP.cons (.inr (ob_box (fl_noPt _ _))) ?_ | refine ObP.cons (.inr (ob_gb _ _)) ?_))⟩, ⟨(.refl _), ⟨(.vwn (by first | rfl | (simp; done) | (dsimp only; omega) | (simp; omega))), ⟨(.refl _), ⟨(.refl _), ⟨(.refl _), ⟨(.refl _), trivial⟩⟩⟩⟩⟩⟩, rfl⟩
  ·
   refine c_f h5 rfl ?_
   refine c_exit ?_
   repeat (first | refine k1 ?_ | refine k2 ?_ | refine k3 ?_ | refine k4 ?_ | refine k5 ?_ | refine k6 ?_ | refine k7 rfl ?_)
   refine c_sr ?_
   refine o_s (.t (.view 0 0 5 1 z4.length)) (g0 rfl) rfl rfl rfl ?_
   refine o_s (.t (.view 0 0 5 1 z4.length)) (g0 rfl) rfl rfl rfl ?_
   refine o_nil ?_
   repeat (first | refine k1 ?_ | refine k4 ?_)
   refine c_frz 2 0 rfl rfl (by first | (simp; done) | (rw [List.length_map]; omega)) (fl_flat _ _) (map_row (c := cU8) (fun _ => rfl) _) rfl ⟨.inr ⟨_, rfl, pure_hpA _⟩, by (repeat (first | exact ObP.nil | refine ObP.cons (.inl rfl) ?_ | refine ObP.cons (.inr (fun _ => rfl)) ?_ | refine ObP.cons (.inr (ob_box (fl_noPt _ _))) ?_ | refine ObP.cons (.inr (ob_gb _ _)) ?_))⟩ rfl ?_
   refine c_ret ?_
   repeat (first | refine k3 ?_ | refine k5 ?_)
   obtain rfl := Option.some.inj h
   exact ⟨⟨_, rfl, (.refl _)⟩, trivial, rfl⟩

theorem fch_L18_awake (w0 : Hp) (r : (Bool × Hp)) (h : m_L18_awake w0 = some r) : FCH Try.prog 10 [] [] [] (hpA w0) (hpA r.2) (.t (.d (.lit (.bool r.1)))) := by
 refine fch_mk (rs := [.tmp 0]) (n := 58) [] Try.func10 rfl rfl (Nat.le_of_ble_eq_true rfl) rfl (pins := []) rfl (L := [(HK, .hp (hpA w0))]) rfl ?_
 refine c_sr ?_
 refine o_s (.t (.d (.lit (.bool false)))) (g0 rfl) rfl rfl rfl ?_
 refine o_nil ?_
 repeat (first | refine k1 ?_ | refine k4 ?_)
 refine c_sr ?_
 obtain ⟨x1, h2, h⟩ := bind_some h
 refine o_of (e := [(HK, .hp (hpA x1.2.2)), (6, .tup [(ptT 1 x1.1), .d (.lit (.int .i64 x1.2.1))])]) (g0 rfl) (h_call (Mk.refl _) rfl (σ := []) (fr := []) rfl rfl rfl rfl rfl rfl rfl (fch_disk_New _ w0 _ h2) (pure_hpA _) (pure_hpA _) rfl rfl rfl rfl (.cons (.plain (.refl _) rfl) .nil) rfl (.tup (.cons (ptT_pt _ _) (.cons (.flat rfl) .nil)))) rfl ?_
 refine o_c (g0 rfl) rfl rfl rfl (congrArg A.tup (cp_cons (ptT_cp _ _) (cp_cons rfl cp_nil))) trivial ?_
 refine o_c (g0 rfl) rfl rfl rfl (congrArg A.t (ptT_cp _ _)) trivial ?_
 refine o_s (.t (.d (.lit (.int .i64 x1.2.1)))) (g0 rfl) rfl rfl rfl ?_
 refine o_of (e := [(1, .t ((ptT 1 x1.1)))]) (g0 rfl) (h_mv (Mk.refl _) (.inr rfl) (cpO_pt rfl) rfl rfl) rfl ?_
 refine o_s (.t (.d (.lit (.int .i64 x1.2.1)))) (g0 rfl) rfl rfl rfl ?_
 refine o_nil ?_
 repeat (first | refine k1 ?_ | refine k4 ?_)
 refine c_seq ?_
 refine c_sr ?_
 refine o_s (.t (.d (.lit (.int .i64 x1.2.1)))) (g0 rfl) rfl rfl rfl ?_
 refine o_s (.t (.d (.lit (.bool (x1.2.1 != 0))))) (g0 rfl) rfl rfl rfl ?_
 refine o_s (.t (.d (.lit (.bool (x1.2.1 != 0))))) (g0 rfl) rfl rfl rfl ?_
 rcases bif_some h with ⟨h3, h⟩ | ⟨h3, h⟩
 ·
  refine o_skip rfl rfl rfl h3 rfl rfl ?_
  refine o_skip rfl rfl rfl h3 rfl rfl ?_
  refine o_skip rfl rfl rfl h3 rfl rfl ?_
  refine o_pk (.t (.d (.lit (.bool true)))) (b := true) h3 (g0 rfl) rfl rfl rfl rfl rfl ?_
  refine o_nil ?_
  repeat (first | refine k1 ?_ | refine k4 ?_)
  refine c_t rfl rfl ?_
  refine c_sr ?_
  refine o_s (.t (.d (.lit (.bool false)))) (g0 rfl) rfl rfl rfl ?_
  refine o_nil ?_
  repeat (first | refine k1 ?_ | refine k4 ?_)
  refine c_ret ?_
  repeat (first | refine k3 ?_ | refine k5 ?_)
  obtain rfl := Option.some.inj h
  exact ⟨⟨_, rfl, (.refl _)⟩, trivial, rfl⟩
 ·
  refine o_of (e := [(12, .t ((ptT 1 x1.1)))]) (gy rfl rfl rfl h3) (h_mv (Mk.refl _) (.inl rfl) (cpO_pt rfl) rfl rfl) rfl ?_
  obtain ⟨x4, h5, h⟩ := bind_some h
  refine o_of (e := [(HK, .hp (hpA x4.2)), (13, .t (.d (.lit (.int .i64 x4.1))))]) (gy rfl rfl rfl h3) (h_call (Mk.refl _) rfl (σ := []) (fr := []) rfl rfl rfl rfl rfl rfl rfl (fch_wal_Format _ _ x1.2.2 _ h5) (pure_hpA _) (pure_hpA _) rfl rfl rfl rfl (.cons (argPt rfl) (.cons (.plain (.refl _) rfl) .nil)) rfl (.t (.flat rfl))) rfl ?_
  refine o_s (.t (.d (.lit (.bool (x4.1 != 0))))) (gy rfl rfl rfl h3) rfl rfl rfl ?_
  refine o_pk (.t (.d (.lit (.bool (x4.1 != 0))))) (b := false) h3 (g0 rfl) rfl rfl rfl rfl rfl ?_
  refine o_nil ?_
  repeat (first | refine k1 ?_ | refine k4 ?_)
  rcases bif_some h with ⟨h6, h⟩ | ⟨h6, h⟩
  ·
   refine c_t h6 rfl ?_
   refine c_sr ?_
   refine o_s (.t (.d (.lit (.bool false)))) (g0 rfl) rfl rfl rfl ?_
   refine o_nil ?_
   repeat (first | refine k1 ?_ | refine k4 ?_)
   refine c_ret ?_
   repeat (first | refine k3 ?_ | refine k5 ?_)
   obtain rfl := Option.some.inj h
   exact ⟨⟨_, rfl, (.refl _)⟩, trivial, rfl⟩
  ·
   refine c_f h6 rfl ?_
   refine c_skip ?_
   repeat (first | refine k1 ?_ | refine k4 ?_)
   refine c_sr ?_
   refine o_of (e := [(17, .t ((ptT 1 x1.1)))]) (g0 rfl) (h_mv (Mk.refl _) (.inl rfl) (cpO_pt rfl) rfl rfl) rfl ?_
   obtain ⟨x7, h8, h⟩ := bind_some h
   refine o_of (e := [(HK, .hp (hpA x7.2.2)), (18, .tup [(ptT 3 x7.1), .d (.lit (.int .i64 x7.2.1))])]) (g0 rfl) (h_call (Mk.refl _) rfl (σ := []) (fr := []) rfl rfl rfl rfl rfl rfl rfl (fch_wal_Open _ x4.2 _ h8) (pure_hpA _) (pure_hpA _) rfl rfl rfl rfl (.cons (argPt rfl) .nil) rfl (.tup (.cons (ptT_pt _ _) (.cons (.flat rfl) .nil)))) rfl ?_
   refine o_c (g0 rfl) rfl rfl rfl (congrArg A.tup (cp_cons (ptT_cp _ _) (cp_cons rfl cp_nil))) trivial ?_
   refine o_c (g0 rfl) rfl rfl rfl (congrArg A.t (ptT_cp _ _)) trivial ?_
   refine o_s (.t (.d (.lit (.int .i64 x7.2.1)))) (g0 rfl) rfl rfl rfl ?_
   refine o_of (e := [(3, .t ((ptT 3 x7.1)))]) (g0 rfl) (h_mv (Mk.refl _) (.inr rfl) (cpO_pt rfl) rfl rfl) rfl ?_
   refine o_s (.t (.d (.lit (.int .i64 x7.2.1)))) (g0 rfl) rfl rfl rfl ?_
   refine o_nil ?_
   repeat (first | refine k1 ?_ | refine k4 ?_)
   refine c_seq ?_
   refine c_sr ?_
   refine o_s (.t (.d (.lit (.int .i64 x7.2.1)))) (g0 rfl) rfl rfl rfl ?_
   refine o_s (.t (.d (.lit (.bool (x7.2.1 != 0))))) (g0 rfl) rfl rfl rfl ?_
   refine o_s (.t (.d (.lit (.bool (x7.2.1 != 0))))) (g0 rfl) rfl rfl rfl ?_
   rcases bif_some h with ⟨h9, h⟩ | ⟨h9, h⟩
   ·
    refine o_skip rfl rfl rfl h9 rfl rfl ?_
    refine o_skip rfl rfl rfl h9 rfl rfl ?_
    refine o_skip rfl rfl rfl h9 rfl rfl ?_
    refine o_pk (.t (.d (.lit (.bool true)))) (b := true) h9 (g0 rfl) rfl rfl rfl rfl rfl ?_
    refine o_s (.t (.d (.lit (.bool true)))) (g0 rfl) rfl rfl rfl ?_
    refine o_skip rfl rfl rfl rfl rfl rfl ?_
    refine o_skip rfl rfl rfl rfl rfl rfl ?_
    refine o_skip rfl rfl rfl rfl rfl rfl ?_
    refine o_pk (.t (.d (.lit (.bool true)))) (b := true) rfl (g0 rfl) rfl rfl rfl rfl rfl ?_
    refine o_s (.t (.d (.lit (.bool true)))) (g0 rfl) rfl rfl rfl ?_
    refine o_skip rfl rfl rfl rfl rfl rfl ?_
    refine o_skip rfl rfl rfl rfl rfl rfl ?_
    refine o_skip rfl rfl rfl rfl rfl rfl ?_
    refine o_skip rfl rfl rfl rfl rfl rfl ?_
    refine o_skip rfl rfl rfl rfl rfl rfl ?_
    refine o_skip rfl rfl rfl rfl rfl rfl ?_
    refine o_pk (.t (.d (.lit (.bool true)))) (b := true) rfl (g0 rfl) rfl rfl rfl rfl rfl ?_
    refine o_nil ?_
    repeat (first | refine k1 ?_ | refine k4 ?_)
    refine c_t rfl rfl ?_
    refine c_sr ?_
    refine o_s (.t (.d (.lit (.bool false)))) (g0 rfl) rfl rfl rfl ?_
    refine o_nil ?_
    repeat (first | refine k1 ?_ | refine k4 ?_)
    refine c_ret ?_
    repeat (first | refine k3 ?_ | refine k5 ?_)
    obtain rfl := Option.some.inj h
    exact ⟨⟨_, rfl, (.refl _)⟩, trivial, rfl⟩
   ·
    refine o_of (e := [(24, .t ((ptT 3 x7.1)))]) (gy rfl rfl rfl h9) (h_mv (Mk.refl _) (.inl rfl) (cpO_pt rfl) rfl rfl) rfl ?_
    obtain ⟨x10, h11, h⟩ := bind_some h
    refine o_of (e := [(25, .t (.d (.lit (.int .i64 x10))))]) (gy rfl rfl rfl h9) (h_callR (Mk.refl _) rfl (σ := []) (fr := []) rfl rfl rfl rfl rfl rfl rfl (fch_wal_Log_Homes _ x7.2.2 _ h11) (pure_hpA _) rfl rfl rfl rfl (.cons (argPt rfl) .nil) rfl (.t (.flat rfl))) rfl ?_
    refine o_s (.t (.d (.lit (.bool (x10 != 1))))) (gy rfl rfl rfl h9) rfl rfl rfl ?_
    refine o_pk (.t (.d (.lit (.bool (x10 != 1))))) (b := false) h9 (g0 rfl) rfl rfl rfl rfl rfl ?_
    refine o_s (.t (.d (.lit (.bool (x10 != 1))))) (g0 rfl) rfl rfl rfl ?_
    rcases bif_some h with ⟨h12, h⟩ | ⟨h12, h⟩
    ·
     refine o_skip rfl rfl rfl h12 rfl rfl ?_
     refine o_skip rfl rfl rfl h12 rfl rfl ?_
     refine o_skip rfl rfl rfl h12 rfl rfl ?_
     refine o_pk (.t (.d (.lit (.bool true)))) (b := true) h12 (g0 rfl) rfl rfl rfl rfl rfl ?_
     refine o_s (.t (.d (.lit (.bool true)))) (g0 rfl) rfl rfl rfl ?_
     refine o_skip rfl rfl rfl rfl rfl rfl ?_
     refine o_skip rfl rfl rfl rfl rfl rfl ?_
     refine o_skip rfl rfl rfl rfl rfl rfl ?_
     refine o_skip rfl rfl rfl rfl rfl rfl ?_
     refine o_skip rfl rfl rfl rfl rfl rfl ?_
     refine o_skip rfl rfl rfl rfl rfl rfl ?_
     refine o_pk (.t (.d (.lit (.bool true)))) (b := true) rfl (g0 rfl) rfl rfl rfl rfl rfl ?_
     refine o_nil ?_
     repeat (first | refine k1 ?_ | refine k4 ?_)
     refine c_t rfl rfl ?_
     refine c_sr ?_
     refine o_s (.t (.d (.lit (.bool false)))) (g0 rfl) rfl rfl rfl ?_
     refine o_nil ?_
     repeat (first | refine k1 ?_ | refine k4 ?_)
     refine c_ret ?_
     repeat (first | refine k3 ?_ | refine k5 ?_)
     obtain rfl := Option.some.inj h
     exact ⟨⟨_, rfl, (.refl _)⟩, trivial, rfl⟩
    ·
     refine o_of (e := [(29, .t ((ptT 3 x7.1)))]) (gy rfl rfl rfl h12) (h_mv (Mk.refl _) (.inl rfl) (cpO_pt rfl) rfl rfl) rfl ?_
     obtain ⟨x13, h14, h⟩ := bind_some h
     refine o_of (e := [(30, .t (.d (.lit (.int .i64 x13))))]) (gy rfl rfl rfl h12) (h_callR (Mk.refl _) rfl (σ := []) (fr := []) rfl rfl rfl rfl rfl rfl rfl (fch_wal_Log_Base _ x7.2.2 _ h14) (pure_hpA _) rfl rfl rfl rfl (.cons (argPt rfl) .nil) rfl (.t (.flat rfl))) rfl ?_
     refine o_s (.t (.d (.lit (.bool (x13 != 4))))) (gy rfl rfl rfl h12) rfl rfl rfl ?_
     refine o_pk (.t (.d (.lit (.bool (x13 != 4))))) (b := false) h12 (g0 rfl) rfl rfl rfl rfl rfl ?_
     refine o_s (.t (.d (.lit (.bool (x13 != 4))))) (g0 rfl) rfl rfl rfl ?_
     rcases bif_some h with ⟨h15, h⟩ | ⟨h15, h⟩
     ·
      refine o_skip rfl rfl rfl h15 rfl rfl ?_
      refine o_skip rfl rfl rfl h15 rfl rfl ?_
      refine o_skip rfl rfl rfl h15 rfl rfl ?_
      refine o_skip rfl rfl rfl h15 rfl rfl ?_
      refine o_skip rfl rfl rfl h15 rfl rfl ?_
      refine o_skip rfl rfl rfl h15 rfl rfl ?_
      refine o_pk (.t (.d (.lit (.bool true)))) (b := true) h15 (g0 rfl) rfl rfl rfl rfl rfl ?_
      refine o_nil ?_
      repeat (first | refine k1 ?_ | refine k4 ?_)
      refine c_t rfl rfl ?_
      refine c_sr ?_
      refine o_s (.t (.d (.lit (.bool false)))) (g0 rfl) rfl rfl rfl ?_
      refine o_nil ?_
      repeat (first | refine k1 ?_ | refine k4 ?_)
      refine c_ret ?_
      repeat (first | refine k3 ?_ | refine k5 ?_)
      obtain rfl := Option.some.inj h
      exact ⟨⟨_, rfl, (.refl _)⟩, trivial, rfl⟩
     ·
      refine o_of (e := [(34, .t ((ptT 3 x7.1)))]) (gy rfl rfl rfl h15) (h_mv (Mk.refl _) (.inl rfl) (cpO_pt rfl) rfl rfl) rfl ?_
      obtain ⟨x16, h17, h⟩ := bind_some h
      refine o_of (e := [(35, .t (.d (.seq 1 (bytesD x16))))]) (gy rfl rfl rfl h15) (h_callR (Mk.refl _) rfl (σ := []) (fr := []) rfl rfl rfl rfl rfl rfl rfl (fch_L18_fill _ x7.2.2 _ h17) (pure_hpA _) rfl rfl rfl rfl (.cons (.plain (.refl _) rfl) .nil) rfl (.t (.flat rfl))) rfl ?_
      refine o_s (.t (.agg [.lit (.int .i64 0), .seq 1 (bytesD x16)])) (gy rfl rfl rfl h15) rfl rfl rfl ?_
      refine o_s (.t (.own 100 2 (List.map cS_api_Write [(S_api_Write.mk 0 x16)]))) (gy rfl rfl rfl h15) rfl rfl rfl ?_
      obtain ⟨x18, h19, h⟩ := bind_some h
      refine o_of (e := [(HK, .hp (hpA x18.2)), (38, .t (.d (.lit (.int .i64 x18.1))))]) (gy rfl rfl rfl h15) (h_call (Mk.refl _) rfl (σ := []) (fr := []) rfl rfl rfl rfl rfl rfl rfl (fch_wal_Log_Commit _ _ x7.2.2 _ h19) (pure_hpA _) (pure_hpA _) rfl rfl rfl rfl (.cons (argPt rfl) (.cons (.plain (.refl _) rfl) .nil)) rfl (.t (.flat rfl))) rfl ?_
      refine o_s (.t (.d (.lit (.bool (x18.1 != 0))))) (gy rfl rfl rfl h15) rfl rfl rfl ?_
      refine o_pk (.t (.d (.lit (.bool (x18.1 != 0))))) (b := false) h15 (g0 rfl) rfl rfl rfl rfl rfl ?_
      refine o_nil ?_
      repeat (first | refine k1 ?_ | refine k4 ?_)
      rcases bif_some h with ⟨h20, h⟩ | ⟨h20, h⟩
      ·
       refine c_t h20 rfl ?_
       refine c_sr ?_
       refine o_s (.t (.d (.lit (.bool false)))) (g0 rfl) rfl rfl rfl ?_
       refine o_nil ?_
       repeat (first | refine k1 ?_ | refine k4 ?_)
       refine c_ret ?_
       repeat (first | refine k3 ?_ | refine k5 ?_)
       obtain rfl := Option.some.inj h
       exact ⟨⟨_, rfl, (.refl _)⟩, trivial, rfl⟩
      ·
       refine c_f h20 rfl ?_
       refine c_skip ?_
       repeat (first | refine k1 ?_ | refine k4 ?_)
       refine c_sr ?_
       refine o_of (e := [(42, .t ((ptT 3 x7.1)))]) (g0 rfl) (h_mv (Mk.refl _) (.inl rfl) (cpO_pt rfl) rfl rfl) rfl ?_
       obtain ⟨x21, h22, h⟩ := bind_some h
       refine o_of (e := [(43, .tup [.d (.seq 1 (bytesD x21.1)), .d (.lit (.int .i64 x21.2))])]) (g0 rfl) (h_callR (Mk.refl _) rfl (σ := []) (fr := []) rfl rfl rfl rfl rfl rfl rfl (fch_wal_Log_Read _ _ x18.2 _ h22) (pure_hpA _) rfl rfl rfl rfl (.cons (argPt rfl) (.cons (.plain (.refl _) rfl) .nil)) rfl (.tup (.cons (.flat rfl) (.cons (.flat rfl) .nil)))) rfl ?_
       refine o_s (.tup [.d (.seq 1 (bytesD x21.1)), .d (.lit (.int .i64 x21.2))]) (g0 rfl) rfl rfl rfl ?_
       refine o_s (.t (.d (.seq 1 (bytesD x21.1)))) (g0 rfl) rfl rfl rfl ?_
       refine o_s (.t (.d (.lit (.int .i64 x21.2)))) (g0 rfl) rfl rfl rfl ?_
       refine o_s (.t (.d (.seq 1 (bytesD x21.1)))) (g0 rfl) rfl rfl rfl ?_
       refine o_s (.t (.d (.lit (.int .i64 x21.2)))) (g0 rfl) rfl rfl rfl ?_
       refine o_nil ?_
       repeat (first | refine k1 ?_ | refine k4 ?_)
       refine c_sr ?_
       refine o_s (.t (.d (.lit (.int .i64 x21.2)))) (g0 rfl) rfl rfl rfl ?_
       refine o_s (.t (.d (.lit (.bool (x21.2 == 0))))) (g0 rfl) rfl rfl rfl ?_
       refine o_s (.t (.d (.lit (.bool (x21.2 == 0))))) (g0 rfl) rfl rfl rfl ?_
       rcases bif_some h with ⟨h23, h⟩ | ⟨h23, h⟩
       ·
        refine o_s (.t (.d (.seq 1 (bytesD x21.1)))) (gy rfl rfl rfl h23) rfl rfl rfl ?_
        obtain ⟨x24, h25, h⟩ := bind_some h
        refine o_of (e := [(50, .t (.d (.seq 1 (bytesD x24))))]) (gy rfl rfl rfl h23) (h_callR (Mk.refl _) rfl (σ := []) (fr := []) rfl rfl rfl rfl rfl rfl rfl (fch_L18_fill _ x18.2 _ h25) (pure_hpA _) rfl rfl rfl rfl (.cons (.plain (.refl _) rfl) .nil) rfl (.t (.flat rfl))) rfl ?_
        obtain ⟨x26, h27, h⟩ := bind_some h
        refine o_ca (fc_R01_Same _ _ _ h27) (gy rfl rfl rfl h23) rfl rfl rfl rfl rfl rfl rfl (.cons (.refl _) (.cons (.refl _) .nil)) rfl rfl ?_
        refine o_pk (.t (.d (.lit (.bool x26)))) (b := true) h23 (g0 rfl) rfl rfl rfl rfl rfl ?_
        refine o_s (.t (.d (.lit (.bool x26)))) (g0 rfl) rfl rfl rfl ?_
        rcases bif_some h with ⟨h28, h⟩ | ⟨h28, h⟩
        ·
         refine o_of (e := [(54, .t ((ptT 3 x7.1)))]) (gy rfl rfl rfl h28) (h_mv (Mk.refl _) (.inl rfl) (cpO_pt rfl) rfl rfl) rfl ?_
         obtain ⟨x29, h30, h⟩ := bind_some h
         refine o_of (e := [(55, .t (.d (.lit (.int .i64 x29))))]) (gy rfl rfl rfl h28) (h_callR (Mk.refl _) rfl (σ := []) (fr := []) rfl rfl rfl rfl rfl rfl rfl (fch_wal_Log_Left _ x18.2 _ h30) (pure_hpA _) rfl rfl rfl rfl (.cons (argPt rfl) .nil) rfl (.t (.flat rfl))) rfl ?_
         refine o_s (.t (.d (.lit (.bool (x29 == 0))))) (gy rfl rfl rfl h28) rfl rfl rfl ?_
         refine o_pk (.t (.d (.lit (.bool (x29 == 0))))) (b := true) h28 (g0 rfl) rfl rfl rfl rfl rfl ?_
         refine o_s (.t (.d (.lit (.bool (x29 == 0))))) (g0 rfl) rfl rfl rfl ?_
         refine o_nil ?_
         repeat (first | refine k1 ?_ | refine k4 ?_)
         refine c_ret ?_
         repeat (first | refine k3 ?_ | refine k5 ?_)
         obtain rfl := Option.some.inj h
         exact ⟨⟨_, rfl, (.refl _)⟩, trivial, rfl⟩
        ·
         refine o_skip rfl rfl rfl h28 rfl rfl ?_
         refine o_skip rfl rfl rfl h28 rfl rfl ?_
         refine o_skip rfl rfl rfl h28 rfl rfl ?_
         refine o_pk (.t (.d (.lit (.bool false)))) (b := false) h28 (g0 rfl) rfl rfl rfl rfl rfl ?_
         refine o_s (.t (.d (.lit (.bool false)))) (g0 rfl) rfl rfl rfl ?_
         refine o_nil ?_
         repeat (first | refine k1 ?_ | refine k4 ?_)
         refine c_ret ?_
         repeat (first | refine k3 ?_ | refine k5 ?_)
         obtain rfl := Option.some.inj h
         exact ⟨⟨_, rfl, (.refl _)⟩, trivial, rfl⟩
       ·
        refine o_skip rfl rfl rfl h23 rfl rfl ?_
        refine o_skip rfl rfl rfl h23 rfl rfl ?_
        refine o_skip rfl rfl rfl h23 rfl rfl ?_
        refine o_pk (.t (.d (.lit (.bool false)))) (b := false) h23 (g0 rfl) rfl rfl rfl rfl rfl ?_
        refine o_s (.t (.d (.lit (.bool false)))) (g0 rfl) rfl rfl rfl ?_
        refine o_skip rfl rfl rfl rfl rfl rfl ?_
        refine o_skip rfl rfl rfl rfl rfl rfl ?_
        refine o_skip rfl rfl rfl rfl rfl rfl ?_
        refine o_pk (.t (.d (.lit (.bool false)))) (b := false) rfl (g0 rfl) rfl rfl rfl rfl rfl ?_
        refine o_s (.t (.d (.lit (.bool false)))) (g0 rfl) rfl rfl rfl ?_
        refine o_nil ?_
        repeat (first | refine k1 ?_ | refine k4 ?_)
        refine c_ret ?_
        repeat (first | refine k3 ?_ | refine k5 ?_)
        obtain rfl := Option.some.inj h
        exact ⟨⟨_, rfl, (.refl _)⟩, trivial, rfl⟩

theorem fc_L18_FewWrites (p0 : (List S_api_Write)) (r : Bool) (h : m_L18_FewWrites p0 = some r) : FC Try.prog 11 [.t (.d (.seq 2 (List.map cS_api_Write p0)))] [] (.t (.d (.lit (.bool r)))) := by
 refine fc_mk (rs := [.tmp 2]) (n := 19) Try.func11 rfl rfl (Nat.le_of_ble_eq_true rfl) rfl (pins := []) rfl (L := [(0, .t (.d (.seq 2 (List.map cS_api_Write p0))))]) rfl ?_
 refine c_sr ?_
 refine o_s (.t (.d (.lit (.bool false)))) (g0 rfl) rfl rfl rfl ?_
 refine o_nil ?_
 repeat (first | refine k1 ?_ | refine k4 ?_)
 refine c_seq ?_
 refine c_sr ?_
 refine o_s (.t (.d (.seq 2 (List.map cS_api_Write p0)))) (g0 rfl) rfl rfl rfl ?_
 refine o_c (g0 rfl) rfl rfl rfl (lenE _ _) trivial ?_
 refine o_s (.t (.d (.lit (.bool (decide ((p0.length : Int) > 10)))))) (g0 rfl) rfl rfl rfl ?_
 refine o_nil ?_
 repeat (first | refine k1 ?_ | refine k4 ?_)
 rcases bif_some h with ⟨h1, h⟩ | ⟨h1, h⟩
 ·
  refine c_t h1 rfl ?_
  refine c_sr ?_
  refine o_s (.t (.d (.lit (.bool false)))) (g0 rfl) rfl rfl rfl ?_
  refine o_nil ?_
  repeat (first | refine k1 ?_ | refine k4 ?_)
  refine c_ret ?_
  repeat (first | refine k3 ?_ | refine k5 ?_)
  obtain rfl := Option.some.inj h
  exact end0 rfl (.refl _)
 ·
  refine c_f h1 rfl ?_
  refine c_skip ?_
  repeat (first | refine k1 ?_ | refine k4 ?_)
  refine c_seq ?_
  refine c_sr ?_
  refine o_s (.t (.d (.seq 2 (List.map cS_api_Write p0)))) (g0 rfl) rfl rfl rfl ?_
  refine o_c (g0 rfl) rfl rfl rfl (lenE _ _) trivial ?_
  refine o_s (.t (.d (.lit (.int .i64 0)))) (g0 rfl) rfl rfl rfl ?_
  refine o_nil ?_
  repeat (first | refine k1 ?_ | refine k4 ?_)
  refine c_block ?_
  refine c_fuel (fun (z2 : Int) => [(8, .t (.d (.seq 2 (List.map cS_api_Write p0)))), (9, .t (.d (.lit (.int .i64 (p0.length : Int))))), (10, .t (.d (.lit (.int .i64 z2))))]) (fun nl1 => (fun (z2 : Int) => m_L18_FewWrites_l1 p0 nl1 z2 = some r)) (p0.length + 1) 0 h ⟨(.refl _), ⟨(.refl _), ⟨(.refl _), trivial⟩⟩⟩ rfl ?_
  rintro nl1 z2 h
  cases nl1 with
  | zero => exact none_ne h
  | succ nl1 =>
   refine c_sr ?_
   refine o_s (.t (.d (.lit (.bool (decide (z2 < (p0.length : Int))))))) (g0 rfl) rfl rfl rfl ?_
   refine o_nil ?_
   repeat (first | refine k1 ?_ | refine k4 ?_)
   refine c_seq ?_
   rcases bif_some h with ⟨h3, h⟩ | ⟨h3, h⟩
   ·
    refine c_t h3 rfl ?_
    refine c_skip ?_
    repeat (first | refine k1 ?_ | refine k4 ?_)
    refine c_seq ?_
    refine c_block ?_
    refine c_sr ?_
    obtain ⟨x4, h5, h⟩ := bind_some h
    refine o_c (g0 rfl) rfl rfl rfl (idxE h5) (idxC h5) ?_
    refine o_s (.t (.agg [.lit (.int .i64 x4.Home), .seq 1 (bytesD x4.Data)])) (g0 rfl) rfl rfl rfl ?_
    refine o_s (.box [.d (.lit (.int .i64 0)), .d (.lit (.slice none 0 0))]) (g0 rfl) rfl rfl rfl ?_
    refine o_st (.box [.d (.lit (.int .i64 x4.Home)), .d (.seq 1 (bytesD x4.Data))]) (g0 rfl) rfl rfl rfl ?_
    refine o_nil ?_
    repeat (first | refine k1 ?_ | refine k4 ?_)
    refine c_sr ?_
    refine o_s (.ref 4 1) (g0 rfl) rfl rfl rfl ?_
    refine o_s (.t (.d (.seq 1 (bytesD x4.Data)))) (g0 rfl) rfl rfl rfl ?_
    refine o_c (g0 rfl) rfl rfl rfl (lenE _ _) trivial ?_
    refine o_s (.t (.d (.lit (.bool (decide ((x4.Data.length : Int) > 100)))))) (g0 rfl) rfl rfl rfl ?_
    refine o_nil ?_
    repeat (first | refine k1 ?_ | refine k4 ?_)
    rcases bif_some h with ⟨h6, h⟩ | ⟨h6, h⟩
    ·
     refine c_t h6 rfl ?_
     refine c_sr ?_
     refine o_s (.t (.d (.lit (.bool false)))) (g0 rfl) rfl rfl rfl ?_
     refine o_nil ?_
     repeat (first | refine k1 ?_ | refine k4 ?_)
     refine c_ret ?_
     repeat (first | refine k3 ?_ | refine k5 ?_)
     obtain rfl := Option.some.inj h
     exact end0 rfl (.refl _)
    ·
     refine c_f h6 rfl ?_
     refine c_skip ?_
     repeat (first | refine k1 ?_ | refine k4 ?_)
     refine c_region ?_
     refine o_s (.t (.d (.lit (.int .i64 (wi (z2 + 1)))))) (g0 rfl) rfl rfl rfl ?_
     refine o_s (.t (.d (.lit (.int .i64 (wi (z2 + 1)))))) (g0 rfl) rfl rfl rfl ?_
     refine o_nil ?_
     repeat (first | refine k1 ?_ | refine k4 ?_)
     exact ⟨nl1, (wi (z2 + 1)), Nat.lt_succ_self nl1, h, ⟨(.refl _), ⟨(.refl _), ⟨(.refl _), trivial⟩⟩⟩, rfl⟩
   ·
    refine c_f h3 rfl ?_
    refine c_exit ?_
    repeat (first | refine k1 ?_ | refine k2 ?_ | refine k3 ?_ | refine k4 ?_ | refine k5 ?_ | refine k6 ?_ | refine k7 rfl ?_)
    refine c_sr ?_
    refine o_s (.t (.d (.lit (.bool true)))) (g0 rfl) rfl rfl rfl ?_
    refine o_nil ?_
    repeat (first | refine k1 ?_ | refine k4 ?_)
    refine c_ret ?_
    repeat (first | refine k3 ?_ | refine k5 ?_)
    obtain rfl := Option.some.inj h
    exact end0 rfl (.refl _)

theorem fch_L18_homes (p0 : (Option Nat)) (w0 : Hp) (r : ((List (List UInt8)) × Bool)) (h : m_L18_homes p0 w0 = some r) : FCH Try.prog 15 [.t ((ptT 3 p0))] [] [] (hpA w0) (hpA w0) (.tup [.d (.seq 1 (List.map (cSl 1 cU8) r.1)), .d (.lit (.bool r.2))]) := by
 refine fch_mk (rs := [.tmp 2, .tmp 3]) (n := 27) [] Try.func15 rfl rfl (Nat.le_of_ble_eq_true rfl) rfl (pins := []) rfl (L := [(HK, .hp (hpA w0)), (0, .t ((ptT 3 p0)))]) rfl ?_
 refine c_sr ?_
 refine o_s (.t (.d (.lit (.slice none 0 0)))) (g0 rfl) rfl rfl rfl ?_
 refine o_s (.t (.d (.lit (.bool false)))) (g0 rfl) rfl rfl rfl ?_
 refine o_nil ?_
 repeat (first | refine k1 ?_ | refine k4 ?_)
 refine c_sr ?_
 refine o_s (.t (.d (.lit (.slice none 0 0)))) (g0 rfl) rfl rfl rfl ?_
 refine o_nil ?_
 repeat (first | refine k1 ?_ | refine k4 ?_)
 refine c_cutH (fun (y1 : (List (List UInt8))) => [(4, .t (.own 41 1 (List.map (cSl 1 cU8) y1))), (HK, .hp (hpA w0))]) (fun (y1 : (List (List UInt8))) => m_L18_homes_j1 y1 = some r) ?_ ?_
 ·
  refine c_sr ?_
  refine o_of (e := [(8, .t ((ptT 3 p0)))]) (g0 rfl) (h_mv (Mk.refl _) (.inl rfl) (cpO_pt rfl) rfl rfl) rfl ?_
  obtain ⟨x2, h3, h⟩ := bind_some h
  refine o_of (e := [(9, .t (.d (.lit (.int .i64 x2))))]) (g0 rfl) (h_callR (Mk.refl _) rfl (σ := []) (fr := []) rfl rfl rfl rfl rfl rfl rfl (fch_wal_Log_Homes _ w0 _ h3) (pure_hpA _) rfl rfl rfl rfl (.cons (argPt rfl) .nil) rfl (.t (.flat rfl))) rfl ?_
  refine o_s (.t (.d (.lit (.int .i64 0)))) (g0 rfl) rfl rfl rfl ?_
  refine o_nil ?_
  repeat (first | refine k1 ?_ | refine k4 ?_)
  refine c_block ?_
  refine c_fuelH (fun (q : (List (List UInt8)) × Int) => [(0, .t ((ptT 3 p0))), (4, .t (.own 41 1 (List.map (cSl 1 cU8) q.1))), (9, .t (.d (.lit (.int .i64 x2)))), (10, .t (.d (.lit (.int .i64 q.2)))), (HK, .hp (hpA w0))]) (fun nl2 => (fun (q : (List (List UInt8)) × Int) => m_L18_homes_l2 x2 p0 w0 nl2 q.1 q.2 = some r)) (Int.toNat x2 + 1) ([], 0) [] h rfl ⟨.inr ⟨_, rfl, pure_hpA _⟩, by (repeat (first | exact ObP.nil | refine ObP.cons (.inl rfl) ?_ | refine ObP.cons (.inr (fun _ => rfl)) ?_ | refine ObP.cons (.inr (ob_box (fl_noPt _ _))) ?_ | refine ObP.cons (.inr (ob_gb _ _)) ?_))⟩ ⟨(.refl _), ⟨(.t (.nilOwn _ _)), ⟨(.refl _), ⟨(.refl _), ⟨(.refl _), trivial⟩⟩⟩⟩⟩ rfl ?_
  rintro nl2 ⟨z4, z5⟩ h
  cases nl2 with
  | zero => exact none_ne h
  | succ nl2 =>
   refine c_sr ?_
   refine o_s (.t (.d (.lit (.bool (decide (z5 < x2)))))) (g0 rfl) rfl rfl rfl ?_
   refine o_nil ?_
   repeat (first | refine k1 ?_ | refine k4 ?_)
   refine c_seq ?_
   rcases bif_some h with ⟨h6, h⟩ | ⟨h6, h⟩
   ·
    refine c_t h6 rfl ?_
    refine c_skip ?_
    repeat (first | refine k1 ?_ | refine k4 ?_)
    refine c_seq ?_
    refine c_block ?_
    refine c_sr ?_
    refine o_s (.t (.d (.lit (.int .i64 z5)))) (g0 rfl) rfl rfl rfl ?_
    refine o_s (.t (.d (.lit (.int .i64 z5)))) (g0 rfl) rfl rfl rfl ?_
    refine o_nil ?_
    repeat (first | refine k1 ?_ | refine k4 ?_)
    refine c_sr ?_
    refine o_of (e := [(14, .t ((ptT 3 p0)))]) (g0 rfl) (h_mv (Mk.refl _) (.inl rfl) (cpO_pt rfl) rfl rfl) rfl ?_
    refine o_s (.t (.d (.lit (.int .i64 z5)))) (g0 rfl) rfl rfl rfl ?_
    obtain ⟨x7, h8, h⟩ := bind_some h
    refine o_of (e := [(16, .tup [.d (.seq 1 (bytesD x7.1)), .d (.lit (.int .i64 x7.2))])]) (g0 rfl) (h_callR (Mk.refl _) rfl (σ := []) (fr := []) rfl rfl rfl rfl rfl rfl rfl (fch_wal_Log_Read _ _ w0 _ h8) (pure_hpA _) rfl rfl rfl rfl (.cons (argPt rfl) (.cons (.plain (.refl _) rfl) .nil)) rfl (.tup (.cons (.flat rfl) (.cons (.flat rfl) .nil)))) rfl ?_
    refine o_s (.tup [.d (.seq 1 (bytesD x7.1)), .d (.lit (.int .i64 x7.2))]) (g0 rfl) rfl rfl rfl ?_
    refine o_s (.t (.d (.seq 1 (bytesD x7.1)))) (g0 rfl) rfl rfl rfl ?_
    refine o_s (.t (.d (.lit (.int .i64 x7.2)))) (g0 rfl) rfl rfl rfl ?_
    refine o_s (.t (.d (.seq 1 (bytesD x7.1)))) (g0 rfl) rfl rfl rfl ?_
    refine o_s (.t (.d (.lit (.int .i64 x7.2)))) (g0 rfl) rfl rfl rfl ?_
    refine o_nil ?_
    repeat (first | refine k1 ?_ | refine k4 ?_)
    refine c_seq ?_
    refine c_sr ?_
    refine o_s (.t (.d (.lit (.int .i64 x7.2)))) (g0 rfl) rfl rfl rfl ?_
    refine o_s (.t (.d (.lit (.bool (x7.2 != 0))))) (g0 rfl) rfl rfl rfl ?_
    refine o_nil ?_
    repeat (first | refine k1 ?_ | refine k4 ?_)
    rcases bif_some h with ⟨h9, h⟩ | ⟨h9, h⟩
    ·
     refine c_t h9 rfl ?_
     refine c_sr ?_
     refine o_s (.t (.d (.lit (.slice none 0 0)))) (g0 rfl) rfl rfl rfl ?_
     refine o_s (.t (.d (.lit (.bool false)))) (g0 rfl) rfl rfl rfl ?_
     refine o_nil ?_
     repeat (first | refine k1 ?_ | refine k4 ?_)
     refine c_ret ?_
     repeat (first | refine k3 ?_ | refine k5 ?_)
     obtain rfl := Option.some.inj h
     exact ⟨⟨_, rfl, (.tup (.cons (.d (.nil _)) (.cons (.refl _) .nil)))⟩, trivial, rfl⟩
    ·
     refine c_f h9 rfl ?_
     refine c_skip ?_
     repeat (first | refine k1 ?_ | refine k4 ?_)
     refine c_region ?_
     refine o_2 (.t (.d (.seq 1 (List.map (cSl 1 cU8) z4)))) (.t (.own 41 1 (List.map (cSl 1 cU8) z4))) (g0 rfl) rfl rfl rfl ?_
     refine o_s (.t (.d (.seq 1 (bytesD x7.1)))) (g0 rfl) rfl rfl rfl ?_
     refine o_s (.t (.own 41 1 (List.map (cSl 1 cU8) [x7.1]))) (g0 rfl) rfl rfl rfl ?_
     obtain ⟨x10, h11, h⟩ := bind_some h
     refine o_2c (g0 rfl) rfl rfl rfl (appE (c := (cSl 1 cU8)) h11) (appC (c := (cSl 1 cU8)) h11) ?_
     refine o_2 (.t (.d (.seq 1 (List.map (cSl 1 cU8) x10)))) (.t (.own 41 1 (List.map (cSl 1 cU8) x10))) (g0 rfl) rfl rfl rfl ?_
     refine o_nil ?_
     repeat (first | refine k1 ?_ | refine k4 ?_)
     refine c_region ?_
     refine o_s (.t (.d (.lit (.int .i64 (wi (z5 + 1)))))) (g0 rfl) rfl rfl rfl ?_
     refine o_s (.t (.d (.lit (.int .i64 (wi (z5 + 1)))))) (g0 rfl) rfl rfl rfl ?_
     refine o_nil ?_
     repeat (first | refine k1 ?_ | refine k4 ?_)
     exact ⟨nl2, (x10, (wi (z5 + 1))), [], Nat.lt_succ_self nl2, h, rfl, ⟨.inr ⟨_, rfl, pure_hpA _⟩, by (repeat (first | exact ObP.nil | refine ObP.cons (.inl rfl) ?_ | refine ObP.cons (.inr (fun _ => rfl)) ?_ | refine ObP.cons (.inr (ob_box (fl_noPt _ _))) ?_ | refine ObP.cons (.inr (ob_gb _ _)) ?_))⟩, ⟨(.refl _), ⟨(.refl _), ⟨(.refl _), ⟨(.refl _), ⟨(.refl _), trivial⟩⟩⟩⟩⟩, rfl⟩
   ·
    refine c_f h6 rfl ?_
    refine c_exit ?_
    repeat (first | refine k1 ?_ | refine k2 ?_ | refine k3 ?_ | refine k4 ?_ | refine k5 ?_ | refine k6 ?_ | refine k7 rfl ?_)
    exact ⟨z4, [], h, rfl, ⟨.inr ⟨_, rfl, pure_hpA _⟩, by (repeat (first | exact ObP.nil | refine ObP.cons (.inl rfl) ?_ | refine ObP.cons (.inr (fun _ => rfl)) ?_ | refine ObP.cons (.inr (ob_box (fl_noPt _ _))) ?_ | refine ObP.cons (.inr (ob_gb _ _)) ?_))⟩, ⟨(.refl _), ⟨(.refl _), trivial⟩⟩, rfl⟩
 ·
  rintro y1 h
  refine c_sr ?_
  refine o_2 (.t (.d (.seq 1 (List.map (cSl 1 cU8) y1)))) (.t (.own 41 1 (List.map (cSl 1 cU8) y1))) (g0 rfl) rfl rfl rfl ?_
  refine o_2 (.t (.d (.seq 1 (List.map (cSl 1 cU8) y1)))) (.t (.own 41 1 (List.map (cSl 1 cU8) y1))) (g0 rfl) rfl rfl rfl ?_
  refine o_s (.t (.d (.lit (.bool true)))) (g0 rfl) rfl rfl rfl ?_
  refine o_nil ?_
  repeat (first | refine k1 ?_ | refine k4 ?_)
  refine c_ret ?_
  repeat (first | refine k3 ?_ | refine k5 ?_)
  obtain rfl := Option.some.inj h
  exact ⟨⟨_, rfl, (.tup (.cons (.refl _) (.cons (.refl _) .nil)))⟩, trivial, rfl⟩

theorem fc_L18_same (p0 : (List (List UInt8))) (p1 : (List (List UInt8))) (r : Bool) (h : m_L18_same p0 p1 = some r) : FC Try.prog 17 [.t (.d (.seq 1 (List.map (cSl 1 cU8) p0))), .t (.d (.seq 1 (List.map (cSl 1 cU8) p1)))] [] (.t (.d (.lit (.bool r)))) := by
 refine fc_mk (rs := [.tmp 4]) (n := 27) Try.func17 rfl rfl (Nat.le_of_ble_eq_true rfl) rfl (pins := []) rfl (L := [(0, .t (.d (.seq 1 (List.map (cSl 1 cU8) p0)))), (1, .t (.d (.seq 1 (List.map (cSl 1 cU8) p1))))]) rfl ?_
 refine c_sr ?_
 refine o_s (.t (.d (.lit (.bool false)))) (g0 rfl) rfl rfl rfl ?_
 refine o_nil ?_
 repeat (first | refine k1 ?_ | refine k4 ?_)
 refine c_seq ?_
 refine c_sr ?_
 refine o_s (.t (.d (.seq 1 (List.map (cSl 1 cU8) p0)))) (g0 rfl) rfl rfl rfl ?_
 refine o_c (g0 rfl) rfl rfl rfl (lenE _ _) trivial ?_
 refine o_s (.t (.d (.seq 1 (List.map (cSl 1 cU8) p1)))) (g0 rfl) rfl rfl rfl ?_
 refine o_c (g0 rfl) rfl rfl rfl (lenE _ _) trivial ?_
 refine o_s (.t (.d (.lit (.bool ((p0.length : Int) != (p1.length : Int)))))) (g0 rfl) rfl rfl rfl ?_
 refine o_nil ?_
 repeat (first | refine k1 ?_ | refine k4 ?_)
 rcases bif_some h with ⟨h1, h⟩ | ⟨h1, h⟩
 ·
  refine c_t h1 rfl ?_
  refine c_sr ?_
  refine o_s (.t (.d (.lit (.bool false)))) (g0 rfl) rfl rfl rfl ?_
  refine o_nil ?_
  repeat (first | refine k1 ?_ | refine k4 ?_)
  refine c_ret ?_
  repeat (first | refine k3 ?_ | refine k5 ?_)
  obtain rfl := Option.some.inj h
  exact end0 rfl (.refl _)
 ·
  refine c_f h1 rfl ?_
  refine c_skip ?_
  repeat (first | refine k1 ?_ | refine k4 ?_)
  refine c_seq ?_
  refine c_sr ?_
  refine o_s (.t (.d (.seq 1 (List.map (cSl 1 cU8) p0)))) (g0 rfl) rfl rfl rfl ?_
  refine o_c (g0 rfl) rfl rfl rfl (lenE _ _) trivial ?_
  refine o_s (.t (.d (.lit (.int .i64 0)))) (g0 rfl) rfl rfl rfl ?_
  refine o_nil ?_
  repeat (first | refine k1 ?_ | refine k4 ?_)
  refine c_block ?_
  refine c_fuel (fun (z2 : Int) => [(0, .t (.d (.seq 1 (List.map (cSl 1 cU8) p0)))), (1, .t (.d (.seq 1 (List.map (cSl 1 cU8) p1)))), (12, .t (.d (.lit (.int .i64 (p0.length : Int))))), (13, .t (.d (.lit (.int .i64 z2))))]) (fun nl1 => (fun (z2 : Int) => m_L18_same_l1 p0 p1 nl1 z2 = some r)) (p0.length + 1) 0 h ⟨(.refl _), ⟨(.refl _), ⟨(.refl _), ⟨(.refl _), trivial⟩⟩⟩⟩ rfl ?_
  rintro nl1 z2 h
  cases nl1 with
  | zero => exact none_ne h
  | succ nl1 =>
   refine c_sr ?_
   refine o_s (.t (.d (.lit (.bool (decide (z2 < (p0.length : Int))))))) (g0 rfl) rfl rfl rfl ?_
   refine o_nil ?_
   repeat (first | refine k1 ?_ | refine k4 ?_)
   refine c_seq ?_
   rcases bif_some h with ⟨h3, h⟩ | ⟨h3, h⟩
   ·
    refine c_t h3 rfl ?_
    refine c_skip ?_
    repeat (first | refine k1 ?_ | refine k4 ?_)
    refine c_seq ?_
    refine c_block ?_
    refine c_sr ?_
    refine o_s (.t (.d (.lit (.int .i64 z2)))) (g0 rfl) rfl rfl rfl ?_
    refine o_s (.t (.d (.lit (.int .i64 z2)))) (g0 rfl) rfl rfl rfl ?_
    refine o_nil ?_
    repeat (first | refine k1 ?_ | refine k4 ?_)
    refine c_seq ?_
    refine c_draw mixed (by kernel_rfl) ?_
    refine d_s (.t (.d (.seq 1 (List.map (cSl 1 cU8) p0)))) rfl (dg0 rfl) rfl rfl rfl rfl ?_
    refine d_s (.t (.d (.lit (.int .i64 z2)))) rfl (dg0 rfl) rfl rfl rfl rfl ?_
    obtain ⟨x4, h5, h⟩ := bind_some h
    refine d_c rfl (dg0 rfl) rfl rfl rfl rfl (idxE h5) (idxC h5) ?_
    refine d_s (.t (.d (.seq 1 (bytesD x4)))) rfl (dg0 rfl) rfl rfl rfl rfl ?_
    refine d_s (.t (.d (.seq 1 (List.map (cSl 1 cU8) p1)))) rfl (dg0 rfl) rfl rfl rfl rfl ?_
    refine d_s (.t (.d (.lit (.int .i64 z2)))) rfl (dg0 rfl) rfl rfl rfl rfl ?_
    obtain ⟨x6, h7, h⟩ := bind_some h
    refine d_c rfl (dg0 rfl) rfl rfl rfl rfl (idxE h7) (idxC h7) ?_
    refine d_s (.t (.d (.seq 1 (bytesD x6)))) rfl (dg0 rfl) rfl rfl rfl rfl ?_
    obtain ⟨x8, h9, h⟩ := bind_some h
    refine d_ca (fc_R01_Same _ _ _ h9) rfl (dg0 rfl) rfl rfl rfl rfl rfl rfl rfl rfl (.cons (.refl _) (.cons (.refl _) .nil)) rfl rfl ?_
    refine d_s (.t (.d (.lit (.bool (!x8))))) rfl (dg0 rfl) rfl rfl rfl rfl ?_
    refine d_nil (by kernel_rfl) ?_
    repeat (first | refine k1 ?_ | refine k2 ?_ | refine k3 ?_ | refine k4 ?_ | refine k5 ?_ | refine k6 ?_ | refine k7 rfl ?_)
    rcases bif_some h with ⟨h10, h⟩ | ⟨h10, h⟩
    ·
     refine c_t h10 rfl ?_
     refine c_sr ?_
     refine o_s (.t (.d (.lit (.bool false)))) (g0 rfl) rfl rfl rfl ?_
     refine o_nil ?_
     repeat (first | refine k1 ?_ | refine k4 ?_)
     refine c_ret ?_
     repeat (first | refine k3 ?_ | refine k5 ?_)
     obtain rfl := Option.some.inj h
     exact end0 rfl (.refl _)
    ·
     refine c_f h10 rfl ?_
     refine c_skip ?_
     repeat (first | refine k1 ?_ | refine k4 ?_)
     refine c_region ?_
     refine o_s (.t (.d (.lit (.int .i64 (wi (z2 + 1)))))) (g0 rfl) rfl rfl rfl ?_
     refine o_s (.t (.d (.lit (.int .i64 (wi (z2 + 1)))))) (g0 rfl) rfl rfl rfl ?_
     refine o_nil ?_
     repeat (first | refine k1 ?_ | refine k4 ?_)
     exact ⟨nl1, (wi (z2 + 1)), Nat.lt_succ_self nl1, h, ⟨(.refl _), ⟨(.refl _), ⟨(.refl _), ⟨(.refl _), trivial⟩⟩⟩⟩, rfl⟩
   ·
    refine c_f h3 rfl ?_
    refine c_exit ?_
    repeat (first | refine k1 ?_ | refine k2 ?_ | refine k3 ?_ | refine k4 ?_ | refine k5 ?_ | refine k6 ?_ | refine k7 rfl ?_)
    refine c_sr ?_
    refine o_s (.t (.d (.lit (.bool true)))) (g0 rfl) rfl rfl rfl ?_
    refine o_nil ?_
    repeat (first | refine k1 ?_ | refine k4 ?_)
    refine c_ret ?_
    repeat (first | refine k3 ?_ | refine k5 ?_)
    obtain rfl := Option.some.inj h
    exact end0 rfl (.refl _)

theorem fch_L18_done (p0 : (List (List UInt8))) (p1 : (List S_api_Write)) (w0 : Hp) (r : (List (List UInt8))) (h : m_L18_done p0 p1 = some r) : FCH Try.prog 18 [.t (.d (.seq 1 (List.map (cSl 1 cU8) p0))), .t (.d (.seq 2 (List.map cS_api_Write p1)))] [] [] (hpA w0) (hpA w0) (.t (.d (.seq 1 (List.map (cSl 1 cU8) r)))) := by
 refine fch_mk (rs := [.tmp 4]) (n := 25) [0] Try.func18 rfl rfl (Nat.le_of_ble_eq_true rfl) rfl (pins := []) rfl (L := [(HK, .hp (hpA w0)), (OB + 0, .free), (0, .t (.d (.seq 1 (List.map (cSl 1 cU8) p0)))), (1, .t (.d (.seq 2 (List.map cS_api_Write p1))))]) rfl ?_
 refine c_sr ?_
 refine o_s (.t (.d (.lit (.slice none 0 0)))) (g0 rfl) rfl rfl rfl ?_
 refine o_nil ?_
 repeat (first | refine k1 ?_ | refine k4 ?_)
 refine c_sr ?_
 refine o_of (e := [(8, .t (.view 0 0 41 1 0))]) (g0 rfl) (h_b0v rfl rfl rfl rfl) rfl ?_
 refine o_s (.t (.d (.seq 1 (List.map (cSl 1 cU8) p0)))) (g0 rfl) rfl rfl rfl ?_
 rcases bif_some h with ⟨h1, h⟩ | ⟨h1, h⟩
 ·
  exact none_ne h
 ·
  obtain ⟨x2, h3, h⟩ := bind_some h
  refine o_of (e := [(8, .any), ((OB + 0), gbA (cSl 1 cU8) x2), (10, .t (.view 0 0 41 1 x2.length))]) (g0 rfl) (h_apgI (c := (cSl 1 cU8)) (Mk.refl _) [8] h3 rfl rfl rfl rfl (fun _ => rfl) rfl (isE_pos h1) rfl rfl rfl (NoM.get (by (repeat (first | exact NoM.nil | refine NoM.skip rfl ?_ | refine NoM.cons rfl ?_ | refine NoM.cons (ptT_ment _ _ _) ?_ | refine NoM.cons (ob_box (fl_noPt _ _) _) ?_ | refine NoM.cons (ob_gb _ _ _) ?_)))) (.inr ⟨_, rfl, pure_hpA _⟩) rfl) rfl ?_
  refine o_s (.t (.view 0 0 41 1 x2.length)) (g0 rfl) rfl rfl rfl ?_
  refine o_nil ?_
  repeat (first | refine k1 ?_ | refine k4 ?_)
  refine c_seq ?_
  refine c_sr ?_
  refine o_s (.t (.d (.seq 2 (List.map cS_api_Write p1)))) (g0 rfl) rfl rfl rfl ?_
  refine o_c (g0 rfl) rfl rfl rfl (lenE _ _) trivial ?_
  refine o_s (.t (.d (.lit (.int .i64 0)))) (g0 rfl) rfl rfl rfl ?_
  refine o_nil ?_
  repeat (first | refine k1 ?_ | refine k4 ?_)
  refine c_block ?_
  refine c_fuelH (fun (q : Int × (List (List UInt8))) => [(5, .t (.view 0 0 41 1 q.2.length)), (11, .t (.d (.seq 2 (List.map cS_api_Write p1)))), (12, .t (.d (.lit (.int .i64 (p1.length : Int))))), (13, .t (.d (.lit (.int .i64 q.1)))), ((OB + 0), gbA (cSl 1 cU8) q.2), (HK, .hp (hpA w0))]) (fun nl1 => (fun (q : Int × (List (List UInt8))) => m_L18_done_l1 p1 nl1 q.1 q.2 = some r)) (p1.length + 1) (0, x2) [] h rfl ⟨.inr ⟨_, rfl, pure_hpA _⟩, by (repeat (first | exact ObP.nil | refine ObP.cons (.inl rfl) ?_ | refine ObP.cons (.inr (fun _ => rfl)) ?_ | refine ObP.cons (.inr (ob_box (fl_noPt _ _))) ?_ | refine ObP.cons (.inr (ob_gb _ _)) ?_))⟩ ⟨(.refl _), ⟨(.refl _), ⟨(.refl _), ⟨(.refl _), ⟨(.refl _), ⟨(.refl _), trivial⟩⟩⟩⟩⟩⟩ (by ((refine nr_of ?_; repeat (first | exact nr_nil | refine nr_cons rfl ?_ | refine nr_cons (nr_gb _ _ _) ?_)))) ?_
  rintro nl1 ⟨z4, z5⟩ h
  cases nl1 with
  | zero => exact none_ne h
  | succ nl1 =>
   refine c_sr ?_
   refine o_s (.t (.d (.lit (.bool (decide (z4 < (p1.length : Int))))))) (g0 rfl) rfl rfl rfl ?_
   refine o_nil ?_
   repeat (first | refine k1 ?_ | refine k4 ?_)
   refine c_seq ?_
   rcases bif_some h with ⟨h6, h⟩ | ⟨h6, h⟩
   ·
    refine c_t h6 rfl ?_
    refine c_skip ?_
    repeat (first | refine k1 ?_ | refine k4 ?_)
    refine c_seq ?_
    refine c_block ?_
    refine c_sr ?_
    obtain ⟨x7, h8, h⟩ := bind_some h
    refine o_c (g0 rfl) rfl rfl rfl (idxE h8) (idxC h8) ?_
    refine o_s (.t (.agg [.lit (.int .i64 x7.Home), .seq 1 (bytesD x7.Data)])) (g0 rfl) rfl rfl rfl ?_
    refine o_s (.box [.d (.lit (.int .i64 0)), .d (.lit (.slice none 0 0))]) (g0 rfl) rfl rfl rfl ?_
    refine o_st (.box [.d (.lit (.int .i64 x7.Home)), .d (.seq 1 (bytesD x7.Data))]) (g0 rfl) rfl rfl rfl ?_
    refine o_nil ?_
    repeat (first | refine k1 ?_ | refine k4 ?_)
    refine c_region ?_
    refine o_s (.t (.view 0 0 41 1 z5.length)) (g0 rfl) rfl rfl rfl ?_
    refine o_s (.ref 7 0) (g0 rfl) rfl rfl rfl ?_
    refine o_s (.t (.d (.lit (.int .i64 x7.Home)))) (g0 rfl) rfl rfl rfl ?_
    refine o_s (.ref 7 1) (g0 rfl) rfl rfl rfl ?_
    refine o_s (.t (.d (.seq 1 (bytesD x7.Data)))) (g0 rfl) rfl rfl rfl ?_
    obtain ⟨x9, h10, h⟩ := bind_some h
    refine o_of (e := [(22, .ref (OB + 0) (0 + Int.toNat x7.Home * 1))]) (g0 rfl) (h_lix (Mk.refl _) rfl rfl rfl rfl rfl (idxV rfl h10) rfl rfl rfl) rfl ?_
    refine o_of (e := [((OB + 0), gbA (cSl 1 cU8) (z5.set (Int.toNat x7.Home) x7.Data))]) (g0 rfl) (OpH.ob (h_lst (Mk.refl _) rfl rfl rfl rfl (gb_box h10) rfl rfl (fl_room h10 (fun _ => rfl)) (fl_put h10 x7.Data (fun _ => rfl) rfl)) (gb_set h10)) rfl ?_
    refine o_nil ?_
    repeat (first | refine k1 ?_ | refine k4 ?_)
    refine c_region ?_
    refine o_s (.t (.d (.lit (.int .i64 (wi (z4 + 1)))))) (g0 rfl) rfl rfl rfl ?_
    refine o_s (.t (.d (.lit (.int .i64 (wi (z4 + 1)))))) (g0 rfl) rfl rfl rfl ?_
    refine o_nil ?_
    repeat (first | refine k1 ?_ | refine k4 ?_)
    exact ⟨nl1, ((wi (z4 + 1)), (z5.set (Int.toNat x7.Home) x7.Data)), [], Nat.lt_succ_self nl1, h, rfl, ⟨.inr ⟨_, rfl, pure_hpA _⟩, by (repeat (first | exact ObP.nil | refine ObP.cons (.inl rfl) ?_ | refine ObP.cons (.inr (fun _ => rfl)) ?_ | refine ObP.cons (.inr (ob_box (fl_noPt _ _))) ?_ | refine ObP.cons (.inr (ob_gb _ _)) ?_))⟩, ⟨(.vwn (by first | rfl | (simp; done) | (dsimp only; omega) | (simp; omega))), ⟨(.refl _), ⟨(.refl _), ⟨(.refl _), ⟨(.refl _), ⟨(.refl _), trivial⟩⟩⟩⟩⟩⟩, (by ((refine nr_of ?_; repeat (first | exact nr_nil | refine nr_cons rfl ?_ | refine nr_cons (nr_gb _ _ _) ?_))))⟩
   ·
    refine c_f h6 rfl ?_
    refine c_exit ?_
    repeat (first | refine k1 ?_ | refine k2 ?_ | refine k3 ?_ | refine k4 ?_ | refine k5 ?_ | refine k6 ?_ | refine k7 rfl ?_)
    refine c_sr ?_
    refine o_s (.t (.view 0 0 41 1 z5.length)) (g0 rfl) rfl rfl rfl ?_
    refine o_s (.t (.view 0 0 41 1 z5.length)) (g0 rfl) rfl rfl rfl ?_
    refine o_nil ?_
    repeat (first | refine k1 ?_ | refine k4 ?_)
    refine c_frzG (cc := (cSl 1 cU8)) (y := (z5 : List (List UInt8))) (k := 1) 4 0 rfl rfl (fun _ => rfl) rfl ⟨.inr ⟨_, rfl, pure_hpA _⟩, by (repeat (first | exact ObP.nil | refine ObP.cons (.inl rfl) ?_ | refine ObP.cons (.inr (fun _ => rfl)) ?_ | refine ObP.cons (.inr (ob_box (fl_noPt _ _))) ?_ | refine ObP.cons (.inr (ob_gb _ _)) ?_))⟩ rfl ?_
    refine c_ret ?_
    repeat (first | refine k3 ?_ | refine k5 ?_)
    obtain rfl := Option.some.inj h
    exact ⟨⟨_, rfl, (.refl _)⟩, trivial, rfl⟩

end Go.Proofs.Ytjomnccladjpgaa
