/-
  Walks of functions: each function does what its model tells. Printed by a program of this claim's own (gen.py) off the given translation.
-/
import Derived.Test.YtjomnccladjpgaaQ18
import Derived.Test.YtjomnccladjpgaaQ15
import Derived.Test.YtjomnccladjpgaaQ13
import Derived.Test.YtjomnccladjpgaaQ11
import Derived.Test.YtjomnccladjpgaaQ07
set_option linter.unusedVariables false
set_option linter.unusedSimpArgs false
namespace Go.Proofs.Ytjomnccladjpgaa
open Go Go.RowKit
set_option linter.unusedVariables false
set_option maxHeartbeats 4000000
set_option maxRecDepth 20000
theorem fc_R01_Same (p0 : (List UInt8)) (p1 : (List UInt8)) (r : Bool) (h : m_R01_Same p0 p1 = some r) : FC Try.prog 32 [.t (.d (.seq 1 (bytesD p0))), .t (.d (.seq 1 (bytesD p1)))] [] (.t (.d (.lit (.bool r)))) := by
 refine fc_mk (rs := [.tmp 4]) (n := 26) Try.func32 rfl rfl (Nat.le_of_ble_eq_true rfl) rfl (pins := []) rfl (L := [(0, .t (.d (.seq 1 (bytesD p0)))), (1, .t (.d (.seq 1 (bytesD p1))))]) rfl ?_
 refine c_sr ?_
 refine o_s (.t (.d (.lit (.bool false)))) (g0 rfl) rfl rfl rfl ?_
 refine o_nil ?_
 repeat (first | refine k1 ?_ | refine k4 ?_)
 refine c_seq ?_
 refine c_sr ?_
 refine o_s (.t (.d (.seq 1 (bytesD p0)))) (g0 rfl) rfl rfl rfl ?_
 refine o_c (g0 rfl) rfl rfl rfl (lenE _ _) trivial ?_
 refine o_s (.t (.d (.seq 1 (bytesD p1)))) (g0 rfl) rfl rfl rfl ?_
 refine o_c (g0 rfl) rfl rfl rfl (lenE _ _) trivial ?_
 refine o_s (.t (.d (.lit (.bool ((p0.length : Int) != (p1.length : Int)))))) (g0 rfl) rfl rfl rfl ?_
 refine o_nil ?_
 repeat (first | refine k1 ?_ | refine k4 ?_)
 rcases bif_some h with ⟨h1, h⟩ | ⟨h1, h⟩
 ·
  refine c_t h1 rfl ?_
  refine c_sr ?_
  refine o_s (.t (.d (.lit (.bool false)))) (g0 rfl) rfl rfl rfl ?_
  refine o_nil ?_
  repeat (first | refine k1 ?_ | refine k4 ?_)
  refine c_ret ?_
  repeat (first | refine k3 ?_ | refine k5 ?_)
  obtain rfl := Option.some.inj h
  exact end0 rfl (.refl _)
 ·
  refine c_f h1 rfl ?_
  refine c_skip ?_
  repeat (first | refine k1 ?_ | refine k4 ?_)
  refine c_seq ?_
  refine c_sr ?_
  refine o_s (.t (.d (.lit (.int .i64 0)))) (g0 rfl) rfl rfl rfl ?_
  refine o_nil ?_
  repeat (first | refine k1 ?_ | refine k4 ?_)
  refine c_block ?_
  refine c_fuel (fun (z2 : Int) => [(0, .t (.d (.seq 1 (bytesD p0)))), (1, .t (.d (.seq 1 (bytesD p1)))), (5, .t (.d (.lit (.int .i64 z2))))]) (fun nl1 => (fun (z2 : Int) => m_R01_Same_l1 p0 p1 nl1 z2 = some r)) (p0.length + 1) 0 h ⟨(.refl _), ⟨(.refl _), ⟨(.refl _), trivial⟩⟩⟩ rfl ?_
  rintro nl1 z2 h
  cases nl1 with
  | zero => exact none_ne h
  | succ nl1 =>
   refine c_seq ?_
   refine c_sr ?_
   refine o_s (.t (.d (.lit (.int .i64 z2)))) (g0 rfl) rfl rfl rfl ?_
   refine o_s (.t (.d (.seq 1 (bytesD p0)))) (g0 rfl) rfl rfl rfl ?_
   refine o_c (g0 rfl) rfl rfl rfl (lenE _ _) trivial ?_
   refine o_s (.t (.d (.lit (.bool (decide (z2 < (p0.length : Int))))))) (g0 rfl) rfl rfl rfl ?_
   refine o_nil ?_
   repeat (first | refine k1 ?_ | refine k4 ?_)
   rcases bif_some h with ⟨h3, h⟩ | ⟨h3, h⟩
   ·
    refine c_t h3 rfl ?_
    refine c_skip ?_
    repeat (first | refine k1 ?_ | refine k4 ?_)
    refine c_seq ?_
    refine c_block ?_
    refine c_seq ?_
    refine c_draw mixed (by kernel_rfl) ?_
    refine d_s (.t (.d (.seq 1 (bytesD p0)))) rfl (dg0 rfl) rfl rfl rfl rfl ?_
    refine d_s (.t (.d (.lit (.int .i64 z2)))) rfl (dg0 rfl) rfl rfl rfl rfl ?_
    obtain ⟨x4, h5, h⟩ := bind_some h
    refine d_c rfl (dg0 rfl) rfl rfl rfl rfl (idxE h5) (idxC h5) ?_
    refine d_s (.t (.d (.lit (.int .u8 (x4.toNat : Int))))) rfl (dg0 rfl) rfl rfl rfl rfl ?_
    refine d_s (.t (.d (.seq 1 (bytesD p1)))) rfl (dg0 rfl) rfl rfl rfl rfl ?_
    refine d_s (.t (.d (.lit (.int .i64 z2)))) rfl (dg0 rfl) rfl rfl rfl rfl ?_
    obtain ⟨x6, h7, h⟩ := bind_some h
    refine d_c rfl (dg0 rfl) rfl rfl rfl rfl (idxE h7) (idxC h7) ?_
    refine d_s (.t (.d (.lit (.int .u8 (x6.toNat : Int))))) rfl (dg0 rfl) rfl rfl rfl rfl ?_
    refine d_s (.t (.d (.lit (.bool ((x4.toNat : Int) != (x6.toNat : Int)))))) rfl (dg0 rfl) rfl rfl rfl rfl ?_
    refine d_nil (by kernel_rfl) ?_
    repeat (first | refine k1 ?_ | refine k2 ?_ | refine k3 ?_ | refine k4 ?_ | refine k5 ?_ | refine k6 ?_ | refine k7 rfl ?_)
    rcases bif_some h with ⟨h8, h⟩ | ⟨h8, h⟩
    ·
     refine c_t h8 rfl ?_
     refine c_sr ?_
     refine o_s (.t (.d (.lit (.bool false)))) (g0 rfl) rfl rfl rfl ?_
     refine o_nil ?_
     repeat (first | refine k1 ?_ | refine k4 ?_)
     refine c_ret ?_
     repeat (first | refine k3 ?_ | refine k5 ?_)
     obtain rfl := Option.some.inj h
     exact end0 rfl (.refl _)
    ·
     refine c_f h8 rfl ?_
     refine c_skip ?_
     repeat (first | refine k1 ?_ | refine k4 ?_)
     refine c_region ?_
     refine o_s (.t (.d (.lit (.int .i64 z2)))) (g0 rfl) rfl rfl rfl ?_
     refine o_s (.t (.d (.lit (.int .i64 (wi (z2 + 1)))))) (g0 rfl) rfl rfl rfl ?_
     refine o_s (.t (.d (.lit (.int .i64 (wi (z2 + 1)))))) (g0 rfl) rfl rfl rfl ?_
     refine o_nil ?_
     repeat (first | refine k1 ?_ | refine k4 ?_)
     exact ⟨nl1, (wi (z2 + 1)), Nat.lt_succ_self nl1, h, ⟨(.refl _), ⟨(.refl _), ⟨(.refl _), trivial⟩⟩⟩, rfl⟩
   ·
    refine c_f h3 rfl ?_
    refine c_exit ?_
    repeat (first | refine k1 ?_ | refine k2 ?_ | refine k3 ?_ | refine k4 ?_ | refine k5 ?_ | refine k6 ?_ | refine k7 rfl ?_)
    refine c_sr ?_
    refine o_s (.t (.d (.lit (.bool true)))) (g0 rfl) rfl rfl rfl ?_
    refine o_nil ?_
    repeat (first | refine k1 ?_ | refine k4 ?_)
    refine c_ret ?_
    repeat (first | refine k3 ?_ | refine k5 ?_)
    obtain rfl := Option.some.inj h
    exact end0 rfl (.refl _)

theorem fch_L18_fill (p0 : UInt8) (w0 : Hp) (r : (List UInt8)) (h : m_L18_fill p0 = some r) : FCH Try.prog 56 [.t (.d (.lit (.int .u8 (p0.toNat : Int))))] [] [] (hpA w0) (hpA w0) (.t (.d (.seq 1 (bytesD r)))) := by
 refine fch_mk (rs := [.tmp 2]) (n := 17) [0] Try.func56 rfl rfl (Nat.le_of_ble_eq_true rfl) rfl (pins := []) rfl (L := [(HK, .hp (hpA w0)), (OB + 0, .free), (0, .t (.d (.lit (.int .u8 (p0.toNat : Int)))))]) rfl ?_
 refine c_sr ?_
 refine o_s (.t (.d (.lit (.slice none 0 0)))) (g0 rfl) rfl rfl rfl ?_
 refine o_nil ?_
 repeat (first | refine k1 ?_ | refine k4 ?_)
 refine c_sr ?_
 obtain ⟨x1, h2, h⟩ := bind_some h
 refine o_of (e := [((OB + 0), .box (fl (dT cU8) (List.replicate x1 (0 : UInt8)))), (5, .t (.view 0 0 5 1 x1))]) (g0 rfl) (h_mkl (Mk.refl _) rfl rfl rfl rfl rfl rfl rfl (by kernel_rfl) rfl h2 (fl_rep (c := cU8) (z := (0 : UInt8)) (by kernel_rfl) x1) rfl rfl rfl rfl) rfl ?_
 refine o_s (.t (.view 0 0 5 1 x1)) (g0 rfl) rfl rfl rfl ?_
 refine o_nil ?_
 repeat (first | refine k1 ?_ | refine k4 ?_)
 refine c_seq ?_
 refine c_sr ?_
 refine o_s (.t (.view 0 0 5 1 x1)) (g0 rfl) rfl rfl rfl ?_
 refine o_of (e := [(7, .t (.d (.lit (.int .i64 ((x1 : Nat) : Int)))))]) (g0 rfl) (h_lln (Mk.refl _) rfl rfl rfl rfl rfl rfl) rfl ?_
 refine o_s (.t (.d (.lit (.int .i64 0)))) (g0 rfl) rfl rfl rfl ?_
 refine o_nil ?_
 repeat (first | refine k1 ?_ | refine k4 ?_)
 refine c_block ?_
 refine c_fuelH (fun (q : Int × (List UInt8)) => [(0, .t (.d (.lit (.int .u8 (p0.toNat : Int))))), (3, .t (.view 0 0 5 1 q.2.length)), (7, .t (.d (.lit (.int .i64 ((x1 : Nat) : Int))))), (8, .t (.d (.lit (.int .i64 q.1)))), ((OB + 0), .box (fl (dT cU8) q.2)), (HK, .hp (hpA w0))]) (fun nl1 => (fun (q : Int × (List UInt8)) => m_L18_fill_l1 x1 p0 nl1 q.1 q.2 = some r)) (Int.toNat ((x1 : Nat) : Int) + 1) (0, (List.replicate x1 (0 : UInt8))) [] h rfl ⟨.inr ⟨_, rfl, pure_hpA _⟩, by (repeat (first | exact ObP.nil | refine ObP.cons (.inl rfl) ?_ | refine ObP.cons (.inr (fun _ => rfl)) ?_ | refine ObP.cons (.inr (ob_box (fl_noPt _ _))) ?_ | refine ObP.cons (.inr (ob_gb _ _)) ?_))⟩ ⟨(.refl _), ⟨(.vwn (by first | rfl | (simp; done) | (dsimp only; omega) | (simp; omega))), ⟨(.refl _), ⟨(.refl _), ⟨(.refl _), ⟨(.refl _), trivial⟩⟩⟩⟩⟩⟩ rfl ?_
 rintro nl1 ⟨z3, z4⟩ h
 cases nl1 with
 | zero => exact none_ne h
 | succ nl1 =>
  refine c_sr ?_
  refine o_s (.t (.d (.lit (.bool (decide (z3 < ((x1 : Nat) : Int))))))) (g0 rfl) rfl rfl rfl ?_
  refine o_nil ?_
  repeat (first | refine k1 ?_ | refine k4 ?_)
  refine c_seq ?_
  rcases bif_some h with ⟨h5, h⟩ | ⟨h5, h⟩
  ·
   refine c_t h5 rfl ?_
   refine c_skip ?_
   repeat (first | refine k1 ?_ | refine k4 ?_)
   refine c_seq ?_
   refine c_block ?_
   refine c_sr ?_
   refine o_s (.t (.d (.lit (.int .i64 z3)))) (g0 rfl) rfl rfl rfl ?_
   refine o_s (.t (.d (.lit (.int .i64 z3)))) (g0 rfl) rfl rfl rfl ?_
   refine o_nil ?_
   repeat (first | refine k1 ?_ | refine k4 ?_)
   refine c_region ?_
   refine o_s (.t (.view 0 0 5 1 z4.length)) (g0 rfl) rfl rfl rfl ?_
   refine o_s (.t (.d (.lit (.int .i64 z3)))) (g0 rfl) rfl rfl rfl ?_
   refine o_s (.t (.d (.lit (.int .u8 (p0.toNat : Int))))) (g0 rfl) rfl rfl rfl ?_
   obtain ⟨x6, h7, h⟩ := bind_some h
   refine o_of (e := [(14, .ref (OB + 0) (0 + Int.toNat z3 * 1))]) (g0 rfl) (h_lix (Mk.refl _) rfl rfl rfl rfl rfl (idxV rfl h7) rfl rfl rfl) rfl ?_
   refine o_of (e := [((OB + 0), .box (fl (dT cU8) (z4.set (Int.toNat z3) p0)))]) (g0 rfl) (h_lst (Mk.refl _) rfl rfl rfl rfl rfl rfl rfl (fl_room h7 (fun _ => rfl)) (fl_put h7 p0 (fun _ => rfl) rfl)) rfl ?_
   refine o_nil ?_
   repeat (first | refine k1 ?_ | refine k4 ?_)
   refine c_region ?_
   refine o_s (.t (.d (.lit (.int .i64 (wi (z3 + 1)))))) (g0 rfl) rfl rfl rfl ?_
   refine o_s (.t (.d (.lit (.int .i64 (wi (z3 + 1)))))) (g0 rfl) rfl rfl rfl ?_
   refine o_nil ?_
   repeat (first | refine k1 ?_ | refine k4 ?_)
   exact ⟨nl1, ((wi (z3 + 1)), (z4.set (Int.toNat z3) p0)), [], Nat.lt_succ_self nl1, h, rfl, ⟨.inr ⟨_, rfl, pure_hpA _⟩, by (repeat (first | exact ObP.nil | refine ObP.cons (.inl rfl) ?_ | refine ObP.cons (.inr (fun _ => rfl)) ?_ | refine ObP.cons (.inr (ob_box (fl_noPt _ _))) ?_ | refine ObP.cons (.inr (ob_gb _ _)) ?_))⟩, ⟨(.refl _), ⟨(.vwn (by first | rfl | (simp; done) | (dsimp only; omega) | (simp; omega))), ⟨(.refl _), ⟨(.refl _), ⟨(.refl _), ⟨(.refl _), trivial⟩⟩⟩⟩⟩⟩, rfl⟩
  ·
   refine c_f h5 rfl ?_
   refine c_exit ?_
   repeat (first | refine k1 ?_ | refine k2 ?_ | refine k3 ?_ | refine k4 ?_ | refine k5 ?_ | refine k6 ?_ | refine k7 rfl ?_)
   refine c_sr ?_
   refine o_s (.t (.view 0 0 5 1 z4.length)) (g0 rfl) rfl rfl rfl ?_
   refine o_s (.t (.view 0 0 5 1 z4.length)) (g0 rfl) rfl rfl rfl ?_
   refine o_nil ?_
   repeat (first | refine k1 ?_ | refine k4 ?_)
   refine c_frz 2 0 rfl rfl (by first | (simp; done) | (rw [List.length_map]; omega)) (fl_flat _ _) (map_row (c := cU8) (fun _ => rfl) _) rfl ⟨.inr ⟨_, rfl, pure_hpA _⟩, by (repeat (first | exact ObP.nil | refine ObP.cons (.inl rfl) ?_ | refine ObP.cons (.inr (fun _ => rfl)) ?_ | refine ObP.cons (.inr (ob_box (fl_noPt _ _))) ?_ | refine ObP.cons (.inr (ob_gb _ _)) ?_))⟩ rfl ?_
   refine c_ret ?_
   repeat (first | refine k3 ?_ | refine k5 ?_)
   obtain rfl := Option.some.inj h
   exact ⟨⟨_, rfl, (.refl _)⟩, trivial, rfl⟩

theorem fch_L18_awake (w0 : Hp) (r : (Bool × Hp)) (h : m_L18_awake w0 = some r) : FCH Try.prog 10 [] [] [] (hpA w0) (hpA r.2) (.t (.d (.lit (.bool r.1)))) := by
 refine fch_mk (rs := [.tmp 0]) (n := 58) [] Try.func10 rfl rfl (Nat.le_of_ble_eq_true rfl) rfl (pins := []) rfl (L := [(HK, .hp (hpA w0))]) rfl ?_
 refine c_sr ?_
 refine o_s (.t (.d (.lit (.bool false)))) (g0 rfl) rfl rfl rfl ?_
 refine o_nil ?_
 repeat (first | refine k1 ?_ | refine k4 ?_)
 refine c_sr ?_
 obtain ⟨x1, h2, h⟩ := bind_some h
 refine o_of (e := [(HK, .hp (hpA x1.2.2)), (6, .tup [(ptT 1 x1.1), .d (.lit (.int .i64 x1.2.1))])]) (g0 rfl) (h_call (Mk.refl _) rfl (σ := []) (fr := []) rfl rfl rfl rfl rfl rfl rfl (fch_disk_New _ w0 _ h2) (pure_hpA _) (pure_hpA _) rfl rfl rfl rfl (.cons (.plain (.refl _) rfl) .nil) rfl (.tup (.cons (ptT_pt _ _) (.cons (.flat rfl) .nil)))) rfl ?_
 refine o_c (g0 rfl) rfl rfl rfl (congrArg A.tup (cp_cons (ptT_cp _ _) (cp_cons rfl cp_nil))) trivial ?_
 refine o_c (g0 rfl) rfl rfl rfl (congrArg A.t (ptT_cp _ _)) trivial ?_
 refine o_s (.t (.d (.lit (.int .i64 x1.2.1)))) (g0 rfl) rfl rfl rfl ?_
 refine o_of (e := [(1, .t ((ptT 1 x1.1)))]) (g0 rfl) (h_mv (Mk.refl _) (.inr rfl) (cpO_pt rfl) rfl rfl) rfl ?_
 refine o_s (.t (.d (.lit (.int .i64 x1.2.1)))) (g0 rfl) rfl rfl rfl ?_
 refine o_nil ?_
 repeat (first | refine k1 ?_ | refine k4 ?_)
 refine c_seq ?_
 refine c_sr ?_
 refine o_s (.t (.d (.lit (.int .i64 x1.2.1)))) (g0 rfl) rfl rfl rfl ?_
 refine o_s (.t (.d (.lit (.bool (x1.2.1 != 0))))) (g0 rfl) rfl rfl rfl ?_
 refine o_s (.t (.d (.lit (.bool (x1.2.1 != 0))))) (g0 rfl) rfl rfl rfl ?_
 rcases bif_some h with ⟨h3, h⟩ | ⟨h3, h⟩
 ·
  refine o_skip rfl rfl rfl h3 rfl rfl ?_
  refine o_skip rfl rfl rfl h3 rfl rfl ?_
  refine o_skip rfl rfl rfl h3 rfl rfl ?_
  refine o_pk (.t (.d (.lit (.bool true)))) (b := true) h3 (g0 rfl) rfl rfl rfl rfl rfl ?_
  refine o_nil ?_
  repeat (first | refine k1 ?_ | refine k4 ?_)
  refine c_t rfl rfl ?_
  refine c_sr ?_
  refine o_s (.t (.d (.lit (.bool false)))) (g0 rfl) rfl rfl rfl ?_
  refine o_nil ?_
  repeat (first | refine k1 ?_ | refine k4 ?_)
  refine c_ret ?_
  repeat (first | refine k3 ?_ | refine k5 ?_)
  obtain rfl := Option.some.inj h
  exact ⟨⟨_, rfl, (.refl _)⟩, trivial, rfl⟩
 ·
  refine o_of (e := [(12, .t ((ptT 1 x1.1)))]) (gy rfl rfl rfl h3) (h_mv (Mk.refl _) (.inl rfl) (cpO_pt rfl) rfl rfl) rfl ?_
  obtain ⟨x4, h5, h⟩ := bind_some h
  refine o_of (e := [(HK, .hp (hpA x4.2)), (13, .t (.d (.lit (.int .i64 x4.1))))]) (gy rfl rfl rfl h3) (h_call (Mk.refl _) rfl (σ := []) (fr := []) rfl rfl rfl rfl rfl rfl rfl (fch_wal_Format _ _ x1.2.2 _ h5) (pure_hpA _) (pure_hpA _) rfl rfl rfl rfl (.cons (argPt rfl) (.cons (.plain (.refl _) rfl) .nil)) rfl (.t (.flat rfl))) rfl ?_
  refine o_s (.t (.d (.lit (.bool (x4.1 != 0))))) (gy rfl rfl rfl h3) rfl rfl rfl ?_
  refine o_pk (.t (.d (.lit (.bool (x4.1 != 0))))) (b := false) h3 (g0 rfl) rfl rfl rfl rfl rfl ?_
  refine o_nil ?_
  repeat (first | refine k1 ?_ | refine k4 ?_)
  rcases bif_some h with ⟨h6, h⟩ | ⟨h6, h⟩
  ·
   refine c_t h6 rfl ?_
   refine c_sr ?_
   refine o_s (.t (.d (.lit (.bool false)))) (g0 rfl) rfl rfl rfl ?_
   refine o_nil ?_
   repeat (first | refine k1 ?_ | refine k4 ?_)
   refine c_ret ?_
   repeat (first | refine k3 ?_ | refine k5 ?_)
   obtain rfl := Option.some.inj h
   exact ⟨⟨_, rfl, (.refl _)⟩, trivial, rfl⟩
  ·
   refine c_f h6 rfl ?_
   refine c_skip ?_
   repeat (first | refine k1 ?_ | refine k4 ?_)
   refine c_sr ?_
   refine o_of (e := [(17, .t ((ptT 1 x1.1)))]) (g0 rfl) (h_mv (Mk.refl _) (.inl rfl) (cpO_pt rfl) rfl rfl) rfl ?_
   obtain ⟨x7, h8, h⟩ := bind_some h
   refine o_of (e := [(HK, .hp (hpA x7.2.2)), (18, .tup [(ptT 3 x7.1), .d (.lit (.int .i64 x7.2.1))])]) (g0 rfl) (h_call (Mk.refl _) rfl (σ := []) (fr := []) rfl rfl rfl rfl rfl rfl rfl (fch_wal_Open _ x4.2 _ h8) (pure_hpA _) (pure_hpA _) rfl rfl rfl rfl (.cons (argPt rfl) .nil) rfl (.tup (.cons (ptT_pt _ _) (.cons (.flat rfl) .nil)))) rfl ?_
   refine o_c (g0 rfl) rfl rfl rfl (congrArg A.tup (cp_cons (ptT_cp _ _) (cp_cons rfl cp_nil))) trivial ?_
   refine o_c (g0 rfl) rfl rfl rfl (congrArg A.t (ptT_cp _ _)) trivial ?_
   refine o_s (.t (.d (.lit (.int .i64 x7.2.1)))) (g0 rfl) rfl rfl rfl ?_
   refine o_of (e := [(3, .t ((ptT 3 x7.1)))]) (g0 rfl) (h_mv (Mk.refl _) (.inr rfl) (cpO_pt rfl) rfl rfl) rfl ?_
   refine o_s (.t (.d (.lit (.int .i64 x7.2.1)))) (g0 rfl) rfl rfl rfl ?_
   refine o_nil ?_
   repeat (first | refine k1 ?_ | refine k4 ?_)
   refine c_seq ?_
   refine c_sr ?_
   refine o_s (.t (.d (.lit (.int .i64 x7.2.1)))) (g0 rfl) rfl rfl rfl ?_
   refine o_s (.t (.d (.lit (.bool (x7.2.1 != 0))))) (g0 rfl) rfl rfl rfl ?_
   refine o_s (.t (.d (.lit (.bool (x7.2.1 != 0))))) (g0 rfl) rfl rfl rfl ?_
   rcases bif_some h with ⟨h9, h⟩ | ⟨h9, h⟩
   ·
    refine o_skip rfl rfl rfl h9 rfl rfl ?_
    refine o_skip rfl rfl rfl h9 rfl rfl ?_
    refine o_skip rfl rfl rfl h9 rfl rfl ?_
    refine o_pk (.t (.d (.lit (.bool true)))) (b := true) h9 (g0 rfl) rfl rfl rfl rfl rfl ?_
    refine o_s (.t (.d (.lit (.bool true)))) (g0 rfl) rfl rfl rfl ?_
    refine o_skip rfl rfl rfl rfl rfl rfl ?_
    refine o_skip rfl rfl rfl rfl rfl rfl ?_
    refine o_skip rfl rfl rfl rfl rfl rfl ?_
    refine o_pk (.t (.d (.lit (.bool true)))) (b := true) rfl (g0 rfl) rfl rfl rfl rfl rfl ?_
    refine o_s (.t (.d (.lit (.bool true)))) (g0 rfl) rfl rfl rfl ?_
    refine o_skip rfl rfl rfl rfl rfl rfl ?_
    refine o_skip rfl rfl rfl rfl rfl rfl ?_
    refine o_skip rfl rfl rfl rfl rfl rfl ?_
    refine o_skip rfl rfl rfl rfl rfl rfl ?_
    refine o_skip rfl rfl rfl rfl rfl rfl ?_
    refine o_skip rfl rfl rfl rfl rfl rfl ?_
    refine o_pk (.t (.d (.lit (.bool true)))) (b := true) rfl (g0 rfl) rfl rfl rfl rfl rfl ?_
    refine o_nil ?_
    repeat (first | refine k1 ?_ | refine k4 ?_)
    refine c_t rfl rfl ?_
    refine c_sr ?_
    refine o_s (.t (.d (.lit (.bool false)))) (g0 rfl) rfl rfl rfl ?_
    refine o_nil ?_
    repeat (first | refine k1 ?_ | refine k4 ?_)
    refine c_ret ?_
    repeat (first | refine k3 ?_ | refine k5 ?_)
    obtain rfl := Option.some.inj h
    exact ⟨⟨_, rfl, (.refl _)⟩, trivial, rfl⟩
   ·
    refine o_of (e := [(24, .t ((ptT 3 x7.1)))]) (gy rfl rfl rfl h9) (h_mv (Mk.refl _) (.inl rfl) (cpO_pt rfl) rfl rfl) rfl ?_
    obtain ⟨x10, h11, h⟩ := bind_some h
    refine o_of (e := [(25, .t (.d (.lit (.int .i64 x10))))]) (gy rfl rfl rfl h9) (h_callR (Mk.refl _) rfl (σ := []) (fr := []) rfl rfl rfl rfl rfl rfl rfl (fch_wal_Log_Homes _ x7.2.2 _ h11) (pure_hpA _) rfl rfl rfl rfl (.cons (argPt rfl) .nil) rfl (.t (.flat rfl))) rfl ?_
    refine o_s (.t (.d (.lit (.bool (x10 != 1))))) (gy rfl rfl rfl h9) rfl rfl rfl ?_
    refine o_pk (.t (.d (.lit (.bool (x10 != 1))))) (b := false) h9 (g0 rfl) rfl rfl rfl rfl rfl ?_
    refine o_s (.t (.d (.lit (.bool (x10 != 1))))) (g0 rfl) rfl rfl rfl ?_
    rcases bif_some h with ⟨h12, h⟩ | ⟨h12, h⟩
    ·
     refine o_skip rfl rfl rfl h12 rfl rfl ?_
     refine o_skip rfl rfl rfl h12 rfl rfl ?_
     refine o_skip rfl rfl rfl h12 rfl rfl ?_
     refine o_pk (.t (.d (.lit (.bool true)))) (b := true) h12 (g0 rfl) rfl rfl rfl rfl rfl ?_
     refine o_s (.t (.d (.lit (.bool true)))) (g0 rfl) rfl rfl rfl ?_
     refine o_skip rfl rfl rfl rfl rfl rfl ?_
     refine o_skip rfl rfl rfl rfl rfl rfl ?_
     refine o_skip rfl rfl rfl rfl rfl rfl ?_
     refine o_skip rfl rfl rfl rfl rfl rfl ?_
     refine o_skip rfl rfl rfl rfl rfl rfl ?_
     refine o_skip rfl rfl rfl rfl rfl rfl ?_
     refine o_pk (.t (.d (.lit (.bool true)))) (b := true) rfl (g0 rfl) rfl rfl rfl rfl rfl ?_
     refine o_nil ?_
     repeat (first | refine k1 ?_ | refine k4 ?_)
     refine c_t rfl rfl ?_
     refine c_sr ?_
     refine o_s (.t (.d (.lit (.bool false)))) (g0 rfl) rfl rfl rfl ?_
     refine o_nil ?_
     repeat (first | refine k1 ?_ | refine k4 ?_)
     refine c_ret ?_
     repeat (first | refine k3 ?_ | refine k5 ?_)
     obtain rfl := Option.some.inj h
     exact ⟨⟨_, rfl, (.refl _)⟩, trivial, rfl⟩
    ·
     refine o_of (e := [(29, .t ((ptT 3 x7.1)))]) (gy rfl rfl rfl h12) (h_mv (Mk.refl _) (.inl rfl) (cpO_pt rfl) rfl rfl) rfl ?_
     obtain ⟨x13, h14, h⟩ := bind_some h
     refine o_of (e := [(30, .t (.d (.lit (.int .i64 x13))))]) (gy rfl rfl rfl h12) (h_callR (Mk.refl _) rfl (σ := []) (fr := []) rfl rfl rfl rfl rfl rfl rfl (fch_wal_Log_Base _ x7.2.2 _ h14) (pure_hpA _) rfl rfl rfl rfl (.cons (argPt rfl) .nil) rfl (.t (.flat rfl))) rfl ?_
     refine o_s (.t (.d (.lit (.bool (x13 != 4))))) (gy rfl rfl rfl h12) rfl rfl rfl ?_
     refine o_pk (.t (.d (.lit (.bool (x13 != 4))))) (b := false) h12 (g0 rfl) rfl rfl rfl rfl rfl ?_
     refine o_s (.t (.d (.lit (.bool (x13 != 4))))) (g0 rfl) rfl rfl rfl ?_
     rcases bif_some h with ⟨h15, h⟩ | ⟨h15, h⟩
     ·
      refine o_skip rfl rfl rfl h15 rfl rfl ?_
      refine o_skip rfl rfl rfl h15 rfl rfl ?_
      refine o_skip rfl rfl rfl h15 rfl rfl ?_
      refine o_skip rfl rfl rfl h15 rfl rfl ?_
      refine o_skip rfl rfl rfl h15 rfl rfl ?_
      refine o_skip rfl rfl rfl h15 rfl rfl ?_
      refine o_pk (.t (.d (.lit (.bool true)))) (b := true) h15 (g0 rfl) rfl rfl rfl rfl rfl ?_
      refine o_nil ?_
      repeat (first | refine k1 ?_ | refine k4 ?_)
      refine c_t rfl rfl ?_
      refine c_sr ?_
      refine o_s (.t (.d (.lit (.bool false)))) (g0 rfl) rfl rfl rfl ?_
      refine o_nil ?_
      repeat (first | refine k1 ?_ | refine k4 ?_)
      refine c_ret ?_
      repeat (first | refine k3 ?_ | refine k5 ?_)
      obtain rfl := Option.some.inj h
      exact ⟨⟨_, rfl, (.refl _)⟩, trivial, rfl⟩
     ·
      refine o_of (e := [(34, .t ((ptT 3 x7.1)))]) (gy rfl rfl rfl h15) (h_mv (Mk.refl _) (.inl rfl) (cpO_pt rfl) rfl rfl) rfl ?_
      obtain ⟨x16, h17, h⟩ := bind_some h
      refine o_of (e := [(35, .t (.d (.seq 1 (bytesD x16))))]) (gy rfl rfl rfl h15) (h_callR (Mk.refl _) rfl (σ := []) (fr := []) rfl rfl rfl rfl rfl rfl rfl (fch_L18_fill _ x7.2.2 _ h17) (pure_hpA _) rfl rfl rfl rfl (.cons (.plain (.refl _) rfl) .nil) rfl (.t (.flat rfl))) rfl ?_
      refine o_s (.t (.agg [.lit (.int .i64 0), .seq 1 (bytesD x16)])) (gy rfl rfl rfl h15) rfl rfl rfl ?_
      refine o_s (.t (.own 100 2 (List.map cS_api_Write [(S_api_Write.mk 0 x16)]))) (gy rfl rfl rfl h15) rfl rfl rfl ?_
      obtain ⟨x18, h19, h⟩ := bind_some h
      refine o_of (e := [(HK, .hp (hpA x18.2)), (38, .t (.d (.lit (.int .i64 x18.1))))]) (gy rfl rfl rfl h15) (h_call (Mk.refl _) rfl (σ := []) (fr := []) rfl rfl rfl rfl rfl rfl rfl (fch_wal_Log_Commit _ _ x7.2.2 _ h19) (pure_hpA _) (pure_hpA _) rfl rfl rfl rfl (.cons (argPt rfl) (.cons (.plain (.refl _) rfl) .nil)) rfl (.t (.flat rfl))) rfl ?_
      refine o_s (.t (.d (.lit (.bool (x18.1 != 0))))) (gy rfl rfl rfl h15) rfl rfl rfl ?_
      refine o_pk (.t (.d (.lit (.bool (x18.1 != 0))))) (b := false) h15 (g0 rfl) rfl rfl rfl rfl rfl ?_
      refine o_nil ?_
      repeat (first | refine k1 ?_ | refine k4 ?_)
      rcases bif_some h with ⟨h20, h⟩ | ⟨h20, h⟩
      ·
       refine c_t h20 rfl ?_
       refine c_sr ?_
       refine o_s (.t (.d (.lit (.bool false)))) (g0 rfl) rfl rfl rfl ?_
       refine o_nil ?_
       repeat (first | refine k1 ?_ | refine k4 ?_)
       refine c_ret ?_
       repeat (first | refine k3 ?_ | refine k5 ?_)
       obtain rfl := Option.some.inj h
       exact ⟨⟨_, rfl, (.refl _)⟩, trivial, rfl⟩
      ·
       refine c_f h20 rfl ?_
       refine c_skip ?_
       repeat (first | refine k1 ?_ | refine k4 ?_)
       refine c_sr ?_
       refine o_of (e := [(42, .t ((ptT 3 x7.1)))]) (g0 rfl) (h_mv (Mk.refl _) (.inl rfl) (cpO_pt rfl) rfl rfl) rfl ?_
       obtain ⟨x21, h22, h⟩ := bind_some h
       refine o_of (e := [(43, .tup [.d (.seq 1 (bytesD x21.1)), .d (.lit (.int .i64 x21.2))])]) (g0 rfl) (h_callR (Mk.refl _) rfl (σ := []) (fr := []) rfl rfl rfl rfl rfl rfl rfl (fch_wal_Log_Read _ _ x18.2 _ h22) (pure_hpA _) rfl rfl rfl rfl (.cons (argPt rfl) (.cons (.plain (.refl _) rfl) .nil)) rfl (.tup (.cons (.flat rfl) (.cons (.flat rfl) .nil)))) rfl ?_
       refine o_s (.tup [.d (.seq 1 (bytesD x21.1)), .d (.lit (.int .i64 x21.2))]) (g0 rfl) rfl rfl rfl ?_
       refine o_s (.t (.d (.seq 1 (bytesD x21.1)))) (g0 rfl) rfl rfl rfl ?_
       refine o_s (.t (.d (.lit (.int .i64 x21.2)))) (g0 rfl) rfl rfl rfl ?_
       refine o_s (.t (.d (.seq 1 (bytesD x21.1)))) (g0 rfl) rfl rfl rfl ?_
       refine o_s (.t (.d (.lit (.int .i64 x21.2)))) (g0 rfl) rfl rfl rfl ?_
       refine o_nil ?_
       repeat (first | refine k1 ?_ | refine k4 ?_)
       refine c_sr ?_
       refine o_s (.t (.d (.lit (.int .i64 x21.2)))) (g0 rfl) rfl rfl rfl ?_
       refine o_s (.t (.d (.lit (.bool (x21.2 == 0))))) (g0 rfl) rfl rfl rfl ?_
       refine o_s (.t (.d (.lit (.bool (x21.2 == 0))))) (g0 rfl) rfl rfl rfl ?_
       rcases bif_some h with ⟨h23, h⟩ | ⟨h23, h⟩
       ·
        refine o_s (.t (.d (.seq 1 (bytesD x21.1)))) (gy rfl rfl rfl h23) rfl rfl rfl ?_
        obtain ⟨x24, h25, h⟩ := bind_some h
        refine o_of (e := [(50, .t (.d (.seq 1 (bytesD x24))))]) (gy rfl rfl rfl h23) (h_callR (Mk.refl _) rfl (σ := []) (fr := []) rfl rfl rfl rfl rfl rfl rfl (fch_L18_fill _ x18.2 _ h25) (pure_hpA _) rfl rfl rfl rfl (.cons (.plain (.refl _) rfl) .nil) rfl (.t (.flat rfl))) rfl ?_
        obtain ⟨x26, h27, h⟩ := bind_some h
        refine o_ca (fc_R01_Same _ _ _ h27) (gy rfl rfl rfl h23) rfl rfl rfl rfl rfl rfl rfl (.cons (.refl _) (.cons (.refl _) .nil)) rfl rfl ?_
        refine o_pk (.t (.d (.lit (.bool x26)))) (b := true) h23 (g0 rfl) rfl rfl rfl rfl rfl ?_
        refine o_s (.t (.d (.lit (.bool x26)))) (g0 rfl) rfl rfl rfl ?_
        rcases bif_some h with ⟨h28, h⟩ | ⟨h28, h⟩
        ·
         refine o_of (e := [(54, .t ((ptT 3 x7.1)))]) (gy rfl rfl rfl h28) (h_mv (Mk.refl _) (.inl rfl) (cpO_pt rfl) rfl rfl) rfl ?_
         obtain ⟨x29, h30, h⟩ := bind_some h
         refine o_of (e := [(55, .t (.d (.lit (.int .i64 x29))))]) (gy rfl rfl rfl h28) (h_callR (Mk.refl _) rfl (σ := []) (fr := []) rfl rfl rfl rfl rfl rfl rfl (fch_wal_Log_Left _ x18.2 _ h30) (pure_hpA _) rfl rfl rfl rfl (.cons (argPt rfl) .nil) rfl (.t (.flat rfl))) rfl ?_
         refine o_s (.t (.d (.lit (.bool (x29 == 0))))) (gy rfl rfl rfl h28) rfl rfl rfl ?_
         refine o_pk (.t (.d (.lit (.bool (x29 == 0))))) (b := true) h28 (g0 rfl) rfl rfl rfl rfl rfl ?_
         refine o_s (.t (.d (.lit (.bool (x29 == 0))))) (g0 rfl) rfl rfl rfl ?_
         refine o_nil ?_
         repeat (first | refine k1 ?_ | refine k4 ?_)
         refine c_ret ?_
         repeat (first | refine k3 ?_ | refine k5 ?_)
         obtain rfl := Option.some.inj h
         exact ⟨⟨_, rfl, (.refl _)⟩, trivial, rfl⟩
        ·
         refine o_skip rfl rfl rfl h28 rfl rfl ?_
         refine o_skip rfl rfl rfl h28 rfl rfl ?_
         refine o_skip rfl rfl rfl h28 rfl rfl ?_
         refine o_pk (.t (.d (.lit (.bool false)))) (b := false) h28 (g0 rfl) rfl rfl rfl rfl rfl ?_
         refine o_s (.t (.d (.lit (.bool false)))) (g0 rfl) rfl rfl rfl ?_
         refine o_nil ?_
         repeat (first | refine k1 ?_ | refine k4 ?_)
         refine c_ret ?_
         repeat (first | refine k3 ?_ | refine k5 ?_)
         obtain rfl := Option.some.inj h
         exact ⟨⟨_, rfl, (.refl _)⟩, trivial, rfl⟩
       ·
        refine o_skip rfl rfl rfl h23 rfl rfl ?_
        refine o_skip rfl rfl rfl h23 rfl rfl ?_
        refine o_skip rfl rfl rfl h23 rfl rfl ?_
        refine o_pk (.t (.d (.lit (.bool false)))) (b := false) h23 (g0 rfl) rfl rfl rfl rfl rfl ?_
        refine o_s (.t (.d (.lit (.bool false)))) (g0 rfl) rfl rfl rfl ?_
        refine o_skip rfl rfl rfl rfl rfl rfl ?_
        refine o_skip rfl rfl rfl rfl rfl rfl ?_
        refine o_skip rfl rfl rfl rfl rfl rfl ?_
        refine o_pk (.t (.d (.lit (.bool false)))) (b := false) rfl (g0 rfl) rfl rfl rfl rfl rfl ?_
        refine o_s (.t (.d (.lit (.bool false)))) (g0 rfl) rfl rfl rfl ?_
        refine o_nil ?_
        repeat (first | refine k1 ?_ | refine k4 ?_)
        refine c_ret ?_
        repeat (first | refine k3 ?_ | refine k5 ?_)
        obtain rfl := Option.some.inj h
        exact ⟨⟨_, rfl, (.refl _)⟩, trivial, rfl⟩

theorem fc_L18_FewWrites (p0 : (List S_api_Write)) (r : Bool) (h : m_L18_FewWrites p0 = some r) : FC Try.prog 11 [.t (.d (.seq 2 (List.map cS_api_Write p0)))] [] (.t (.d (.lit (.bool r)))) := by
 refine fc_mk (rs := [.tmp 2]) (n := 19) Try.func11 rfl rfl (Nat.le_of_ble_eq_true rfl) rfl (pins := []) rfl (L := [(0, .t (.d (.seq 2 (List.map cS_api_Write p0))))]) rfl ?_
 refine c_sr ?_
 refine o_s (.t (.d (.lit (.bool false)))) (g0 rfl) rfl rfl rfl ?_
 refine o_nil ?_
 repeat (first | refine k1 ?_ | refine k4 ?_)
 refine c_seq ?_
 refine c_sr ?_
 refine o_s (.t (.d (.seq 2 (List.map cS_api_Write p0)))) (g0 rfl) rfl rfl rfl ?_
 refine o_c (g0 rfl) rfl rfl rfl (lenE _ _) trivial ?_
 refine o_s (.t (.d (.lit (.bool (decide ((p0.length : Int) > 10)))))) (g0 rfl) rfl rfl rfl ?_
 refine o_nil ?_
 repeat (first | refine k1 ?_ | refine k4 ?_)
 rcases bif_some h with ⟨h1, h⟩ | ⟨h1, h⟩
 ·
  refine c_t h1 rfl ?_
  refine c_sr ?_
  refine o_s (.t (.d (.lit (.bool false)))) (g0 rfl) rfl rfl rfl ?_
  refine o_nil ?_
  repeat (first | refine k1 ?_ | refine k4 ?_)
  refine c_ret ?_
  repeat (first | refine k3 ?_ | refine k5 ?_)
  obtain rfl := Option.some.inj h
  exact end0 rfl (.refl _)
 ·
  refine c_f h1 rfl ?_
  refine c_skip ?_
  repeat (first | refine k1 ?_ | refine k4 ?_)
  refine c_seq ?_
  refine c_sr ?_
  refine o_s (.t (.d (.seq 2 (List.map cS_api_Write p0)))) (g0 rfl) rfl rfl rfl ?_
  refine o_c (g0 rfl) rfl rfl rfl (lenE _ _) trivial ?_
  refine o_s (.t (.d (.lit (.int .i64 0)))) (g0 rfl) rfl rfl rfl ?_
  refine o_nil ?_
  repeat (first | refine k1 ?_ | refine k4 ?_)
  refine c_block ?_
  refine c_fuel (fun (z2 : Int) => [(8, .t (.d (.seq 2 (List.map cS_api_Write p0)))), (9, .t (.d (.lit (.int .i64 (p0.length : Int))))), (10, .t (.d (.lit (.int .i64 z2))))]) (fun nl1 => (fun (z2 : Int) => m_L18_FewWrites_l1 p0 nl1 z2 = some r)) (p0.length + 1) 0 h ⟨(.refl _), ⟨(.refl _), ⟨(.refl _), trivial⟩⟩⟩ rfl ?_
  rintro nl1 z2 h
  cases nl1 with
  | zero => exact none_ne h
  | succ nl1 =>
   refine c_sr ?_
   refine o_s (.t (.d (.lit (.bool (decide (z2 < (p0.length : Int))))))) (g0 rfl) rfl rfl rfl ?_
   refine o_nil ?_
   repeat (first | refine k1 ?_ | refine k4 ?_)
   refine c_seq ?_
   rcases bif_some h with ⟨h3, h⟩ | ⟨h3, h⟩
   ·
    refine c_t h3 rfl ?_
    refine c_skip ?_
    repeat (first | refine k1 ?_ | refine k4 ?_)
    refine c_seq ?_
    refine c_block ?_
    refine c_sr ?_
    obtain ⟨x4, h5, h⟩ := bind_some h
    refine o_c (g0 rfl) rfl rfl rfl (idxE h5) (idxC h5) ?_
    refine o_s (.t (.agg [.lit (.int .i64 x4.Home), .seq 1 (bytesD x4.Data)])) (g0 rfl) rfl rfl rfl ?_
    refine o_s (.box [.d (.lit (.int .i64 0)), .d (.lit (.slice none 0 0))]) (g0 rfl) rfl rfl rfl ?_
    refine o_st (.box [.d (.lit (.int .i64 x4.Home)), .d (.seq 1 (bytesD x4.Data))]) (g0 rfl) rfl rfl rfl ?_
    refine o_nil ?_
    repeat (first | refine k1 ?_ | refine k4 ?_)
    refine c_sr ?_
    refine o_s (.ref 4 1) (g0 rfl) rfl rfl rfl ?_
    refine o_s (.t (.d (.seq 1 (bytesD x4.Data)))) (g0 rfl) rfl rfl rfl ?_
    refine o_c (g0 rfl) rfl rfl rfl (lenE _ _) trivial ?_
    refine o_s (.t (.d (.lit (.bool (decide ((x4.Data.length : Int) > 100)))))) (g0 rfl) rfl rfl rfl ?_
    refine o_nil ?_
    repeat (first | refine k1 ?_ | refine k4 ?_)
    rcases bif_some h with ⟨h6, h⟩ | ⟨h6, h⟩
    ·
     refine c_t h6 rfl ?_
     refine c_sr ?_
     refine o_s (.t (.d (.lit (.bool false)))) (g0 rfl) rfl rfl rfl ?_
     refine o_nil ?_
     repeat (first | refine k1 ?_ | refine k4 ?_)
     refine c_ret ?_
     repeat (first | refine k3 ?_ | refine k5 ?_)
     obtain rfl := Option.some.inj h
     exact end0 rfl (.refl _)
    ·
     refine c_f h6 rfl ?_
     refine c_skip ?_
     repeat (first | refine k1 ?_ | refine k4 ?_)
     refine c_region ?_
     refine o_s (.t (.d (.lit (.int .i64 (wi (z2 + 1)))))) (g0 rfl) rfl rfl rfl ?_
     refine o_s (.t (.d (.lit (.int .i64 (wi (z2 + 1)))))) (g0 rfl) rfl rfl rfl ?_
     refine o_nil ?_
     repeat (first | refine k1 ?_ | refine k4 ?_)
     exact ⟨nl1, (wi (z2 + 1)), Nat.lt_succ_self nl1, h, ⟨(.refl _), ⟨(.refl _), ⟨(.refl _), trivial⟩⟩⟩, rfl⟩
   ·
    refine c_f h3 rfl ?_
    refine c_exit ?_
    repeat (first | refine k1 ?_ | refine k2 ?_ | refine k3 ?_ | refine k4 ?_ | refine k5 ?_ | refine k6 ?_ | refine k7 rfl ?_)
    refine c_sr ?_
    refine o_s (.t (.d (.lit (.bool true)))) (g0 rfl) rfl rfl rfl ?_
    refine o_nil ?_
    repeat (first | refine k1 ?_ | refine k4 ?_)
    refine c_ret ?_
    repeat (first | refine k3 ?_ | refine k5 ?_)
    obtain rfl := Option.some.inj h
    exact end0 rfl (.refl _)

theorem fch_L18_homes (p0 : (Option Nat)) (w0 : Hp) (r : ((List (List UInt8)) × Bool)) (h : m_L18_homes p0 w0 = some r) : FCH Try.prog 15 [.t ((ptT 3 p0))] [] [] (hpA w0) (hpA w0) (.tup [.d (.seq 1 (List.map (cSl 1 cU8) r.1)), .d (.lit (.bool r.2))]) := by
 refine fch_mk (rs := [.tmp 2, .tmp 3]) (n := 27) [] Try.func15 rfl rfl (Nat.le_of_ble_eq_true rfl) rfl (pins := []) rfl (L := [(HK, .hp (hpA w0)), (0, .t ((ptT 3 p0)))]) rfl ?_
 refine c_sr ?_
 refine o_s (.t (.d (.lit (.slice none 0 0)))) (g0 rfl) rfl rfl rfl ?_
 refine o_s (.t (.d (.lit (.bool false)))) (g0 rfl) rfl rfl rfl ?_
 refine o_nil ?_
 repeat (first | refine k1 ?_ | refine k4 ?_)
 refine c_sr ?_
 refine o_s (.t (.d (.lit (.slice none 0 0)))) (g0 rfl) rfl rfl rfl ?_
 refine o_nil ?_
 repeat (first | refine k1 ?_ | refine k4 ?_)
 refine c_cutH (fun (y1 : (List (List UInt8))) => [(4, .t (.own 41 1 (List.map (cSl 1 cU8) y1))), (HK, .hp (hpA w0))]) (fun (y1 : (List (List UInt8))) => m_L18_homes_j1 y1 = some r) ?_ ?_
 ·
  refine c_sr ?_
  refine o_of (e := [(8, .t ((ptT 3 p0)))]) (g0 rfl) (h_mv (Mk.refl _) (.inl rfl) (cpO_pt rfl) rfl rfl) rfl ?_
  obtain ⟨x2, h3, h⟩ := bind_some h
  refine o_of (e := [(9, .t (.d (.lit (.int .i64 x2))))]) (g0 rfl) (h_callR (Mk.refl _) rfl (σ := []) (fr := []) rfl rfl rfl rfl rfl rfl rfl (fch_wal_Log_Homes _ w0 _ h3) (pure_hpA _) rfl rfl rfl rfl (.cons (argPt rfl) .nil) rfl (.t (.flat rfl))) rfl ?_
  refine o_s (.t (.d (.lit (.int .i64 0)))) (g0 rfl) rfl rfl rfl ?_
  refine o_nil ?_
  repeat (first | refine k1 ?_ | refine k4 ?_)
  refine c_block ?_
  refine c_fuelH (fun (q : (List (List UInt8)) × Int) => [(0, .t ((ptT 3 p0))), (4, .t (.own 41 1 (List.map (cSl 1 cU8) q.1))), (9, .t (.d (.lit (.int .i64 x2)))), (10, .t (.d (.lit (.int .i64 q.2)))), (HK, .hp (hpA w0))]) (fun nl2 => (fun (q : (List (List UInt8)) × Int) => m_L18_homes_l2 x2 p0 w0 nl2 q.1 q.2 = some r)) (Int.toNat x2 + 1) ([], 0) [] h rfl ⟨.inr ⟨_, rfl, pure_hpA _⟩, by (repeat (first | exact ObP.nil | refine ObP.cons (.inl rfl) ?_ | refine ObP.cons (.inr (fun _ => rfl)) ?_ | refine ObP.cons (.inr (ob_box (fl_noPt _ _))) ?_ | refine ObP.cons (.inr (ob_gb _ _)) ?_))⟩ ⟨(.refl _), ⟨(.t (.nilOwn _ _)), ⟨(.refl _), ⟨(.refl _), ⟨(.refl _), trivial⟩⟩⟩⟩⟩ rfl ?_
  rintro nl2 ⟨z4, z5⟩ h
  cases nl2 with
  | zero => exact none_ne h
  | succ nl2 =>
   refine c_sr ?_
   refine o_s (.t (.d (.lit (.bool (decide (z5 < x2)))))) (g0 rfl) rfl rfl rfl ?_
   refine o_nil ?_
   repeat (first | refine k1 ?_ | refine k4 ?_)
   refine c_seq ?_
   rcases bif_some h with ⟨h6, h⟩ | ⟨h6, h⟩
   ·
    refine c_t h6 rfl ?_
    refine c_skip ?_
    repeat (first | refine k1 ?_ | refine k4 ?_)
    refine c_seq ?_
    refine c_block ?_
    refine c_sr ?_
    refine o_s (.t (.d (.lit (.int .i64 z5)))) (g0 rfl) rfl rfl rfl ?_
    refine o_s (.t (.d (.lit (.int .i64 z5)))) (g0 rfl) rfl rfl rfl ?_
    refine o_nil ?_
    repeat (first | refine k1 ?_ | refine k4 ?_)
    refine c_sr ?_
    refine o_of (e := [(14, .t ((ptT 3 p0)))]) (g0 rfl) (h_mv (Mk.refl _) (.inl rfl) (cpO_pt rfl) rfl rfl) rfl ?_
    refine o_s (.t (.d (.lit (.int .i64 z5)))) (g0 rfl) rfl rfl rfl ?_
    obtain ⟨x7, h8, h⟩ := bind_some h
    refine o_of (e := [(16, .tup [.d (.seq 1 (bytesD x7.1)), .d (.lit (.int .i64 x7.2))])]) (g0 rfl) (h_callR (Mk.refl _) rfl (σ := []) (fr := []) rfl rfl rfl rfl rfl rfl rfl (fch_wal_Log_Read _ _ w0 _ h8) (pure_hpA _) rfl rfl rfl rfl (.cons (argPt rfl) (.cons (.plain (.refl _) rfl) .nil)) rfl (.tup (.cons (.flat rfl) (.cons (.flat rfl) .nil)))) rfl ?_
    refine o_s (.tup [.d (.seq 1 (bytesD x7.1)), .d (.lit (.int .i64 x7.2))]) (g0 rfl) rfl rfl rfl ?_
    refine o_s (.t (.d (.seq 1 (bytesD x7.1)))) (g0 rfl) rfl rfl rfl ?_
    refine o_s (.t (.d (.lit (.int .i64 x7.2)))) (g0 rfl) rfl rfl rfl ?_
    refine o_s (.t (.d (.seq 1 (bytesD x7.1)))) (g0 rfl) rfl rfl rfl ?_
    refine o_s (.t (.d (.lit (.int .i64 x7.2)))) (g0 rfl) rfl rfl rfl ?_
    refine o_nil ?_
    repeat (first | refine k1 ?_ | refine k4 ?_)
    refine c_seq ?_
    refine c_sr ?_
    refine o_s (.t (.d (.lit (.int .i64 x7.2)))) (g0 rfl) rfl rfl rfl ?_
    refine o_s (.t (.d (.lit (.bool (x7.2 != 0))))) (g0 rfl) rfl rfl rfl ?_
    refine o_nil ?_
    repeat (first | refine k1 ?_ | refine k4 ?_)
    rcases bif_some h with ⟨h9, h⟩ | ⟨h9, h⟩
    ·
     refine c_t h9 rfl ?_
     refine c_sr ?_
     refine o_s (.t (.d (.lit (.slice none 0 0)))) (g0 rfl) rfl rfl rfl ?_
     refine o_s (.t (.d (.lit (.bool false)))) (g0 rfl) rfl rfl rfl ?_
     refine o_nil ?_
     repeat (first | refine k1 ?_ | refine k4 ?_)
     refine c_ret ?_
     repeat (first | refine k3 ?_ | refine k5 ?_)
     obtain rfl := Option.some.inj h
     exact ⟨⟨_, rfl, (.tup (.cons (.d (.nil _)) (.cons (.refl _) .nil)))⟩, trivial, rfl⟩
    ·
     refine c_f h9 rfl ?_
     refine c_skip ?_
     repeat (first | refine k1 ?_ | refine k4 ?_)
     refine c_region ?_
     refine o_2 (.t (.d (.seq 1 (List.map (cSl 1 cU8) z4)))) (.t (.own 41 1 (List.map (cSl 1 cU8) z4))) (g0 rfl) rfl rfl rfl ?_
     refine o_s (.t (.d (.seq 1 (bytesD x7.1)))) (g0 rfl) rfl rfl rfl ?_
     refine o_s (.t (.own 41 1 (List.map (cSl 1 cU8) [x7.1]))) (g0 rfl) rfl rfl rfl ?_
     obtain ⟨x10, h11, h⟩ := bind_some h
     refine o_2c (g0 rfl) rfl rfl rfl (appE (c := (cSl 1 cU8)) h11) (appC (c := (cSl 1 cU8)) h11) ?_
     refine o_2 (.t (.d (.seq 1 (List.map (cSl 1 cU8) x10)))) (.t (.own 41 1 (List.map (cSl 1 cU8) x10))) (g0 rfl) rfl rfl rfl ?_
     refine o_nil ?_
     repeat (first | refine k1 ?_ | refine k4 ?_)
     refine c_region ?_
     refine o_s (.t (.d (.lit (.int .i64 (wi (z5 + 1)))))) (g0 rfl) rfl rfl rfl ?_
     refine o_s (.t (.d (.lit (.int .i64 (wi (z5 + 1)))))) (g0 rfl) rfl rfl rfl ?_
     refine o_nil ?_
     repeat (first | refine k1 ?_ | refine k4 ?_)
     exact ⟨nl2, (x10, (wi (z5 + 1))), [], Nat.lt_succ_self nl2, h, rfl, ⟨.inr ⟨_, rfl, pure_hpA _⟩, by (repeat (first | exact ObP.nil | refine ObP.cons (.inl rfl) ?_ | refine ObP.cons (.inr (fun _ => rfl)) ?_ | refine ObP.cons (.inr (ob_box (fl_noPt _ _))) ?_ | refine ObP.cons (.inr (ob_gb _ _)) ?_))⟩, ⟨(.refl _), ⟨(.refl _), ⟨(.refl _), ⟨(.refl _), ⟨(.refl _), trivial⟩⟩⟩⟩⟩, rfl⟩
   ·
    refine c_f h6 rfl ?_
    refine c_exit ?_
    repeat (first | refine k1 ?_ | refine k2 ?_ | refine k3 ?_ | refine k4 ?_ | refine k5 ?_ | refine k6 ?_ | refine k7 rfl ?_)
    exact ⟨z4, [], h, rfl, ⟨.inr ⟨_, rfl, pure_hpA _⟩, by (repeat (first | exact ObP.nil | refine ObP.cons (.inl rfl) ?_ | refine ObP.cons (.inr (fun _ => rfl)) ?_ | refine ObP.cons (.inr (ob_box (fl_noPt _ _))) ?_ | refine ObP.cons (.inr (ob_gb _ _)) ?_))⟩, ⟨(.refl _), ⟨(.refl _), trivial⟩⟩, rfl⟩
 ·
  rintro y1 h
  refine c_sr ?_
  refine o_2 (.t (.d (.seq 1 (List.map (cSl 1 cU8) y1)))) (.t (.own 41 1 (List.map (cSl 1 cU8) y1))) (g0 rfl) rfl rfl rfl ?_
  refine o_2 (.t (.d (.seq 1 (List.map (cSl 1 cU8) y1)))) (.t (.own 41 1 (List.map (cSl 1 cU8) y1))) (g0 rfl) rfl rfl rfl ?_
  refine o_s (.t (.d (.lit (.bool true)))) (g0 rfl) rfl rfl rfl ?_
  refine o_nil ?_
  repeat (first | refine k1 ?_ | refine k4 ?_)
  refine c_ret ?_
  repeat (first | refine k3 ?_ | refine k5 ?_)
  obtain rfl := Option.some.inj h
  exact ⟨⟨_, rfl, (.tup (.cons (.refl _) (.cons (.refl _) .nil)))⟩, trivial, rfl⟩

theorem fc_L18_same (p0 : (List (List UInt8))) (p1 : (List (List UInt8))) (r : Bool) (h : m_L18_same p0 p1 = some r) : FC Try.prog 17 [.t (.d (.seq 1 (List.map (cSl 1 cU8) p0))), .t (.d (.seq 1 (List.map (cSl 1 cU8) p1)))] [] (.t (.d (.lit (.bool r)))) := by
 refine fc_mk (rs := [.tmp 4]) (n := 27) Try.func17 rfl rfl (Nat.le_of_ble_eq_true rfl) rfl (pins := []) rfl (L := [(0, .t (.d (.seq 1 (List.map (cSl 1 cU8) p0)))), (1, .t (.d (.seq 1 (List.map (cSl 1 cU8) p1))))]) rfl ?_
 refine c_sr ?_
 refine o_s (.t (.d (.lit (.bool false)))) (g0 rfl) rfl rfl rfl ?_
 refine o_nil ?_
 repeat (first | refine k1 ?_ | refine k4 ?_)
 refine c_seq ?_
 refine c_sr ?_
 refine o_s (.t (.d (.seq 1 (List.map (cSl 1 cU8) p0)))) (g0 rfl) rfl rfl rfl ?_
 refine o_c (g0 rfl) rfl rfl rfl (lenE _ _) trivial ?_
 refine o_s (.t (.d (.seq 1 (List.map (cSl 1 cU8) p1)))) (g0 rfl) rfl rfl rfl ?_
 refine o_c (g0 rfl) rfl rfl rfl (lenE _ _) trivial ?_
 refine o_s (.t (.d (.lit (.bool ((p0.length : Int) != (p1.length : Int)))))) (g0 rfl) rfl rfl rfl ?_
 refine o_nil ?_
 repeat (first | refine k1 ?_ | refine k4 ?_)
 rcases bif_some h with ⟨h1, h⟩ | ⟨h1, h⟩
 ·
  refine c_t h1 rfl ?_
  refine c_sr ?_
  refine o_s (.t (.d (.lit (.bool false)))) (g0 rfl) rfl rfl rfl ?_
  refine o_nil ?_
  repeat (first | refine k1 ?_ | refine k4 ?_)
  refine c_ret ?_
  repeat (first | refine k3 ?_ | refine k5 ?_)
  obtain rfl := Option.some.inj h
  exact end0 rfl (.refl _)
 ·
  refine c_f h1 rfl ?_
  refine c_skip ?_
  repeat (first | refine k1 ?_ | refine k4 ?_)
  refine c_seq ?_
  refine c_sr ?_
  refine o_s (.t (.d (.seq 1 (List.map (cSl 1 cU8) p0)))) (g0 rfl) rfl rfl rfl ?_
  refine o_c (g0 rfl) rfl rfl rfl (lenE _ _) trivial ?_
  refine o_s (.t (.d (.lit (.int .i64 0)))) (g0 rfl) rfl rfl rfl ?_
  refine o_nil ?_
  repeat (first | refine k1 ?_ | refine k4 ?_)
  refine c_block ?_
  refine c_fuel (fun (z2 : Int) => [(0, .t (.d (.seq 1 (List.map (cSl 1 cU8) p0)))), (1, .t (.d (.seq 1 (List.map (cSl 1 cU8) p1)))), (12, .t (.d (.lit (.int .i64 (p0.length : Int))))), (13, .t (.d (.lit (.int .i64 z2))))]) (fun nl1 => (fun (z2 : Int) => m_L18_same_l1 p0 p1 nl1 z2 = some r)) (p0.length + 1) 0 h ⟨(.refl _), ⟨(.refl _), ⟨(.refl _), ⟨(.refl _), trivial⟩⟩⟩⟩ rfl ?_
  rintro nl1 z2 h
  cases nl1 with
  | zero => exact none_ne h
  | succ nl1 =>
   refine c_sr ?_
   refine o_s (.t (.d (.lit (.bool (decide (z2 < (p0.length : Int))))))) (g0 rfl) rfl rfl rfl ?_
   refine o_nil ?_
   repeat (first | refine k1 ?_ | refine k4 ?_)
   refine c_seq ?_
   rcases bif_some h with ⟨h3, h⟩ | ⟨h3, h⟩
   ·
    refine c_t h3 rfl ?_
    refine c_skip ?_
    repeat (first | refine k1 ?_ | refine k4 ?_)
    refine c_seq ?_
    refine c_block ?_
    refine c_sr ?_
    refine o_s (.t (.d (.lit (.int .i64 z2)))) (g0 rfl) rfl rfl rfl ?_
    refine o_s (.t (.d (.lit (.int .i64 z2)))) (g0 rfl) rfl rfl rfl ?_
    refine o_nil ?_
    repeat (first | refine k1 ?_ | refine k4 ?_)
    refine c_seq ?_
    refine c_draw mixed (by kernel_rfl) ?_
    refine d_s (.t (.d (.seq 1 (List.map (cSl 1 cU8) p0)))) rfl (dg0 rfl) rfl rfl rfl rfl ?_
    refine d_s (.t (.d (.lit (.int .i64 z2)))) rfl (dg0 rfl) rfl rfl rfl rfl ?_
    obtain ⟨x4, h5, h⟩ := bind_some h
    refine d_c rfl (dg0 rfl) rfl rfl rfl rfl (idxE h5) (idxC h5) ?_
    refine d_s (.t (.d (.seq 1 (bytesD x4)))) rfl (dg0 rfl) rfl rfl rfl rfl ?_
    refine d_s (.t (.d (.seq 1 (List.map (cSl 1 cU8) p1)))) rfl (dg0 rfl) rfl rfl rfl rfl ?_
    refine d_s (.t (.d (.lit (.int .i64 z2)))) rfl (dg0 rfl) rfl rfl rfl rfl ?_
    obtain ⟨x6, h7, h⟩ := bind_some h
    refine d_c rfl (dg0 rfl) rfl rfl rfl rfl (idxE h7) (idxC h7) ?_
    refine d_s (.t (.d (.seq 1 (bytesD x6)))) rfl (dg0 rfl) rfl rfl rfl rfl ?_
    obtain ⟨x8, h9, h⟩ := bind_some h
    refine d_ca (fc_R01_Same _ _ _ h9) rfl (dg0 rfl) rfl rfl rfl rfl rfl rfl rfl rfl (.cons (.refl _) (.cons (.refl _) .nil)) rfl rfl ?_
    refine d_s (.t (.d (.lit (.bool (!x8))))) rfl (dg0 rfl) rfl rfl rfl rfl ?_
    refine d_nil (by kernel_rfl) ?_
    repeat (first | refine k1 ?_ | refine k2 ?_ | refine k3 ?_ | refine k4 ?_ | refine k5 ?_ | refine k6 ?_ | refine k7 rfl ?_)
    rcases bif_some h with ⟨h10, h⟩ | ⟨h10, h⟩
    ·
     refine c_t h10 rfl ?_
     refine c_sr ?_
     refine o_s (.t (.d (.lit (.bool false)))) (g0 rfl) rfl rfl rfl ?_
     refine o_nil ?_
     repeat (first | refine k1 ?_ | refine k4 ?_)
     refine c_ret ?_
     repeat (first | refine k3 ?_ | refine k5 ?_)
     obtain rfl := Option.some.inj h
     exact end0 rfl (.refl _)
    ·
     refine c_f h10 rfl ?_
     refine c_skip ?_
     repeat (first | refine k1 ?_ | refine k4 ?_)
     refine c_region ?_
     refine o_s (.t (.d (.lit (.int .i64 (wi (z2 + 1)))))) (g0 rfl) rfl rfl rfl ?_
     refine o_s (.t (.d (.lit (.int .i64 (wi (z2 + 1)))))) (g0 rfl) rfl rfl rfl ?_
     refine o_nil ?_
     repeat (first | refine k1 ?_ | refine k4 ?_)
     exact ⟨nl1, (wi (z2 + 1)), Nat.lt_succ_self nl1, h, ⟨(.refl _), ⟨(.refl _), ⟨(.refl _), ⟨(.refl _), trivial⟩⟩⟩⟩, rfl⟩
   ·
    refine c_f h3 rfl ?_
    refine c_exit ?_
    repeat (first | refine k1 ?_ | refine k2 ?_ | refine k3 ?_ | refine k4 ?_ | refine k5 ?_ | refine k6 ?_ | refine k7 rfl ?_)
    refine c_sr ?_
    refine o_s (.t (.d (.lit (.bool true)))) (g0 rfl) rfl rfl rfl ?_
    refine o_nil ?_
    repeat (first | refine k1 ?_ | refine k4 ?_)
    refine c_ret ?_
    repeat (first | refine k3 ?_ | refine k5 ?_)
    obtain rfl := Option.some.inj h
    exact end0 rfl (.refl _)

theorem fch_L18_done (p0 : (List (List UInt8))) (p1 : (List S_api_Write)) (w0 : Hp) (r : (List (List UInt8))) (h : m_L18_done p0 p1 = some r) : FCH Try.prog 18 [.t (.d (.seq 1 (List.map (cSl 1 cU8) p0))), .t (.d (.seq 2 (List.map cS_api_Write p1)))] [] [] (hpA w0) (hpA w0) (.t (.d (.seq 1 (List.map (cSl 1 cU8) r)))) := by
 refine fch_mk (rs := [.tmp 4]) (n := 25) [0] Try.func18 rfl rfl (Nat.le_of_ble_eq_true rfl) rfl (pins := []) rfl (L := [(HK, .hp (hpA w0)), (OB + 0, .free), (0, .t (.d (.seq 1 (List.map (cSl 1 cU8) p0)))), (1, .t (.d (.seq 2 (List.map cS_api_Write p1))))]) rfl ?_
 refine c_sr ?_
 refine o_s (.t (.d (.lit (.slice none 0 0)))) (g0 rfl) rfl rfl rfl ?_
 refine o_nil ?_
 repeat (first | refine k1 ?_ | refine k4 ?_)
 refine c_sr ?_
 refine o_of (e := [(8, .t (.view 0 0 41 1 0))]) (g0 rfl) (h_b0v rfl rfl rfl rfl) rfl ?_
 refine o_s (.t (.d (.seq 1 (List.map (cSl 1 cU8) p0)))) (g0 rfl) rfl rfl rfl ?_
 rcases bif_some h with ⟨h1, h⟩ | ⟨h1, h⟩
 ·
  exact none_ne h
 ·
  obtain ⟨x2, h3, h⟩ := bind_some h
  refine o_of (e := [(8, .any), ((OB + 0), gbA (cSl 1 cU8) x2), (10, .t (.view 0 0 41 1 x2.length))]) (g0 rfl) (h_apgI (c := (cSl 1 cU8)) (Mk.refl _) [8] h3 rfl rfl rfl rfl (fun _ => rfl) rfl (isE_pos h1) rfl rfl rfl (NoM.get (by (repeat (first | exact NoM.nil | refine NoM.skip rfl ?_ | refine NoM.cons rfl ?_ | refine NoM.cons (ptT_ment _ _ _) ?_ | refine NoM.cons (ob_box (fl_noPt _ _) _) ?_ | refine NoM.cons (ob_gb _ _ _) ?_)))) (.inr ⟨_, rfl, pure_hpA _⟩) rfl) rfl ?_
  refine o_s (.t (.view 0 0 41 1 x2.length)) (g0 rfl) rfl rfl rfl ?_
  refine o_nil ?_
  repeat (first | refine k1 ?_ | refine k4 ?_)
  refine c_seq ?_
  refine c_sr ?_
  refine o_s (.t (.d (.seq 2 (List.map cS_api_Write p1)))) (g0 rfl) rfl rfl rfl ?_
  refine o_c (g0 rfl) rfl rfl rfl (lenE _ _) trivial ?_
  refine o_s (.t (.d (.lit (.int .i64 0)))) (g0 rfl) rfl rfl rfl ?_
  refine o_nil ?_
  repeat (first | refine k1 ?_ | refine k4 ?_)
  refine c_block ?_
  refine c_fuelH (fun (q : Int × (List (List UInt8))) => [(5, .t (.view 0 0 41 1 q.2.length)), (11, .t (.d (.seq 2 (List.map cS_api_Write p1)))), (12, .t (.d (.lit (.int .i64 (p1.length : Int))))), (13, .t (.d (.lit (.int .i64 q.1)))), ((OB + 0), gbA (cSl 1 cU8) q.2), (HK, .hp (hpA w0))]) (fun nl1 => (fun (q : Int × (List (List UInt8))) => m_L18_done_l1 p1 nl1 q.1 q.2 = some r)) (p1.length + 1) (0, x2) [] h rfl ⟨.inr ⟨_, rfl, pure_hpA _⟩, by (repeat (first | exact ObP.nil | refine ObP.cons (.inl rfl) ?_ | refine ObP.cons (.inr (fun _ => rfl)) ?_ | refine ObP.cons (.inr (ob_box (fl_noPt _ _))) ?_ | refine ObP.cons (.inr (ob_gb _ _)) ?_))⟩ ⟨(.refl _), ⟨(.refl _), ⟨(.refl _), ⟨(.refl _), ⟨(.refl _), ⟨(.refl _), trivial⟩⟩⟩⟩⟩⟩ (by ((refine nr_of ?_; repeat (first | exact nr_nil | refine nr_cons rfl ?_ | refine nr_cons (nr_gb _ _ _) ?_)))) ?_
  rintro nl1 ⟨z4, z5⟩ h
  cases nl1 with
  | zero => exact none_ne h
  | succ nl1 =>
   refine c_sr ?_
   refine o_s (.t (.d (.lit (.bool (decide (z4 < (p1.length : Int))))))) (g0 rfl) rfl rfl rfl ?_
   refine o_nil ?_
   repeat (first | refine k1 ?_ | refine k4 ?_)
   refine c_seq ?_
   rcases bif_some h with ⟨h6, h⟩ | ⟨h6, h⟩
   ·
    refine c_t h6 rfl ?_
    refine c_skip ?_
    repeat (first | refine k1 ?_ | refine k4 ?_)
    refine c_seq ?_
    refine c_block ?_
    refine c_sr ?_
    obtain ⟨x7, h8, h⟩ := bind_some h
    refine o_c (g0 rfl) rfl rfl rfl (idxE h8) (idxC h8) ?_
    refine o_s (.t (.agg [.lit (.int .i64 x7.Home), .seq 1 (bytesD x7.Data)])) (g0 rfl) rfl rfl rfl ?_
    refine o_s (.box [.d (.lit (.int .i64 0)), .d (.lit (.slice none 0 0))]) (g0 rfl) rfl rfl rfl ?_
    refine o_st (.box [.d (.lit (.int .i64 x7.Home)), .d (.seq 1 (bytesD x7.Data))]) (g0 rfl) rfl rfl rfl ?_
    refine o_nil ?_
    repeat (first | refine k1 ?_ | refine k4 ?_)
    refine c_region ?_
    refine o_s (.t (.view 0 0 41 1 z5.length)) (g0 rfl) rfl rfl rfl ?_
    refine o_s (.ref 7 0) (g0 rfl) rfl rfl rfl ?_
    refine o_s (.t (.d (.lit (.int .i64 x7.Home)))) (g0 rfl) rfl rfl rfl ?_
    refine o_s (.ref 7 1) (g0 rfl) rfl rfl rfl ?_
    refine o_s (.t (.d (.seq 1 (bytesD x7.Data)))) (g0 rfl) rfl rfl rfl ?_
    obtain ⟨x9, h10, h⟩ := bind_some h
    refine o_of (e := [(22, .ref (OB + 0) (0 + Int.toNat x7.Home * 1))]) (g0 rfl) (h_lix (Mk.refl _) rfl rfl rfl rfl rfl (idxV rfl h10) rfl rfl rfl) rfl ?_
    refine o_of (e := [((OB + 0), gbA (cSl 1 cU8) (z5.set (Int.toNat x7.Home) x7.Data))]) (g0 rfl) (OpH.ob (h_lst (Mk.refl _) rfl rfl rfl rfl (gb_box h10) rfl rfl (fl_room h10 (fun _ => rfl)) (fl_put h10 x7.Data (fun _ => rfl) rfl)) (gb_set h10)) rfl ?_
    refine o_nil ?_
    repeat (first | refine k1 ?_ | refine k4 ?_)
    refine c_region ?_
    refine o_s (.t (.d (.lit (.int .i64 (wi (z4 + 1)))))) (g0 rfl) rfl rfl rfl ?_
    refine o_s (.t (.d (.lit (.int .i64 (wi (z4 + 1)))))) (g0 rfl) rfl rfl rfl ?_
    refine o_nil ?_
    repeat (first | refine k1 ?_ | refine k4 ?_)
    exact ⟨nl1, ((wi (z4 + 1)), (z5.set (Int.toNat x7.Home) x7.Data)), [], Nat.lt_succ_self nl1, h, rfl, ⟨.inr ⟨_, rfl, pure_hpA _⟩, by (repeat (first | exact ObP.nil | refine ObP.cons (.inl rfl) ?_ | refine ObP.cons (.inr (fun _ => rfl)) ?_ | refine ObP.cons (.inr (ob_box (fl_noPt _ _))) ?_ | refine ObP.cons (.inr (ob_gb _ _)) ?_))⟩, ⟨(.vwn (by first | rfl | (simp; done) | (dsimp only; omega) | (simp; omega))), ⟨(.refl _), ⟨(.refl _), ⟨(.refl _), ⟨(.refl _), ⟨(.refl _), trivial⟩⟩⟩⟩⟩⟩, (by ((refine nr_of ?_; repeat (first | exact nr_nil | refine nr_cons rfl ?_ | refine nr_cons (nr_gb _ _ _) ?_))))⟩
   ·
    refine c_f h6 rfl ?_
    refine c_exit ?_
    repeat (first | refine k1 ?_ | refine k2 ?_ | refine k3 ?_ | refine k4 ?_ | refine k5 ?_ | refine k6 ?_ | refine k7 rfl ?_)
    refine c_sr ?_
    refine o_s (.t (.view 0 0 41 1 z5.length)) (g0 rfl) rfl rfl rfl ?_
    refine o_s (.t (.view 0 0 41 1 z5.length)) (g0 rfl) rfl rfl rfl ?_
    refine o_nil ?_
    repeat (first | refine k1 ?_ | refine k4 ?_)
    refine c_frzG (cc := (cSl 1 cU8)) (y := (z5 : List (List UInt8))) (k := 1) 4 0 rfl rfl (fun _ => rfl) rfl ⟨.inr ⟨_, rfl, pure_hpA _⟩, by (repeat (first | exact ObP.nil | refine ObP.cons (.inl rfl) ?_ | refine ObP.cons (.inr (fun _ => rfl)) ?_ | refine ObP.cons (.inr (ob_box (fl_noPt _ _))) ?_ | refine ObP.cons (.inr (ob_gb _ _)) ?_))⟩ rfl ?_
    refine c_ret ?_
    repeat (first | refine k3 ?_ | refine k5 ?_)
    obtain rfl := Option.some.inj h
    exact ⟨⟨_, rfl, (.refl _)⟩, trivial, rfl⟩

theorem fch_disk_Disk_Read_r (p0 : (Option Nat)) (p1 : Int) (w0 : Hp) (r : ((List UInt8) × Int)) (h : m_disk_Disk_Read_r p0 p1 w0 = some r) : FCH Try.prog 20 [.t ((ptT 1 p0)), .t (.d (.lit (.int .i64 p1)))] [] [gbA cU8 r.1] (hpA w0) (hpA w0) (.tup [.view 0 0 0 1 r.1.length, .d (.lit (.int .i64 r.2))]) := by
 refine fch_mk (rs := [.tmp 4, .tmp 5]) (n := 22) [0] Try.func20 rfl rfl (Nat.le_of_ble_eq_true rfl) rfl (pins := []) rfl (L := [(HK, .hp (hpA w0)), (OB + 0, .free), (0, .t ((ptT 1 p0))), (1, .t (.d (.lit (.int .i64 p1))))]) rfl ?_
 refine c_sr ?_
 refine o_s (.t (.d (.lit (.slice none 0 0)))) (g0 rfl) rfl rfl rfl ?_
 refine o_s (.t (.d (.lit (.int .i64 0)))) (g0 rfl) rfl rfl rfl ?_
 refine o_nil ?_
 repeat (first | refine k1 ?_ | refine k4 ?_)
 refine c_seq ?_
 refine c_sr ?_
 refine o_of (e := [(8, .t ((ptT 1 p0)))]) (g0 rfl) (h_mv (Mk.refl _) (.inl rfl) (cpO_pt rfl) rfl rfl) rfl ?_
 refine o_s (.t (.d (.lit (.int .i64 p1)))) (g0 rfl) rfl rfl rfl ?_
 obtain ⟨x1, h2, h⟩ := bind_some h
 refine o_of (e := [(10, .t (.d (.lit (.int .i64 x1))))]) (g0 rfl) (h_callR (Mk.refl _) rfl (σ := []) (fr := []) rfl rfl rfl rfl rfl rfl rfl (fch_disk_Disk_may _ _ w0 _ h2) (pure_hpA _) rfl rfl rfl rfl (.cons (argPt rfl) (.cons (.plain (.refl _) rfl) .nil)) rfl (.t (.flat rfl))) rfl ?_
 refine o_s (.t (.d (.lit (.int .i64 x1)))) (g0 rfl) rfl rfl rfl ?_
 refine o_nil ?_
 repeat (first | refine k1 ?_ | refine k4 ?_)
 refine c_sr ?_
 refine o_s (.t (.d (.lit (.int .i64 x1)))) (g0 rfl) rfl rfl rfl ?_
 refine o_s (.t (.d (.lit (.bool (x1 != 0))))) (g0 rfl) rfl rfl rfl ?_
 refine o_nil ?_
 repeat (first | refine k1 ?_ | refine k4 ?_)
 rcases bif_some h with ⟨h3, h⟩ | ⟨h3, h⟩
 ·
  refine c_t h3 rfl ?_
  refine c_sr ?_
  refine o_s (.t (.d (.lit (.int .i64 x1)))) (g0 rfl) rfl rfl rfl ?_
  refine o_s (.t (.d (.lit (.slice none 0 0)))) (g0 rfl) rfl rfl rfl ?_
  refine o_s (.t (.d (.lit (.int .i64 x1)))) (g0 rfl) rfl rfl rfl ?_
  refine o_nil ?_
  repeat (first | refine k1 ?_ | refine k4 ?_)
  refine c_ret ?_
  repeat (first | refine k3 ?_ | refine k5 ?_)
  obtain rfl := Option.some.inj h
  exact ⟨⟨_, rfl, (.tup (.cons (.nilView _ _ _ _) (.cons (.refl _) .nil)))⟩, ⟨rfl, trivial⟩, rfl⟩
 ·
  refine c_f h3 rfl ?_
  refine c_skip ?_
  repeat (first | refine k1 ?_ | refine k4 ?_)
  refine c_sr ?_
  refine o_of (e := [(14, .t ((ptT 1 p0)))]) (g0 rfl) (h_mv (Mk.refl _) (.inl rfl) (cpO_pt rfl) rfl rfl) rfl ?_
  rcases ptM_some h with ⟨h4, h⟩ | ⟨i5, h4, h⟩
  ·
   exact none_ne h
  ·
   refine o_of (e := [(15, .t (.hpt (cd 1 i5) 0))]) (g0 rfl) (h_nc (Mk.refl _) rfl (cpO_pt rfl) (ptT_some h4) rfl rfl) rfl ?_
   refine o_of (e := [(16, .t (.hpt (cd 1 i5) 1))]) (g0 rfl) (h_fd (Mk.refl _) rfl rfl rfl rfl rfl rfl) rfl ?_
   obtain ⟨x6, h7, h⟩ := bind_some h
   refine o_of (e := [(17, .t (.hvw (cd 2 x6.now_.1) 0 119 64 x6.now_.2))]) (g0 rfl) (h_ld (Mk.refl _) rfl rfl rfl rfl (gl_dk h7) rfl rfl rfl rfl) rfl ?_
   refine o_s (.t (.d (.lit (.int .i64 p1)))) (g0 rfl) rfl rfl rfl ?_
   obtain ⟨x8, h9, h⟩ := bind_some h
   obtain ⟨x10, h11, h⟩ := bind_some h
   obtain ⟨x12, h13, h⟩ := bind_some h
   refine o_of (e := [(19, .t (.hpt (cd 2 x6.now_.1) (0 + Int.toNat p1 * 64)))]) (g0 rfl) (h_ix (Mk.refl _) rfl rfl rfl rfl (idxV (lenI_eq h11) h13) rfl rfl rfl) rfl ?_
   refine o_of (e := [(20, .t (.agg (ar cU8 (0 : UInt8) x12 0 64)))]) (g0 rfl) (h_lr (Mk.refl _) rfl rfl rfl rfl (gl_sec h9) (flr_at (k := 64) h13 (fun _ => (by kernel_rfl))) (by kernel_rfl) (by kernel_rfl) (by kernel_rfl) rfl rfl) rfl ?_
   refine o_of (e := [((OB + 0), .box (fl (dT cU8) (padA (0 : UInt8) ([] : (List UInt8)) 0 64))), (7, .t (.ptr 0 0))]) (g0 rfl) (h_lnew (Mk.refl _) rfl rfl rfl rfl (by kernel_rfl) rfl rfl rfl rfl) rfl ?_
   refine o_of (e := [((OB + 0), .box (fl (dT cU8) (padA (0 : UInt8) x12 0 64)))]) (g0 rfl) (h_lst (Mk.refl _) rfl rfl rfl rfl rfl rfl (by kernel_rfl) (Nat.le_of_ble_eq_true (by kernel_rfl)) (by kernel_rfl)) rfl ?_
   refine o_nil ?_
   repeat (first | refine k1 ?_ | refine k4 ?_)
   refine c_sr ?_
   refine o_of (e := [(21, .t (.view 0 0 0 1 64))]) (g0 rfl) (h_sla (Mk.refl _) rfl rfl rfl rfl rfl rfl rfl (by kernel_rfl) rfl (by decide) rfl rfl rfl) rfl ?_
   refine o_s (.t (.view 0 0 0 1 64)) (g0 rfl) rfl rfl rfl ?_
   refine o_s (.t (.d (.lit (.int .i64 0)))) (g0 rfl) rfl rfl rfl ?_
   refine o_nil ?_
   repeat (first | refine k1 ?_ | refine k4 ?_)
   refine c_ret ?_
   repeat (first | refine k3 ?_ | refine k5 ?_)
   obtain rfl := Option.some.inj h
   exact ⟨⟨_, rfl, (.tup (.cons (.refl _) (.cons (.refl _) .nil)))⟩, ⟨rfl, trivial⟩, rfl⟩

theorem fch_L18_WalTurned (p0 : (List S_api_Write)) (p1 : Int) (p2 : UInt8) (w0 : Hp) (r : (Bool × Hp)) (h : m_L18_WalTurned p0 p1 p2 w0 = some r) : FCH Try.prog 3 [.t (.d (.seq 2 (List.map cS_api_Write p0))), .t (.d (.lit (.int .u16 p1))), .t (.d (.lit (.int .u8 (p2.toNat : Int))))] [] [] (hpA w0) (hpA r.2) (.t (.d (.lit (.bool r.1)))) := by
 refine fch_mk (rs := [.tmp 6]) (n := 141) [0] Try.func3 rfl rfl (Nat.le_of_ble_eq_true rfl) rfl (pins := []) rfl (L := [(HK, .hp (hpA w0)), (OB + 0, .free), (0, .t (.d (.seq 2 (List.map cS_api_Write p0)))), (1, .t (.d (.lit (.int .u16 p1)))), (2, .t (.d (.lit (.int .u8 (p2.toNat : Int)))))]) rfl ?_
 refine c_sr ?_
 refine o_s (.t (.d (.lit (.bool false)))) (g0 rfl) rfl rfl rfl ?_
 refine o_nil ?_
 repeat (first | refine k1 ?_ | refine k4 ?_)
 refine c_seq ?_
 refine c_sr ?_
 obtain ⟨x1, h2, h⟩ := bind_some h
 refine o_of (e := [(HK, .hp (hpA x1.2)), (20, .t (.d (.lit (.bool x1.1))))]) (g0 rfl) (h_call (Mk.refl _) rfl (σ := []) (fr := []) rfl rfl rfl rfl rfl rfl rfl (fch_L18_awake w0 _ h2) (pure_hpA _) (pure_hpA _) rfl rfl rfl rfl .nil rfl (.t (.flat rfl))) rfl ?_
 refine o_s (.t (.d (.lit (.bool (!x1.1))))) (g0 rfl) rfl rfl rfl ?_
 refine o_nil ?_
 repeat (first | refine k1 ?_ | refine k4 ?_)
 rcases bif_some h with ⟨h3, h⟩ | ⟨h3, h⟩
 ·
  refine c_t h3 rfl ?_
  refine c_sr ?_
  refine o_s (.t (.d (.lit (.bool false)))) (g0 rfl) rfl rfl rfl ?_
  refine o_nil ?_
  repeat (first | refine k1 ?_ | refine k4 ?_)
  refine c_ret ?_
  repeat (first | refine k3 ?_ | refine k5 ?_)
  obtain rfl := Option.some.inj h
  exact ⟨⟨_, rfl, (.refl _)⟩, trivial, rfl⟩
 ·
  refine c_f h3 rfl ?_
  refine c_skip ?_
  repeat (first | refine k1 ?_ | refine k4 ?_)
  refine c_seq ?_
  refine c_sr ?_
  refine o_s (.t (.d (.seq 2 (List.map cS_api_Write p0)))) (g0 rfl) rfl rfl rfl ?_
  obtain ⟨x4, h5, h⟩ := bind_some h
  refine o_ca (fc_L18_FewWrites _ _ h5) (g0 rfl) rfl rfl rfl rfl rfl rfl rfl (.cons (.refl _) .nil) rfl rfl ?_
  refine o_s (.t (.d (.lit (.bool (!x4))))) (g0 rfl) rfl rfl rfl ?_
  refine o_s (.t (.d (.lit (.bool (!x4))))) (g0 rfl) rfl rfl rfl ?_
  rcases bif_some h with ⟨h6, h⟩ | ⟨h6, h⟩
  ·
   refine o_skip rfl rfl rfl h6 rfl rfl ?_
   refine o_skip rfl rfl rfl h6 rfl rfl ?_
   refine o_skip rfl rfl rfl h6 rfl rfl ?_
   refine o_pk (.t (.d (.lit (.bool true)))) (b := true) h6 (g0 rfl) rfl rfl rfl rfl rfl ?_
   refine o_nil ?_
   repeat (first | refine k1 ?_ | refine k4 ?_)
   refine c_t rfl rfl ?_
   refine c_sr ?_
   refine o_s (.t (.d (.lit (.bool true)))) (g0 rfl) rfl rfl rfl ?_
   refine o_nil ?_
   repeat (first | refine k1 ?_ | refine k4 ?_)
   refine c_ret ?_
   repeat (first | refine k3 ?_ | refine k5 ?_)
   obtain rfl := Option.some.inj h
   exact ⟨⟨_, rfl, (.refl _)⟩, trivial, rfl⟩
  ·
   refine o_s (.t (.d (.seq 2 (List.map cS_api_Write p0)))) (gy rfl rfl rfl h6) rfl rfl rfl ?_
   refine o_c (gy rfl rfl rfl h6) rfl rfl rfl (lenE _ _) trivial ?_
   refine o_s (.t (.d (.lit (.bool ((p0.length : Int) == 0))))) (gy rfl rfl rfl h6) rfl rfl rfl ?_
   refine o_pk (.t (.d (.lit (.bool ((p0.length : Int) == 0))))) (b := false) h6 (g0 rfl) rfl rfl rfl rfl rfl ?_
   refine o_nil ?_
   repeat (first | refine k1 ?_ | refine k4 ?_)
   rcases bif_some h with ⟨h7, h⟩ | ⟨h7, h⟩
   ·
    refine c_t h7 rfl ?_
    refine c_sr ?_
    refine o_s (.t (.d (.lit (.bool true)))) (g0 rfl) rfl rfl rfl ?_
    refine o_nil ?_
    repeat (first | refine k1 ?_ | refine k4 ?_)
    refine c_ret ?_
    repeat (first | refine k3 ?_ | refine k5 ?_)
    obtain rfl := Option.some.inj h
    exact ⟨⟨_, rfl, (.refl _)⟩, trivial, rfl⟩
   ·
    refine c_f h7 rfl ?_
    refine c_skip ?_
    repeat (first | refine k1 ?_ | refine k4 ?_)
    refine c_sr ?_
    obtain ⟨x8, h9, h⟩ := bind_some h
    refine o_of (e := [(HK, .hp (hpA x8.2.2)), (31, .tup [(ptT 1 x8.1), .d (.lit (.int .i64 x8.2.1))])]) (g0 rfl) (h_call (Mk.refl _) rfl (σ := []) (fr := []) rfl rfl rfl rfl rfl rfl rfl (fch_disk_New _ x1.2 _ h9) (pure_hpA _) (pure_hpA _) rfl rfl rfl rfl (.cons (.plain (.refl _) rfl) .nil) rfl (.tup (.cons (ptT_pt _ _) (.cons (.flat rfl) .nil)))) rfl ?_
    refine o_c (g0 rfl) rfl rfl rfl (congrArg A.tup (cp_cons (ptT_cp _ _) (cp_cons rfl cp_nil))) trivial ?_
    rcases ptM_some h with ⟨h10, h⟩ | ⟨i11, h10, h⟩
    ·
     exact none_ne h
    ·
     refine o_c (g0 rfl) rfl rfl rfl (congrArg A.t ((ptT_cp _ _).trans (ptT_some h10))) trivial ?_
     refine o_s (.t (.d (.lit (.int .i64 x8.2.1)))) (g0 rfl) rfl rfl rfl ?_
     refine o_of (e := [(7, .t (.hpt (cd 1 i11) 0))]) (g0 rfl) (h_mv (Mk.refl _) (.inr rfl) rfl rfl rfl) rfl ?_
     refine o_s (.t (.d (.lit (.int .i64 x8.2.1)))) (g0 rfl) rfl rfl rfl ?_
     refine o_nil ?_
     repeat (first | refine k1 ?_ | refine k4 ?_)
     refine c_sr ?_
     refine o_of (e := [(34, .t (.hpt (cd 1 i11) 0))]) (g0 rfl) (h_mv (Mk.refl _) (.inl rfl) rfl rfl rfl) rfl ?_
     obtain ⟨x12, h13, h⟩ := bind_some h
     refine o_of (e := [(HK, .hp (hpA x12.2)), (35, .t (.d (.lit (.int .i64 x12.1))))]) (g0 rfl) (h_call (Mk.refl _) rfl (σ := []) (fr := []) rfl rfl rfl rfl rfl rfl rfl (fch_wal_Format _ _ x8.2.2 _ h13) (pure_hpA _) (pure_hpA _) rfl rfl rfl rfl (.cons (.hpt _ _) (.cons (.plain (.refl _) rfl) .nil)) rfl (.t (.flat rfl))) rfl ?_
     refine o_nil ?_
     repeat (first | refine k1 ?_ | refine k4 ?_)
     refine c_sr ?_
     refine o_of (e := [(37, .t (.hpt (cd 1 i11) 0))]) (g0 rfl) (h_mv (Mk.refl _) (.inl rfl) rfl rfl rfl) rfl ?_
     obtain ⟨x14, h15, h⟩ := bind_some h
     refine o_of (e := [(HK, .hp (hpA x14.2.2)), (38, .tup [(ptT 3 x14.1), .d (.lit (.int .i64 x14.2.1))])]) (g0 rfl) (h_call (Mk.refl _) rfl (σ := []) (fr := []) rfl rfl rfl rfl rfl rfl rfl (fch_wal_Open _ x12.2 _ h15) (pure_hpA _) (pure_hpA _) rfl rfl rfl rfl (.cons (.hpt _ _) .nil) rfl (.tup (.cons (ptT_pt _ _) (.cons (.flat rfl) .nil)))) rfl ?_
     refine o_c (g0 rfl) rfl rfl rfl (congrArg A.tup (cp_cons (ptT_cp _ _) (cp_cons rfl cp_nil))) trivial ?_
     rcases ptM_some h with ⟨h16, h⟩ | ⟨i17, h16, h⟩
     ·
      exact none_ne h
     ·
      refine o_c (g0 rfl) rfl rfl rfl (congrArg A.t ((ptT_cp _ _).trans (ptT_some h16))) trivial ?_
      refine o_s (.t (.d (.lit (.int .i64 x14.2.1)))) (g0 rfl) rfl rfl rfl ?_
      refine o_of (e := [(9, .t (.hpt (cd 3 i17) 0))]) (g0 rfl) (h_mv (Mk.refl _) (.inr rfl) rfl rfl rfl) rfl ?_
      refine o_s (.t (.d (.lit (.int .i64 x14.2.1)))) (g0 rfl) rfl rfl rfl ?_
      refine o_nil ?_
      repeat (first | refine k1 ?_ | refine k4 ?_)
      refine c_seq ?_
      refine c_sr ?_
      refine o_s (.t (.d (.lit (.int .i64 x14.2.1)))) (g0 rfl) rfl rfl rfl ?_
      refine o_s (.t (.d (.lit (.bool (x14.2.1 != 0))))) (g0 rfl) rfl rfl rfl ?_
      refine o_nil ?_
      repeat (first | refine k1 ?_ | refine k4 ?_)
      rcases bif_some h with ⟨h18, h⟩ | ⟨h18, h⟩
      ·
       refine c_t h18 rfl ?_
       refine c_sr ?_
       refine o_s (.t (.d (.lit (.bool false)))) (g0 rfl) rfl rfl rfl ?_
       refine o_nil ?_
       repeat (first | refine k1 ?_ | refine k4 ?_)
       refine c_ret ?_
       repeat (first | refine k3 ?_ | refine k5 ?_)
       obtain rfl := Option.some.inj h
       exact ⟨⟨_, rfl, (.refl _)⟩, trivial, rfl⟩
      ·
       refine c_f h18 rfl ?_
       refine c_skip ?_
       repeat (first | refine k1 ?_ | refine k4 ?_)
       refine c_sr ?_
       refine o_of (e := [(44, .t (.hpt (cd 3 i17) 0))]) (g0 rfl) (h_mv (Mk.refl _) (.inl rfl) rfl rfl rfl) rfl ?_
       obtain ⟨x19, h20, h⟩ := bind_some h
       refine o_of (e := [(45, .tup [.d (.seq 1 (List.map (cSl 1 cU8) x19.1)), .d (.lit (.bool x19.2))])]) (g0 rfl) (h_callR (Mk.refl _) rfl (σ := []) (fr := []) rfl rfl rfl rfl rfl rfl rfl (fch_L18_homes _ x14.2.2 _ h20) (pure_hpA _) rfl rfl rfl rfl (.cons (.hpt _ _) .nil) rfl (.tup (.cons (.flat rfl) (.cons (.flat rfl) .nil)))) rfl ?_
       refine o_s (.tup [.d (.seq 1 (List.map (cSl 1 cU8) x19.1)), .d (.lit (.bool x19.2))]) (g0 rfl) rfl rfl rfl ?_
       refine o_s (.t (.d (.seq 1 (List.map (cSl 1 cU8) x19.1)))) (g0 rfl) rfl rfl rfl ?_
       refine o_s (.t (.d (.lit (.bool x19.2)))) (g0 rfl) rfl rfl rfl ?_
       refine o_s (.t (.d (.seq 1 (List.map (cSl 1 cU8) x19.1)))) (g0 rfl) rfl rfl rfl ?_
       refine o_s (.t (.d (.lit (.bool x19.2)))) (g0 rfl) rfl rfl rfl ?_
       refine o_nil ?_
       repeat (first | refine k1 ?_ | refine k4 ?_)
       refine c_seq ?_
       refine c_sr ?_
       refine o_of (e := [(48, .t (.hpt (cd 3 i17) 0))]) (g0 rfl) (h_mv (Mk.refl _) (.inl rfl) rfl rfl rfl) rfl ?_
       refine o_s (.t (.d (.seq 2 (List.map cS_api_Write p0)))) (g0 rfl) rfl rfl rfl ?_
       obtain ⟨x21, h22, h⟩ := bind_some h
       refine o_of (e := [(HK, .hp (hpA x21.2)), (50, .t (.d (.lit (.int .i64 x21.1))))]) (g0 rfl) (h_call (Mk.refl _) rfl (σ := []) (fr := []) rfl rfl rfl rfl rfl rfl rfl (fch_wal_Log_Commit _ _ x14.2.2 _ h22) (pure_hpA _) (pure_hpA _) rfl rfl rfl rfl (.cons (.hpt _ _) (.cons (.plain (.refl _) rfl) .nil)) rfl (.t (.flat rfl))) rfl ?_
       refine o_s (.t (.d (.lit (.int .i64 x21.1)))) (g0 rfl) rfl rfl rfl ?_
       refine o_nil ?_
       repeat (first | refine k1 ?_ | refine k4 ?_)
       refine c_sr ?_
       refine o_s (.t (.d (.lit (.int .i64 x21.1)))) (g0 rfl) rfl rfl rfl ?_
       refine o_s (.t (.d (.lit (.bool (x21.1 != 0))))) (g0 rfl) rfl rfl rfl ?_
       refine o_nil ?_
       repeat (first | refine k1 ?_ | refine k4 ?_)
       rcases bif_some h with ⟨h23, h⟩ | ⟨h23, h⟩
       ·
        refine c_t h23 rfl ?_
        refine c_sr ?_
        refine o_s (.t (.d (.lit (.int .i64 x21.1)))) (g0 rfl) rfl rfl rfl ?_
        refine o_s (.t (.d (.lit (.bool (x21.1 == 2))))) (g0 rfl) rfl rfl rfl ?_
        refine o_s (.t (.d (.lit (.bool (x21.1 == 2))))) (g0 rfl) rfl rfl rfl ?_
        refine o_nil ?_
        repeat (first | refine k1 ?_ | refine k4 ?_)
        refine c_ret ?_
        repeat (first | refine k3 ?_ | refine k5 ?_)
        obtain rfl := Option.some.inj h
        exact ⟨⟨_, rfl, (.refl _)⟩, trivial, rfl⟩
       ·
        refine c_f h23 rfl ?_
        refine c_skip ?_
        repeat (first | refine k1 ?_ | refine k4 ?_)
        refine c_sr ?_
        refine o_of (e := [(56, .t (.hpt (cd 3 i17) 0))]) (g0 rfl) (h_mv (Mk.refl _) (.inl rfl) rfl rfl rfl) rfl ?_
        obtain ⟨x24, h25, h⟩ := bind_some h
        refine o_of (e := [(57, .tup [.d (.seq 1 (List.map (cSl 1 cU8) x24.1)), .d (.lit (.bool x24.2))])]) (g0 rfl) (h_callR (Mk.refl _) rfl (σ := []) (fr := []) rfl rfl rfl rfl rfl rfl rfl (fch_L18_homes _ x21.2 _ h25) (pure_hpA _) rfl rfl rfl rfl (.cons (.hpt _ _) .nil) rfl (.tup (.cons (.flat rfl) (.cons (.flat rfl) .nil)))) rfl ?_
        refine o_s (.tup [.d (.seq 1 (List.map (cSl 1 cU8) x24.1)), .d (.lit (.bool x24.2))]) (g0 rfl) rfl rfl rfl ?_
        refine o_s (.t (.d (.seq 1 (List.map (cSl 1 cU8) x24.1)))) (g0 rfl) rfl rfl rfl ?_
        refine o_s (.t (.d (.lit (.bool x24.2)))) (g0 rfl) rfl rfl rfl ?_
        refine o_s (.t (.d (.seq 1 (List.map (cSl 1 cU8) x24.1)))) (g0 rfl) rfl rfl rfl ?_
        refine o_s (.t (.d (.lit (.bool x24.2)))) (g0 rfl) rfl rfl rfl ?_
        refine o_nil ?_
        repeat (first | refine k1 ?_ | refine k4 ?_)
        refine c_seq ?_
        refine c_sr ?_
        refine o_s (.t (.d (.seq 1 (List.map (cSl 1 cU8) x24.1)))) (g0 rfl) rfl rfl rfl ?_
        refine o_s (.t (.d (.seq 1 (List.map (cSl 1 cU8) x19.1)))) (g0 rfl) rfl rfl rfl ?_
        refine o_s (.t (.d (.seq 2 (List.map cS_api_Write p0)))) (g0 rfl) rfl rfl rfl ?_
        obtain ⟨x26, h27, h⟩ := bind_some h
        refine o_of (e := [(63, .t (.d (.seq 1 (List.map (cSl 1 cU8) x26))))]) (g0 rfl) (h_callR (Mk.refl _) rfl (σ := []) (fr := []) rfl rfl rfl rfl rfl rfl rfl (fch_L18_done _ _ x21.2 _ h27) (pure_hpA _) rfl rfl rfl rfl (.cons (.plain (.refl _) rfl) (.cons (.plain (.refl _) rfl) .nil)) rfl (.t (.flat rfl))) rfl ?_
        obtain ⟨x28, h29, h⟩ := bind_some h
        refine o_ca (fc_L18_same _ _ _ h29) (g0 rfl) rfl rfl rfl rfl rfl rfl rfl (.cons (.refl _) (.cons (.refl _) .nil)) rfl rfl ?_
        refine o_s (.t (.d (.lit (.bool (!x28))))) (g0 rfl) rfl rfl rfl ?_
        refine o_nil ?_
        repeat (first | refine k1 ?_ | refine k4 ?_)
        rcases bif_some h with ⟨h30, h⟩ | ⟨h30, h⟩
        ·
         refine c_t h30 rfl ?_
         refine c_sr ?_
         refine o_s (.t (.d (.lit (.bool false)))) (g0 rfl) rfl rfl rfl ?_
         refine o_nil ?_
         repeat (first | refine k1 ?_ | refine k4 ?_)
         refine c_ret ?_
         repeat (first | refine k3 ?_ | refine k5 ?_)
         obtain rfl := Option.some.inj h
         exact ⟨⟨_, rfl, (.refl _)⟩, trivial, rfl⟩
        ·
         refine c_f h30 rfl ?_
         refine c_skip ?_
         repeat (first | refine k1 ?_ | refine k4 ?_)
         refine c_sr ?_
         refine o_of (e := [(66, .t (.hpt (cd 1 i11) 0))]) (g0 rfl) (h_mv (Mk.refl _) (.inl rfl) rfl rfl rfl) rfl ?_
         obtain ⟨x31, h32, h⟩ := bind_some h
         refine o_of (e := [(HK, .hp (hpA x31.2)), (67, .t (.d (.lit (.int .i64 x31.1))))]) (g0 rfl) (h_call (Mk.refl _) rfl (σ := []) (fr := []) rfl rfl rfl rfl rfl rfl rfl (fch_disk_Disk_Crash _ _ x21.2 _ h32) (pure_hpA _) (pure_hpA _) rfl rfl rfl rfl (.cons (.hpt _ _) (.cons (.plain (.t (.d (.nil _))) rfl) .nil)) rfl (.t (.flat rfl))) rfl ?_
         refine o_nil ?_
         repeat (first | refine k1 ?_ | refine k4 ?_)
         refine c_sr ?_
         refine o_s (.t (.d (.lit (.int .u16 p1)))) (g0 rfl) rfl rfl rfl ?_
         refine o_s (.t (.d (.lit (.int .i64 (wi p1))))) (g0 rfl) rfl rfl rfl ?_
         refine o_s (.t (.d (.seq 2 (List.map cS_api_Write p0)))) (g0 rfl) rfl rfl rfl ?_
         refine o_c (g0 rfl) rfl rfl rfl (lenE _ _) trivial ?_
         refine o_s (.t (.d (.lit (.int .i64 (wi (2 * (p0.length : Int))))))) (g0 rfl) rfl rfl rfl ?_
         refine o_s (.t (.d (.lit (.int .i64 (wi ((wi (2 * (p0.length : Int))) + 1)))))) (g0 rfl) rfl rfl rfl ?_
         refine o_s (.t (.d (.lit (.int .i64 (wi (64 * (wi ((wi (2 * (p0.length : Int))) + 1)))))))) (g0 rfl) rfl rfl rfl ?_
         obtain ⟨x33, h34, h⟩ := bind_some h
         refine o_b (.t (.d (.lit (.int .i64 x33)))) (remIE h34) (g0 rfl) rfl rfl rfl rfl rfl rfl rfl ?_
         refine o_s (.t (.d (.lit (.int .i64 x33)))) (g0 rfl) rfl rfl rfl ?_
         refine o_nil ?_
         repeat (first | refine k1 ?_ | refine k4 ?_)
         refine c_sr ?_
         refine o_of (e := [(77, .t (.hpt (cd 1 i11) 0))]) (g0 rfl) (h_mv (Mk.refl _) (.inl rfl) rfl rfl rfl) rfl ?_
         refine o_s (.t (.d (.lit (.int .i64 x33)))) (g0 rfl) rfl rfl rfl ?_
         refine o_s (.t (.d (.lit (.int .i64 (wi (Int.tdiv x33 64)))))) (g0 rfl) rfl rfl rfl ?_
         refine o_s (.t (.d (.lit (.int .i64 (wi (2 + (wi (Int.tdiv x33 64)))))))) (g0 rfl) rfl rfl rfl ?_
         obtain ⟨x35, h36, h⟩ := bind_some h
         refine o_of (e := [((OB + 0), gbA cU8 x35.1), (81, .tup [.view 0 0 0 1 x35.1.length, .d (.lit (.int .i64 x35.2))])]) (g0 rfl) (h_callR (Mk.refl _) rfl (σ := []) (fr := [0]) rfl rfl rfl rfl rfl rfl rfl (fch_disk_Disk_Read_r _ _ x31.2 _ h36) (pure_hpA _) rfl rfl (by simp [gb_flatO]) rfl (.cons (.hpt _ _) (.cons (.plain (.refl _) rfl) .nil)) rfl (.tup (.cons (.view rfl) (.cons (.flat rfl) .nil)))) rfl ?_
         refine o_s (.tup [.view 0 0 0 1 x35.1.length, .d (.lit (.int .i64 x35.2))]) (g0 rfl) rfl rfl rfl ?_
         refine o_s (.t (.view 0 0 0 1 x35.1.length)) (g0 rfl) rfl rfl rfl ?_
         refine o_s (.t (.d (.lit (.int .i64 x35.2)))) (g0 rfl) rfl rfl rfl ?_
         refine o_s (.t (.view 0 0 0 1 x35.1.length)) (g0 rfl) rfl rfl rfl ?_
         refine o_s (.t (.d (.lit (.int .i64 x35.2)))) (g0 rfl) rfl rfl rfl ?_
         refine o_nil ?_
         repeat (first | refine k1 ?_ | refine k4 ?_)
         refine c_seq ?_
         refine c_sr ?_
         refine o_s (.t (.d (.lit (.int .i64 x35.2)))) (g0 rfl) rfl rfl rfl ?_
         refine o_s (.t (.d (.lit (.bool (x35.2 != 0))))) (g0 rfl) rfl rfl rfl ?_
         refine o_s (.t (.d (.lit (.bool (x35.2 != 0))))) (g0 rfl) rfl rfl rfl ?_
         rcases bif_some h with ⟨h37, h⟩ | ⟨h37, h⟩
         ·
          refine o_skip rfl rfl rfl h37 rfl rfl ?_
          refine o_skip rfl rfl rfl h37 rfl rfl ?_
          refine o_skip rfl rfl rfl h37 rfl rfl ?_
          refine o_pk (.t (.d (.lit (.bool true)))) (b := true) h37 (g0 rfl) rfl rfl rfl rfl rfl ?_
          refine o_nil ?_
          repeat (first | refine k1 ?_ | refine k4 ?_)
          refine c_t rfl rfl ?_
          refine c_sr ?_
          refine o_s (.t (.d (.lit (.bool false)))) (g0 rfl) rfl rfl rfl ?_
          refine o_nil ?_
          repeat (first | refine k1 ?_ | refine k4 ?_)
          refine c_ret ?_
          repeat (first | refine k3 ?_ | refine k5 ?_)
          obtain rfl := Option.some.inj h
          exact ⟨⟨_, rfl, (.refl _)⟩, trivial, rfl⟩
         ·
          refine o_s (.t (.view 0 0 0 1 x35.1.length)) (gy rfl rfl rfl h37) rfl rfl rfl ?_
          refine o_of (e := [(88, .t (.d (.lit (.int .i64 (x35.1.length : Int)))))]) (gy rfl rfl rfl h37) (h_lln (Mk.refl _) rfl rfl rfl rfl rfl rfl) rfl ?_
          refine o_s (.t (.d (.lit (.bool ((x35.1.length : Int) != 64))))) (gy rfl rfl rfl h37) rfl rfl rfl ?_
          refine o_pk (.t (.d (.lit (.bool ((x35.1.length : Int) != 64))))) (b := false) h37 (g0 rfl) rfl rfl rfl rfl rfl ?_
          refine o_nil ?_
          repeat (first | refine k1 ?_ | refine k4 ?_)
          rcases bif_some h with ⟨h38, h⟩ | ⟨h38, h⟩
          ·
           refine c_t h38 rfl ?_
           refine c_sr ?_
           refine o_s (.t (.d (.lit (.bool false)))) (g0 rfl) rfl rfl rfl ?_
           refine o_nil ?_
           repeat (first | refine k1 ?_ | refine k4 ?_)
           refine c_ret ?_
           repeat (first | refine k3 ?_ | refine k5 ?_)
           obtain rfl := Option.some.inj h
           exact ⟨⟨_, rfl, (.refl _)⟩, trivial, rfl⟩
          ·
           refine c_f h38 rfl ?_
           refine c_skip ?_
           repeat (first | refine k1 ?_ | refine k4 ?_)
           refine c_sr ?_
           refine o_s (.t (.view 0 0 0 1 x35.1.length)) (g0 rfl) rfl rfl rfl ?_
           refine o_s (.t (.d (.lit (.int .i64 x33)))) (g0 rfl) rfl rfl rfl ?_
           refine o_s (.t (.d (.lit (.int .i64 (Int.tmod x33 64))))) (g0 rfl) rfl rfl rfl ?_
           refine o_s (.t (.view 0 0 0 1 x35.1.length)) (g0 rfl) rfl rfl rfl ?_
           refine o_s (.t (.d (.lit (.int .i64 x33)))) (g0 rfl) rfl rfl rfl ?_
           refine o_s (.t (.d (.lit (.int .i64 (Int.tmod x33 64))))) (g0 rfl) rfl rfl rfl ?_
           obtain ⟨x39, h40, h⟩ := bind_some h
           refine o_of (e := [(97, .ref (OB + 0) (0 + Int.toNat (Int.tmod x33 64) * 1))]) (g0 rfl) (h_lix (Mk.refl _) rfl rfl rfl rfl rfl (idxV rfl h40) rfl rfl rfl) rfl ?_
           refine o_of (e := [(98, .t (.d (.lit (.int .u8 (x39.toNat : Int)))))]) (g0 rfl) (h_lld (Mk.refl _) rfl rfl rfl (gb_box h40) (fl_at h40 rfl (fun _ => rfl)) rfl rfl rfl) rfl ?_
           refine o_s (.t (.d (.lit (.int .u8 (p2.toNat : Int))))) (g0 rfl) rfl rfl rfl ?_
           refine o_c (g0 rfl) rfl rfl rfl (congrArg (fun z => A.t (.d (.lit (.int .u8 z)))) (u8c _)) trivial ?_
           obtain ⟨x41, h42, h⟩ := bind_some h
           refine o_of (e := [(101, .ref (OB + 0) (0 + Int.toNat (Int.tmod x33 64) * 1))]) (g0 rfl) (h_lix (Mk.refl _) rfl rfl rfl rfl rfl (idxV rfl h42) rfl rfl rfl) rfl ?_
           refine o_of (e := [((OB + 0), gbA cU8 (x35.1.set (Int.toNat (Int.tmod x33 64)) (U8 ((((BitVec.ofInt IntKind.u8.bits (x39.toNat : Int)) ^^^ (BitVec.ofInt IntKind.u8.bits (p2.toNat : Int))).toNat : Nat) : Int))))]) (g0 rfl) (OpH.ob (h_lst (Mk.refl _) rfl rfl rfl rfl (gb_box h42) rfl rfl (fl_room h42 (fun _ => rfl)) (fl_put h42 (U8 ((((BitVec.ofInt IntKind.u8.bits (x39.toNat : Int)) ^^^ (BitVec.ofInt IntKind.u8.bits (p2.toNat : Int))).toNat : Nat) : Int)) (fun _ => rfl) rfl)) (gb_set h42)) rfl ?_
           refine o_nil ?_
           repeat (first | refine k1 ?_ | refine k4 ?_)
           refine c_seq ?_
           refine c_seq ?_
           refine c_frzN (cc := cU8) (y := ((x35.1.set (Int.toNat (Int.tmod x33 64)) (U8 ((((BitVec.ofInt IntKind.u8.bits (x39.toNat : Int)) ^^^ (BitVec.ofInt IntKind.u8.bits (p2.toNat : Int))).toNat : Nat) : Int))) : List UInt8)) (k := 1) 17 0 rfl (by simp) rfl (fun _ => rfl) rfl ⟨.inr ⟨_, rfl, pure_hpA _⟩, by (repeat (first | exact ObP.nil | refine ObP.cons (.inl rfl) ?_ | refine ObP.cons (.inr (fun _ => rfl)) ?_ | refine ObP.cons (.inr (ob_box (fl_noPt _ _))) ?_ | refine ObP.cons (.inr (ob_gb _ _)) ?_))⟩ rfl ?_
           refine c_region ?_
           refine o_of (e := [(102, .t (.hpt (cd 1 i11) 0))]) (g0 rfl) (h_mv (Mk.refl _) (.inl rfl) rfl rfl rfl) rfl ?_
           refine o_s (.t (.d (.lit (.int .i64 x33)))) (g0 rfl) rfl rfl rfl ?_
           refine o_s (.t (.d (.lit (.int .i64 (wi (Int.tdiv x33 64)))))) (g0 rfl) rfl rfl rfl ?_
           refine o_s (.t (.d (.lit (.int .i64 (wi (2 + (wi (Int.tdiv x33 64)))))))) (g0 rfl) rfl rfl rfl ?_
           refine o_s (.t (.d (.seq 1 (bytesD (x35.1.set (Int.toNat (Int.tmod x33 64)) (U8 ((((BitVec.ofInt IntKind.u8.bits (x39.toNat : Int)) ^^^ (BitVec.ofInt IntKind.u8.bits (p2.toNat : Int))).toNat : Nat) : Int))))))) (g0 rfl) rfl rfl rfl ?_
           obtain ⟨x43, h44, h⟩ := bind_some h
           refine o_of (e := [(HK, .hp (hpA x43.2)), (107, .t (.d (.lit (.int .i64 x43.1))))]) (g0 rfl) (h_call (Mk.refl _) rfl (σ := []) (fr := []) rfl rfl rfl rfl rfl rfl rfl (fch_disk_Disk_Write _ _ _ x31.2 _ h44) (pure_hpA _) (pure_hpA _) rfl rfl rfl rfl (.cons (.hpt _ _) (.cons (.plain (.refl _) rfl) (.cons (.plain (.refl _) rfl) .nil))) rfl (.t (.flat rfl))) rfl ?_
           refine o_s (.t (.d (.lit (.bool (x43.1 != 0))))) (g0 rfl) rfl rfl rfl ?_
           refine o_nil ?_
           repeat (first | refine k1 ?_ | refine k4 ?_)
           rcases bif_some h with ⟨h45, h⟩ | ⟨h45, h⟩
           ·
            refine c_t h45 rfl ?_
            refine c_sr ?_
            refine o_s (.t (.d (.lit (.bool false)))) (g0 rfl) rfl rfl rfl ?_
            refine o_nil ?_
            repeat (first | refine k1 ?_ | refine k4 ?_)
            refine c_ret ?_
            repeat (first | refine k3 ?_ | refine k5 ?_)
            obtain rfl := Option.some.inj h
            exact ⟨⟨_, rfl, (.refl _)⟩, trivial, rfl⟩
           ·
            refine c_f h45 rfl ?_
            refine c_skip ?_
            repeat (first | refine k1 ?_ | refine k4 ?_)
            refine c_sr ?_
            refine o_of (e := [(110, .t (.hpt (cd 1 i11) 0))]) (g0 rfl) (h_mv (Mk.refl _) (.inl rfl) rfl rfl rfl) rfl ?_
            obtain ⟨x46, h47, h⟩ := bind_some h
            refine o_of (e := [(HK, .hp (hpA x46.2.2)), (111, .tup [(ptT 3 x46.1), .d (.lit (.int .i64 x46.2.1))])]) (g0 rfl) (h_call (Mk.refl _) rfl (σ := []) (fr := []) rfl rfl rfl rfl rfl rfl rfl (fch_wal_Open _ x43.2 _ h47) (pure_hpA _) (pure_hpA _) rfl rfl rfl rfl (.cons (.hpt _ _) .nil) rfl (.tup (.cons (ptT_pt _ _) (.cons (.flat rfl) .nil)))) rfl ?_
            refine o_c (g0 rfl) rfl rfl rfl (congrArg A.tup (cp_cons (ptT_cp _ _) (cp_cons rfl cp_nil))) trivial ?_
            rcases ptM_some h with ⟨h48, h⟩ | ⟨i49, h48, h⟩
            ·
             exact none_ne h
            ·
             refine o_c (g0 rfl) rfl rfl rfl (congrArg A.t ((ptT_cp _ _).trans (ptT_some h48))) trivial ?_
             refine o_s (.t (.d (.lit (.int .i64 x46.2.1)))) (g0 rfl) rfl rfl rfl ?_
             refine o_of (e := [(9, .t (.hpt (cd 3 i49) 0))]) (g0 rfl) (h_mv (Mk.refl _) (.inr rfl) rfl rfl rfl) rfl ?_
             refine o_s (.t (.d (.lit (.int .i64 x46.2.1)))) (g0 rfl) rfl rfl rfl ?_
             refine o_nil ?_
             repeat (first | refine k1 ?_ | refine k4 ?_)
             refine c_sr ?_
             refine o_of (e := [(115, .t (.hpt (cd 3 i49) 0))]) (g0 rfl) (h_mv (Mk.refl _) (.inl rfl) rfl rfl rfl) rfl ?_
             obtain ⟨x50, h51, h⟩ := bind_some h
             refine o_of (e := [(116, .tup [.d (.seq 1 (List.map (cSl 1 cU8) x50.1)), .d (.lit (.bool x50.2))])]) (g0 rfl) (h_callR (Mk.refl _) rfl (σ := []) (fr := []) rfl rfl rfl rfl rfl rfl rfl (fch_L18_homes _ x46.2.2 _ h51) (pure_hpA _) rfl rfl rfl rfl (.cons (.hpt _ _) .nil) rfl (.tup (.cons (.flat rfl) (.cons (.flat rfl) .nil)))) rfl ?_
             refine o_s (.tup [.d (.seq 1 (List.map (cSl 1 cU8) x50.1)), .d (.lit (.bool x50.2))]) (g0 rfl) rfl rfl rfl ?_
             refine o_s (.t (.d (.seq 1 (List.map (cSl 1 cU8) x50.1)))) (g0 rfl) rfl rfl rfl ?_
             refine o_s (.t (.d (.lit (.bool x50.2)))) (g0 rfl) rfl rfl rfl ?_
             refine o_s (.t (.d (.seq 1 (List.map (cSl 1 cU8) x50.1)))) (g0 rfl) rfl rfl rfl ?_
             refine o_s (.t (.d (.lit (.bool x50.2)))) (g0 rfl) rfl rfl rfl ?_
             refine o_nil ?_
             repeat (first | refine k1 ?_ | refine k4 ?_)
             refine c_seq ?_
             refine c_sr ?_
             refine o_s (.t (.d (.lit (.int .u8 (p2.toNat : Int))))) (g0 rfl) rfl rfl rfl ?_
             refine o_s (.t (.d (.lit (.bool ((p2.toNat : Int) == 0))))) (g0 rfl) rfl rfl rfl ?_
             refine o_nil ?_
             repeat (first | refine k1 ?_ | refine k4 ?_)
             rcases bif_some h with ⟨h52, h⟩ | ⟨h52, h⟩
             ·
              refine c_t h52 rfl ?_
              refine c_sr ?_
              refine o_s (.t (.d (.lit (.int .i64 x46.2.1)))) (g0 rfl) rfl rfl rfl ?_
              refine o_s (.t (.d (.lit (.bool (x46.2.1 == 0))))) (g0 rfl) rfl rfl rfl ?_
              refine o_s (.t (.d (.lit (.bool (x46.2.1 == 0))))) (g0 rfl) rfl rfl rfl ?_
              rcases bif_some h with ⟨h53, h⟩ | ⟨h53, h⟩
              ·
               refine o_s (.t (.d (.lit (.bool x50.2)))) (gy rfl rfl rfl h53) rfl rfl rfl ?_
               refine o_pk (.t (.d (.lit (.bool x50.2)))) (b := true) h53 (g0 rfl) rfl rfl rfl rfl rfl ?_
               refine o_s (.t (.d (.lit (.bool x50.2)))) (g0 rfl) rfl rfl rfl ?_
               rcases bif_some h with ⟨h54, h⟩ | ⟨h54, h⟩
               ·
                refine o_s (.t (.d (.seq 1 (List.map (cSl 1 cU8) x50.1)))) (gy rfl rfl rfl h54) rfl rfl rfl ?_
                refine o_s (.t (.d (.seq 1 (List.map (cSl 1 cU8) x24.1)))) (gy rfl rfl rfl h54) rfl rfl rfl ?_
                obtain ⟨x55, h56, h⟩ := bind_some h
                refine o_ca (fc_L18_same _ _ _ h56) (gy rfl rfl rfl h54) rfl rfl rfl rfl rfl rfl rfl (.cons (.refl _) (.cons (.refl _) .nil)) rfl rfl ?_
                refine o_pk (.t (.d (.lit (.bool x55)))) (b := true) h54 (g0 rfl) rfl rfl rfl rfl rfl ?_
                refine o_s (.t (.d (.lit (.bool x55)))) (g0 rfl) rfl rfl rfl ?_
                refine o_nil ?_
                repeat (first | refine k1 ?_ | refine k4 ?_)
                refine c_ret ?_
                repeat (first | refine k3 ?_ | refine k5 ?_)
                obtain rfl := Option.some.inj h
                exact ⟨⟨_, rfl, (.refl _)⟩, trivial, rfl⟩
               ·
                refine o_skip rfl rfl rfl h54 rfl rfl ?_
                refine o_skip rfl rfl rfl h54 rfl rfl ?_
                refine o_skip rfl rfl rfl h54 rfl rfl ?_
                refine o_pk (.t (.d (.lit (.bool false)))) (b := false) h54 (g0 rfl) rfl rfl rfl rfl rfl ?_
                refine o_s (.t (.d (.lit (.bool false)))) (g0 rfl) rfl rfl rfl ?_
                refine o_nil ?_
                repeat (first | refine k1 ?_ | refine k4 ?_)
                refine c_ret ?_
                repeat (first | refine k3 ?_ | refine k5 ?_)
                obtain rfl := Option.some.inj h
                exact ⟨⟨_, rfl, (.refl _)⟩, trivial, rfl⟩
              ·
               refine o_skip rfl rfl rfl h53 rfl rfl ?_
               refine o_pk (.t (.d (.lit (.bool false)))) (b := false) h53 (g0 rfl) rfl rfl rfl rfl rfl ?_
               refine o_s (.t (.d (.lit (.bool false)))) (g0 rfl) rfl rfl rfl ?_
               refine o_skip rfl rfl rfl rfl rfl rfl ?_
               refine o_skip rfl rfl rfl rfl rfl rfl ?_
               refine o_skip rfl rfl rfl rfl rfl rfl ?_
               refine o_pk (.t (.d (.lit (.bool false)))) (b := false) rfl (g0 rfl) rfl rfl rfl rfl rfl ?_
               refine o_s (.t (.d (.lit (.bool false)))) (g0 rfl) rfl rfl rfl ?_
               refine o_nil ?_
               repeat (first | refine k1 ?_ | refine k4 ?_)
               refine c_ret ?_
               repeat (first | refine k3 ?_ | refine k5 ?_)
               obtain rfl := Option.some.inj h
               exact ⟨⟨_, rfl, (.refl _)⟩, trivial, rfl⟩
             ·
              refine c_f h52 rfl ?_
              refine c_skip ?_
              repeat (first | refine k1 ?_ | refine k4 ?_)
              refine c_sr ?_
              refine o_s (.t (.d (.lit (.int .i64 x46.2.1)))) (g0 rfl) rfl rfl rfl ?_
              refine o_s (.t (.d (.lit (.bool (x46.2.1 == 0))))) (g0 rfl) rfl rfl rfl ?_
              refine o_s (.t (.d (.lit (.bool (x46.2.1 == 0))))) (g0 rfl) rfl rfl rfl ?_
              rcases bif_some h with ⟨h57, h⟩ | ⟨h57, h⟩
              ·
               refine o_s (.t (.d (.lit (.bool x50.2)))) (gy rfl rfl rfl h57) rfl rfl rfl ?_
               refine o_pk (.t (.d (.lit (.bool x50.2)))) (b := true) h57 (g0 rfl) rfl rfl rfl rfl rfl ?_
               refine o_s (.t (.d (.lit (.bool x50.2)))) (g0 rfl) rfl rfl rfl ?_
               rcases bif_some h with ⟨h58, h⟩ | ⟨h58, h⟩
               ·
                refine o_s (.t (.d (.seq 1 (List.map (cSl 1 cU8) x50.1)))) (gy rfl rfl rfl h58) rfl rfl rfl ?_
                refine o_s (.t (.d (.seq 1 (List.map (cSl 1 cU8) x19.1)))) (gy rfl rfl rfl h58) rfl rfl rfl ?_
                obtain ⟨x59, h60, h⟩ := bind_some h
                refine o_ca (fc_L18_same _ _ _ h60) (gy rfl rfl rfl h58) rfl rfl rfl rfl rfl rfl rfl (.cons (.refl _) (.cons (.refl _) .nil)) rfl rfl ?_
                refine o_pk (.t (.d (.lit (.bool x59)))) (b := true) h58 (g0 rfl) rfl rfl rfl rfl rfl ?_
                refine o_s (.t (.d (.lit (.bool x59)))) (g0 rfl) rfl rfl rfl ?_
                refine o_nil ?_
                repeat (first | refine k1 ?_ | refine k4 ?_)
                refine c_ret ?_
                repeat (first | refine k3 ?_ | refine k5 ?_)
                obtain rfl := Option.some.inj h
                exact ⟨⟨_, rfl, (.refl _)⟩, trivial, rfl⟩
               ·
                refine o_skip rfl rfl rfl h58 rfl rfl ?_
                refine o_skip rfl rfl rfl h58 rfl rfl ?_
                refine o_skip rfl rfl rfl h58 rfl rfl ?_
                refine o_pk (.t (.d (.lit (.bool false)))) (b := false) h58 (g0 rfl) rfl rfl rfl rfl rfl ?_
                refine o_s (.t (.d (.lit (.bool false)))) (g0 rfl) rfl rfl rfl ?_
                refine o_nil ?_
                repeat (first | refine k1 ?_ | refine k4 ?_)
                refine c_ret ?_
                repeat (first | refine k3 ?_ | refine k5 ?_)
                obtain rfl := Option.some.inj h
                exact ⟨⟨_, rfl, (.refl _)⟩, trivial, rfl⟩
              ·
               refine o_skip rfl rfl rfl h57 rfl rfl ?_
               refine o_pk (.t (.d (.lit (.bool false)))) (b := false) h57 (g0 rfl) rfl rfl rfl rfl rfl ?_
               refine o_s (.t (.d (.lit (.bool false)))) (g0 rfl) rfl rfl rfl ?_
               refine o_skip rfl rfl rfl rfl rfl rfl ?_
               refine o_skip rfl rfl rfl rfl rfl rfl ?_
               refine o_skip rfl rfl rfl rfl rfl rfl ?_
               refine o_pk (.t (.d (.lit (.bool false)))) (b := false) rfl (g0 rfl) rfl rfl rfl rfl rfl ?_
               refine o_s (.t (.d (.lit (.bool false)))) (g0 rfl) rfl rfl rfl ?_
               refine o_nil ?_
               repeat (first | refine k1 ?_ | refine k4 ?_)
               refine c_ret ?_
               repeat (first | refine k3 ?_ | refine k5 ?_)
               obtain rfl := Option.some.inj h
               exact ⟨⟨_, rfl, (.refl _)⟩, trivial, rfl⟩

end Go.Proofs.Ytjomnccladjpgaa
