/-
  Walks of functions: each function does what its model tells. Printed by a program of this claim's own (gen.py) off the given translation.
-/
import Derived.Test.YtikaahmonocahaaQ20
import Derived.Test.YtikaahmonocahaaQ19
import Derived.Test.YtikaahmonocahaaQ16
import Derived.Test.YtikaahmonocahaaQ17
import Derived.Test.YtikaahmonocahaaQ21
namespace Go.Proofs.Ytikaahmonocahaa
open Go Go.RowKit
set_option linter.unusedVariables false
set_option maxHeartbeats 4000000
set_option maxRecDepth 20000
theorem fc_role_is (p0 : Int) (r : Bool) (h : m_role_is p0 = some r) : FC Try.prog 48 [.t (.d (.lit (.int .i64 p0)))] [] (.t (.d (.lit (.bool r)))) := by
 refine fc_mk (rs := [.tmp 2]) (n := 9) Try.func48 rfl rfl (Nat.le_of_ble_eq_true rfl) rfl (pins := []) rfl (L := [(0, .t (.d (.lit (.int .i64 p0))))]) rfl ?_
 refine c_sr ?_
 refine o_s (.t (.d (.lit (.bool false)))) (g0 rfl) rfl rfl rfl ?_
 refine o_nil ?_
 repeat (first | refine k1 ?_ | refine k4 ?_)
 refine c_sr ?_
 refine o_s (.t (.d (.lit (.int .i64 p0)))) (g0 rfl) rfl rfl rfl ?_
 refine o_s (.t (.d (.lit (.bool (decide (p0 ≥ 1)))))) (g0 rfl) rfl rfl rfl ?_
 refine o_s (.t (.d (.lit (.bool (decide (p0 ≥ 1)))))) (g0 rfl) rfl rfl rfl ?_
 rcases bif_some h with ⟨h1, h⟩ | ⟨h1, h⟩
 ·
  refine o_s (.t (.d (.lit (.int .i64 p0)))) (gy rfl rfl rfl h1) rfl rfl rfl ?_
  refine o_s (.t (.d (.lit (.bool (decide (p0 ≤ 4)))))) (gy rfl rfl rfl h1) rfl rfl rfl ?_
  refine o_pk (.t (.d (.lit (.bool (decide (p0 ≤ 4)))))) (b := true) h1 (g0 rfl) rfl rfl rfl rfl rfl ?_
  refine o_s (.t (.d (.lit (.bool (decide (p0 ≤ 4)))))) (g0 rfl) rfl rfl rfl ?_
  refine o_nil ?_
  repeat (first | refine k1 ?_ | refine k4 ?_)
  refine c_ret ?_
  repeat (first | refine k3 ?_ | refine k5 ?_)
  obtain rfl := Option.some.inj h
  exact end0 rfl (.refl _)
 ·
  refine o_skip rfl rfl rfl h1 rfl rfl ?_
  refine o_skip rfl rfl rfl h1 rfl rfl ?_
  refine o_pk (.t (.d (.lit (.bool false)))) (b := false) h1 (g0 rfl) rfl rfl rfl rfl rfl ?_
  refine o_s (.t (.d (.lit (.bool false)))) (g0 rfl) rfl rfl rfl ?_
  refine o_nil ?_
  repeat (first | refine k1 ?_ | refine k4 ?_)
  refine c_ret ?_
  repeat (first | refine k3 ?_ | refine k5 ?_)
  obtain rfl := Option.some.inj h
  exact end0 rfl (.refl _)

theorem fc_role_With (p0 : (List S_api_Member)) (p1 : Int) (r : (List (List UInt8))) (h : m_role_With p0 p1 = some r) : FC Try.prog 64 [.t (.d (.seq 2 (List.map cS_api_Member p0))), .t (.d (.lit (.int .i64 p1)))] [] (.t (.own 9 1 (List.map cStr r))) := by
 refine fc_mk (rs := [.tmp 4]) (n := 25) Try.func64 rfl rfl (Nat.le_of_ble_eq_true rfl) rfl (pins := []) rfl (L := [(0, .t (.d (.seq 2 (List.map cS_api_Member p0)))), (1, .t (.d (.lit (.int .i64 p1))))]) rfl ?_
 refine c_sr ?_
 refine o_s (.t (.d (.lit (.slice none 0 0)))) (g0 rfl) rfl rfl rfl ?_
 refine o_nil ?_
 repeat (first | refine k1 ?_ | refine k4 ?_)
 refine c_sr ?_
 refine o_s (.t (.d (.lit (.slice none 0 0)))) (g0 rfl) rfl rfl rfl ?_
 refine o_nil ?_
 repeat (first | refine k1 ?_ | refine k4 ?_)
 refine c_seq ?_
 refine c_sr ?_
 refine o_s (.t (.d (.seq 2 (List.map cS_api_Member p0)))) (g0 rfl) rfl rfl rfl ?_
 refine o_c (g0 rfl) rfl rfl rfl (lenE _ _) trivial ?_
 refine o_s (.t (.d (.lit (.int .i64 0)))) (g0 rfl) rfl rfl rfl ?_
 refine o_nil ?_
 repeat (first | refine k1 ?_ | refine k4 ?_)
 refine c_block ?_
 refine c_fuel (fun (q : (List (List UInt8)) × Int) => [(1, .t (.d (.lit (.int .i64 p1)))), (5, .t (.own 9 1 (List.map cStr q.1))), (8, .t (.d (.seq 2 (List.map cS_api_Member p0)))), (9, .t (.d (.lit (.int .i64 (p0.length : Int))))), (10, .t (.d (.lit (.int .i64 q.2))))]) (fun nl1 => (fun (q : (List (List UInt8)) × Int) => m_role_With_l1 p0 p1 nl1 q.1 q.2 = some r)) (p0.length + 1) ([], 0) h ⟨(.refl _), ⟨(.t (.nilOwn _ _)), ⟨(.refl _), ⟨(.refl _), ⟨(.refl _), trivial⟩⟩⟩⟩⟩ rfl ?_
 rintro nl1 ⟨z1, z2⟩ h
 cases nl1 with
 | zero => exact none_ne h
 | succ nl1 =>
  refine c_sr ?_
  refine o_s (.t (.d (.lit (.bool (decide (z2 < (p0.length : Int))))))) (g0 rfl) rfl rfl rfl ?_
  refine o_nil ?_
  repeat (first | refine k1 ?_ | refine k4 ?_)
  refine c_seq ?_
  rcases bif_some h with ⟨h3, h⟩ | ⟨h3, h⟩
  ·
   refine c_t h3 rfl ?_
   refine c_skip ?_
   repeat (first | refine k1 ?_ | refine k4 ?_)
   refine c_seq ?_
   refine c_block ?_
   refine c_sr ?_
   obtain ⟨x4, h5, h⟩ := bind_some h
   refine o_c (g0 rfl) rfl rfl rfl (idxE h5) (idxC h5) ?_
   refine o_s (.t (.agg [.lit (.string ⟨⟨x4.Name⟩⟩), .lit (.int .i64 x4.Role)])) (g0 rfl) rfl rfl rfl ?_
   refine o_s (.box [.d (.lit (.string ⟨⟨[]⟩⟩)), .d (.lit (.int .i64 0))]) (g0 rfl) rfl rfl rfl ?_
   refine o_st (.box [.d (.lit (.string ⟨⟨x4.Name⟩⟩)), .d (.lit (.int .i64 x4.Role))]) (g0 rfl) rfl rfl rfl ?_
   refine o_nil ?_
   repeat (first | refine k1 ?_ | refine k4 ?_)
   refine c_sr ?_
   refine o_s (.ref 7 1) (g0 rfl) rfl rfl rfl ?_
   refine o_s (.t (.d (.lit (.int .i64 x4.Role)))) (g0 rfl) rfl rfl rfl ?_
   refine o_s (.t (.d (.lit (.int .i64 p1)))) (g0 rfl) rfl rfl rfl ?_
   refine o_s (.t (.d (.lit (.bool (decide (x4.Role ≥ p1)))))) (g0 rfl) rfl rfl rfl ?_
   refine o_nil ?_
   repeat (first | refine k1 ?_ | refine k4 ?_)
   rcases bif_some h with ⟨h6, h⟩ | ⟨h6, h⟩
   ·
    refine c_t h6 rfl ?_
    refine c_region ?_
    refine o_2 (.t (.d (.seq 1 (List.map cStr z1)))) (.t (.own 9 1 (List.map cStr z1))) (g0 rfl) rfl rfl rfl ?_
    refine o_s (.ref 7 0) (g0 rfl) rfl rfl rfl ?_
    refine o_s (.t (.d (.lit (.string ⟨⟨x4.Name⟩⟩)))) (g0 rfl) rfl rfl rfl ?_
    refine o_s (.t (.own 9 1 (List.map cStr [x4.Name]))) (g0 rfl) rfl rfl rfl ?_
    obtain ⟨x7, h8, h⟩ := bind_some h
    refine o_2c (g0 rfl) rfl rfl rfl (appE (c := cStr) h8) (appC (c := cStr) h8) ?_
    refine o_2 (.t (.d (.seq 1 (List.map cStr x7)))) (.t (.own 9 1 (List.map cStr x7))) (g0 rfl) rfl rfl rfl ?_
    refine o_nil ?_
    repeat (first | refine k1 ?_ | refine k4 ?_)
    refine c_region ?_
    refine o_s (.t (.d (.lit (.int .i64 (wi (z2 + 1)))))) (g0 rfl) rfl rfl rfl ?_
    refine o_s (.t (.d (.lit (.int .i64 (wi (z2 + 1)))))) (g0 rfl) rfl rfl rfl ?_
    refine o_nil ?_
    repeat (first | refine k1 ?_ | refine k4 ?_)
    exact ⟨nl1, (x7, (wi (z2 + 1))), Nat.lt_succ_self nl1, h, ⟨(.refl _), ⟨(.refl _), ⟨(.refl _), ⟨(.refl _), ⟨(.refl _), trivial⟩⟩⟩⟩⟩, rfl⟩
   ·
    refine c_f h6 rfl ?_
    refine c_skip ?_
    repeat (first | refine k1 ?_ | refine k4 ?_)
    refine c_region ?_
    refine o_s (.t (.d (.lit (.int .i64 (wi (z2 + 1)))))) (g0 rfl) rfl rfl rfl ?_
    refine o_s (.t (.d (.lit (.int .i64 (wi (z2 + 1)))))) (g0 rfl) rfl rfl rfl ?_
    refine o_nil ?_
    repeat (first | refine k1 ?_ | refine k4 ?_)
    exact ⟨nl1, (z1, (wi (z2 + 1))), Nat.lt_succ_self nl1, h, ⟨(.refl _), ⟨(.refl _), ⟨(.refl _), ⟨(.refl _), ⟨(.refl _), trivial⟩⟩⟩⟩⟩, rfl⟩
  ·
   refine c_f h3 rfl ?_
   refine c_exit ?_
   repeat (first | refine k1 ?_ | refine k2 ?_ | refine k3 ?_ | refine k4 ?_ | refine k5 ?_ | refine k6 ?_ | refine k7 rfl ?_)
   refine c_sr ?_
   refine o_2 (.t (.d (.seq 1 (List.map cStr z1)))) (.t (.own 9 1 (List.map cStr z1))) (g0 rfl) rfl rfl rfl ?_
   refine o_2 (.t (.d (.seq 1 (List.map cStr z1)))) (.t (.own 9 1 (List.map cStr z1))) (g0 rfl) rfl rfl rfl ?_
   refine o_nil ?_
   repeat (first | refine k1 ?_ | refine k4 ?_)
   refine c_ret ?_
   repeat (first | refine k3 ?_ | refine k5 ?_)
   obtain rfl := Option.some.inj h
   exact end0 rfl (.refl _)

theorem fc_role_owners (p0 : (List S_api_Member)) (r : Int) (h : m_role_owners p0 = some r) : FC Try.prog 49 [.t (.d (.seq 2 (List.map cS_api_Member p0)))] [] (.t (.d (.lit (.int .i64 r)))) := by
 refine fc_mk (rs := [.tmp 2]) (n := 6) Try.func49 rfl rfl (Nat.le_of_ble_eq_true rfl) rfl (pins := []) rfl (L := [(0, .t (.d (.seq 2 (List.map cS_api_Member p0))))]) rfl ?_
 refine c_sr ?_
 refine o_s (.t (.d (.lit (.int .i64 0)))) (g0 rfl) rfl rfl rfl ?_
 refine o_nil ?_
 repeat (first | refine k1 ?_ | refine k4 ?_)
 refine c_sr ?_
 refine o_s (.t (.d (.seq 2 (List.map cS_api_Member p0)))) (g0 rfl) rfl rfl rfl ?_
 obtain ⟨x1, h2, h⟩ := bind_some h
 refine o_ca (fc_role_With _ _ _ h2) (g0 rfl) rfl rfl rfl rfl rfl rfl rfl (.cons (.refl _) (.cons (.refl _) .nil)) rfl rfl ?_
 refine o_c (g0 rfl) rfl rfl rfl (lenE _ _) trivial ?_
 refine o_s (.t (.d (.lit (.int .i64 (x1.length : Int))))) (g0 rfl) rfl rfl rfl ?_
 refine o_nil ?_
 repeat (first | refine k1 ?_ | refine k4 ?_)
 refine c_ret ?_
 repeat (first | refine k3 ?_ | refine k5 ?_)
 obtain rfl := Option.some.inj h
 exact end0 rfl (.refl _)

theorem fc_role_Right (p0 : (List S_api_Member)) (r : Bool) (h : m_role_Right p0 = some r) : FC Try.prog 33 [.t (.d (.seq 2 (List.map cS_api_Member p0)))] [] (.t (.d (.lit (.bool r)))) := by
 refine fc_mk (rs := [.tmp 2]) (n := 46) Try.func33 rfl rfl (Nat.le_of_ble_eq_true rfl) rfl (pins := []) rfl (L := [(0, .t (.d (.seq 2 (List.map cS_api_Member p0))))]) rfl ?_
 refine c_sr ?_
 refine o_s (.t (.d (.lit (.bool false)))) (g0 rfl) rfl rfl rfl ?_
 refine o_nil ?_
 repeat (first | refine k1 ?_ | refine k4 ?_)
 refine c_cut (fun (_ : Unit) => [(0, .t (.d (.seq 2 (List.map cS_api_Member p0))))]) (fun (_ : Unit) => m_role_Right_j1 p0 = some r) ?_ ?_
 ·
  refine c_sr ?_
  refine o_s (.t (.d (.seq 2 (List.map cS_api_Member p0)))) (g0 rfl) rfl rfl rfl ?_
  refine o_c (g0 rfl) rfl rfl rfl (lenE _ _) trivial ?_
  refine o_s (.t (.d (.lit (.int .i64 0)))) (g0 rfl) rfl rfl rfl ?_
  refine o_nil ?_
  repeat (first | refine k1 ?_ | refine k4 ?_)
  refine c_block ?_
  refine c_fuel (fun (z4 : Int) => [(0, .t (.d (.seq 2 (List.map cS_api_Member p0)))), (5, .t (.d (.seq 2 (List.map cS_api_Member p0)))), (6, .t (.d (.lit (.int .i64 (p0.length : Int))))), (7, .t (.d (.lit (.int .i64 z4))))]) (fun nl2 => (fun (z4 : Int) => m_role_Right_l2 p0 nl2 z4 = some r)) (p0.length + 1) 0 h ⟨(.refl _), ⟨(.refl _), ⟨(.refl _), ⟨(.refl _), trivial⟩⟩⟩⟩ rfl ?_
  rintro nl2 z4 h
  cases nl2 with
  | zero => exact none_ne h
  | succ nl2 =>
   refine c_sr ?_
   refine o_s (.t (.d (.lit (.bool (decide (z4 < (p0.length : Int))))))) (g0 rfl) rfl rfl rfl ?_
   refine o_nil ?_
   repeat (first | refine k1 ?_ | refine k4 ?_)
   refine c_seq ?_
   rcases bif_some h with ⟨h5, h⟩ | ⟨h5, h⟩
   ·
    refine c_t h5 rfl ?_
    refine c_skip ?_
    repeat (first | refine k1 ?_ | refine k4 ?_)
    refine c_seq ?_
    refine c_block ?_
    refine c_sr ?_
    refine o_s (.t (.d (.lit (.int .i64 z4)))) (g0 rfl) rfl rfl rfl ?_
    obtain ⟨x6, h7, h⟩ := bind_some h
    refine o_c (g0 rfl) rfl rfl rfl (idxE h7) (idxC h7) ?_
    refine o_s (.t (.agg [.lit (.string ⟨⟨x6.Name⟩⟩), .lit (.int .i64 x6.Role)])) (g0 rfl) rfl rfl rfl ?_
    refine o_s (.box [.d (.lit (.string ⟨⟨[]⟩⟩)), .d (.lit (.int .i64 0))]) (g0 rfl) rfl rfl rfl ?_
    refine o_s (.t (.d (.lit (.int .i64 z4)))) (g0 rfl) rfl rfl rfl ?_
    refine o_st (.box [.d (.lit (.string ⟨⟨x6.Name⟩⟩)), .d (.lit (.int .i64 x6.Role))]) (g0 rfl) rfl rfl rfl ?_
    refine o_nil ?_
    repeat (first | refine k1 ?_ | refine k4 ?_)
    refine c_seq ?_
    refine c_draw mixed (by kernel_rfl) ?_
    refine d_s (.ref 4 0) rfl (dg0 rfl) rfl rfl rfl rfl ?_
    refine d_s (.t (.d (.lit (.string ⟨⟨x6.Name⟩⟩)))) rfl (dg0 rfl) rfl rfl rfl rfl ?_
    obtain ⟨x8, h9, h⟩ := bind_some h
    refine d_ca (fc_tree_Name _ _ h9) rfl (dg0 rfl) rfl rfl rfl rfl rfl rfl rfl rfl (.cons (.refl _) .nil) rfl rfl ?_
    refine d_s (.t (.d (.lit (.bool (!x8))))) rfl (dg0 rfl) rfl rfl rfl rfl ?_
    refine d_s (.t (.d (.lit (.bool (!x8))))) rfl (dg0 rfl) rfl rfl rfl rfl ?_
    rcases bif_some h with ⟨h10, h⟩ | ⟨h10, h⟩
    ·
     refine d_skip rfl rfl rfl rfl rfl h10 rfl rfl rfl ?_
     refine d_skip rfl rfl rfl rfl rfl h10 rfl rfl rfl ?_
     refine d_skip rfl rfl rfl rfl rfl h10 rfl rfl rfl ?_
     refine d_skip rfl rfl rfl rfl rfl h10 rfl rfl rfl ?_
     refine d_pk (.t (.d (.lit (.bool true)))) (b := true) h10 rfl (dg0 rfl) rfl rfl rfl rfl rfl rfl ?_
     refine d_s (.t (.d (.lit (.bool true)))) rfl (dg0 rfl) rfl rfl rfl rfl ?_
     refine d_skip rfl rfl rfl rfl rfl rfl rfl rfl rfl ?_
     refine d_skip rfl rfl rfl rfl rfl rfl rfl rfl rfl ?_
     refine d_skip rfl rfl rfl rfl rfl rfl rfl rfl rfl ?_
     refine d_un rfl rfl rfl rfl rfl rfl rfl rfl ?_
     refine d_un rfl rfl rfl rfl rfl rfl rfl rfl ?_
     refine d_un rfl rfl rfl rfl rfl rfl rfl rfl ?_
     refine d_un rfl rfl rfl rfl rfl rfl rfl rfl ?_
     refine d_un rfl rfl rfl rfl rfl rfl rfl rfl ?_
     refine d_un rfl rfl rfl rfl rfl rfl rfl rfl ?_
     refine d_un rfl rfl rfl rfl rfl rfl rfl rfl ?_
     refine d_un rfl rfl rfl rfl rfl rfl rfl rfl ?_
     refine d_un rfl rfl rfl rfl rfl rfl rfl rfl ?_
     refine d_skip rfl rfl rfl rfl rfl rfl rfl rfl rfl ?_
     refine d_pk (.t (.d (.lit (.bool true)))) (b := true) rfl rfl (dg0 rfl) rfl rfl rfl rfl rfl rfl ?_
     refine d_nil (by kernel_rfl) ?_
     repeat (first | refine k1 ?_ | refine k2 ?_ | refine k3 ?_ | refine k4 ?_ | refine k5 ?_ | refine k6 ?_ | refine k7 rfl ?_)
     refine c_t rfl rfl ?_
     refine c_sr ?_
     refine o_s (.t (.d (.lit (.bool false)))) (g0 rfl) rfl rfl rfl ?_
     refine o_nil ?_
     repeat (first | refine k1 ?_ | refine k4 ?_)
     refine c_ret ?_
     repeat (first | refine k3 ?_ | refine k5 ?_)
     obtain rfl := Option.some.inj h
     exact end0 rfl (.refl _)
    ·
     refine d_s (.ref 4 1) rfl (dgy rfl rfl rfl rfl h10) rfl rfl rfl rfl ?_
     refine d_s (.t (.d (.lit (.int .i64 x6.Role)))) rfl (dgy rfl rfl rfl rfl h10) rfl rfl rfl rfl ?_
     obtain ⟨x11, h12, h⟩ := bind_some h
     refine d_ca (fc_role_is _ _ h12) rfl (dgy rfl rfl rfl rfl h10) rfl rfl rfl rfl rfl rfl rfl rfl (.cons (.refl _) .nil) rfl rfl ?_
     refine d_s (.t (.d (.lit (.bool (!x11))))) rfl (dgy rfl rfl rfl rfl h10) rfl rfl rfl rfl ?_
     refine d_pk (.t (.d (.lit (.bool (!x11))))) (b := false) h10 rfl (dg0 rfl) rfl rfl rfl rfl rfl rfl ?_
     refine d_s (.t (.d (.lit (.bool (!x11))))) rfl (dg0 rfl) rfl rfl rfl rfl ?_
     rcases bif_some h with ⟨h13, h⟩ | ⟨h13, h⟩
     ·
      refine d_skip rfl rfl rfl rfl rfl h13 rfl rfl rfl ?_
      refine d_skip rfl rfl rfl rfl rfl h13 rfl rfl rfl ?_
      refine d_skip rfl rfl rfl rfl rfl h13 rfl rfl rfl ?_
      refine d_un rfl rfl rfl rfl rfl rfl rfl rfl ?_
      refine d_un rfl rfl rfl rfl rfl rfl rfl rfl ?_
      refine d_un rfl rfl rfl rfl rfl rfl rfl rfl ?_
      refine d_un rfl rfl rfl rfl rfl rfl rfl rfl ?_
      refine d_un rfl rfl rfl rfl rfl rfl rfl rfl ?_
      refine d_un rfl rfl rfl rfl rfl rfl rfl rfl ?_
      refine d_un rfl rfl rfl rfl rfl rfl rfl rfl ?_
      refine d_un rfl rfl rfl rfl rfl rfl rfl rfl ?_
      refine d_un rfl rfl rfl rfl rfl rfl rfl rfl ?_
      refine d_skip rfl rfl rfl rfl rfl h13 rfl rfl rfl ?_
      refine d_pk (.t (.d (.lit (.bool true)))) (b := true) h13 rfl (dg0 rfl) rfl rfl rfl rfl rfl rfl ?_
      refine d_nil (by kernel_rfl) ?_
      repeat (first | refine k1 ?_ | refine k2 ?_ | refine k3 ?_ | refine k4 ?_ | refine k5 ?_ | refine k6 ?_ | refine k7 rfl ?_)
      refine c_t rfl rfl ?_
      refine c_sr ?_
      refine o_s (.t (.d (.lit (.bool false)))) (g0 rfl) rfl rfl rfl ?_
      refine o_nil ?_
      repeat (first | refine k1 ?_ | refine k4 ?_)
      refine c_ret ?_
      repeat (first | refine k3 ?_ | refine k5 ?_)
      obtain rfl := Option.some.inj h
      exact end0 rfl (.refl _)
     ·
      refine d_s (.t (.d (.lit (.int .i64 z4)))) rfl (dgy rfl rfl rfl rfl h13) rfl rfl rfl rfl ?_
      refine d_s (.t (.d (.lit (.bool (decide (z4 > 0)))))) rfl (dgy rfl rfl rfl rfl h13) rfl rfl rfl rfl ?_
      refine d_s (.t (.d (.lit (.bool (decide (z4 > 0)))))) rfl (dgy rfl rfl rfl rfl h13) rfl rfl rfl rfl ?_
      rcases bif_some h with ⟨h14, h⟩ | ⟨h14, h⟩
      ·
       refine d_s (.t (.d (.seq 2 (List.map cS_api_Member p0)))) rfl (dgy rfl rfl rfl rfl h14) rfl rfl rfl rfl ?_
       refine d_s (.t (.d (.lit (.int .i64 z4)))) rfl (dgy rfl rfl rfl rfl h14) rfl rfl rfl rfl ?_
       refine d_s (.t (.d (.lit (.int .i64 (wi (z4 - 1)))))) rfl (dgy rfl rfl rfl rfl h14) rfl rfl rfl rfl ?_
       obtain ⟨x15, h16, h⟩ := bind_some h
       refine d_c rfl (dgy rfl rfl rfl rfl h14) rfl rfl rfl rfl (idxE h16) (idxC h16) ?_
       refine d_s (.imm [.lit (.string ⟨⟨x15.Name⟩⟩), .lit (.int .i64 x15.Role)]) rfl (dgy rfl rfl rfl rfl h14) rfl rfl rfl rfl ?_
       refine d_s (.t (.d (.lit (.string ⟨⟨x15.Name⟩⟩)))) rfl (dgy rfl rfl rfl rfl h14) rfl rfl rfl rfl ?_
       refine d_s (.ref 4 0) rfl (dgy rfl rfl rfl rfl h14) rfl rfl rfl rfl ?_
       refine d_s (.t (.d (.lit (.string ⟨⟨x6.Name⟩⟩)))) rfl (dgy rfl rfl rfl rfl h14) rfl rfl rfl rfl ?_
       refine d_c rfl (dgy rfl rfl rfl rfl h14) rfl rfl rfl rfl (congrArg (fun z => A.t (.d (.lit (.bool z)))) (s_ge _ _)) trivial ?_
       refine d_pk (.t (.d (.lit (.bool (!(sLt x15.Name x6.Name)))))) (b := true) h14 rfl (dgy rfl rfl rfl rfl h13) rfl rfl rfl rfl rfl rfl ?_
       refine d_pk (.t (.d (.lit (.bool (!(sLt x15.Name x6.Name)))))) (b := false) h13 rfl (dg0 rfl) rfl rfl rfl rfl rfl rfl ?_
       refine d_nil (by kernel_rfl) ?_
       repeat (first | refine k1 ?_ | refine k2 ?_ | refine k3 ?_ | refine k4 ?_ | refine k5 ?_ | refine k6 ?_ | refine k7 rfl ?_)
       rcases bif_some h with ⟨h17, h⟩ | ⟨h17, h⟩
       ·
        refine c_t h17 rfl ?_
        refine c_sr ?_
        refine o_s (.t (.d (.lit (.bool false)))) (g0 rfl) rfl rfl rfl ?_
        refine o_nil ?_
        repeat (first | refine k1 ?_ | refine k4 ?_)
        refine c_ret ?_
        repeat (first | refine k3 ?_ | refine k5 ?_)
        obtain rfl := Option.some.inj h
        exact end0 rfl (.refl _)
       ·
        refine c_f h17 rfl ?_
        refine c_skip ?_
        repeat (first | refine k1 ?_ | refine k4 ?_)
        refine c_region ?_
        refine o_s (.t (.d (.lit (.int .i64 (wi (z4 + 1)))))) (g0 rfl) rfl rfl rfl ?_
        refine o_s (.t (.d (.lit (.int .i64 (wi (z4 + 1)))))) (g0 rfl) rfl rfl rfl ?_
        refine o_nil ?_
        repeat (first | refine k1 ?_ | refine k4 ?_)
        exact ⟨nl2, (wi (z4 + 1)), Nat.lt_succ_self nl2, h, ⟨(.refl _), ⟨(.refl _), ⟨(.refl _), ⟨(.refl _), trivial⟩⟩⟩⟩, rfl⟩
      ·
       refine d_skip rfl rfl rfl rfl rfl h14 rfl rfl rfl ?_
       refine d_skip rfl rfl rfl rfl rfl h14 rfl rfl rfl ?_
       refine d_skip rfl rfl rfl rfl rfl h14 rfl rfl rfl ?_
       refine d_skip rfl rfl rfl rfl rfl h14 rfl rfl rfl ?_
       refine d_skip rfl rfl rfl rfl rfl h14 rfl rfl rfl ?_
       refine d_skip rfl rfl rfl rfl rfl h14 rfl rfl rfl ?_
       refine d_skip rfl rfl rfl rfl rfl h14 rfl rfl rfl ?_
       refine d_skip rfl rfl rfl rfl rfl h14 rfl rfl rfl ?_
       refine d_skip rfl rfl rfl rfl rfl h14 rfl rfl rfl ?_
       refine d_pk (.t (.d (.lit (.bool false)))) (b := false) h14 rfl (dgy rfl rfl rfl rfl h13) rfl rfl rfl rfl rfl rfl ?_
       refine d_pk (.t (.d (.lit (.bool false)))) (b := false) h13 rfl (dg0 rfl) rfl rfl rfl rfl rfl rfl ?_
       refine d_nil (by kernel_rfl) ?_
       repeat (first | refine k1 ?_ | refine k2 ?_ | refine k3 ?_ | refine k4 ?_ | refine k5 ?_ | refine k6 ?_ | refine k7 rfl ?_)
       refine c_f rfl rfl ?_
       refine c_skip ?_
       repeat (first | refine k1 ?_ | refine k4 ?_)
       refine c_region ?_
       refine o_s (.t (.d (.lit (.int .i64 (wi (z4 + 1)))))) (g0 rfl) rfl rfl rfl ?_
       refine o_s (.t (.d (.lit (.int .i64 (wi (z4 + 1)))))) (g0 rfl) rfl rfl rfl ?_
       refine o_nil ?_
       repeat (first | refine k1 ?_ | refine k4 ?_)
       exact ⟨nl2, (wi (z4 + 1)), Nat.lt_succ_self nl2, h, ⟨(.refl _), ⟨(.refl _), ⟨(.refl _), ⟨(.refl _), trivial⟩⟩⟩⟩, rfl⟩
   ·
    refine c_f h5 rfl ?_
    refine c_exit ?_
    repeat (first | refine k1 ?_ | refine k2 ?_ | refine k3 ?_ | refine k4 ?_ | refine k5 ?_ | refine k6 ?_ | refine k7 rfl ?_)
    exact ⟨(), h, ⟨(.refl _), trivial⟩, rfl⟩
 ·
  rintro ⟨⟩ h
  refine c_sr ?_
  refine o_s (.t (.d (.seq 2 (List.map cS_api_Member p0)))) (g0 rfl) rfl rfl rfl ?_
  refine o_c (g0 rfl) rfl rfl rfl (lenE _ _) trivial ?_
  refine o_s (.t (.d (.lit (.bool (decide ((p0.length : Int) ≤ 8)))))) (g0 rfl) rfl rfl rfl ?_
  refine o_s (.t (.d (.lit (.bool (decide ((p0.length : Int) ≤ 8)))))) (g0 rfl) rfl rfl rfl ?_
  rcases bif_some h with ⟨h1, h⟩ | ⟨h1, h⟩
  ·
   refine o_s (.t (.d (.seq 2 (List.map cS_api_Member p0)))) (gy rfl rfl rfl h1) rfl rfl rfl ?_
   obtain ⟨x2, h3, h⟩ := bind_some h
   refine o_ca (fc_role_owners _ _ h3) (gy rfl rfl rfl h1) rfl rfl rfl rfl rfl rfl rfl (.cons (.refl _) .nil) rfl rfl ?_
   refine o_s (.t (.d (.lit (.bool (decide (x2 > 0)))))) (gy rfl rfl rfl h1) rfl rfl rfl ?_
   refine o_pk (.t (.d (.lit (.bool (decide (x2 > 0)))))) (b := true) h1 (g0 rfl) rfl rfl rfl rfl rfl ?_
   refine o_s (.t (.d (.lit (.bool (decide (x2 > 0)))))) (g0 rfl) rfl rfl rfl ?_
   refine o_nil ?_
   repeat (first | refine k1 ?_ | refine k4 ?_)
   refine c_ret ?_
   repeat (first | refine k3 ?_ | refine k5 ?_)
   obtain rfl := Option.some.inj h
   exact end0 rfl (.refl _)
  ·
   refine o_skip rfl rfl rfl h1 rfl rfl ?_
   refine o_skip rfl rfl rfl h1 rfl rfl ?_
   refine o_skip rfl rfl rfl h1 rfl rfl ?_
   refine o_pk (.t (.d (.lit (.bool false)))) (b := false) h1 (g0 rfl) rfl rfl rfl rfl rfl ?_
   refine o_s (.t (.d (.lit (.bool false)))) (g0 rfl) rfl rfl rfl ?_
   refine o_nil ?_
   repeat (first | refine k1 ?_ | refine k4 ?_)
   refine c_ret ?_
   repeat (first | refine k3 ?_ | refine k5 ?_)
   obtain rfl := Option.some.inj h
   exact end0 rfl (.refl _)

theorem fc_manifest_may (p0 : S_api_Manifest) (r : Bool) (h : m_manifest_may p0 = some r) : FC Try.prog 14 [.t (.agg [.lit (.string ⟨⟨p0.Folder⟩⟩), .lit (.int .i64 p0.Seq), .seq 1 (bytesD p0.Prev), .lit (.string ⟨⟨p0.Parent⟩⟩), .seq 2 (List.map cS_api_Member p0.Members), .lit (.int .i64 p0.Cut), .lit (.bool p0.Gone), .lit (.string ⟨⟨p0.By⟩⟩)])] [] (.t (.d (.lit (.bool r)))) := by
 refine fc_mk (rs := [.tmp 2]) (n := 71) Try.func14 rfl rfl (Nat.le_of_ble_eq_true rfl) rfl (pins := []) rfl (L := [(0, .t (.agg [.lit (.string ⟨⟨p0.Folder⟩⟩), .lit (.int .i64 p0.Seq), .seq 1 (bytesD p0.Prev), .lit (.string ⟨⟨p0.Parent⟩⟩), .seq 2 (List.map cS_api_Member p0.Members), .lit (.int .i64 p0.Cut), .lit (.bool p0.Gone), .lit (.string ⟨⟨p0.By⟩⟩)]))]) rfl ?_
 refine c_sr ?_
 refine o_s (.box [.d (.lit (.string ⟨⟨p0.Folder⟩⟩)), .d (.lit (.int .i64 p0.Seq)), .d (.seq 1 (bytesD p0.Prev)), .d (.lit (.string ⟨⟨p0.Parent⟩⟩)), .d (.seq 2 (List.map cS_api_Member p0.Members)), .d (.lit (.int .i64 p0.Cut)), .d (.lit (.bool p0.Gone)), .d (.lit (.string ⟨⟨p0.By⟩⟩))]) (g0 rfl) rfl rfl rfl ?_
 refine o_s (.t (.d (.lit (.bool false)))) (g0 rfl) rfl rfl rfl ?_
 refine o_nil ?_
 repeat (first | refine k1 ?_ | refine k4 ?_)
 refine c_cut (fun (_ : Unit) => [(1, .box [.d (.lit (.string ⟨⟨p0.Folder⟩⟩)), .d (.lit (.int .i64 p0.Seq)), .d (.seq 1 (bytesD p0.Prev)), .d (.lit (.string ⟨⟨p0.Parent⟩⟩)), .d (.seq 2 (List.map cS_api_Member p0.Members)), .d (.lit (.int .i64 p0.Cut)), .d (.lit (.bool p0.Gone)), .d (.lit (.string ⟨⟨p0.By⟩⟩))])]) (fun (_ : Unit) => m_manifest_may_j1 p0 = some r) ?_ ?_
 ·
  refine c_block ?_
  refine c_cut (fun (y5 : Bool) => [(1, .box [.d (.lit (.string ⟨⟨p0.Folder⟩⟩)), .d (.lit (.int .i64 p0.Seq)), .d (.seq 1 (bytesD p0.Prev)), .d (.lit (.string ⟨⟨p0.Parent⟩⟩)), .d (.seq 2 (List.map cS_api_Member p0.Members)), .d (.lit (.int .i64 p0.Cut)), .d (.lit (.bool p0.Gone)), .d (.lit (.string ⟨⟨p0.By⟩⟩))]), (3, .t (.d (.lit (.bool y5))))]) (fun (y5 : Bool) => m_manifest_may_j2 p0 y5 = some r) ?_ ?_
  ·
   refine c_region ?_
   refine o_s (.ref 1 0) (g0 rfl) rfl rfl rfl ?_
   refine o_s (.t (.d (.lit (.string ⟨⟨p0.Folder⟩⟩)))) (g0 rfl) rfl rfl rfl ?_
   obtain ⟨x16, h17, h⟩ := bind_some h
   refine o_ca (fc_tree_Name _ _ h17) (g0 rfl) rfl rfl rfl rfl rfl rfl rfl (.cons (.refl _) .nil) rfl rfl ?_
   refine o_s (.t (.d (.lit (.bool (!x16))))) (g0 rfl) rfl rfl rfl ?_
   refine o_s (.t (.d (.lit (.bool (!x16))))) (g0 rfl) rfl rfl rfl ?_
   rcases bif_some h with ⟨h18, h⟩ | ⟨h18, h⟩
   ·
    refine o_skip rfl rfl rfl h18 rfl rfl ?_
    refine o_skip rfl rfl rfl h18 rfl rfl ?_
    refine o_skip rfl rfl rfl h18 rfl rfl ?_
    refine o_skip rfl rfl rfl h18 rfl rfl ?_
    refine o_pk (.t (.d (.lit (.bool true)))) (b := true) h18 (g0 rfl) rfl rfl rfl rfl rfl ?_
    refine o_s (.t (.d (.lit (.bool true)))) (g0 rfl) rfl rfl rfl ?_
    refine o_skip rfl rfl rfl rfl rfl rfl ?_
    refine o_skip rfl rfl rfl rfl rfl rfl ?_
    refine o_skip rfl rfl rfl rfl rfl rfl ?_
    refine o_pk (.t (.d (.lit (.bool true)))) (b := true) rfl (g0 rfl) rfl rfl rfl rfl rfl ?_
    refine o_s (.t (.d (.lit (.bool true)))) (g0 rfl) rfl rfl rfl ?_
    refine o_skip rfl rfl rfl rfl rfl rfl ?_
    refine o_skip rfl rfl rfl rfl rfl rfl ?_
    refine o_skip rfl rfl rfl rfl rfl rfl ?_
    refine o_pk (.t (.d (.lit (.bool true)))) (b := true) rfl (g0 rfl) rfl rfl rfl rfl rfl ?_
    refine o_s (.t (.d (.lit (.bool true)))) (g0 rfl) rfl rfl rfl ?_
    refine o_nil ?_
    repeat (first | refine k1 ?_ | refine k4 ?_)
    exact ⟨true, h, ⟨(.refl _), ⟨(.refl _), trivial⟩⟩, rfl⟩
   ·
    refine o_s (.ref 1 7) (gy rfl rfl rfl h18) rfl rfl rfl ?_
    refine o_s (.t (.d (.lit (.string ⟨⟨p0.By⟩⟩)))) (gy rfl rfl rfl h18) rfl rfl rfl ?_
    obtain ⟨x19, h20, h⟩ := bind_some h
    refine o_ca (fc_tree_Name _ _ h20) (gy rfl rfl rfl h18) rfl rfl rfl rfl rfl rfl rfl (.cons (.refl _) .nil) rfl rfl ?_
    refine o_s (.t (.d (.lit (.bool (!x19))))) (gy rfl rfl rfl h18) rfl rfl rfl ?_
    refine o_pk (.t (.d (.lit (.bool (!x19))))) (b := false) h18 (g0 rfl) rfl rfl rfl rfl rfl ?_
    refine o_s (.t (.d (.lit (.bool (!x19))))) (g0 rfl) rfl rfl rfl ?_
    rcases bif_some h with ⟨h21, h⟩ | ⟨h21, h⟩
    ·
     refine o_skip rfl rfl rfl h21 rfl rfl ?_
     refine o_skip rfl rfl rfl h21 rfl rfl ?_
     refine o_skip rfl rfl rfl h21 rfl rfl ?_
     refine o_pk (.t (.d (.lit (.bool true)))) (b := true) h21 (g0 rfl) rfl rfl rfl rfl rfl ?_
     refine o_s (.t (.d (.lit (.bool true)))) (g0 rfl) rfl rfl rfl ?_
     refine o_skip rfl rfl rfl rfl rfl rfl ?_
     refine o_skip rfl rfl rfl rfl rfl rfl ?_
     refine o_skip rfl rfl rfl rfl rfl rfl ?_
     refine o_pk (.t (.d (.lit (.bool true)))) (b := true) rfl (g0 rfl) rfl rfl rfl rfl rfl ?_
     refine o_s (.t (.d (.lit (.bool true)))) (g0 rfl) rfl rfl rfl ?_
     refine o_nil ?_
     repeat (first | refine k1 ?_ | refine k4 ?_)
     exact ⟨true, h, ⟨(.refl _), ⟨(.refl _), trivial⟩⟩, rfl⟩
    ·
     refine o_s (.ref 1 1) (gy rfl rfl rfl h21) rfl rfl rfl ?_
     refine o_s (.t (.d (.lit (.int .i64 p0.Seq)))) (gy rfl rfl rfl h21) rfl rfl rfl ?_
     refine o_s (.t (.d (.lit (.bool (decide (p0.Seq < 1)))))) (gy rfl rfl rfl h21) rfl rfl rfl ?_
     refine o_pk (.t (.d (.lit (.bool (decide (p0.Seq < 1)))))) (b := false) h21 (g0 rfl) rfl rfl rfl rfl rfl ?_
     refine o_s (.t (.d (.lit (.bool (decide (p0.Seq < 1)))))) (g0 rfl) rfl rfl rfl ?_
     rcases bif_some h with ⟨h22, h⟩ | ⟨h22, h⟩
     ·
      refine o_skip rfl rfl rfl h22 rfl rfl ?_
      refine o_skip rfl rfl rfl h22 rfl rfl ?_
      refine o_skip rfl rfl rfl h22 rfl rfl ?_
      refine o_pk (.t (.d (.lit (.bool true)))) (b := true) h22 (g0 rfl) rfl rfl rfl rfl rfl ?_
      refine o_s (.t (.d (.lit (.bool true)))) (g0 rfl) rfl rfl rfl ?_
      refine o_nil ?_
      repeat (first | refine k1 ?_ | refine k4 ?_)
      exact ⟨true, h, ⟨(.refl _), ⟨(.refl _), trivial⟩⟩, rfl⟩
     ·
      refine o_s (.ref 1 1) (gy rfl rfl rfl h22) rfl rfl rfl ?_
      refine o_s (.t (.d (.lit (.int .i64 p0.Seq)))) (gy rfl rfl rfl h22) rfl rfl rfl ?_
      refine o_s (.t (.d (.lit (.bool (decide (p0.Seq > 1099511627776)))))) (gy rfl rfl rfl h22) rfl rfl rfl ?_
      refine o_pk (.t (.d (.lit (.bool (decide (p0.Seq > 1099511627776)))))) (b := false) h22 (g0 rfl) rfl rfl rfl rfl rfl ?_
      refine o_s (.t (.d (.lit (.bool (decide (p0.Seq > 1099511627776)))))) (g0 rfl) rfl rfl rfl ?_
      refine o_nil ?_
      repeat (first | refine k1 ?_ | refine k4 ?_)
      exact ⟨(decide (p0.Seq > 1099511627776)), h, ⟨(.refl _), ⟨(.refl _), trivial⟩⟩, rfl⟩
  ·
   rintro y5 h
   rcases bif_some h with ⟨h6, h⟩ | ⟨h6, h⟩
   ·
    refine c_t h6 rfl ?_
    refine c_sr ?_
    refine o_s (.t (.d (.lit (.bool false)))) (g0 rfl) rfl rfl rfl ?_
    refine o_nil ?_
    repeat (first | refine k1 ?_ | refine k4 ?_)
    refine c_ret ?_
    repeat (first | refine k3 ?_ | refine k5 ?_)
    obtain rfl := Option.some.inj h
    exact end0 rfl (.refl _)
   ·
    refine c_f h6 rfl ?_
    refine c_cut (fun (y7 : Bool) => [(1, .box [.d (.lit (.string ⟨⟨p0.Folder⟩⟩)), .d (.lit (.int .i64 p0.Seq)), .d (.seq 1 (bytesD p0.Prev)), .d (.lit (.string ⟨⟨p0.Parent⟩⟩)), .d (.seq 2 (List.map cS_api_Member p0.Members)), .d (.lit (.int .i64 p0.Cut)), .d (.lit (.bool p0.Gone)), .d (.lit (.string ⟨⟨p0.By⟩⟩))]), (24, .t (.d (.lit (.bool y7))))]) (fun (y7 : Bool) => m_manifest_may_j3 p0 y7 = some r) ?_ ?_
    ·
     refine c_region ?_
     refine o_s (.ref 1 1) (g0 rfl) rfl rfl rfl ?_
     refine o_s (.t (.d (.lit (.int .i64 p0.Seq)))) (g0 rfl) rfl rfl rfl ?_
     refine o_s (.t (.d (.lit (.bool (p0.Seq == 1))))) (g0 rfl) rfl rfl rfl ?_
     refine o_s (.ref 1 2) (g0 rfl) rfl rfl rfl ?_
     refine o_s (.t (.d (.seq 1 (bytesD p0.Prev)))) (g0 rfl) rfl rfl rfl ?_
     refine o_c (g0 rfl) rfl rfl rfl (lenE _ _) trivial ?_
     refine o_s (.t (.d (.lit (.bool ((p0.Prev.length : Int) == 0))))) (g0 rfl) rfl rfl rfl ?_
     refine o_s (.t (.d (.lit (.bool (!((p0.Seq == 1) == ((p0.Prev.length : Int) == 0))))))) (g0 rfl) rfl rfl rfl ?_
     refine o_s (.t (.d (.lit (.bool (!((p0.Seq == 1) == ((p0.Prev.length : Int) == 0))))))) (g0 rfl) rfl rfl rfl ?_
     rcases bif_some h with ⟨h15, h⟩ | ⟨h15, h⟩
     ·
      refine o_skip rfl rfl rfl h15 rfl rfl ?_
      refine o_skip rfl rfl rfl h15 rfl rfl ?_
      refine o_skip rfl rfl rfl h15 rfl rfl ?_
      refine o_skip rfl rfl rfl h15 rfl rfl ?_
      refine o_pk (.t (.d (.lit (.bool true)))) (b := true) h15 (g0 rfl) rfl rfl rfl rfl rfl ?_
      refine o_s (.t (.d (.lit (.bool true)))) (g0 rfl) rfl rfl rfl ?_
      refine o_nil ?_
      repeat (first | refine k1 ?_ | refine k4 ?_)
      exact ⟨true, h, ⟨(.refl _), ⟨(.refl _), trivial⟩⟩, rfl⟩
     ·
      refine o_s (.ref 1 2) (gy rfl rfl rfl h15) rfl rfl rfl ?_
      refine o_s (.t (.d (.seq 1 (bytesD p0.Prev)))) (gy rfl rfl rfl h15) rfl rfl rfl ?_
      refine o_c (gy rfl rfl rfl h15) rfl rfl rfl (lenE _ _) trivial ?_
      refine o_s (.t (.d (.lit (.bool (decide ((p0.Prev.length : Int) > 64)))))) (gy rfl rfl rfl h15) rfl rfl rfl ?_
      refine o_pk (.t (.d (.lit (.bool (decide ((p0.Prev.length : Int) > 64)))))) (b := false) h15 (g0 rfl) rfl rfl rfl rfl rfl ?_
      refine o_s (.t (.d (.lit (.bool (decide ((p0.Prev.length : Int) > 64)))))) (g0 rfl) rfl rfl rfl ?_
      refine o_nil ?_
      repeat (first | refine k1 ?_ | refine k4 ?_)
      exact ⟨(decide ((p0.Prev.length : Int) > 64)), h, ⟨(.refl _), ⟨(.refl _), trivial⟩⟩, rfl⟩
    ·
     rintro y7 h
     rcases bif_some h with ⟨h8, h⟩ | ⟨h8, h⟩
     ·
      refine c_t h8 rfl ?_
      refine c_sr ?_
      refine o_s (.t (.d (.lit (.bool false)))) (g0 rfl) rfl rfl rfl ?_
      refine o_nil ?_
      repeat (first | refine k1 ?_ | refine k4 ?_)
      refine c_ret ?_
      repeat (first | refine k3 ?_ | refine k5 ?_)
      obtain rfl := Option.some.inj h
      exact end0 rfl (.refl _)
     ·
      refine c_f h8 rfl ?_
      refine c_sr ?_
      refine o_s (.ref 1 3) (g0 rfl) rfl rfl rfl ?_
      refine o_s (.t (.d (.lit (.string ⟨⟨p0.Parent⟩⟩)))) (g0 rfl) rfl rfl rfl ?_
      refine o_c (g0 rfl) rfl rfl rfl (congrArg (fun z => A.t (.d (.lit (.bool (!z))))) (str_beqL _ _)) trivial ?_
      refine o_s (.t (.d (.lit (.bool (!(p0.Parent == [])))))) (g0 rfl) rfl rfl rfl ?_
      rcases bif_some h with ⟨h9, h⟩ | ⟨h9, h⟩
      ·
       refine o_s (.ref 1 3) (gy rfl rfl rfl h9) rfl rfl rfl ?_
       refine o_s (.t (.d (.lit (.string ⟨⟨p0.Parent⟩⟩)))) (gy rfl rfl rfl h9) rfl rfl rfl ?_
       obtain ⟨x10, h11, h⟩ := bind_some h
       refine o_ca (fc_tree_Name _ _ h11) (gy rfl rfl rfl h9) rfl rfl rfl rfl rfl rfl rfl (.cons (.refl _) .nil) rfl rfl ?_
       refine o_s (.t (.d (.lit (.bool (!x10))))) (gy rfl rfl rfl h9) rfl rfl rfl ?_
       refine o_pk (.t (.d (.lit (.bool (!x10))))) (b := true) h9 (g0 rfl) rfl rfl rfl rfl rfl ?_
       refine o_s (.t (.d (.lit (.bool (!x10))))) (g0 rfl) rfl rfl rfl ?_
       rcases bif_some h with ⟨h12, h⟩ | ⟨h12, h⟩
       ·
        refine o_skip rfl rfl rfl h12 rfl rfl ?_
        refine o_skip rfl rfl rfl h12 rfl rfl ?_
        refine o_skip rfl rfl rfl h12 rfl rfl ?_
        refine o_skip rfl rfl rfl h12 rfl rfl ?_
        refine o_skip rfl rfl rfl h12 rfl rfl ?_
        refine o_pk (.t (.d (.lit (.bool true)))) (b := true) h12 (g0 rfl) rfl rfl rfl rfl rfl ?_
        refine o_s (.t (.d (.lit (.bool true)))) (g0 rfl) rfl rfl rfl ?_
        refine o_nil ?_
        repeat (first | refine k1 ?_ | refine k4 ?_)
        refine c_t rfl rfl ?_
        refine c_sr ?_
        refine o_s (.t (.d (.lit (.bool false)))) (g0 rfl) rfl rfl rfl ?_
        refine o_nil ?_
        repeat (first | refine k1 ?_ | refine k4 ?_)
        refine c_ret ?_
        repeat (first | refine k3 ?_ | refine k5 ?_)
        obtain rfl := Option.some.inj h
        exact end0 rfl (.refl _)
       ·
        refine o_s (.ref 1 3) (gy rfl rfl rfl h12) rfl rfl rfl ?_
        refine o_s (.t (.d (.lit (.string ⟨⟨p0.Parent⟩⟩)))) (gy rfl rfl rfl h12) rfl rfl rfl ?_
        refine o_s (.ref 1 0) (gy rfl rfl rfl h12) rfl rfl rfl ?_
        refine o_s (.t (.d (.lit (.string ⟨⟨p0.Folder⟩⟩)))) (gy rfl rfl rfl h12) rfl rfl rfl ?_
        refine o_c (gy rfl rfl rfl h12) rfl rfl rfl (congrArg (fun z => A.t (.d (.lit (.bool z)))) (str_beqL _ _)) trivial ?_
        refine o_pk (.t (.d (.lit (.bool (p0.Parent == p0.Folder))))) (b := false) h12 (g0 rfl) rfl rfl rfl rfl rfl ?_
        refine o_s (.t (.d (.lit (.bool (p0.Parent == p0.Folder))))) (g0 rfl) rfl rfl rfl ?_
        refine o_nil ?_
        repeat (first | refine k1 ?_ | refine k4 ?_)
        rcases bif_some h with ⟨h13, h⟩ | ⟨h13, h⟩
        ·
         refine c_t h13 rfl ?_
         refine c_sr ?_
         refine o_s (.t (.d (.lit (.bool false)))) (g0 rfl) rfl rfl rfl ?_
         refine o_nil ?_
         repeat (first | refine k1 ?_ | refine k4 ?_)
         refine c_ret ?_
         repeat (first | refine k3 ?_ | refine k5 ?_)
         obtain rfl := Option.some.inj h
         exact end0 rfl (.refl _)
        ·
         refine c_f h13 rfl ?_
         refine c_skip ?_
         repeat (first | refine k1 ?_ | refine k4 ?_)
         exact ⟨(), h, ⟨(.refl _), trivial⟩, rfl⟩
      ·
       refine o_skip rfl rfl rfl h9 rfl rfl ?_
       refine o_skip rfl rfl rfl h9 rfl rfl ?_
       refine o_skip rfl rfl rfl h9 rfl rfl ?_
       refine o_skip rfl rfl rfl h9 rfl rfl ?_
       refine o_pk (.t (.d (.lit (.bool false)))) (b := false) h9 (g0 rfl) rfl rfl rfl rfl rfl ?_
       refine o_s (.t (.d (.lit (.bool false)))) (g0 rfl) rfl rfl rfl ?_
       refine o_s (.ref 1 3) (gy rfl rfl rfl rfl) rfl rfl rfl ?_
       refine o_s (.t (.d (.lit (.string ⟨⟨p0.Parent⟩⟩)))) (gy rfl rfl rfl rfl) rfl rfl rfl ?_
       refine o_s (.ref 1 0) (gy rfl rfl rfl rfl) rfl rfl rfl ?_
       refine o_s (.t (.d (.lit (.string ⟨⟨p0.Folder⟩⟩)))) (gy rfl rfl rfl rfl) rfl rfl rfl ?_
       refine o_c (gy rfl rfl rfl rfl) rfl rfl rfl (congrArg (fun z => A.t (.d (.lit (.bool z)))) (str_beqL _ _)) trivial ?_
       refine o_pk (.t (.d (.lit (.bool (p0.Parent == p0.Folder))))) (b := false) rfl (g0 rfl) rfl rfl rfl rfl rfl ?_
       refine o_s (.t (.d (.lit (.bool (p0.Parent == p0.Folder))))) (g0 rfl) rfl rfl rfl ?_
       refine o_nil ?_
       repeat (first | refine k1 ?_ | refine k4 ?_)
       rcases bif_some h with ⟨h14, h⟩ | ⟨h14, h⟩
       ·
        refine c_t h14 rfl ?_
        refine c_sr ?_
        refine o_s (.t (.d (.lit (.bool false)))) (g0 rfl) rfl rfl rfl ?_
        refine o_nil ?_
        repeat (first | refine k1 ?_ | refine k4 ?_)
        refine c_ret ?_
        repeat (first | refine k3 ?_ | refine k5 ?_)
        obtain rfl := Option.some.inj h
        exact end0 rfl (.refl _)
       ·
        refine c_f h14 rfl ?_
        refine c_skip ?_
        repeat (first | refine k1 ?_ | refine k4 ?_)
        exact ⟨(), h, ⟨(.refl _), trivial⟩, rfl⟩
 ·
  rintro ⟨⟩ h
  refine c_sr ?_
  refine o_s (.ref 1 4) (g0 rfl) rfl rfl rfl ?_
  refine o_s (.t (.d (.seq 2 (List.map cS_api_Member p0.Members)))) (g0 rfl) rfl rfl rfl ?_
  obtain ⟨x1, h2, h⟩ := bind_some h
  refine o_ca (fc_role_Right _ _ h2) (g0 rfl) rfl rfl rfl rfl rfl rfl rfl (.cons (.refl _) .nil) rfl rfl ?_
  refine o_s (.t (.d (.lit (.bool x1)))) (g0 rfl) rfl rfl rfl ?_
  rcases bif_some h with ⟨h3, h⟩ | ⟨h3, h⟩
  ·
   refine o_s (.ref 1 5) (gy rfl rfl rfl h3) rfl rfl rfl ?_
   refine o_s (.t (.d (.lit (.int .i64 p0.Cut)))) (gy rfl rfl rfl h3) rfl rfl rfl ?_
   refine o_s (.t (.d (.lit (.bool (decide (p0.Cut ≥ 0)))))) (gy rfl rfl rfl h3) rfl rfl rfl ?_
   refine o_pk (.t (.d (.lit (.bool (decide (p0.Cut ≥ 0)))))) (b := true) h3 (g0 rfl) rfl rfl rfl rfl rfl ?_
   refine o_s (.t (.d (.lit (.bool (decide (p0.Cut ≥ 0)))))) (g0 rfl) rfl rfl rfl ?_
   rcases bif_some h with ⟨h4, h⟩ | ⟨h4, h⟩
   ·
    refine o_s (.ref 1 5) (gy rfl rfl rfl h4) rfl rfl rfl ?_
    refine o_s (.t (.d (.lit (.int .i64 p0.Cut)))) (gy rfl rfl rfl h4) rfl rfl rfl ?_
    refine o_s (.ref 1 1) (gy rfl rfl rfl h4) rfl rfl rfl ?_
    refine o_s (.t (.d (.lit (.int .i64 p0.Seq)))) (gy rfl rfl rfl h4) rfl rfl rfl ?_
    refine o_s (.t (.d (.lit (.bool (decide (p0.Cut ≤ p0.Seq)))))) (gy rfl rfl rfl h4) rfl rfl rfl ?_
    refine o_pk (.t (.d (.lit (.bool (decide (p0.Cut ≤ p0.Seq)))))) (b := true) h4 (g0 rfl) rfl rfl rfl rfl rfl ?_
    refine o_s (.t (.d (.lit (.bool (decide (p0.Cut ≤ p0.Seq)))))) (g0 rfl) rfl rfl rfl ?_
    refine o_nil ?_
    repeat (first | refine k1 ?_ | refine k4 ?_)
    refine c_ret ?_
    repeat (first | refine k3 ?_ | refine k5 ?_)
    obtain rfl := Option.some.inj h
    exact end0 rfl (.refl _)
   ·
    refine o_skip rfl rfl rfl h4 rfl rfl ?_
    refine o_skip rfl rfl rfl h4 rfl rfl ?_
    refine o_skip rfl rfl rfl h4 rfl rfl ?_
    refine o_skip rfl rfl rfl h4 rfl rfl ?_
    refine o_skip rfl rfl rfl h4 rfl rfl ?_
    refine o_pk (.t (.d (.lit (.bool false)))) (b := false) h4 (g0 rfl) rfl rfl rfl rfl rfl ?_
    refine o_s (.t (.d (.lit (.bool false)))) (g0 rfl) rfl rfl rfl ?_
    refine o_nil ?_
    repeat (first | refine k1 ?_ | refine k4 ?_)
    refine c_ret ?_
    repeat (first | refine k3 ?_ | refine k5 ?_)
    obtain rfl := Option.some.inj h
    exact end0 rfl (.refl _)
  ·
   refine o_skip rfl rfl rfl h3 rfl rfl ?_
   refine o_skip rfl rfl rfl h3 rfl rfl ?_
   refine o_skip rfl rfl rfl h3 rfl rfl ?_
   refine o_pk (.t (.d (.lit (.bool false)))) (b := false) h3 (g0 rfl) rfl rfl rfl rfl rfl ?_
   refine o_s (.t (.d (.lit (.bool false)))) (g0 rfl) rfl rfl rfl ?_
   refine o_skip rfl rfl rfl rfl rfl rfl ?_
   refine o_skip rfl rfl rfl rfl rfl rfl ?_
   refine o_skip rfl rfl rfl rfl rfl rfl ?_
   refine o_skip rfl rfl rfl rfl rfl rfl ?_
   refine o_skip rfl rfl rfl rfl rfl rfl ?_
   refine o_pk (.t (.d (.lit (.bool false)))) (b := false) rfl (g0 rfl) rfl rfl rfl rfl rfl ?_
   refine o_s (.t (.d (.lit (.bool false)))) (g0 rfl) rfl rfl rfl ?_
   refine o_nil ?_
   repeat (first | refine k1 ?_ | refine k4 ?_)
   refine c_ret ?_
   repeat (first | refine k3 ?_ | refine k5 ?_)
   obtain rfl := Option.some.inj h
   exact end0 rfl (.refl _)

theorem fc_manifest_Begins (p0 : S_api_Manifest) (r : Int) (h : m_manifest_Begins p0 = some r) : FC Try.prog 8 [.t (.agg [.lit (.string ⟨⟨p0.Folder⟩⟩), .lit (.int .i64 p0.Seq), .seq 1 (bytesD p0.Prev), .lit (.string ⟨⟨p0.Parent⟩⟩), .seq 2 (List.map cS_api_Member p0.Members), .lit (.int .i64 p0.Cut), .lit (.bool p0.Gone), .lit (.string ⟨⟨p0.By⟩⟩)])] [] (.t (.d (.lit (.int .i64 r)))) := by
 refine fc_mk (rs := [.tmp 2]) (n := 36) Try.func8 rfl rfl (Nat.le_of_ble_eq_true rfl) rfl (pins := []) rfl (L := [(0, .t (.agg [.lit (.string ⟨⟨p0.Folder⟩⟩), .lit (.int .i64 p0.Seq), .seq 1 (bytesD p0.Prev), .lit (.string ⟨⟨p0.Parent⟩⟩), .seq 2 (List.map cS_api_Member p0.Members), .lit (.int .i64 p0.Cut), .lit (.bool p0.Gone), .lit (.string ⟨⟨p0.By⟩⟩)]))]) rfl ?_
 refine c_sr ?_
 refine o_s (.box [.d (.lit (.string ⟨⟨p0.Folder⟩⟩)), .d (.lit (.int .i64 p0.Seq)), .d (.seq 1 (bytesD p0.Prev)), .d (.lit (.string ⟨⟨p0.Parent⟩⟩)), .d (.seq 2 (List.map cS_api_Member p0.Members)), .d (.lit (.int .i64 p0.Cut)), .d (.lit (.bool p0.Gone)), .d (.lit (.string ⟨⟨p0.By⟩⟩))]) (g0 rfl) rfl rfl rfl ?_
 refine o_s (.t (.d (.lit (.int .i64 0)))) (g0 rfl) rfl rfl rfl ?_
 refine o_nil ?_
 repeat (first | refine k1 ?_ | refine k4 ?_)
 refine c_seq ?_
 refine c_block ?_
 refine c_sr ?_
 refine o_s (.t (.agg [.lit (.string ⟨⟨p0.Folder⟩⟩), .lit (.int .i64 p0.Seq), .seq 1 (bytesD p0.Prev), .lit (.string ⟨⟨p0.Parent⟩⟩), .seq 2 (List.map cS_api_Member p0.Members), .lit (.int .i64 p0.Cut), .lit (.bool p0.Gone), .lit (.string ⟨⟨p0.By⟩⟩)])) (g0 rfl) rfl rfl rfl ?_
 obtain ⟨x1, h2, h⟩ := bind_some h
 refine o_ca (fc_manifest_may _ _ h2) (g0 rfl) rfl rfl rfl rfl rfl rfl rfl (.cons (.refl _) .nil) rfl rfl ?_
 refine o_s (.t (.d (.lit (.bool (!x1))))) (g0 rfl) rfl rfl rfl ?_
 refine o_s (.t (.d (.lit (.bool (!x1))))) (g0 rfl) rfl rfl rfl ?_
 refine o_nil ?_
 repeat (first | refine k1 ?_ | refine k4 ?_)
 rcases bif_some h with ⟨h3, h⟩ | ⟨h3, h⟩
 ·
  refine c_t h3 rfl ?_
  refine c_sr ?_
  refine o_s (.t (.d (.lit (.int .i64 2)))) (g0 rfl) rfl rfl rfl ?_
  refine o_nil ?_
  repeat (first | refine k1 ?_ | refine k4 ?_)
  refine c_ret ?_
  repeat (first | refine k3 ?_ | refine k5 ?_)
  obtain rfl := Option.some.inj h
  exact end0 rfl (.refl _)
 ·
  refine c_f h3 rfl ?_
  refine c_seq ?_
  refine c_draw mixed (by kernel_rfl) ?_
  refine d_s (.ref 1 1) rfl (dg0 rfl) rfl rfl rfl rfl ?_
  refine d_s (.t (.d (.lit (.int .i64 p0.Seq)))) rfl (dg0 rfl) rfl rfl rfl rfl ?_
  refine d_s (.t (.d (.lit (.bool (p0.Seq != 1))))) rfl (dg0 rfl) rfl rfl rfl rfl ?_
  refine d_s (.t (.d (.lit (.bool (p0.Seq != 1))))) rfl (dg0 rfl) rfl rfl rfl rfl ?_
  rcases bif_some h with ⟨h4, h⟩ | ⟨h4, h⟩
  ·
   refine d_skip rfl rfl rfl rfl rfl h4 rfl rfl rfl ?_
   refine d_skip rfl rfl rfl rfl rfl h4 rfl rfl rfl ?_
   refine d_skip rfl rfl rfl rfl rfl h4 rfl rfl rfl ?_
   refine d_skip rfl rfl rfl rfl rfl h4 rfl rfl rfl ?_
   refine d_pk (.t (.d (.lit (.bool true)))) (b := true) h4 rfl (dg0 rfl) rfl rfl rfl rfl rfl rfl ?_
   refine d_s (.t (.d (.lit (.bool true)))) rfl (dg0 rfl) rfl rfl rfl rfl ?_
   refine d_skip rfl rfl rfl rfl rfl rfl rfl rfl rfl ?_
   refine d_skip rfl rfl rfl rfl rfl rfl rfl rfl rfl ?_
   refine d_skip rfl rfl rfl rfl rfl rfl rfl rfl rfl ?_
   refine d_skip rfl rfl rfl rfl rfl rfl rfl rfl rfl ?_
   refine d_skip rfl rfl rfl rfl rfl rfl rfl rfl rfl ?_
   refine d_skip rfl rfl rfl rfl rfl rfl rfl rfl rfl ?_
   refine d_skip rfl rfl rfl rfl rfl rfl rfl rfl rfl ?_
   refine d_skip rfl rfl rfl rfl rfl rfl rfl rfl rfl ?_
   refine d_pk (.t (.d (.lit (.bool true)))) (b := true) rfl rfl (dg0 rfl) rfl rfl rfl rfl rfl rfl ?_
   refine d_s (.t (.d (.lit (.bool true)))) rfl (dg0 rfl) rfl rfl rfl rfl ?_
   refine d_skip rfl rfl rfl rfl rfl rfl rfl rfl rfl ?_
   refine d_skip rfl rfl rfl rfl rfl rfl rfl rfl rfl ?_
   refine d_skip rfl rfl rfl rfl rfl rfl rfl rfl rfl ?_
   refine d_pk (.t (.d (.lit (.bool true)))) (b := true) rfl rfl (dg0 rfl) rfl rfl rfl rfl rfl rfl ?_
   refine d_s (.t (.d (.lit (.bool true)))) rfl (dg0 rfl) rfl rfl rfl rfl ?_
   refine d_skip rfl rfl rfl rfl rfl rfl rfl rfl rfl ?_
   refine d_skip rfl rfl rfl rfl rfl rfl rfl rfl rfl ?_
   refine d_pk (.t (.d (.lit (.bool true)))) (b := true) rfl rfl (dg0 rfl) rfl rfl rfl rfl rfl rfl ?_
   refine d_s (.t (.d (.lit (.bool true)))) rfl (dg0 rfl) rfl rfl rfl rfl ?_
   refine d_nil (by kernel_rfl) ?_
   repeat (first | refine k1 ?_ | refine k2 ?_ | refine k3 ?_ | refine k4 ?_ | refine k5 ?_ | refine k6 ?_ | refine k7 rfl ?_)
   refine c_t rfl rfl ?_
   refine c_sr ?_
   refine o_s (.t (.d (.lit (.int .i64 11)))) (g0 rfl) rfl rfl rfl ?_
   refine o_nil ?_
   repeat (first | refine k1 ?_ | refine k4 ?_)
   refine c_ret ?_
   repeat (first | refine k3 ?_ | refine k5 ?_)
   obtain rfl := Option.some.inj h
   exact end0 rfl (.refl _)
  ·
   refine d_s (.ref 1 4) rfl (dgy rfl rfl rfl rfl h4) rfl rfl rfl rfl ?_
   refine d_s (.t (.d (.seq 2 (List.map cS_api_Member p0.Members)))) rfl (dgy rfl rfl rfl rfl h4) rfl rfl rfl rfl ?_
   refine d_c rfl (dgy rfl rfl rfl rfl h4) rfl rfl rfl rfl (lenE _ _) trivial ?_
   refine d_s (.t (.d (.lit (.bool ((p0.Members.length : Int) != 1))))) rfl (dgy rfl rfl rfl rfl h4) rfl rfl rfl rfl ?_
   refine d_pk (.t (.d (.lit (.bool ((p0.Members.length : Int) != 1))))) (b := false) h4 rfl (dg0 rfl) rfl rfl rfl rfl rfl rfl ?_
   refine d_s (.t (.d (.lit (.bool ((p0.Members.length : Int) != 1))))) rfl (dg0 rfl) rfl rfl rfl rfl ?_
   rcases bif_some h with ⟨h5, h⟩ | ⟨h5, h⟩
   ·
    refine d_skip rfl rfl rfl rfl rfl h5 rfl rfl rfl ?_
    refine d_skip rfl rfl rfl rfl rfl h5 rfl rfl rfl ?_
    refine d_skip rfl rfl rfl rfl rfl h5 rfl rfl rfl ?_
    refine d_skip rfl rfl rfl rfl rfl h5 rfl rfl rfl ?_
    refine d_skip rfl rfl rfl rfl rfl h5 rfl rfl rfl ?_
    refine d_skip rfl rfl rfl rfl rfl h5 rfl rfl rfl ?_
    refine d_skip rfl rfl rfl rfl rfl h5 rfl rfl rfl ?_
    refine d_skip rfl rfl rfl rfl rfl h5 rfl rfl rfl ?_
    refine d_pk (.t (.d (.lit (.bool true)))) (b := true) h5 rfl (dg0 rfl) rfl rfl rfl rfl rfl rfl ?_
    refine d_s (.t (.d (.lit (.bool true)))) rfl (dg0 rfl) rfl rfl rfl rfl ?_
    refine d_skip rfl rfl rfl rfl rfl rfl rfl rfl rfl ?_
    refine d_skip rfl rfl rfl rfl rfl rfl rfl rfl rfl ?_
    refine d_skip rfl rfl rfl rfl rfl rfl rfl rfl rfl ?_
    refine d_pk (.t (.d (.lit (.bool true)))) (b := true) rfl rfl (dg0 rfl) rfl rfl rfl rfl rfl rfl ?_
    refine d_s (.t (.d (.lit (.bool true)))) rfl (dg0 rfl) rfl rfl rfl rfl ?_
    refine d_skip rfl rfl rfl rfl rfl rfl rfl rfl rfl ?_
    refine d_skip rfl rfl rfl rfl rfl rfl rfl rfl rfl ?_
    refine d_pk (.t (.d (.lit (.bool true)))) (b := true) rfl rfl (dg0 rfl) rfl rfl rfl rfl rfl rfl ?_
    refine d_s (.t (.d (.lit (.bool true)))) rfl (dg0 rfl) rfl rfl rfl rfl ?_
    refine d_nil (by kernel_rfl) ?_
    repeat (first | refine k1 ?_ | refine k2 ?_ | refine k3 ?_ | refine k4 ?_ | refine k5 ?_ | refine k6 ?_ | refine k7 rfl ?_)
    refine c_t rfl rfl ?_
    refine c_sr ?_
    refine o_s (.t (.d (.lit (.int .i64 11)))) (g0 rfl) rfl rfl rfl ?_
    refine o_nil ?_
    repeat (first | refine k1 ?_ | refine k4 ?_)
    refine c_ret ?_
    repeat (first | refine k3 ?_ | refine k5 ?_)
    obtain rfl := Option.some.inj h
    exact end0 rfl (.refl _)
   ·
    refine d_s (.ref 1 4) rfl (dgy rfl rfl rfl rfl h5) rfl rfl rfl rfl ?_
    refine d_s (.t (.d (.seq 2 (List.map cS_api_Member p0.Members)))) rfl (dgy rfl rfl rfl rfl h5) rfl rfl rfl rfl ?_
    obtain ⟨x6, h7, h⟩ := bind_some h
    refine d_c rfl (dgy rfl rfl rfl rfl h5) rfl rfl rfl rfl (idxE h7) (idxC h7) ?_
    refine d_s (.imm [.lit (.string ⟨⟨x6.Name⟩⟩), .lit (.int .i64 x6.Role)]) rfl (dgy rfl rfl rfl rfl h5) rfl rfl rfl rfl ?_
    refine d_s (.t (.d (.lit (.string ⟨⟨x6.Name⟩⟩)))) rfl (dgy rfl rfl rfl rfl h5) rfl rfl rfl rfl ?_
    refine d_s (.ref 1 7) rfl (dgy rfl rfl rfl rfl h5) rfl rfl rfl rfl ?_
    refine d_s (.t (.d (.lit (.string ⟨⟨p0.By⟩⟩)))) rfl (dgy rfl rfl rfl rfl h5) rfl rfl rfl rfl ?_
    refine d_c rfl (dgy rfl rfl rfl rfl h5) rfl rfl rfl rfl (congrArg (fun z => A.t (.d (.lit (.bool (!z))))) (str_beqL _ _)) trivial ?_
    refine d_pk (.t (.d (.lit (.bool (!(x6.Name == p0.By)))))) (b := false) h5 rfl (dg0 rfl) rfl rfl rfl rfl rfl rfl ?_
    refine d_s (.t (.d (.lit (.bool (!(x6.Name == p0.By)))))) rfl (dg0 rfl) rfl rfl rfl rfl ?_
    rcases bif_some h with ⟨h8, h⟩ | ⟨h8, h⟩
    ·
     refine d_skip rfl rfl rfl rfl rfl h8 rfl rfl rfl ?_
     refine d_skip rfl rfl rfl rfl rfl h8 rfl rfl rfl ?_
     refine d_skip rfl rfl rfl rfl rfl h8 rfl rfl rfl ?_
     refine d_pk (.t (.d (.lit (.bool true)))) (b := true) h8 rfl (dg0 rfl) rfl rfl rfl rfl rfl rfl ?_
     refine d_s (.t (.d (.lit (.bool true)))) rfl (dg0 rfl) rfl rfl rfl rfl ?_
     refine d_skip rfl rfl rfl rfl rfl rfl rfl rfl rfl ?_
     refine d_skip rfl rfl rfl rfl rfl rfl rfl rfl rfl ?_
     refine d_pk (.t (.d (.lit (.bool true)))) (b := true) rfl rfl (dg0 rfl) rfl rfl rfl rfl rfl rfl ?_
     refine d_s (.t (.d (.lit (.bool true)))) rfl (dg0 rfl) rfl rfl rfl rfl ?_
     refine d_nil (by kernel_rfl) ?_
     repeat (first | refine k1 ?_ | refine k2 ?_ | refine k3 ?_ | refine k4 ?_ | refine k5 ?_ | refine k6 ?_ | refine k7 rfl ?_)
     refine c_t rfl rfl ?_
     refine c_sr ?_
     refine o_s (.t (.d (.lit (.int .i64 11)))) (g0 rfl) rfl rfl rfl ?_
     refine o_nil ?_
     repeat (first | refine k1 ?_ | refine k4 ?_)
     refine c_ret ?_
     repeat (first | refine k3 ?_ | refine k5 ?_)
     obtain rfl := Option.some.inj h
     exact end0 rfl (.refl _)
    ·
     refine d_s (.ref 1 5) rfl (dgy rfl rfl rfl rfl h8) rfl rfl rfl rfl ?_
     refine d_s (.t (.d (.lit (.int .i64 p0.Cut)))) rfl (dgy rfl rfl rfl rfl h8) rfl rfl rfl rfl ?_
     refine d_s (.t (.d (.lit (.bool (p0.Cut != 0))))) rfl (dgy rfl rfl rfl rfl h8) rfl rfl rfl rfl ?_
     refine d_pk (.t (.d (.lit (.bool (p0.Cut != 0))))) (b := false) h8 rfl (dg0 rfl) rfl rfl rfl rfl rfl rfl ?_
     refine d_s (.t (.d (.lit (.bool (p0.Cut != 0))))) rfl (dg0 rfl) rfl rfl rfl rfl ?_
     rcases bif_some h with ⟨h9, h⟩ | ⟨h9, h⟩
     ·
      refine d_skip rfl rfl rfl rfl rfl h9 rfl rfl rfl ?_
      refine d_skip rfl rfl rfl rfl rfl h9 rfl rfl rfl ?_
      refine d_pk (.t (.d (.lit (.bool true)))) (b := true) h9 rfl (dg0 rfl) rfl rfl rfl rfl rfl rfl ?_
      refine d_s (.t (.d (.lit (.bool true)))) rfl (dg0 rfl) rfl rfl rfl rfl ?_
      refine d_nil (by kernel_rfl) ?_
      repeat (first | refine k1 ?_ | refine k2 ?_ | refine k3 ?_ | refine k4 ?_ | refine k5 ?_ | refine k6 ?_ | refine k7 rfl ?_)
      refine c_t rfl rfl ?_
      refine c_sr ?_
      refine o_s (.t (.d (.lit (.int .i64 11)))) (g0 rfl) rfl rfl rfl ?_
      refine o_nil ?_
      repeat (first | refine k1 ?_ | refine k4 ?_)
      refine c_ret ?_
      repeat (first | refine k3 ?_ | refine k5 ?_)
      obtain rfl := Option.some.inj h
      exact end0 rfl (.refl _)
     ·
      refine d_s (.ref 1 6) rfl (dgy rfl rfl rfl rfl h9) rfl rfl rfl rfl ?_
      refine d_s (.t (.d (.lit (.bool p0.Gone)))) rfl (dgy rfl rfl rfl rfl h9) rfl rfl rfl rfl ?_
      refine d_pk (.t (.d (.lit (.bool p0.Gone)))) (b := false) h9 rfl (dg0 rfl) rfl rfl rfl rfl rfl rfl ?_
      refine d_s (.t (.d (.lit (.bool p0.Gone)))) rfl (dg0 rfl) rfl rfl rfl rfl ?_
      refine d_nil (by kernel_rfl) ?_
      repeat (first | refine k1 ?_ | refine k2 ?_ | refine k3 ?_ | refine k4 ?_ | refine k5 ?_ | refine k6 ?_ | refine k7 rfl ?_)
      rcases bif_some h with ⟨h10, h⟩ | ⟨h10, h⟩
      ·
       refine c_t h10 rfl ?_
       refine c_sr ?_
       refine o_s (.t (.d (.lit (.int .i64 11)))) (g0 rfl) rfl rfl rfl ?_
       refine o_nil ?_
       repeat (first | refine k1 ?_ | refine k4 ?_)
       refine c_ret ?_
       repeat (first | refine k3 ?_ | refine k5 ?_)
       obtain rfl := Option.some.inj h
       exact end0 rfl (.refl _)
      ·
       refine c_f h10 rfl ?_
       refine c_skip ?_
       repeat (first | refine k1 ?_ | refine k4 ?_)
       refine c_sr ?_
       refine o_s (.t (.d (.lit (.int .i64 0)))) (g0 rfl) rfl rfl rfl ?_
       refine o_nil ?_
       repeat (first | refine k1 ?_ | refine k4 ?_)
       refine c_ret ?_
       repeat (first | refine k3 ?_ | refine k5 ?_)
       obtain rfl := Option.some.inj h
       exact end0 rfl (.refl _)

theorem fc_manifest_word (p0 : (List UInt8)) (r : V) (h : m_manifest_word p0 = some r) : FC Try.prog 23 [.t (.d (.lit (.string ⟨⟨p0⟩⟩)))] [] (.t (.agg [.lit (.int .i64 r.k), .lit (.int .i64 r.n), .seq 1 (bytesD r.b), .lit (.slice none 0 0)])) := by
 refine fc_mk (rs := [.cell 2 49]) (n := 6) Try.func23 rfl rfl (Nat.le_of_ble_eq_true rfl) rfl (pins := []) rfl (L := [(0, .t (.d (.lit (.string ⟨⟨p0⟩⟩))))]) rfl ?_
 refine c_sr ?_
 refine o_s (.box [.d (.lit (.int .i64 0)), .d (.lit (.int .i64 0)), .d (.lit (.slice none 0 0)), .d (.lit (.slice none 0 0))]) (g0 rfl) rfl rfl rfl ?_
 refine o_nil ?_
 repeat (first | refine k1 ?_ | refine k4 ?_)
 refine c_sr ?_
 refine o_s (.t (.d (.lit (.string ⟨⟨p0⟩⟩)))) (g0 rfl) rfl rfl rfl ?_
 obtain ⟨x1, h2, h⟩ := bind_some h
 refine o_c (g0 rfl) rfl rfl rfl (strBE h2) (strBC h2) ?_
 obtain ⟨x3, h4, h⟩ := bind_some h
 refine o_ca (fc_codec_Raw _ _ h4) (g0 rfl) rfl rfl rfl rfl rfl rfl rfl (.cons (.refl _) .nil) rfl rfl ?_
 refine o_st (.box [.d (.lit (.int .i64 x3.k)), .d (.lit (.int .i64 x3.n)), .d (.seq 1 (bytesD x3.b)), .d (.lit (.slice none 0 0))]) (g0 rfl) rfl rfl rfl ?_
 refine o_nil ?_
 repeat (first | refine k1 ?_ | refine k4 ?_)
 refine c_ret ?_
 repeat (first | refine k3 ?_ | refine k5 ?_)
 obtain rfl := Option.some.inj h
 exact end0 rfl (.refl _)

theorem fc_manifest_bit (p0 : Bool) (r : Int) (h : m_manifest_bit p0 = some r) : FC Try.prog 27 [.t (.d (.lit (.bool p0)))] [] (.t (.d (.lit (.int .i64 r)))) := by
 refine fc_mk (rs := [.tmp 2]) (n := 4) Try.func27 rfl rfl (Nat.le_of_ble_eq_true rfl) rfl (pins := []) rfl (L := [(0, .t (.d (.lit (.bool p0))))]) rfl ?_
 refine c_sr ?_
 refine o_s (.t (.d (.lit (.int .i64 0)))) (g0 rfl) rfl rfl rfl ?_
 refine o_nil ?_
 repeat (first | refine k1 ?_ | refine k4 ?_)
 refine c_seq ?_
 refine c_sr ?_
 refine o_s (.t (.d (.lit (.bool p0)))) (g0 rfl) rfl rfl rfl ?_
 refine o_nil ?_
 repeat (first | refine k1 ?_ | refine k4 ?_)
 rcases bif_some h with ⟨h1, h⟩ | ⟨h1, h⟩
 ·
  refine c_t h1 rfl ?_
  refine c_sr ?_
  refine o_s (.t (.d (.lit (.int .i64 1)))) (g0 rfl) rfl rfl rfl ?_
  refine o_nil ?_
  repeat (first | refine k1 ?_ | refine k4 ?_)
  refine c_ret ?_
  repeat (first | refine k3 ?_ | refine k5 ?_)
  obtain rfl := Option.some.inj h
  exact end0 rfl (.refl _)
 ·
  refine c_f h1 rfl ?_
  refine c_skip ?_
  repeat (first | refine k1 ?_ | refine k4 ?_)
  refine c_sr ?_
  refine o_s (.t (.d (.lit (.int .i64 0)))) (g0 rfl) rfl rfl rfl ?_
  refine o_nil ?_
  repeat (first | refine k1 ?_ | refine k4 ?_)
  refine c_ret ?_
  repeat (first | refine k3 ?_ | refine k5 ?_)
  obtain rfl := Option.some.inj h
  exact end0 rfl (.refl _)

theorem fc_codec_Of_n0 (r : V) (h : m_codec_Of_n0 = some r) : FC Try.prog 22 [.t (.d (.lit (.slice none 0 0)))] [] (.t (.agg [.lit (.int .i64 r.k), .lit (.int .i64 r.n), .lit (.slice none 0 0), .lit (.slice none 0 0)])) := by
 refine fc_mk (rs := [.cell 2 49]) (n := 5) Try.func22 rfl rfl (Nat.le_of_ble_eq_true rfl) rfl (pins := []) rfl (L := [(0, .t (.d (.lit (.slice none 0 0))))]) rfl ?_
 refine c_sr ?_
 refine o_s (.box [.d (.lit (.int .i64 0)), .d (.lit (.int .i64 0)), .d (.lit (.slice none 0 0)), .d (.lit (.slice none 0 0))]) (g0 rfl) rfl rfl rfl ?_
 refine o_nil ?_
 repeat (first | refine k1 ?_ | refine k4 ?_)
 refine c_sr ?_
 refine o_s (.t (.d (.lit (.slice none 0 0)))) (g0 rfl) rfl rfl rfl ?_
 refine o_s (.t (.agg [.lit (.int .i64 3), .lit (.int .i64 0), .lit (.slice none 0 0), .lit (.slice none 0 0)])) (g0 rfl) rfl rfl rfl ?_
 refine o_st (.box [.d (.lit (.int .i64 3)), .d (.lit (.int .i64 0)), .d (.lit (.slice none 0 0)), .d (.lit (.slice none 0 0))]) (g0 rfl) rfl rfl rfl ?_
 refine o_nil ?_
 repeat (first | refine k1 ?_ | refine k4 ?_)
 refine c_ret ?_
 repeat (first | refine k3 ?_ | refine k5 ?_)
 obtain rfl := Option.some.inj h
 exact end0 rfl (.refl _)

theorem fc_manifest_Text (p0 : S_api_Manifest) (r : ((List UInt8) × Int)) (h : m_manifest_Text p0 = some r) : FC Try.prog 10 [.t (.agg [.lit (.string ⟨⟨p0.Folder⟩⟩), .lit (.int .i64 p0.Seq), .seq 1 (bytesD p0.Prev), .lit (.string ⟨⟨p0.Parent⟩⟩), .seq 2 (List.map cS_api_Member p0.Members), .lit (.int .i64 p0.Cut), .lit (.bool p0.Gone), .lit (.string ⟨⟨p0.By⟩⟩)])] [] (.tup [.d (.seq 1 (bytesD r.1)), .d (.lit (.int .i64 r.2))]) := by
 refine fc_mk (rs := [.tmp 2, .tmp 3]) (n := 61) Try.func10 rfl rfl (Nat.le_of_ble_eq_true rfl) rfl (pins := []) rfl (L := [(0, .t (.agg [.lit (.string ⟨⟨p0.Folder⟩⟩), .lit (.int .i64 p0.Seq), .seq 1 (bytesD p0.Prev), .lit (.string ⟨⟨p0.Parent⟩⟩), .seq 2 (List.map cS_api_Member p0.Members), .lit (.int .i64 p0.Cut), .lit (.bool p0.Gone), .lit (.string ⟨⟨p0.By⟩⟩)]))]) rfl ?_
 refine c_sr ?_
 refine o_s (.box [.d (.lit (.string ⟨⟨p0.Folder⟩⟩)), .d (.lit (.int .i64 p0.Seq)), .d (.seq 1 (bytesD p0.Prev)), .d (.lit (.string ⟨⟨p0.Parent⟩⟩)), .d (.seq 2 (List.map cS_api_Member p0.Members)), .d (.lit (.int .i64 p0.Cut)), .d (.lit (.bool p0.Gone)), .d (.lit (.string ⟨⟨p0.By⟩⟩))]) (g0 rfl) rfl rfl rfl ?_
 refine o_s (.t (.d (.lit (.slice none 0 0)))) (g0 rfl) rfl rfl rfl ?_
 refine o_s (.t (.d (.lit (.int .i64 0)))) (g0 rfl) rfl rfl rfl ?_
 refine o_nil ?_
 repeat (first | refine k1 ?_ | refine k4 ?_)
 refine c_seq ?_
 refine c_sr ?_
 refine o_s (.t (.agg [.lit (.string ⟨⟨p0.Folder⟩⟩), .lit (.int .i64 p0.Seq), .seq 1 (bytesD p0.Prev), .lit (.string ⟨⟨p0.Parent⟩⟩), .seq 2 (List.map cS_api_Member p0.Members), .lit (.int .i64 p0.Cut), .lit (.bool p0.Gone), .lit (.string ⟨⟨p0.By⟩⟩)])) (g0 rfl) rfl rfl rfl ?_
 obtain ⟨x1, h2, h⟩ := bind_some h
 refine o_ca (fc_manifest_may _ _ h2) (g0 rfl) rfl rfl rfl rfl rfl rfl rfl (.cons (.refl _) .nil) rfl rfl ?_
 refine o_s (.t (.d (.lit (.bool (!x1))))) (g0 rfl) rfl rfl rfl ?_
 refine o_nil ?_
 repeat (first | refine k1 ?_ | refine k4 ?_)
 rcases bif_some h with ⟨h3, h⟩ | ⟨h3, h⟩
 ·
  refine c_t h3 rfl ?_
  refine c_sr ?_
  refine o_s (.t (.d (.lit (.slice none 0 0)))) (g0 rfl) rfl rfl rfl ?_
  refine o_s (.t (.d (.lit (.int .i64 2)))) (g0 rfl) rfl rfl rfl ?_
  refine o_nil ?_
  repeat (first | refine k1 ?_ | refine k4 ?_)
  refine c_ret ?_
  repeat (first | refine k3 ?_ | refine k5 ?_)
  obtain rfl := Option.some.inj h
  exact end0 rfl (.tup (.cons (.d (.nil _)) (.cons (.refl _) .nil)))
 ·
  refine c_f h3 rfl ?_
  refine c_skip ?_
  repeat (first | refine k1 ?_ | refine k4 ?_)
  refine c_sr ?_
  obtain ⟨x4, h5, h⟩ := bind_some h
  refine o_ca (fc_codec_Of_n0 _ h5) (g0 rfl) rfl rfl rfl rfl rfl rfl rfl (.cons (.refl _) .nil) rfl rfl ?_
  refine o_s (.box [.d (.lit (.int .i64 0)), .d (.lit (.int .i64 0)), .d (.lit (.slice none 0 0)), .d (.lit (.slice none 0 0))]) (g0 rfl) rfl rfl rfl ?_
  refine o_st (.box [.d (.lit (.int .i64 x4.k)), .d (.lit (.int .i64 x4.n)), .d (.lit (.slice none 0 0)), .d (.lit (.slice none 0 0))]) (g0 rfl) rfl rfl rfl ?_
  refine o_nil ?_
  repeat (first | refine k1 ?_ | refine k4 ?_)
  refine c_cut (fun (y6 : (List V)) => [(1, .box [.d (.lit (.string ⟨⟨p0.Folder⟩⟩)), .d (.lit (.int .i64 p0.Seq)), .d (.seq 1 (bytesD p0.Prev)), .d (.lit (.string ⟨⟨p0.Parent⟩⟩)), .d (.seq 2 (List.map cS_api_Member p0.Members)), .d (.lit (.int .i64 p0.Cut)), .d (.lit (.bool p0.Gone)), .d (.lit (.string ⟨⟨p0.By⟩⟩))]), (4, .box [.d (.lit (.int .i64 x4.k)), .d (.lit (.int .i64 x4.n)), .d (.lit (.slice none 0 0)), .own 49 4 (List.map V.cells y6)])]) (fun (y6 : (List V)) => m_manifest_Text_j1 p0 x4 y6 = some r) ?_ ?_
  ·
   refine c_sr ?_
   refine o_s (.ref 1 4) (g0 rfl) rfl rfl rfl ?_
   refine o_s (.t (.d (.seq 2 (List.map cS_api_Member p0.Members)))) (g0 rfl) rfl rfl rfl ?_
   refine o_c (g0 rfl) rfl rfl rfl (lenE _ _) trivial ?_
   refine o_s (.t (.d (.lit (.int .i64 0)))) (g0 rfl) rfl rfl rfl ?_
   refine o_nil ?_
   repeat (first | refine k1 ?_ | refine k4 ?_)
   refine c_block ?_
   refine c_fuel (fun (q : (List V) × Int) => [(1, .box [.d (.lit (.string ⟨⟨p0.Folder⟩⟩)), .d (.lit (.int .i64 p0.Seq)), .d (.seq 1 (bytesD p0.Prev)), .d (.lit (.string ⟨⟨p0.Parent⟩⟩)), .d (.seq 2 (List.map cS_api_Member p0.Members)), .d (.lit (.int .i64 p0.Cut)), .d (.lit (.bool p0.Gone)), .d (.lit (.string ⟨⟨p0.By⟩⟩))]), (4, .box [.d (.lit (.int .i64 x4.k)), .d (.lit (.int .i64 x4.n)), .d (.lit (.slice none 0 0)), .own 49 4 (List.map V.cells q.1)]), (12, .t (.d (.seq 2 (List.map cS_api_Member p0.Members)))), (13, .t (.d (.lit (.int .i64 (p0.Members.length : Int))))), (14, .t (.d (.lit (.int .i64 q.2))))]) (fun nl2 => (fun (q : (List V) × Int) => m_manifest_Text_l2 p0 x4 nl2 q.1 q.2 = some r)) (p0.Members.length + 1) ([], 0) h ⟨(.refl _), ⟨(.box (.cons (.refl _) (.cons (.refl _) (.cons (.refl _) (.cons (.nilOwn _ _) .nil)))) rfl), ⟨(.refl _), ⟨(.refl _), ⟨(.refl _), trivial⟩⟩⟩⟩⟩ rfl ?_
   rintro nl2 ⟨z29, z30⟩ h
   cases nl2 with
   | zero => exact none_ne h
   | succ nl2 =>
    refine c_sr ?_
    refine o_s (.t (.d (.lit (.bool (decide (z30 < (p0.Members.length : Int))))))) (g0 rfl) rfl rfl rfl ?_
    refine o_nil ?_
    repeat (first | refine k1 ?_ | refine k4 ?_)
    refine c_seq ?_
    rcases bif_some h with ⟨h31, h⟩ | ⟨h31, h⟩
    ·
     refine c_t h31 rfl ?_
     refine c_skip ?_
     repeat (first | refine k1 ?_ | refine k4 ?_)
     refine c_seq ?_
     refine c_block ?_
     refine c_sr ?_
     obtain ⟨x32, h33, h⟩ := bind_some h
     refine o_c (g0 rfl) rfl rfl rfl (idxE h33) (idxC h33) ?_
     refine o_s (.t (.agg [.lit (.string ⟨⟨x32.Name⟩⟩), .lit (.int .i64 x32.Role)])) (g0 rfl) rfl rfl rfl ?_
     refine o_s (.box [.d (.lit (.string ⟨⟨[]⟩⟩)), .d (.lit (.int .i64 0))]) (g0 rfl) rfl rfl rfl ?_
     refine o_st (.box [.d (.lit (.string ⟨⟨x32.Name⟩⟩)), .d (.lit (.int .i64 x32.Role))]) (g0 rfl) rfl rfl rfl ?_
     refine o_nil ?_
     repeat (first | refine k1 ?_ | refine k4 ?_)
     refine c_draw mixed (by kernel_rfl) ?_
     refine d_s (.ref 4 3) rfl (dg0 rfl) rfl rfl rfl rfl ?_
     refine d_2 (.box [.d (.lit (.int .i64 x4.k)), .d (.lit (.int .i64 x4.n)), .d (.lit (.slice none 0 0)), .d (.seq 4 (List.map V.cells z29))]) (.t (.own 49 4 (List.map V.cells z29))) rfl (dg0 rfl) rfl rfl rfl rfl rfl ?_
     refine d_s (.ref 6 0) rfl (dg0 rfl) rfl rfl rfl rfl ?_
     refine d_s (.t (.d (.lit (.string ⟨⟨x32.Name⟩⟩)))) rfl (dg0 rfl) rfl rfl rfl rfl ?_
     obtain ⟨x34, h35, h⟩ := bind_some h
     refine d_ca (fc_manifest_word _ _ h35) rfl (dg0 rfl) rfl rfl rfl rfl rfl rfl rfl rfl (.cons (.refl _) .nil) rfl rfl ?_
     refine d_s (.ref 6 1) rfl (dg0 rfl) rfl rfl rfl rfl ?_
     refine d_s (.t (.d (.lit (.int .i64 x32.Role)))) rfl (dg0 rfl) rfl rfl rfl rfl ?_
     obtain ⟨x36, h37, h⟩ := bind_some h
     refine d_ca (fc_codec_Num _ _ h37) rfl (dg0 rfl) rfl rfl rfl rfl rfl rfl rfl rfl (.cons (.refl _) .nil) rfl rfl ?_
     refine d_w (.t (.own 49 4 (List.map V.cells [(V.mk x34.k x34.n x34.b []), (V.mk x36.k x36.n [] [])]))) rfl (dg0 rfl) rfl rfl rfl rfl (.t (.rows _ _ (.cons (.cons (.refl _) (.cons (.refl _) (.cons (.refl _) (.cons (.nil _) .nil)))) (.cons (.cons (.refl _) (.cons (.refl _) (.cons (.nil _) (.cons (.nil _) .nil)))) .nil)) (rowsE V.cells_eq [(V.mk x34.k x34.n x34.b []), (V.mk x36.k x36.n [] [])]))) (fun e => nomatch e) ?_
     obtain ⟨x38, h39, h⟩ := bind_some h
     refine d_ca (fc_codec_Of _ _ h39) rfl (dg0 rfl) rfl rfl rfl rfl rfl rfl rfl rfl (.cons (.refl _) .nil) rfl rfl ?_
     refine d_w (.t (.own 49 4 (List.map V.cells [(V.mk x38.k x38.n [] x38.l)]))) rfl (dg0 rfl) rfl rfl rfl rfl (.t (.rows _ _ (.cons (.cons (.refl _) (.cons (.refl _) (.cons (.nil _) (.cons (.refl _) .nil)))) .nil) (rowsE V.cells_eq [(V.mk x38.k x38.n [] x38.l)]))) (fun e => nomatch e) ?_
     obtain ⟨x40, h41, h⟩ := bind_some h
     refine d_2c rfl (dg0 rfl) rfl rfl rfl rfl rfl (appE (c := V.cells) h41) (appC (c := V.cells) h41) ?_
     refine d_s (.ref 4 3) rfl (dg0 rfl) rfl rfl rfl rfl ?_
     refine d_st2 (.t (.d (.seq 4 (List.map V.cells x40)))) (.box [.d (.lit (.int .i64 x4.k)), .d (.lit (.int .i64 x4.n)), .d (.lit (.slice none 0 0)), .own 49 4 (List.map V.cells x40)]) rfl (dg0 rfl) rfl rfl rfl rfl rfl ?_
     refine d_nil (by kernel_rfl) ?_
     repeat (first | refine k1 ?_ | refine k2 ?_ | refine k3 ?_ | refine k4 ?_ | refine k5 ?_ | refine k6 ?_ | refine k7 rfl ?_)
     refine c_region ?_
     refine o_s (.t (.d (.lit (.int .i64 (wi (z30 + 1)))))) (g0 rfl) rfl rfl rfl ?_
     refine o_s (.t (.d (.lit (.int .i64 (wi (z30 + 1)))))) (g0 rfl) rfl rfl rfl ?_
     refine o_nil ?_
     repeat (first | refine k1 ?_ | refine k4 ?_)
     exact ⟨nl2, (x40, (wi (z30 + 1))), Nat.lt_succ_self nl2, h, ⟨(.refl _), ⟨(.refl _), ⟨(.refl _), ⟨(.refl _), ⟨(.refl _), trivial⟩⟩⟩⟩⟩, rfl⟩
    ·
     refine c_f h31 rfl ?_
     refine c_exit ?_
     repeat (first | refine k1 ?_ | refine k2 ?_ | refine k3 ?_ | refine k4 ?_ | refine k5 ?_ | refine k6 ?_ | refine k7 rfl ?_)
     exact ⟨z29, h, ⟨(.refl _), ⟨(.refl _), trivial⟩⟩, rfl⟩
  ·
   rintro y6 h
   refine c_seq ?_
   refine c_draw mixed (by kernel_rfl) ?_
   obtain ⟨x7, h8, h⟩ := bind_some h
   refine d_ca (fc_manifest_word _ _ h8) rfl (dg0 rfl) rfl rfl rfl rfl rfl rfl rfl rfl (.cons (.refl _) .nil) rfl rfl ?_
   refine d_s (.ref 1 0) rfl (dg0 rfl) rfl rfl rfl rfl ?_
   refine d_s (.t (.d (.lit (.string ⟨⟨p0.Folder⟩⟩)))) rfl (dg0 rfl) rfl rfl rfl rfl ?_
   obtain ⟨x9, h10, h⟩ := bind_some h
   refine d_ca (fc_manifest_word _ _ h10) rfl (dg0 rfl) rfl rfl rfl rfl rfl rfl rfl rfl (.cons (.refl _) .nil) rfl rfl ?_
   refine d_s (.ref 1 1) rfl (dg0 rfl) rfl rfl rfl rfl ?_
   refine d_s (.t (.d (.lit (.int .i64 p0.Seq)))) rfl (dg0 rfl) rfl rfl rfl rfl ?_
   obtain ⟨x11, h12, h⟩ := bind_some h
   refine d_ca (fc_codec_Num _ _ h12) rfl (dg0 rfl) rfl rfl rfl rfl rfl rfl rfl rfl (.cons (.refl _) .nil) rfl rfl ?_
   refine d_s (.ref 1 2) rfl (dg0 rfl) rfl rfl rfl rfl ?_
   refine d_s (.t (.d (.seq 1 (bytesD p0.Prev)))) rfl (dg0 rfl) rfl rfl rfl rfl ?_
   obtain ⟨x13, h14, h⟩ := bind_some h
   refine d_ca (fc_codec_Raw _ _ h14) rfl (dg0 rfl) rfl rfl rfl rfl rfl rfl rfl rfl (.cons (.refl _) .nil) rfl rfl ?_
   refine d_s (.ref 1 3) rfl (dg0 rfl) rfl rfl rfl rfl ?_
   refine d_s (.t (.d (.lit (.string ⟨⟨p0.Parent⟩⟩)))) rfl (dg0 rfl) rfl rfl rfl rfl ?_
   obtain ⟨x15, h16, h⟩ := bind_some h
   refine d_ca (fc_manifest_word _ _ h16) rfl (dg0 rfl) rfl rfl rfl rfl rfl rfl rfl rfl (.cons (.refl _) .nil) rfl rfl ?_
   refine d_s (.t (.agg [.lit (.int .i64 x4.k), .lit (.int .i64 x4.n), .lit (.slice none 0 0), .seq 4 (List.map V.cells y6)])) rfl (dg0 rfl) rfl rfl rfl rfl ?_
   refine d_s (.ref 1 5) rfl (dg0 rfl) rfl rfl rfl rfl ?_
   refine d_s (.t (.d (.lit (.int .i64 p0.Cut)))) rfl (dg0 rfl) rfl rfl rfl rfl ?_
   obtain ⟨x17, h18, h⟩ := bind_some h
   refine d_ca (fc_codec_Num _ _ h18) rfl (dg0 rfl) rfl rfl rfl rfl rfl rfl rfl rfl (.cons (.refl _) .nil) rfl rfl ?_
   refine d_s (.ref 1 6) rfl (dg0 rfl) rfl rfl rfl rfl ?_
   refine d_s (.t (.d (.lit (.bool p0.Gone)))) rfl (dg0 rfl) rfl rfl rfl rfl ?_
   obtain ⟨x19, h20, h⟩ := bind_some h
   refine d_ca (fc_manifest_bit _ _ h20) rfl (dg0 rfl) rfl rfl rfl rfl rfl rfl rfl rfl (.cons (.refl _) .nil) rfl rfl ?_
   obtain ⟨x21, h22, h⟩ := bind_some h
   refine d_ca (fc_codec_Num _ _ h22) rfl (dg0 rfl) rfl rfl rfl rfl rfl rfl rfl rfl (.cons (.refl _) .nil) rfl rfl ?_
   refine d_s (.ref 1 7) rfl (dg0 rfl) rfl rfl rfl rfl ?_
   refine d_s (.t (.d (.lit (.string ⟨⟨p0.By⟩⟩)))) rfl (dg0 rfl) rfl rfl rfl rfl ?_
   obtain ⟨x23, h24, h⟩ := bind_some h
   refine d_ca (fc_manifest_word _ _ h24) rfl (dg0 rfl) rfl rfl rfl rfl rfl rfl rfl rfl (.cons (.refl _) .nil) rfl rfl ?_
   refine d_w (.t (.own 49 4 (List.map V.cells [(V.mk x7.k x7.n x7.b []), (V.mk x9.k x9.n x9.b []), (V.mk x11.k x11.n [] []), (V.mk x13.k x13.n x13.b []), (V.mk x15.k x15.n x15.b []), (V.mk x4.k x4.n [] y6), (V.mk x17.k x17.n [] []), (V.mk x21.k x21.n [] []), (V.mk x23.k x23.n x23.b [])]))) rfl (dg0 rfl) rfl rfl rfl rfl (.t (.rows _ _ (.cons (.cons (.refl _) (.cons (.refl _) (.cons (.refl _) (.cons (.nil _) .nil)))) (.cons (.cons (.refl _) (.cons (.refl _) (.cons (.refl _) (.cons (.nil _) .nil)))) (.cons (.cons (.refl _) (.cons (.refl _) (.cons (.nil _) (.cons (.nil _) .nil)))) (.cons (.cons (.refl _) (.cons (.refl _) (.cons (.refl _) (.cons (.nil _) .nil)))) (.cons (.cons (.refl _) (.cons (.refl _) (.cons (.refl _) (.cons (.nil _) .nil)))) (.cons (.cons (.refl _) (.cons (.refl _) (.cons (.nil _) (.cons (.refl _) .nil)))) (.cons (.cons (.refl _) (.cons (.refl _) (.cons (.nil _) (.cons (.nil _) .nil)))) (.cons (.cons (.refl _) (.cons (.refl _) (.cons (.nil _) (.cons (.nil _) .nil)))) (.cons (.cons (.refl _) (.cons (.refl _) (.cons (.refl _) (.cons (.nil _) .nil)))) .nil))))))))) (rowsE V.cells_eq [(V.mk x7.k x7.n x7.b []), (V.mk x9.k x9.n x9.b []), (V.mk x11.k x11.n [] []), (V.mk x13.k x13.n x13.b []), (V.mk x15.k x15.n x15.b []), (V.mk x4.k x4.n [] y6), (V.mk x17.k x17.n [] []), (V.mk x21.k x21.n [] []), (V.mk x23.k x23.n x23.b [])]))) (fun e => nomatch e) ?_
   obtain ⟨x25, h26, h⟩ := bind_some h
   refine d_ca (fc_codec_Of _ _ h26) rfl (dg0 rfl) rfl rfl rfl rfl rfl rfl rfl rfl (.cons (.refl _) .nil) rfl rfl ?_
   obtain ⟨x27, h28, h⟩ := bind_some h
   refine d_ca (fc_codec_Encode _ _ h28) rfl (dg0 rfl) rfl rfl rfl rfl rfl rfl rfl rfl (.cons (.t (.agg (.cons (.refl _) (.cons (.refl _) (.cons (.nil _) (.cons (.refl _) .nil)))))) .nil) rfl rfl ?_
   refine d_s (.t (.d (.seq 1 (bytesD x27.1)))) rfl (dg0 rfl) rfl rfl rfl rfl ?_
   refine d_s (.t (.d (.lit (.int .i64 x27.2)))) rfl (dg0 rfl) rfl rfl rfl rfl ?_
   refine d_s (.t (.d (.seq 1 (bytesD x27.1)))) rfl (dg0 rfl) rfl rfl rfl rfl ?_
   refine d_s (.t (.d (.lit (.int .i64 x27.2)))) rfl (dg0 rfl) rfl rfl rfl rfl ?_
   refine d_nil (by kernel_rfl) ?_
   repeat (first | refine k1 ?_ | refine k2 ?_ | refine k3 ?_ | refine k4 ?_ | refine k5 ?_ | refine k6 ?_ | refine k7 rfl ?_)
   refine c_ret ?_
   repeat (first | refine k3 ?_ | refine k5 ?_)
   obtain rfl := Option.some.inj h
   exact end0 rfl (.tup (.cons (.refl _) (.cons (.refl _) .nil)))

theorem fc_R28_Of (p0 : (List V)) (r : V) (h : m_R28_Of p0 = some r) : FC Try.prog 28 [.t (.d (.seq 4 (List.map V.cells p0)))] [] (.t (.agg [.lit (.int .i64 r.k), .lit (.int .i64 r.n), .lit (.slice none 0 0), .seq 4 (List.map V.cells r.l)])) := by
 refine fc_mk (rs := [.cell 2 49]) (n := 5) Try.func28 rfl rfl (Nat.le_of_ble_eq_true rfl) rfl (pins := []) rfl (L := [(0, .t (.d (.seq 4 (List.map V.cells p0))))]) rfl ?_
 refine c_sr ?_
 refine o_s (.box [.d (.lit (.int .i64 0)), .d (.lit (.int .i64 0)), .d (.lit (.slice none 0 0)), .d (.lit (.slice none 0 0))]) (g0 rfl) rfl rfl rfl ?_
 refine o_nil ?_
 repeat (first | refine k1 ?_ | refine k4 ?_)
 refine c_sr ?_
 refine o_s (.t (.d (.seq 4 (List.map V.cells p0)))) (g0 rfl) rfl rfl rfl ?_
 refine o_s (.t (.agg [.lit (.int .i64 3), .lit (.int .i64 0), .lit (.slice none 0 0), .seq 4 (List.map V.cells p0)])) (g0 rfl) rfl rfl rfl ?_
 refine o_st (.box [.d (.lit (.int .i64 3)), .d (.lit (.int .i64 0)), .d (.lit (.slice none 0 0)), .d (.seq 4 (List.map V.cells p0))]) (g0 rfl) rfl rfl rfl ?_
 refine o_nil ?_
 repeat (first | refine k1 ?_ | refine k4 ?_)
 refine c_ret ?_
 repeat (first | refine k3 ?_ | refine k5 ?_)
 obtain rfl := Option.some.inj h
 exact end0 rfl (.refl _)

theorem fc_R28_Raw (p0 : (List UInt8)) (r : V) (h : m_R28_Raw p0 = some r) : FC Try.prog 29 [.t (.d (.seq 1 (bytesD p0)))] [] (.t (.agg [.lit (.int .i64 r.k), .lit (.int .i64 r.n), .seq 1 (bytesD r.b), .lit (.slice none 0 0)])) := by
 refine fc_mk (rs := [.cell 2 49]) (n := 5) Try.func29 rfl rfl (Nat.le_of_ble_eq_true rfl) rfl (pins := []) rfl (L := [(0, .t (.d (.seq 1 (bytesD p0))))]) rfl ?_
 refine c_sr ?_
 refine o_s (.box [.d (.lit (.int .i64 0)), .d (.lit (.int .i64 0)), .d (.lit (.slice none 0 0)), .d (.lit (.slice none 0 0))]) (g0 rfl) rfl rfl rfl ?_
 refine o_nil ?_
 repeat (first | refine k1 ?_ | refine k4 ?_)
 refine c_sr ?_
 refine o_s (.t (.d (.seq 1 (bytesD p0)))) (g0 rfl) rfl rfl rfl ?_
 refine o_s (.t (.agg [.lit (.int .i64 2), .lit (.int .i64 0), .seq 1 (bytesD p0), .lit (.slice none 0 0)])) (g0 rfl) rfl rfl rfl ?_
 refine o_st (.box [.d (.lit (.int .i64 2)), .d (.lit (.int .i64 0)), .d (.seq 1 (bytesD p0)), .d (.lit (.slice none 0 0))]) (g0 rfl) rfl rfl rfl ?_
 refine o_nil ?_
 repeat (first | refine k1 ?_ | refine k4 ?_)
 refine c_ret ?_
 repeat (first | refine k3 ?_ | refine k5 ?_)
 obtain rfl := Option.some.inj h
 exact end0 rfl (.refl _)

theorem fc_R28_Num (p0 : Int) (r : V) (h : m_R28_Num p0 = some r) : FC Try.prog 30 [.t (.d (.lit (.int .i64 p0)))] [] (.t (.agg [.lit (.int .i64 r.k), .lit (.int .i64 r.n), .lit (.slice none 0 0), .lit (.slice none 0 0)])) := by
 refine fc_mk (rs := [.cell 2 49]) (n := 5) Try.func30 rfl rfl (Nat.le_of_ble_eq_true rfl) rfl (pins := []) rfl (L := [(0, .t (.d (.lit (.int .i64 p0))))]) rfl ?_
 refine c_sr ?_
 refine o_s (.box [.d (.lit (.int .i64 0)), .d (.lit (.int .i64 0)), .d (.lit (.slice none 0 0)), .d (.lit (.slice none 0 0))]) (g0 rfl) rfl rfl rfl ?_
 refine o_nil ?_
 repeat (first | refine k1 ?_ | refine k4 ?_)
 refine c_sr ?_
 refine o_s (.t (.d (.lit (.int .i64 p0)))) (g0 rfl) rfl rfl rfl ?_
 refine o_s (.t (.agg [.lit (.int .i64 1), .lit (.int .i64 p0), .lit (.slice none 0 0), .lit (.slice none 0 0)])) (g0 rfl) rfl rfl rfl ?_
 refine o_st (.box [.d (.lit (.int .i64 1)), .d (.lit (.int .i64 p0)), .d (.lit (.slice none 0 0)), .d (.lit (.slice none 0 0))]) (g0 rfl) rfl rfl rfl ?_
 refine o_nil ?_
 repeat (first | refine k1 ?_ | refine k4 ?_)
 refine c_ret ?_
 repeat (first | refine k3 ?_ | refine k5 ?_)
 obtain rfl := Option.some.inj h
 exact end0 rfl (.refl _)

theorem fc_R28_Text (p0 : S_api_Manifest) (r : (List UInt8)) (h : m_R28_Text p0 = some r) : FC Try.prog 12 [.t (.agg [.lit (.string ⟨⟨p0.Folder⟩⟩), .lit (.int .i64 p0.Seq), .seq 1 (bytesD p0.Prev), .lit (.string ⟨⟨p0.Parent⟩⟩), .seq 2 (List.map cS_api_Member p0.Members), .lit (.int .i64 p0.Cut), .lit (.bool p0.Gone), .lit (.string ⟨⟨p0.By⟩⟩)])] [] (.t (.own 5 1 (bytesD r))) := by
 refine fc_mk (rs := [.tmp 2]) (n := 66) Try.func12 rfl rfl (Nat.le_of_ble_eq_true rfl) rfl (pins := []) rfl (L := [(0, .t (.agg [.lit (.string ⟨⟨p0.Folder⟩⟩), .lit (.int .i64 p0.Seq), .seq 1 (bytesD p0.Prev), .lit (.string ⟨⟨p0.Parent⟩⟩), .seq 2 (List.map cS_api_Member p0.Members), .lit (.int .i64 p0.Cut), .lit (.bool p0.Gone), .lit (.string ⟨⟨p0.By⟩⟩)]))]) rfl ?_
 refine c_sr ?_
 refine o_s (.box [.d (.lit (.string ⟨⟨p0.Folder⟩⟩)), .d (.lit (.int .i64 p0.Seq)), .d (.seq 1 (bytesD p0.Prev)), .d (.lit (.string ⟨⟨p0.Parent⟩⟩)), .d (.seq 2 (List.map cS_api_Member p0.Members)), .d (.lit (.int .i64 p0.Cut)), .d (.lit (.bool p0.Gone)), .d (.lit (.string ⟨⟨p0.By⟩⟩))]) (g0 rfl) rfl rfl rfl ?_
 refine o_s (.t (.d (.lit (.slice none 0 0)))) (g0 rfl) rfl rfl rfl ?_
 refine o_nil ?_
 repeat (first | refine k1 ?_ | refine k4 ?_)
 refine c_sr ?_
 refine o_s (.t (.d (.lit (.slice none 0 0)))) (g0 rfl) rfl rfl rfl ?_
 refine o_nil ?_
 repeat (first | refine k1 ?_ | refine k4 ?_)
 refine c_cut (fun (y1 : (List V)) => [(1, .box [.d (.lit (.string ⟨⟨p0.Folder⟩⟩)), .d (.lit (.int .i64 p0.Seq)), .d (.seq 1 (bytesD p0.Prev)), .d (.lit (.string ⟨⟨p0.Parent⟩⟩)), .d (.seq 2 (List.map cS_api_Member p0.Members)), .d (.lit (.int .i64 p0.Cut)), .d (.lit (.bool p0.Gone)), .d (.lit (.string ⟨⟨p0.By⟩⟩))]), (3, .t (.own 49 4 (List.map V.cells y1)))]) (fun (y1 : (List V)) => m_R28_Text_j1 p0 y1 = some r) ?_ ?_
 ·
  refine c_sr ?_
  refine o_s (.t (.d (.lit (.int .i64 0)))) (g0 rfl) rfl rfl rfl ?_
  refine o_nil ?_
  repeat (first | refine k1 ?_ | refine k4 ?_)
  refine c_block ?_
  refine c_fuel (fun (q : (List V) × Int) => [(1, .box [.d (.lit (.string ⟨⟨p0.Folder⟩⟩)), .d (.lit (.int .i64 p0.Seq)), .d (.seq 1 (bytesD p0.Prev)), .d (.lit (.string ⟨⟨p0.Parent⟩⟩)), .d (.seq 2 (List.map cS_api_Member p0.Members)), .d (.lit (.int .i64 p0.Cut)), .d (.lit (.bool p0.Gone)), .d (.lit (.string ⟨⟨p0.By⟩⟩))]), (3, .t (.own 49 4 (List.map V.cells q.1))), (4, .t (.d (.lit (.int .i64 q.2))))]) (fun nl3 => (fun (q : (List V) × Int) => m_R28_Text_l3 p0 nl3 q.1 q.2 = some r)) (p0.Members.length + 1) ([], 0) h ⟨(.refl _), ⟨(.t (.nilOwn _ _)), ⟨(.refl _), trivial⟩⟩⟩ rfl ?_
  rintro nl3 ⟨z32, z33⟩ h
  cases nl3 with
  | zero => exact none_ne h
  | succ nl3 =>
   refine c_seq ?_
   refine c_sr ?_
   refine o_s (.t (.d (.lit (.int .i64 z33)))) (g0 rfl) rfl rfl rfl ?_
   refine o_s (.ref 1 4) (g0 rfl) rfl rfl rfl ?_
   refine o_s (.t (.d (.seq 2 (List.map cS_api_Member p0.Members)))) (g0 rfl) rfl rfl rfl ?_
   refine o_c (g0 rfl) rfl rfl rfl (lenE _ _) trivial ?_
   refine o_s (.t (.d (.lit (.bool (decide (z33 < (p0.Members.length : Int))))))) (g0 rfl) rfl rfl rfl ?_
   refine o_nil ?_
   repeat (first | refine k1 ?_ | refine k4 ?_)
   rcases bif_some h with ⟨h34, h⟩ | ⟨h34, h⟩
   ·
    refine c_t h34 rfl ?_
    refine c_skip ?_
    repeat (first | refine k1 ?_ | refine k4 ?_)
    refine c_seq ?_
    refine c_block ?_
    refine c_draw mixed (by kernel_rfl) ?_
    refine d_2 (.t (.d (.seq 4 (List.map V.cells z32)))) (.t (.own 49 4 (List.map V.cells z32))) rfl (dg0 rfl) rfl rfl rfl rfl rfl ?_
    refine d_s (.ref 1 4) rfl (dg0 rfl) rfl rfl rfl rfl ?_
    refine d_s (.t (.d (.seq 2 (List.map cS_api_Member p0.Members)))) rfl (dg0 rfl) rfl rfl rfl rfl ?_
    refine d_s (.t (.d (.lit (.int .i64 z33)))) rfl (dg0 rfl) rfl rfl rfl rfl ?_
    obtain ⟨x35, h36, h⟩ := bind_some h
    refine d_c rfl (dg0 rfl) rfl rfl rfl rfl (idxE h36) (idxC h36) ?_
    refine d_s (.imm [.lit (.string ⟨⟨x35.Name⟩⟩), .lit (.int .i64 x35.Role)]) rfl (dg0 rfl) rfl rfl rfl rfl ?_
    refine d_s (.t (.d (.lit (.string ⟨⟨x35.Name⟩⟩)))) rfl (dg0 rfl) rfl rfl rfl rfl ?_
    obtain ⟨x37, h38, h⟩ := bind_some h
    refine d_c rfl (dg0 rfl) rfl rfl rfl rfl (strBE h38) (strBC h38) ?_
    obtain ⟨x39, h40, h⟩ := bind_some h
    refine d_ca (fc_R28_Raw _ _ h40) rfl (dg0 rfl) rfl rfl rfl rfl rfl rfl rfl rfl (.cons (.refl _) .nil) rfl rfl ?_
    refine d_s (.ref 1 4) rfl (dg0 rfl) rfl rfl rfl rfl ?_
    refine d_s (.t (.d (.seq 2 (List.map cS_api_Member p0.Members)))) rfl (dg0 rfl) rfl rfl rfl rfl ?_
    refine d_s (.t (.d (.lit (.int .i64 z33)))) rfl (dg0 rfl) rfl rfl rfl rfl ?_
    obtain ⟨x41, h42, h⟩ := bind_some h
    refine d_c rfl (dg0 rfl) rfl rfl rfl rfl (idxE h42) (idxC h42) ?_
    refine d_s (.imm [.lit (.int .i64 x41.Role)]) rfl (dg0 rfl) rfl rfl rfl rfl ?_
    refine d_s (.t (.d (.lit (.int .i64 x41.Role)))) rfl (dg0 rfl) rfl rfl rfl rfl ?_
    obtain ⟨x43, h44, h⟩ := bind_some h
    refine d_ca (fc_R28_Num _ _ h44) rfl (dg0 rfl) rfl rfl rfl rfl rfl rfl rfl rfl (.cons (.refl _) .nil) rfl rfl ?_
    refine d_w (.t (.own 49 4 (List.map V.cells [(V.mk x39.k x39.n x39.b []), (V.mk x43.k x43.n [] [])]))) rfl (dg0 rfl) rfl rfl rfl rfl (.t (.rows _ _ (.cons (.cons (.refl _) (.cons (.refl _) (.cons (.refl _) (.cons (.nil _) .nil)))) (.cons (.cons (.refl _) (.cons (.refl _) (.cons (.nil _) (.cons (.nil _) .nil)))) .nil)) (rowsE V.cells_eq [(V.mk x39.k x39.n x39.b []), (V.mk x43.k x43.n [] [])]))) (fun e => nomatch e) ?_
    obtain ⟨x45, h46, h⟩ := bind_some h
    refine d_ca (fc_R28_Of _ _ h46) rfl (dg0 rfl) rfl rfl rfl rfl rfl rfl rfl rfl (.cons (.refl _) .nil) rfl rfl ?_
    refine d_w (.t (.own 49 4 (List.map V.cells [(V.mk x45.k x45.n [] x45.l)]))) rfl (dg0 rfl) rfl rfl rfl rfl (.t (.rows _ _ (.cons (.cons (.refl _) (.cons (.refl _) (.cons (.nil _) (.cons (.refl _) .nil)))) .nil) (rowsE V.cells_eq [(V.mk x45.k x45.n [] x45.l)]))) (fun e => nomatch e) ?_
    obtain ⟨x47, h48, h⟩ := bind_some h
    refine d_2c rfl (dg0 rfl) rfl rfl rfl rfl rfl (appE (c := V.cells) h48) (appC (c := V.cells) h48) ?_
    refine d_2 (.t (.d (.seq 4 (List.map V.cells x47)))) (.t (.own 49 4 (List.map V.cells x47))) rfl (dg0 rfl) rfl rfl rfl rfl rfl ?_
    refine d_nil (by kernel_rfl) ?_
    repeat (first | refine k1 ?_ | refine k2 ?_ | refine k3 ?_ | refine k4 ?_ | refine k5 ?_ | refine k6 ?_ | refine k7 rfl ?_)
    refine c_region ?_
    refine o_s (.t (.d (.lit (.int .i64 z33)))) (g0 rfl) rfl rfl rfl ?_
    refine o_s (.t (.d (.lit (.int .i64 (wi (z33 + 1)))))) (g0 rfl) rfl rfl rfl ?_
    refine o_s (.t (.d (.lit (.int .i64 (wi (z33 + 1)))))) (g0 rfl) rfl rfl rfl ?_
    refine o_nil ?_
    repeat (first | refine k1 ?_ | refine k4 ?_)
    exact ⟨nl3, (x47, (wi (z33 + 1))), Nat.lt_succ_self nl3, h, ⟨(.refl _), ⟨(.refl _), ⟨(.refl _), trivial⟩⟩⟩, rfl⟩
   ·
    refine c_f h34 rfl ?_
    refine c_exit ?_
    repeat (first | refine k1 ?_ | refine k2 ?_ | refine k3 ?_ | refine k4 ?_ | refine k5 ?_ | refine k6 ?_ | refine k7 rfl ?_)
    exact ⟨z32, h, ⟨(.refl _), ⟨(.refl _), trivial⟩⟩, rfl⟩
 ·
  rintro y1 h
  refine c_sr ?_
  refine o_s (.t (.d (.lit (.int .i64 0)))) (g0 rfl) rfl rfl rfl ?_
  refine o_nil ?_
  repeat (first | refine k1 ?_ | refine k4 ?_)
  refine c_cut (fun (y2 : Int) => [(1, .box [.d (.lit (.string ⟨⟨p0.Folder⟩⟩)), .d (.lit (.int .i64 p0.Seq)), .d (.seq 1 (bytesD p0.Prev)), .d (.lit (.string ⟨⟨p0.Parent⟩⟩)), .d (.seq 2 (List.map cS_api_Member p0.Members)), .d (.lit (.int .i64 p0.Cut)), .d (.lit (.bool p0.Gone)), .d (.lit (.string ⟨⟨p0.By⟩⟩))]), (3, .t (.own 49 4 (List.map V.cells y1))), (5, .t (.d (.lit (.int .i64 y2))))]) (fun (y2 : Int) => m_R28_Text_j2 p0 y1 y2 = some r) ?_ ?_
  ·
   refine c_sr ?_
   refine o_s (.ref 1 6) (g0 rfl) rfl rfl rfl ?_
   refine o_s (.t (.d (.lit (.bool p0.Gone)))) (g0 rfl) rfl rfl rfl ?_
   refine o_nil ?_
   repeat (first | refine k1 ?_ | refine k4 ?_)
   rcases bif_some h with ⟨h31, h⟩ | ⟨h31, h⟩
   ·
    refine c_t h31 rfl ?_
    refine c_region ?_
    refine o_s (.t (.d (.lit (.int .i64 1)))) (g0 rfl) rfl rfl rfl ?_
    refine o_nil ?_
    repeat (first | refine k1 ?_ | refine k4 ?_)
    exact ⟨1, h, ⟨(.refl _), ⟨(.refl _), ⟨(.refl _), trivial⟩⟩⟩, rfl⟩
   ·
    refine c_f h31 rfl ?_
    refine c_skip ?_
    repeat (first | refine k1 ?_ | refine k4 ?_)
    exact ⟨0, h, ⟨(.refl _), ⟨(.refl _), ⟨(.refl _), trivial⟩⟩⟩, rfl⟩
  ·
   rintro y2 h
   refine c_seq ?_
   refine c_draw mixed (by kernel_rfl) ?_
   refine d_s (.t (.own 5 1 (bytesD [109, 97, 110, 105, 102, 101, 115, 116]))) rfl (dg0 rfl) rfl rfl rfl rfl ?_
   refine d_cvk (.t (.d (.seq 1 (bytesD [109, 97, 110, 105, 102, 101, 115, 116])))) rfl (dg0 rfl) rfl rfl rfl rfl rfl rfl rfl rfl rfl rfl rfl ?_
   obtain ⟨x3, h4, h⟩ := bind_some h
   refine d_ca (fc_R28_Raw _ _ h4) rfl (dg0 rfl) rfl rfl rfl rfl rfl rfl rfl rfl (.cons (.refl _) .nil) rfl rfl ?_
   refine d_s (.ref 1 0) rfl (dg0 rfl) rfl rfl rfl rfl ?_
   refine d_s (.t (.d (.lit (.string ⟨⟨p0.Folder⟩⟩)))) rfl (dg0 rfl) rfl rfl rfl rfl ?_
   obtain ⟨x5, h6, h⟩ := bind_some h
   refine d_c rfl (dg0 rfl) rfl rfl rfl rfl (strBE h6) (strBC h6) ?_
   obtain ⟨x7, h8, h⟩ := bind_some h
   refine d_ca (fc_R28_Raw _ _ h8) rfl (dg0 rfl) rfl rfl rfl rfl rfl rfl rfl rfl (.cons (.refl _) .nil) rfl rfl ?_
   refine d_s (.ref 1 1) rfl (dg0 rfl) rfl rfl rfl rfl ?_
   refine d_s (.t (.d (.lit (.int .i64 p0.Seq)))) rfl (dg0 rfl) rfl rfl rfl rfl ?_
   obtain ⟨x9, h10, h⟩ := bind_some h
   refine d_ca (fc_R28_Num _ _ h10) rfl (dg0 rfl) rfl rfl rfl rfl rfl rfl rfl rfl (.cons (.refl _) .nil) rfl rfl ?_
   refine d_s (.ref 1 2) rfl (dg0 rfl) rfl rfl rfl rfl ?_
   refine d_s (.t (.d (.seq 1 (bytesD p0.Prev)))) rfl (dg0 rfl) rfl rfl rfl rfl ?_
   obtain ⟨x11, h12, h⟩ := bind_some h
   refine d_ca (fc_R28_Raw _ _ h12) rfl (dg0 rfl) rfl rfl rfl rfl rfl rfl rfl rfl (.cons (.refl _) .nil) rfl rfl ?_
   refine d_s (.ref 1 3) rfl (dg0 rfl) rfl rfl rfl rfl ?_
   refine d_s (.t (.d (.lit (.string ⟨⟨p0.Parent⟩⟩)))) rfl (dg0 rfl) rfl rfl rfl rfl ?_
   obtain ⟨x13, h14, h⟩ := bind_some h
   refine d_c rfl (dg0 rfl) rfl rfl rfl rfl (strBE h14) (strBC h14) ?_
   obtain ⟨x15, h16, h⟩ := bind_some h
   refine d_ca (fc_R28_Raw _ _ h16) rfl (dg0 rfl) rfl rfl rfl rfl rfl rfl rfl rfl (.cons (.refl _) .nil) rfl rfl ?_
   refine d_2 (.t (.d (.seq 4 (List.map V.cells y1)))) (.t (.own 49 4 (List.map V.cells y1))) rfl (dg0 rfl) rfl rfl rfl rfl rfl ?_
   obtain ⟨x17, h18, h⟩ := bind_some h
   refine d_ca (fc_R28_Of _ _ h18) rfl (dg0 rfl) rfl rfl rfl rfl rfl rfl rfl rfl (.cons (.refl _) .nil) rfl rfl ?_
   refine d_s (.ref 1 5) rfl (dg0 rfl) rfl rfl rfl rfl ?_
   refine d_s (.t (.d (.lit (.int .i64 p0.Cut)))) rfl (dg0 rfl) rfl rfl rfl rfl ?_
   obtain ⟨x19, h20, h⟩ := bind_some h
   refine d_ca (fc_R28_Num _ _ h20) rfl (dg0 rfl) rfl rfl rfl rfl rfl rfl rfl rfl (.cons (.refl _) .nil) rfl rfl ?_
   refine d_s (.t (.d (.lit (.int .i64 y2)))) rfl (dg0 rfl) rfl rfl rfl rfl ?_
   obtain ⟨x21, h22, h⟩ := bind_some h
   refine d_ca (fc_R28_Num _ _ h22) rfl (dg0 rfl) rfl rfl rfl rfl rfl rfl rfl rfl (.cons (.refl _) .nil) rfl rfl ?_
   refine d_s (.ref 1 7) rfl (dg0 rfl) rfl rfl rfl rfl ?_
   refine d_s (.t (.d (.lit (.string ⟨⟨p0.By⟩⟩)))) rfl (dg0 rfl) rfl rfl rfl rfl ?_
   obtain ⟨x23, h24, h⟩ := bind_some h
   refine d_c rfl (dg0 rfl) rfl rfl rfl rfl (strBE h24) (strBC h24) ?_
   obtain ⟨x25, h26, h⟩ := bind_some h
   refine d_ca (fc_R28_Raw _ _ h26) rfl (dg0 rfl) rfl rfl rfl rfl rfl rfl rfl rfl (.cons (.refl _) .nil) rfl rfl ?_
   refine d_w (.t (.own 49 4 (List.map V.cells [(V.mk x3.k x3.n x3.b []), (V.mk x7.k x7.n x7.b []), (V.mk x9.k x9.n [] []), (V.mk x11.k x11.n x11.b []), (V.mk x15.k x15.n x15.b []), (V.mk x17.k x17.n [] x17.l), (V.mk x19.k x19.n [] []), (V.mk x21.k x21.n [] []), (V.mk x25.k x25.n x25.b [])]))) rfl (dg0 rfl) rfl rfl rfl rfl (.t (.rows _ _ (.cons (.cons (.refl _) (.cons (.refl _) (.cons (.refl _) (.cons (.nil _) .nil)))) (.cons (.cons (.refl _) (.cons (.refl _) (.cons (.refl _) (.cons (.nil _) .nil)))) (.cons (.cons (.refl _) (.cons (.refl _) (.cons (.nil _) (.cons (.nil _) .nil)))) (.cons (.cons (.refl _) (.cons (.refl _) (.cons (.refl _) (.cons (.nil _) .nil)))) (.cons (.cons (.refl _) (.cons (.refl _) (.cons (.refl _) (.cons (.nil _) .nil)))) (.cons (.cons (.refl _) (.cons (.refl _) (.cons (.nil _) (.cons (.refl _) .nil)))) (.cons (.cons (.refl _) (.cons (.refl _) (.cons (.nil _) (.cons (.nil _) .nil)))) (.cons (.cons (.refl _) (.cons (.refl _) (.cons (.nil _) (.cons (.nil _) .nil)))) (.cons (.cons (.refl _) (.cons (.refl _) (.cons (.refl _) (.cons (.nil _) .nil)))) .nil))))))))) (rowsE V.cells_eq [(V.mk x3.k x3.n x3.b []), (V.mk x7.k x7.n x7.b []), (V.mk x9.k x9.n [] []), (V.mk x11.k x11.n x11.b []), (V.mk x15.k x15.n x15.b []), (V.mk x17.k x17.n [] x17.l), (V.mk x19.k x19.n [] []), (V.mk x21.k x21.n [] []), (V.mk x25.k x25.n x25.b [])]))) (fun e => nomatch e) ?_
   obtain ⟨x27, h28, h⟩ := bind_some h
   refine d_ca (fc_R28_Of _ _ h28) rfl (dg0 rfl) rfl rfl rfl rfl rfl rfl rfl rfl (.cons (.refl _) .nil) rfl rfl ?_
   obtain ⟨x29, h30, h⟩ := bind_some h
   refine d_ca (fc_R02_Bytes _ _ _ h30) rfl (dg0 rfl) rfl rfl rfl rfl rfl rfl rfl rfl (.cons (.t (.agg (.cons (.refl _) (.cons (.refl _) (.cons (.nil _) (.cons (.refl _) .nil)))))) .nil) rfl rfl ?_
   refine d_2 (.t (.d (.seq 1 (bytesD x29)))) (.t (.own 5 1 (bytesD x29))) rfl (dg0 rfl) rfl rfl rfl rfl rfl ?_
   refine d_nil (by kernel_rfl) ?_
   repeat (first | refine k1 ?_ | refine k2 ?_ | refine k3 ?_ | refine k4 ?_ | refine k5 ?_ | refine k6 ?_ | refine k7 rfl ?_)
   refine c_ret ?_
   repeat (first | refine k3 ?_ | refine k5 ?_)
   obtain rfl := Option.some.inj h
   exact end0 rfl (.refl _)

theorem fc_L28_awake (r : Bool) (h : m_L28_awake = some r) : FC Try.prog 4 [] [] (.t (.d (.lit (.bool r)))) := by
 refine fc_mk (rs := [.tmp 0]) (n := 25) Try.func4 rfl rfl (Nat.le_of_ble_eq_true rfl) rfl (pins := []) rfl (L := []) rfl ?_
 refine c_sr ?_
 refine o_s (.t (.d (.lit (.bool false)))) (g0 rfl) rfl rfl rfl ?_
 refine o_nil ?_
 repeat (first | refine k1 ?_ | refine k4 ?_)
 refine c_sr ?_
 refine o_s (.t (.agg [.lit (.string ⟨⟨[97]⟩⟩), .lit (.int .i64 4)])) (g0 rfl) rfl rfl rfl ?_
 refine o_s (.t (.own 35 2 (List.map cS_api_Member [(S_api_Member.mk [97] 4)]))) (g0 rfl) rfl rfl rfl ?_
 refine o_s (.t (.agg [.lit (.string ⟨⟨[102]⟩⟩), .lit (.int .i64 1), .lit (.slice none 0 0), .lit (.string ⟨⟨[]⟩⟩), .seq 2 (List.map cS_api_Member [(S_api_Member.mk [97] 4)]), .lit (.int .i64 0), .lit (.bool false), .lit (.string ⟨⟨[97]⟩⟩)])) (g0 rfl) rfl rfl rfl ?_
 refine o_s (.box [.d (.lit (.string ⟨⟨[]⟩⟩)), .d (.lit (.int .i64 0)), .d (.lit (.slice none 0 0)), .d (.lit (.string ⟨⟨[]⟩⟩)), .d (.lit (.slice none 0 0)), .d (.lit (.int .i64 0)), .d (.lit (.bool false)), .d (.lit (.string ⟨⟨[]⟩⟩))]) (g0 rfl) rfl rfl rfl ?_
 refine o_st (.box [.d (.lit (.string ⟨⟨[102]⟩⟩)), .d (.lit (.int .i64 1)), .d (.lit (.slice none 0 0)), .d (.lit (.string ⟨⟨[]⟩⟩)), .d (.seq 2 (List.map cS_api_Member [(S_api_Member.mk [97] 4)])), .d (.lit (.int .i64 0)), .d (.lit (.bool false)), .d (.lit (.string ⟨⟨[97]⟩⟩))]) (g0 rfl) rfl rfl rfl ?_
 refine o_nil ?_
 repeat (first | refine k1 ?_ | refine k4 ?_)
 refine c_sr ?_
 refine o_s (.t (.agg [.lit (.string ⟨⟨[102]⟩⟩), .lit (.int .i64 1), .lit (.slice none 0 0), .lit (.string ⟨⟨[]⟩⟩), .seq 2 (List.map cS_api_Member [(S_api_Member.mk [97] 4)]), .lit (.int .i64 0), .lit (.bool false), .lit (.string ⟨⟨[97]⟩⟩)])) (g0 rfl) rfl rfl rfl ?_
 obtain ⟨x1, h2, h⟩ := bind_some h
 refine o_ca (fc_manifest_Text _ _ h2) (g0 rfl) rfl rfl rfl rfl rfl rfl rfl (.cons (.t (.agg (.cons (.refl _) (.cons (.refl _) (.cons (.nil _) (.cons (.refl _) (.cons (.refl _) (.cons (.refl _) (.cons (.refl _) (.cons (.refl _) .nil)))))))))) .nil) rfl rfl ?_
 refine o_s (.tup [.d (.seq 1 (bytesD x1.1)), .d (.lit (.int .i64 x1.2))]) (g0 rfl) rfl rfl rfl ?_
 refine o_s (.t (.d (.seq 1 (bytesD x1.1)))) (g0 rfl) rfl rfl rfl ?_
 refine o_s (.t (.d (.lit (.int .i64 x1.2)))) (g0 rfl) rfl rfl rfl ?_
 refine o_s (.t (.d (.seq 1 (bytesD x1.1)))) (g0 rfl) rfl rfl rfl ?_
 refine o_s (.t (.d (.lit (.int .i64 x1.2)))) (g0 rfl) rfl rfl rfl ?_
 refine o_nil ?_
 repeat (first | refine k1 ?_ | refine k4 ?_)
 refine c_sr ?_
 refine o_s (.t (.d (.lit (.int .i64 x1.2)))) (g0 rfl) rfl rfl rfl ?_
 refine o_s (.t (.d (.lit (.bool (x1.2 == 0))))) (g0 rfl) rfl rfl rfl ?_
 refine o_s (.t (.d (.lit (.bool (x1.2 == 0))))) (g0 rfl) rfl rfl rfl ?_
 rcases bif_some h with ⟨h3, h⟩ | ⟨h3, h⟩
 ·
  refine o_s (.t (.agg [.lit (.string ⟨⟨[102]⟩⟩), .lit (.int .i64 1), .lit (.slice none 0 0), .lit (.string ⟨⟨[]⟩⟩), .seq 2 (List.map cS_api_Member [(S_api_Member.mk [97] 4)]), .lit (.int .i64 0), .lit (.bool false), .lit (.string ⟨⟨[97]⟩⟩)])) (gy rfl rfl rfl h3) rfl rfl rfl ?_
  obtain ⟨x4, h5, h⟩ := bind_some h
  refine o_ca (fc_manifest_Begins _ _ h5) (gy rfl rfl rfl h3) rfl rfl rfl rfl rfl rfl rfl (.cons (.t (.agg (.cons (.refl _) (.cons (.refl _) (.cons (.nil _) (.cons (.refl _) (.cons (.refl _) (.cons (.refl _) (.cons (.refl _) (.cons (.refl _) .nil)))))))))) .nil) rfl rfl ?_
  refine o_s (.t (.d (.lit (.bool (x4 == 0))))) (gy rfl rfl rfl h3) rfl rfl rfl ?_
  refine o_pk (.t (.d (.lit (.bool (x4 == 0))))) (b := true) h3 (g0 rfl) rfl rfl rfl rfl rfl ?_
  refine o_s (.t (.d (.lit (.bool (x4 == 0))))) (g0 rfl) rfl rfl rfl ?_
  rcases bif_some h with ⟨h6, h⟩ | ⟨h6, h⟩
  ·
   refine o_s (.t (.d (.seq 1 (bytesD x1.1)))) (gy rfl rfl rfl h6) rfl rfl rfl ?_
   refine o_s (.t (.agg [.lit (.string ⟨⟨[102]⟩⟩), .lit (.int .i64 1), .lit (.slice none 0 0), .lit (.string ⟨⟨[]⟩⟩), .seq 2 (List.map cS_api_Member [(S_api_Member.mk [97] 4)]), .lit (.int .i64 0), .lit (.bool false), .lit (.string ⟨⟨[97]⟩⟩)])) (gy rfl rfl rfl h6) rfl rfl rfl ?_
   obtain ⟨x7, h8, h⟩ := bind_some h
   refine o_ca (fc_R28_Text _ _ h8) (gy rfl rfl rfl h6) rfl rfl rfl rfl rfl rfl rfl (.cons (.t (.agg (.cons (.refl _) (.cons (.refl _) (.cons (.nil _) (.cons (.refl _) (.cons (.refl _) (.cons (.refl _) (.cons (.refl _) (.cons (.refl _) .nil)))))))))) .nil) rfl rfl ?_
   obtain ⟨x9, h10, h⟩ := bind_some h
   refine o_ca (fc_R01_Same _ _ _ h10) (gy rfl rfl rfl h6) rfl rfl rfl rfl rfl rfl rfl (.cons (.refl _) (.cons (.refl _) .nil)) rfl rfl ?_
   refine o_pk (.t (.d (.lit (.bool x9)))) (b := true) h6 (g0 rfl) rfl rfl rfl rfl rfl ?_
   refine o_s (.t (.d (.lit (.bool x9)))) (g0 rfl) rfl rfl rfl ?_
   refine o_nil ?_
   repeat (first | refine k1 ?_ | refine k4 ?_)
   refine c_ret ?_
   repeat (first | refine k3 ?_ | refine k5 ?_)
   obtain rfl := Option.some.inj h
   exact end0 rfl (.refl _)
  ·
   refine o_skip rfl rfl rfl h6 rfl rfl ?_
   refine o_skip rfl rfl rfl h6 rfl rfl ?_
   refine o_skip rfl rfl rfl h6 rfl rfl ?_
   refine o_skip rfl rfl rfl h6 rfl rfl ?_
   refine o_pk (.t (.d (.lit (.bool false)))) (b := false) h6 (g0 rfl) rfl rfl rfl rfl rfl ?_
   refine o_s (.t (.d (.lit (.bool false)))) (g0 rfl) rfl rfl rfl ?_
   refine o_nil ?_
   repeat (first | refine k1 ?_ | refine k4 ?_)
   refine c_ret ?_
   repeat (first | refine k3 ?_ | refine k5 ?_)
   obtain rfl := Option.some.inj h
   exact end0 rfl (.refl _)
 ·
  refine o_skip rfl rfl rfl h3 rfl rfl ?_
  refine o_skip rfl rfl rfl h3 rfl rfl ?_
  refine o_skip rfl rfl rfl h3 rfl rfl ?_
  refine o_pk (.t (.d (.lit (.bool false)))) (b := false) h3 (g0 rfl) rfl rfl rfl rfl rfl ?_
  refine o_s (.t (.d (.lit (.bool false)))) (g0 rfl) rfl rfl rfl ?_
  refine o_skip rfl rfl rfl rfl rfl rfl ?_
  refine o_skip rfl rfl rfl rfl rfl rfl ?_
  refine o_skip rfl rfl rfl rfl rfl rfl ?_
  refine o_skip rfl rfl rfl rfl rfl rfl ?_
  refine o_pk (.t (.d (.lit (.bool false)))) (b := false) rfl (g0 rfl) rfl rfl rfl rfl rfl ?_
  refine o_s (.t (.d (.lit (.bool false)))) (g0 rfl) rfl rfl rfl ?_
  refine o_nil ?_
  repeat (first | refine k1 ?_ | refine k4 ?_)
  refine c_ret ?_
  repeat (first | refine k3 ?_ | refine k5 ?_)
  obtain rfl := Option.some.inj h
  exact end0 rfl (.refl _)

theorem fc_L28_Few (p0 : S_api_Manifest) (r : Bool) (h : m_L28_Few p0 = some r) : FC Try.prog 5 [.t (.agg [.lit (.string ⟨⟨p0.Folder⟩⟩), .lit (.int .i64 p0.Seq), .seq 1 (bytesD p0.Prev), .lit (.string ⟨⟨p0.Parent⟩⟩), .seq 2 (List.map cS_api_Member p0.Members), .lit (.int .i64 p0.Cut), .lit (.bool p0.Gone), .lit (.string ⟨⟨p0.By⟩⟩)])] [] (.t (.d (.lit (.bool r)))) := by
 refine fc_mk (rs := [.tmp 2]) (n := 45) Try.func5 rfl rfl (Nat.le_of_ble_eq_true rfl) rfl (pins := []) rfl (L := [(0, .t (.agg [.lit (.string ⟨⟨p0.Folder⟩⟩), .lit (.int .i64 p0.Seq), .seq 1 (bytesD p0.Prev), .lit (.string ⟨⟨p0.Parent⟩⟩), .seq 2 (List.map cS_api_Member p0.Members), .lit (.int .i64 p0.Cut), .lit (.bool p0.Gone), .lit (.string ⟨⟨p0.By⟩⟩)]))]) rfl ?_
 refine c_sr ?_
 refine o_s (.box [.d (.lit (.string ⟨⟨p0.Folder⟩⟩)), .d (.lit (.int .i64 p0.Seq)), .d (.seq 1 (bytesD p0.Prev)), .d (.lit (.string ⟨⟨p0.Parent⟩⟩)), .d (.seq 2 (List.map cS_api_Member p0.Members)), .d (.lit (.int .i64 p0.Cut)), .d (.lit (.bool p0.Gone)), .d (.lit (.string ⟨⟨p0.By⟩⟩))]) (g0 rfl) rfl rfl rfl ?_
 refine o_s (.t (.d (.lit (.bool false)))) (g0 rfl) rfl rfl rfl ?_
 refine o_nil ?_
 repeat (first | refine k1 ?_ | refine k4 ?_)
 refine c_cut (fun (_ : Unit) => [(1, .box [.d (.lit (.string ⟨⟨p0.Folder⟩⟩)), .d (.lit (.int .i64 p0.Seq)), .d (.seq 1 (bytesD p0.Prev)), .d (.lit (.string ⟨⟨p0.Parent⟩⟩)), .d (.seq 2 (List.map cS_api_Member p0.Members)), .d (.lit (.int .i64 p0.Cut)), .d (.lit (.bool p0.Gone)), .d (.lit (.string ⟨⟨p0.By⟩⟩))])]) (fun (_ : Unit) => m_L28_Few_j1 p0 = some r) ?_ ?_
 ·
  refine c_sr ?_
  refine o_s (.ref 1 4) (g0 rfl) rfl rfl rfl ?_
  refine o_s (.t (.d (.seq 2 (List.map cS_api_Member p0.Members)))) (g0 rfl) rfl rfl rfl ?_
  refine o_c (g0 rfl) rfl rfl rfl (lenE _ _) trivial ?_
  refine o_s (.t (.d (.lit (.int .i64 0)))) (g0 rfl) rfl rfl rfl ?_
  refine o_nil ?_
  repeat (first | refine k1 ?_ | refine k4 ?_)
  refine c_block ?_
  refine c_fuel (fun (z5 : Int) => [(1, .box [.d (.lit (.string ⟨⟨p0.Folder⟩⟩)), .d (.lit (.int .i64 p0.Seq)), .d (.seq 1 (bytesD p0.Prev)), .d (.lit (.string ⟨⟨p0.Parent⟩⟩)), .d (.seq 2 (List.map cS_api_Member p0.Members)), .d (.lit (.int .i64 p0.Cut)), .d (.lit (.bool p0.Gone)), .d (.lit (.string ⟨⟨p0.By⟩⟩))]), (6, .t (.d (.seq 2 (List.map cS_api_Member p0.Members)))), (7, .t (.d (.lit (.int .i64 (p0.Members.length : Int))))), (8, .t (.d (.lit (.int .i64 z5))))]) (fun nl2 => (fun (z5 : Int) => m_L28_Few_l2 p0 nl2 z5 = some r)) (p0.Members.length + 1) 0 h ⟨(.refl _), ⟨(.refl _), ⟨(.refl _), ⟨(.refl _), trivial⟩⟩⟩⟩ rfl ?_
  rintro nl2 z5 h
  cases nl2 with
  | zero => exact none_ne h
  | succ nl2 =>
   refine c_sr ?_
   refine o_s (.t (.d (.lit (.bool (decide (z5 < (p0.Members.length : Int))))))) (g0 rfl) rfl rfl rfl ?_
   refine o_nil ?_
   repeat (first | refine k1 ?_ | refine k4 ?_)
   refine c_seq ?_
   rcases bif_some h with ⟨h6, h⟩ | ⟨h6, h⟩
   ·
    refine c_t h6 rfl ?_
    refine c_skip ?_
    repeat (first | refine k1 ?_ | refine k4 ?_)
    refine c_seq ?_
    refine c_block ?_
    refine c_sr ?_
    obtain ⟨x7, h8, h⟩ := bind_some h
    refine o_c (g0 rfl) rfl rfl rfl (idxE h8) (idxC h8) ?_
    refine o_s (.t (.agg [.lit (.string ⟨⟨x7.Name⟩⟩), .lit (.int .i64 x7.Role)])) (g0 rfl) rfl rfl rfl ?_
    refine o_s (.box [.d (.lit (.string ⟨⟨[]⟩⟩)), .d (.lit (.int .i64 0))]) (g0 rfl) rfl rfl rfl ?_
    refine o_st (.box [.d (.lit (.string ⟨⟨x7.Name⟩⟩)), .d (.lit (.int .i64 x7.Role))]) (g0 rfl) rfl rfl rfl ?_
    refine o_nil ?_
    repeat (first | refine k1 ?_ | refine k4 ?_)
    refine c_sr ?_
    refine o_s (.ref 4 0) (g0 rfl) rfl rfl rfl ?_
    refine o_s (.t (.d (.lit (.string ⟨⟨x7.Name⟩⟩)))) (g0 rfl) rfl rfl rfl ?_
    refine o_s (.t (.d (.lit (.int .i64 (x7.Name.length : Int))))) (g0 rfl) rfl rfl rfl ?_
    refine o_s (.t (.d (.lit (.bool (decide ((x7.Name.length : Int) > 20)))))) (g0 rfl) rfl rfl rfl ?_
    refine o_nil ?_
    repeat (first | refine k1 ?_ | refine k4 ?_)
    rcases bif_some h with ⟨h9, h⟩ | ⟨h9, h⟩
    ·
     refine c_t h9 rfl ?_
     refine c_sr ?_
     refine o_s (.t (.d (.lit (.bool false)))) (g0 rfl) rfl rfl rfl ?_
     refine o_nil ?_
     repeat (first | refine k1 ?_ | refine k4 ?_)
     refine c_ret ?_
     repeat (first | refine k3 ?_ | refine k5 ?_)
     obtain rfl := Option.some.inj h
     exact end0 rfl (.refl _)
    ·
     refine c_f h9 rfl ?_
     refine c_skip ?_
     repeat (first | refine k1 ?_ | refine k4 ?_)
     refine c_region ?_
     refine o_s (.t (.d (.lit (.int .i64 (wi (z5 + 1)))))) (g0 rfl) rfl rfl rfl ?_
     refine o_s (.t (.d (.lit (.int .i64 (wi (z5 + 1)))))) (g0 rfl) rfl rfl rfl ?_
     refine o_nil ?_
     repeat (first | refine k1 ?_ | refine k4 ?_)
     exact ⟨nl2, (wi (z5 + 1)), Nat.lt_succ_self nl2, h, ⟨(.refl _), ⟨(.refl _), ⟨(.refl _), ⟨(.refl _), trivial⟩⟩⟩⟩, rfl⟩
   ·
    refine c_f h6 rfl ?_
    refine c_exit ?_
    repeat (first | refine k1 ?_ | refine k2 ?_ | refine k3 ?_ | refine k4 ?_ | refine k5 ?_ | refine k6 ?_ | refine k7 rfl ?_)
    exact ⟨(), h, ⟨(.refl _), trivial⟩, rfl⟩
 ·
  rintro ⟨⟩ h
  refine c_sr ?_
  refine o_s (.ref 1 0) (g0 rfl) rfl rfl rfl ?_
  refine o_s (.t (.d (.lit (.string ⟨⟨p0.Folder⟩⟩)))) (g0 rfl) rfl rfl rfl ?_
  refine o_s (.t (.d (.lit (.int .i64 (p0.Folder.length : Int))))) (g0 rfl) rfl rfl rfl ?_
  refine o_s (.t (.d (.lit (.bool (decide ((p0.Folder.length : Int) ≤ 20)))))) (g0 rfl) rfl rfl rfl ?_
  refine o_s (.t (.d (.lit (.bool (decide ((p0.Folder.length : Int) ≤ 20)))))) (g0 rfl) rfl rfl rfl ?_
  rcases bif_some h with ⟨h1, h⟩ | ⟨h1, h⟩
  ·
   refine o_s (.ref 1 7) (gy rfl rfl rfl h1) rfl rfl rfl ?_
   refine o_s (.t (.d (.lit (.string ⟨⟨p0.By⟩⟩)))) (gy rfl rfl rfl h1) rfl rfl rfl ?_
   refine o_s (.t (.d (.lit (.int .i64 (p0.By.length : Int))))) (gy rfl rfl rfl h1) rfl rfl rfl ?_
   refine o_s (.t (.d (.lit (.bool (decide ((p0.By.length : Int) ≤ 20)))))) (gy rfl rfl rfl h1) rfl rfl rfl ?_
   refine o_pk (.t (.d (.lit (.bool (decide ((p0.By.length : Int) ≤ 20)))))) (b := true) h1 (g0 rfl) rfl rfl rfl rfl rfl ?_
   refine o_s (.t (.d (.lit (.bool (decide ((p0.By.length : Int) ≤ 20)))))) (g0 rfl) rfl rfl rfl ?_
   rcases bif_some h with ⟨h2, h⟩ | ⟨h2, h⟩
   ·
    refine o_s (.ref 1 3) (gy rfl rfl rfl h2) rfl rfl rfl ?_
    refine o_s (.t (.d (.lit (.string ⟨⟨p0.Parent⟩⟩)))) (gy rfl rfl rfl h2) rfl rfl rfl ?_
    refine o_s (.t (.d (.lit (.int .i64 (p0.Parent.length : Int))))) (gy rfl rfl rfl h2) rfl rfl rfl ?_
    refine o_s (.t (.d (.lit (.bool (decide ((p0.Parent.length : Int) ≤ 20)))))) (gy rfl rfl rfl h2) rfl rfl rfl ?_
    refine o_pk (.t (.d (.lit (.bool (decide ((p0.Parent.length : Int) ≤ 20)))))) (b := true) h2 (g0 rfl) rfl rfl rfl rfl rfl ?_
    refine o_s (.t (.d (.lit (.bool (decide ((p0.Parent.length : Int) ≤ 20)))))) (g0 rfl) rfl rfl rfl ?_
    rcases bif_some h with ⟨h3, h⟩ | ⟨h3, h⟩
    ·
     refine o_s (.ref 1 4) (gy rfl rfl rfl h3) rfl rfl rfl ?_
     refine o_s (.t (.d (.seq 2 (List.map cS_api_Member p0.Members)))) (gy rfl rfl rfl h3) rfl rfl rfl ?_
     refine o_c (gy rfl rfl rfl h3) rfl rfl rfl (lenE _ _) trivial ?_
     refine o_s (.t (.d (.lit (.bool (decide ((p0.Members.length : Int) ≤ 20)))))) (gy rfl rfl rfl h3) rfl rfl rfl ?_
     refine o_pk (.t (.d (.lit (.bool (decide ((p0.Members.length : Int) ≤ 20)))))) (b := true) h3 (g0 rfl) rfl rfl rfl rfl rfl ?_
     refine o_s (.t (.d (.lit (.bool (decide ((p0.Members.length : Int) ≤ 20)))))) (g0 rfl) rfl rfl rfl ?_
     rcases bif_some h with ⟨h4, h⟩ | ⟨h4, h⟩
     ·
      refine o_s (.ref 1 2) (gy rfl rfl rfl h4) rfl rfl rfl ?_
      refine o_s (.t (.d (.seq 1 (bytesD p0.Prev)))) (gy rfl rfl rfl h4) rfl rfl rfl ?_
      refine o_c (gy rfl rfl rfl h4) rfl rfl rfl (lenE _ _) trivial ?_
      refine o_s (.t (.d (.lit (.bool (decide ((p0.Prev.length : Int) ≤ 100)))))) (gy rfl rfl rfl h4) rfl rfl rfl ?_
      refine o_pk (.t (.d (.lit (.bool (decide ((p0.Prev.length : Int) ≤ 100)))))) (b := true) h4 (g0 rfl) rfl rfl rfl rfl rfl ?_
      refine o_s (.t (.d (.lit (.bool (decide ((p0.Prev.length : Int) ≤ 100)))))) (g0 rfl) rfl rfl rfl ?_
      refine o_nil ?_
      repeat (first | refine k1 ?_ | refine k4 ?_)
      refine c_ret ?_
      repeat (first | refine k3 ?_ | refine k5 ?_)
      obtain rfl := Option.some.inj h
      exact end0 rfl (.refl _)
     ·
      refine o_skip rfl rfl rfl h4 rfl rfl ?_
      refine o_skip rfl rfl rfl h4 rfl rfl ?_
      refine o_skip rfl rfl rfl h4 rfl rfl ?_
      refine o_skip rfl rfl rfl h4 rfl rfl ?_
      refine o_pk (.t (.d (.lit (.bool false)))) (b := false) h4 (g0 rfl) rfl rfl rfl rfl rfl ?_
      refine o_s (.t (.d (.lit (.bool false)))) (g0 rfl) rfl rfl rfl ?_
      refine o_nil ?_
      repeat (first | refine k1 ?_ | refine k4 ?_)
      refine c_ret ?_
      repeat (first | refine k3 ?_ | refine k5 ?_)
      obtain rfl := Option.some.inj h
      exact end0 rfl (.refl _)
    ·
     refine o_skip rfl rfl rfl h3 rfl rfl ?_
     refine o_skip rfl rfl rfl h3 rfl rfl ?_
     refine o_skip rfl rfl rfl h3 rfl rfl ?_
     refine o_skip rfl rfl rfl h3 rfl rfl ?_
     refine o_pk (.t (.d (.lit (.bool false)))) (b := false) h3 (g0 rfl) rfl rfl rfl rfl rfl ?_
     refine o_s (.t (.d (.lit (.bool false)))) (g0 rfl) rfl rfl rfl ?_
     refine o_skip rfl rfl rfl rfl rfl rfl ?_
     refine o_skip rfl rfl rfl rfl rfl rfl ?_
     refine o_skip rfl rfl rfl rfl rfl rfl ?_
     refine o_skip rfl rfl rfl rfl rfl rfl ?_
     refine o_pk (.t (.d (.lit (.bool false)))) (b := false) rfl (g0 rfl) rfl rfl rfl rfl rfl ?_
     refine o_s (.t (.d (.lit (.bool false)))) (g0 rfl) rfl rfl rfl ?_
     refine o_nil ?_
     repeat (first | refine k1 ?_ | refine k4 ?_)
     refine c_ret ?_
     repeat (first | refine k3 ?_ | refine k5 ?_)
     obtain rfl := Option.some.inj h
     exact end0 rfl (.refl _)
   ·
    refine o_skip rfl rfl rfl h2 rfl rfl ?_
    refine o_skip rfl rfl rfl h2 rfl rfl ?_
    refine o_skip rfl rfl rfl h2 rfl rfl ?_
    refine o_skip rfl rfl rfl h2 rfl rfl ?_
    refine o_pk (.t (.d (.lit (.bool false)))) (b := false) h2 (g0 rfl) rfl rfl rfl rfl rfl ?_
    refine o_s (.t (.d (.lit (.bool false)))) (g0 rfl) rfl rfl rfl ?_
    refine o_skip rfl rfl rfl rfl rfl rfl ?_
    refine o_skip rfl rfl rfl rfl rfl rfl ?_
    refine o_skip rfl rfl rfl rfl rfl rfl ?_
    refine o_skip rfl rfl rfl rfl rfl rfl ?_
    refine o_pk (.t (.d (.lit (.bool false)))) (b := false) rfl (g0 rfl) rfl rfl rfl rfl rfl ?_
    refine o_s (.t (.d (.lit (.bool false)))) (g0 rfl) rfl rfl rfl ?_
    refine o_skip rfl rfl rfl rfl rfl rfl ?_
    refine o_skip rfl rfl rfl rfl rfl rfl ?_
    refine o_skip rfl rfl rfl rfl rfl rfl ?_
    refine o_skip rfl rfl rfl rfl rfl rfl ?_
    refine o_pk (.t (.d (.lit (.bool false)))) (b := false) rfl (g0 rfl) rfl rfl rfl rfl rfl ?_
    refine o_s (.t (.d (.lit (.bool false)))) (g0 rfl) rfl rfl rfl ?_
    refine o_nil ?_
    repeat (first | refine k1 ?_ | refine k4 ?_)
    refine c_ret ?_
    repeat (first | refine k3 ?_ | refine k5 ?_)
    obtain rfl := Option.some.inj h
    exact end0 rfl (.refl _)
  ·
   refine o_skip rfl rfl rfl h1 rfl rfl ?_
   refine o_skip rfl rfl rfl h1 rfl rfl ?_
   refine o_skip rfl rfl rfl h1 rfl rfl ?_
   refine o_skip rfl rfl rfl h1 rfl rfl ?_
   refine o_pk (.t (.d (.lit (.bool false)))) (b := false) h1 (g0 rfl) rfl rfl rfl rfl rfl ?_
   refine o_s (.t (.d (.lit (.bool false)))) (g0 rfl) rfl rfl rfl ?_
   refine o_skip rfl rfl rfl rfl rfl rfl ?_
   refine o_skip rfl rfl rfl rfl rfl rfl ?_
   refine o_skip rfl rfl rfl rfl rfl rfl ?_
   refine o_skip rfl rfl rfl rfl rfl rfl ?_
   refine o_pk (.t (.d (.lit (.bool false)))) (b := false) rfl (g0 rfl) rfl rfl rfl rfl rfl ?_
   refine o_s (.t (.d (.lit (.bool false)))) (g0 rfl) rfl rfl rfl ?_
   refine o_skip rfl rfl rfl rfl rfl rfl ?_
   refine o_skip rfl rfl rfl rfl rfl rfl ?_
   refine o_skip rfl rfl rfl rfl rfl rfl ?_
   refine o_skip rfl rfl rfl rfl rfl rfl ?_
   refine o_pk (.t (.d (.lit (.bool false)))) (b := false) rfl (g0 rfl) rfl rfl rfl rfl rfl ?_
   refine o_s (.t (.d (.lit (.bool false)))) (g0 rfl) rfl rfl rfl ?_
   refine o_skip rfl rfl rfl rfl rfl rfl ?_
   refine o_skip rfl rfl rfl rfl rfl rfl ?_
   refine o_skip rfl rfl rfl rfl rfl rfl ?_
   refine o_skip rfl rfl rfl rfl rfl rfl ?_
   refine o_pk (.t (.d (.lit (.bool false)))) (b := false) rfl (g0 rfl) rfl rfl rfl rfl rfl ?_
   refine o_s (.t (.d (.lit (.bool false)))) (g0 rfl) rfl rfl rfl ?_
   refine o_nil ?_
   repeat (first | refine k1 ?_ | refine k4 ?_)
   refine c_ret ?_
   repeat (first | refine k3 ?_ | refine k5 ?_)
   obtain rfl := Option.some.inj h
   exact end0 rfl (.refl _)

theorem fc_slices_Equal_Member (p0 : (List S_api_Member)) (p1 : (List S_api_Member)) (r : Bool) (h : m_slices_Equal_Member p0 p1 = some r) : FC Try.prog 13 [.t (.d (.seq 2 (List.map cS_api_Member p0))), .t (.d (.seq 2 (List.map cS_api_Member p1)))] [] (.t (.d (.lit (.bool r)))) := by
 refine fc_mk (rs := [.tmp 4]) (n := 26) Try.func13 rfl rfl (Nat.le_of_ble_eq_true rfl) rfl (pins := []) rfl (L := [(0, .t (.d (.seq 2 (List.map cS_api_Member p0)))), (1, .t (.d (.seq 2 (List.map cS_api_Member p1))))]) rfl ?_
 refine c_sr ?_
 refine o_s (.t (.d (.lit (.bool false)))) (g0 rfl) rfl rfl rfl ?_
 refine o_nil ?_
 repeat (first | refine k1 ?_ | refine k4 ?_)
 refine c_seq ?_
 refine c_sr ?_
 refine o_s (.t (.d (.seq 2 (List.map cS_api_Member p0)))) (g0 rfl) rfl rfl rfl ?_
 refine o_c (g0 rfl) rfl rfl rfl (lenE _ _) trivial ?_
 refine o_s (.t (.d (.seq 2 (List.map cS_api_Member p1)))) (g0 rfl) rfl rfl rfl ?_
 refine o_c (g0 rfl) rfl rfl rfl (lenE _ _) trivial ?_
 refine o_s (.t (.d (.lit (.bool ((p0.length : Int) != (p1.length : Int)))))) (g0 rfl) rfl rfl rfl ?_
 refine o_nil ?_
 repeat (first | refine k1 ?_ | refine k4 ?_)
 rcases bif_some h with ⟨h1, h⟩ | ⟨h1, h⟩
 ·
  refine c_t h1 rfl ?_
  refine c_sr ?_
  refine o_s (.t (.d (.lit (.bool false)))) (g0 rfl) rfl rfl rfl ?_
  refine o_nil ?_
  repeat (first | refine k1 ?_ | refine k4 ?_)
  refine c_ret ?_
  repeat (first | refine k3 ?_ | refine k5 ?_)
  obtain rfl := Option.some.inj h
  exact end0 rfl (.refl _)
 ·
  refine c_f h1 rfl ?_
  refine c_skip ?_
  repeat (first | refine k1 ?_ | refine k4 ?_)
  refine c_seq ?_
  refine c_sr ?_
  refine o_s (.t (.d (.seq 2 (List.map cS_api_Member p0)))) (g0 rfl) rfl rfl rfl ?_
  refine o_c (g0 rfl) rfl rfl rfl (lenE _ _) trivial ?_
  refine o_s (.t (.d (.lit (.int .i64 0)))) (g0 rfl) rfl rfl rfl ?_
  refine o_nil ?_
  repeat (first | refine k1 ?_ | refine k4 ?_)
  refine c_block ?_
  refine c_fuel (fun (z2 : Int) => [(0, .t (.d (.seq 2 (List.map cS_api_Member p0)))), (1, .t (.d (.seq 2 (List.map cS_api_Member p1)))), (12, .t (.d (.lit (.int .i64 (p0.length : Int))))), (13, .t (.d (.lit (.int .i64 z2))))]) (fun nl1 => (fun (z2 : Int) => m_slices_Equal_Member_l1 p0 p1 nl1 z2 = some r)) (p0.length + 1) 0 h ⟨(.refl _), ⟨(.refl _), ⟨(.refl _), ⟨(.refl _), trivial⟩⟩⟩⟩ rfl ?_
  rintro nl1 z2 h
  cases nl1 with
  | zero => exact none_ne h
  | succ nl1 =>
   refine c_sr ?_
   refine o_s (.t (.d (.lit (.bool (decide (z2 < (p0.length : Int))))))) (g0 rfl) rfl rfl rfl ?_
   refine o_nil ?_
   repeat (first | refine k1 ?_ | refine k4 ?_)
   refine c_seq ?_
   rcases bif_some h with ⟨h3, h⟩ | ⟨h3, h⟩
   ·
    refine c_t h3 rfl ?_
    refine c_skip ?_
    repeat (first | refine k1 ?_ | refine k4 ?_)
    refine c_seq ?_
    refine c_block ?_
    refine c_sr ?_
    refine o_s (.t (.d (.lit (.int .i64 z2)))) (g0 rfl) rfl rfl rfl ?_
    refine o_s (.t (.d (.lit (.int .i64 z2)))) (g0 rfl) rfl rfl rfl ?_
    refine o_nil ?_
    repeat (first | refine k1 ?_ | refine k4 ?_)
    refine c_seq ?_
    refine c_draw mixed (by kernel_rfl) ?_
    refine d_s (.t (.d (.seq 2 (List.map cS_api_Member p0)))) rfl (dg0 rfl) rfl rfl rfl rfl ?_
    refine d_s (.t (.d (.lit (.int .i64 z2)))) rfl (dg0 rfl) rfl rfl rfl rfl ?_
    obtain ⟨x4, h5, h⟩ := bind_some h
    refine d_c rfl (dg0 rfl) rfl rfl rfl rfl (idxE h5) (idxC h5) ?_
    refine d_s (.t (.agg [.lit (.string ⟨⟨x4.Name⟩⟩), .lit (.int .i64 x4.Role)])) rfl (dg0 rfl) rfl rfl rfl rfl ?_
    refine d_s (.t (.d (.seq 2 (List.map cS_api_Member p1)))) rfl (dg0 rfl) rfl rfl rfl rfl ?_
    refine d_s (.t (.d (.lit (.int .i64 z2)))) rfl (dg0 rfl) rfl rfl rfl rfl ?_
    obtain ⟨x6, h7, h⟩ := bind_some h
    refine d_c rfl (dg0 rfl) rfl rfl rfl rfl (idxE h7) (idxC h7) ?_
    refine d_s (.t (.agg [.lit (.string ⟨⟨x6.Name⟩⟩), .lit (.int .i64 x6.Role)])) rfl (dg0 rfl) rfl rfl rfl rfl ?_
    refine d_eqs true (b' := ((x4.Name == x6.Name) && ((x4.Role == x6.Role) && true))) (andE (str_beqL _ _) (andE rfl rfl)) rfl (dg0 rfl) rfl rfl rfl rfl rfl (by kernel_rfl) ((!((x4.Name == x6.Name) && ((x4.Role == x6.Role) && true)))) (by cases ((x4.Name == x6.Name) && ((x4.Role == x6.Role) && true)) <;> rfl) ?_
    refine d_nil (by kernel_rfl) ?_
    repeat (first | refine k1 ?_ | refine k2 ?_ | refine k3 ?_ | refine k4 ?_ | refine k5 ?_ | refine k6 ?_ | refine k7 rfl ?_)
    rcases bif_some h with ⟨h8, h⟩ | ⟨h8, h⟩
    ·
     refine c_t h8 rfl ?_
     refine c_sr ?_
     refine o_s (.t (.d (.lit (.bool false)))) (g0 rfl) rfl rfl rfl ?_
     refine o_nil ?_
     repeat (first | refine k1 ?_ | refine k4 ?_)
     refine c_ret ?_
     repeat (first | refine k3 ?_ | refine k5 ?_)
     obtain rfl := Option.some.inj h
     exact end0 rfl (.refl _)
    ·
     refine c_f h8 rfl ?_
     refine c_skip ?_
     repeat (first | refine k1 ?_ | refine k4 ?_)
     refine c_region ?_
     refine o_s (.t (.d (.lit (.int .i64 (wi (z2 + 1)))))) (g0 rfl) rfl rfl rfl ?_
     refine o_s (.t (.d (.lit (.int .i64 (wi (z2 + 1)))))) (g0 rfl) rfl rfl rfl ?_
     refine o_nil ?_
     repeat (first | refine k1 ?_ | refine k4 ?_)
     exact ⟨nl1, (wi (z2 + 1)), Nat.lt_succ_self nl1, h, ⟨(.refl _), ⟨(.refl _), ⟨(.refl _), ⟨(.refl _), trivial⟩⟩⟩⟩, rfl⟩
   ·
    refine c_f h3 rfl ?_
    refine c_exit ?_
    repeat (first | refine k1 ?_ | refine k2 ?_ | refine k3 ?_ | refine k4 ?_ | refine k5 ?_ | refine k6 ?_ | refine k7 rfl ?_)
    refine c_sr ?_
    refine o_s (.t (.d (.lit (.bool true)))) (g0 rfl) rfl rfl rfl ?_
    refine o_nil ?_
    repeat (first | refine k1 ?_ | refine k4 ?_)
    refine c_ret ?_
    repeat (first | refine k3 ?_ | refine k5 ?_)
    obtain rfl := Option.some.inj h
    exact end0 rfl (.refl _)

theorem fc_bytes_Equal (p0 : (List UInt8)) (p1 : (List UInt8)) (r : Bool) (h : m_bytes_Equal p0 p1 = some r) : FC Try.prog 15 [.t (.d (.seq 1 (bytesD p0))), .t (.d (.seq 1 (bytesD p1)))] [] (.t (.d (.lit (.bool r)))) := by
 refine fc_mk (rs := [.tmp 4]) (n := 10) Try.func15 rfl rfl (Nat.le_of_ble_eq_true rfl) rfl (pins := []) rfl (L := [(0, .t (.d (.seq 1 (bytesD p0)))), (1, .t (.d (.seq 1 (bytesD p1))))]) rfl ?_
 refine c_sr ?_
 refine o_s (.t (.d (.lit (.bool false)))) (g0 rfl) rfl rfl rfl ?_
 refine o_nil ?_
 repeat (first | refine k1 ?_ | refine k4 ?_)
 refine c_sr ?_
 refine o_s (.t (.d (.seq 1 (bytesD p0)))) (g0 rfl) rfl rfl rfl ?_
 refine o_c (g0 rfl) rfl rfl rfl (strE _) (isB_bytes _) ?_
 refine o_s (.t (.d (.seq 1 (bytesD p1)))) (g0 rfl) rfl rfl rfl ?_
 refine o_c (g0 rfl) rfl rfl rfl (strE _) (isB_bytes _) ?_
 refine o_c (g0 rfl) rfl rfl rfl (congrArg (fun z => A.t (.d (.lit (.bool z)))) (str_beqL _ _)) trivial ?_
 refine o_s (.t (.d (.lit (.bool (p0 == p1))))) (g0 rfl) rfl rfl rfl ?_
 refine o_nil ?_
 repeat (first | refine k1 ?_ | refine k4 ?_)
 refine c_ret ?_
 repeat (first | refine k3 ?_ | refine k5 ?_)
 obtain rfl := Option.some.inj h
 exact end0 rfl (.refl _)

theorem fc_slices_IndexFunc_Member (p0 : (List S_api_Member)) (F1 : Nat) (C1 : List (List D)) (p1 : (S_api_Member → Option Bool)) (hp1 : ∀ (a0 : S_api_Member) r, p1 a0 = some r → FC Try.prog F1 ([.t (.agg [.lit (.string ⟨⟨a0.Name⟩⟩), .lit (.int .i64 a0.Role)])] ++ C1.map A.imm) [] (.t (.d (.lit (.bool r))))) (hf1 : ∃ fn, Try.prog.funcs[F1]? = some fn ∧ fn.body.isNone = false ∧ (fn.name == "runtime.NumGoroutine") = false) (r : Int) (h : m_slices_IndexFunc_Member p0 p1 = some r) : FC Try.prog 53 [.t (.d (.seq 2 (List.map cS_api_Member p0))), .t (.d (.clo F1 C1))] [] (.t (.d (.lit (.int .i64 r)))) := by
 refine fc_mk (rs := [.tmp 4]) (n := 19) Try.func53 rfl rfl (Nat.le_of_ble_eq_true rfl) rfl (pins := []) rfl (L := [(0, .t (.d (.seq 2 (List.map cS_api_Member p0)))), (1, .t (.d (.clo F1 C1)))]) rfl ?_
 refine c_sr ?_
 refine o_s (.t (.d (.lit (.int .i64 0)))) (g0 rfl) rfl rfl rfl ?_
 refine o_nil ?_
 repeat (first | refine k1 ?_ | refine k4 ?_)
 refine c_seq ?_
 refine c_sr ?_
 refine o_s (.t (.d (.seq 2 (List.map cS_api_Member p0)))) (g0 rfl) rfl rfl rfl ?_
 refine o_c (g0 rfl) rfl rfl rfl (lenE _ _) trivial ?_
 refine o_s (.t (.d (.lit (.int .i64 0)))) (g0 rfl) rfl rfl rfl ?_
 refine o_nil ?_
 repeat (first | refine k1 ?_ | refine k4 ?_)
 refine c_block ?_
 refine c_fuel (fun (z1 : Int) => [(0, .t (.d (.seq 2 (List.map cS_api_Member p0)))), (1, .t (.d (.clo F1 C1))), (7, .t (.d (.lit (.int .i64 (p0.length : Int))))), (8, .t (.d (.lit (.int .i64 z1))))]) (fun nl1 => (fun (z1 : Int) => m_slices_IndexFunc_Member_l1 p0 p1 nl1 z1 = some r)) (p0.length + 1) 0 h ⟨(.refl _), ⟨(.refl _), ⟨(.refl _), ⟨(.refl _), trivial⟩⟩⟩⟩ rfl ?_
 rintro nl1 z1 h
 cases nl1 with
 | zero => exact none_ne h
 | succ nl1 =>
  refine c_sr ?_
  refine o_s (.t (.d (.lit (.bool (decide (z1 < (p0.length : Int))))))) (g0 rfl) rfl rfl rfl ?_
  refine o_nil ?_
  repeat (first | refine k1 ?_ | refine k4 ?_)
  refine c_seq ?_
  rcases bif_some h with ⟨h2, h⟩ | ⟨h2, h⟩
  ·
   refine c_t h2 rfl ?_
   refine c_skip ?_
   repeat (first | refine k1 ?_ | refine k4 ?_)
   refine c_seq ?_
   refine c_block ?_
   refine c_sr ?_
   refine o_s (.t (.d (.lit (.int .i64 z1)))) (g0 rfl) rfl rfl rfl ?_
   refine o_s (.t (.d (.lit (.int .i64 z1)))) (g0 rfl) rfl rfl rfl ?_
   refine o_nil ?_
   repeat (first | refine k1 ?_ | refine k4 ?_)
   refine c_sr ?_
   refine o_s (.t (.d (.clo F1 C1))) (g0 rfl) rfl rfl rfl ?_
   refine o_s (.t (.d (.seq 2 (List.map cS_api_Member p0)))) (g0 rfl) rfl rfl rfl ?_
   refine o_s (.t (.d (.lit (.int .i64 z1)))) (g0 rfl) rfl rfl rfl ?_
   obtain ⟨x3, h4, h⟩ := bind_some h
   refine o_c (g0 rfl) rfl rfl rfl (idxE h4) (idxC h4) ?_
   refine o_s (.t (.agg [.lit (.string ⟨⟨x3.Name⟩⟩), .lit (.int .i64 x3.Role)])) (g0 rfl) rfl rfl rfl ?_
   obtain ⟨x5, h6, h⟩ := bind_some h
   refine o_cc (hp1 _ _ h6) (g0 rfl) rfl rfl rfl rfl hf1.choose_spec.1 hf1.choose_spec.2.1 hf1.choose_spec.2.2 (.cons (.refl _) .nil) rfl rfl ?_
   refine o_nil ?_
   repeat (first | refine k1 ?_ | refine k4 ?_)
   rcases bif_some h with ⟨h7, h⟩ | ⟨h7, h⟩
   ·
    refine c_t h7 rfl ?_
    refine c_sr ?_
    refine o_s (.t (.d (.lit (.int .i64 z1)))) (g0 rfl) rfl rfl rfl ?_
    refine o_s (.t (.d (.lit (.int .i64 z1)))) (g0 rfl) rfl rfl rfl ?_
    refine o_nil ?_
    repeat (first | refine k1 ?_ | refine k4 ?_)
    refine c_ret ?_
    repeat (first | refine k3 ?_ | refine k5 ?_)
    obtain rfl := Option.some.inj h
    exact end0 rfl (.refl _)
   ·
    refine c_f h7 rfl ?_
    refine c_skip ?_
    repeat (first | refine k1 ?_ | refine k4 ?_)
    refine c_region ?_
    refine o_s (.t (.d (.lit (.int .i64 (wi (z1 + 1)))))) (g0 rfl) rfl rfl rfl ?_
    refine o_s (.t (.d (.lit (.int .i64 (wi (z1 + 1)))))) (g0 rfl) rfl rfl rfl ?_
    refine o_nil ?_
    repeat (first | refine k1 ?_ | refine k4 ?_)
    exact ⟨nl1, (wi (z1 + 1)), Nat.lt_succ_self nl1, h, ⟨(.refl _), ⟨(.refl _), ⟨(.refl _), ⟨(.refl _), trivial⟩⟩⟩⟩, rfl⟩
  ·
   refine c_f h2 rfl ?_
   refine c_exit ?_
   repeat (first | refine k1 ?_ | refine k2 ?_ | refine k3 ?_ | refine k4 ?_ | refine k5 ?_ | refine k6 ?_ | refine k7 rfl ?_)
   refine c_sr ?_
   refine o_s (.t (.d (.lit (.int .i64 (-1))))) (g0 rfl) rfl rfl rfl ?_
   refine o_nil ?_
   repeat (first | refine k1 ?_ | refine k4 ?_)
   refine c_ret ?_
   repeat (first | refine k3 ?_ | refine k5 ?_)
   obtain rfl := Option.some.inj h
   exact end0 rfl (.refl _)

theorem fc_role_at_c1 (p0 : S_api_Member) (c1 : (List UInt8)) (r : Bool) (h : m_role_at_c1 p0 c1 = some r) : FC Try.prog 54 [.t (.agg [.lit (.string ⟨⟨p0.Name⟩⟩), .lit (.int .i64 p0.Role)]), .imm [.lit (.string ⟨⟨c1⟩⟩)]] [] (.t (.d (.lit (.bool r)))) := by
 refine fc_mk (rs := [.tmp 3]) (n := 8) Try.func54 rfl rfl (Nat.le_of_ble_eq_true rfl) rfl (pins := []) rfl (L := [(0, .t (.agg [.lit (.string ⟨⟨p0.Name⟩⟩), .lit (.int .i64 p0.Role)])), (1, .imm [.lit (.string ⟨⟨c1⟩⟩)])]) rfl ?_
 refine c_sr ?_
 refine o_s (.box [.d (.lit (.string ⟨⟨p0.Name⟩⟩)), .d (.lit (.int .i64 p0.Role))]) (g0 rfl) rfl rfl rfl ?_
 refine o_s (.t (.d (.lit (.bool false)))) (g0 rfl) rfl rfl rfl ?_
 refine o_nil ?_
 repeat (first | refine k1 ?_ | refine k4 ?_)
 refine c_sr ?_
 refine o_s (.ref 2 0) (g0 rfl) rfl rfl rfl ?_
 refine o_s (.t (.d (.lit (.string ⟨⟨p0.Name⟩⟩)))) (g0 rfl) rfl rfl rfl ?_
 refine o_s (.t (.d (.lit (.string ⟨⟨c1⟩⟩)))) (g0 rfl) rfl rfl rfl ?_
 refine o_c (g0 rfl) rfl rfl rfl (congrArg (fun z => A.t (.d (.lit (.bool z)))) (str_beqL _ _)) trivial ?_
 refine o_s (.t (.d (.lit (.bool (p0.Name == c1))))) (g0 rfl) rfl rfl rfl ?_
 refine o_nil ?_
 repeat (first | refine k1 ?_ | refine k4 ?_)
 refine c_ret ?_
 repeat (first | refine k3 ?_ | refine k5 ?_)
 obtain rfl := Option.some.inj h
 exact end0 rfl (.refl _)

theorem fc_role_at (p0 : (List S_api_Member)) (p1 : (List UInt8)) (r : Int) (h : m_role_at p0 p1 = some r) : FC Try.prog 37 [.t (.d (.seq 2 (List.map cS_api_Member p0))), .t (.d (.lit (.string ⟨⟨p1⟩⟩)))] [] (.t (.d (.lit (.int .i64 r)))) := by
 refine fc_mk (rs := [.tmp 4]) (n := 8) Try.func37 rfl rfl (Nat.le_of_ble_eq_true rfl) rfl (pins := []) rfl (L := [(0, .t (.d (.seq 2 (List.map cS_api_Member p0)))), (1, .t (.d (.lit (.string ⟨⟨p1⟩⟩))))]) rfl ?_
 refine c_sr ?_
 refine o_s (.box [.d (.lit (.string ⟨⟨p1⟩⟩))]) (g0 rfl) rfl rfl rfl ?_
 refine o_s (.t (.d (.lit (.int .i64 0)))) (g0 rfl) rfl rfl rfl ?_
 refine o_nil ?_
 repeat (first | refine k1 ?_ | refine k4 ?_)
 refine c_seq ?_
 refine c_fz 3 (.imm [.lit (.string ⟨⟨p1⟩⟩)]) rfl rfl rfl rfl ?_
 refine c_region ?_
 refine o_s (.t (.d (.seq 2 (List.map cS_api_Member p0)))) (g0 rfl) rfl rfl rfl ?_
 refine o_mfc (.t (.d (.clo 54 [[.lit (.string ⟨⟨p1⟩⟩)]]))) (g0 rfl) rfl rfl rfl rfl rfl ?_
 obtain ⟨x1, h2, h⟩ := bind_some h
 refine o_ca (fc_slices_IndexFunc_Member _ 54 [[.lit (.string ⟨⟨p1⟩⟩)]] _ (fun a0 r h => fc_role_at_c1 a0 p1 r h) ⟨_, Try.func54, rfl, rfl⟩ _ h2) (g0 rfl) rfl rfl rfl rfl rfl rfl rfl (.cons (.refl _) (.cons (.refl _) .nil)) rfl rfl ?_
 refine o_s (.t (.d (.lit (.int .i64 x1)))) (g0 rfl) rfl rfl rfl ?_
 refine o_nil ?_
 repeat (first | refine k1 ?_ | refine k4 ?_)
 refine c_ret ?_
 repeat (first | refine k3 ?_ | refine k5 ?_)
 obtain rfl := Option.some.inj h
 exact end0 rfl (.refl _)

theorem fc_role_Of (p0 : (List S_api_Member)) (p1 : (List UInt8)) (r : Int) (h : m_role_Of p0 p1 = some r) : FC Try.prog 34 [.t (.d (.seq 2 (List.map cS_api_Member p0))), .t (.d (.lit (.string ⟨⟨p1⟩⟩)))] [] (.t (.d (.lit (.int .i64 r)))) := by
 refine fc_mk (rs := [.tmp 4]) (n := 16) Try.func34 rfl rfl (Nat.le_of_ble_eq_true rfl) rfl (pins := []) rfl (L := [(0, .t (.d (.seq 2 (List.map cS_api_Member p0)))), (1, .t (.d (.lit (.string ⟨⟨p1⟩⟩))))]) rfl ?_
 refine c_sr ?_
 refine o_s (.t (.d (.lit (.int .i64 0)))) (g0 rfl) rfl rfl rfl ?_
 refine o_nil ?_
 repeat (first | refine k1 ?_ | refine k4 ?_)
 refine c_seq ?_
 refine c_sr ?_
 refine o_s (.t (.d (.seq 2 (List.map cS_api_Member p0)))) (g0 rfl) rfl rfl rfl ?_
 refine o_s (.t (.d (.lit (.string ⟨⟨p1⟩⟩)))) (g0 rfl) rfl rfl rfl ?_
 obtain ⟨x1, h2, h⟩ := bind_some h
 refine o_ca (fc_role_at _ _ _ h2) (g0 rfl) rfl rfl rfl rfl rfl rfl rfl (.cons (.refl _) (.cons (.refl _) .nil)) rfl rfl ?_
 refine o_s (.t (.d (.lit (.int .i64 x1)))) (g0 rfl) rfl rfl rfl ?_
 refine o_nil ?_
 repeat (first | refine k1 ?_ | refine k4 ?_)
 refine c_sr ?_
 refine o_s (.t (.d (.lit (.int .i64 x1)))) (g0 rfl) rfl rfl rfl ?_
 refine o_s (.t (.d (.lit (.bool (decide (x1 ≥ 0)))))) (g0 rfl) rfl rfl rfl ?_
 refine o_nil ?_
 repeat (first | refine k1 ?_ | refine k4 ?_)
 rcases bif_some h with ⟨h3, h⟩ | ⟨h3, h⟩
 ·
  refine c_t h3 rfl ?_
  refine c_sr ?_
  refine o_s (.t (.d (.seq 2 (List.map cS_api_Member p0)))) (g0 rfl) rfl rfl rfl ?_
  refine o_s (.t (.d (.lit (.int .i64 x1)))) (g0 rfl) rfl rfl rfl ?_
  obtain ⟨x4, h5, h⟩ := bind_some h
  refine o_c (g0 rfl) rfl rfl rfl (idxE h5) (idxC h5) ?_
  refine o_s (.imm [.lit (.int .i64 x4.Role)]) (g0 rfl) rfl rfl rfl ?_
  refine o_s (.t (.d (.lit (.int .i64 x4.Role)))) (g0 rfl) rfl rfl rfl ?_
  refine o_s (.t (.d (.lit (.int .i64 x4.Role)))) (g0 rfl) rfl rfl rfl ?_
  refine o_nil ?_
  repeat (first | refine k1 ?_ | refine k4 ?_)
  refine c_ret ?_
  repeat (first | refine k3 ?_ | refine k5 ?_)
  obtain rfl := Option.some.inj h
  exact end0 rfl (.refl _)
 ·
  refine c_f h3 rfl ?_
  refine c_skip ?_
  repeat (first | refine k1 ?_ | refine k4 ?_)
  refine c_sr ?_
  refine o_s (.t (.d (.lit (.int .i64 0)))) (g0 rfl) rfl rfl rfl ?_
  refine o_nil ?_
  repeat (first | refine k1 ?_ | refine k4 ?_)
  refine c_ret ?_
  repeat (first | refine k3 ?_ | refine k5 ?_)
  obtain rfl := Option.some.inj h
  exact end0 rfl (.refl _)

theorem fc_manifest_owner (p0 : S_api_Manifest) (p1 : (List UInt8)) (r : Int) (h : m_manifest_owner p0 p1 = some r) : FC Try.prog 16 [.t (.agg [.lit (.string ⟨⟨p0.Folder⟩⟩), .lit (.int .i64 p0.Seq), .seq 1 (bytesD p0.Prev), .lit (.string ⟨⟨p0.Parent⟩⟩), .seq 2 (List.map cS_api_Member p0.Members), .lit (.int .i64 p0.Cut), .lit (.bool p0.Gone), .lit (.string ⟨⟨p0.By⟩⟩)]), .t (.d (.lit (.string ⟨⟨p1⟩⟩)))] [] (.t (.d (.lit (.int .i64 r)))) := by
 refine fc_mk (rs := [.tmp 4]) (n := 10) Try.func16 rfl rfl (Nat.le_of_ble_eq_true rfl) rfl (pins := []) rfl (L := [(0, .t (.agg [.lit (.string ⟨⟨p0.Folder⟩⟩), .lit (.int .i64 p0.Seq), .seq 1 (bytesD p0.Prev), .lit (.string ⟨⟨p0.Parent⟩⟩), .seq 2 (List.map cS_api_Member p0.Members), .lit (.int .i64 p0.Cut), .lit (.bool p0.Gone), .lit (.string ⟨⟨p0.By⟩⟩)])), (1, .t (.d (.lit (.string ⟨⟨p1⟩⟩))))]) rfl ?_
 refine c_sr ?_
 refine o_s (.box [.d (.lit (.string ⟨⟨p0.Folder⟩⟩)), .d (.lit (.int .i64 p0.Seq)), .d (.seq 1 (bytesD p0.Prev)), .d (.lit (.string ⟨⟨p0.Parent⟩⟩)), .d (.seq 2 (List.map cS_api_Member p0.Members)), .d (.lit (.int .i64 p0.Cut)), .d (.lit (.bool p0.Gone)), .d (.lit (.string ⟨⟨p0.By⟩⟩))]) (g0 rfl) rfl rfl rfl ?_
 refine o_s (.t (.d (.lit (.int .i64 0)))) (g0 rfl) rfl rfl rfl ?_
 refine o_nil ?_
 repeat (first | refine k1 ?_ | refine k4 ?_)
 refine c_seq ?_
 refine c_sr ?_
 refine o_s (.ref 2 4) (g0 rfl) rfl rfl rfl ?_
 refine o_s (.t (.d (.seq 2 (List.map cS_api_Member p0.Members)))) (g0 rfl) rfl rfl rfl ?_
 refine o_s (.t (.d (.lit (.string ⟨⟨p1⟩⟩)))) (g0 rfl) rfl rfl rfl ?_
 obtain ⟨x1, h2, h⟩ := bind_some h
 refine o_ca (fc_role_Of _ _ _ h2) (g0 rfl) rfl rfl rfl rfl rfl rfl rfl (.cons (.refl _) (.cons (.refl _) .nil)) rfl rfl ?_
 refine o_s (.t (.d (.lit (.bool (decide (x1 < 4)))))) (g0 rfl) rfl rfl rfl ?_
 refine o_nil ?_
 repeat (first | refine k1 ?_ | refine k4 ?_)
 rcases bif_some h with ⟨h3, h⟩ | ⟨h3, h⟩
 ·
  refine c_t h3 rfl ?_
  refine c_sr ?_
  refine o_s (.t (.d (.lit (.int .i64 40)))) (g0 rfl) rfl rfl rfl ?_
  refine o_nil ?_
  repeat (first | refine k1 ?_ | refine k4 ?_)
  refine c_ret ?_
  repeat (first | refine k3 ?_ | refine k5 ?_)
  obtain rfl := Option.some.inj h
  exact end0 rfl (.refl _)
 ·
  refine c_f h3 rfl ?_
  refine c_skip ?_
  repeat (first | refine k1 ?_ | refine k4 ?_)
  refine c_sr ?_
  refine o_s (.t (.d (.lit (.int .i64 0)))) (g0 rfl) rfl rfl rfl ?_
  refine o_nil ?_
  repeat (first | refine k1 ?_ | refine k4 ?_)
  refine c_ret ?_
  repeat (first | refine k3 ?_ | refine k5 ?_)
  obtain rfl := Option.some.inj h
  exact end0 rfl (.refl _)

theorem fc_role_differ (p0 : (List S_api_Member)) (p1 : (List S_api_Member)) (r : (List (List UInt8))) (h : m_role_differ p0 p1 = some r) : FC Try.prog 35 [.t (.d (.seq 2 (List.map cS_api_Member p0))), .t (.d (.seq 2 (List.map cS_api_Member p1)))] [] (.t (.own 9 1 (List.map cStr r))) := by
 refine fc_mk (rs := [.tmp 4]) (n := 47) Try.func35 rfl rfl (Nat.le_of_ble_eq_true rfl) rfl (pins := []) rfl (L := [(0, .t (.d (.seq 2 (List.map cS_api_Member p0)))), (1, .t (.d (.seq 2 (List.map cS_api_Member p1))))]) rfl ?_
 refine c_sr ?_
 refine o_s (.t (.d (.lit (.slice none 0 0)))) (g0 rfl) rfl rfl rfl ?_
 refine o_nil ?_
 repeat (first | refine k1 ?_ | refine k4 ?_)
 refine c_sr ?_
 refine o_s (.t (.d (.lit (.slice none 0 0)))) (g0 rfl) rfl rfl rfl ?_
 refine o_nil ?_
 repeat (first | refine k1 ?_ | refine k4 ?_)
 refine c_cut (fun (y1 : (List (List UInt8))) => [(0, .t (.d (.seq 2 (List.map cS_api_Member p0)))), (1, .t (.d (.seq 2 (List.map cS_api_Member p1)))), (5, .t (.own 9 1 (List.map cStr y1)))]) (fun (y1 : (List (List UInt8))) => m_role_differ_j1 p1 p0 y1 = some r) ?_ ?_
 ·
  refine c_sr ?_
  refine o_s (.t (.d (.seq 2 (List.map cS_api_Member p0)))) (g0 rfl) rfl rfl rfl ?_
  refine o_c (g0 rfl) rfl rfl rfl (lenE _ _) trivial ?_
  refine o_s (.t (.d (.lit (.int .i64 0)))) (g0 rfl) rfl rfl rfl ?_
  refine o_nil ?_
  repeat (first | refine k1 ?_ | refine k4 ?_)
  refine c_block ?_
  refine c_fuel (fun (q : (List (List UInt8)) × Int) => [(0, .t (.d (.seq 2 (List.map cS_api_Member p0)))), (1, .t (.d (.seq 2 (List.map cS_api_Member p1)))), (5, .t (.own 9 1 (List.map cStr q.1))), (10, .t (.d (.seq 2 (List.map cS_api_Member p0)))), (11, .t (.d (.lit (.int .i64 (p0.length : Int))))), (12, .t (.d (.lit (.int .i64 q.2))))]) (fun nl3 => (fun (q : (List (List UInt8)) × Int) => m_role_differ_l3 p0 p1 nl3 q.1 q.2 = some r)) (p0.length + 1) ([], 0) h ⟨(.refl _), ⟨(.refl _), ⟨(.t (.nilOwn _ _)), ⟨(.refl _), ⟨(.refl _), ⟨(.refl _), trivial⟩⟩⟩⟩⟩⟩ rfl ?_
  rintro nl3 ⟨z12, z13⟩ h
  cases nl3 with
  | zero => exact none_ne h
  | succ nl3 =>
   refine c_sr ?_
   refine o_s (.t (.d (.lit (.bool (decide (z13 < (p0.length : Int))))))) (g0 rfl) rfl rfl rfl ?_
   refine o_nil ?_
   repeat (first | refine k1 ?_ | refine k4 ?_)
   refine c_seq ?_
   rcases bif_some h with ⟨h14, h⟩ | ⟨h14, h⟩
   ·
    refine c_t h14 rfl ?_
    refine c_skip ?_
    repeat (first | refine k1 ?_ | refine k4 ?_)
    refine c_seq ?_
    refine c_block ?_
    refine c_sr ?_
    obtain ⟨x15, h16, h⟩ := bind_some h
    refine o_c (g0 rfl) rfl rfl rfl (idxE h16) (idxC h16) ?_
    refine o_s (.t (.agg [.lit (.string ⟨⟨x15.Name⟩⟩), .lit (.int .i64 x15.Role)])) (g0 rfl) rfl rfl rfl ?_
    refine o_s (.box [.d (.lit (.string ⟨⟨[]⟩⟩)), .d (.lit (.int .i64 0))]) (g0 rfl) rfl rfl rfl ?_
    refine o_st (.box [.d (.lit (.string ⟨⟨x15.Name⟩⟩)), .d (.lit (.int .i64 x15.Role))]) (g0 rfl) rfl rfl rfl ?_
    refine o_nil ?_
    repeat (first | refine k1 ?_ | refine k4 ?_)
    refine c_seq ?_
    refine c_draw mixed (by kernel_rfl) ?_
    refine d_s (.t (.d (.seq 2 (List.map cS_api_Member p1)))) rfl (dg0 rfl) rfl rfl rfl rfl ?_
    refine d_s (.ref 7 0) rfl (dg0 rfl) rfl rfl rfl rfl ?_
    refine d_s (.t (.d (.lit (.string ⟨⟨x15.Name⟩⟩)))) rfl (dg0 rfl) rfl rfl rfl rfl ?_
    obtain ⟨x17, h18, h⟩ := bind_some h
    refine d_ca (fc_role_Of _ _ _ h18) rfl (dg0 rfl) rfl rfl rfl rfl rfl rfl rfl rfl (.cons (.refl _) (.cons (.refl _) .nil)) rfl rfl ?_
    refine d_s (.ref 7 1) rfl (dg0 rfl) rfl rfl rfl rfl ?_
    refine d_s (.t (.d (.lit (.int .i64 x15.Role)))) rfl (dg0 rfl) rfl rfl rfl rfl ?_
    refine d_s (.t (.d (.lit (.bool (x17 != x15.Role))))) rfl (dg0 rfl) rfl rfl rfl rfl ?_
    refine d_nil (by kernel_rfl) ?_
    repeat (first | refine k1 ?_ | refine k2 ?_ | refine k3 ?_ | refine k4 ?_ | refine k5 ?_ | refine k6 ?_ | refine k7 rfl ?_)
    rcases bif_some h with ⟨h19, h⟩ | ⟨h19, h⟩
    ·
     refine c_t h19 rfl ?_
     refine c_region ?_
     refine o_2 (.t (.d (.seq 1 (List.map cStr z12)))) (.t (.own 9 1 (List.map cStr z12))) (g0 rfl) rfl rfl rfl ?_
     refine o_s (.ref 7 0) (g0 rfl) rfl rfl rfl ?_
     refine o_s (.t (.d (.lit (.string ⟨⟨x15.Name⟩⟩)))) (g0 rfl) rfl rfl rfl ?_
     refine o_s (.t (.own 9 1 (List.map cStr [x15.Name]))) (g0 rfl) rfl rfl rfl ?_
     obtain ⟨x20, h21, h⟩ := bind_some h
     refine o_2c (g0 rfl) rfl rfl rfl (appE (c := cStr) h21) (appC (c := cStr) h21) ?_
     refine o_2 (.t (.d (.seq 1 (List.map cStr x20)))) (.t (.own 9 1 (List.map cStr x20))) (g0 rfl) rfl rfl rfl ?_
     refine o_nil ?_
     repeat (first | refine k1 ?_ | refine k4 ?_)
     refine c_region ?_
     refine o_s (.t (.d (.lit (.int .i64 (wi (z13 + 1)))))) (g0 rfl) rfl rfl rfl ?_
     refine o_s (.t (.d (.lit (.int .i64 (wi (z13 + 1)))))) (g0 rfl) rfl rfl rfl ?_
     refine o_nil ?_
     repeat (first | refine k1 ?_ | refine k4 ?_)
     exact ⟨nl3, (x20, (wi (z13 + 1))), Nat.lt_succ_self nl3, h, ⟨(.refl _), ⟨(.refl _), ⟨(.refl _), ⟨(.refl _), ⟨(.refl _), ⟨(.refl _), trivial⟩⟩⟩⟩⟩⟩, rfl⟩
    ·
     refine c_f h19 rfl ?_
     refine c_skip ?_
     repeat (first | refine k1 ?_ | refine k4 ?_)
     refine c_region ?_
     refine o_s (.t (.d (.lit (.int .i64 (wi (z13 + 1)))))) (g0 rfl) rfl rfl rfl ?_
     refine o_s (.t (.d (.lit (.int .i64 (wi (z13 + 1)))))) (g0 rfl) rfl rfl rfl ?_
     refine o_nil ?_
     repeat (first | refine k1 ?_ | refine k4 ?_)
     exact ⟨nl3, (z12, (wi (z13 + 1))), Nat.lt_succ_self nl3, h, ⟨(.refl _), ⟨(.refl _), ⟨(.refl _), ⟨(.refl _), ⟨(.refl _), ⟨(.refl _), trivial⟩⟩⟩⟩⟩⟩, rfl⟩
   ·
    refine c_f h14 rfl ?_
    refine c_exit ?_
    repeat (first | refine k1 ?_ | refine k2 ?_ | refine k3 ?_ | refine k4 ?_ | refine k5 ?_ | refine k6 ?_ | refine k7 rfl ?_)
    exact ⟨z12, h, ⟨(.refl _), ⟨(.refl _), ⟨(.refl _), trivial⟩⟩⟩, rfl⟩
 ·
  rintro y1 h
  refine c_seq ?_
  refine c_sr ?_
  refine o_s (.t (.d (.seq 2 (List.map cS_api_Member p1)))) (g0 rfl) rfl rfl rfl ?_
  refine o_c (g0 rfl) rfl rfl rfl (lenE _ _) trivial ?_
  refine o_s (.t (.d (.lit (.int .i64 0)))) (g0 rfl) rfl rfl rfl ?_
  refine o_nil ?_
  repeat (first | refine k1 ?_ | refine k4 ?_)
  refine c_block ?_
  refine c_fuel (fun (q : (List (List UInt8)) × Int) => [(0, .t (.d (.seq 2 (List.map cS_api_Member p0)))), (5, .t (.own 9 1 (List.map cStr q.1))), (29, .t (.d (.seq 2 (List.map cS_api_Member p1)))), (30, .t (.d (.lit (.int .i64 (p1.length : Int))))), (31, .t (.d (.lit (.int .i64 q.2))))]) (fun nl2 => (fun (q : (List (List UInt8)) × Int) => m_role_differ_l2 p1 p0 nl2 q.1 q.2 = some r)) (p1.length + 1) (y1, 0) h ⟨(.refl _), ⟨(.refl _), ⟨(.refl _), ⟨(.refl _), ⟨(.refl _), trivial⟩⟩⟩⟩⟩ rfl ?_
  rintro nl2 ⟨z2, z3⟩ h
  cases nl2 with
  | zero => exact none_ne h
  | succ nl2 =>
   refine c_sr ?_
   refine o_s (.t (.d (.lit (.bool (decide (z3 < (p1.length : Int))))))) (g0 rfl) rfl rfl rfl ?_
   refine o_nil ?_
   repeat (first | refine k1 ?_ | refine k4 ?_)
   refine c_seq ?_
   rcases bif_some h with ⟨h4, h⟩ | ⟨h4, h⟩
   ·
    refine c_t h4 rfl ?_
    refine c_skip ?_
    repeat (first | refine k1 ?_ | refine k4 ?_)
    refine c_seq ?_
    refine c_block ?_
    refine c_sr ?_
    obtain ⟨x5, h6, h⟩ := bind_some h
    refine o_c (g0 rfl) rfl rfl rfl (idxE h6) (idxC h6) ?_
    refine o_s (.t (.agg [.lit (.string ⟨⟨x5.Name⟩⟩), .lit (.int .i64 x5.Role)])) (g0 rfl) rfl rfl rfl ?_
    refine o_s (.box [.d (.lit (.string ⟨⟨[]⟩⟩)), .d (.lit (.int .i64 0))]) (g0 rfl) rfl rfl rfl ?_
    refine o_st (.box [.d (.lit (.string ⟨⟨x5.Name⟩⟩)), .d (.lit (.int .i64 x5.Role))]) (g0 rfl) rfl rfl rfl ?_
    refine o_nil ?_
    repeat (first | refine k1 ?_ | refine k4 ?_)
    refine c_sr ?_
    refine o_s (.t (.d (.seq 2 (List.map cS_api_Member p0)))) (g0 rfl) rfl rfl rfl ?_
    refine o_s (.ref 9 0) (g0 rfl) rfl rfl rfl ?_
    refine o_s (.t (.d (.lit (.string ⟨⟨x5.Name⟩⟩)))) (g0 rfl) rfl rfl rfl ?_
    obtain ⟨x7, h8, h⟩ := bind_some h
    refine o_ca (fc_role_Of _ _ _ h8) (g0 rfl) rfl rfl rfl rfl rfl rfl rfl (.cons (.refl _) (.cons (.refl _) .nil)) rfl rfl ?_
    refine o_s (.t (.d (.lit (.bool (x7 == 0))))) (g0 rfl) rfl rfl rfl ?_
    refine o_nil ?_
    repeat (first | refine k1 ?_ | refine k4 ?_)
    rcases bif_some h with ⟨h9, h⟩ | ⟨h9, h⟩
    ·
     refine c_t h9 rfl ?_
     refine c_region ?_
     refine o_2 (.t (.d (.seq 1 (List.map cStr z2)))) (.t (.own 9 1 (List.map cStr z2))) (g0 rfl) rfl rfl rfl ?_
     refine o_s (.ref 9 0) (g0 rfl) rfl rfl rfl ?_
     refine o_s (.t (.d (.lit (.string ⟨⟨x5.Name⟩⟩)))) (g0 rfl) rfl rfl rfl ?_
     refine o_s (.t (.own 9 1 (List.map cStr [x5.Name]))) (g0 rfl) rfl rfl rfl ?_
     obtain ⟨x10, h11, h⟩ := bind_some h
     refine o_2c (g0 rfl) rfl rfl rfl (appE (c := cStr) h11) (appC (c := cStr) h11) ?_
     refine o_2 (.t (.d (.seq 1 (List.map cStr x10)))) (.t (.own 9 1 (List.map cStr x10))) (g0 rfl) rfl rfl rfl ?_
     refine o_nil ?_
     repeat (first | refine k1 ?_ | refine k4 ?_)
     refine c_region ?_
     refine o_s (.t (.d (.lit (.int .i64 (wi (z3 + 1)))))) (g0 rfl) rfl rfl rfl ?_
     refine o_s (.t (.d (.lit (.int .i64 (wi (z3 + 1)))))) (g0 rfl) rfl rfl rfl ?_
     refine o_nil ?_
     repeat (first | refine k1 ?_ | refine k4 ?_)
     exact ⟨nl2, (x10, (wi (z3 + 1))), Nat.lt_succ_self nl2, h, ⟨(.refl _), ⟨(.refl _), ⟨(.refl _), ⟨(.refl _), ⟨(.refl _), trivial⟩⟩⟩⟩⟩, rfl⟩
    ·
     refine c_f h9 rfl ?_
     refine c_skip ?_
     repeat (first | refine k1 ?_ | refine k4 ?_)
     refine c_region ?_
     refine o_s (.t (.d (.lit (.int .i64 (wi (z3 + 1)))))) (g0 rfl) rfl rfl rfl ?_
     refine o_s (.t (.d (.lit (.int .i64 (wi (z3 + 1)))))) (g0 rfl) rfl rfl rfl ?_
     refine o_nil ?_
     repeat (first | refine k1 ?_ | refine k4 ?_)
     exact ⟨nl2, (z2, (wi (z3 + 1))), Nat.lt_succ_self nl2, h, ⟨(.refl _), ⟨(.refl _), ⟨(.refl _), ⟨(.refl _), ⟨(.refl _), trivial⟩⟩⟩⟩⟩, rfl⟩
   ·
    refine c_f h4 rfl ?_
    refine c_exit ?_
    repeat (first | refine k1 ?_ | refine k2 ?_ | refine k3 ?_ | refine k4 ?_ | refine k5 ?_ | refine k6 ?_ | refine k7 rfl ?_)
    refine c_sr ?_
    refine o_2 (.t (.d (.seq 1 (List.map cStr z2)))) (.t (.own 9 1 (List.map cStr z2))) (g0 rfl) rfl rfl rfl ?_
    refine o_2 (.t (.d (.seq 1 (List.map cStr z2)))) (.t (.own 9 1 (List.map cStr z2))) (g0 rfl) rfl rfl rfl ?_
    refine o_nil ?_
    repeat (first | refine k1 ?_ | refine k4 ?_)
    refine c_ret ?_
    repeat (first | refine k3 ?_ | refine k5 ?_)
    obtain rfl := Option.some.inj h
    exact end0 rfl (.refl _)

theorem fc_slices_Max_int (p0 : (List Int)) (r : Int) (h : m_slices_Max_int p0 = some r) : FC Try.prog 65 [.t (.d (.seq 1 (List.map cI64 p0)))] [] (.t (.d (.lit (.int .i64 r)))) := by
 refine fc_mk (rs := [.tmp 2]) (n := 25) Try.func65 rfl rfl (Nat.le_of_ble_eq_true rfl) rfl (pins := []) rfl (L := [(0, .t (.d (.seq 1 (List.map cI64 p0))))]) rfl ?_
 refine c_sr ?_
 refine o_s (.t (.d (.lit (.int .i64 0)))) (g0 rfl) rfl rfl rfl ?_
 refine o_nil ?_
 repeat (first | refine k1 ?_ | refine k4 ?_)
 refine c_seq ?_
 refine c_sr ?_
 refine o_s (.t (.d (.seq 1 (List.map cI64 p0)))) (g0 rfl) rfl rfl rfl ?_
 refine o_c (g0 rfl) rfl rfl rfl (lenE _ _) trivial ?_
 refine o_s (.t (.d (.lit (.bool (decide ((p0.length : Int) < 1)))))) (g0 rfl) rfl rfl rfl ?_
 refine o_nil ?_
 repeat (first | refine k1 ?_ | refine k4 ?_)
 rcases bif_some h with ⟨h1, h⟩ | ⟨h1, h⟩
 ·
  refine c_t h1 rfl ?_
  refine c_region ?_
  exact none_ne h
 ·
  refine c_f h1 rfl ?_
  refine c_skip ?_
  repeat (first | refine k1 ?_ | refine k4 ?_)
  refine c_sr ?_
  refine o_s (.t (.d (.seq 1 (List.map cI64 p0)))) (g0 rfl) rfl rfl rfl ?_
  obtain ⟨x2, h3, h⟩ := bind_some h
  refine o_c (g0 rfl) rfl rfl rfl (idxE h3) (idxC h3) ?_
  refine o_s (.t (.d (.lit (.int .i64 x2)))) (g0 rfl) rfl rfl rfl ?_
  refine o_s (.t (.d (.lit (.int .i64 x2)))) (g0 rfl) rfl rfl rfl ?_
  refine o_nil ?_
  repeat (first | refine k1 ?_ | refine k4 ?_)
  refine c_seq ?_
  refine c_sr ?_
  refine o_s (.t (.d (.lit (.int .i64 1)))) (g0 rfl) rfl rfl rfl ?_
  refine o_nil ?_
  repeat (first | refine k1 ?_ | refine k4 ?_)
  refine c_block ?_
  refine c_fuel (fun (q : Int × Int) => [(0, .t (.d (.seq 1 (List.map cI64 p0)))), (3, .t (.d (.lit (.int .i64 q.1)))), (4, .t (.d (.lit (.int .i64 q.2))))]) (fun nl1 => (fun (q : Int × Int) => m_slices_Max_int_l1 p0 nl1 q.1 q.2 = some r)) (p0.length + 1) (x2, 1) h ⟨(.refl _), ⟨(.refl _), ⟨(.refl _), trivial⟩⟩⟩ rfl ?_
  rintro nl1 ⟨z4, z5⟩ h
  cases nl1 with
  | zero => exact none_ne h
  | succ nl1 =>
   refine c_seq ?_
   refine c_sr ?_
   refine o_s (.t (.d (.lit (.int .i64 z5)))) (g0 rfl) rfl rfl rfl ?_
   refine o_s (.t (.d (.seq 1 (List.map cI64 p0)))) (g0 rfl) rfl rfl rfl ?_
   refine o_c (g0 rfl) rfl rfl rfl (lenE _ _) trivial ?_
   refine o_s (.t (.d (.lit (.bool (decide (z5 < (p0.length : Int))))))) (g0 rfl) rfl rfl rfl ?_
   refine o_nil ?_
   repeat (first | refine k1 ?_ | refine k4 ?_)
   rcases bif_some h with ⟨h6, h⟩ | ⟨h6, h⟩
   ·
    refine c_t h6 rfl ?_
    refine c_skip ?_
    repeat (first | refine k1 ?_ | refine k4 ?_)
    refine c_seq ?_
    refine c_block ?_
    refine c_region ?_
    refine o_s (.t (.d (.lit (.int .i64 z4)))) (g0 rfl) rfl rfl rfl ?_
    refine o_s (.t (.d (.seq 1 (List.map cI64 p0)))) (g0 rfl) rfl rfl rfl ?_
    refine o_s (.t (.d (.lit (.int .i64 z5)))) (g0 rfl) rfl rfl rfl ?_
    obtain ⟨x7, h8, h⟩ := bind_some h
    refine o_c (g0 rfl) rfl rfl rfl (idxE h8) (idxC h8) ?_
    refine o_s (.t (.d (.lit (.int .i64 x7)))) (g0 rfl) rfl rfl rfl ?_
    refine o_of (e := [(23, .t (.d (.lit (.int .i64 (if x7 > z4 then x7 else z4)))))]) (g0 rfl) (h_max (Mk.refl _) rfl rfl rfl rfl rfl) rfl ?_
    refine o_s (.t (.d (.lit (.int .i64 (if x7 > z4 then x7 else z4))))) (g0 rfl) rfl rfl rfl ?_
    refine o_nil ?_
    repeat (first | refine k1 ?_ | refine k4 ?_)
    refine c_region ?_
    refine o_s (.t (.d (.lit (.int .i64 z5)))) (g0 rfl) rfl rfl rfl ?_
    refine o_s (.t (.d (.lit (.int .i64 (wi (z5 + 1)))))) (g0 rfl) rfl rfl rfl ?_
    refine o_s (.t (.d (.lit (.int .i64 (wi (z5 + 1)))))) (g0 rfl) rfl rfl rfl ?_
    refine o_nil ?_
    repeat (first | refine k1 ?_ | refine k4 ?_)
    exact ⟨nl1, ((if x7 > z4 then x7 else z4), (wi (z5 + 1))), Nat.lt_succ_self nl1, h, ⟨(.refl _), ⟨(.refl _), ⟨(.refl _), trivial⟩⟩⟩, rfl⟩
   ·
    refine c_f h6 rfl ?_
    refine c_exit ?_
    repeat (first | refine k1 ?_ | refine k2 ?_ | refine k3 ?_ | refine k4 ?_ | refine k5 ?_ | refine k6 ?_ | refine k7 rfl ?_)
    refine c_sr ?_
    refine o_s (.t (.d (.lit (.int .i64 z4)))) (g0 rfl) rfl rfl rfl ?_
    refine o_s (.t (.d (.lit (.int .i64 z4)))) (g0 rfl) rfl rfl rfl ?_
    refine o_nil ?_
    repeat (first | refine k1 ?_ | refine k4 ?_)
    refine c_ret ?_
    repeat (first | refine k3 ?_ | refine k5 ?_)
    obtain rfl := Option.some.inj h
    exact end0 rfl (.refl _)

theorem fc_role_high (p0 : (List S_api_Member)) (p1 : (List UInt8)) (p2 : (List Int)) (r : Bool) (h : m_role_high p0 p1 p2 = some r) : FC Try.prog 50 [.t (.d (.seq 2 (List.map cS_api_Member p0))), .t (.d (.lit (.string ⟨⟨p1⟩⟩))), .t (.d (.seq 1 (List.map cI64 p2)))] [] (.t (.d (.lit (.bool r)))) := by
 refine fc_mk (rs := [.tmp 6]) (n := 16) Try.func50 rfl rfl (Nat.le_of_ble_eq_true rfl) rfl (pins := []) rfl (L := [(0, .t (.d (.seq 2 (List.map cS_api_Member p0)))), (1, .t (.d (.lit (.string ⟨⟨p1⟩⟩)))), (2, .t (.d (.seq 1 (List.map cI64 p2))))]) rfl ?_
 refine c_sr ?_
 refine o_s (.t (.d (.lit (.bool false)))) (g0 rfl) rfl rfl rfl ?_
 refine o_nil ?_
 repeat (first | refine k1 ?_ | refine k4 ?_)
 refine c_sr ?_
 refine o_s (.t (.d (.seq 1 (List.map cI64 p2)))) (g0 rfl) rfl rfl rfl ?_
 obtain ⟨x1, h2, h⟩ := bind_some h
 refine o_ca (fc_slices_Max_int _ _ h2) (g0 rfl) rfl rfl rfl rfl rfl rfl rfl (.cons (.refl _) .nil) rfl rfl ?_
 refine o_s (.t (.d (.lit (.bool (decide (x1 ≥ 3)))))) (g0 rfl) rfl rfl rfl ?_
 refine o_s (.t (.d (.lit (.bool (decide (x1 ≥ 3)))))) (g0 rfl) rfl rfl rfl ?_
 rcases bif_some h with ⟨h3, h⟩ | ⟨h3, h⟩
 ·
  refine o_s (.t (.d (.seq 2 (List.map cS_api_Member p0)))) (gy rfl rfl rfl h3) rfl rfl rfl ?_
  refine o_s (.t (.d (.lit (.string ⟨⟨p1⟩⟩)))) (gy rfl rfl rfl h3) rfl rfl rfl ?_
  obtain ⟨x4, h5, h⟩ := bind_some h
  refine o_ca (fc_role_Of _ _ _ h5) (gy rfl rfl rfl h3) rfl rfl rfl rfl rfl rfl rfl (.cons (.refl _) (.cons (.refl _) .nil)) rfl rfl ?_
  refine o_s (.t (.d (.lit (.bool (decide (x4 < 4)))))) (gy rfl rfl rfl h3) rfl rfl rfl ?_
  refine o_pk (.t (.d (.lit (.bool (decide (x4 < 4)))))) (b := true) h3 (g0 rfl) rfl rfl rfl rfl rfl ?_
  refine o_s (.t (.d (.lit (.bool (decide (x4 < 4)))))) (g0 rfl) rfl rfl rfl ?_
  refine o_nil ?_
  repeat (first | refine k1 ?_ | refine k4 ?_)
  refine c_ret ?_
  repeat (first | refine k3 ?_ | refine k5 ?_)
  obtain rfl := Option.some.inj h
  exact end0 rfl (.refl _)
 ·
  refine o_skip rfl rfl rfl h3 rfl rfl ?_
  refine o_skip rfl rfl rfl h3 rfl rfl ?_
  refine o_skip rfl rfl rfl h3 rfl rfl ?_
  refine o_skip rfl rfl rfl h3 rfl rfl ?_
  refine o_pk (.t (.d (.lit (.bool false)))) (b := false) h3 (g0 rfl) rfl rfl rfl rfl rfl ?_
  refine o_s (.t (.d (.lit (.bool false)))) (g0 rfl) rfl rfl rfl ?_
  refine o_nil ?_
  repeat (first | refine k1 ?_ | refine k4 ?_)
  refine c_ret ?_
  repeat (first | refine k3 ?_ | refine k5 ?_)
  obtain rfl := Option.some.inj h
  exact end0 rfl (.refl _)

theorem fch_role_Revoke (p0 : (List S_api_Member)) (p1 : (List UInt8)) (p2 : (List UInt8)) (w0 : Hp) (r : ((List S_api_Member) × Int)) (h : m_role_Revoke p0 p1 p2 = some r) : FCH Try.prog 36 [.t (.d (.seq 2 (List.map cS_api_Member p0))), .t (.d (.lit (.string ⟨⟨p1⟩⟩))), .t (.d (.lit (.string ⟨⟨p2⟩⟩)))] [] [] (hpA w0) (hpA w0) (.tup [.d (.seq 2 (List.map cS_api_Member r.1)), .d (.lit (.int .i64 r.2))]) := by
 refine fch_mk (rs := [.tmp 6, .tmp 7]) (n := 67) [0] Try.func36 rfl rfl (Nat.le_of_ble_eq_true rfl) rfl (pins := []) rfl (L := [(HK, .hp (hpA w0)), (OB + 0, .free), (0, .t (.d (.seq 2 (List.map cS_api_Member p0)))), (1, .t (.d (.lit (.string ⟨⟨p1⟩⟩)))), (2, .t (.d (.lit (.string ⟨⟨p2⟩⟩))))]) rfl ?_
 refine c_sr ?_
 refine o_s (.t (.d (.lit (.slice none 0 0)))) (g0 rfl) rfl rfl rfl ?_
 refine o_s (.t (.d (.lit (.int .i64 0)))) (g0 rfl) rfl rfl rfl ?_
 refine o_nil ?_
 repeat (first | refine k1 ?_ | refine k4 ?_)
 refine c_sr ?_
 refine o_s (.t (.d (.seq 2 (List.map cS_api_Member p0)))) (g0 rfl) rfl rfl rfl ?_
 refine o_s (.t (.d (.lit (.string ⟨⟨p2⟩⟩)))) (g0 rfl) rfl rfl rfl ?_
 obtain ⟨x1, h2, h⟩ := bind_some h
 refine o_ca (fc_role_at _ _ _ h2) (g0 rfl) rfl rfl rfl rfl rfl rfl rfl (.cons (.refl _) (.cons (.refl _) .nil)) rfl rfl ?_
 refine o_s (.t (.d (.lit (.int .i64 x1)))) (g0 rfl) rfl rfl rfl ?_
 refine o_nil ?_
 repeat (first | refine k1 ?_ | refine k4 ?_)
 refine c_cutH (fun (_ : Unit) => [(0, .t (.d (.seq 2 (List.map cS_api_Member p0)))), (8, .t (.d (.lit (.int .i64 x1)))), (HK, .hp (hpA w0)), (OB + 0, .free)]) (fun (_ : Unit) => m_role_Revoke_j1 p0 x1 = some r) ?_ ?_
 ·
  refine c_block ?_
  refine c_cutH (fun (y8 : Bool) => [(0, .t (.d (.seq 2 (List.map cS_api_Member p0)))), (1, .t (.d (.lit (.string ⟨⟨p1⟩⟩)))), (2, .t (.d (.lit (.string ⟨⟨p2⟩⟩)))), (8, .t (.d (.lit (.int .i64 x1)))), (12, .t (.d (.lit (.bool y8)))), (HK, .hp (hpA w0)), (OB + 0, .free)]) (fun (y8 : Bool) => m_role_Revoke_j2 p1 p2 p0 x1 y8 = some r) ?_ ?_
  ·
   refine c_region ?_
   refine o_s (.t (.d (.seq 2 (List.map cS_api_Member p0)))) (g0 rfl) rfl rfl rfl ?_
   obtain ⟨x29, h30, h⟩ := bind_some h
   refine o_ca (fc_role_Right _ _ h30) (g0 rfl) rfl rfl rfl rfl rfl rfl rfl (.cons (.refl _) .nil) rfl rfl ?_
   refine o_s (.t (.d (.lit (.bool (!x29))))) (g0 rfl) rfl rfl rfl ?_
   refine o_s (.t (.d (.lit (.bool (!x29))))) (g0 rfl) rfl rfl rfl ?_
   rcases bif_some h with ⟨h31, h⟩ | ⟨h31, h⟩
   ·
    refine o_skip rfl rfl rfl h31 rfl rfl ?_
    refine o_skip rfl rfl rfl h31 rfl rfl ?_
    refine o_skip rfl rfl rfl h31 rfl rfl ?_
    refine o_pk (.t (.d (.lit (.bool true)))) (b := true) h31 (g0 rfl) rfl rfl rfl rfl rfl ?_
    refine o_s (.t (.d (.lit (.bool true)))) (g0 rfl) rfl rfl rfl ?_
    refine o_nil ?_
    repeat (first | refine k1 ?_ | refine k4 ?_)
    exact ⟨true, [], h, rfl, ⟨.inr ⟨_, rfl, pure_hpA _⟩, by (repeat (first | exact ObP.nil | refine ObP.cons (.inl rfl) ?_ | refine ObP.cons (.inr (fun _ => rfl)) ?_ | refine ObP.cons (.inr (ob_box (fl_noPt _ _))) ?_ | refine ObP.cons (.inr (ob_gb _ _)) ?_))⟩, ⟨(.refl _), ⟨(.refl _), ⟨(.refl _), ⟨(.refl _), ⟨(.refl _), ⟨(.refl _), ⟨(.refl _), trivial⟩⟩⟩⟩⟩⟩⟩, rfl⟩
   ·
    refine o_s (.t (.d (.lit (.string ⟨⟨p2⟩⟩)))) (gy rfl rfl rfl h31) rfl rfl rfl ?_
    obtain ⟨x32, h33, h⟩ := bind_some h
    refine o_ca (fc_tree_Name _ _ h33) (gy rfl rfl rfl h31) rfl rfl rfl rfl rfl rfl rfl (.cons (.refl _) .nil) rfl rfl ?_
    refine o_s (.t (.d (.lit (.bool (!x32))))) (gy rfl rfl rfl h31) rfl rfl rfl ?_
    refine o_pk (.t (.d (.lit (.bool (!x32))))) (b := false) h31 (g0 rfl) rfl rfl rfl rfl rfl ?_
    refine o_s (.t (.d (.lit (.bool (!x32))))) (g0 rfl) rfl rfl rfl ?_
    refine o_nil ?_
    repeat (first | refine k1 ?_ | refine k4 ?_)
    exact ⟨(!x32), [], h, rfl, ⟨.inr ⟨_, rfl, pure_hpA _⟩, by (repeat (first | exact ObP.nil | refine ObP.cons (.inl rfl) ?_ | refine ObP.cons (.inr (fun _ => rfl)) ?_ | refine ObP.cons (.inr (ob_box (fl_noPt _ _))) ?_ | refine ObP.cons (.inr (ob_gb _ _)) ?_))⟩, ⟨(.refl _), ⟨(.refl _), ⟨(.refl _), ⟨(.refl _), ⟨(.refl _), ⟨(.refl _), ⟨(.refl _), trivial⟩⟩⟩⟩⟩⟩⟩, rfl⟩
  ·
   rintro y8 h
   rcases bif_some h with ⟨h9, h⟩ | ⟨h9, h⟩
   ·
    refine c_t h9 rfl ?_
    refine c_sr ?_
    refine o_s (.t (.d (.lit (.slice none 0 0)))) (g0 rfl) rfl rfl rfl ?_
    refine o_s (.t (.d (.lit (.int .i64 2)))) (g0 rfl) rfl rfl rfl ?_
    refine o_nil ?_
    repeat (first | refine k1 ?_ | refine k4 ?_)
    refine c_ret ?_
    repeat (first | refine k3 ?_ | refine k5 ?_)
    obtain rfl := Option.some.inj h
    exact ⟨⟨_, rfl, (.tup (.cons (.d (.nil _)) (.cons (.refl _) .nil)))⟩, trivial, rfl⟩
   ·
    refine c_f h9 rfl ?_
    refine c_cutH (fun (y10 : Bool) => [(0, .t (.d (.seq 2 (List.map cS_api_Member p0)))), (1, .t (.d (.lit (.string ⟨⟨p1⟩⟩)))), (2, .t (.d (.lit (.string ⟨⟨p2⟩⟩)))), (8, .t (.d (.lit (.int .i64 x1)))), (21, .t (.d (.lit (.bool y10)))), (HK, .hp (hpA w0)), (OB + 0, .free)]) (fun (y10 : Bool) => m_role_Revoke_j3 x1 p1 p2 p0 y10 = some r) ?_ ?_
    ·
     refine c_region ?_
     refine o_s (.t (.d (.lit (.string ⟨⟨p1⟩⟩)))) (g0 rfl) rfl rfl rfl ?_
     refine o_s (.t (.d (.lit (.string ⟨⟨p2⟩⟩)))) (g0 rfl) rfl rfl rfl ?_
     refine o_c (g0 rfl) rfl rfl rfl (congrArg (fun z => A.t (.d (.lit (.bool (!z))))) (str_beqL _ _)) trivial ?_
     refine o_s (.t (.d (.lit (.bool (!(p1 == p2)))))) (g0 rfl) rfl rfl rfl ?_
     rcases bif_some h with ⟨h26, h⟩ | ⟨h26, h⟩
     ·
      refine o_s (.t (.d (.seq 2 (List.map cS_api_Member p0)))) (gy rfl rfl rfl h26) rfl rfl rfl ?_
      refine o_s (.t (.d (.lit (.string ⟨⟨p1⟩⟩)))) (gy rfl rfl rfl h26) rfl rfl rfl ?_
      obtain ⟨x27, h28, h⟩ := bind_some h
      refine o_ca (fc_role_Of _ _ _ h28) (gy rfl rfl rfl h26) rfl rfl rfl rfl rfl rfl rfl (.cons (.refl _) (.cons (.refl _) .nil)) rfl rfl ?_
      refine o_s (.t (.d (.lit (.bool (decide (x27 < 3)))))) (gy rfl rfl rfl h26) rfl rfl rfl ?_
      refine o_pk (.t (.d (.lit (.bool (decide (x27 < 3)))))) (b := true) h26 (g0 rfl) rfl rfl rfl rfl rfl ?_
      refine o_s (.t (.d (.lit (.bool (decide (x27 < 3)))))) (g0 rfl) rfl rfl rfl ?_
      refine o_nil ?_
      repeat (first | refine k1 ?_ | refine k4 ?_)
      exact ⟨(decide (x27 < 3)), [], h, rfl, ⟨.inr ⟨_, rfl, pure_hpA _⟩, by (repeat (first | exact ObP.nil | refine ObP.cons (.inl rfl) ?_ | refine ObP.cons (.inr (fun _ => rfl)) ?_ | refine ObP.cons (.inr (ob_box (fl_noPt _ _))) ?_ | refine ObP.cons (.inr (ob_gb _ _)) ?_))⟩, ⟨(.refl _), ⟨(.refl _), ⟨(.refl _), ⟨(.refl _), ⟨(.refl _), ⟨(.refl _), ⟨(.refl _), trivial⟩⟩⟩⟩⟩⟩⟩, rfl⟩
     ·
      refine o_skip rfl rfl rfl h26 rfl rfl ?_
      refine o_skip rfl rfl rfl h26 rfl rfl ?_
      refine o_skip rfl rfl rfl h26 rfl rfl ?_
      refine o_skip rfl rfl rfl h26 rfl rfl ?_
      refine o_pk (.t (.d (.lit (.bool false)))) (b := false) h26 (g0 rfl) rfl rfl rfl rfl rfl ?_
      refine o_s (.t (.d (.lit (.bool false)))) (g0 rfl) rfl rfl rfl ?_
      refine o_nil ?_
      repeat (first | refine k1 ?_ | refine k4 ?_)
      exact ⟨false, [], h, rfl, ⟨.inr ⟨_, rfl, pure_hpA _⟩, by (repeat (first | exact ObP.nil | refine ObP.cons (.inl rfl) ?_ | refine ObP.cons (.inr (fun _ => rfl)) ?_ | refine ObP.cons (.inr (ob_box (fl_noPt _ _))) ?_ | refine ObP.cons (.inr (ob_gb _ _)) ?_))⟩, ⟨(.refl _), ⟨(.refl _), ⟨(.refl _), ⟨(.refl _), ⟨(.refl _), ⟨(.refl _), ⟨(.refl _), trivial⟩⟩⟩⟩⟩⟩⟩, rfl⟩
    ·
     rintro y10 h
     rcases bif_some h with ⟨h11, h⟩ | ⟨h11, h⟩
     ·
      refine c_t h11 rfl ?_
      refine c_sr ?_
      refine o_s (.t (.d (.lit (.slice none 0 0)))) (g0 rfl) rfl rfl rfl ?_
      refine o_s (.t (.d (.lit (.int .i64 40)))) (g0 rfl) rfl rfl rfl ?_
      refine o_nil ?_
      repeat (first | refine k1 ?_ | refine k4 ?_)
      refine c_ret ?_
      repeat (first | refine k3 ?_ | refine k5 ?_)
      obtain rfl := Option.some.inj h
      exact ⟨⟨_, rfl, (.tup (.cons (.d (.nil _)) (.cons (.refl _) .nil)))⟩, trivial, rfl⟩
     ·
      refine c_f h11 rfl ?_
      refine c_sr ?_
      refine o_s (.t (.d (.lit (.int .i64 x1)))) (g0 rfl) rfl rfl rfl ?_
      refine o_s (.t (.d (.lit (.bool (decide (x1 < 0)))))) (g0 rfl) rfl rfl rfl ?_
      refine o_s (.t (.d (.lit (.bool (decide (x1 < 0)))))) (g0 rfl) rfl rfl rfl ?_
      refine o_nil ?_
      repeat (first | refine k1 ?_ | refine k4 ?_)
      rcases bif_some h with ⟨h12, h⟩ | ⟨h12, h⟩
      ·
       refine c_t h12 rfl ?_
       refine c_sr ?_
       refine o_s (.t (.d (.lit (.slice none 0 0)))) (g0 rfl) rfl rfl rfl ?_
       refine o_s (.t (.d (.lit (.int .i64 35)))) (g0 rfl) rfl rfl rfl ?_
       refine o_nil ?_
       repeat (first | refine k1 ?_ | refine k4 ?_)
       refine c_ret ?_
       repeat (first | refine k3 ?_ | refine k5 ?_)
       obtain rfl := Option.some.inj h
       exact ⟨⟨_, rfl, (.tup (.cons (.d (.nil _)) (.cons (.refl _) .nil)))⟩, trivial, rfl⟩
      ·
       refine c_f h12 rfl ?_
       refine c_cutH (fun (y13 : Bool) => [(0, .t (.d (.seq 2 (List.map cS_api_Member p0)))), (8, .t (.d (.lit (.int .i64 x1)))), (34, .t (.d (.lit (.bool y13)))), (HK, .hp (hpA w0)), (OB + 0, .free)]) (fun (y13 : Bool) => m_role_Revoke_j4 p0 x1 y13 = some r) ?_ ?_
       ·
        refine c_region ?_
        refine o_s (.t (.d (.lit (.string ⟨⟨p1⟩⟩)))) (g0 rfl) rfl rfl rfl ?_
        refine o_s (.t (.d (.lit (.string ⟨⟨p2⟩⟩)))) (g0 rfl) rfl rfl rfl ?_
        refine o_c (g0 rfl) rfl rfl rfl (congrArg (fun z => A.t (.d (.lit (.bool (!z))))) (str_beqL _ _)) trivial ?_
        refine o_s (.t (.d (.lit (.bool (!(p1 == p2)))))) (g0 rfl) rfl rfl rfl ?_
        rcases bif_some h with ⟨h21, h⟩ | ⟨h21, h⟩
        ·
         refine o_s (.t (.d (.seq 2 (List.map cS_api_Member p0)))) (gy rfl rfl rfl h21) rfl rfl rfl ?_
         refine o_s (.t (.d (.lit (.string ⟨⟨p1⟩⟩)))) (gy rfl rfl rfl h21) rfl rfl rfl ?_
         refine o_s (.t (.d (.seq 2 (List.map cS_api_Member p0)))) (gy rfl rfl rfl h21) rfl rfl rfl ?_
         refine o_s (.t (.d (.lit (.int .i64 x1)))) (gy rfl rfl rfl h21) rfl rfl rfl ?_
         obtain ⟨x22, h23, h⟩ := bind_some h
         refine o_c (gy rfl rfl rfl h21) rfl rfl rfl (idxE h23) (idxC h23) ?_
         refine o_s (.imm [.lit (.int .i64 x22.Role)]) (gy rfl rfl rfl h21) rfl rfl rfl ?_
         refine o_s (.t (.d (.lit (.int .i64 x22.Role)))) (gy rfl rfl rfl h21) rfl rfl rfl ?_
         refine o_s (.t (.own 3 1 (List.map cI64 [x22.Role]))) (gy rfl rfl rfl h21) rfl rfl rfl ?_
         obtain ⟨x24, h25, h⟩ := bind_some h
         refine o_ca (fc_role_high _ _ _ _ h25) (gy rfl rfl rfl h21) rfl rfl rfl rfl rfl rfl rfl (.cons (.refl _) (.cons (.refl _) (.cons (.refl _) .nil))) rfl rfl ?_
         refine o_pk (.t (.d (.lit (.bool x24)))) (b := true) h21 (g0 rfl) rfl rfl rfl rfl rfl ?_
         refine o_s (.t (.d (.lit (.bool x24)))) (g0 rfl) rfl rfl rfl ?_
         refine o_nil ?_
         repeat (first | refine k1 ?_ | refine k4 ?_)
         exact ⟨x24, [], h, rfl, ⟨.inr ⟨_, rfl, pure_hpA _⟩, by (repeat (first | exact ObP.nil | refine ObP.cons (.inl rfl) ?_ | refine ObP.cons (.inr (fun _ => rfl)) ?_ | refine ObP.cons (.inr (ob_box (fl_noPt _ _))) ?_ | refine ObP.cons (.inr (ob_gb _ _)) ?_))⟩, ⟨(.refl _), ⟨(.refl _), ⟨(.refl _), ⟨(.refl _), ⟨(.refl _), trivial⟩⟩⟩⟩⟩, rfl⟩
        ·
         refine o_skip rfl rfl rfl h21 rfl rfl ?_
         refine o_skip rfl rfl rfl h21 rfl rfl ?_
         refine o_skip rfl rfl rfl h21 rfl rfl ?_
         refine o_skip rfl rfl rfl h21 rfl rfl ?_
         refine o_skip rfl rfl rfl h21 rfl rfl ?_
         refine o_skip rfl rfl rfl h21 rfl rfl ?_
         refine o_skip rfl rfl rfl h21 rfl rfl ?_
         refine o_skip rfl rfl rfl h21 rfl rfl ?_
         refine o_skip rfl rfl rfl h21 rfl rfl ?_
         refine o_pk (.t (.d (.lit (.bool false)))) (b := false) h21 (g0 rfl) rfl rfl rfl rfl rfl ?_
         refine o_s (.t (.d (.lit (.bool false)))) (g0 rfl) rfl rfl rfl ?_
         refine o_nil ?_
         repeat (first | refine k1 ?_ | refine k4 ?_)
         exact ⟨false, [], h, rfl, ⟨.inr ⟨_, rfl, pure_hpA _⟩, by (repeat (first | exact ObP.nil | refine ObP.cons (.inl rfl) ?_ | refine ObP.cons (.inr (fun _ => rfl)) ?_ | refine ObP.cons (.inr (ob_box (fl_noPt _ _))) ?_ | refine ObP.cons (.inr (ob_gb _ _)) ?_))⟩, ⟨(.refl _), ⟨(.refl _), ⟨(.refl _), ⟨(.refl _), ⟨(.refl _), trivial⟩⟩⟩⟩⟩, rfl⟩
       ·
        rintro y13 h
        rcases bif_some h with ⟨h14, h⟩ | ⟨h14, h⟩
        ·
         refine c_t h14 rfl ?_
         refine c_sr ?_
         refine o_s (.t (.d (.lit (.slice none 0 0)))) (g0 rfl) rfl rfl rfl ?_
         refine o_s (.t (.d (.lit (.int .i64 40)))) (g0 rfl) rfl rfl rfl ?_
         refine o_nil ?_
         repeat (first | refine k1 ?_ | refine k4 ?_)
         refine c_ret ?_
         repeat (first | refine k3 ?_ | refine k5 ?_)
         obtain rfl := Option.some.inj h
         exact ⟨⟨_, rfl, (.tup (.cons (.d (.nil _)) (.cons (.refl _) .nil)))⟩, trivial, rfl⟩
        ·
         refine c_f h14 rfl ?_
         refine c_sr ?_
         refine o_s (.t (.d (.seq 2 (List.map cS_api_Member p0)))) (g0 rfl) rfl rfl rfl ?_
         refine o_s (.t (.d (.lit (.int .i64 x1)))) (g0 rfl) rfl rfl rfl ?_
         obtain ⟨x15, h16, h⟩ := bind_some h
         refine o_c (g0 rfl) rfl rfl rfl (idxE h16) (idxC h16) ?_
         refine o_s (.imm [.lit (.int .i64 x15.Role)]) (g0 rfl) rfl rfl rfl ?_
         refine o_s (.t (.d (.lit (.int .i64 x15.Role)))) (g0 rfl) rfl rfl rfl ?_
         refine o_s (.t (.d (.lit (.bool (x15.Role == 4))))) (g0 rfl) rfl rfl rfl ?_
         refine o_s (.t (.d (.lit (.bool (x15.Role == 4))))) (g0 rfl) rfl rfl rfl ?_
         rcases bif_some h with ⟨h17, h⟩ | ⟨h17, h⟩
         ·
          refine o_s (.t (.d (.seq 2 (List.map cS_api_Member p0)))) (gy rfl rfl rfl h17) rfl rfl rfl ?_
          obtain ⟨x18, h19, h⟩ := bind_some h
          refine o_ca (fc_role_owners _ _ h19) (gy rfl rfl rfl h17) rfl rfl rfl rfl rfl rfl rfl (.cons (.refl _) .nil) rfl rfl ?_
          refine o_s (.t (.d (.lit (.bool (x18 == 1))))) (gy rfl rfl rfl h17) rfl rfl rfl ?_
          refine o_pk (.t (.d (.lit (.bool (x18 == 1))))) (b := true) h17 (g0 rfl) rfl rfl rfl rfl rfl ?_
          refine o_s (.t (.d (.lit (.bool (x18 == 1))))) (g0 rfl) rfl rfl rfl ?_
          refine o_nil ?_
          repeat (first | refine k1 ?_ | refine k4 ?_)
          rcases bif_some h with ⟨h20, h⟩ | ⟨h20, h⟩
          ·
           refine c_t h20 rfl ?_
           refine c_sr ?_
           refine o_s (.t (.d (.lit (.slice none 0 0)))) (g0 rfl) rfl rfl rfl ?_
           refine o_s (.t (.d (.lit (.int .i64 46)))) (g0 rfl) rfl rfl rfl ?_
           refine o_nil ?_
           repeat (first | refine k1 ?_ | refine k4 ?_)
           refine c_ret ?_
           repeat (first | refine k3 ?_ | refine k5 ?_)
           obtain rfl := Option.some.inj h
           exact ⟨⟨_, rfl, (.tup (.cons (.d (.nil _)) (.cons (.refl _) .nil)))⟩, trivial, rfl⟩
          ·
           refine c_f h20 rfl ?_
           refine c_skip ?_
           repeat (first | refine k1 ?_ | refine k4 ?_)
           exact ⟨(), [], h, rfl, ⟨.inr ⟨_, rfl, pure_hpA _⟩, by (repeat (first | exact ObP.nil | refine ObP.cons (.inl rfl) ?_ | refine ObP.cons (.inr (fun _ => rfl)) ?_ | refine ObP.cons (.inr (ob_box (fl_noPt _ _))) ?_ | refine ObP.cons (.inr (ob_gb _ _)) ?_))⟩, ⟨(.refl _), ⟨(.refl _), ⟨(.refl _), ⟨(.refl _), trivial⟩⟩⟩⟩, rfl⟩
         ·
          refine o_skip rfl rfl rfl h17 rfl rfl ?_
          refine o_skip rfl rfl rfl h17 rfl rfl ?_
          refine o_skip rfl rfl rfl h17 rfl rfl ?_
          refine o_pk (.t (.d (.lit (.bool false)))) (b := false) h17 (g0 rfl) rfl rfl rfl rfl rfl ?_
          refine o_s (.t (.d (.lit (.bool false)))) (g0 rfl) rfl rfl rfl ?_
          refine o_nil ?_
          repeat (first | refine k1 ?_ | refine k4 ?_)
          refine c_f rfl rfl ?_
          refine c_skip ?_
          repeat (first | refine k1 ?_ | refine k4 ?_)
          exact ⟨(), [], h, rfl, ⟨.inr ⟨_, rfl, pure_hpA _⟩, by (repeat (first | exact ObP.nil | refine ObP.cons (.inl rfl) ?_ | refine ObP.cons (.inr (fun _ => rfl)) ?_ | refine ObP.cons (.inr (ob_box (fl_noPt _ _))) ?_ | refine ObP.cons (.inr (ob_gb _ _)) ?_))⟩, ⟨(.refl _), ⟨(.refl _), ⟨(.refl _), ⟨(.refl _), trivial⟩⟩⟩⟩, rfl⟩
 ·
  rintro ⟨⟩ h
  refine c_sr ?_
  refine o_s (.t (.d (.seq 2 (List.map cS_api_Member p0)))) (g0 rfl) rfl rfl rfl ?_
  obtain ⟨x3, h4, h⟩ := bind_some h
  rcases bif_some h with ⟨h5, h⟩ | ⟨h5, h⟩
  ·
   exact none_ne h
  ·
   refine o_of (e := [((OB + 0), gbA cS_api_Member x3), (62, .t (.view 0 0 35 2 x3.length))]) (g0 rfl) (h_callobj (c := cS_api_Member) (Mk.refl _) rfl rfl rfl rfl rfl rfl rfl (fc_slices_Clone_Member _ _ h4) (.cons (.refl _) .nil) rfl rfl rfl (by rw [h5]; rfl) rfl (fun _ => rfl)) rfl ?_
   refine o_s (.t (.d (.lit (.int .i64 x1)))) (g0 rfl) rfl rfl rfl ?_
   refine o_s (.t (.d (.lit (.int .i64 x1)))) (g0 rfl) rfl rfl rfl ?_
   refine o_s (.t (.d (.lit (.int .i64 (wi (x1 + 1)))))) (g0 rfl) rfl rfl rfl ?_
   obtain ⟨x6, h7, h⟩ := bind_some h
   refine o_of (e := [((OB + 0), .any), (HK, .hp (hpA w0)), (66, .t (.d (.seq 2 (List.map cS_api_Member x6))))]) (g0 rfl) (h_call (Mk.refl _) rfl (σ := [0]) (fr := []) rfl rfl rfl rfl rfl rfl rfl (fch_slices_Delete_Member _ _ _ w0 _ h7) (pure_hpA _) (pure_hpA _) rfl (by simp [A.flatO, fl_noPt]) (by simp [A.flatO, fl_noPt]) (cons_eq (gb_ne (isE_ne h5)) rfl) (.cons (argVw rfl rfl rfl) (.cons (.plain (.refl _) rfl) (.cons (.plain (.refl _) rfl) .nil))) rfl (.t (.flat rfl))) rfl ?_
   refine o_s (.t (.d (.seq 2 (List.map cS_api_Member x6)))) (g0 rfl) rfl rfl rfl ?_
   refine o_s (.t (.d (.lit (.int .i64 0)))) (g0 rfl) rfl rfl rfl ?_
   refine o_nil ?_
   repeat (first | refine k1 ?_ | refine k4 ?_)
   refine c_ret ?_
   repeat (first | refine k3 ?_ | refine k5 ?_)
   obtain rfl := Option.some.inj h
   exact ⟨⟨_, rfl, (.tup (.cons (.refl _) (.cons (.refl _) .nil)))⟩, trivial, rfl⟩

theorem fc_math_bits_Len64 (p0 : Int) (r : Int) (h : m_math_bits_Len64 p0 = some r) : FC Try.prog 81 [.t (.d (.lit (.int .u64 p0)))] [] (.t (.d (.lit (.int .i64 r)))) := by
 refine fc_mk (rs := [.tmp 2]) (n := 25) Try.func81 rfl rfl (Nat.le_of_ble_eq_true rfl) rfl (pins := []) rfl (L := [(0, .t (.d (.lit (.int .u64 p0))))]) rfl ?_
 refine c_sr ?_
 refine o_s (.t (.d (.lit (.int .i64 0)))) (g0 rfl) rfl rfl rfl ?_
 refine o_nil ?_
 repeat (first | refine k1 ?_ | refine k4 ?_)
 refine c_cut (fun (q : Int × Int) => [(0, .t (.d (.lit (.int .u64 q.1)))), (2, .t (.d (.lit (.int .i64 q.2))))]) (fun (q : Int × Int) => m_math_bits_Len64_j1 q.1 q.2 = some r) ?_ ?_
 ·
  refine c_sr ?_
  refine o_s (.t (.d (.lit (.int .u64 p0)))) (g0 rfl) rfl rfl rfl ?_
  refine o_s (.t (.d (.lit (.bool (decide (p0 ≥ 4294967296)))))) (g0 rfl) rfl rfl rfl ?_
  refine o_nil ?_
  repeat (first | refine k1 ?_ | refine k4 ?_)
  rcases bif_some h with ⟨h11, h⟩ | ⟨h11, h⟩
  ·
   refine c_t h11 rfl ?_
   refine c_sr ?_
   refine o_s (.t (.d (.lit (.int .u64 p0)))) (g0 rfl) rfl rfl rfl ?_
   refine o_s (.t (.d (.lit (.int .u64 (Int.fdiv p0 (2 ^ 32)))))) (g0 rfl) rfl rfl rfl ?_
   refine o_s (.t (.d (.lit (.int .u64 (Int.fdiv p0 (2 ^ 32)))))) (g0 rfl) rfl rfl rfl ?_
   refine o_nil ?_
   repeat (first | refine k1 ?_ | refine k4 ?_)
   refine c_region ?_
   refine o_s (.t (.d (.lit (.int .i64 32)))) (g0 rfl) rfl rfl rfl ?_
   refine o_nil ?_
   repeat (first | refine k1 ?_ | refine k4 ?_)
   exact ⟨((Int.fdiv p0 (2 ^ 32)), 32), h, ⟨(.refl _), ⟨(.refl _), trivial⟩⟩, rfl⟩
  ·
   refine c_f h11 rfl ?_
   refine c_skip ?_
   repeat (first | refine k1 ?_ | refine k4 ?_)
   exact ⟨(p0, 0), h, ⟨(.refl _), ⟨(.refl _), trivial⟩⟩, rfl⟩
 ·
  rintro ⟨y1, y2⟩ h
  refine c_cut (fun (q : Int × Int) => [(0, .t (.d (.lit (.int .u64 q.1)))), (2, .t (.d (.lit (.int .i64 q.2))))]) (fun (q : Int × Int) => m_math_bits_Len64_j2 q.1 q.2 = some r) ?_ ?_
  ·
   refine c_sr ?_
   refine o_s (.t (.d (.lit (.int .u64 y1)))) (g0 rfl) rfl rfl rfl ?_
   refine o_s (.t (.d (.lit (.bool (decide (y1 ≥ 65536)))))) (g0 rfl) rfl rfl rfl ?_
   refine o_nil ?_
   repeat (first | refine k1 ?_ | refine k4 ?_)
   rcases bif_some h with ⟨h10, h⟩ | ⟨h10, h⟩
   ·
    refine c_t h10 rfl ?_
    refine c_sr ?_
    refine o_s (.t (.d (.lit (.int .u64 y1)))) (g0 rfl) rfl rfl rfl ?_
    refine o_s (.t (.d (.lit (.int .u64 (Int.fdiv y1 (2 ^ 16)))))) (g0 rfl) rfl rfl rfl ?_
    refine o_s (.t (.d (.lit (.int .u64 (Int.fdiv y1 (2 ^ 16)))))) (g0 rfl) rfl rfl rfl ?_
    refine o_nil ?_
    repeat (first | refine k1 ?_ | refine k4 ?_)
    refine c_region ?_
    refine o_s (.t (.d (.lit (.int .i64 y2)))) (g0 rfl) rfl rfl rfl ?_
    refine o_s (.t (.d (.lit (.int .i64 (wi (y2 + 16)))))) (g0 rfl) rfl rfl rfl ?_
    refine o_s (.t (.d (.lit (.int .i64 (wi (y2 + 16)))))) (g0 rfl) rfl rfl rfl ?_
    refine o_nil ?_
    repeat (first | refine k1 ?_ | refine k4 ?_)
    exact ⟨((Int.fdiv y1 (2 ^ 16)), (wi (y2 + 16))), h, ⟨(.refl _), ⟨(.refl _), trivial⟩⟩, rfl⟩
   ·
    refine c_f h10 rfl ?_
    refine c_skip ?_
    repeat (first | refine k1 ?_ | refine k4 ?_)
    exact ⟨(y1, y2), h, ⟨(.refl _), ⟨(.refl _), trivial⟩⟩, rfl⟩
  ·
   rintro ⟨y3, y4⟩ h
   refine c_cut (fun (q : Int × Int) => [(0, .t (.d (.lit (.int .u64 q.1)))), (2, .t (.d (.lit (.int .i64 q.2))))]) (fun (q : Int × Int) => m_math_bits_Len64_j3 q.1 q.2 = some r) ?_ ?_
   ·
    refine c_sr ?_
    refine o_s (.t (.d (.lit (.int .u64 y3)))) (g0 rfl) rfl rfl rfl ?_
    refine o_s (.t (.d (.lit (.bool (decide (y3 ≥ 256)))))) (g0 rfl) rfl rfl rfl ?_
    refine o_nil ?_
    repeat (first | refine k1 ?_ | refine k4 ?_)
    rcases bif_some h with ⟨h9, h⟩ | ⟨h9, h⟩
    ·
     refine c_t h9 rfl ?_
     refine c_sr ?_
     refine o_s (.t (.d (.lit (.int .u64 y3)))) (g0 rfl) rfl rfl rfl ?_
     refine o_s (.t (.d (.lit (.int .u64 (Int.fdiv y3 (2 ^ 8)))))) (g0 rfl) rfl rfl rfl ?_
     refine o_s (.t (.d (.lit (.int .u64 (Int.fdiv y3 (2 ^ 8)))))) (g0 rfl) rfl rfl rfl ?_
     refine o_nil ?_
     repeat (first | refine k1 ?_ | refine k4 ?_)
     refine c_region ?_
     refine o_s (.t (.d (.lit (.int .i64 y4)))) (g0 rfl) rfl rfl rfl ?_
     refine o_s (.t (.d (.lit (.int .i64 (wi (y4 + 8)))))) (g0 rfl) rfl rfl rfl ?_
     refine o_s (.t (.d (.lit (.int .i64 (wi (y4 + 8)))))) (g0 rfl) rfl rfl rfl ?_
     refine o_nil ?_
     repeat (first | refine k1 ?_ | refine k4 ?_)
     exact ⟨((Int.fdiv y3 (2 ^ 8)), (wi (y4 + 8))), h, ⟨(.refl _), ⟨(.refl _), trivial⟩⟩, rfl⟩
    ·
     refine c_f h9 rfl ?_
     refine c_skip ?_
     repeat (first | refine k1 ?_ | refine k4 ?_)
     exact ⟨(y3, y4), h, ⟨(.refl _), ⟨(.refl _), trivial⟩⟩, rfl⟩
   ·
    rintro ⟨y5, y6⟩ h
    refine c_sr ?_
    refine o_s (.t (.d (.lit (.int .i64 y6)))) (g0 rfl) rfl rfl rfl ?_
    refine o_s (.t (.d (.lit (.int .u64 y5)))) (g0 rfl) rfl rfl rfl ?_
    refine o_c (g0 rfl) rfl rfl rfl (congrArg (fun z => A.t (.d (.lit (.int .u8 z)))) (u8c _)) trivial ?_
    obtain ⟨x7, h8, h⟩ := bind_some h
    refine o_c (g0 rfl) rfl rfl rfl (strIdxE h8) (strIdxC h8) ?_
    refine o_c (g0 rfl) rfl rfl rfl (congrArg (fun z => A.t (.d (.lit (.int .i64 z)))) (i64_u8 _)) trivial ?_
    refine o_s (.t (.d (.lit (.int .i64 (wi (y6 + (x7.toNat : Int))))))) (g0 rfl) rfl rfl rfl ?_
    refine o_s (.t (.d (.lit (.int .i64 (wi (y6 + (x7.toNat : Int))))))) (g0 rfl) rfl rfl rfl ?_
    refine o_nil ?_
    repeat (first | refine k1 ?_ | refine k4 ?_)
    refine c_ret ?_
    repeat (first | refine k3 ?_ | refine k5 ?_)
    obtain rfl := Option.some.inj h
    exact end0 rfl (.refl _)

theorem fc_math_bits_Len (p0 : Int) (r : Int) (h : m_math_bits_Len p0 = some r) : FC Try.prog 67 [.t (.d (.lit (.int .u64 p0)))] [] (.t (.d (.lit (.int .i64 r)))) := by
 refine fc_mk (rs := [.tmp 2]) (n := 8) Try.func67 rfl rfl (Nat.le_of_ble_eq_true rfl) rfl (pins := []) rfl (L := [(0, .t (.d (.lit (.int .u64 p0))))]) rfl ?_
 refine c_sr ?_
 refine o_s (.t (.d (.lit (.int .i64 0)))) (g0 rfl) rfl rfl rfl ?_
 refine o_nil ?_
 repeat (first | refine k1 ?_ | refine k4 ?_)
 refine c_seq ?_
 refine c_fk ?_
 refine c_skip ?_
 repeat (first | refine k1 ?_ | refine k4 ?_)
 refine c_sr ?_
 refine o_s (.t (.d (.lit (.int .u64 p0)))) (g0 rfl) rfl rfl rfl ?_
 obtain ⟨x1, h2, h⟩ := bind_some h
 refine o_ca (fc_math_bits_Len64 _ _ h2) (g0 rfl) rfl rfl rfl rfl rfl rfl rfl (.cons (.refl _) .nil) rfl rfl ?_
 refine o_s (.t (.d (.lit (.int .i64 x1)))) (g0 rfl) rfl rfl rfl ?_
 refine o_nil ?_
 repeat (first | refine k1 ?_ | refine k4 ?_)
 refine c_ret ?_
 repeat (first | refine k3 ?_ | refine k5 ?_)
 obtain rfl := Option.some.inj h
 exact end0 rfl (.refl _)

theorem fc_cmp_isNaN_string (p0 : (List UInt8)) (r : Bool) (h : m_cmp_isNaN_string p0 = some r) : FC Try.prog 68 [.t (.d (.lit (.string ⟨⟨p0⟩⟩)))] [] (.t (.d (.lit (.bool r)))) := by
 refine fc_mk (rs := [.tmp 2]) (n := 6) Try.func68 rfl rfl (Nat.le_of_ble_eq_true rfl) rfl (pins := []) rfl (L := [(0, .t (.d (.lit (.string ⟨⟨p0⟩⟩))))]) rfl ?_
 refine c_sr ?_
 refine o_s (.t (.d (.lit (.bool false)))) (g0 rfl) rfl rfl rfl ?_
 refine o_nil ?_
 repeat (first | refine k1 ?_ | refine k4 ?_)
 refine c_sr ?_
 refine o_s (.t (.d (.lit (.string ⟨⟨p0⟩⟩)))) (g0 rfl) rfl rfl rfl ?_
 refine o_s (.t (.d (.lit (.string ⟨⟨p0⟩⟩)))) (g0 rfl) rfl rfl rfl ?_
 refine o_c (g0 rfl) rfl rfl rfl (congrArg (fun z => A.t (.d (.lit (.bool (!z))))) (str_beqL _ _)) trivial ?_
 refine o_s (.t (.d (.lit (.bool (!(p0 == p0)))))) (g0 rfl) rfl rfl rfl ?_
 refine o_nil ?_
 repeat (first | refine k1 ?_ | refine k4 ?_)
 refine c_ret ?_
 repeat (first | refine k3 ?_ | refine k5 ?_)
 obtain rfl := Option.some.inj h
 exact end0 rfl (.refl _)

end Go.Proofs.Ytikaahmonocahaa
