/-
  Walks of functions: each function does what its model tells. Printed by a program of this claim's own (gen.py) off the given translation.
-/
import Derived.Test.YtikaahmonocahaaQ20
import Derived.Test.YtikaahmonocahaaQ19
import Derived.Test.YtikaahmonocahaaQ16
import Derived.Test.YtikaahmonocahaaQ17
import Derived.Test.YtikaahmonocahaaQ21
import Derived.Test.YtikaahmonocahaaQ23
namespace Go.Proofs.Ytikaahmonocahaa
open Go Go.RowKit
set_option linter.unusedVariables false
set_option maxHeartbeats 4000000
set_option maxRecDepth 20000
theorem fc_R27_Of (p0 : (List S_api_Member)) (p1 : (List UInt8)) (r : Int) (h : m_R27_Of p0 p1 = some r) : FC Try.prog 20 [.t (.d (.seq 2 (List.map cS_api_Member p0))), .t (.d (.lit (.string ⟨⟨p1⟩⟩)))] [] (.t (.d (.lit (.int .i64 r)))) := by
 refine fc_mk (rs := [.tmp 4]) (n := 24) Try.func20 rfl rfl (Nat.le_of_ble_eq_true rfl) rfl (pins := []) rfl (L := [(0, .t (.d (.seq 2 (List.map cS_api_Member p0)))), (1, .t (.d (.lit (.string ⟨⟨p1⟩⟩))))]) rfl ?_
 refine c_sr ?_
 refine o_s (.t (.d (.lit (.int .i64 0)))) (g0 rfl) rfl rfl rfl ?_
 refine o_nil ?_
 repeat (first | refine k1 ?_ | refine k4 ?_)
 refine c_seq ?_
 refine c_sr ?_
 refine o_s (.t (.d (.lit (.int .i64 0)))) (g0 rfl) rfl rfl rfl ?_
 refine o_nil ?_
 repeat (first | refine k1 ?_ | refine k4 ?_)
 refine c_block ?_
 refine c_fuel (fun (z1 : Int) => [(0, .t (.d (.seq 2 (List.map cS_api_Member p0)))), (1, .t (.d (.lit (.string ⟨⟨p1⟩⟩)))), (5, .t (.d (.lit (.int .i64 z1))))]) (fun nl1 => (fun (z1 : Int) => m_R27_Of_l1 p0 p1 nl1 z1 = some r)) (p0.length + 1) 0 h ⟨(.refl _), ⟨(.refl _), ⟨(.refl _), trivial⟩⟩⟩ rfl ?_
 rintro nl1 z1 h
 cases nl1 with
 | zero => exact none_ne h
 | succ nl1 =>
  refine c_seq ?_
  refine c_sr ?_
  refine o_s (.t (.d (.lit (.int .i64 z1)))) (g0 rfl) rfl rfl rfl ?_
  refine o_s (.t (.d (.seq 2 (List.map cS_api_Member p0)))) (g0 rfl) rfl rfl rfl ?_
  refine o_c (g0 rfl) rfl rfl rfl (lenE _ _) trivial ?_
  refine o_s (.t (.d (.lit (.bool (decide (z1 < (p0.length : Int))))))) (g0 rfl) rfl rfl rfl ?_
  refine o_nil ?_
  repeat (first | refine k1 ?_ | refine k4 ?_)
  rcases bif_some h with ⟨h2, h⟩ | ⟨h2, h⟩
  ·
   refine c_t h2 rfl ?_
   refine c_skip ?_
   repeat (first | refine k1 ?_ | refine k4 ?_)
   refine c_seq ?_
   refine c_block ?_
   refine c_sr ?_
   refine o_s (.t (.d (.seq 2 (List.map cS_api_Member p0)))) (g0 rfl) rfl rfl rfl ?_
   refine o_s (.t (.d (.lit (.int .i64 z1)))) (g0 rfl) rfl rfl rfl ?_
   obtain ⟨x3, h4, h⟩ := bind_some h
   refine o_c (g0 rfl) rfl rfl rfl (idxE h4) (idxC h4) ?_
   refine o_s (.imm [.lit (.string ⟨⟨x3.Name⟩⟩), .lit (.int .i64 x3.Role)]) (g0 rfl) rfl rfl rfl ?_
   refine o_s (.t (.d (.lit (.string ⟨⟨x3.Name⟩⟩)))) (g0 rfl) rfl rfl rfl ?_
   refine o_s (.t (.d (.lit (.string ⟨⟨p1⟩⟩)))) (g0 rfl) rfl rfl rfl ?_
   refine o_c (g0 rfl) rfl rfl rfl (congrArg (fun z => A.t (.d (.lit (.bool z)))) (str_beqL _ _)) trivial ?_
   refine o_nil ?_
   repeat (first | refine k1 ?_ | refine k4 ?_)
   rcases bif_some h with ⟨h5, h⟩ | ⟨h5, h⟩
   ·
    refine c_t h5 rfl ?_
    refine c_sr ?_
    refine o_s (.t (.d (.seq 2 (List.map cS_api_Member p0)))) (g0 rfl) rfl rfl rfl ?_
    refine o_s (.t (.d (.lit (.int .i64 z1)))) (g0 rfl) rfl rfl rfl ?_
    obtain ⟨x6, h7, h⟩ := bind_some h
    refine o_c (g0 rfl) rfl rfl rfl (idxE h7) (idxC h7) ?_
    refine o_s (.imm [.lit (.int .i64 x6.Role)]) (g0 rfl) rfl rfl rfl ?_
    refine o_s (.t (.d (.lit (.int .i64 x6.Role)))) (g0 rfl) rfl rfl rfl ?_
    refine o_s (.t (.d (.lit (.int .i64 x6.Role)))) (g0 rfl) rfl rfl rfl ?_
    refine o_nil ?_
    repeat (first | refine k1 ?_ | refine k4 ?_)
    refine c_ret ?_
    repeat (first | refine k3 ?_ | refine k5 ?_)
    obtain rfl := Option.some.inj h
    exact end0 rfl (.refl _)
   ·
    refine c_f h5 rfl ?_
    refine c_skip ?_
    repeat (first | refine k1 ?_ | refine k4 ?_)
    refine c_region ?_
    refine o_s (.t (.d (.lit (.int .i64 z1)))) (g0 rfl) rfl rfl rfl ?_
    refine o_s (.t (.d (.lit (.int .i64 (wi (z1 + 1)))))) (g0 rfl) rfl rfl rfl ?_
    refine o_s (.t (.d (.lit (.int .i64 (wi (z1 + 1)))))) (g0 rfl) rfl rfl rfl ?_
    refine o_nil ?_
    repeat (first | refine k1 ?_ | refine k4 ?_)
    exact ⟨nl1, (wi (z1 + 1)), Nat.lt_succ_self nl1, h, ⟨(.refl _), ⟨(.refl _), ⟨(.refl _), trivial⟩⟩⟩, rfl⟩
  ·
   refine c_f h2 rfl ?_
   refine c_exit ?_
   repeat (first | refine k1 ?_ | refine k2 ?_ | refine k3 ?_ | refine k4 ?_ | refine k5 ?_ | refine k6 ?_ | refine k7 rfl ?_)
   refine c_sr ?_
   refine o_s (.t (.d (.lit (.int .i64 0)))) (g0 rfl) rfl rfl rfl ?_
   refine o_nil ?_
   repeat (first | refine k1 ?_ | refine k4 ?_)
   refine c_ret ?_
   repeat (first | refine k3 ?_ | refine k5 ?_)
   obtain rfl := Option.some.inj h
   exact end0 rfl (.refl _)

theorem fc_R27_Revoke (p0 : (List S_api_Member)) (p1 : (List UInt8)) (p2 : (List UInt8)) (r : Int) (h : m_R27_Revoke p0 p1 p2 = some r) : FC Try.prog 42 [.t (.d (.seq 2 (List.map cS_api_Member p0))), .t (.d (.lit (.string ⟨⟨p1⟩⟩))), .t (.d (.lit (.string ⟨⟨p2⟩⟩)))] [] (.t (.d (.lit (.int .i64 r)))) := by
 refine fc_mk (rs := [.tmp 6]) (n := 42) Try.func42 rfl rfl (Nat.le_of_ble_eq_true rfl) rfl (pins := []) rfl (L := [(0, .t (.d (.seq 2 (List.map cS_api_Member p0)))), (1, .t (.d (.lit (.string ⟨⟨p1⟩⟩)))), (2, .t (.d (.lit (.string ⟨⟨p2⟩⟩))))]) rfl ?_
 refine c_sr ?_
 refine o_s (.t (.d (.lit (.int .i64 0)))) (g0 rfl) rfl rfl rfl ?_
 refine o_nil ?_
 repeat (first | refine k1 ?_ | refine k4 ?_)
 refine c_sr ?_
 refine o_s (.t (.d (.seq 2 (List.map cS_api_Member p0)))) (g0 rfl) rfl rfl rfl ?_
 refine o_s (.t (.d (.lit (.string ⟨⟨p1⟩⟩)))) (g0 rfl) rfl rfl rfl ?_
 obtain ⟨x1, h2, h⟩ := bind_some h
 refine o_ca (fc_R27_Of _ _ _ h2) (g0 rfl) rfl rfl rfl rfl rfl rfl rfl (.cons (.refl _) (.cons (.refl _) .nil)) rfl rfl ?_
 refine o_s (.t (.d (.lit (.int .i64 x1)))) (g0 rfl) rfl rfl rfl ?_
 refine o_nil ?_
 repeat (first | refine k1 ?_ | refine k4 ?_)
 refine c_sr ?_
 refine o_s (.t (.d (.seq 2 (List.map cS_api_Member p0)))) (g0 rfl) rfl rfl rfl ?_
 refine o_s (.t (.d (.lit (.string ⟨⟨p2⟩⟩)))) (g0 rfl) rfl rfl rfl ?_
 obtain ⟨x3, h4, h⟩ := bind_some h
 refine o_ca (fc_R27_Of _ _ _ h4) (g0 rfl) rfl rfl rfl rfl rfl rfl rfl (.cons (.refl _) (.cons (.refl _) .nil)) rfl rfl ?_
 refine o_s (.t (.d (.lit (.int .i64 x3)))) (g0 rfl) rfl rfl rfl ?_
 refine o_nil ?_
 repeat (first | refine k1 ?_ | refine k4 ?_)
 refine c_cut (fun (_ : Unit) => [(0, .t (.d (.seq 2 (List.map cS_api_Member p0)))), (1, .t (.d (.lit (.string ⟨⟨p1⟩⟩)))), (2, .t (.d (.lit (.string ⟨⟨p2⟩⟩)))), (7, .t (.d (.lit (.int .i64 x1)))), (8, .t (.d (.lit (.int .i64 x3))))]) (fun (_ : Unit) => m_R27_Revoke_j1 x3 p1 p2 x1 p0 = some r) ?_ ?_
 ·
  refine c_sr ?_
  refine o_s (.t (.d (.lit (.string ⟨⟨p1⟩⟩)))) (g0 rfl) rfl rfl rfl ?_
  refine o_s (.t (.d (.lit (.string ⟨⟨p2⟩⟩)))) (g0 rfl) rfl rfl rfl ?_
  refine o_c (g0 rfl) rfl rfl rfl (congrArg (fun z => A.t (.d (.lit (.bool (!z))))) (str_beqL _ _)) trivial ?_
  refine o_s (.t (.d (.lit (.bool (!(p1 == p2)))))) (g0 rfl) rfl rfl rfl ?_
  rcases bif_some h with ⟨h13, h⟩ | ⟨h13, h⟩
  ·
   refine o_s (.t (.d (.lit (.int .i64 x1)))) (gy rfl rfl rfl h13) rfl rfl rfl ?_
   refine o_s (.t (.d (.lit (.bool (decide (x1 < 3)))))) (gy rfl rfl rfl h13) rfl rfl rfl ?_
   refine o_pk (.t (.d (.lit (.bool (decide (x1 < 3)))))) (b := true) h13 (g0 rfl) rfl rfl rfl rfl rfl ?_
   refine o_nil ?_
   repeat (first | refine k1 ?_ | refine k4 ?_)
   rcases bif_some h with ⟨h14, h⟩ | ⟨h14, h⟩
   ·
    refine c_t h14 rfl ?_
    refine c_sr ?_
    refine o_s (.t (.d (.lit (.int .i64 40)))) (g0 rfl) rfl rfl rfl ?_
    refine o_nil ?_
    repeat (first | refine k1 ?_ | refine k4 ?_)
    refine c_ret ?_
    repeat (first | refine k3 ?_ | refine k5 ?_)
    obtain rfl := Option.some.inj h
    exact end0 rfl (.refl _)
   ·
    refine c_f h14 rfl ?_
    refine c_skip ?_
    repeat (first | refine k1 ?_ | refine k4 ?_)
    exact ⟨(), h, ⟨(.refl _), ⟨(.refl _), ⟨(.refl _), ⟨(.refl _), ⟨(.refl _), trivial⟩⟩⟩⟩⟩, rfl⟩
  ·
   refine o_skip rfl rfl rfl h13 rfl rfl ?_
   refine o_skip rfl rfl rfl h13 rfl rfl ?_
   refine o_pk (.t (.d (.lit (.bool false)))) (b := false) h13 (g0 rfl) rfl rfl rfl rfl rfl ?_
   refine o_nil ?_
   repeat (first | refine k1 ?_ | refine k4 ?_)
   refine c_f rfl rfl ?_
   refine c_skip ?_
   repeat (first | refine k1 ?_ | refine k4 ?_)
   exact ⟨(), h, ⟨(.refl _), ⟨(.refl _), ⟨(.refl _), ⟨(.refl _), ⟨(.refl _), trivial⟩⟩⟩⟩⟩, rfl⟩
 ·
  rintro ⟨⟩ h
  refine c_seq ?_
  refine c_sr ?_
  refine o_s (.t (.d (.lit (.int .i64 x3)))) (g0 rfl) rfl rfl rfl ?_
  refine o_s (.t (.d (.lit (.bool (x3 == 0))))) (g0 rfl) rfl rfl rfl ?_
  refine o_nil ?_
  repeat (first | refine k1 ?_ | refine k4 ?_)
  rcases bif_some h with ⟨h5, h⟩ | ⟨h5, h⟩
  ·
   refine c_t h5 rfl ?_
   refine c_sr ?_
   refine o_s (.t (.d (.lit (.int .i64 35)))) (g0 rfl) rfl rfl rfl ?_
   refine o_nil ?_
   repeat (first | refine k1 ?_ | refine k4 ?_)
   refine c_ret ?_
   repeat (first | refine k3 ?_ | refine k5 ?_)
   obtain rfl := Option.some.inj h
   exact end0 rfl (.refl _)
  ·
   refine c_f h5 rfl ?_
   refine c_skip ?_
   repeat (first | refine k1 ?_ | refine k4 ?_)
   refine c_cut (fun (_ : Unit) => [(0, .t (.d (.seq 2 (List.map cS_api_Member p0)))), (8, .t (.d (.lit (.int .i64 x3))))]) (fun (_ : Unit) => m_R27_Revoke_j2 x3 p0 = some r) ?_ ?_
   ·
    refine c_sr ?_
    refine o_s (.t (.d (.lit (.string ⟨⟨p1⟩⟩)))) (g0 rfl) rfl rfl rfl ?_
    refine o_s (.t (.d (.lit (.string ⟨⟨p2⟩⟩)))) (g0 rfl) rfl rfl rfl ?_
    refine o_c (g0 rfl) rfl rfl rfl (congrArg (fun z => A.t (.d (.lit (.bool (!z))))) (str_beqL _ _)) trivial ?_
    refine o_s (.t (.d (.lit (.bool (!(p1 == p2)))))) (g0 rfl) rfl rfl rfl ?_
    rcases bif_some h with ⟨h10, h⟩ | ⟨h10, h⟩
    ·
     refine o_s (.t (.d (.lit (.int .i64 x3)))) (gy rfl rfl rfl h10) rfl rfl rfl ?_
     refine o_s (.t (.d (.lit (.bool (decide (x3 > 2)))))) (gy rfl rfl rfl h10) rfl rfl rfl ?_
     refine o_pk (.t (.d (.lit (.bool (decide (x3 > 2)))))) (b := true) h10 (g0 rfl) rfl rfl rfl rfl rfl ?_
     refine o_s (.t (.d (.lit (.bool (decide (x3 > 2)))))) (g0 rfl) rfl rfl rfl ?_
     rcases bif_some h with ⟨h11, h⟩ | ⟨h11, h⟩
     ·
      refine o_s (.t (.d (.lit (.int .i64 x1)))) (gy rfl rfl rfl h11) rfl rfl rfl ?_
      refine o_s (.t (.d (.lit (.bool (decide (x1 < 4)))))) (gy rfl rfl rfl h11) rfl rfl rfl ?_
      refine o_pk (.t (.d (.lit (.bool (decide (x1 < 4)))))) (b := true) h11 (g0 rfl) rfl rfl rfl rfl rfl ?_
      refine o_nil ?_
      repeat (first | refine k1 ?_ | refine k4 ?_)
      rcases bif_some h with ⟨h12, h⟩ | ⟨h12, h⟩
      ·
       refine c_t h12 rfl ?_
       refine c_sr ?_
       refine o_s (.t (.d (.lit (.int .i64 40)))) (g0 rfl) rfl rfl rfl ?_
       refine o_nil ?_
       repeat (first | refine k1 ?_ | refine k4 ?_)
       refine c_ret ?_
       repeat (first | refine k3 ?_ | refine k5 ?_)
       obtain rfl := Option.some.inj h
       exact end0 rfl (.refl _)
      ·
       refine c_f h12 rfl ?_
       refine c_skip ?_
       repeat (first | refine k1 ?_ | refine k4 ?_)
       exact ⟨(), h, ⟨(.refl _), ⟨(.refl _), trivial⟩⟩, rfl⟩
     ·
      refine o_skip rfl rfl rfl h11 rfl rfl ?_
      refine o_skip rfl rfl rfl h11 rfl rfl ?_
      refine o_pk (.t (.d (.lit (.bool false)))) (b := false) h11 (g0 rfl) rfl rfl rfl rfl rfl ?_
      refine o_nil ?_
      repeat (first | refine k1 ?_ | refine k4 ?_)
      refine c_f rfl rfl ?_
      refine c_skip ?_
      repeat (first | refine k1 ?_ | refine k4 ?_)
      exact ⟨(), h, ⟨(.refl _), ⟨(.refl _), trivial⟩⟩, rfl⟩
    ·
     refine o_skip rfl rfl rfl h10 rfl rfl ?_
     refine o_skip rfl rfl rfl h10 rfl rfl ?_
     refine o_pk (.t (.d (.lit (.bool false)))) (b := false) h10 (g0 rfl) rfl rfl rfl rfl rfl ?_
     refine o_s (.t (.d (.lit (.bool false)))) (g0 rfl) rfl rfl rfl ?_
     refine o_skip rfl rfl rfl rfl rfl rfl ?_
     refine o_skip rfl rfl rfl rfl rfl rfl ?_
     refine o_pk (.t (.d (.lit (.bool false)))) (b := false) rfl (g0 rfl) rfl rfl rfl rfl rfl ?_
     refine o_nil ?_
     repeat (first | refine k1 ?_ | refine k4 ?_)
     refine c_f rfl rfl ?_
     refine c_skip ?_
     repeat (first | refine k1 ?_ | refine k4 ?_)
     exact ⟨(), h, ⟨(.refl _), ⟨(.refl _), trivial⟩⟩, rfl⟩
   ·
    rintro ⟨⟩ h
    refine c_seq ?_
    refine c_sr ?_
    refine o_s (.t (.d (.lit (.int .i64 x3)))) (g0 rfl) rfl rfl rfl ?_
    refine o_s (.t (.d (.lit (.bool (x3 == 4))))) (g0 rfl) rfl rfl rfl ?_
    refine o_s (.t (.d (.lit (.bool (x3 == 4))))) (g0 rfl) rfl rfl rfl ?_
    rcases bif_some h with ⟨h6, h⟩ | ⟨h6, h⟩
    ·
     refine o_s (.t (.d (.seq 2 (List.map cS_api_Member p0)))) (gy rfl rfl rfl h6) rfl rfl rfl ?_
     obtain ⟨x7, h8, h⟩ := bind_some h
     refine o_ca (fc_R27_Owners _ _ h8) (gy rfl rfl rfl h6) rfl rfl rfl rfl rfl rfl rfl (.cons (.refl _) .nil) rfl rfl ?_
     refine o_s (.t (.d (.lit (.bool (x7 == 1))))) (gy rfl rfl rfl h6) rfl rfl rfl ?_
     refine o_pk (.t (.d (.lit (.bool (x7 == 1))))) (b := true) h6 (g0 rfl) rfl rfl rfl rfl rfl ?_
     refine o_nil ?_
     repeat (first | refine k1 ?_ | refine k4 ?_)
     rcases bif_some h with ⟨h9, h⟩ | ⟨h9, h⟩
     ·
      refine c_t h9 rfl ?_
      refine c_sr ?_
      refine o_s (.t (.d (.lit (.int .i64 46)))) (g0 rfl) rfl rfl rfl ?_
      refine o_nil ?_
      repeat (first | refine k1 ?_ | refine k4 ?_)
      refine c_ret ?_
      repeat (first | refine k3 ?_ | refine k5 ?_)
      obtain rfl := Option.some.inj h
      exact end0 rfl (.refl _)
     ·
      refine c_f h9 rfl ?_
      refine c_skip ?_
      repeat (first | refine k1 ?_ | refine k4 ?_)
      refine c_sr ?_
      refine o_s (.t (.d (.lit (.int .i64 0)))) (g0 rfl) rfl rfl rfl ?_
      refine o_nil ?_
      repeat (first | refine k1 ?_ | refine k4 ?_)
      refine c_ret ?_
      repeat (first | refine k3 ?_ | refine k5 ?_)
      obtain rfl := Option.some.inj h
      exact end0 rfl (.refl _)
    ·
     refine o_skip rfl rfl rfl h6 rfl rfl ?_
     refine o_skip rfl rfl rfl h6 rfl rfl ?_
     refine o_skip rfl rfl rfl h6 rfl rfl ?_
     refine o_pk (.t (.d (.lit (.bool false)))) (b := false) h6 (g0 rfl) rfl rfl rfl rfl rfl ?_
     refine o_nil ?_
     repeat (first | refine k1 ?_ | refine k4 ?_)
     refine c_f rfl rfl ?_
     refine c_skip ?_
     repeat (first | refine k1 ?_ | refine k4 ?_)
     refine c_sr ?_
     refine o_s (.t (.d (.lit (.int .i64 0)))) (g0 rfl) rfl rfl rfl ?_
     refine o_nil ?_
     repeat (first | refine k1 ?_ | refine k4 ?_)
     refine c_ret ?_
     repeat (first | refine k3 ?_ | refine k5 ?_)
     obtain rfl := Option.some.inj h
     exact end0 rfl (.refl _)

theorem fc_R27_Share (p0 : (List S_api_Member)) (p1 : (List UInt8)) (p2 : (List UInt8)) (p3 : Int) (r : Int) (h : m_R27_Share p0 p1 p2 p3 = some r) : FC Try.prog 43 [.t (.d (.seq 2 (List.map cS_api_Member p0))), .t (.d (.lit (.string ⟨⟨p1⟩⟩))), .t (.d (.lit (.string ⟨⟨p2⟩⟩))), .t (.d (.lit (.int .i64 p3)))] [] (.t (.d (.lit (.int .i64 r)))) := by
 refine fc_mk (rs := [.tmp 8]) (n := 28) Try.func43 rfl rfl (Nat.le_of_ble_eq_true rfl) rfl (pins := []) rfl (L := [(0, .t (.d (.seq 2 (List.map cS_api_Member p0)))), (1, .t (.d (.lit (.string ⟨⟨p1⟩⟩)))), (2, .t (.d (.lit (.string ⟨⟨p2⟩⟩)))), (3, .t (.d (.lit (.int .i64 p3))))]) rfl ?_
 refine c_sr ?_
 refine o_s (.t (.d (.lit (.int .i64 0)))) (g0 rfl) rfl rfl rfl ?_
 refine o_nil ?_
 repeat (first | refine k1 ?_ | refine k4 ?_)
 refine c_sr ?_
 refine o_s (.t (.d (.seq 2 (List.map cS_api_Member p0)))) (g0 rfl) rfl rfl rfl ?_
 refine o_s (.t (.d (.lit (.string ⟨⟨p1⟩⟩)))) (g0 rfl) rfl rfl rfl ?_
 obtain ⟨x1, h2, h⟩ := bind_some h
 refine o_ca (fc_R27_Of _ _ _ h2) (g0 rfl) rfl rfl rfl rfl rfl rfl rfl (.cons (.refl _) (.cons (.refl _) .nil)) rfl rfl ?_
 refine o_s (.t (.d (.lit (.int .i64 x1)))) (g0 rfl) rfl rfl rfl ?_
 refine o_nil ?_
 repeat (first | refine k1 ?_ | refine k4 ?_)
 refine c_seq ?_
 refine c_sr ?_
 refine o_s (.t (.d (.lit (.int .i64 x1)))) (g0 rfl) rfl rfl rfl ?_
 refine o_s (.t (.d (.lit (.bool (decide (x1 < 3)))))) (g0 rfl) rfl rfl rfl ?_
 refine o_nil ?_
 repeat (first | refine k1 ?_ | refine k4 ?_)
 rcases bif_some h with ⟨h3, h⟩ | ⟨h3, h⟩
 ·
  refine c_t h3 rfl ?_
  refine c_sr ?_
  refine o_s (.t (.d (.lit (.int .i64 40)))) (g0 rfl) rfl rfl rfl ?_
  refine o_nil ?_
  repeat (first | refine k1 ?_ | refine k4 ?_)
  refine c_ret ?_
  repeat (first | refine k3 ?_ | refine k5 ?_)
  obtain rfl := Option.some.inj h
  exact end0 rfl (.refl _)
 ·
  refine c_f h3 rfl ?_
  refine c_skip ?_
  repeat (first | refine k1 ?_ | refine k4 ?_)
  refine c_seq ?_
  refine c_sr ?_
  refine o_s (.t (.d (.seq 2 (List.map cS_api_Member p0)))) (g0 rfl) rfl rfl rfl ?_
  refine o_s (.t (.d (.lit (.string ⟨⟨p2⟩⟩)))) (g0 rfl) rfl rfl rfl ?_
  obtain ⟨x4, h5, h⟩ := bind_some h
  refine o_ca (fc_R27_Of _ _ _ h5) (g0 rfl) rfl rfl rfl rfl rfl rfl rfl (.cons (.refl _) (.cons (.refl _) .nil)) rfl rfl ?_
  refine o_s (.t (.d (.lit (.bool (decide (x4 > 0)))))) (g0 rfl) rfl rfl rfl ?_
  refine o_nil ?_
  repeat (first | refine k1 ?_ | refine k4 ?_)
  rcases bif_some h with ⟨h6, h⟩ | ⟨h6, h⟩
  ·
   refine c_t h6 rfl ?_
   refine c_sr ?_
   refine o_s (.t (.d (.lit (.int .i64 42)))) (g0 rfl) rfl rfl rfl ?_
   refine o_nil ?_
   repeat (first | refine k1 ?_ | refine k4 ?_)
   refine c_ret ?_
   repeat (first | refine k3 ?_ | refine k5 ?_)
   obtain rfl := Option.some.inj h
   exact end0 rfl (.refl _)
  ·
   refine c_f h6 rfl ?_
   refine c_skip ?_
   repeat (first | refine k1 ?_ | refine k4 ?_)
   refine c_cut (fun (_ : Unit) => [(0, .t (.d (.seq 2 (List.map cS_api_Member p0))))]) (fun (_ : Unit) => m_R27_Share_j1 p0 = some r) ?_ ?_
   ·
    refine c_sr ?_
    refine o_s (.t (.d (.lit (.int .i64 p3)))) (g0 rfl) rfl rfl rfl ?_
    refine o_s (.t (.d (.lit (.bool (decide (p3 > 2)))))) (g0 rfl) rfl rfl rfl ?_
    refine o_s (.t (.d (.lit (.bool (decide (p3 > 2)))))) (g0 rfl) rfl rfl rfl ?_
    rcases bif_some h with ⟨h8, h⟩ | ⟨h8, h⟩
    ·
     refine o_s (.t (.d (.lit (.int .i64 x1)))) (gy rfl rfl rfl h8) rfl rfl rfl ?_
     refine o_s (.t (.d (.lit (.bool (decide (x1 < 4)))))) (gy rfl rfl rfl h8) rfl rfl rfl ?_
     refine o_pk (.t (.d (.lit (.bool (decide (x1 < 4)))))) (b := true) h8 (g0 rfl) rfl rfl rfl rfl rfl ?_
     refine o_nil ?_
     repeat (first | refine k1 ?_ | refine k4 ?_)
     rcases bif_some h with ⟨h9, h⟩ | ⟨h9, h⟩
     ·
      refine c_t h9 rfl ?_
      refine c_sr ?_
      refine o_s (.t (.d (.lit (.int .i64 40)))) (g0 rfl) rfl rfl rfl ?_
      refine o_nil ?_
      repeat (first | refine k1 ?_ | refine k4 ?_)
      refine c_ret ?_
      repeat (first | refine k3 ?_ | refine k5 ?_)
      obtain rfl := Option.some.inj h
      exact end0 rfl (.refl _)
     ·
      refine c_f h9 rfl ?_
      refine c_skip ?_
      repeat (first | refine k1 ?_ | refine k4 ?_)
      exact ⟨(), h, ⟨(.refl _), trivial⟩, rfl⟩
    ·
     refine o_skip rfl rfl rfl h8 rfl rfl ?_
     refine o_skip rfl rfl rfl h8 rfl rfl ?_
     refine o_pk (.t (.d (.lit (.bool false)))) (b := false) h8 (g0 rfl) rfl rfl rfl rfl rfl ?_
     refine o_nil ?_
     repeat (first | refine k1 ?_ | refine k4 ?_)
     refine c_f rfl rfl ?_
     refine c_skip ?_
     repeat (first | refine k1 ?_ | refine k4 ?_)
     exact ⟨(), h, ⟨(.refl _), trivial⟩, rfl⟩
   ·
    rintro ⟨⟩ h
    refine c_seq ?_
    refine c_sr ?_
    refine o_s (.t (.d (.seq 2 (List.map cS_api_Member p0)))) (g0 rfl) rfl rfl rfl ?_
    refine o_c (g0 rfl) rfl rfl rfl (lenE _ _) trivial ?_
    refine o_s (.t (.d (.lit (.bool ((p0.length : Int) == 8))))) (g0 rfl) rfl rfl rfl ?_
    refine o_nil ?_
    repeat (first | refine k1 ?_ | refine k4 ?_)
    rcases bif_some h with ⟨h7, h⟩ | ⟨h7, h⟩
    ·
     refine c_t h7 rfl ?_
     refine c_sr ?_
     refine o_s (.t (.d (.lit (.int .i64 3)))) (g0 rfl) rfl rfl rfl ?_
     refine o_nil ?_
     repeat (first | refine k1 ?_ | refine k4 ?_)
     refine c_ret ?_
     repeat (first | refine k3 ?_ | refine k5 ?_)
     obtain rfl := Option.some.inj h
     exact end0 rfl (.refl _)
    ·
     refine c_f h7 rfl ?_
     refine c_skip ?_
     repeat (first | refine k1 ?_ | refine k4 ?_)
     refine c_sr ?_
     refine o_s (.t (.d (.lit (.int .i64 0)))) (g0 rfl) rfl rfl rfl ?_
     refine o_nil ?_
     repeat (first | refine k1 ?_ | refine k4 ?_)
     refine c_ret ?_
     repeat (first | refine k3 ?_ | refine k5 ?_)
     obtain rfl := Option.some.inj h
     exact end0 rfl (.refl _)

theorem fc_R27_Change (p0 : (List S_api_Member)) (p1 : (List UInt8)) (p2 : (List UInt8)) (p3 : Int) (r : Int) (h : m_R27_Change p0 p1 p2 p3 = some r) : FC Try.prog 44 [.t (.d (.seq 2 (List.map cS_api_Member p0))), .t (.d (.lit (.string ⟨⟨p1⟩⟩))), .t (.d (.lit (.string ⟨⟨p2⟩⟩))), .t (.d (.lit (.int .i64 p3)))] [] (.t (.d (.lit (.int .i64 r)))) := by
 refine fc_mk (rs := [.tmp 8]) (n := 42) Try.func44 rfl rfl (Nat.le_of_ble_eq_true rfl) rfl (pins := []) rfl (L := [(0, .t (.d (.seq 2 (List.map cS_api_Member p0)))), (1, .t (.d (.lit (.string ⟨⟨p1⟩⟩)))), (2, .t (.d (.lit (.string ⟨⟨p2⟩⟩)))), (3, .t (.d (.lit (.int .i64 p3))))]) rfl ?_
 refine c_sr ?_
 refine o_s (.t (.d (.lit (.int .i64 0)))) (g0 rfl) rfl rfl rfl ?_
 refine o_nil ?_
 repeat (first | refine k1 ?_ | refine k4 ?_)
 refine c_sr ?_
 refine o_s (.t (.d (.seq 2 (List.map cS_api_Member p0)))) (g0 rfl) rfl rfl rfl ?_
 refine o_s (.t (.d (.lit (.string ⟨⟨p1⟩⟩)))) (g0 rfl) rfl rfl rfl ?_
 obtain ⟨x1, h2, h⟩ := bind_some h
 refine o_ca (fc_R27_Of _ _ _ h2) (g0 rfl) rfl rfl rfl rfl rfl rfl rfl (.cons (.refl _) (.cons (.refl _) .nil)) rfl rfl ?_
 refine o_s (.t (.d (.lit (.int .i64 x1)))) (g0 rfl) rfl rfl rfl ?_
 refine o_nil ?_
 repeat (first | refine k1 ?_ | refine k4 ?_)
 refine c_sr ?_
 refine o_s (.t (.d (.seq 2 (List.map cS_api_Member p0)))) (g0 rfl) rfl rfl rfl ?_
 refine o_s (.t (.d (.lit (.string ⟨⟨p2⟩⟩)))) (g0 rfl) rfl rfl rfl ?_
 obtain ⟨x3, h4, h⟩ := bind_some h
 refine o_ca (fc_R27_Of _ _ _ h4) (g0 rfl) rfl rfl rfl rfl rfl rfl rfl (.cons (.refl _) (.cons (.refl _) .nil)) rfl rfl ?_
 refine o_s (.t (.d (.lit (.int .i64 x3)))) (g0 rfl) rfl rfl rfl ?_
 refine o_nil ?_
 repeat (first | refine k1 ?_ | refine k4 ?_)
 refine c_seq ?_
 refine c_sr ?_
 refine o_s (.t (.d (.lit (.int .i64 x1)))) (g0 rfl) rfl rfl rfl ?_
 refine o_s (.t (.d (.lit (.bool (decide (x1 < 3)))))) (g0 rfl) rfl rfl rfl ?_
 refine o_nil ?_
 repeat (first | refine k1 ?_ | refine k4 ?_)
 rcases bif_some h with ⟨h5, h⟩ | ⟨h5, h⟩
 ·
  refine c_t h5 rfl ?_
  refine c_sr ?_
  refine o_s (.t (.d (.lit (.int .i64 40)))) (g0 rfl) rfl rfl rfl ?_
  refine o_nil ?_
  repeat (first | refine k1 ?_ | refine k4 ?_)
  refine c_ret ?_
  repeat (first | refine k3 ?_ | refine k5 ?_)
  obtain rfl := Option.some.inj h
  exact end0 rfl (.refl _)
 ·
  refine c_f h5 rfl ?_
  refine c_skip ?_
  repeat (first | refine k1 ?_ | refine k4 ?_)
  refine c_seq ?_
  refine c_sr ?_
  refine o_s (.t (.d (.lit (.int .i64 x3)))) (g0 rfl) rfl rfl rfl ?_
  refine o_s (.t (.d (.lit (.bool (x3 == 0))))) (g0 rfl) rfl rfl rfl ?_
  refine o_nil ?_
  repeat (first | refine k1 ?_ | refine k4 ?_)
  rcases bif_some h with ⟨h6, h⟩ | ⟨h6, h⟩
  ·
   refine c_t h6 rfl ?_
   refine c_sr ?_
   refine o_s (.t (.d (.lit (.int .i64 35)))) (g0 rfl) rfl rfl rfl ?_
   refine o_nil ?_
   repeat (first | refine k1 ?_ | refine k4 ?_)
   refine c_ret ?_
   repeat (first | refine k3 ?_ | refine k5 ?_)
   obtain rfl := Option.some.inj h
   exact end0 rfl (.refl _)
  ·
   refine c_f h6 rfl ?_
   refine c_skip ?_
   repeat (first | refine k1 ?_ | refine k4 ?_)
   refine c_cut (fun (_ : Unit) => [(0, .t (.d (.seq 2 (List.map cS_api_Member p0)))), (3, .t (.d (.lit (.int .i64 p3)))), (10, .t (.d (.lit (.int .i64 x3))))]) (fun (_ : Unit) => m_R27_Change_j1 x3 p3 p0 = some r) ?_ ?_
   ·
    refine c_sr ?_
    refine o_s (.t (.d (.lit (.int .i64 x1)))) (g0 rfl) rfl rfl rfl ?_
    refine o_s (.t (.d (.lit (.bool (decide (x1 < 4)))))) (g0 rfl) rfl rfl rfl ?_
    refine o_s (.t (.d (.lit (.bool (decide (x1 < 4)))))) (g0 rfl) rfl rfl rfl ?_
    rcases bif_some h with ⟨h12, h⟩ | ⟨h12, h⟩
    ·
     refine o_s (.t (.d (.lit (.int .i64 p3)))) (gy rfl rfl rfl h12) rfl rfl rfl ?_
     refine o_s (.t (.d (.lit (.bool (decide (p3 > 2)))))) (gy rfl rfl rfl h12) rfl rfl rfl ?_
     refine o_s (.t (.d (.lit (.bool (decide (p3 > 2)))))) (gy rfl rfl rfl h12) rfl rfl rfl ?_
     rcases bif_some h with ⟨h13, h⟩ | ⟨h13, h⟩
     ·
      refine o_skip rfl rfl rfl h13 rfl rfl ?_
      refine o_skip rfl rfl rfl h13 rfl rfl ?_
      refine o_pk (.t (.d (.lit (.bool true)))) (b := true) h13 (gy rfl rfl rfl h12) rfl rfl rfl rfl rfl ?_
      refine o_pk (.t (.d (.lit (.bool true)))) (b := true) h12 (g0 rfl) rfl rfl rfl rfl rfl ?_
      refine o_nil ?_
      repeat (first | refine k1 ?_ | refine k4 ?_)
      refine c_t rfl rfl ?_
      refine c_sr ?_
      refine o_s (.t (.d (.lit (.int .i64 40)))) (g0 rfl) rfl rfl rfl ?_
      refine o_nil ?_
      repeat (first | refine k1 ?_ | refine k4 ?_)
      refine c_ret ?_
      repeat (first | refine k3 ?_ | refine k5 ?_)
      obtain rfl := Option.some.inj h
      exact end0 rfl (.refl _)
     ·
      refine o_s (.t (.d (.lit (.int .i64 x3)))) (gy rfl rfl rfl h13) rfl rfl rfl ?_
      refine o_s (.t (.d (.lit (.bool (decide (x3 > 2)))))) (gy rfl rfl rfl h13) rfl rfl rfl ?_
      refine o_pk (.t (.d (.lit (.bool (decide (x3 > 2)))))) (b := false) h13 (gy rfl rfl rfl h12) rfl rfl rfl rfl rfl ?_
      refine o_pk (.t (.d (.lit (.bool (decide (x3 > 2)))))) (b := true) h12 (g0 rfl) rfl rfl rfl rfl rfl ?_
      refine o_nil ?_
      repeat (first | refine k1 ?_ | refine k4 ?_)
      rcases bif_some h with ⟨h14, h⟩ | ⟨h14, h⟩
      ·
       refine c_t h14 rfl ?_
       refine c_sr ?_
       refine o_s (.t (.d (.lit (.int .i64 40)))) (g0 rfl) rfl rfl rfl ?_
       refine o_nil ?_
       repeat (first | refine k1 ?_ | refine k4 ?_)
       refine c_ret ?_
       repeat (first | refine k3 ?_ | refine k5 ?_)
       obtain rfl := Option.some.inj h
       exact end0 rfl (.refl _)
      ·
       refine c_f h14 rfl ?_
       refine c_skip ?_
       repeat (first | refine k1 ?_ | refine k4 ?_)
       exact ⟨(), h, ⟨(.refl _), ⟨(.refl _), ⟨(.refl _), trivial⟩⟩⟩, rfl⟩
    ·
     refine o_skip rfl rfl rfl h12 rfl rfl ?_
     refine o_skip rfl rfl rfl h12 rfl rfl ?_
     refine o_skip rfl rfl rfl h12 rfl rfl ?_
     refine o_un rfl rfl rfl rfl rfl ?_
     refine o_un rfl rfl rfl rfl rfl ?_
     refine o_skip rfl rfl rfl h12 rfl rfl ?_
     refine o_pk (.t (.d (.lit (.bool false)))) (b := false) h12 (g0 rfl) rfl rfl rfl rfl rfl ?_
     refine o_nil ?_
     repeat (first | refine k1 ?_ | refine k4 ?_)
     refine c_f rfl rfl ?_
     refine c_skip ?_
     repeat (first | refine k1 ?_ | refine k4 ?_)
     exact ⟨(), h, ⟨(.refl _), ⟨(.refl _), ⟨(.refl _), trivial⟩⟩⟩, rfl⟩
   ·
    rintro ⟨⟩ h
    refine c_seq ?_
    refine c_sr ?_
    refine o_s (.t (.d (.lit (.int .i64 x3)))) (g0 rfl) rfl rfl rfl ?_
    refine o_s (.t (.d (.lit (.bool (x3 == 4))))) (g0 rfl) rfl rfl rfl ?_
    refine o_s (.t (.d (.lit (.bool (x3 == 4))))) (g0 rfl) rfl rfl rfl ?_
    rcases bif_some h with ⟨h7, h⟩ | ⟨h7, h⟩
    ·
     refine o_s (.t (.d (.lit (.int .i64 p3)))) (gy rfl rfl rfl h7) rfl rfl rfl ?_
     refine o_s (.t (.d (.lit (.bool (decide (p3 < 4)))))) (gy rfl rfl rfl h7) rfl rfl rfl ?_
     refine o_pk (.t (.d (.lit (.bool (decide (p3 < 4)))))) (b := true) h7 (g0 rfl) rfl rfl rfl rfl rfl ?_
     refine o_s (.t (.d (.lit (.bool (decide (p3 < 4)))))) (g0 rfl) rfl rfl rfl ?_
     rcases bif_some h with ⟨h8, h⟩ | ⟨h8, h⟩
     ·
      refine o_s (.t (.d (.seq 2 (List.map cS_api_Member p0)))) (gy rfl rfl rfl h8) rfl rfl rfl ?_
      obtain ⟨x9, h10, h⟩ := bind_some h
      refine o_ca (fc_R27_Owners _ _ h10) (gy rfl rfl rfl h8) rfl rfl rfl rfl rfl rfl rfl (.cons (.refl _) .nil) rfl rfl ?_
      refine o_s (.t (.d (.lit (.bool (x9 == 1))))) (gy rfl rfl rfl h8) rfl rfl rfl ?_
      refine o_pk (.t (.d (.lit (.bool (x9 == 1))))) (b := true) h8 (g0 rfl) rfl rfl rfl rfl rfl ?_
      refine o_nil ?_
      repeat (first | refine k1 ?_ | refine k4 ?_)
      rcases bif_some h with ⟨h11, h⟩ | ⟨h11, h⟩
      ·
       refine c_t h11 rfl ?_
       refine c_sr ?_
       refine o_s (.t (.d (.lit (.int .i64 46)))) (g0 rfl) rfl rfl rfl ?_
       refine o_nil ?_
       repeat (first | refine k1 ?_ | refine k4 ?_)
       refine c_ret ?_
       repeat (first | refine k3 ?_ | refine k5 ?_)
       obtain rfl := Option.some.inj h
       exact end0 rfl (.refl _)
      ·
       refine c_f h11 rfl ?_
       refine c_skip ?_
       repeat (first | refine k1 ?_ | refine k4 ?_)
       refine c_sr ?_
       refine o_s (.t (.d (.lit (.int .i64 0)))) (g0 rfl) rfl rfl rfl ?_
       refine o_nil ?_
       repeat (first | refine k1 ?_ | refine k4 ?_)
       refine c_ret ?_
       repeat (first | refine k3 ?_ | refine k5 ?_)
       obtain rfl := Option.some.inj h
       exact end0 rfl (.refl _)
     ·
      refine o_skip rfl rfl rfl h8 rfl rfl ?_
      refine o_skip rfl rfl rfl h8 rfl rfl ?_
      refine o_skip rfl rfl rfl h8 rfl rfl ?_
      refine o_pk (.t (.d (.lit (.bool false)))) (b := false) h8 (g0 rfl) rfl rfl rfl rfl rfl ?_
      refine o_nil ?_
      repeat (first | refine k1 ?_ | refine k4 ?_)
      refine c_f rfl rfl ?_
      refine c_skip ?_
      repeat (first | refine k1 ?_ | refine k4 ?_)
      refine c_sr ?_
      refine o_s (.t (.d (.lit (.int .i64 0)))) (g0 rfl) rfl rfl rfl ?_
      refine o_nil ?_
      repeat (first | refine k1 ?_ | refine k4 ?_)
      refine c_ret ?_
      repeat (first | refine k3 ?_ | refine k5 ?_)
      obtain rfl := Option.some.inj h
      exact end0 rfl (.refl _)
    ·
     refine o_skip rfl rfl rfl h7 rfl rfl ?_
     refine o_skip rfl rfl rfl h7 rfl rfl ?_
     refine o_pk (.t (.d (.lit (.bool false)))) (b := false) h7 (g0 rfl) rfl rfl rfl rfl rfl ?_
     refine o_s (.t (.d (.lit (.bool false)))) (g0 rfl) rfl rfl rfl ?_
     refine o_skip rfl rfl rfl rfl rfl rfl ?_
     refine o_skip rfl rfl rfl rfl rfl rfl ?_
     refine o_skip rfl rfl rfl rfl rfl rfl ?_
     refine o_pk (.t (.d (.lit (.bool false)))) (b := false) rfl (g0 rfl) rfl rfl rfl rfl rfl ?_
     refine o_nil ?_
     repeat (first | refine k1 ?_ | refine k4 ?_)
     refine c_f rfl rfl ?_
     refine c_skip ?_
     repeat (first | refine k1 ?_ | refine k4 ?_)
     refine c_sr ?_
     refine o_s (.t (.d (.lit (.int .i64 0)))) (g0 rfl) rfl rfl rfl ?_
     refine o_nil ?_
     repeat (first | refine k1 ?_ | refine k4 ?_)
     refine c_ret ?_
     repeat (first | refine k3 ?_ | refine k5 ?_)
     obtain rfl := Option.some.inj h
     exact end0 rfl (.refl _)

theorem fc_R27_Step (p0 : (List S_api_Member)) (p1 : (List S_api_Member)) (p2 : (List UInt8)) (r : (Bool × Int)) (h : m_R27_Step p0 p1 p2 = some r) : FC Try.prog 21 [.t (.d (.seq 2 (List.map cS_api_Member p0))), .t (.d (.seq 2 (List.map cS_api_Member p1))), .t (.d (.lit (.string ⟨⟨p2⟩⟩)))] [] (.tup [.d (.lit (.bool r.1)), .d (.lit (.int .i64 r.2))]) := by
 refine fc_mk (rs := [.tmp 6, .tmp 7]) (n := 97) Try.func21 rfl rfl (Nat.le_of_ble_eq_true rfl) rfl (pins := []) rfl (L := [(0, .t (.d (.seq 2 (List.map cS_api_Member p0)))), (1, .t (.d (.seq 2 (List.map cS_api_Member p1)))), (2, .t (.d (.lit (.string ⟨⟨p2⟩⟩))))]) rfl ?_
 refine c_sr ?_
 refine o_s (.t (.d (.lit (.bool false)))) (g0 rfl) rfl rfl rfl ?_
 refine o_s (.t (.d (.lit (.int .i64 0)))) (g0 rfl) rfl rfl rfl ?_
 refine o_nil ?_
 repeat (first | refine k1 ?_ | refine k4 ?_)
 refine c_seq ?_
 refine c_sr ?_
 refine o_s (.t (.d (.seq 2 (List.map cS_api_Member p0)))) (g0 rfl) rfl rfl rfl ?_
 obtain ⟨x1, h2, h⟩ := bind_some h
 refine o_ca (fc_R27_Right _ _ h2) (g0 rfl) rfl rfl rfl rfl rfl rfl rfl (.cons (.refl _) .nil) rfl rfl ?_
 refine o_s (.t (.d (.lit (.bool (!x1))))) (g0 rfl) rfl rfl rfl ?_
 refine o_s (.t (.d (.lit (.bool (!x1))))) (g0 rfl) rfl rfl rfl ?_
 rcases bif_some h with ⟨h3, h⟩ | ⟨h3, h⟩
 ·
  refine o_skip rfl rfl rfl h3 rfl rfl ?_
  refine o_skip rfl rfl rfl h3 rfl rfl ?_
  refine o_skip rfl rfl rfl h3 rfl rfl ?_
  refine o_pk (.t (.d (.lit (.bool true)))) (b := true) h3 (g0 rfl) rfl rfl rfl rfl rfl ?_
  refine o_nil ?_
  repeat (first | refine k1 ?_ | refine k4 ?_)
  refine c_t rfl rfl ?_
  refine c_sr ?_
  refine o_s (.t (.d (.lit (.bool false)))) (g0 rfl) rfl rfl rfl ?_
  refine o_s (.t (.d (.lit (.int .i64 2)))) (g0 rfl) rfl rfl rfl ?_
  refine o_nil ?_
  repeat (first | refine k1 ?_ | refine k4 ?_)
  refine c_ret ?_
  repeat (first | refine k3 ?_ | refine k5 ?_)
  obtain rfl := Option.some.inj h
  exact end0 rfl (.tup (.cons (.refl _) (.cons (.refl _) .nil)))
 ·
  refine o_s (.t (.d (.seq 2 (List.map cS_api_Member p1)))) (gy rfl rfl rfl h3) rfl rfl rfl ?_
  obtain ⟨x4, h5, h⟩ := bind_some h
  refine o_ca (fc_R27_Right _ _ h5) (gy rfl rfl rfl h3) rfl rfl rfl rfl rfl rfl rfl (.cons (.refl _) .nil) rfl rfl ?_
  refine o_s (.t (.d (.lit (.bool (!x4))))) (gy rfl rfl rfl h3) rfl rfl rfl ?_
  refine o_pk (.t (.d (.lit (.bool (!x4))))) (b := false) h3 (g0 rfl) rfl rfl rfl rfl rfl ?_
  refine o_nil ?_
  repeat (first | refine k1 ?_ | refine k4 ?_)
  rcases bif_some h with ⟨h6, h⟩ | ⟨h6, h⟩
  ·
   refine c_t h6 rfl ?_
   refine c_sr ?_
   refine o_s (.t (.d (.lit (.bool false)))) (g0 rfl) rfl rfl rfl ?_
   refine o_s (.t (.d (.lit (.int .i64 2)))) (g0 rfl) rfl rfl rfl ?_
   refine o_nil ?_
   repeat (first | refine k1 ?_ | refine k4 ?_)
   refine c_ret ?_
   repeat (first | refine k3 ?_ | refine k5 ?_)
   obtain rfl := Option.some.inj h
   exact end0 rfl (.tup (.cons (.refl _) (.cons (.refl _) .nil)))
  ·
   refine c_f h6 rfl ?_
   refine c_skip ?_
   repeat (first | refine k1 ?_ | refine k4 ?_)
   refine c_sr ?_
   refine o_s (.t (.d (.lit (.string ⟨⟨[]⟩⟩)))) (g0 rfl) rfl rfl rfl ?_
   refine o_nil ?_
   repeat (first | refine k1 ?_ | refine k4 ?_)
   refine c_sr ?_
   refine o_s (.t (.d (.lit (.int .i64 0)))) (g0 rfl) rfl rfl rfl ?_
   refine o_nil ?_
   repeat (first | refine k1 ?_ | refine k4 ?_)
   refine c_cut (fun (q : (List UInt8) × Int) => [(0, .t (.d (.seq 2 (List.map cS_api_Member p0)))), (1, .t (.d (.seq 2 (List.map cS_api_Member p1)))), (2, .t (.d (.lit (.string ⟨⟨p2⟩⟩)))), (8, .t (.d (.lit (.string ⟨⟨q.1⟩⟩)))), (9, .t (.d (.lit (.int .i64 q.2))))]) (fun (q : (List UInt8) × Int) => m_R27_Step_j1 p1 p0 p2 q.1 q.2 = some r) ?_ ?_
   ·
    refine c_sr ?_
    refine o_s (.t (.d (.lit (.int .i64 0)))) (g0 rfl) rfl rfl rfl ?_
    refine o_nil ?_
    repeat (first | refine k1 ?_ | refine k4 ?_)
    refine c_block ?_
    refine c_fuel (fun (q : (List UInt8) × Int × Int) => [(0, .t (.d (.seq 2 (List.map cS_api_Member p0)))), (1, .t (.d (.seq 2 (List.map cS_api_Member p1)))), (2, .t (.d (.lit (.string ⟨⟨p2⟩⟩)))), (8, .t (.d (.lit (.string ⟨⟨q.1⟩⟩)))), (9, .t (.d (.lit (.int .i64 q.2.1)))), (10, .t (.d (.lit (.int .i64 q.2.2))))]) (fun nl5 => (fun (q : (List UInt8) × Int × Int) => m_R27_Step_l5 p0 p1 p2 nl5 q.1 q.2.1 q.2.2 = some r)) (p0.length + 1) ([], 0, 0) h ⟨(.refl _), ⟨(.refl _), ⟨(.refl _), ⟨(.refl _), ⟨(.refl _), ⟨(.refl _), trivial⟩⟩⟩⟩⟩⟩ rfl ?_
    rintro nl5 ⟨z37, z38, z39⟩ h
    cases nl5 with
    | zero => exact none_ne h
    | succ nl5 =>
     refine c_seq ?_
     refine c_sr ?_
     refine o_s (.t (.d (.lit (.int .i64 z39)))) (g0 rfl) rfl rfl rfl ?_
     refine o_s (.t (.d (.seq 2 (List.map cS_api_Member p0)))) (g0 rfl) rfl rfl rfl ?_
     refine o_c (g0 rfl) rfl rfl rfl (lenE _ _) trivial ?_
     refine o_s (.t (.d (.lit (.bool (decide (z39 < (p0.length : Int))))))) (g0 rfl) rfl rfl rfl ?_
     refine o_nil ?_
     repeat (first | refine k1 ?_ | refine k4 ?_)
     rcases bif_some h with ⟨h40, h⟩ | ⟨h40, h⟩
     ·
      refine c_t h40 rfl ?_
      refine c_skip ?_
      repeat (first | refine k1 ?_ | refine k4 ?_)
      refine c_cut (fun (q : (List UInt8) × Int) => [(0, .t (.d (.seq 2 (List.map cS_api_Member p0)))), (1, .t (.d (.seq 2 (List.map cS_api_Member p1)))), (2, .t (.d (.lit (.string ⟨⟨p2⟩⟩)))), (8, .t (.d (.lit (.string ⟨⟨q.1⟩⟩)))), (9, .t (.d (.lit (.int .i64 q.2)))), (10, .t (.d (.lit (.int .i64 z39))))]) (fun (q : (List UInt8) × Int) => m_R27_Step_j6 (m_R27_Step_l5 p0 p1 p2 nl5) z39 q.1 q.2 = some r) ?_ ?_
      ·
       refine c_block ?_
       refine c_seq ?_
       refine c_draw mixed (by kernel_rfl) ?_
       refine d_s (.t (.d (.seq 2 (List.map cS_api_Member p1)))) rfl (dg0 rfl) rfl rfl rfl rfl ?_
       refine d_s (.t (.d (.seq 2 (List.map cS_api_Member p0)))) rfl (dg0 rfl) rfl rfl rfl rfl ?_
       refine d_s (.t (.d (.lit (.int .i64 z39)))) rfl (dg0 rfl) rfl rfl rfl rfl ?_
       obtain ⟨x43, h44, h⟩ := bind_some h
       refine d_c rfl (dg0 rfl) rfl rfl rfl rfl (idxE h44) (idxC h44) ?_
       refine d_s (.imm [.lit (.string ⟨⟨x43.Name⟩⟩), .lit (.int .i64 x43.Role)]) rfl (dg0 rfl) rfl rfl rfl rfl ?_
       refine d_s (.t (.d (.lit (.string ⟨⟨x43.Name⟩⟩)))) rfl (dg0 rfl) rfl rfl rfl rfl ?_
       obtain ⟨x45, h46, h⟩ := bind_some h
       refine d_ca (fc_R27_Of _ _ _ h46) rfl (dg0 rfl) rfl rfl rfl rfl rfl rfl rfl rfl (.cons (.refl _) (.cons (.refl _) .nil)) rfl rfl ?_
       refine d_s (.t (.d (.seq 2 (List.map cS_api_Member p0)))) rfl (dg0 rfl) rfl rfl rfl rfl ?_
       refine d_s (.t (.d (.lit (.int .i64 z39)))) rfl (dg0 rfl) rfl rfl rfl rfl ?_
       obtain ⟨x47, h48, h⟩ := bind_some h
       refine d_c rfl (dg0 rfl) rfl rfl rfl rfl (idxE h48) (idxC h48) ?_
       refine d_s (.imm [.lit (.int .i64 x47.Role)]) rfl (dg0 rfl) rfl rfl rfl rfl ?_
       refine d_s (.t (.d (.lit (.int .i64 x47.Role)))) rfl (dg0 rfl) rfl rfl rfl rfl ?_
       refine d_s (.t (.d (.lit (.bool (x45 != x47.Role))))) rfl (dg0 rfl) rfl rfl rfl rfl ?_
       refine d_nil (by kernel_rfl) ?_
       repeat (first | refine k1 ?_ | refine k2 ?_ | refine k3 ?_ | refine k4 ?_ | refine k5 ?_ | refine k6 ?_ | refine k7 rfl ?_)
       rcases bif_some h with ⟨h49, h⟩ | ⟨h49, h⟩
       ·
        refine c_t h49 rfl ?_
        refine c_sr ?_
        refine o_s (.t (.d (.seq 2 (List.map cS_api_Member p0)))) (g0 rfl) rfl rfl rfl ?_
        refine o_s (.t (.d (.lit (.int .i64 z39)))) (g0 rfl) rfl rfl rfl ?_
        obtain ⟨x50, h51, h⟩ := bind_some h
        refine o_c (g0 rfl) rfl rfl rfl (idxE h51) (idxC h51) ?_
        refine o_s (.imm [.lit (.string ⟨⟨x50.Name⟩⟩), .lit (.int .i64 x50.Role)]) (g0 rfl) rfl rfl rfl ?_
        refine o_s (.t (.d (.lit (.string ⟨⟨x50.Name⟩⟩)))) (g0 rfl) rfl rfl rfl ?_
        refine o_s (.t (.d (.lit (.string ⟨⟨x50.Name⟩⟩)))) (g0 rfl) rfl rfl rfl ?_
        refine o_nil ?_
        repeat (first | refine k1 ?_ | refine k4 ?_)
        refine c_region ?_
        refine o_s (.t (.d (.lit (.int .i64 z38)))) (g0 rfl) rfl rfl rfl ?_
        refine o_s (.t (.d (.lit (.int .i64 (wi (z38 + 1)))))) (g0 rfl) rfl rfl rfl ?_
        refine o_s (.t (.d (.lit (.int .i64 (wi (z38 + 1)))))) (g0 rfl) rfl rfl rfl ?_
        refine o_nil ?_
        repeat (first | refine k1 ?_ | refine k4 ?_)
        exact ⟨(x50.Name, (wi (z38 + 1))), h, ⟨(.refl _), ⟨(.refl _), ⟨(.refl _), ⟨(.refl _), ⟨(.refl _), ⟨(.refl _), trivial⟩⟩⟩⟩⟩⟩, rfl⟩
       ·
        refine c_f h49 rfl ?_
        refine c_skip ?_
        repeat (first | refine k1 ?_ | refine k4 ?_)
        exact ⟨(z37, z38), h, ⟨(.refl _), ⟨(.refl _), ⟨(.refl _), ⟨(.refl _), ⟨(.refl _), ⟨(.refl _), trivial⟩⟩⟩⟩⟩⟩, rfl⟩
      ·
       rintro ⟨y41, y42⟩ h
       refine c_region ?_
       refine o_s (.t (.d (.lit (.int .i64 z39)))) (g0 rfl) rfl rfl rfl ?_
       refine o_s (.t (.d (.lit (.int .i64 (wi (z39 + 1)))))) (g0 rfl) rfl rfl rfl ?_
       refine o_s (.t (.d (.lit (.int .i64 (wi (z39 + 1)))))) (g0 rfl) rfl rfl rfl ?_
       refine o_nil ?_
       repeat (first | refine k1 ?_ | refine k4 ?_)
       exact ⟨nl5, (y41, y42, (wi (z39 + 1))), Nat.lt_succ_self nl5, h, ⟨(.refl _), ⟨(.refl _), ⟨(.refl _), ⟨(.refl _), ⟨(.refl _), ⟨(.refl _), trivial⟩⟩⟩⟩⟩⟩, rfl⟩
     ·
      refine c_f h40 rfl ?_
      refine c_exit ?_
      repeat (first | refine k1 ?_ | refine k2 ?_ | refine k3 ?_ | refine k4 ?_ | refine k5 ?_ | refine k6 ?_ | refine k7 rfl ?_)
      exact ⟨(z37, z38), h, ⟨(.refl _), ⟨(.refl _), ⟨(.refl _), ⟨(.refl _), ⟨(.refl _), trivial⟩⟩⟩⟩⟩, rfl⟩
   ·
    rintro ⟨y7, y8⟩ h
    refine c_cut (fun (q : (List UInt8) × Int) => [(0, .t (.d (.seq 2 (List.map cS_api_Member p0)))), (1, .t (.d (.seq 2 (List.map cS_api_Member p1)))), (2, .t (.d (.lit (.string ⟨⟨p2⟩⟩)))), (8, .t (.d (.lit (.string ⟨⟨q.1⟩⟩)))), (9, .t (.d (.lit (.int .i64 q.2))))]) (fun (q : (List UInt8) × Int) => m_R27_Step_j2 p1 p0 p2 q.1 q.2 = some r) ?_ ?_
    ·
     refine c_sr ?_
     refine o_s (.t (.d (.lit (.int .i64 0)))) (g0 rfl) rfl rfl rfl ?_
     refine o_nil ?_
     repeat (first | refine k1 ?_ | refine k4 ?_)
     refine c_block ?_
     refine c_fuel (fun (q : (List UInt8) × Int × Int) => [(0, .t (.d (.seq 2 (List.map cS_api_Member p0)))), (1, .t (.d (.seq 2 (List.map cS_api_Member p1)))), (2, .t (.d (.lit (.string ⟨⟨p2⟩⟩)))), (8, .t (.d (.lit (.string ⟨⟨q.1⟩⟩)))), (9, .t (.d (.lit (.int .i64 q.2.1)))), (11, .t (.d (.lit (.int .i64 q.2.2))))]) (fun nl3 => (fun (q : (List UInt8) × Int × Int) => m_R27_Step_l3 p1 p0 p2 nl3 q.1 q.2.1 q.2.2 = some r)) (p1.length + 1) (y7, y8, 0) h ⟨(.refl _), ⟨(.refl _), ⟨(.refl _), ⟨(.refl _), ⟨(.refl _), ⟨(.refl _), trivial⟩⟩⟩⟩⟩⟩ rfl ?_
     rintro nl3 ⟨z24, z25, z26⟩ h
     cases nl3 with
     | zero => exact none_ne h
     | succ nl3 =>
      refine c_seq ?_
      refine c_sr ?_
      refine o_s (.t (.d (.lit (.int .i64 z26)))) (g0 rfl) rfl rfl rfl ?_
      refine o_s (.t (.d (.seq 2 (List.map cS_api_Member p1)))) (g0 rfl) rfl rfl rfl ?_
      refine o_c (g0 rfl) rfl rfl rfl (lenE _ _) trivial ?_
      refine o_s (.t (.d (.lit (.bool (decide (z26 < (p1.length : Int))))))) (g0 rfl) rfl rfl rfl ?_
      refine o_nil ?_
      repeat (first | refine k1 ?_ | refine k4 ?_)
      rcases bif_some h with ⟨h27, h⟩ | ⟨h27, h⟩
      ·
       refine c_t h27 rfl ?_
       refine c_skip ?_
       repeat (first | refine k1 ?_ | refine k4 ?_)
       refine c_cut (fun (q : (List UInt8) × Int) => [(0, .t (.d (.seq 2 (List.map cS_api_Member p0)))), (1, .t (.d (.seq 2 (List.map cS_api_Member p1)))), (2, .t (.d (.lit (.string ⟨⟨p2⟩⟩)))), (8, .t (.d (.lit (.string ⟨⟨q.1⟩⟩)))), (9, .t (.d (.lit (.int .i64 q.2)))), (11, .t (.d (.lit (.int .i64 z26))))]) (fun (q : (List UInt8) × Int) => m_R27_Step_j4 (m_R27_Step_l3 p1 p0 p2 nl3) z26 q.1 q.2 = some r) ?_ ?_
       ·
        refine c_block ?_
        refine c_sr ?_
        refine o_s (.t (.d (.seq 2 (List.map cS_api_Member p0)))) (g0 rfl) rfl rfl rfl ?_
        refine o_s (.t (.d (.seq 2 (List.map cS_api_Member p1)))) (g0 rfl) rfl rfl rfl ?_
        refine o_s (.t (.d (.lit (.int .i64 z26)))) (g0 rfl) rfl rfl rfl ?_
        obtain ⟨x30, h31, h⟩ := bind_some h
        refine o_c (g0 rfl) rfl rfl rfl (idxE h31) (idxC h31) ?_
        refine o_s (.imm [.lit (.string ⟨⟨x30.Name⟩⟩), .lit (.int .i64 x30.Role)]) (g0 rfl) rfl rfl rfl ?_
        refine o_s (.t (.d (.lit (.string ⟨⟨x30.Name⟩⟩)))) (g0 rfl) rfl rfl rfl ?_
        obtain ⟨x32, h33, h⟩ := bind_some h
        refine o_ca (fc_R27_Of _ _ _ h33) (g0 rfl) rfl rfl rfl rfl rfl rfl rfl (.cons (.refl _) (.cons (.refl _) .nil)) rfl rfl ?_
        refine o_s (.t (.d (.lit (.bool (x32 == 0))))) (g0 rfl) rfl rfl rfl ?_
        refine o_nil ?_
        repeat (first | refine k1 ?_ | refine k4 ?_)
        rcases bif_some h with ⟨h34, h⟩ | ⟨h34, h⟩
        ·
         refine c_t h34 rfl ?_
         refine c_sr ?_
         refine o_s (.t (.d (.seq 2 (List.map cS_api_Member p1)))) (g0 rfl) rfl rfl rfl ?_
         refine o_s (.t (.d (.lit (.int .i64 z26)))) (g0 rfl) rfl rfl rfl ?_
         obtain ⟨x35, h36, h⟩ := bind_some h
         refine o_c (g0 rfl) rfl rfl rfl (idxE h36) (idxC h36) ?_
         refine o_s (.imm [.lit (.string ⟨⟨x35.Name⟩⟩), .lit (.int .i64 x35.Role)]) (g0 rfl) rfl rfl rfl ?_
         refine o_s (.t (.d (.lit (.string ⟨⟨x35.Name⟩⟩)))) (g0 rfl) rfl rfl rfl ?_
         refine o_s (.t (.d (.lit (.string ⟨⟨x35.Name⟩⟩)))) (g0 rfl) rfl rfl rfl ?_
         refine o_nil ?_
         repeat (first | refine k1 ?_ | refine k4 ?_)
         refine c_region ?_
         refine o_s (.t (.d (.lit (.int .i64 z25)))) (g0 rfl) rfl rfl rfl ?_
         refine o_s (.t (.d (.lit (.int .i64 (wi (z25 + 1)))))) (g0 rfl) rfl rfl rfl ?_
         refine o_s (.t (.d (.lit (.int .i64 (wi (z25 + 1)))))) (g0 rfl) rfl rfl rfl ?_
         refine o_nil ?_
         repeat (first | refine k1 ?_ | refine k4 ?_)
         exact ⟨(x35.Name, (wi (z25 + 1))), h, ⟨(.refl _), ⟨(.refl _), ⟨(.refl _), ⟨(.refl _), ⟨(.refl _), ⟨(.refl _), trivial⟩⟩⟩⟩⟩⟩, rfl⟩
        ·
         refine c_f h34 rfl ?_
         refine c_skip ?_
         repeat (first | refine k1 ?_ | refine k4 ?_)
         exact ⟨(z24, z25), h, ⟨(.refl _), ⟨(.refl _), ⟨(.refl _), ⟨(.refl _), ⟨(.refl _), ⟨(.refl _), trivial⟩⟩⟩⟩⟩⟩, rfl⟩
       ·
        rintro ⟨y28, y29⟩ h
        refine c_region ?_
        refine o_s (.t (.d (.lit (.int .i64 z26)))) (g0 rfl) rfl rfl rfl ?_
        refine o_s (.t (.d (.lit (.int .i64 (wi (z26 + 1)))))) (g0 rfl) rfl rfl rfl ?_
        refine o_s (.t (.d (.lit (.int .i64 (wi (z26 + 1)))))) (g0 rfl) rfl rfl rfl ?_
        refine o_nil ?_
        repeat (first | refine k1 ?_ | refine k4 ?_)
        exact ⟨nl3, (y28, y29, (wi (z26 + 1))), Nat.lt_succ_self nl3, h, ⟨(.refl _), ⟨(.refl _), ⟨(.refl _), ⟨(.refl _), ⟨(.refl _), ⟨(.refl _), trivial⟩⟩⟩⟩⟩⟩, rfl⟩
      ·
       refine c_f h27 rfl ?_
       refine c_exit ?_
       repeat (first | refine k1 ?_ | refine k2 ?_ | refine k3 ?_ | refine k4 ?_ | refine k5 ?_ | refine k6 ?_ | refine k7 rfl ?_)
       exact ⟨(z24, z25), h, ⟨(.refl _), ⟨(.refl _), ⟨(.refl _), ⟨(.refl _), ⟨(.refl _), trivial⟩⟩⟩⟩⟩, rfl⟩
    ·
     rintro ⟨y9, y10⟩ h
     refine c_seq ?_
     refine c_sr ?_
     refine o_s (.t (.d (.lit (.int .i64 y10)))) (g0 rfl) rfl rfl rfl ?_
     refine o_s (.t (.d (.lit (.bool (y10 != 1))))) (g0 rfl) rfl rfl rfl ?_
     refine o_nil ?_
     repeat (first | refine k1 ?_ | refine k4 ?_)
     rcases bif_some h with ⟨h11, h⟩ | ⟨h11, h⟩
     ·
      refine c_t h11 rfl ?_
      refine c_sr ?_
      refine o_s (.t (.d (.lit (.bool false)))) (g0 rfl) rfl rfl rfl ?_
      refine o_s (.t (.d (.lit (.int .i64 11)))) (g0 rfl) rfl rfl rfl ?_
      refine o_nil ?_
      repeat (first | refine k1 ?_ | refine k4 ?_)
      refine c_ret ?_
      repeat (first | refine k3 ?_ | refine k5 ?_)
      obtain rfl := Option.some.inj h
      exact end0 rfl (.tup (.cons (.refl _) (.cons (.refl _) .nil)))
     ·
      refine c_f h11 rfl ?_
      refine c_skip ?_
      repeat (first | refine k1 ?_ | refine k4 ?_)
      refine c_sr ?_
      refine o_s (.t (.d (.seq 2 (List.map cS_api_Member p1)))) (g0 rfl) rfl rfl rfl ?_
      refine o_s (.t (.d (.lit (.string ⟨⟨y9⟩⟩)))) (g0 rfl) rfl rfl rfl ?_
      obtain ⟨x12, h13, h⟩ := bind_some h
      refine o_ca (fc_R27_Of _ _ _ h13) (g0 rfl) rfl rfl rfl rfl rfl rfl rfl (.cons (.refl _) (.cons (.refl _) .nil)) rfl rfl ?_
      refine o_s (.t (.d (.lit (.int .i64 x12)))) (g0 rfl) rfl rfl rfl ?_
      refine o_nil ?_
      repeat (first | refine k1 ?_ | refine k4 ?_)
      refine c_seq ?_
      refine c_sr ?_
      refine o_s (.t (.d (.lit (.int .i64 x12)))) (g0 rfl) rfl rfl rfl ?_
      refine o_s (.t (.d (.lit (.bool (x12 == 0))))) (g0 rfl) rfl rfl rfl ?_
      refine o_nil ?_
      repeat (first | refine k1 ?_ | refine k4 ?_)
      rcases bif_some h with ⟨h14, h⟩ | ⟨h14, h⟩
      ·
       refine c_t h14 rfl ?_
       refine c_sr ?_
       refine o_s (.t (.d (.seq 2 (List.map cS_api_Member p0)))) (g0 rfl) rfl rfl rfl ?_
       refine o_s (.t (.d (.lit (.string ⟨⟨p2⟩⟩)))) (g0 rfl) rfl rfl rfl ?_
       refine o_s (.t (.d (.lit (.string ⟨⟨y9⟩⟩)))) (g0 rfl) rfl rfl rfl ?_
       obtain ⟨x15, h16, h⟩ := bind_some h
       refine o_ca (fc_R27_Revoke _ _ _ _ h16) (g0 rfl) rfl rfl rfl rfl rfl rfl rfl (.cons (.refl _) (.cons (.refl _) (.cons (.refl _) .nil))) rfl rfl ?_
       refine o_s (.t (.d (.lit (.int .i64 x15)))) (g0 rfl) rfl rfl rfl ?_
       refine o_nil ?_
       repeat (first | refine k1 ?_ | refine k4 ?_)
       refine c_sr ?_
       refine o_s (.t (.d (.lit (.int .i64 x15)))) (g0 rfl) rfl rfl rfl ?_
       refine o_s (.t (.d (.lit (.bool (x15 == 0))))) (g0 rfl) rfl rfl rfl ?_
       refine o_s (.t (.d (.lit (.int .i64 x15)))) (g0 rfl) rfl rfl rfl ?_
       refine o_s (.t (.d (.lit (.bool (x15 == 0))))) (g0 rfl) rfl rfl rfl ?_
       refine o_s (.t (.d (.lit (.int .i64 x15)))) (g0 rfl) rfl rfl rfl ?_
       refine o_nil ?_
       repeat (first | refine k1 ?_ | refine k4 ?_)
       refine c_ret ?_
       repeat (first | refine k3 ?_ | refine k5 ?_)
       obtain rfl := Option.some.inj h
       exact end0 rfl (.tup (.cons (.refl _) (.cons (.refl _) .nil)))
      ·
       refine c_f h14 rfl ?_
       refine c_skip ?_
       repeat (first | refine k1 ?_ | refine k4 ?_)
       refine c_seq ?_
       refine c_sr ?_
       refine o_s (.t (.d (.seq 2 (List.map cS_api_Member p0)))) (g0 rfl) rfl rfl rfl ?_
       refine o_s (.t (.d (.lit (.string ⟨⟨y9⟩⟩)))) (g0 rfl) rfl rfl rfl ?_
       obtain ⟨x17, h18, h⟩ := bind_some h
       refine o_ca (fc_R27_Of _ _ _ h18) (g0 rfl) rfl rfl rfl rfl rfl rfl rfl (.cons (.refl _) (.cons (.refl _) .nil)) rfl rfl ?_
       refine o_s (.t (.d (.lit (.bool (x17 == 0))))) (g0 rfl) rfl rfl rfl ?_
       refine o_nil ?_
       repeat (first | refine k1 ?_ | refine k4 ?_)
       rcases bif_some h with ⟨h19, h⟩ | ⟨h19, h⟩
       ·
        refine c_t h19 rfl ?_
        refine c_sr ?_
        refine o_s (.t (.d (.seq 2 (List.map cS_api_Member p0)))) (g0 rfl) rfl rfl rfl ?_
        refine o_s (.t (.d (.lit (.string ⟨⟨p2⟩⟩)))) (g0 rfl) rfl rfl rfl ?_
        refine o_s (.t (.d (.lit (.string ⟨⟨y9⟩⟩)))) (g0 rfl) rfl rfl rfl ?_
        refine o_s (.t (.d (.lit (.int .i64 x12)))) (g0 rfl) rfl rfl rfl ?_
        obtain ⟨x20, h21, h⟩ := bind_some h
        refine o_ca (fc_R27_Share _ _ _ _ _ h21) (g0 rfl) rfl rfl rfl rfl rfl rfl rfl (.cons (.refl _) (.cons (.refl _) (.cons (.refl _) (.cons (.refl _) .nil)))) rfl rfl ?_
        refine o_s (.t (.d (.lit (.bool false)))) (g0 rfl) rfl rfl rfl ?_
        refine o_s (.t (.d (.lit (.int .i64 x20)))) (g0 rfl) rfl rfl rfl ?_
        refine o_nil ?_
        repeat (first | refine k1 ?_ | refine k4 ?_)
        refine c_ret ?_
        repeat (first | refine k3 ?_ | refine k5 ?_)
        obtain rfl := Option.some.inj h
        exact end0 rfl (.tup (.cons (.refl _) (.cons (.refl _) .nil)))
       ·
        refine c_f h19 rfl ?_
        refine c_skip ?_
        repeat (first | refine k1 ?_ | refine k4 ?_)
        refine c_sr ?_
        refine o_s (.t (.d (.seq 2 (List.map cS_api_Member p0)))) (g0 rfl) rfl rfl rfl ?_
        refine o_s (.t (.d (.lit (.string ⟨⟨p2⟩⟩)))) (g0 rfl) rfl rfl rfl ?_
        refine o_s (.t (.d (.lit (.string ⟨⟨y9⟩⟩)))) (g0 rfl) rfl rfl rfl ?_
        refine o_s (.t (.d (.lit (.int .i64 x12)))) (g0 rfl) rfl rfl rfl ?_
        obtain ⟨x22, h23, h⟩ := bind_some h
        refine o_ca (fc_R27_Change _ _ _ _ _ h23) (g0 rfl) rfl rfl rfl rfl rfl rfl rfl (.cons (.refl _) (.cons (.refl _) (.cons (.refl _) (.cons (.refl _) .nil)))) rfl rfl ?_
        refine o_s (.t (.d (.lit (.bool false)))) (g0 rfl) rfl rfl rfl ?_
        refine o_s (.t (.d (.lit (.int .i64 x22)))) (g0 rfl) rfl rfl rfl ?_
        refine o_nil ?_
        repeat (first | refine k1 ?_ | refine k4 ?_)
        refine c_ret ?_
        repeat (first | refine k3 ?_ | refine k5 ?_)
        obtain rfl := Option.some.inj h
        exact end0 rfl (.tup (.cons (.refl _) (.cons (.refl _) .nil)))

theorem fc_R28_Follows (p0 : S_api_Manifest) (p1 : (List UInt8)) (p2 : S_api_Manifest) (r : Int) (h : m_R28_Follows p0 p1 p2 = some r) : FC Try.prog 7 [.t (.agg [.lit (.string ⟨⟨p0.Folder⟩⟩), .lit (.int .i64 p0.Seq), .seq 1 (bytesD p0.Prev), .lit (.string ⟨⟨p0.Parent⟩⟩), .seq 2 (List.map cS_api_Member p0.Members), .lit (.int .i64 p0.Cut), .lit (.bool p0.Gone), .lit (.string ⟨⟨p0.By⟩⟩)]), .t (.d (.seq 1 (bytesD p1))), .t (.agg [.lit (.string ⟨⟨p2.Folder⟩⟩), .lit (.int .i64 p2.Seq), .seq 1 (bytesD p2.Prev), .lit (.string ⟨⟨p2.Parent⟩⟩), .seq 2 (List.map cS_api_Member p2.Members), .lit (.int .i64 p2.Cut), .lit (.bool p2.Gone), .lit (.string ⟨⟨p2.By⟩⟩)])] [] (.t (.d (.lit (.int .i64 r)))) := by
 refine fc_mk (rs := [.tmp 6]) (n := 118) Try.func7 rfl rfl (Nat.le_of_ble_eq_true rfl) rfl (pins := []) rfl (L := [(0, .t (.agg [.lit (.string ⟨⟨p0.Folder⟩⟩), .lit (.int .i64 p0.Seq), .seq 1 (bytesD p0.Prev), .lit (.string ⟨⟨p0.Parent⟩⟩), .seq 2 (List.map cS_api_Member p0.Members), .lit (.int .i64 p0.Cut), .lit (.bool p0.Gone), .lit (.string ⟨⟨p0.By⟩⟩)])), (1, .t (.d (.seq 1 (bytesD p1)))), (2, .t (.agg [.lit (.string ⟨⟨p2.Folder⟩⟩), .lit (.int .i64 p2.Seq), .seq 1 (bytesD p2.Prev), .lit (.string ⟨⟨p2.Parent⟩⟩), .seq 2 (List.map cS_api_Member p2.Members), .lit (.int .i64 p2.Cut), .lit (.bool p2.Gone), .lit (.string ⟨⟨p2.By⟩⟩)]))]) rfl ?_
 refine c_sr ?_
 refine o_s (.box [.d (.lit (.string ⟨⟨p0.Folder⟩⟩)), .d (.lit (.int .i64 p0.Seq)), .d (.seq 1 (bytesD p0.Prev)), .d (.lit (.string ⟨⟨p0.Parent⟩⟩)), .d (.seq 2 (List.map cS_api_Member p0.Members)), .d (.lit (.int .i64 p0.Cut)), .d (.lit (.bool p0.Gone)), .d (.lit (.string ⟨⟨p0.By⟩⟩))]) (g0 rfl) rfl rfl rfl ?_
 refine o_s (.box [.d (.lit (.string ⟨⟨p2.Folder⟩⟩)), .d (.lit (.int .i64 p2.Seq)), .d (.seq 1 (bytesD p2.Prev)), .d (.lit (.string ⟨⟨p2.Parent⟩⟩)), .d (.seq 2 (List.map cS_api_Member p2.Members)), .d (.lit (.int .i64 p2.Cut)), .d (.lit (.bool p2.Gone)), .d (.lit (.string ⟨⟨p2.By⟩⟩))]) (g0 rfl) rfl rfl rfl ?_
 refine o_s (.t (.d (.lit (.int .i64 0)))) (g0 rfl) rfl rfl rfl ?_
 refine o_nil ?_
 repeat (first | refine k1 ?_ | refine k4 ?_)
 refine c_seq ?_
 refine c_sr ?_
 refine o_s (.t (.agg [.lit (.string ⟨⟨p0.Folder⟩⟩), .lit (.int .i64 p0.Seq), .seq 1 (bytesD p0.Prev), .lit (.string ⟨⟨p0.Parent⟩⟩), .seq 2 (List.map cS_api_Member p0.Members), .lit (.int .i64 p0.Cut), .lit (.bool p0.Gone), .lit (.string ⟨⟨p0.By⟩⟩)])) (g0 rfl) rfl rfl rfl ?_
 obtain ⟨x1, h2, h⟩ := bind_some h
 refine o_ca (fc_R28_May _ _ h2) (g0 rfl) rfl rfl rfl rfl rfl rfl rfl (.cons (.refl _) .nil) rfl rfl ?_
 refine o_s (.t (.d (.lit (.bool (!x1))))) (g0 rfl) rfl rfl rfl ?_
 refine o_s (.t (.d (.lit (.bool (!x1))))) (g0 rfl) rfl rfl rfl ?_
 rcases bif_some h with ⟨h3, h⟩ | ⟨h3, h⟩
 ·
  refine o_skip rfl rfl rfl h3 rfl rfl ?_
  refine o_skip rfl rfl rfl h3 rfl rfl ?_
  refine o_skip rfl rfl rfl h3 rfl rfl ?_
  refine o_pk (.t (.d (.lit (.bool true)))) (b := true) h3 (g0 rfl) rfl rfl rfl rfl rfl ?_
  refine o_nil ?_
  repeat (first | refine k1 ?_ | refine k4 ?_)
  refine c_t rfl rfl ?_
  refine c_sr ?_
  refine o_s (.t (.d (.lit (.int .i64 2)))) (g0 rfl) rfl rfl rfl ?_
  refine o_nil ?_
  repeat (first | refine k1 ?_ | refine k4 ?_)
  refine c_ret ?_
  repeat (first | refine k3 ?_ | refine k5 ?_)
  obtain rfl := Option.some.inj h
  exact end0 rfl (.refl _)
 ·
  refine o_s (.t (.agg [.lit (.string ⟨⟨p2.Folder⟩⟩), .lit (.int .i64 p2.Seq), .seq 1 (bytesD p2.Prev), .lit (.string ⟨⟨p2.Parent⟩⟩), .seq 2 (List.map cS_api_Member p2.Members), .lit (.int .i64 p2.Cut), .lit (.bool p2.Gone), .lit (.string ⟨⟨p2.By⟩⟩)])) (gy rfl rfl rfl h3) rfl rfl rfl ?_
  obtain ⟨x4, h5, h⟩ := bind_some h
  refine o_ca (fc_R28_May _ _ h5) (gy rfl rfl rfl h3) rfl rfl rfl rfl rfl rfl rfl (.cons (.refl _) .nil) rfl rfl ?_
  refine o_s (.t (.d (.lit (.bool (!x4))))) (gy rfl rfl rfl h3) rfl rfl rfl ?_
  refine o_pk (.t (.d (.lit (.bool (!x4))))) (b := false) h3 (g0 rfl) rfl rfl rfl rfl rfl ?_
  refine o_nil ?_
  repeat (first | refine k1 ?_ | refine k4 ?_)
  rcases bif_some h with ⟨h6, h⟩ | ⟨h6, h⟩
  ·
   refine c_t h6 rfl ?_
   refine c_sr ?_
   refine o_s (.t (.d (.lit (.int .i64 2)))) (g0 rfl) rfl rfl rfl ?_
   refine o_nil ?_
   repeat (first | refine k1 ?_ | refine k4 ?_)
   refine c_ret ?_
   repeat (first | refine k3 ?_ | refine k5 ?_)
   obtain rfl := Option.some.inj h
   exact end0 rfl (.refl _)
  ·
   refine c_f h6 rfl ?_
   refine c_skip ?_
   repeat (first | refine k1 ?_ | refine k4 ?_)
   refine c_seq ?_
   refine c_sr ?_
   refine o_s (.ref 3 6) (g0 rfl) rfl rfl rfl ?_
   refine o_s (.t (.d (.lit (.bool p0.Gone)))) (g0 rfl) rfl rfl rfl ?_
   refine o_s (.t (.d (.lit (.bool p0.Gone)))) (g0 rfl) rfl rfl rfl ?_
   rcases bif_some h with ⟨h7, h⟩ | ⟨h7, h⟩
   ·
    refine o_skip rfl rfl rfl h7 rfl rfl ?_
    refine o_skip rfl rfl rfl h7 rfl rfl ?_
    refine o_skip rfl rfl rfl h7 rfl rfl ?_
    refine o_skip rfl rfl rfl h7 rfl rfl ?_
    refine o_skip rfl rfl rfl h7 rfl rfl ?_
    refine o_pk (.t (.d (.lit (.bool true)))) (b := true) h7 (g0 rfl) rfl rfl rfl rfl rfl ?_
    refine o_s (.t (.d (.lit (.bool true)))) (g0 rfl) rfl rfl rfl ?_
    refine o_skip rfl rfl rfl rfl rfl rfl ?_
    refine o_skip rfl rfl rfl rfl rfl rfl ?_
    refine o_skip rfl rfl rfl rfl rfl rfl ?_
    refine o_skip rfl rfl rfl rfl rfl rfl ?_
    refine o_skip rfl rfl rfl rfl rfl rfl ?_
    refine o_skip rfl rfl rfl rfl rfl rfl ?_
    refine o_pk (.t (.d (.lit (.bool true)))) (b := true) rfl (g0 rfl) rfl rfl rfl rfl rfl ?_
    refine o_s (.t (.d (.lit (.bool true)))) (g0 rfl) rfl rfl rfl ?_
    refine o_skip rfl rfl rfl rfl rfl rfl ?_
    refine o_skip rfl rfl rfl rfl rfl rfl ?_
    refine o_skip rfl rfl rfl rfl rfl rfl ?_
    refine o_skip rfl rfl rfl rfl rfl rfl ?_
    refine o_skip rfl rfl rfl rfl rfl rfl ?_
    refine o_pk (.t (.d (.lit (.bool true)))) (b := true) rfl (g0 rfl) rfl rfl rfl rfl rfl ?_
    refine o_nil ?_
    repeat (first | refine k1 ?_ | refine k4 ?_)
    refine c_t rfl rfl ?_
    refine c_sr ?_
    refine o_s (.t (.d (.lit (.int .i64 11)))) (g0 rfl) rfl rfl rfl ?_
    refine o_nil ?_
    repeat (first | refine k1 ?_ | refine k4 ?_)
    refine c_ret ?_
    repeat (first | refine k3 ?_ | refine k5 ?_)
    obtain rfl := Option.some.inj h
    exact end0 rfl (.refl _)
   ·
    refine o_s (.ref 5 0) (gy rfl rfl rfl h7) rfl rfl rfl ?_
    refine o_s (.t (.d (.lit (.string ⟨⟨p2.Folder⟩⟩)))) (gy rfl rfl rfl h7) rfl rfl rfl ?_
    refine o_s (.ref 3 0) (gy rfl rfl rfl h7) rfl rfl rfl ?_
    refine o_s (.t (.d (.lit (.string ⟨⟨p0.Folder⟩⟩)))) (gy rfl rfl rfl h7) rfl rfl rfl ?_
    refine o_c (gy rfl rfl rfl h7) rfl rfl rfl (congrArg (fun z => A.t (.d (.lit (.bool (!z))))) (str_beqL _ _)) trivial ?_
    refine o_pk (.t (.d (.lit (.bool (!(p2.Folder == p0.Folder)))))) (b := false) h7 (g0 rfl) rfl rfl rfl rfl rfl ?_
    refine o_s (.t (.d (.lit (.bool (!(p2.Folder == p0.Folder)))))) (g0 rfl) rfl rfl rfl ?_
    rcases bif_some h with ⟨h8, h⟩ | ⟨h8, h⟩
    ·
     refine o_skip rfl rfl rfl h8 rfl rfl ?_
     refine o_skip rfl rfl rfl h8 rfl rfl ?_
     refine o_skip rfl rfl rfl h8 rfl rfl ?_
     refine o_skip rfl rfl rfl h8 rfl rfl ?_
     refine o_skip rfl rfl rfl h8 rfl rfl ?_
     refine o_skip rfl rfl rfl h8 rfl rfl ?_
     refine o_pk (.t (.d (.lit (.bool true)))) (b := true) h8 (g0 rfl) rfl rfl rfl rfl rfl ?_
     refine o_s (.t (.d (.lit (.bool true)))) (g0 rfl) rfl rfl rfl ?_
     refine o_skip rfl rfl rfl rfl rfl rfl ?_
     refine o_skip rfl rfl rfl rfl rfl rfl ?_
     refine o_skip rfl rfl rfl rfl rfl rfl ?_
     refine o_skip rfl rfl rfl rfl rfl rfl ?_
     refine o_skip rfl rfl rfl rfl rfl rfl ?_
     refine o_pk (.t (.d (.lit (.bool true)))) (b := true) rfl (g0 rfl) rfl rfl rfl rfl rfl ?_
     refine o_nil ?_
     repeat (first | refine k1 ?_ | refine k4 ?_)
     refine c_t rfl rfl ?_
     refine c_sr ?_
     refine o_s (.t (.d (.lit (.int .i64 11)))) (g0 rfl) rfl rfl rfl ?_
     refine o_nil ?_
     repeat (first | refine k1 ?_ | refine k4 ?_)
     refine c_ret ?_
     repeat (first | refine k3 ?_ | refine k5 ?_)
     obtain rfl := Option.some.inj h
     exact end0 rfl (.refl _)
    ·
     refine o_s (.ref 5 1) (gy rfl rfl rfl h8) rfl rfl rfl ?_
     refine o_s (.t (.d (.lit (.int .i64 p2.Seq)))) (gy rfl rfl rfl h8) rfl rfl rfl ?_
     refine o_s (.t (.d (.lit (.int .i64 (wi (p2.Seq - 1)))))) (gy rfl rfl rfl h8) rfl rfl rfl ?_
     refine o_s (.ref 3 1) (gy rfl rfl rfl h8) rfl rfl rfl ?_
     refine o_s (.t (.d (.lit (.int .i64 p0.Seq)))) (gy rfl rfl rfl h8) rfl rfl rfl ?_
     refine o_s (.t (.d (.lit (.bool ((wi (p2.Seq - 1)) != p0.Seq))))) (gy rfl rfl rfl h8) rfl rfl rfl ?_
     refine o_pk (.t (.d (.lit (.bool ((wi (p2.Seq - 1)) != p0.Seq))))) (b := false) h8 (g0 rfl) rfl rfl rfl rfl rfl ?_
     refine o_s (.t (.d (.lit (.bool ((wi (p2.Seq - 1)) != p0.Seq))))) (g0 rfl) rfl rfl rfl ?_
     rcases bif_some h with ⟨h9, h⟩ | ⟨h9, h⟩
     ·
      refine o_skip rfl rfl rfl h9 rfl rfl ?_
      refine o_skip rfl rfl rfl h9 rfl rfl ?_
      refine o_skip rfl rfl rfl h9 rfl rfl ?_
      refine o_skip rfl rfl rfl h9 rfl rfl ?_
      refine o_skip rfl rfl rfl h9 rfl rfl ?_
      refine o_pk (.t (.d (.lit (.bool true)))) (b := true) h9 (g0 rfl) rfl rfl rfl rfl rfl ?_
      refine o_nil ?_
      repeat (first | refine k1 ?_ | refine k4 ?_)
      refine c_t rfl rfl ?_
      refine c_sr ?_
      refine o_s (.t (.d (.lit (.int .i64 11)))) (g0 rfl) rfl rfl rfl ?_
      refine o_nil ?_
      repeat (first | refine k1 ?_ | refine k4 ?_)
      refine c_ret ?_
      repeat (first | refine k3 ?_ | refine k5 ?_)
      obtain rfl := Option.some.inj h
      exact end0 rfl (.refl _)
     ·
      refine o_s (.ref 5 2) (gy rfl rfl rfl h9) rfl rfl rfl ?_
      refine o_s (.t (.d (.seq 1 (bytesD p2.Prev)))) (gy rfl rfl rfl h9) rfl rfl rfl ?_
      refine o_s (.t (.d (.seq 1 (bytesD p1)))) (gy rfl rfl rfl h9) rfl rfl rfl ?_
      obtain ⟨x10, h11, h⟩ := bind_some h
      refine o_ca (fc_R01_Same _ _ _ h11) (gy rfl rfl rfl h9) rfl rfl rfl rfl rfl rfl rfl (.cons (.refl _) (.cons (.refl _) .nil)) rfl rfl ?_
      refine o_s (.t (.d (.lit (.bool (!x10))))) (gy rfl rfl rfl h9) rfl rfl rfl ?_
      refine o_pk (.t (.d (.lit (.bool (!x10))))) (b := false) h9 (g0 rfl) rfl rfl rfl rfl rfl ?_
      refine o_nil ?_
      repeat (first | refine k1 ?_ | refine k4 ?_)
      rcases bif_some h with ⟨h12, h⟩ | ⟨h12, h⟩
      ·
       refine c_t h12 rfl ?_
       refine c_sr ?_
       refine o_s (.t (.d (.lit (.int .i64 11)))) (g0 rfl) rfl rfl rfl ?_
       refine o_nil ?_
       repeat (first | refine k1 ?_ | refine k4 ?_)
       refine c_ret ?_
       repeat (first | refine k3 ?_ | refine k5 ?_)
       obtain rfl := Option.some.inj h
       exact end0 rfl (.refl _)
      ·
       refine c_f h12 rfl ?_
       refine c_skip ?_
       repeat (first | refine k1 ?_ | refine k4 ?_)
       refine c_seq ?_
       refine c_cut (fun (y13 : Bool) => [(3, .box [.d (.lit (.string ⟨⟨p0.Folder⟩⟩)), .d (.lit (.int .i64 p0.Seq)), .d (.seq 1 (bytesD p0.Prev)), .d (.lit (.string ⟨⟨p0.Parent⟩⟩)), .d (.seq 2 (List.map cS_api_Member p0.Members)), .d (.lit (.int .i64 p0.Cut)), .d (.lit (.bool p0.Gone)), .d (.lit (.string ⟨⟨p0.By⟩⟩))]), (5, .box [.d (.lit (.string ⟨⟨p2.Folder⟩⟩)), .d (.lit (.int .i64 p2.Seq)), .d (.seq 1 (bytesD p2.Prev)), .d (.lit (.string ⟨⟨p2.Parent⟩⟩)), .d (.seq 2 (List.map cS_api_Member p2.Members)), .d (.lit (.int .i64 p2.Cut)), .d (.lit (.bool p2.Gone)), .d (.lit (.string ⟨⟨p2.By⟩⟩))]), (50, .t (.d (.lit (.bool y13))))]) (fun (y13 : Bool) => m_R28_Follows_j1 p2 p0 y13 = some r) ?_ ?_
       ·
        refine c_region ?_
        refine o_s (.ref 5 6) (g0 rfl) rfl rfl rfl ?_
        refine o_s (.t (.d (.lit (.bool p2.Gone)))) (g0 rfl) rfl rfl rfl ?_
        refine o_s (.t (.d (.lit (.bool p2.Gone)))) (g0 rfl) rfl rfl rfl ?_
        rcases bif_some h with ⟨h35, h⟩ | ⟨h35, h⟩
        ·
         refine o_skip rfl rfl rfl h35 rfl rfl ?_
         refine o_skip rfl rfl rfl h35 rfl rfl ?_
         refine o_skip rfl rfl rfl h35 rfl rfl ?_
         refine o_skip rfl rfl rfl h35 rfl rfl ?_
         refine o_skip rfl rfl rfl h35 rfl rfl ?_
         refine o_pk (.t (.d (.lit (.bool true)))) (b := true) h35 (g0 rfl) rfl rfl rfl rfl rfl ?_
         refine o_nil ?_
         repeat (first | refine k1 ?_ | refine k4 ?_)
         exact ⟨true, h, ⟨(.refl _), ⟨(.refl _), ⟨(.refl _), trivial⟩⟩⟩, rfl⟩
        ·
         refine o_s (.ref 5 3) (gy rfl rfl rfl h35) rfl rfl rfl ?_
         refine o_s (.t (.d (.lit (.string ⟨⟨p2.Parent⟩⟩)))) (gy rfl rfl rfl h35) rfl rfl rfl ?_
         refine o_s (.ref 3 3) (gy rfl rfl rfl h35) rfl rfl rfl ?_
         refine o_s (.t (.d (.lit (.string ⟨⟨p0.Parent⟩⟩)))) (gy rfl rfl rfl h35) rfl rfl rfl ?_
         refine o_c (gy rfl rfl rfl h35) rfl rfl rfl (congrArg (fun z => A.t (.d (.lit (.bool (!z))))) (str_beqL _ _)) trivial ?_
         refine o_pk (.t (.d (.lit (.bool (!(p2.Parent == p0.Parent)))))) (b := false) h35 (g0 rfl) rfl rfl rfl rfl rfl ?_
         refine o_nil ?_
         repeat (first | refine k1 ?_ | refine k4 ?_)
         exact ⟨(!(p2.Parent == p0.Parent)), h, ⟨(.refl _), ⟨(.refl _), ⟨(.refl _), trivial⟩⟩⟩, rfl⟩
       ·
        rintro y13 h
        rcases bif_some h with ⟨h14, h⟩ | ⟨h14, h⟩
        ·
         refine c_t h14 rfl ?_
         refine c_sr ?_
         refine o_s (.ref 5 1) (g0 rfl) rfl rfl rfl ?_
         refine o_s (.t (.d (.lit (.int .i64 p2.Seq)))) (g0 rfl) rfl rfl rfl ?_
         refine o_s (.t (.d (.lit (.int .i64 p2.Seq)))) (g0 rfl) rfl rfl rfl ?_
         refine o_nil ?_
         repeat (first | refine k1 ?_ | refine k4 ?_)
         refine c_cut (fun (y15 : Int) => [(3, .box [.d (.lit (.string ⟨⟨p0.Folder⟩⟩)), .d (.lit (.int .i64 p0.Seq)), .d (.seq 1 (bytesD p0.Prev)), .d (.lit (.string ⟨⟨p0.Parent⟩⟩)), .d (.seq 2 (List.map cS_api_Member p0.Members)), .d (.lit (.int .i64 p0.Cut)), .d (.lit (.bool p0.Gone)), .d (.lit (.string ⟨⟨p0.By⟩⟩))]), (5, .box [.d (.lit (.string ⟨⟨p2.Folder⟩⟩)), .d (.lit (.int .i64 p2.Seq)), .d (.seq 1 (bytesD p2.Prev)), .d (.lit (.string ⟨⟨p2.Parent⟩⟩)), .d (.seq 2 (List.map cS_api_Member p2.Members)), .d (.lit (.int .i64 p2.Cut)), .d (.lit (.bool p2.Gone)), .d (.lit (.string ⟨⟨p2.By⟩⟩))]), (7, .t (.d (.lit (.int .i64 y15))))]) (fun (y15 : Int) => m_R28_Follows_j2 p0 p2 y15 = some r) ?_ ?_
         ·
          refine c_sr ?_
          refine o_s (.ref 5 6) (g0 rfl) rfl rfl rfl ?_
          refine o_s (.t (.d (.lit (.bool p2.Gone)))) (g0 rfl) rfl rfl rfl ?_
          refine o_nil ?_
          repeat (first | refine k1 ?_ | refine k4 ?_)
          rcases bif_some h with ⟨h25, h⟩ | ⟨h25, h⟩
          ·
           refine c_t h25 rfl ?_
           refine c_region ?_
           refine o_s (.ref 3 5) (g0 rfl) rfl rfl rfl ?_
           refine o_s (.t (.d (.lit (.int .i64 p0.Cut)))) (g0 rfl) rfl rfl rfl ?_
           refine o_s (.t (.d (.lit (.int .i64 p0.Cut)))) (g0 rfl) rfl rfl rfl ?_
           refine o_nil ?_
           repeat (first | refine k1 ?_ | refine k4 ?_)
           exact ⟨p0.Cut, h, ⟨(.refl _), ⟨(.refl _), ⟨(.refl _), trivial⟩⟩⟩, rfl⟩
          ·
           refine c_f h25 rfl ?_
           refine c_skip ?_
           repeat (first | refine k1 ?_ | refine k4 ?_)
           exact ⟨p2.Seq, h, ⟨(.refl _), ⟨(.refl _), ⟨(.refl _), trivial⟩⟩⟩, rfl⟩
         ·
          rintro y15 h
          refine c_cut (fun (_ : Unit) => [(3, .box [.d (.lit (.string ⟨⟨p0.Folder⟩⟩)), .d (.lit (.int .i64 p0.Seq)), .d (.seq 1 (bytesD p0.Prev)), .d (.lit (.string ⟨⟨p0.Parent⟩⟩)), .d (.seq 2 (List.map cS_api_Member p0.Members)), .d (.lit (.int .i64 p0.Cut)), .d (.lit (.bool p0.Gone)), .d (.lit (.string ⟨⟨p0.By⟩⟩))]), (5, .box [.d (.lit (.string ⟨⟨p2.Folder⟩⟩)), .d (.lit (.int .i64 p2.Seq)), .d (.seq 1 (bytesD p2.Prev)), .d (.lit (.string ⟨⟨p2.Parent⟩⟩)), .d (.seq 2 (List.map cS_api_Member p2.Members)), .d (.lit (.int .i64 p2.Cut)), .d (.lit (.bool p2.Gone)), .d (.lit (.string ⟨⟨p2.By⟩⟩))])]) (fun (_ : Unit) => m_R28_Follows_j3 p0 p2 = some r) ?_ ?_
          ·
           refine c_sr ?_
           refine o_s (.ref 3 4) (g0 rfl) rfl rfl rfl ?_
           refine o_s (.t (.d (.seq 2 (List.map cS_api_Member p0.Members)))) (g0 rfl) rfl rfl rfl ?_
           refine o_s (.ref 5 4) (g0 rfl) rfl rfl rfl ?_
           refine o_s (.t (.d (.seq 2 (List.map cS_api_Member p2.Members)))) (g0 rfl) rfl rfl rfl ?_
           obtain ⟨x19, h20, h⟩ := bind_some h
           refine o_ca (fc_R27_Same _ _ _ h20) (g0 rfl) rfl rfl rfl rfl rfl rfl rfl (.cons (.refl _) (.cons (.refl _) .nil)) rfl rfl ?_
           refine o_s (.t (.d (.lit (.bool (!x19))))) (g0 rfl) rfl rfl rfl ?_
           refine o_s (.t (.d (.lit (.bool (!x19))))) (g0 rfl) rfl rfl rfl ?_
           rcases bif_some h with ⟨h21, h⟩ | ⟨h21, h⟩
           ·
            refine o_skip rfl rfl rfl h21 rfl rfl ?_
            refine o_skip rfl rfl rfl h21 rfl rfl ?_
            refine o_skip rfl rfl rfl h21 rfl rfl ?_
            refine o_skip rfl rfl rfl h21 rfl rfl ?_
            refine o_pk (.t (.d (.lit (.bool true)))) (b := true) h21 (g0 rfl) rfl rfl rfl rfl rfl ?_
            refine o_s (.t (.d (.lit (.bool true)))) (g0 rfl) rfl rfl rfl ?_
            refine o_skip rfl rfl rfl rfl rfl rfl ?_
            refine o_skip rfl rfl rfl rfl rfl rfl ?_
            refine o_skip rfl rfl rfl rfl rfl rfl ?_
            refine o_un rfl rfl rfl rfl rfl ?_
            refine o_un rfl rfl rfl rfl rfl ?_
            refine o_un rfl rfl rfl rfl rfl ?_
            refine o_un rfl rfl rfl rfl rfl ?_
            refine o_un rfl rfl rfl rfl rfl ?_
            refine o_skip rfl rfl rfl rfl rfl rfl ?_
            refine o_pk (.t (.d (.lit (.bool true)))) (b := true) rfl (g0 rfl) rfl rfl rfl rfl rfl ?_
            refine o_nil ?_
            repeat (first | refine k1 ?_ | refine k4 ?_)
            refine c_t rfl rfl ?_
            refine c_sr ?_
            refine o_s (.t (.d (.lit (.int .i64 11)))) (g0 rfl) rfl rfl rfl ?_
            refine o_nil ?_
            repeat (first | refine k1 ?_ | refine k4 ?_)
            refine c_ret ?_
            repeat (first | refine k3 ?_ | refine k5 ?_)
            obtain rfl := Option.some.inj h
            exact end0 rfl (.refl _)
           ·
            refine o_s (.ref 5 5) (gy rfl rfl rfl h21) rfl rfl rfl ?_
            refine o_s (.t (.d (.lit (.int .i64 p2.Cut)))) (gy rfl rfl rfl h21) rfl rfl rfl ?_
            refine o_s (.t (.d (.lit (.int .i64 y15)))) (gy rfl rfl rfl h21) rfl rfl rfl ?_
            refine o_s (.t (.d (.lit (.bool (p2.Cut != y15))))) (gy rfl rfl rfl h21) rfl rfl rfl ?_
            refine o_pk (.t (.d (.lit (.bool (p2.Cut != y15))))) (b := false) h21 (g0 rfl) rfl rfl rfl rfl rfl ?_
            refine o_s (.t (.d (.lit (.bool (p2.Cut != y15))))) (g0 rfl) rfl rfl rfl ?_
            rcases bif_some h with ⟨h22, h⟩ | ⟨h22, h⟩
            ·
             refine o_skip rfl rfl rfl h22 rfl rfl ?_
             refine o_skip rfl rfl rfl h22 rfl rfl ?_
             refine o_skip rfl rfl rfl h22 rfl rfl ?_
             refine o_un rfl rfl rfl rfl rfl ?_
             refine o_un rfl rfl rfl rfl rfl ?_
             refine o_un rfl rfl rfl rfl rfl ?_
             refine o_un rfl rfl rfl rfl rfl ?_
             refine o_un rfl rfl rfl rfl rfl ?_
             refine o_skip rfl rfl rfl h22 rfl rfl ?_
             refine o_pk (.t (.d (.lit (.bool true)))) (b := true) h22 (g0 rfl) rfl rfl rfl rfl rfl ?_
             refine o_nil ?_
             repeat (first | refine k1 ?_ | refine k4 ?_)
             refine c_t rfl rfl ?_
             refine c_sr ?_
             refine o_s (.t (.d (.lit (.int .i64 11)))) (g0 rfl) rfl rfl rfl ?_
             refine o_nil ?_
             repeat (first | refine k1 ?_ | refine k4 ?_)
             refine c_ret ?_
             repeat (first | refine k3 ?_ | refine k5 ?_)
             obtain rfl := Option.some.inj h
             exact end0 rfl (.refl _)
            ·
             refine o_s (.ref 5 6) (gy rfl rfl rfl h22) rfl rfl rfl ?_
             refine o_s (.t (.d (.lit (.bool p2.Gone)))) (gy rfl rfl rfl h22) rfl rfl rfl ?_
             refine o_s (.t (.d (.lit (.bool p2.Gone)))) (gy rfl rfl rfl h22) rfl rfl rfl ?_
             rcases bif_some h with ⟨h23, h⟩ | ⟨h23, h⟩
             ·
              refine o_s (.ref 5 3) (gy rfl rfl rfl h23) rfl rfl rfl ?_
              refine o_s (.t (.d (.lit (.string ⟨⟨p2.Parent⟩⟩)))) (gy rfl rfl rfl h23) rfl rfl rfl ?_
              refine o_s (.ref 3 3) (gy rfl rfl rfl h23) rfl rfl rfl ?_
              refine o_s (.t (.d (.lit (.string ⟨⟨p0.Parent⟩⟩)))) (gy rfl rfl rfl h23) rfl rfl rfl ?_
              refine o_c (gy rfl rfl rfl h23) rfl rfl rfl (congrArg (fun z => A.t (.d (.lit (.bool (!z))))) (str_beqL _ _)) trivial ?_
              refine o_pk (.t (.d (.lit (.bool (!(p2.Parent == p0.Parent)))))) (b := true) h23 (gy rfl rfl rfl h22) rfl rfl rfl rfl rfl ?_
              refine o_pk (.t (.d (.lit (.bool (!(p2.Parent == p0.Parent)))))) (b := false) h22 (g0 rfl) rfl rfl rfl rfl rfl ?_
              refine o_nil ?_
              repeat (first | refine k1 ?_ | refine k4 ?_)
              rcases bif_some h with ⟨h24, h⟩ | ⟨h24, h⟩
              ·
               refine c_t h24 rfl ?_
               refine c_sr ?_
               refine o_s (.t (.d (.lit (.int .i64 11)))) (g0 rfl) rfl rfl rfl ?_
               refine o_nil ?_
               repeat (first | refine k1 ?_ | refine k4 ?_)
               refine c_ret ?_
               repeat (first | refine k3 ?_ | refine k5 ?_)
               obtain rfl := Option.some.inj h
               exact end0 rfl (.refl _)
              ·
               refine c_f h24 rfl ?_
               refine c_skip ?_
               repeat (first | refine k1 ?_ | refine k4 ?_)
               exact ⟨(), h, ⟨(.refl _), ⟨(.refl _), trivial⟩⟩, rfl⟩
             ·
              refine o_skip rfl rfl rfl h23 rfl rfl ?_
              refine o_skip rfl rfl rfl h23 rfl rfl ?_
              refine o_skip rfl rfl rfl h23 rfl rfl ?_
              refine o_skip rfl rfl rfl h23 rfl rfl ?_
              refine o_skip rfl rfl rfl h23 rfl rfl ?_
              refine o_pk (.t (.d (.lit (.bool false)))) (b := false) h23 (gy rfl rfl rfl h22) rfl rfl rfl rfl rfl ?_
              refine o_pk (.t (.d (.lit (.bool false)))) (b := false) h22 (g0 rfl) rfl rfl rfl rfl rfl ?_
              refine o_nil ?_
              repeat (first | refine k1 ?_ | refine k4 ?_)
              refine c_f rfl rfl ?_
              refine c_skip ?_
              repeat (first | refine k1 ?_ | refine k4 ?_)
              exact ⟨(), h, ⟨(.refl _), ⟨(.refl _), trivial⟩⟩, rfl⟩
          ·
           rintro ⟨⟩ h
           refine c_seq ?_
           refine c_sr ?_
           refine o_s (.ref 3 4) (g0 rfl) rfl rfl rfl ?_
           refine o_s (.t (.d (.seq 2 (List.map cS_api_Member p0.Members)))) (g0 rfl) rfl rfl rfl ?_
           refine o_s (.ref 5 7) (g0 rfl) rfl rfl rfl ?_
           refine o_s (.t (.d (.lit (.string ⟨⟨p2.By⟩⟩)))) (g0 rfl) rfl rfl rfl ?_
           obtain ⟨x16, h17, h⟩ := bind_some h
           refine o_ca (fc_R27_Of _ _ _ h17) (g0 rfl) rfl rfl rfl rfl rfl rfl rfl (.cons (.refl _) (.cons (.refl _) .nil)) rfl rfl ?_
           refine o_s (.t (.d (.lit (.bool (x16 != 4))))) (g0 rfl) rfl rfl rfl ?_
           refine o_nil ?_
           repeat (first | refine k1 ?_ | refine k4 ?_)
           rcases bif_some h with ⟨h18, h⟩ | ⟨h18, h⟩
           ·
            refine c_t h18 rfl ?_
            refine c_sr ?_
            refine o_s (.t (.d (.lit (.int .i64 40)))) (g0 rfl) rfl rfl rfl ?_
            refine o_nil ?_
            repeat (first | refine k1 ?_ | refine k4 ?_)
            refine c_ret ?_
            repeat (first | refine k3 ?_ | refine k5 ?_)
            obtain rfl := Option.some.inj h
            exact end0 rfl (.refl _)
           ·
            refine c_f h18 rfl ?_
            refine c_skip ?_
            repeat (first | refine k1 ?_ | refine k4 ?_)
            refine c_sr ?_
            refine o_s (.t (.d (.lit (.int .i64 0)))) (g0 rfl) rfl rfl rfl ?_
            refine o_nil ?_
            repeat (first | refine k1 ?_ | refine k4 ?_)
            refine c_ret ?_
            repeat (first | refine k3 ?_ | refine k5 ?_)
            obtain rfl := Option.some.inj h
            exact end0 rfl (.refl _)
        ·
         refine c_f h14 rfl ?_
         refine c_skip ?_
         repeat (first | refine k1 ?_ | refine k4 ?_)
         refine c_sr ?_
         refine o_s (.ref 3 4) (g0 rfl) rfl rfl rfl ?_
         refine o_s (.t (.d (.seq 2 (List.map cS_api_Member p0.Members)))) (g0 rfl) rfl rfl rfl ?_
         refine o_s (.ref 5 4) (g0 rfl) rfl rfl rfl ?_
         refine o_s (.t (.d (.seq 2 (List.map cS_api_Member p2.Members)))) (g0 rfl) rfl rfl rfl ?_
         refine o_s (.ref 5 7) (g0 rfl) rfl rfl rfl ?_
         refine o_s (.t (.d (.lit (.string ⟨⟨p2.By⟩⟩)))) (g0 rfl) rfl rfl rfl ?_
         obtain ⟨x26, h27, h⟩ := bind_some h
         refine o_ca (fc_R27_Step _ _ _ _ h27) (g0 rfl) rfl rfl rfl rfl rfl rfl rfl (.cons (.refl _) (.cons (.refl _) (.cons (.refl _) .nil))) rfl rfl ?_
         refine o_s (.tup [.d (.lit (.bool x26.1)), .d (.lit (.int .i64 x26.2))]) (g0 rfl) rfl rfl rfl ?_
         refine o_s (.t (.d (.lit (.bool x26.1)))) (g0 rfl) rfl rfl rfl ?_
         refine o_s (.t (.d (.lit (.int .i64 x26.2)))) (g0 rfl) rfl rfl rfl ?_
         refine o_s (.t (.d (.lit (.bool x26.1)))) (g0 rfl) rfl rfl rfl ?_
         refine o_s (.t (.d (.lit (.int .i64 x26.2)))) (g0 rfl) rfl rfl rfl ?_
         refine o_nil ?_
         repeat (first | refine k1 ?_ | refine k4 ?_)
         refine c_seq ?_
         refine c_sr ?_
         refine o_s (.t (.d (.lit (.int .i64 x26.2)))) (g0 rfl) rfl rfl rfl ?_
         refine o_s (.t (.d (.lit (.bool (x26.2 != 0))))) (g0 rfl) rfl rfl rfl ?_
         refine o_nil ?_
         repeat (first | refine k1 ?_ | refine k4 ?_)
         rcases bif_some h with ⟨h28, h⟩ | ⟨h28, h⟩
         ·
          refine c_t h28 rfl ?_
          refine c_sr ?_
          refine o_s (.t (.d (.lit (.int .i64 x26.2)))) (g0 rfl) rfl rfl rfl ?_
          refine o_s (.t (.d (.lit (.int .i64 x26.2)))) (g0 rfl) rfl rfl rfl ?_
          refine o_nil ?_
          repeat (first | refine k1 ?_ | refine k4 ?_)
          refine c_ret ?_
          repeat (first | refine k3 ?_ | refine k5 ?_)
          obtain rfl := Option.some.inj h
          exact end0 rfl (.refl _)
         ·
          refine c_f h28 rfl ?_
          refine c_skip ?_
          repeat (first | refine k1 ?_ | refine k4 ?_)
          refine c_seq ?_
          refine c_sr ?_
          refine o_s (.t (.d (.lit (.bool x26.1)))) (g0 rfl) rfl rfl rfl ?_
          refine o_s (.t (.d (.lit (.bool x26.1)))) (g0 rfl) rfl rfl rfl ?_
          rcases bif_some h with ⟨h29, h⟩ | ⟨h29, h⟩
          ·
           refine o_s (.ref 5 5) (gy rfl rfl rfl h29) rfl rfl rfl ?_
           refine o_s (.t (.d (.lit (.int .i64 p2.Cut)))) (gy rfl rfl rfl h29) rfl rfl rfl ?_
           refine o_s (.ref 5 1) (gy rfl rfl rfl h29) rfl rfl rfl ?_
           refine o_s (.t (.d (.lit (.int .i64 p2.Seq)))) (gy rfl rfl rfl h29) rfl rfl rfl ?_
           refine o_s (.t (.d (.lit (.bool (p2.Cut == p2.Seq))))) (gy rfl rfl rfl h29) rfl rfl rfl ?_
           refine o_pk (.t (.d (.lit (.bool (p2.Cut == p2.Seq))))) (b := true) h29 (g0 rfl) rfl rfl rfl rfl rfl ?_
           refine o_s (.t (.d (.lit (.bool (p2.Cut == p2.Seq))))) (g0 rfl) rfl rfl rfl ?_
           rcases bif_some h with ⟨h30, h⟩ | ⟨h30, h⟩
           ·
            refine o_skip rfl rfl rfl h30 rfl rfl ?_
            refine o_skip rfl rfl rfl h30 rfl rfl ?_
            refine o_skip rfl rfl rfl h30 rfl rfl ?_
            refine o_un rfl rfl rfl rfl rfl ?_
            refine o_un rfl rfl rfl rfl rfl ?_
            refine o_un rfl rfl rfl rfl rfl ?_
            refine o_un rfl rfl rfl rfl rfl ?_
            refine o_un rfl rfl rfl rfl rfl ?_
            refine o_skip rfl rfl rfl h30 rfl rfl ?_
            refine o_pk (.t (.d (.lit (.bool true)))) (b := true) h30 (g0 rfl) rfl rfl rfl rfl rfl ?_
            refine o_nil ?_
            repeat (first | refine k1 ?_ | refine k4 ?_)
            refine c_t rfl rfl ?_
            refine c_sr ?_
            refine o_s (.t (.d (.lit (.int .i64 0)))) (g0 rfl) rfl rfl rfl ?_
            refine o_nil ?_
            repeat (first | refine k1 ?_ | refine k4 ?_)
            refine c_ret ?_
            repeat (first | refine k3 ?_ | refine k5 ?_)
            obtain rfl := Option.some.inj h
            exact end0 rfl (.refl _)
           ·
            refine o_s (.t (.d (.lit (.bool x26.1)))) (gy rfl rfl rfl h30) rfl rfl rfl ?_
            refine o_s (.t (.d (.lit (.bool (!x26.1))))) (gy rfl rfl rfl h30) rfl rfl rfl ?_
            refine o_s (.t (.d (.lit (.bool (!x26.1))))) (gy rfl rfl rfl h30) rfl rfl rfl ?_
            rcases bif_some h with ⟨h31, h⟩ | ⟨h31, h⟩
            ·
             refine o_s (.ref 5 5) (gy rfl rfl rfl h31) rfl rfl rfl ?_
             refine o_s (.t (.d (.lit (.int .i64 p2.Cut)))) (gy rfl rfl rfl h31) rfl rfl rfl ?_
             refine o_s (.ref 3 5) (gy rfl rfl rfl h31) rfl rfl rfl ?_
             refine o_s (.t (.d (.lit (.int .i64 p0.Cut)))) (gy rfl rfl rfl h31) rfl rfl rfl ?_
             refine o_s (.t (.d (.lit (.bool (p2.Cut == p0.Cut))))) (gy rfl rfl rfl h31) rfl rfl rfl ?_
             refine o_pk (.t (.d (.lit (.bool (p2.Cut == p0.Cut))))) (b := true) h31 (gy rfl rfl rfl h30) rfl rfl rfl rfl rfl ?_
             refine o_pk (.t (.d (.lit (.bool (p2.Cut == p0.Cut))))) (b := false) h30 (g0 rfl) rfl rfl rfl rfl rfl ?_
             refine o_nil ?_
             repeat (first | refine k1 ?_ | refine k4 ?_)
             rcases bif_some h with ⟨h32, h⟩ | ⟨h32, h⟩
             ·
              refine c_t h32 rfl ?_
              refine c_sr ?_
              refine o_s (.t (.d (.lit (.int .i64 0)))) (g0 rfl) rfl rfl rfl ?_
              refine o_nil ?_
              repeat (first | refine k1 ?_ | refine k4 ?_)
              refine c_ret ?_
              repeat (first | refine k3 ?_ | refine k5 ?_)
              obtain rfl := Option.some.inj h
              exact end0 rfl (.refl _)
             ·
              refine c_f h32 rfl ?_
              refine c_skip ?_
              repeat (first | refine k1 ?_ | refine k4 ?_)
              refine c_sr ?_
              refine o_s (.t (.d (.lit (.int .i64 11)))) (g0 rfl) rfl rfl rfl ?_
              refine o_nil ?_
              repeat (first | refine k1 ?_ | refine k4 ?_)
              refine c_ret ?_
              repeat (first | refine k3 ?_ | refine k5 ?_)
              obtain rfl := Option.some.inj h
              exact end0 rfl (.refl _)
            ·
             refine o_skip rfl rfl rfl h31 rfl rfl ?_
             refine o_skip rfl rfl rfl h31 rfl rfl ?_
             refine o_skip rfl rfl rfl h31 rfl rfl ?_
             refine o_skip rfl rfl rfl h31 rfl rfl ?_
             refine o_skip rfl rfl rfl h31 rfl rfl ?_
             refine o_pk (.t (.d (.lit (.bool false)))) (b := false) h31 (gy rfl rfl rfl h30) rfl rfl rfl rfl rfl ?_
             refine o_pk (.t (.d (.lit (.bool false)))) (b := false) h30 (g0 rfl) rfl rfl rfl rfl rfl ?_
             refine o_nil ?_
             repeat (first | refine k1 ?_ | refine k4 ?_)
             refine c_f rfl rfl ?_
             refine c_skip ?_
             repeat (first | refine k1 ?_ | refine k4 ?_)
             refine c_sr ?_
             refine o_s (.t (.d (.lit (.int .i64 11)))) (g0 rfl) rfl rfl rfl ?_
             refine o_nil ?_
             repeat (first | refine k1 ?_ | refine k4 ?_)
             refine c_ret ?_
             repeat (first | refine k3 ?_ | refine k5 ?_)
             obtain rfl := Option.some.inj h
             exact end0 rfl (.refl _)
          ·
           refine o_skip rfl rfl rfl h29 rfl rfl ?_
           refine o_skip rfl rfl rfl h29 rfl rfl ?_
           refine o_skip rfl rfl rfl h29 rfl rfl ?_
           refine o_skip rfl rfl rfl h29 rfl rfl ?_
           refine o_skip rfl rfl rfl h29 rfl rfl ?_
           refine o_pk (.t (.d (.lit (.bool false)))) (b := false) h29 (g0 rfl) rfl rfl rfl rfl rfl ?_
           refine o_s (.t (.d (.lit (.bool false)))) (g0 rfl) rfl rfl rfl ?_
           refine o_s (.t (.d (.lit (.bool x26.1)))) (gy rfl rfl rfl rfl) rfl rfl rfl ?_
           refine o_s (.t (.d (.lit (.bool (!x26.1))))) (gy rfl rfl rfl rfl) rfl rfl rfl ?_
           refine o_s (.t (.d (.lit (.bool (!x26.1))))) (gy rfl rfl rfl rfl) rfl rfl rfl ?_
           rcases bif_some h with ⟨h33, h⟩ | ⟨h33, h⟩
           ·
            refine o_s (.ref 5 5) (gy rfl rfl rfl h33) rfl rfl rfl ?_
            refine o_s (.t (.d (.lit (.int .i64 p2.Cut)))) (gy rfl rfl rfl h33) rfl rfl rfl ?_
            refine o_s (.ref 3 5) (gy rfl rfl rfl h33) rfl rfl rfl ?_
            refine o_s (.t (.d (.lit (.int .i64 p0.Cut)))) (gy rfl rfl rfl h33) rfl rfl rfl ?_
            refine o_s (.t (.d (.lit (.bool (p2.Cut == p0.Cut))))) (gy rfl rfl rfl h33) rfl rfl rfl ?_
            refine o_pk (.t (.d (.lit (.bool (p2.Cut == p0.Cut))))) (b := true) h33 (gy rfl rfl rfl rfl) rfl rfl rfl rfl rfl ?_
            refine o_pk (.t (.d (.lit (.bool (p2.Cut == p0.Cut))))) (b := false) rfl (g0 rfl) rfl rfl rfl rfl rfl ?_
            refine o_nil ?_
            repeat (first | refine k1 ?_ | refine k4 ?_)
            rcases bif_some h with ⟨h34, h⟩ | ⟨h34, h⟩
            ·
             refine c_t h34 rfl ?_
             refine c_sr ?_
             refine o_s (.t (.d (.lit (.int .i64 0)))) (g0 rfl) rfl rfl rfl ?_
             refine o_nil ?_
             repeat (first | refine k1 ?_ | refine k4 ?_)
             refine c_ret ?_
             repeat (first | refine k3 ?_ | refine k5 ?_)
             obtain rfl := Option.some.inj h
             exact end0 rfl (.refl _)
            ·
             refine c_f h34 rfl ?_
             refine c_skip ?_
             repeat (first | refine k1 ?_ | refine k4 ?_)
             refine c_sr ?_
             refine o_s (.t (.d (.lit (.int .i64 11)))) (g0 rfl) rfl rfl rfl ?_
             refine o_nil ?_
             repeat (first | refine k1 ?_ | refine k4 ?_)
             refine c_ret ?_
             repeat (first | refine k3 ?_ | refine k5 ?_)
             obtain rfl := Option.some.inj h
             exact end0 rfl (.refl _)
           ·
            refine o_skip rfl rfl rfl h33 rfl rfl ?_
            refine o_skip rfl rfl rfl h33 rfl rfl ?_
            refine o_skip rfl rfl rfl h33 rfl rfl ?_
            refine o_skip rfl rfl rfl h33 rfl rfl ?_
            refine o_skip rfl rfl rfl h33 rfl rfl ?_
            refine o_pk (.t (.d (.lit (.bool false)))) (b := false) h33 (gy rfl rfl rfl rfl) rfl rfl rfl rfl rfl ?_
            refine o_pk (.t (.d (.lit (.bool false)))) (b := false) rfl (g0 rfl) rfl rfl rfl rfl rfl ?_
            refine o_nil ?_
            repeat (first | refine k1 ?_ | refine k4 ?_)
            refine c_f rfl rfl ?_
            refine c_skip ?_
            repeat (first | refine k1 ?_ | refine k4 ?_)
            refine c_sr ?_
            refine o_s (.t (.d (.lit (.int .i64 11)))) (g0 rfl) rfl rfl rfl ?_
            refine o_nil ?_
            repeat (first | refine k1 ?_ | refine k4 ?_)
            refine c_ret ?_
            repeat (first | refine k3 ?_ | refine k5 ?_)
            obtain rfl := Option.some.inj h
            exact end0 rfl (.refl _)

theorem fc_R28_Begins (p0 : S_api_Manifest) (r : Int) (h : m_R28_Begins p0 = some r) : FC Try.prog 9 [.t (.agg [.lit (.string ⟨⟨p0.Folder⟩⟩), .lit (.int .i64 p0.Seq), .seq 1 (bytesD p0.Prev), .lit (.string ⟨⟨p0.Parent⟩⟩), .seq 2 (List.map cS_api_Member p0.Members), .lit (.int .i64 p0.Cut), .lit (.bool p0.Gone), .lit (.string ⟨⟨p0.By⟩⟩)])] [] (.t (.d (.lit (.int .i64 r)))) := by
 refine fc_mk (rs := [.tmp 2]) (n := 28) Try.func9 rfl rfl (Nat.le_of_ble_eq_true rfl) rfl (pins := []) rfl (L := [(0, .t (.agg [.lit (.string ⟨⟨p0.Folder⟩⟩), .lit (.int .i64 p0.Seq), .seq 1 (bytesD p0.Prev), .lit (.string ⟨⟨p0.Parent⟩⟩), .seq 2 (List.map cS_api_Member p0.Members), .lit (.int .i64 p0.Cut), .lit (.bool p0.Gone), .lit (.string ⟨⟨p0.By⟩⟩)]))]) rfl ?_
 refine c_sr ?_
 refine o_s (.box [.d (.lit (.string ⟨⟨p0.Folder⟩⟩)), .d (.lit (.int .i64 p0.Seq)), .d (.seq 1 (bytesD p0.Prev)), .d (.lit (.string ⟨⟨p0.Parent⟩⟩)), .d (.seq 2 (List.map cS_api_Member p0.Members)), .d (.lit (.int .i64 p0.Cut)), .d (.lit (.bool p0.Gone)), .d (.lit (.string ⟨⟨p0.By⟩⟩))]) (g0 rfl) rfl rfl rfl ?_
 refine o_s (.t (.d (.lit (.int .i64 0)))) (g0 rfl) rfl rfl rfl ?_
 refine o_nil ?_
 repeat (first | refine k1 ?_ | refine k4 ?_)
 refine c_seq ?_
 refine c_sr ?_
 refine o_s (.t (.agg [.lit (.string ⟨⟨p0.Folder⟩⟩), .lit (.int .i64 p0.Seq), .seq 1 (bytesD p0.Prev), .lit (.string ⟨⟨p0.Parent⟩⟩), .seq 2 (List.map cS_api_Member p0.Members), .lit (.int .i64 p0.Cut), .lit (.bool p0.Gone), .lit (.string ⟨⟨p0.By⟩⟩)])) (g0 rfl) rfl rfl rfl ?_
 obtain ⟨x1, h2, h⟩ := bind_some h
 refine o_ca (fc_R28_May _ _ h2) (g0 rfl) rfl rfl rfl rfl rfl rfl rfl (.cons (.refl _) .nil) rfl rfl ?_
 refine o_s (.t (.d (.lit (.bool (!x1))))) (g0 rfl) rfl rfl rfl ?_
 refine o_nil ?_
 repeat (first | refine k1 ?_ | refine k4 ?_)
 rcases bif_some h with ⟨h3, h⟩ | ⟨h3, h⟩
 ·
  refine c_t h3 rfl ?_
  refine c_sr ?_
  refine o_s (.t (.d (.lit (.int .i64 2)))) (g0 rfl) rfl rfl rfl ?_
  refine o_nil ?_
  repeat (first | refine k1 ?_ | refine k4 ?_)
  refine c_ret ?_
  repeat (first | refine k3 ?_ | refine k5 ?_)
  obtain rfl := Option.some.inj h
  exact end0 rfl (.refl _)
 ·
  refine c_f h3 rfl ?_
  refine c_skip ?_
  repeat (first | refine k1 ?_ | refine k4 ?_)
  refine c_seq ?_
  refine c_sr ?_
  refine o_s (.ref 1 1) (g0 rfl) rfl rfl rfl ?_
  refine o_s (.t (.d (.lit (.int .i64 p0.Seq)))) (g0 rfl) rfl rfl rfl ?_
  refine o_s (.t (.d (.lit (.bool (p0.Seq == 1))))) (g0 rfl) rfl rfl rfl ?_
  refine o_s (.t (.d (.lit (.bool (p0.Seq == 1))))) (g0 rfl) rfl rfl rfl ?_
  rcases bif_some h with ⟨h4, h⟩ | ⟨h4, h⟩
  ·
   refine o_s (.ref 1 4) (gy rfl rfl rfl h4) rfl rfl rfl ?_
   refine o_s (.t (.d (.seq 2 (List.map cS_api_Member p0.Members)))) (gy rfl rfl rfl h4) rfl rfl rfl ?_
   refine o_s (.ref 1 7) (gy rfl rfl rfl h4) rfl rfl rfl ?_
   refine o_s (.t (.d (.lit (.string ⟨⟨p0.By⟩⟩)))) (gy rfl rfl rfl h4) rfl rfl rfl ?_
   refine o_s (.t (.agg [.lit (.string ⟨⟨p0.By⟩⟩), .lit (.int .i64 4)])) (gy rfl rfl rfl h4) rfl rfl rfl ?_
   refine o_s (.t (.own 35 2 (List.map cS_api_Member [(S_api_Member.mk p0.By 4)]))) (gy rfl rfl rfl h4) rfl rfl rfl ?_
   obtain ⟨x5, h6, h⟩ := bind_some h
   refine o_ca (fc_R27_Same _ _ _ h6) (gy rfl rfl rfl h4) rfl rfl rfl rfl rfl rfl rfl (.cons (.refl _) (.cons (.refl _) .nil)) rfl rfl ?_
   refine o_pk (.t (.d (.lit (.bool x5)))) (b := true) h4 (g0 rfl) rfl rfl rfl rfl rfl ?_
   refine o_s (.t (.d (.lit (.bool x5)))) (g0 rfl) rfl rfl rfl ?_
   rcases bif_some h with ⟨h7, h⟩ | ⟨h7, h⟩
   ·
    refine o_s (.ref 1 5) (gy rfl rfl rfl h7) rfl rfl rfl ?_
    refine o_s (.t (.d (.lit (.int .i64 p0.Cut)))) (gy rfl rfl rfl h7) rfl rfl rfl ?_
    refine o_s (.t (.d (.lit (.bool (p0.Cut == 0))))) (gy rfl rfl rfl h7) rfl rfl rfl ?_
    refine o_pk (.t (.d (.lit (.bool (p0.Cut == 0))))) (b := true) h7 (g0 rfl) rfl rfl rfl rfl rfl ?_
    refine o_s (.t (.d (.lit (.bool (p0.Cut == 0))))) (g0 rfl) rfl rfl rfl ?_
    rcases bif_some h with ⟨h8, h⟩ | ⟨h8, h⟩
    ·
     refine o_s (.ref 1 6) (gy rfl rfl rfl h8) rfl rfl rfl ?_
     refine o_s (.t (.d (.lit (.bool p0.Gone)))) (gy rfl rfl rfl h8) rfl rfl rfl ?_
     refine o_s (.t (.d (.lit (.bool (!p0.Gone))))) (gy rfl rfl rfl h8) rfl rfl rfl ?_
     refine o_pk (.t (.d (.lit (.bool (!p0.Gone))))) (b := true) h8 (g0 rfl) rfl rfl rfl rfl rfl ?_
     refine o_nil ?_
     repeat (first | refine k1 ?_ | refine k4 ?_)
     rcases bif_some h with ⟨h9, h⟩ | ⟨h9, h⟩
     ·
      refine c_t h9 rfl ?_
      refine c_sr ?_
      refine o_s (.t (.d (.lit (.int .i64 0)))) (g0 rfl) rfl rfl rfl ?_
      refine o_nil ?_
      repeat (first | refine k1 ?_ | refine k4 ?_)
      refine c_ret ?_
      repeat (first | refine k3 ?_ | refine k5 ?_)
      obtain rfl := Option.some.inj h
      exact end0 rfl (.refl _)
     ·
      refine c_f h9 rfl ?_
      refine c_skip ?_
      repeat (first | refine k1 ?_ | refine k4 ?_)
      refine c_sr ?_
      refine o_s (.t (.d (.lit (.int .i64 11)))) (g0 rfl) rfl rfl rfl ?_
      refine o_nil ?_
      repeat (first | refine k1 ?_ | refine k4 ?_)
      refine c_ret ?_
      repeat (first | refine k3 ?_ | refine k5 ?_)
      obtain rfl := Option.some.inj h
      exact end0 rfl (.refl _)
    ·
     refine o_skip rfl rfl rfl h8 rfl rfl ?_
     refine o_skip rfl rfl rfl h8 rfl rfl ?_
     refine o_skip rfl rfl rfl h8 rfl rfl ?_
     refine o_pk (.t (.d (.lit (.bool false)))) (b := false) h8 (g0 rfl) rfl rfl rfl rfl rfl ?_
     refine o_nil ?_
     repeat (first | refine k1 ?_ | refine k4 ?_)
     refine c_f rfl rfl ?_
     refine c_skip ?_
     repeat (first | refine k1 ?_ | refine k4 ?_)
     refine c_sr ?_
     refine o_s (.t (.d (.lit (.int .i64 11)))) (g0 rfl) rfl rfl rfl ?_
     refine o_nil ?_
     repeat (first | refine k1 ?_ | refine k4 ?_)
     refine c_ret ?_
     repeat (first | refine k3 ?_ | refine k5 ?_)
     obtain rfl := Option.some.inj h
     exact end0 rfl (.refl _)
   ·
    refine o_skip rfl rfl rfl h7 rfl rfl ?_
    refine o_skip rfl rfl rfl h7 rfl rfl ?_
    refine o_skip rfl rfl rfl h7 rfl rfl ?_
    refine o_pk (.t (.d (.lit (.bool false)))) (b := false) h7 (g0 rfl) rfl rfl rfl rfl rfl ?_
    refine o_s (.t (.d (.lit (.bool false)))) (g0 rfl) rfl rfl rfl ?_
    refine o_skip rfl rfl rfl rfl rfl rfl ?_
    refine o_skip rfl rfl rfl rfl rfl rfl ?_
    refine o_skip rfl rfl rfl rfl rfl rfl ?_
    refine o_pk (.t (.d (.lit (.bool false)))) (b := false) rfl (g0 rfl) rfl rfl rfl rfl rfl ?_
    refine o_nil ?_
    repeat (first | refine k1 ?_ | refine k4 ?_)
    refine c_f rfl rfl ?_
    refine c_skip ?_
    repeat (first | refine k1 ?_ | refine k4 ?_)
    refine c_sr ?_
    refine o_s (.t (.d (.lit (.int .i64 11)))) (g0 rfl) rfl rfl rfl ?_
    refine o_nil ?_
    repeat (first | refine k1 ?_ | refine k4 ?_)
    refine c_ret ?_
    repeat (first | refine k3 ?_ | refine k5 ?_)
    obtain rfl := Option.some.inj h
    exact end0 rfl (.refl _)
  ·
   refine o_skip rfl rfl rfl h4 rfl rfl ?_
   refine o_skip rfl rfl rfl h4 rfl rfl ?_
   refine o_skip rfl rfl rfl h4 rfl rfl ?_
   refine o_skip rfl rfl rfl h4 rfl rfl ?_
   refine o_skip rfl rfl rfl h4 rfl rfl ?_
   refine o_skip rfl rfl rfl h4 rfl rfl ?_
   refine o_skip rfl rfl rfl h4 rfl rfl ?_
   refine o_pk (.t (.d (.lit (.bool false)))) (b := false) h4 (g0 rfl) rfl rfl rfl rfl rfl ?_
   refine o_s (.t (.d (.lit (.bool false)))) (g0 rfl) rfl rfl rfl ?_
   refine o_skip rfl rfl rfl rfl rfl rfl ?_
   refine o_skip rfl rfl rfl rfl rfl rfl ?_
   refine o_skip rfl rfl rfl rfl rfl rfl ?_
   refine o_pk (.t (.d (.lit (.bool false)))) (b := false) rfl (g0 rfl) rfl rfl rfl rfl rfl ?_
   refine o_s (.t (.d (.lit (.bool false)))) (g0 rfl) rfl rfl rfl ?_
   refine o_skip rfl rfl rfl rfl rfl rfl ?_
   refine o_skip rfl rfl rfl rfl rfl rfl ?_
   refine o_skip rfl rfl rfl rfl rfl rfl ?_
   refine o_pk (.t (.d (.lit (.bool false)))) (b := false) rfl (g0 rfl) rfl rfl rfl rfl rfl ?_
   refine o_nil ?_
   repeat (first | refine k1 ?_ | refine k4 ?_)
   refine c_f rfl rfl ?_
   refine c_skip ?_
   repeat (first | refine k1 ?_ | refine k4 ?_)
   refine c_sr ?_
   refine o_s (.t (.d (.lit (.int .i64 11)))) (g0 rfl) rfl rfl rfl ?_
   refine o_nil ?_
   repeat (first | refine k1 ?_ | refine k4 ?_)
   refine c_ret ?_
   repeat (first | refine k3 ?_ | refine k5 ?_)
   obtain rfl := Option.some.inj h
   exact end0 rfl (.refl _)

theorem fch_L28_ManifestFollows (p0 : S_api_Manifest) (p1 : (List UInt8)) (p2 : S_api_Manifest) (w0 : Hp) (r : Bool) (h : m_L28_ManifestFollows p0 p1 p2 = some r) : FCH Try.prog 3 [.t (.agg [.lit (.string ⟨⟨p0.Folder⟩⟩), .lit (.int .i64 p0.Seq), .seq 1 (bytesD p0.Prev), .lit (.string ⟨⟨p0.Parent⟩⟩), .seq 2 (List.map cS_api_Member p0.Members), .lit (.int .i64 p0.Cut), .lit (.bool p0.Gone), .lit (.string ⟨⟨p0.By⟩⟩)]), .t (.d (.seq 1 (bytesD p1))), .t (.agg [.lit (.string ⟨⟨p2.Folder⟩⟩), .lit (.int .i64 p2.Seq), .seq 1 (bytesD p2.Prev), .lit (.string ⟨⟨p2.Parent⟩⟩), .seq 2 (List.map cS_api_Member p2.Members), .lit (.int .i64 p2.Cut), .lit (.bool p2.Gone), .lit (.string ⟨⟨p2.By⟩⟩)])] [] [] (hpA w0) (hpA w0) (.t (.d (.lit (.bool r)))) := by
 refine fch_mk (rs := [.tmp 6]) (n := 38) [] Try.func3 rfl rfl (Nat.le_of_ble_eq_true rfl) rfl (pins := []) rfl (L := [(HK, .hp (hpA w0)), (0, .t (.agg [.lit (.string ⟨⟨p0.Folder⟩⟩), .lit (.int .i64 p0.Seq), .seq 1 (bytesD p0.Prev), .lit (.string ⟨⟨p0.Parent⟩⟩), .seq 2 (List.map cS_api_Member p0.Members), .lit (.int .i64 p0.Cut), .lit (.bool p0.Gone), .lit (.string ⟨⟨p0.By⟩⟩)])), (1, .t (.d (.seq 1 (bytesD p1)))), (2, .t (.agg [.lit (.string ⟨⟨p2.Folder⟩⟩), .lit (.int .i64 p2.Seq), .seq 1 (bytesD p2.Prev), .lit (.string ⟨⟨p2.Parent⟩⟩), .seq 2 (List.map cS_api_Member p2.Members), .lit (.int .i64 p2.Cut), .lit (.bool p2.Gone), .lit (.string ⟨⟨p2.By⟩⟩)]))]) rfl ?_
 refine c_sr ?_
 refine o_s (.box [.d (.lit (.string ⟨⟨p0.Folder⟩⟩)), .d (.lit (.int .i64 p0.Seq)), .d (.seq 1 (bytesD p0.Prev)), .d (.lit (.string ⟨⟨p0.Parent⟩⟩)), .d (.seq 2 (List.map cS_api_Member p0.Members)), .d (.lit (.int .i64 p0.Cut)), .d (.lit (.bool p0.Gone)), .d (.lit (.string ⟨⟨p0.By⟩⟩))]) (g0 rfl) rfl rfl rfl ?_
 refine o_s (.box [.d (.lit (.string ⟨⟨p2.Folder⟩⟩)), .d (.lit (.int .i64 p2.Seq)), .d (.seq 1 (bytesD p2.Prev)), .d (.lit (.string ⟨⟨p2.Parent⟩⟩)), .d (.seq 2 (List.map cS_api_Member p2.Members)), .d (.lit (.int .i64 p2.Cut)), .d (.lit (.bool p2.Gone)), .d (.lit (.string ⟨⟨p2.By⟩⟩))]) (g0 rfl) rfl rfl rfl ?_
 refine o_s (.t (.d (.lit (.bool false)))) (g0 rfl) rfl rfl rfl ?_
 refine o_nil ?_
 repeat (first | refine k1 ?_ | refine k4 ?_)
 refine c_seq ?_
 refine c_sr ?_
 obtain ⟨x1, h2, h⟩ := bind_some h
 refine o_ca (fc_L28_awake _ h2) (g0 rfl) rfl rfl rfl rfl rfl rfl rfl .nil rfl rfl ?_
 refine o_s (.t (.d (.lit (.bool (!x1))))) (g0 rfl) rfl rfl rfl ?_
 refine o_nil ?_
 repeat (first | refine k1 ?_ | refine k4 ?_)
 rcases bif_some h with ⟨h3, h⟩ | ⟨h3, h⟩
 ·
  refine c_t h3 rfl ?_
  refine c_sr ?_
  refine o_s (.t (.d (.lit (.bool false)))) (g0 rfl) rfl rfl rfl ?_
  refine o_nil ?_
  repeat (first | refine k1 ?_ | refine k4 ?_)
  refine c_ret ?_
  repeat (first | refine k3 ?_ | refine k5 ?_)
  obtain rfl := Option.some.inj h
  exact ⟨⟨_, rfl, (.refl _)⟩, trivial, rfl⟩
 ·
  refine c_f h3 rfl ?_
  refine c_skip ?_
  repeat (first | refine k1 ?_ | refine k4 ?_)
  refine c_seq ?_
  refine c_sr ?_
  refine o_s (.t (.agg [.lit (.string ⟨⟨p0.Folder⟩⟩), .lit (.int .i64 p0.Seq), .seq 1 (bytesD p0.Prev), .lit (.string ⟨⟨p0.Parent⟩⟩), .seq 2 (List.map cS_api_Member p0.Members), .lit (.int .i64 p0.Cut), .lit (.bool p0.Gone), .lit (.string ⟨⟨p0.By⟩⟩)])) (g0 rfl) rfl rfl rfl ?_
  obtain ⟨x4, h5, h⟩ := bind_some h
  refine o_ca (fc_L28_Few _ _ h5) (g0 rfl) rfl rfl rfl rfl rfl rfl rfl (.cons (.refl _) .nil) rfl rfl ?_
  refine o_s (.t (.d (.lit (.bool (!x4))))) (g0 rfl) rfl rfl rfl ?_
  refine o_s (.t (.d (.lit (.bool (!x4))))) (g0 rfl) rfl rfl rfl ?_
  rcases bif_some h with ⟨h6, h⟩ | ⟨h6, h⟩
  ·
   refine o_skip rfl rfl rfl h6 rfl rfl ?_
   refine o_skip rfl rfl rfl h6 rfl rfl ?_
   refine o_skip rfl rfl rfl h6 rfl rfl ?_
   refine o_pk (.t (.d (.lit (.bool true)))) (b := true) h6 (g0 rfl) rfl rfl rfl rfl rfl ?_
   refine o_s (.t (.d (.lit (.bool true)))) (g0 rfl) rfl rfl rfl ?_
   refine o_skip rfl rfl rfl rfl rfl rfl ?_
   refine o_skip rfl rfl rfl rfl rfl rfl ?_
   refine o_skip rfl rfl rfl rfl rfl rfl ?_
   refine o_pk (.t (.d (.lit (.bool true)))) (b := true) rfl (g0 rfl) rfl rfl rfl rfl rfl ?_
   refine o_nil ?_
   repeat (first | refine k1 ?_ | refine k4 ?_)
   refine c_t rfl rfl ?_
   refine c_sr ?_
   refine o_s (.t (.d (.lit (.bool true)))) (g0 rfl) rfl rfl rfl ?_
   refine o_nil ?_
   repeat (first | refine k1 ?_ | refine k4 ?_)
   refine c_ret ?_
   repeat (first | refine k3 ?_ | refine k5 ?_)
   obtain rfl := Option.some.inj h
   exact ⟨⟨_, rfl, (.refl _)⟩, trivial, rfl⟩
  ·
   refine o_s (.t (.agg [.lit (.string ⟨⟨p2.Folder⟩⟩), .lit (.int .i64 p2.Seq), .seq 1 (bytesD p2.Prev), .lit (.string ⟨⟨p2.Parent⟩⟩), .seq 2 (List.map cS_api_Member p2.Members), .lit (.int .i64 p2.Cut), .lit (.bool p2.Gone), .lit (.string ⟨⟨p2.By⟩⟩)])) (gy rfl rfl rfl h6) rfl rfl rfl ?_
   obtain ⟨x7, h8, h⟩ := bind_some h
   refine o_ca (fc_L28_Few _ _ h8) (gy rfl rfl rfl h6) rfl rfl rfl rfl rfl rfl rfl (.cons (.refl _) .nil) rfl rfl ?_
   refine o_s (.t (.d (.lit (.bool (!x7))))) (gy rfl rfl rfl h6) rfl rfl rfl ?_
   refine o_pk (.t (.d (.lit (.bool (!x7))))) (b := false) h6 (g0 rfl) rfl rfl rfl rfl rfl ?_
   refine o_s (.t (.d (.lit (.bool (!x7))))) (g0 rfl) rfl rfl rfl ?_
   rcases bif_some h with ⟨h9, h⟩ | ⟨h9, h⟩
   ·
    refine o_skip rfl rfl rfl h9 rfl rfl ?_
    refine o_skip rfl rfl rfl h9 rfl rfl ?_
    refine o_skip rfl rfl rfl h9 rfl rfl ?_
    refine o_pk (.t (.d (.lit (.bool true)))) (b := true) h9 (g0 rfl) rfl rfl rfl rfl rfl ?_
    refine o_nil ?_
    repeat (first | refine k1 ?_ | refine k4 ?_)
    refine c_t rfl rfl ?_
    refine c_sr ?_
    refine o_s (.t (.d (.lit (.bool true)))) (g0 rfl) rfl rfl rfl ?_
    refine o_nil ?_
    repeat (first | refine k1 ?_ | refine k4 ?_)
    refine c_ret ?_
    repeat (first | refine k3 ?_ | refine k5 ?_)
    obtain rfl := Option.some.inj h
    exact ⟨⟨_, rfl, (.refl _)⟩, trivial, rfl⟩
   ·
    refine o_s (.t (.d (.seq 1 (bytesD p1)))) (gy rfl rfl rfl h9) rfl rfl rfl ?_
    refine o_c (gy rfl rfl rfl h9) rfl rfl rfl (lenE _ _) trivial ?_
    refine o_s (.t (.d (.lit (.bool (decide ((p1.length : Int) > 100)))))) (gy rfl rfl rfl h9) rfl rfl rfl ?_
    refine o_pk (.t (.d (.lit (.bool (decide ((p1.length : Int) > 100)))))) (b := false) h9 (g0 rfl) rfl rfl rfl rfl rfl ?_
    refine o_nil ?_
    repeat (first | refine k1 ?_ | refine k4 ?_)
    rcases bif_some h with ⟨h10, h⟩ | ⟨h10, h⟩
    ·
     refine c_t h10 rfl ?_
     refine c_sr ?_
     refine o_s (.t (.d (.lit (.bool true)))) (g0 rfl) rfl rfl rfl ?_
     refine o_nil ?_
     repeat (first | refine k1 ?_ | refine k4 ?_)
     refine c_ret ?_
     repeat (first | refine k3 ?_ | refine k5 ?_)
     obtain rfl := Option.some.inj h
     exact ⟨⟨_, rfl, (.refl _)⟩, trivial, rfl⟩
    ·
     refine c_f h10 rfl ?_
     refine c_skip ?_
     repeat (first | refine k1 ?_ | refine k4 ?_)
     refine c_seq ?_
     refine c_draw mixed (by kernel_rfl) ?_
     refine d_s (.t (.agg [.lit (.string ⟨⟨p0.Folder⟩⟩), .lit (.int .i64 p0.Seq), .seq 1 (bytesD p0.Prev), .lit (.string ⟨⟨p0.Parent⟩⟩), .seq 2 (List.map cS_api_Member p0.Members), .lit (.int .i64 p0.Cut), .lit (.bool p0.Gone), .lit (.string ⟨⟨p0.By⟩⟩)])) rfl (dg0 rfl) rfl rfl rfl rfl ?_
     refine d_s (.t (.d (.seq 1 (bytesD p1)))) rfl (dg0 rfl) rfl rfl rfl rfl ?_
     refine d_s (.t (.agg [.lit (.string ⟨⟨p2.Folder⟩⟩), .lit (.int .i64 p2.Seq), .seq 1 (bytesD p2.Prev), .lit (.string ⟨⟨p2.Parent⟩⟩), .seq 2 (List.map cS_api_Member p2.Members), .lit (.int .i64 p2.Cut), .lit (.bool p2.Gone), .lit (.string ⟨⟨p2.By⟩⟩)])) rfl (dg0 rfl) rfl rfl rfl rfl ?_
     obtain ⟨x11, h12, h⟩ := bind_some h
     refine d_h (e := [(HK, .hp (hpA w0)), (25, .t (.d (.lit (.int .i64 x11))))]) (ks := [HK, 25]) rfl (dg0 rfl) rfl rfl (fun S' hM hk hok => h_call hM hk (σ := []) (fr := []) rfl rfl rfl (hok _ rfl rfl) rfl rfl rfl (fch_manifest_Follows _ _ _ w0 _ h12) (pure_hpA _) (pure_hpA _) rfl rfl rfl rfl (.cons (.plain (.refl _) rfl) (.cons (.plain (.refl _) rfl) (.cons (.plain (.refl _) rfl) .nil))) rfl (.t (.flat rfl))) rfl ?_
     refine d_s (.t (.agg [.lit (.string ⟨⟨p0.Folder⟩⟩), .lit (.int .i64 p0.Seq), .seq 1 (bytesD p0.Prev), .lit (.string ⟨⟨p0.Parent⟩⟩), .seq 2 (List.map cS_api_Member p0.Members), .lit (.int .i64 p0.Cut), .lit (.bool p0.Gone), .lit (.string ⟨⟨p0.By⟩⟩)])) rfl (dg0 rfl) rfl rfl rfl rfl ?_
     refine d_s (.t (.d (.seq 1 (bytesD p1)))) rfl (dg0 rfl) rfl rfl rfl rfl ?_
     refine d_s (.t (.agg [.lit (.string ⟨⟨p2.Folder⟩⟩), .lit (.int .i64 p2.Seq), .seq 1 (bytesD p2.Prev), .lit (.string ⟨⟨p2.Parent⟩⟩), .seq 2 (List.map cS_api_Member p2.Members), .lit (.int .i64 p2.Cut), .lit (.bool p2.Gone), .lit (.string ⟨⟨p2.By⟩⟩)])) rfl (dg0 rfl) rfl rfl rfl rfl ?_
     obtain ⟨x13, h14, h⟩ := bind_some h
     refine d_ca (fc_R28_Follows _ _ _ _ h14) rfl (dg0 rfl) rfl rfl rfl rfl rfl rfl rfl rfl (.cons (.refl _) (.cons (.refl _) (.cons (.refl _) .nil))) rfl rfl ?_
     refine d_s (.t (.d (.lit (.bool (x11 == x13))))) rfl (dg0 rfl) rfl rfl rfl rfl ?_
     refine d_s (.t (.d (.lit (.bool (x11 == x13))))) rfl (dg0 rfl) rfl rfl rfl rfl ?_
     rcases bif_some h with ⟨h15, h⟩ | ⟨h15, h⟩
     ·
      refine d_s (.t (.agg [.lit (.string ⟨⟨p2.Folder⟩⟩), .lit (.int .i64 p2.Seq), .seq 1 (bytesD p2.Prev), .lit (.string ⟨⟨p2.Parent⟩⟩), .seq 2 (List.map cS_api_Member p2.Members), .lit (.int .i64 p2.Cut), .lit (.bool p2.Gone), .lit (.string ⟨⟨p2.By⟩⟩)])) rfl (dgy rfl rfl rfl rfl h15) rfl rfl rfl rfl ?_
      obtain ⟨x16, h17, h⟩ := bind_some h
      refine d_ca (fc_manifest_Begins _ _ h17) rfl (dgy rfl rfl rfl rfl h15) rfl rfl rfl rfl rfl rfl rfl rfl (.cons (.refl _) .nil) rfl rfl ?_
      refine d_s (.t (.agg [.lit (.string ⟨⟨p2.Folder⟩⟩), .lit (.int .i64 p2.Seq), .seq 1 (bytesD p2.Prev), .lit (.string ⟨⟨p2.Parent⟩⟩), .seq 2 (List.map cS_api_Member p2.Members), .lit (.int .i64 p2.Cut), .lit (.bool p2.Gone), .lit (.string ⟨⟨p2.By⟩⟩)])) rfl (dgy rfl rfl rfl rfl h15) rfl rfl rfl rfl ?_
      obtain ⟨x18, h19, h⟩ := bind_some h
      refine d_ca (fc_R28_Begins _ _ h19) rfl (dgy rfl rfl rfl rfl h15) rfl rfl rfl rfl rfl rfl rfl rfl (.cons (.refl _) .nil) rfl rfl ?_
      refine d_s (.t (.d (.lit (.bool (x16 == x18))))) rfl (dgy rfl rfl rfl rfl h15) rfl rfl rfl rfl ?_
      refine d_pk (.t (.d (.lit (.bool (x16 == x18))))) (b := true) h15 rfl (dg0 rfl) rfl rfl rfl rfl rfl rfl ?_
      refine d_s (.t (.d (.lit (.bool (x16 == x18))))) rfl (dg0 rfl) rfl rfl rfl rfl ?_
      refine d_nil (by kernel_rfl) ?_
      repeat (first | refine k1 ?_ | refine k2 ?_ | refine k3 ?_ | refine k4 ?_ | refine k5 ?_ | refine k6 ?_ | refine k7 rfl ?_)
      refine c_ret ?_
      repeat (first | refine k3 ?_ | refine k5 ?_)
      obtain rfl := Option.some.inj h
      exact ⟨⟨_, rfl, (.refl _)⟩, trivial, rfl⟩
     ·
      refine d_skip rfl rfl rfl rfl rfl h15 rfl rfl rfl ?_
      refine d_skip rfl rfl rfl rfl rfl h15 rfl rfl rfl ?_
      refine d_skip rfl rfl rfl rfl rfl h15 rfl rfl rfl ?_
      refine d_skip rfl rfl rfl rfl rfl h15 rfl rfl rfl ?_
      refine d_skip rfl rfl rfl rfl rfl h15 rfl rfl rfl ?_
      refine d_pk (.t (.d (.lit (.bool false)))) (b := false) h15 rfl (dg0 rfl) rfl rfl rfl rfl rfl rfl ?_
      refine d_s (.t (.d (.lit (.bool false)))) rfl (dg0 rfl) rfl rfl rfl rfl ?_
      refine d_nil (by kernel_rfl) ?_
      repeat (first | refine k1 ?_ | refine k2 ?_ | refine k3 ?_ | refine k4 ?_ | refine k5 ?_ | refine k6 ?_ | refine k7 rfl ?_)
      refine c_ret ?_
      repeat (first | refine k3 ?_ | refine k5 ?_)
      obtain rfl := Option.some.inj h
      exact ⟨⟨_, rfl, (.refl _)⟩, trivial, rfl⟩

end Go.Proofs.Ytikaahmonocahaa
