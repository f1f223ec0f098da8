/-
  Walks of functions: each function does what its model tells. Printed by a program of this claim's own (gen.py) off the given translation.
-/
import Derived.Test.YtimdogdplphmoacMfM
import Derived.Test.YtimdogdplphmoacCbW
namespace Go.Proofs.Ytimdogdplphmoac
open Go Go.RowKit
set_option linter.unusedVariables false
set_option maxHeartbeats 4000000
set_option maxRecDepth 20000
theorem fc_tree_Name (p0 : (List UInt8)) (r : Bool) (h : m_tree_Name p0 = some r) : FC Try.prog 46 [.t (.d (.lit (.string ⟨⟨p0⟩⟩)))] [] (.t (.d (.lit (.bool r)))) := by
  refine fc_mk (rs := [.tmp 2]) (n := 36) Try.func46 rfl rfl (Nat.le_of_ble_eq_true rfl) rfl (pins := []) rfl (L := [(0, .t (.d (.lit (.string ⟨⟨p0⟩⟩))))]) rfl ?_
  refine c_seq ?_
  refine c_region ?_
  refine o_s (.t (.d (.lit (.bool false)))) (g0 rfl) rfl rfl rfl ?_
  refine o_nil ?_
  repeat (first | refine then_normal ?_ | refine then_exit ?_ | refine then_ret ?_ | refine block_normal ?_ | refine block_ret ?_ | refine block_exit ?_ | refine block_pass rfl ?_)
  refine c_cut (fun (_ : Unit) => [(0, .t (.d (.lit (.string ⟨⟨p0⟩⟩))))]) (fun (_ : Unit) => m_tree_Name_j1 p0 = some r) ?_ ?_
  · refine c_seq ?_
    refine c_region ?_
    refine o_s (.t (.d (.lit (.string ⟨⟨p0⟩⟩)))) (g0 rfl) rfl rfl rfl ?_
    refine o_s (.t (.d (.lit (.int .i64 (p0.length : Int))))) (g0 rfl) rfl rfl rfl ?_
    refine o_s (.t (.d (.lit (.int .i64 0)))) (g0 rfl) rfl rfl rfl ?_
    refine o_nil ?_
    repeat (first | refine then_normal ?_ | refine then_exit ?_ | refine then_ret ?_ | refine block_normal ?_ | refine block_ret ?_ | refine block_exit ?_ | refine block_pass rfl ?_)
    refine c_block ?_
    refine c_fuel (fun (z2 : Int) => [(0, .t (.d (.lit (.string ⟨⟨p0⟩⟩)))), (6, .t (.d (.lit (.int .i64 (p0.length : Int))))), (7, .t (.d (.lit (.int .i64 z2))))]) (fun nl2 => (fun (z2 : Int) => m_tree_Name_l2 p0 nl2 z2 = some r)) (p0.length + 1) 0 h ⟨(.refl _), ⟨(.refl _), ⟨(.refl _), trivial⟩⟩⟩ rfl ?_
    rintro nl2 z2 h
    cases nl2 with
    | zero => exact none_ne h
    | succ nl2 =>
      refine c_seq ?_
      refine c_region ?_
      refine o_s (.t (.d (.lit (.bool (decide (z2 < (p0.length : Int))))))) (g0 rfl) rfl rfl rfl ?_
      refine o_nil ?_
      repeat (first | refine then_normal ?_ | refine then_exit ?_ | refine then_ret ?_ | refine block_normal ?_ | refine block_ret ?_ | refine block_exit ?_ | refine block_pass rfl ?_)
      refine c_seq ?_
      rcases bif_some h with ⟨h3, h⟩ | ⟨h3, h⟩
      · refine c_t h3 rfl ?_
        refine c_skip ?_
        repeat (first | refine then_normal ?_ | refine then_exit ?_ | refine then_ret ?_ | refine block_normal ?_ | refine block_ret ?_ | refine block_exit ?_ | refine block_pass rfl ?_)
        refine c_seq ?_
        refine c_block ?_
        refine c_seq ?_
        refine c_region ?_
        refine o_s (.t (.d (.lit (.int .i64 z2)))) (g0 rfl) rfl rfl rfl ?_
        refine o_s (.t (.d (.lit (.int .i64 z2)))) (g0 rfl) rfl rfl rfl ?_
        refine o_nil ?_
        repeat (first | refine then_normal ?_ | refine then_exit ?_ | refine then_ret ?_ | refine block_normal ?_ | refine block_ret ?_ | refine block_exit ?_ | refine block_pass rfl ?_)
        refine c_seq ?_
        refine c_region ?_
        refine o_s (.t (.d (.lit (.string ⟨⟨p0⟩⟩)))) (g0 rfl) rfl rfl rfl ?_
        refine o_s (.t (.d (.lit (.int .i64 z2)))) (g0 rfl) rfl rfl rfl ?_
        obtain ⟨x4, h5, h⟩ := bind_some h
        refine o_c (g0 rfl) rfl rfl rfl (strIdxE h5) (strIdxC h5) ?_
        refine o_s (.t (.d (.lit (.int .u8 (x4.toNat : Int))))) (g0 rfl) rfl rfl rfl ?_
        refine o_nil ?_
        repeat (first | refine then_normal ?_ | refine then_exit ?_ | refine then_ret ?_ | refine block_normal ?_ | refine block_ret ?_ | refine block_exit ?_ | refine block_pass rfl ?_)
        refine c_seq ?_
        refine c_region ?_
        refine o_s (.t (.d (.lit (.int .u8 (x4.toNat : Int))))) (g0 rfl) rfl rfl rfl ?_
        refine o_s (.t (.d (.lit (.bool (decide ((x4.toNat : Int) < 97)))))) (g0 rfl) rfl rfl rfl ?_
        refine o_s (.t (.d (.lit (.bool (decide ((x4.toNat : Int) < 97)))))) (g0 rfl) rfl rfl rfl ?_
        rcases bif_some h with ⟨h6, h⟩ | ⟨h6, h⟩
        · refine o_skip rfl rfl rfl h6 rfl rfl ?_
          refine o_skip rfl rfl rfl h6 rfl rfl ?_
          refine o_pk (.t (.d (.lit (.bool true)))) (b := true) h6 (g0 rfl) rfl rfl rfl rfl rfl ?_
          refine o_s (.t (.d (.lit (.bool true)))) (g0 rfl) rfl rfl rfl ?_
          refine o_s (.t (.d (.lit (.int .u8 (x4.toNat : Int))))) (gy rfl rfl rfl rfl) rfl rfl rfl ?_
          refine o_s (.t (.d (.lit (.bool (decide ((x4.toNat : Int) < 48)))))) (gy rfl rfl rfl rfl) rfl rfl rfl ?_
          refine o_s (.t (.d (.lit (.bool (decide ((x4.toNat : Int) < 48)))))) (gy rfl rfl rfl rfl) rfl rfl rfl ?_
          rcases bif_some h with ⟨h7, h⟩ | ⟨h7, h⟩
          · refine o_skip rfl rfl rfl h7 rfl rfl ?_
            refine o_skip rfl rfl rfl h7 rfl rfl ?_
            refine o_pk (.t (.d (.lit (.bool true)))) (b := true) h7 (gy rfl rfl rfl rfl) rfl rfl rfl rfl rfl ?_
            refine o_pk (.t (.d (.lit (.bool true)))) (b := true) rfl (g0 rfl) rfl rfl rfl rfl rfl ?_
            refine o_nil ?_
            repeat (first | refine then_normal ?_ | refine then_exit ?_ | refine then_ret ?_ | refine block_normal ?_ | refine block_ret ?_ | refine block_exit ?_ | refine block_pass rfl ?_)
            refine c_t rfl rfl ?_
            refine c_seq ?_
            refine c_region ?_
            refine o_s (.t (.d (.lit (.bool false)))) (g0 rfl) rfl rfl rfl ?_
            refine o_nil ?_
            repeat (first | refine then_normal ?_ | refine then_exit ?_ | refine then_ret ?_ | refine block_normal ?_ | refine block_ret ?_ | refine block_exit ?_ | refine block_pass rfl ?_)
            refine c_ret ?_
            repeat (first | refine then_normal ?_ | refine then_exit ?_ | refine then_ret ?_ | refine block_normal ?_ | refine block_ret ?_ | refine block_exit ?_ | refine block_pass rfl ?_)
            obtain rfl := Option.some.inj h
            exact end0 rfl (.refl _)
          · refine o_s (.t (.d (.lit (.int .u8 (x4.toNat : Int))))) (gy rfl rfl rfl h7) rfl rfl rfl ?_
            refine o_s (.t (.d (.lit (.bool (decide ((x4.toNat : Int) > 57)))))) (gy rfl rfl rfl h7) rfl rfl rfl ?_
            refine o_pk (.t (.d (.lit (.bool (decide ((x4.toNat : Int) > 57)))))) (b := false) h7 (gy rfl rfl rfl rfl) rfl rfl rfl rfl rfl ?_
            refine o_pk (.t (.d (.lit (.bool (decide ((x4.toNat : Int) > 57)))))) (b := true) rfl (g0 rfl) rfl rfl rfl rfl rfl ?_
            refine o_nil ?_
            repeat (first | refine then_normal ?_ | refine then_exit ?_ | refine then_ret ?_ | refine block_normal ?_ | refine block_ret ?_ | refine block_exit ?_ | refine block_pass rfl ?_)
            rcases bif_some h with ⟨h8, h⟩ | ⟨h8, h⟩
            · refine c_t h8 rfl ?_
              refine c_seq ?_
              refine c_region ?_
              refine o_s (.t (.d (.lit (.bool false)))) (g0 rfl) rfl rfl rfl ?_
              refine o_nil ?_
              repeat (first | refine then_normal ?_ | refine then_exit ?_ | refine then_ret ?_ | refine block_normal ?_ | refine block_ret ?_ | refine block_exit ?_ | refine block_pass rfl ?_)
              refine c_ret ?_
              repeat (first | refine then_normal ?_ | refine then_exit ?_ | refine then_ret ?_ | refine block_normal ?_ | refine block_ret ?_ | refine block_exit ?_ | refine block_pass rfl ?_)
              obtain rfl := Option.some.inj h
              exact end0 rfl (.refl _)
            · refine c_f h8 rfl ?_
              refine c_skip ?_
              repeat (first | refine then_normal ?_ | refine then_exit ?_ | refine then_ret ?_ | refine block_normal ?_ | refine block_ret ?_ | refine block_exit ?_ | refine block_pass rfl ?_)
              refine c_region ?_
              refine o_s (.t (.d (.lit (.int .i64 (wi (z2 + 1)))))) (g0 rfl) rfl rfl rfl ?_
              refine o_s (.t (.d (.lit (.int .i64 (wi (z2 + 1)))))) (g0 rfl) rfl rfl rfl ?_
              refine o_nil ?_
              repeat (first | refine then_normal ?_ | refine then_exit ?_ | refine then_ret ?_ | refine block_normal ?_ | refine block_ret ?_ | refine block_exit ?_ | refine block_pass rfl ?_)
              exact ⟨nl2, (wi (z2 + 1)), Nat.lt_succ_self nl2, h, ⟨(.refl _), ⟨(.refl _), ⟨(.refl _), trivial⟩⟩⟩, rfl⟩
        · refine o_s (.t (.d (.lit (.int .u8 (x4.toNat : Int))))) (gy rfl rfl rfl h6) rfl rfl rfl ?_
          refine o_s (.t (.d (.lit (.bool (decide ((x4.toNat : Int) > 122)))))) (gy rfl rfl rfl h6) rfl rfl rfl ?_
          refine o_pk (.t (.d (.lit (.bool (decide ((x4.toNat : Int) > 122)))))) (b := false) h6 (g0 rfl) rfl rfl rfl rfl rfl ?_
          refine o_s (.t (.d (.lit (.bool (decide ((x4.toNat : Int) > 122)))))) (g0 rfl) rfl rfl rfl ?_
          rcases bif_some h with ⟨h9, h⟩ | ⟨h9, h⟩
          · refine o_s (.t (.d (.lit (.int .u8 (x4.toNat : Int))))) (gy rfl rfl rfl h9) rfl rfl rfl ?_
            refine o_s (.t (.d (.lit (.bool (decide ((x4.toNat : Int) < 48)))))) (gy rfl rfl rfl h9) rfl rfl rfl ?_
            refine o_s (.t (.d (.lit (.bool (decide ((x4.toNat : Int) < 48)))))) (gy rfl rfl rfl h9) rfl rfl rfl ?_
            rcases bif_some h with ⟨h10, h⟩ | ⟨h10, h⟩
            · refine o_skip rfl rfl rfl h10 rfl rfl ?_
              refine o_skip rfl rfl rfl h10 rfl rfl ?_
              refine o_pk (.t (.d (.lit (.bool true)))) (b := true) h10 (gy rfl rfl rfl h9) rfl rfl rfl rfl rfl ?_
              refine o_pk (.t (.d (.lit (.bool true)))) (b := true) h9 (g0 rfl) rfl rfl rfl rfl rfl ?_
              refine o_nil ?_
              repeat (first | refine then_normal ?_ | refine then_exit ?_ | refine then_ret ?_ | refine block_normal ?_ | refine block_ret ?_ | refine block_exit ?_ | refine block_pass rfl ?_)
              refine c_t rfl rfl ?_
              refine c_seq ?_
              refine c_region ?_
              refine o_s (.t (.d (.lit (.bool false)))) (g0 rfl) rfl rfl rfl ?_
              refine o_nil ?_
              repeat (first | refine then_normal ?_ | refine then_exit ?_ | refine then_ret ?_ | refine block_normal ?_ | refine block_ret ?_ | refine block_exit ?_ | refine block_pass rfl ?_)
              refine c_ret ?_
              repeat (first | refine then_normal ?_ | refine then_exit ?_ | refine then_ret ?_ | refine block_normal ?_ | refine block_ret ?_ | refine block_exit ?_ | refine block_pass rfl ?_)
              obtain rfl := Option.some.inj h
              exact end0 rfl (.refl _)
            · refine o_s (.t (.d (.lit (.int .u8 (x4.toNat : Int))))) (gy rfl rfl rfl h10) rfl rfl rfl ?_
              refine o_s (.t (.d (.lit (.bool (decide ((x4.toNat : Int) > 57)))))) (gy rfl rfl rfl h10) rfl rfl rfl ?_
              refine o_pk (.t (.d (.lit (.bool (decide ((x4.toNat : Int) > 57)))))) (b := false) h10 (gy rfl rfl rfl h9) rfl rfl rfl rfl rfl ?_
              refine o_pk (.t (.d (.lit (.bool (decide ((x4.toNat : Int) > 57)))))) (b := true) h9 (g0 rfl) rfl rfl rfl rfl rfl ?_
              refine o_nil ?_
              repeat (first | refine then_normal ?_ | refine then_exit ?_ | refine then_ret ?_ | refine block_normal ?_ | refine block_ret ?_ | refine block_exit ?_ | refine block_pass rfl ?_)
              rcases bif_some h with ⟨h11, h⟩ | ⟨h11, h⟩
              · refine c_t h11 rfl ?_
                refine c_seq ?_
                refine c_region ?_
                refine o_s (.t (.d (.lit (.bool false)))) (g0 rfl) rfl rfl rfl ?_
                refine o_nil ?_
                repeat (first | refine then_normal ?_ | refine then_exit ?_ | refine then_ret ?_ | refine block_normal ?_ | refine block_ret ?_ | refine block_exit ?_ | refine block_pass rfl ?_)
                refine c_ret ?_
                repeat (first | refine then_normal ?_ | refine then_exit ?_ | refine then_ret ?_ | refine block_normal ?_ | refine block_ret ?_ | refine block_exit ?_ | refine block_pass rfl ?_)
                obtain rfl := Option.some.inj h
                exact end0 rfl (.refl _)
              · refine c_f h11 rfl ?_
                refine c_skip ?_
                repeat (first | refine then_normal ?_ | refine then_exit ?_ | refine then_ret ?_ | refine block_normal ?_ | refine block_ret ?_ | refine block_exit ?_ | refine block_pass rfl ?_)
                refine c_region ?_
                refine o_s (.t (.d (.lit (.int .i64 (wi (z2 + 1)))))) (g0 rfl) rfl rfl rfl ?_
                refine o_s (.t (.d (.lit (.int .i64 (wi (z2 + 1)))))) (g0 rfl) rfl rfl rfl ?_
                refine o_nil ?_
                repeat (first | refine then_normal ?_ | refine then_exit ?_ | refine then_ret ?_ | refine block_normal ?_ | refine block_ret ?_ | refine block_exit ?_ | refine block_pass rfl ?_)
                exact ⟨nl2, (wi (z2 + 1)), Nat.lt_succ_self nl2, h, ⟨(.refl _), ⟨(.refl _), ⟨(.refl _), trivial⟩⟩⟩, rfl⟩
          · refine o_skip rfl rfl rfl h9 rfl rfl ?_
            refine o_skip rfl rfl rfl h9 rfl rfl ?_
            refine o_skip rfl rfl rfl h9 rfl rfl ?_
            refine o_un rfl rfl rfl rfl rfl ?_
            refine o_un rfl rfl rfl rfl rfl ?_
            refine o_skip rfl rfl rfl h9 rfl rfl ?_
            refine o_pk (.t (.d (.lit (.bool false)))) (b := false) h9 (g0 rfl) rfl rfl rfl rfl rfl ?_
            refine o_nil ?_
            repeat (first | refine then_normal ?_ | refine then_exit ?_ | refine then_ret ?_ | refine block_normal ?_ | refine block_ret ?_ | refine block_exit ?_ | refine block_pass rfl ?_)
            refine c_f rfl rfl ?_
            refine c_skip ?_
            repeat (first | refine then_normal ?_ | refine then_exit ?_ | refine then_ret ?_ | refine block_normal ?_ | refine block_ret ?_ | refine block_exit ?_ | refine block_pass rfl ?_)
            refine c_region ?_
            refine o_s (.t (.d (.lit (.int .i64 (wi (z2 + 1)))))) (g0 rfl) rfl rfl rfl ?_
            refine o_s (.t (.d (.lit (.int .i64 (wi (z2 + 1)))))) (g0 rfl) rfl rfl rfl ?_
            refine o_nil ?_
            repeat (first | refine then_normal ?_ | refine then_exit ?_ | refine then_ret ?_ | refine block_normal ?_ | refine block_ret ?_ | refine block_exit ?_ | refine block_pass rfl ?_)
            exact ⟨nl2, (wi (z2 + 1)), Nat.lt_succ_self nl2, h, ⟨(.refl _), ⟨(.refl _), ⟨(.refl _), trivial⟩⟩⟩, rfl⟩
      · refine c_f h3 rfl ?_
        refine c_exit ?_
        repeat (first | refine then_normal ?_ | refine then_exit ?_ | refine then_ret ?_ | refine block_normal ?_ | refine block_ret ?_ | refine block_exit ?_ | refine block_pass rfl ?_)
        exact ⟨(), h, ⟨(.refl _), trivial⟩, rfl⟩
  · rintro ⟨⟩ h
    refine c_seq ?_
    refine c_region ?_
    refine o_s (.t (.d (.lit (.string ⟨⟨p0⟩⟩)))) (g0 rfl) rfl rfl rfl ?_
    refine o_s (.t (.d (.lit (.int .i64 (p0.length : Int))))) (g0 rfl) rfl rfl rfl ?_
    refine o_s (.t (.d (.lit (.bool (decide ((p0.length : Int) ≥ 1)))))) (g0 rfl) rfl rfl rfl ?_
    refine o_s (.t (.d (.lit (.bool (decide ((p0.length : Int) ≥ 1)))))) (g0 rfl) rfl rfl rfl ?_
    rcases bif_some h with ⟨h1, h⟩ | ⟨h1, h⟩
    · refine o_s (.t (.d (.lit (.string ⟨⟨p0⟩⟩)))) (gy rfl rfl rfl h1) rfl rfl rfl ?_
      refine o_s (.t (.d (.lit (.int .i64 (p0.length : Int))))) (gy rfl rfl rfl h1) rfl rfl rfl ?_
      refine o_s (.t (.d (.lit (.bool (decide ((p0.length : Int) ≤ 12)))))) (gy rfl rfl rfl h1) rfl rfl rfl ?_
      refine o_pk (.t (.d (.lit (.bool (decide ((p0.length : Int) ≤ 12)))))) (b := true) h1 (g0 rfl) rfl rfl rfl rfl rfl ?_
      refine o_s (.t (.d (.lit (.bool (decide ((p0.length : Int) ≤ 12)))))) (g0 rfl) rfl rfl rfl ?_
      refine o_nil ?_
      repeat (first | refine then_normal ?_ | refine then_exit ?_ | refine then_ret ?_ | refine block_normal ?_ | refine block_ret ?_ | refine block_exit ?_ | refine block_pass rfl ?_)
      refine c_ret ?_
      repeat (first | refine then_normal ?_ | refine then_exit ?_ | refine then_ret ?_ | refine block_normal ?_ | refine block_ret ?_ | refine block_exit ?_ | refine block_pass rfl ?_)
      obtain rfl := Option.some.inj h
      exact end0 rfl (.refl _)
    · refine o_skip rfl rfl rfl h1 rfl rfl ?_
      refine o_skip rfl rfl rfl h1 rfl rfl ?_
      refine o_skip rfl rfl rfl h1 rfl rfl ?_
      refine o_pk (.t (.d (.lit (.bool false)))) (b := false) h1 (g0 rfl) rfl rfl rfl rfl rfl ?_
      refine o_s (.t (.d (.lit (.bool false)))) (g0 rfl) rfl rfl rfl ?_
      refine o_nil ?_
      repeat (first | refine then_normal ?_ | refine then_exit ?_ | refine then_ret ?_ | refine block_normal ?_ | refine block_ret ?_ | refine block_exit ?_ | refine block_pass rfl ?_)
      refine c_ret ?_
      repeat (first | refine then_normal ?_ | refine then_exit ?_ | refine then_ret ?_ | refine block_normal ?_ | refine block_ret ?_ | refine block_exit ?_ | refine block_pass rfl ?_)
      obtain rfl := Option.some.inj h
      exact end0 rfl (.refl _)

theorem fc_role_is (p0 : Int) (r : Bool) (h : m_role_is p0 = some r) : FC Try.prog 78 [.t (.d (.lit (.int .i64 p0)))] [] (.t (.d (.lit (.bool r)))) := by
  refine fc_mk (rs := [.tmp 2]) (n := 9) Try.func78 rfl rfl (Nat.le_of_ble_eq_true rfl) rfl (pins := []) rfl (L := [(0, .t (.d (.lit (.int .i64 p0))))]) rfl ?_
  refine c_seq ?_
  refine c_region ?_
  refine o_s (.t (.d (.lit (.bool false)))) (g0 rfl) rfl rfl rfl ?_
  refine o_nil ?_
  repeat (first | refine then_normal ?_ | refine then_exit ?_ | refine then_ret ?_ | refine block_normal ?_ | refine block_ret ?_ | refine block_exit ?_ | refine block_pass rfl ?_)
  refine c_seq ?_
  refine c_region ?_
  refine o_s (.t (.d (.lit (.int .i64 p0)))) (g0 rfl) rfl rfl rfl ?_
  refine o_s (.t (.d (.lit (.bool (decide (p0 ≥ 1)))))) (g0 rfl) rfl rfl rfl ?_
  refine o_s (.t (.d (.lit (.bool (decide (p0 ≥ 1)))))) (g0 rfl) rfl rfl rfl ?_
  rcases bif_some h with ⟨h1, h⟩ | ⟨h1, h⟩
  · refine o_s (.t (.d (.lit (.int .i64 p0)))) (gy rfl rfl rfl h1) rfl rfl rfl ?_
    refine o_s (.t (.d (.lit (.bool (decide (p0 ≤ 4)))))) (gy rfl rfl rfl h1) rfl rfl rfl ?_
    refine o_pk (.t (.d (.lit (.bool (decide (p0 ≤ 4)))))) (b := true) h1 (g0 rfl) rfl rfl rfl rfl rfl ?_
    refine o_s (.t (.d (.lit (.bool (decide (p0 ≤ 4)))))) (g0 rfl) rfl rfl rfl ?_
    refine o_nil ?_
    repeat (first | refine then_normal ?_ | refine then_exit ?_ | refine then_ret ?_ | refine block_normal ?_ | refine block_ret ?_ | refine block_exit ?_ | refine block_pass rfl ?_)
    refine c_ret ?_
    repeat (first | refine then_normal ?_ | refine then_exit ?_ | refine then_ret ?_ | refine block_normal ?_ | refine block_ret ?_ | refine block_exit ?_ | refine block_pass rfl ?_)
    obtain rfl := Option.some.inj h
    exact end0 rfl (.refl _)
  · refine o_skip rfl rfl rfl h1 rfl rfl ?_
    refine o_skip rfl rfl rfl h1 rfl rfl ?_
    refine o_pk (.t (.d (.lit (.bool false)))) (b := false) h1 (g0 rfl) rfl rfl rfl rfl rfl ?_
    refine o_s (.t (.d (.lit (.bool false)))) (g0 rfl) rfl rfl rfl ?_
    refine o_nil ?_
    repeat (first | refine then_normal ?_ | refine then_exit ?_ | refine then_ret ?_ | refine block_normal ?_ | refine block_ret ?_ | refine block_exit ?_ | refine block_pass rfl ?_)
    refine c_ret ?_
    repeat (first | refine then_normal ?_ | refine then_exit ?_ | refine then_ret ?_ | refine block_normal ?_ | refine block_ret ?_ | refine block_exit ?_ | refine block_pass rfl ?_)
    obtain rfl := Option.some.inj h
    exact end0 rfl (.refl _)

theorem fc_role_With (p0 : (List S_api_Member)) (p1 : Int) (r : (List (List UInt8))) (h : m_role_With p0 p1 = some r) : FC Try.prog 94 [.t (.d (.seq 2 (List.map cS_api_Member p0))), .t (.d (.lit (.int .i64 p1)))] [] (.t (.own 9 1 (List.map cStr r))) := by
  refine fc_mk (rs := [.tmp 4]) (n := 25) Try.func94 rfl rfl (Nat.le_of_ble_eq_true rfl) rfl (pins := []) rfl (L := [(0, .t (.d (.seq 2 (List.map cS_api_Member p0)))), (1, .t (.d (.lit (.int .i64 p1))))]) rfl ?_
  refine c_seq ?_
  refine c_region ?_
  refine o_s (.t (.d (.lit (.slice none 0 0)))) (g0 rfl) rfl rfl rfl ?_
  refine o_nil ?_
  repeat (first | refine then_normal ?_ | refine then_exit ?_ | refine then_ret ?_ | refine block_normal ?_ | refine block_ret ?_ | refine block_exit ?_ | refine block_pass rfl ?_)
  refine c_seq ?_
  refine c_region ?_
  refine o_s (.t (.d (.lit (.slice none 0 0)))) (g0 rfl) rfl rfl rfl ?_
  refine o_nil ?_
  repeat (first | refine then_normal ?_ | refine then_exit ?_ | refine then_ret ?_ | refine block_normal ?_ | refine block_ret ?_ | refine block_exit ?_ | refine block_pass rfl ?_)
  refine c_seq ?_
  refine c_seq ?_
  refine c_region ?_
  refine o_s (.t (.d (.seq 2 (List.map cS_api_Member p0)))) (g0 rfl) rfl rfl rfl ?_
  refine o_c (g0 rfl) rfl rfl rfl (lenE _ _) trivial ?_
  refine o_s (.t (.d (.lit (.int .i64 0)))) (g0 rfl) rfl rfl rfl ?_
  refine o_nil ?_
  repeat (first | refine then_normal ?_ | refine then_exit ?_ | refine then_ret ?_ | refine block_normal ?_ | refine block_ret ?_ | refine block_exit ?_ | refine block_pass rfl ?_)
  refine c_block ?_
  refine c_fuel (fun (q : (List (List UInt8)) × Int) => [(1, .t (.d (.lit (.int .i64 p1)))), (5, .t (.own 9 1 (List.map cStr q.1))), (8, .t (.d (.seq 2 (List.map cS_api_Member p0)))), (9, .t (.d (.lit (.int .i64 (p0.length : Int))))), (10, .t (.d (.lit (.int .i64 q.2))))]) (fun nl1 => (fun (q : (List (List UInt8)) × Int) => m_role_With_l1 p0 p1 nl1 q.1 q.2 = some r)) (p0.length + 1) ([], 0) h ⟨(.refl _), ⟨(.t (.nilOwn _ _)), ⟨(.refl _), ⟨(.refl _), ⟨(.refl _), trivial⟩⟩⟩⟩⟩ rfl ?_
  rintro nl1 ⟨z1, z2⟩ h
  cases nl1 with
  | zero => exact none_ne h
  | succ nl1 =>
    refine c_seq ?_
    refine c_region ?_
    refine o_s (.t (.d (.lit (.bool (decide (z2 < (p0.length : Int))))))) (g0 rfl) rfl rfl rfl ?_
    refine o_nil ?_
    repeat (first | refine then_normal ?_ | refine then_exit ?_ | refine then_ret ?_ | refine block_normal ?_ | refine block_ret ?_ | refine block_exit ?_ | refine block_pass rfl ?_)
    refine c_seq ?_
    rcases bif_some h with ⟨h3, h⟩ | ⟨h3, h⟩
    · refine c_t h3 rfl ?_
      refine c_skip ?_
      repeat (first | refine then_normal ?_ | refine then_exit ?_ | refine then_ret ?_ | refine block_normal ?_ | refine block_ret ?_ | refine block_exit ?_ | refine block_pass rfl ?_)
      refine c_seq ?_
      refine c_block ?_
      refine c_seq ?_
      refine c_region ?_
      obtain ⟨x4, h5, h⟩ := bind_some h
      refine o_c (g0 rfl) rfl rfl rfl (idxE h5) (idxC h5) ?_
      refine o_s (.t (.agg [.lit (.string ⟨⟨x4.Name⟩⟩), .lit (.int .i64 x4.Role)])) (g0 rfl) rfl rfl rfl ?_
      refine o_s (.box [.d (.lit (.string ⟨⟨[]⟩⟩)), .d (.lit (.int .i64 0))]) (g0 rfl) rfl rfl rfl ?_
      refine o_st (.box [.d (.lit (.string ⟨⟨x4.Name⟩⟩)), .d (.lit (.int .i64 x4.Role))]) (g0 rfl) rfl rfl rfl ?_
      refine o_nil ?_
      repeat (first | refine then_normal ?_ | refine then_exit ?_ | refine then_ret ?_ | refine block_normal ?_ | refine block_ret ?_ | refine block_exit ?_ | refine block_pass rfl ?_)
      refine c_seq ?_
      refine c_region ?_
      refine o_s (.ref 7 1) (g0 rfl) rfl rfl rfl ?_
      refine o_s (.t (.d (.lit (.int .i64 x4.Role)))) (g0 rfl) rfl rfl rfl ?_
      refine o_s (.t (.d (.lit (.int .i64 p1)))) (g0 rfl) rfl rfl rfl ?_
      refine o_s (.t (.d (.lit (.bool (decide (x4.Role ≥ p1)))))) (g0 rfl) rfl rfl rfl ?_
      refine o_nil ?_
      repeat (first | refine then_normal ?_ | refine then_exit ?_ | refine then_ret ?_ | refine block_normal ?_ | refine block_ret ?_ | refine block_exit ?_ | refine block_pass rfl ?_)
      rcases bif_some h with ⟨h6, h⟩ | ⟨h6, h⟩
      · refine c_t h6 rfl ?_
        refine c_region ?_
        refine o_2 (.t (.d (.seq 1 (List.map cStr z1)))) (.t (.own 9 1 (List.map cStr z1))) (g0 rfl) rfl rfl rfl ?_
        refine o_s (.ref 7 0) (g0 rfl) rfl rfl rfl ?_
        refine o_s (.t (.d (.lit (.string ⟨⟨x4.Name⟩⟩)))) (g0 rfl) rfl rfl rfl ?_
        refine o_s (.t (.own 9 1 (List.map cStr [x4.Name]))) (g0 rfl) rfl rfl rfl ?_
        obtain ⟨x7, h8, h⟩ := bind_some h
        refine o_2c (g0 rfl) rfl rfl rfl (appE (c := cStr) h8) (appC (c := cStr) h8) ?_
        refine o_2 (.t (.d (.seq 1 (List.map cStr x7)))) (.t (.own 9 1 (List.map cStr x7))) (g0 rfl) rfl rfl rfl ?_
        refine o_nil ?_
        repeat (first | refine then_normal ?_ | refine then_exit ?_ | refine then_ret ?_ | refine block_normal ?_ | refine block_ret ?_ | refine block_exit ?_ | refine block_pass rfl ?_)
        refine c_region ?_
        refine o_s (.t (.d (.lit (.int .i64 (wi (z2 + 1)))))) (g0 rfl) rfl rfl rfl ?_
        refine o_s (.t (.d (.lit (.int .i64 (wi (z2 + 1)))))) (g0 rfl) rfl rfl rfl ?_
        refine o_nil ?_
        repeat (first | refine then_normal ?_ | refine then_exit ?_ | refine then_ret ?_ | refine block_normal ?_ | refine block_ret ?_ | refine block_exit ?_ | refine block_pass rfl ?_)
        exact ⟨nl1, (x7, (wi (z2 + 1))), Nat.lt_succ_self nl1, h, ⟨(.refl _), ⟨(.refl _), ⟨(.refl _), ⟨(.refl _), ⟨(.refl _), trivial⟩⟩⟩⟩⟩, rfl⟩
      · refine c_f h6 rfl ?_
        refine c_skip ?_
        repeat (first | refine then_normal ?_ | refine then_exit ?_ | refine then_ret ?_ | refine block_normal ?_ | refine block_ret ?_ | refine block_exit ?_ | refine block_pass rfl ?_)
        refine c_region ?_
        refine o_s (.t (.d (.lit (.int .i64 (wi (z2 + 1)))))) (g0 rfl) rfl rfl rfl ?_
        refine o_s (.t (.d (.lit (.int .i64 (wi (z2 + 1)))))) (g0 rfl) rfl rfl rfl ?_
        refine o_nil ?_
        repeat (first | refine then_normal ?_ | refine then_exit ?_ | refine then_ret ?_ | refine block_normal ?_ | refine block_ret ?_ | refine block_exit ?_ | refine block_pass rfl ?_)
        exact ⟨nl1, (z1, (wi (z2 + 1))), Nat.lt_succ_self nl1, h, ⟨(.refl _), ⟨(.refl _), ⟨(.refl _), ⟨(.refl _), ⟨(.refl _), trivial⟩⟩⟩⟩⟩, rfl⟩
    · refine c_f h3 rfl ?_
      refine c_exit ?_
      repeat (first | refine then_normal ?_ | refine then_exit ?_ | refine then_ret ?_ | refine block_normal ?_ | refine block_ret ?_ | refine block_exit ?_ | refine block_pass rfl ?_)
      refine c_seq ?_
      refine c_region ?_
      refine o_2 (.t (.d (.seq 1 (List.map cStr z1)))) (.t (.own 9 1 (List.map cStr z1))) (g0 rfl) rfl rfl rfl ?_
      refine o_2 (.t (.d (.seq 1 (List.map cStr z1)))) (.t (.own 9 1 (List.map cStr z1))) (g0 rfl) rfl rfl rfl ?_
      refine o_nil ?_
      repeat (first | refine then_normal ?_ | refine then_exit ?_ | refine then_ret ?_ | refine block_normal ?_ | refine block_ret ?_ | refine block_exit ?_ | refine block_pass rfl ?_)
      refine c_ret ?_
      repeat (first | refine then_normal ?_ | refine then_exit ?_ | refine then_ret ?_ | refine block_normal ?_ | refine block_ret ?_ | refine block_exit ?_ | refine block_pass rfl ?_)
      obtain rfl := Option.some.inj h
      exact end0 rfl (.refl _)

theorem fc_role_owners (p0 : (List S_api_Member)) (r : Int) (h : m_role_owners p0 = some r) : FC Try.prog 79 [.t (.d (.seq 2 (List.map cS_api_Member p0)))] [] (.t (.d (.lit (.int .i64 r)))) := by
  refine fc_mk (rs := [.tmp 2]) (n := 6) Try.func79 rfl rfl (Nat.le_of_ble_eq_true rfl) rfl (pins := []) rfl (L := [(0, .t (.d (.seq 2 (List.map cS_api_Member p0))))]) rfl ?_
  refine c_seq ?_
  refine c_region ?_
  refine o_s (.t (.d (.lit (.int .i64 0)))) (g0 rfl) rfl rfl rfl ?_
  refine o_nil ?_
  repeat (first | refine then_normal ?_ | refine then_exit ?_ | refine then_ret ?_ | refine block_normal ?_ | refine block_ret ?_ | refine block_exit ?_ | refine block_pass rfl ?_)
  refine c_seq ?_
  refine c_region ?_
  refine o_s (.t (.d (.seq 2 (List.map cS_api_Member p0)))) (g0 rfl) rfl rfl rfl ?_
  obtain ⟨x1, h2, h⟩ := bind_some h
  refine o_ca (fc_role_With _ _ _ h2) (g0 rfl) rfl rfl rfl rfl rfl rfl rfl (.cons (.refl _) (.cons (.refl _) .nil)) rfl rfl ?_
  refine o_c (g0 rfl) rfl rfl rfl (lenE _ _) trivial ?_
  refine o_s (.t (.d (.lit (.int .i64 (x1.length : Int))))) (g0 rfl) rfl rfl rfl ?_
  refine o_nil ?_
  repeat (first | refine then_normal ?_ | refine then_exit ?_ | refine then_ret ?_ | refine block_normal ?_ | refine block_ret ?_ | refine block_exit ?_ | refine block_pass rfl ?_)
  refine c_ret ?_
  repeat (first | refine then_normal ?_ | refine then_exit ?_ | refine then_ret ?_ | refine block_normal ?_ | refine block_ret ?_ | refine block_exit ?_ | refine block_pass rfl ?_)
  obtain rfl := Option.some.inj h
  exact end0 rfl (.refl _)

theorem fc_role_Right (p0 : (List S_api_Member)) (r : Bool) (h : m_role_Right p0 = some r) : FC Try.prog 59 [.t (.d (.seq 2 (List.map cS_api_Member p0)))] [] (.t (.d (.lit (.bool r)))) := by
  refine fc_mk (rs := [.tmp 2]) (n := 46) Try.func59 rfl rfl (Nat.le_of_ble_eq_true rfl) rfl (pins := []) rfl (L := [(0, .t (.d (.seq 2 (List.map cS_api_Member p0))))]) rfl ?_
  refine c_seq ?_
  refine c_region ?_
  refine o_s (.t (.d (.lit (.bool false)))) (g0 rfl) rfl rfl rfl ?_
  refine o_nil ?_
  repeat (first | refine then_normal ?_ | refine then_exit ?_ | refine then_ret ?_ | refine block_normal ?_ | refine block_ret ?_ | refine block_exit ?_ | refine block_pass rfl ?_)
  refine c_cut (fun (_ : Unit) => [(0, .t (.d (.seq 2 (List.map cS_api_Member p0))))]) (fun (_ : Unit) => m_role_Right_j1 p0 = some r) ?_ ?_
  · refine c_seq ?_
    refine c_region ?_
    refine o_s (.t (.d (.seq 2 (List.map cS_api_Member p0)))) (g0 rfl) rfl rfl rfl ?_
    refine o_c (g0 rfl) rfl rfl rfl (lenE _ _) trivial ?_
    refine o_s (.t (.d (.lit (.int .i64 0)))) (g0 rfl) rfl rfl rfl ?_
    refine o_nil ?_
    repeat (first | refine then_normal ?_ | refine then_exit ?_ | refine then_ret ?_ | refine block_normal ?_ | refine block_ret ?_ | refine block_exit ?_ | refine block_pass rfl ?_)
    refine c_block ?_
    refine c_fuel (fun (z4 : Int) => [(0, .t (.d (.seq 2 (List.map cS_api_Member p0)))), (5, .t (.d (.seq 2 (List.map cS_api_Member p0)))), (6, .t (.d (.lit (.int .i64 (p0.length : Int))))), (7, .t (.d (.lit (.int .i64 z4))))]) (fun nl2 => (fun (z4 : Int) => m_role_Right_l2 p0 nl2 z4 = some r)) (p0.length + 1) 0 h ⟨(.refl _), ⟨(.refl _), ⟨(.refl _), ⟨(.refl _), trivial⟩⟩⟩⟩ rfl ?_
    rintro nl2 z4 h
    cases nl2 with
    | zero => exact none_ne h
    | succ nl2 =>
      refine c_seq ?_
      refine c_region ?_
      refine o_s (.t (.d (.lit (.bool (decide (z4 < (p0.length : Int))))))) (g0 rfl) rfl rfl rfl ?_
      refine o_nil ?_
      repeat (first | refine then_normal ?_ | refine then_exit ?_ | refine then_ret ?_ | refine block_normal ?_ | refine block_ret ?_ | refine block_exit ?_ | refine block_pass rfl ?_)
      refine c_seq ?_
      rcases bif_some h with ⟨h5, h⟩ | ⟨h5, h⟩
      · refine c_t h5 rfl ?_
        refine c_skip ?_
        repeat (first | refine then_normal ?_ | refine then_exit ?_ | refine then_ret ?_ | refine block_normal ?_ | refine block_ret ?_ | refine block_exit ?_ | refine block_pass rfl ?_)
        refine c_seq ?_
        refine c_block ?_
        refine c_seq ?_
        refine c_region ?_
        refine o_s (.t (.d (.lit (.int .i64 z4)))) (g0 rfl) rfl rfl rfl ?_
        obtain ⟨x6, h7, h⟩ := bind_some h
        refine o_c (g0 rfl) rfl rfl rfl (idxE h7) (idxC h7) ?_
        refine o_s (.t (.agg [.lit (.string ⟨⟨x6.Name⟩⟩), .lit (.int .i64 x6.Role)])) (g0 rfl) rfl rfl rfl ?_
        refine o_s (.box [.d (.lit (.string ⟨⟨[]⟩⟩)), .d (.lit (.int .i64 0))]) (g0 rfl) rfl rfl rfl ?_
        refine o_s (.t (.d (.lit (.int .i64 z4)))) (g0 rfl) rfl rfl rfl ?_
        refine o_st (.box [.d (.lit (.string ⟨⟨x6.Name⟩⟩)), .d (.lit (.int .i64 x6.Role))]) (g0 rfl) rfl rfl rfl ?_
        refine o_nil ?_
        repeat (first | refine then_normal ?_ | refine then_exit ?_ | refine then_ret ?_ | refine block_normal ?_ | refine block_ret ?_ | refine block_exit ?_ | refine block_pass rfl ?_)
        refine c_seq ?_
        refine c_draw mixed (by kernel_rfl) ?_
        refine d_s (.ref 4 0) rfl (dg0 rfl) rfl rfl rfl rfl ?_
        refine d_s (.t (.d (.lit (.string ⟨⟨x6.Name⟩⟩)))) rfl (dg0 rfl) rfl rfl rfl rfl ?_
        obtain ⟨x8, h9, h⟩ := bind_some h
        refine d_ca (fc_tree_Name _ _ h9) rfl (dg0 rfl) rfl rfl rfl rfl rfl rfl rfl rfl (.cons (.refl _) .nil) rfl rfl ?_
        refine d_s (.t (.d (.lit (.bool (!x8))))) rfl (dg0 rfl) rfl rfl rfl rfl ?_
        refine d_s (.t (.d (.lit (.bool (!x8))))) rfl (dg0 rfl) rfl rfl rfl rfl ?_
        rcases bif_some h with ⟨h10, h⟩ | ⟨h10, h⟩
        · refine d_skip rfl rfl rfl rfl rfl h10 rfl rfl rfl ?_
          refine d_skip rfl rfl rfl rfl rfl h10 rfl rfl rfl ?_
          refine d_skip rfl rfl rfl rfl rfl h10 rfl rfl rfl ?_
          refine d_skip rfl rfl rfl rfl rfl h10 rfl rfl rfl ?_
          refine d_pk (.t (.d (.lit (.bool true)))) (b := true) h10 rfl (dg0 rfl) rfl rfl rfl rfl rfl rfl ?_
          refine d_s (.t (.d (.lit (.bool true)))) rfl (dg0 rfl) rfl rfl rfl rfl ?_
          refine d_skip rfl rfl rfl rfl rfl rfl rfl rfl rfl ?_
          refine d_skip rfl rfl rfl rfl rfl rfl rfl rfl rfl ?_
          refine d_skip rfl rfl rfl rfl rfl rfl rfl rfl rfl ?_
          refine d_un rfl rfl rfl rfl rfl rfl rfl rfl ?_
          refine d_un rfl rfl rfl rfl rfl rfl rfl rfl ?_
          refine d_un rfl rfl rfl rfl rfl rfl rfl rfl ?_
          refine d_un rfl rfl rfl rfl rfl rfl rfl rfl ?_
          refine d_un rfl rfl rfl rfl rfl rfl rfl rfl ?_
          refine d_un rfl rfl rfl rfl rfl rfl rfl rfl ?_
          refine d_un rfl rfl rfl rfl rfl rfl rfl rfl ?_
          refine d_un rfl rfl rfl rfl rfl rfl rfl rfl ?_
          refine d_un rfl rfl rfl rfl rfl rfl rfl rfl ?_
          refine d_skip rfl rfl rfl rfl rfl rfl rfl rfl rfl ?_
          refine d_pk (.t (.d (.lit (.bool true)))) (b := true) rfl rfl (dg0 rfl) rfl rfl rfl rfl rfl rfl ?_
          refine d_nil (by kernel_rfl) ?_
          repeat (first | refine then_normal ?_ | refine then_exit ?_ | refine then_ret ?_ | refine block_normal ?_ | refine block_ret ?_ | refine block_exit ?_ | refine block_pass rfl ?_)
          refine c_t rfl rfl ?_
          refine c_seq ?_
          refine c_region ?_
          refine o_s (.t (.d (.lit (.bool false)))) (g0 rfl) rfl rfl rfl ?_
          refine o_nil ?_
          repeat (first | refine then_normal ?_ | refine then_exit ?_ | refine then_ret ?_ | refine block_normal ?_ | refine block_ret ?_ | refine block_exit ?_ | refine block_pass rfl ?_)
          refine c_ret ?_
          repeat (first | refine then_normal ?_ | refine then_exit ?_ | refine then_ret ?_ | refine block_normal ?_ | refine block_ret ?_ | refine block_exit ?_ | refine block_pass rfl ?_)
          obtain rfl := Option.some.inj h
          exact end0 rfl (.refl _)
        · refine d_s (.ref 4 1) rfl (dgy rfl rfl rfl rfl h10) rfl rfl rfl rfl ?_
          refine d_s (.t (.d (.lit (.int .i64 x6.Role)))) rfl (dgy rfl rfl rfl rfl h10) rfl rfl rfl rfl ?_
          obtain ⟨x11, h12, h⟩ := bind_some h
          refine d_ca (fc_role_is _ _ h12) rfl (dgy rfl rfl rfl rfl h10) rfl rfl rfl rfl rfl rfl rfl rfl (.cons (.refl _) .nil) rfl rfl ?_
          refine d_s (.t (.d (.lit (.bool (!x11))))) rfl (dgy rfl rfl rfl rfl h10) rfl rfl rfl rfl ?_
          refine d_pk (.t (.d (.lit (.bool (!x11))))) (b := false) h10 rfl (dg0 rfl) rfl rfl rfl rfl rfl rfl ?_
          refine d_s (.t (.d (.lit (.bool (!x11))))) rfl (dg0 rfl) rfl rfl rfl rfl ?_
          rcases bif_some h with ⟨h13, h⟩ | ⟨h13, h⟩
          · refine d_skip rfl rfl rfl rfl rfl h13 rfl rfl rfl ?_
            refine d_skip rfl rfl rfl rfl rfl h13 rfl rfl rfl ?_
            refine d_skip rfl rfl rfl rfl rfl h13 rfl rfl rfl ?_
            refine d_un rfl rfl rfl rfl rfl rfl rfl rfl ?_
            refine d_un rfl rfl rfl rfl rfl rfl rfl rfl ?_
            refine d_un rfl rfl rfl rfl rfl rfl rfl rfl ?_
            refine d_un rfl rfl rfl rfl rfl rfl rfl rfl ?_
            refine d_un rfl rfl rfl rfl rfl rfl rfl rfl ?_
            refine d_un rfl rfl rfl rfl rfl rfl rfl rfl ?_
            refine d_un rfl rfl rfl rfl rfl rfl rfl rfl ?_
            refine d_un rfl rfl rfl rfl rfl rfl rfl rfl ?_
            refine d_un rfl rfl rfl rfl rfl rfl rfl rfl ?_
            refine d_skip rfl rfl rfl rfl rfl h13 rfl rfl rfl ?_
            refine d_pk (.t (.d (.lit (.bool true)))) (b := true) h13 rfl (dg0 rfl) rfl rfl rfl rfl rfl rfl ?_
            refine d_nil (by kernel_rfl) ?_
            repeat (first | refine then_normal ?_ | refine then_exit ?_ | refine then_ret ?_ | refine block_normal ?_ | refine block_ret ?_ | refine block_exit ?_ | refine block_pass rfl ?_)
            refine c_t rfl rfl ?_
            refine c_seq ?_
            refine c_region ?_
            refine o_s (.t (.d (.lit (.bool false)))) (g0 rfl) rfl rfl rfl ?_
            refine o_nil ?_
            repeat (first | refine then_normal ?_ | refine then_exit ?_ | refine then_ret ?_ | refine block_normal ?_ | refine block_ret ?_ | refine block_exit ?_ | refine block_pass rfl ?_)
            refine c_ret ?_
            repeat (first | refine then_normal ?_ | refine then_exit ?_ | refine then_ret ?_ | refine block_normal ?_ | refine block_ret ?_ | refine block_exit ?_ | refine block_pass rfl ?_)
            obtain rfl := Option.some.inj h
            exact end0 rfl (.refl _)
          · refine d_s (.t (.d (.lit (.int .i64 z4)))) rfl (dgy rfl rfl rfl rfl h13) rfl rfl rfl rfl ?_
            refine d_s (.t (.d (.lit (.bool (decide (z4 > 0)))))) rfl (dgy rfl rfl rfl rfl h13) rfl rfl rfl rfl ?_
            refine d_s (.t (.d (.lit (.bool (decide (z4 > 0)))))) rfl (dgy rfl rfl rfl rfl h13) rfl rfl rfl rfl ?_
            rcases bif_some h with ⟨h14, h⟩ | ⟨h14, h⟩
            · refine d_s (.t (.d (.seq 2 (List.map cS_api_Member p0)))) rfl (dgy rfl rfl rfl rfl h14) rfl rfl rfl rfl ?_
              refine d_s (.t (.d (.lit (.int .i64 z4)))) rfl (dgy rfl rfl rfl rfl h14) rfl rfl rfl rfl ?_
              refine d_s (.t (.d (.lit (.int .i64 (wi (z4 - 1)))))) rfl (dgy rfl rfl rfl rfl h14) rfl rfl rfl rfl ?_
              obtain ⟨x15, h16, h⟩ := bind_some h
              refine d_c rfl (dgy rfl rfl rfl rfl h14) rfl rfl rfl rfl (idxE h16) (idxC h16) ?_
              refine d_s (.imm [.lit (.string ⟨⟨x15.Name⟩⟩), .lit (.int .i64 x15.Role)]) rfl (dgy rfl rfl rfl rfl h14) rfl rfl rfl rfl ?_
              refine d_s (.t (.d (.lit (.string ⟨⟨x15.Name⟩⟩)))) rfl (dgy rfl rfl rfl rfl h14) rfl rfl rfl rfl ?_
              refine d_s (.ref 4 0) rfl (dgy rfl rfl rfl rfl h14) rfl rfl rfl rfl ?_
              refine d_s (.t (.d (.lit (.string ⟨⟨x6.Name⟩⟩)))) rfl (dgy rfl rfl rfl rfl h14) rfl rfl rfl rfl ?_
              refine d_c rfl (dgy rfl rfl rfl rfl h14) rfl rfl rfl rfl (congrArg (fun z => A.t (.d (.lit (.bool z)))) (s_ge _ _)) trivial ?_
              refine d_pk (.t (.d (.lit (.bool (!(sLt x15.Name x6.Name)))))) (b := true) h14 rfl (dgy rfl rfl rfl rfl h13) rfl rfl rfl rfl rfl rfl ?_
              refine d_pk (.t (.d (.lit (.bool (!(sLt x15.Name x6.Name)))))) (b := false) h13 rfl (dg0 rfl) rfl rfl rfl rfl rfl rfl ?_
              refine d_nil (by kernel_rfl) ?_
              repeat (first | refine then_normal ?_ | refine then_exit ?_ | refine then_ret ?_ | refine block_normal ?_ | refine block_ret ?_ | refine block_exit ?_ | refine block_pass rfl ?_)
              rcases bif_some h with ⟨h17, h⟩ | ⟨h17, h⟩
              · refine c_t h17 rfl ?_
                refine c_seq ?_
                refine c_region ?_
                refine o_s (.t (.d (.lit (.bool false)))) (g0 rfl) rfl rfl rfl ?_
                refine o_nil ?_
                repeat (first | refine then_normal ?_ | refine then_exit ?_ | refine then_ret ?_ | refine block_normal ?_ | refine block_ret ?_ | refine block_exit ?_ | refine block_pass rfl ?_)
                refine c_ret ?_
                repeat (first | refine then_normal ?_ | refine then_exit ?_ | refine then_ret ?_ | refine block_normal ?_ | refine block_ret ?_ | refine block_exit ?_ | refine block_pass rfl ?_)
                obtain rfl := Option.some.inj h
                exact end0 rfl (.refl _)
              · refine c_f h17 rfl ?_
                refine c_skip ?_
                repeat (first | refine then_normal ?_ | refine then_exit ?_ | refine then_ret ?_ | refine block_normal ?_ | refine block_ret ?_ | refine block_exit ?_ | refine block_pass rfl ?_)
                refine c_region ?_
                refine o_s (.t (.d (.lit (.int .i64 (wi (z4 + 1)))))) (g0 rfl) rfl rfl rfl ?_
                refine o_s (.t (.d (.lit (.int .i64 (wi (z4 + 1)))))) (g0 rfl) rfl rfl rfl ?_
                refine o_nil ?_
                repeat (first | refine then_normal ?_ | refine then_exit ?_ | refine then_ret ?_ | refine block_normal ?_ | refine block_ret ?_ | refine block_exit ?_ | refine block_pass rfl ?_)
                exact ⟨nl2, (wi (z4 + 1)), Nat.lt_succ_self nl2, h, ⟨(.refl _), ⟨(.refl _), ⟨(.refl _), ⟨(.refl _), trivial⟩⟩⟩⟩, rfl⟩
            · refine d_skip rfl rfl rfl rfl rfl h14 rfl rfl rfl ?_
              refine d_skip rfl rfl rfl rfl rfl h14 rfl rfl rfl ?_
              refine d_skip rfl rfl rfl rfl rfl h14 rfl rfl rfl ?_
              refine d_skip rfl rfl rfl rfl rfl h14 rfl rfl rfl ?_
              refine d_skip rfl rfl rfl rfl rfl h14 rfl rfl rfl ?_
              refine d_skip rfl rfl rfl rfl rfl h14 rfl rfl rfl ?_
              refine d_skip rfl rfl rfl rfl rfl h14 rfl rfl rfl ?_
              refine d_skip rfl rfl rfl rfl rfl h14 rfl rfl rfl ?_
              refine d_skip rfl rfl rfl rfl rfl h14 rfl rfl rfl ?_
              refine d_pk (.t (.d (.lit (.bool false)))) (b := false) h14 rfl (dgy rfl rfl rfl rfl h13) rfl rfl rfl rfl rfl rfl ?_
              refine d_pk (.t (.d (.lit (.bool false)))) (b := false) h13 rfl (dg0 rfl) rfl rfl rfl rfl rfl rfl ?_
              refine d_nil (by kernel_rfl) ?_
              repeat (first | refine then_normal ?_ | refine then_exit ?_ | refine then_ret ?_ | refine block_normal ?_ | refine block_ret ?_ | refine block_exit ?_ | refine block_pass rfl ?_)
              refine c_f rfl rfl ?_
              refine c_skip ?_
              repeat (first | refine then_normal ?_ | refine then_exit ?_ | refine then_ret ?_ | refine block_normal ?_ | refine block_ret ?_ | refine block_exit ?_ | refine block_pass rfl ?_)
              refine c_region ?_
              refine o_s (.t (.d (.lit (.int .i64 (wi (z4 + 1)))))) (g0 rfl) rfl rfl rfl ?_
              refine o_s (.t (.d (.lit (.int .i64 (wi (z4 + 1)))))) (g0 rfl) rfl rfl rfl ?_
              refine o_nil ?_
              repeat (first | refine then_normal ?_ | refine then_exit ?_ | refine then_ret ?_ | refine block_normal ?_ | refine block_ret ?_ | refine block_exit ?_ | refine block_pass rfl ?_)
              exact ⟨nl2, (wi (z4 + 1)), Nat.lt_succ_self nl2, h, ⟨(.refl _), ⟨(.refl _), ⟨(.refl _), ⟨(.refl _), trivial⟩⟩⟩⟩, rfl⟩
      · refine c_f h5 rfl ?_
        refine c_exit ?_
        repeat (first | refine then_normal ?_ | refine then_exit ?_ | refine then_ret ?_ | refine block_normal ?_ | refine block_ret ?_ | refine block_exit ?_ | refine block_pass rfl ?_)
        exact ⟨(), h, ⟨(.refl _), trivial⟩, rfl⟩
  · rintro ⟨⟩ h
    refine c_seq ?_
    refine c_region ?_
    refine o_s (.t (.d (.seq 2 (List.map cS_api_Member p0)))) (g0 rfl) rfl rfl rfl ?_
    refine o_c (g0 rfl) rfl rfl rfl (lenE _ _) trivial ?_
    refine o_s (.t (.d (.lit (.bool (decide ((p0.length : Int) ≤ 8)))))) (g0 rfl) rfl rfl rfl ?_
    refine o_s (.t (.d (.lit (.bool (decide ((p0.length : Int) ≤ 8)))))) (g0 rfl) rfl rfl rfl ?_
    rcases bif_some h with ⟨h1, h⟩ | ⟨h1, h⟩
    · refine o_s (.t (.d (.seq 2 (List.map cS_api_Member p0)))) (gy rfl rfl rfl h1) rfl rfl rfl ?_
      obtain ⟨x2, h3, h⟩ := bind_some h
      refine o_ca (fc_role_owners _ _ h3) (gy rfl rfl rfl h1) rfl rfl rfl rfl rfl rfl rfl (.cons (.refl _) .nil) rfl rfl ?_
      refine o_s (.t (.d (.lit (.bool (decide (x2 > 0)))))) (gy rfl rfl rfl h1) rfl rfl rfl ?_
      refine o_pk (.t (.d (.lit (.bool (decide (x2 > 0)))))) (b := true) h1 (g0 rfl) rfl rfl rfl rfl rfl ?_
      refine o_s (.t (.d (.lit (.bool (decide (x2 > 0)))))) (g0 rfl) rfl rfl rfl ?_
      refine o_nil ?_
      repeat (first | refine then_normal ?_ | refine then_exit ?_ | refine then_ret ?_ | refine block_normal ?_ | refine block_ret ?_ | refine block_exit ?_ | refine block_pass rfl ?_)
      refine c_ret ?_
      repeat (first | refine then_normal ?_ | refine then_exit ?_ | refine then_ret ?_ | refine block_normal ?_ | refine block_ret ?_ | refine block_exit ?_ | refine block_pass rfl ?_)
      obtain rfl := Option.some.inj h
      exact end0 rfl (.refl _)
    · refine o_skip rfl rfl rfl h1 rfl rfl ?_
      refine o_skip rfl rfl rfl h1 rfl rfl ?_
      refine o_skip rfl rfl rfl h1 rfl rfl ?_
      refine o_pk (.t (.d (.lit (.bool false)))) (b := false) h1 (g0 rfl) rfl rfl rfl rfl rfl ?_
      refine o_s (.t (.d (.lit (.bool false)))) (g0 rfl) rfl rfl rfl ?_
      refine o_nil ?_
      repeat (first | refine then_normal ?_ | refine then_exit ?_ | refine then_ret ?_ | refine block_normal ?_ | refine block_ret ?_ | refine block_exit ?_ | refine block_pass rfl ?_)
      refine c_ret ?_
      repeat (first | refine then_normal ?_ | refine then_exit ?_ | refine then_ret ?_ | refine block_normal ?_ | refine block_ret ?_ | refine block_exit ?_ | refine block_pass rfl ?_)
      obtain rfl := Option.some.inj h
      exact end0 rfl (.refl _)

theorem fc_manifest_may (p0 : S_api_Manifest) (r : Bool) (h : m_manifest_may p0 = some r) : FC Try.prog 26 [.t (.agg [.lit (.string ⟨⟨p0.Folder⟩⟩), .lit (.int .i64 p0.Seq), .seq 1 (bytesD p0.Prev), .lit (.string ⟨⟨p0.Parent⟩⟩), .seq 2 (List.map cS_api_Member p0.Members), .lit (.int .i64 p0.Cut), .lit (.bool p0.Gone), .lit (.string ⟨⟨p0.By⟩⟩)])] [] (.t (.d (.lit (.bool r)))) := by
  refine fc_mk (rs := [.tmp 2]) (n := 71) Try.func26 rfl rfl (Nat.le_of_ble_eq_true rfl) rfl (pins := []) rfl (L := [(0, .t (.agg [.lit (.string ⟨⟨p0.Folder⟩⟩), .lit (.int .i64 p0.Seq), .seq 1 (bytesD p0.Prev), .lit (.string ⟨⟨p0.Parent⟩⟩), .seq 2 (List.map cS_api_Member p0.Members), .lit (.int .i64 p0.Cut), .lit (.bool p0.Gone), .lit (.string ⟨⟨p0.By⟩⟩)]))]) rfl ?_
  refine c_seq ?_
  refine c_region ?_
  refine o_s (.box [.d (.lit (.string ⟨⟨p0.Folder⟩⟩)), .d (.lit (.int .i64 p0.Seq)), .d (.seq 1 (bytesD p0.Prev)), .d (.lit (.string ⟨⟨p0.Parent⟩⟩)), .d (.seq 2 (List.map cS_api_Member p0.Members)), .d (.lit (.int .i64 p0.Cut)), .d (.lit (.bool p0.Gone)), .d (.lit (.string ⟨⟨p0.By⟩⟩))]) (g0 rfl) rfl rfl rfl ?_
  refine o_s (.t (.d (.lit (.bool false)))) (g0 rfl) rfl rfl rfl ?_
  refine o_nil ?_
  repeat (first | refine then_normal ?_ | refine then_exit ?_ | refine then_ret ?_ | refine block_normal ?_ | refine block_ret ?_ | refine block_exit ?_ | refine block_pass rfl ?_)
  refine c_cut (fun (_ : Unit) => [(1, .box [.d (.lit (.string ⟨⟨p0.Folder⟩⟩)), .d (.lit (.int .i64 p0.Seq)), .d (.seq 1 (bytesD p0.Prev)), .d (.lit (.string ⟨⟨p0.Parent⟩⟩)), .d (.seq 2 (List.map cS_api_Member p0.Members)), .d (.lit (.int .i64 p0.Cut)), .d (.lit (.bool p0.Gone)), .d (.lit (.string ⟨⟨p0.By⟩⟩))])]) (fun (_ : Unit) => m_manifest_may_j1 p0 = some r) ?_ ?_
  · refine c_block ?_
    refine c_cut (fun (y5 : Bool) => [(1, .box [.d (.lit (.string ⟨⟨p0.Folder⟩⟩)), .d (.lit (.int .i64 p0.Seq)), .d (.seq 1 (bytesD p0.Prev)), .d (.lit (.string ⟨⟨p0.Parent⟩⟩)), .d (.seq 2 (List.map cS_api_Member p0.Members)), .d (.lit (.int .i64 p0.Cut)), .d (.lit (.bool p0.Gone)), .d (.lit (.string ⟨⟨p0.By⟩⟩))]), (3, .t (.d (.lit (.bool y5))))]) (fun (y5 : Bool) => m_manifest_may_j2 p0 y5 = some r) ?_ ?_
    · refine c_region ?_
      refine o_s (.ref 1 0) (g0 rfl) rfl rfl rfl ?_
      refine o_s (.t (.d (.lit (.string ⟨⟨p0.Folder⟩⟩)))) (g0 rfl) rfl rfl rfl ?_
      obtain ⟨x16, h17, h⟩ := bind_some h
      refine o_ca (fc_tree_Name _ _ h17) (g0 rfl) rfl rfl rfl rfl rfl rfl rfl (.cons (.refl _) .nil) rfl rfl ?_
      refine o_s (.t (.d (.lit (.bool (!x16))))) (g0 rfl) rfl rfl rfl ?_
      refine o_s (.t (.d (.lit (.bool (!x16))))) (g0 rfl) rfl rfl rfl ?_
      rcases bif_some h with ⟨h18, h⟩ | ⟨h18, h⟩
      · refine o_skip rfl rfl rfl h18 rfl rfl ?_
        refine o_skip rfl rfl rfl h18 rfl rfl ?_
        refine o_skip rfl rfl rfl h18 rfl rfl ?_
        refine o_skip rfl rfl rfl h18 rfl rfl ?_
        refine o_pk (.t (.d (.lit (.bool true)))) (b := true) h18 (g0 rfl) rfl rfl rfl rfl rfl ?_
        refine o_s (.t (.d (.lit (.bool true)))) (g0 rfl) rfl rfl rfl ?_
        refine o_skip rfl rfl rfl rfl rfl rfl ?_
        refine o_skip rfl rfl rfl rfl rfl rfl ?_
        refine o_skip rfl rfl rfl rfl rfl rfl ?_
        refine o_pk (.t (.d (.lit (.bool true)))) (b := true) rfl (g0 rfl) rfl rfl rfl rfl rfl ?_
        refine o_s (.t (.d (.lit (.bool true)))) (g0 rfl) rfl rfl rfl ?_
        refine o_skip rfl rfl rfl rfl rfl rfl ?_
        refine o_skip rfl rfl rfl rfl rfl rfl ?_
        refine o_skip rfl rfl rfl rfl rfl rfl ?_
        refine o_pk (.t (.d (.lit (.bool true)))) (b := true) rfl (g0 rfl) rfl rfl rfl rfl rfl ?_
        refine o_s (.t (.d (.lit (.bool true)))) (g0 rfl) rfl rfl rfl ?_
        refine o_nil ?_
        repeat (first | refine then_normal ?_ | refine then_exit ?_ | refine then_ret ?_ | refine block_normal ?_ | refine block_ret ?_ | refine block_exit ?_ | refine block_pass rfl ?_)
        exact ⟨true, h, ⟨(.refl _), ⟨(.refl _), trivial⟩⟩, rfl⟩
      · refine o_s (.ref 1 7) (gy rfl rfl rfl h18) rfl rfl rfl ?_
        refine o_s (.t (.d (.lit (.string ⟨⟨p0.By⟩⟩)))) (gy rfl rfl rfl h18) rfl rfl rfl ?_
        obtain ⟨x19, h20, h⟩ := bind_some h
        refine o_ca (fc_tree_Name _ _ h20) (gy rfl rfl rfl h18) rfl rfl rfl rfl rfl rfl rfl (.cons (.refl _) .nil) rfl rfl ?_
        refine o_s (.t (.d (.lit (.bool (!x19))))) (gy rfl rfl rfl h18) rfl rfl rfl ?_
        refine o_pk (.t (.d (.lit (.bool (!x19))))) (b := false) h18 (g0 rfl) rfl rfl rfl rfl rfl ?_
        refine o_s (.t (.d (.lit (.bool (!x19))))) (g0 rfl) rfl rfl rfl ?_
        rcases bif_some h with ⟨h21, h⟩ | ⟨h21, h⟩
        · refine o_skip rfl rfl rfl h21 rfl rfl ?_
          refine o_skip rfl rfl rfl h21 rfl rfl ?_
          refine o_skip rfl rfl rfl h21 rfl rfl ?_
          refine o_pk (.t (.d (.lit (.bool true)))) (b := true) h21 (g0 rfl) rfl rfl rfl rfl rfl ?_
          refine o_s (.t (.d (.lit (.bool true)))) (g0 rfl) rfl rfl rfl ?_
          refine o_skip rfl rfl rfl rfl rfl rfl ?_
          refine o_skip rfl rfl rfl rfl rfl rfl ?_
          refine o_skip rfl rfl rfl rfl rfl rfl ?_
          refine o_pk (.t (.d (.lit (.bool true)))) (b := true) rfl (g0 rfl) rfl rfl rfl rfl rfl ?_
          refine o_s (.t (.d (.lit (.bool true)))) (g0 rfl) rfl rfl rfl ?_
          refine o_nil ?_
          repeat (first | refine then_normal ?_ | refine then_exit ?_ | refine then_ret ?_ | refine block_normal ?_ | refine block_ret ?_ | refine block_exit ?_ | refine block_pass rfl ?_)
          exact ⟨true, h, ⟨(.refl _), ⟨(.refl _), trivial⟩⟩, rfl⟩
        · refine o_s (.ref 1 1) (gy rfl rfl rfl h21) rfl rfl rfl ?_
          refine o_s (.t (.d (.lit (.int .i64 p0.Seq)))) (gy rfl rfl rfl h21) rfl rfl rfl ?_
          refine o_s (.t (.d (.lit (.bool (decide (p0.Seq < 1)))))) (gy rfl rfl rfl h21) rfl rfl rfl ?_
          refine o_pk (.t (.d (.lit (.bool (decide (p0.Seq < 1)))))) (b := false) h21 (g0 rfl) rfl rfl rfl rfl rfl ?_
          refine o_s (.t (.d (.lit (.bool (decide (p0.Seq < 1)))))) (g0 rfl) rfl rfl rfl ?_
          rcases bif_some h with ⟨h22, h⟩ | ⟨h22, h⟩
          · refine o_skip rfl rfl rfl h22 rfl rfl ?_
            refine o_skip rfl rfl rfl h22 rfl rfl ?_
            refine o_skip rfl rfl rfl h22 rfl rfl ?_
            refine o_pk (.t (.d (.lit (.bool true)))) (b := true) h22 (g0 rfl) rfl rfl rfl rfl rfl ?_
            refine o_s (.t (.d (.lit (.bool true)))) (g0 rfl) rfl rfl rfl ?_
            refine o_nil ?_
            repeat (first | refine then_normal ?_ | refine then_exit ?_ | refine then_ret ?_ | refine block_normal ?_ | refine block_ret ?_ | refine block_exit ?_ | refine block_pass rfl ?_)
            exact ⟨true, h, ⟨(.refl _), ⟨(.refl _), trivial⟩⟩, rfl⟩
          · refine o_s (.ref 1 1) (gy rfl rfl rfl h22) rfl rfl rfl ?_
            refine o_s (.t (.d (.lit (.int .i64 p0.Seq)))) (gy rfl rfl rfl h22) rfl rfl rfl ?_
            refine o_s (.t (.d (.lit (.bool (decide (p0.Seq > 1099511627776)))))) (gy rfl rfl rfl h22) rfl rfl rfl ?_
            refine o_pk (.t (.d (.lit (.bool (decide (p0.Seq > 1099511627776)))))) (b := false) h22 (g0 rfl) rfl rfl rfl rfl rfl ?_
            refine o_s (.t (.d (.lit (.bool (decide (p0.Seq > 1099511627776)))))) (g0 rfl) rfl rfl rfl ?_
            refine o_nil ?_
            repeat (first | refine then_normal ?_ | refine then_exit ?_ | refine then_ret ?_ | refine block_normal ?_ | refine block_ret ?_ | refine block_exit ?_ | refine block_pass rfl ?_)
            exact ⟨(decide (p0.Seq > 1099511627776)), h, ⟨(.refl _), ⟨(.refl _), trivial⟩⟩, rfl⟩
    · rintro y5 h
      rcases bif_some h with ⟨h6, h⟩ | ⟨h6, h⟩
      · refine c_t h6 rfl ?_
        refine c_seq ?_
        refine c_region ?_
        refine o_s (.t (.d (.lit (.bool false)))) (g0 rfl) rfl rfl rfl ?_
        refine o_nil ?_
        repeat (first | refine then_normal ?_ | refine then_exit ?_ | refine then_ret ?_ | refine block_normal ?_ | refine block_ret ?_ | refine block_exit ?_ | refine block_pass rfl ?_)
        refine c_ret ?_
        repeat (first | refine then_normal ?_ | refine then_exit ?_ | refine then_ret ?_ | refine block_normal ?_ | refine block_ret ?_ | refine block_exit ?_ | refine block_pass rfl ?_)
        obtain rfl := Option.some.inj h
        exact end0 rfl (.refl _)
      · refine c_f h6 rfl ?_
        refine c_cut (fun (y7 : Bool) => [(1, .box [.d (.lit (.string ⟨⟨p0.Folder⟩⟩)), .d (.lit (.int .i64 p0.Seq)), .d (.seq 1 (bytesD p0.Prev)), .d (.lit (.string ⟨⟨p0.Parent⟩⟩)), .d (.seq 2 (List.map cS_api_Member p0.Members)), .d (.lit (.int .i64 p0.Cut)), .d (.lit (.bool p0.Gone)), .d (.lit (.string ⟨⟨p0.By⟩⟩))]), (24, .t (.d (.lit (.bool y7))))]) (fun (y7 : Bool) => m_manifest_may_j3 p0 y7 = some r) ?_ ?_
        · refine c_region ?_
          refine o_s (.ref 1 1) (g0 rfl) rfl rfl rfl ?_
          refine o_s (.t (.d (.lit (.int .i64 p0.Seq)))) (g0 rfl) rfl rfl rfl ?_
          refine o_s (.t (.d (.lit (.bool (p0.Seq == 1))))) (g0 rfl) rfl rfl rfl ?_
          refine o_s (.ref 1 2) (g0 rfl) rfl rfl rfl ?_
          refine o_s (.t (.d (.seq 1 (bytesD p0.Prev)))) (g0 rfl) rfl rfl rfl ?_
          refine o_c (g0 rfl) rfl rfl rfl (lenE _ _) trivial ?_
          refine o_s (.t (.d (.lit (.bool ((p0.Prev.length : Int) == 0))))) (g0 rfl) rfl rfl rfl ?_
          refine o_s (.t (.d (.lit (.bool (!((p0.Seq == 1) == ((p0.Prev.length : Int) == 0))))))) (g0 rfl) rfl rfl rfl ?_
          refine o_s (.t (.d (.lit (.bool (!((p0.Seq == 1) == ((p0.Prev.length : Int) == 0))))))) (g0 rfl) rfl rfl rfl ?_
          rcases bif_some h with ⟨h15, h⟩ | ⟨h15, h⟩
          · refine o_skip rfl rfl rfl h15 rfl rfl ?_
            refine o_skip rfl rfl rfl h15 rfl rfl ?_
            refine o_skip rfl rfl rfl h15 rfl rfl ?_
            refine o_skip rfl rfl rfl h15 rfl rfl ?_
            refine o_pk (.t (.d (.lit (.bool true)))) (b := true) h15 (g0 rfl) rfl rfl rfl rfl rfl ?_
            refine o_s (.t (.d (.lit (.bool true)))) (g0 rfl) rfl rfl rfl ?_
            refine o_nil ?_
            repeat (first | refine then_normal ?_ | refine then_exit ?_ | refine then_ret ?_ | refine block_normal ?_ | refine block_ret ?_ | refine block_exit ?_ | refine block_pass rfl ?_)
            exact ⟨true, h, ⟨(.refl _), ⟨(.refl _), trivial⟩⟩, rfl⟩
          · refine o_s (.ref 1 2) (gy rfl rfl rfl h15) rfl rfl rfl ?_
            refine o_s (.t (.d (.seq 1 (bytesD p0.Prev)))) (gy rfl rfl rfl h15) rfl rfl rfl ?_
            refine o_c (gy rfl rfl rfl h15) rfl rfl rfl (lenE _ _) trivial ?_
            refine o_s (.t (.d (.lit (.bool (decide ((p0.Prev.length : Int) > 64)))))) (gy rfl rfl rfl h15) rfl rfl rfl ?_
            refine o_pk (.t (.d (.lit (.bool (decide ((p0.Prev.length : Int) > 64)))))) (b := false) h15 (g0 rfl) rfl rfl rfl rfl rfl ?_
            refine o_s (.t (.d (.lit (.bool (decide ((p0.Prev.length : Int) > 64)))))) (g0 rfl) rfl rfl rfl ?_
            refine o_nil ?_
            repeat (first | refine then_normal ?_ | refine then_exit ?_ | refine then_ret ?_ | refine block_normal ?_ | refine block_ret ?_ | refine block_exit ?_ | refine block_pass rfl ?_)
            exact ⟨(decide ((p0.Prev.length : Int) > 64)), h, ⟨(.refl _), ⟨(.refl _), trivial⟩⟩, rfl⟩
        · rintro y7 h
          rcases bif_some h with ⟨h8, h⟩ | ⟨h8, h⟩
          · refine c_t h8 rfl ?_
            refine c_seq ?_
            refine c_region ?_
            refine o_s (.t (.d (.lit (.bool false)))) (g0 rfl) rfl rfl rfl ?_
            refine o_nil ?_
            repeat (first | refine then_normal ?_ | refine then_exit ?_ | refine then_ret ?_ | refine block_normal ?_ | refine block_ret ?_ | refine block_exit ?_ | refine block_pass rfl ?_)
            refine c_ret ?_
            repeat (first | refine then_normal ?_ | refine then_exit ?_ | refine then_ret ?_ | refine block_normal ?_ | refine block_ret ?_ | refine block_exit ?_ | refine block_pass rfl ?_)
            obtain rfl := Option.some.inj h
            exact end0 rfl (.refl _)
          · refine c_f h8 rfl ?_
            refine c_seq ?_
            refine c_region ?_
            refine o_s (.ref 1 3) (g0 rfl) rfl rfl rfl ?_
            refine o_s (.t (.d (.lit (.string ⟨⟨p0.Parent⟩⟩)))) (g0 rfl) rfl rfl rfl ?_
            refine o_c (g0 rfl) rfl rfl rfl (congrArg (fun z => A.t (.d (.lit (.bool (!z))))) (str_beqL _ _)) trivial ?_
            refine o_s (.t (.d (.lit (.bool (!(p0.Parent == [])))))) (g0 rfl) rfl rfl rfl ?_
            rcases bif_some h with ⟨h9, h⟩ | ⟨h9, h⟩
            · refine o_s (.ref 1 3) (gy rfl rfl rfl h9) rfl rfl rfl ?_
              refine o_s (.t (.d (.lit (.string ⟨⟨p0.Parent⟩⟩)))) (gy rfl rfl rfl h9) rfl rfl rfl ?_
              obtain ⟨x10, h11, h⟩ := bind_some h
              refine o_ca (fc_tree_Name _ _ h11) (gy rfl rfl rfl h9) rfl rfl rfl rfl rfl rfl rfl (.cons (.refl _) .nil) rfl rfl ?_
              refine o_s (.t (.d (.lit (.bool (!x10))))) (gy rfl rfl rfl h9) rfl rfl rfl ?_
              refine o_pk (.t (.d (.lit (.bool (!x10))))) (b := true) h9 (g0 rfl) rfl rfl rfl rfl rfl ?_
              refine o_s (.t (.d (.lit (.bool (!x10))))) (g0 rfl) rfl rfl rfl ?_
              rcases bif_some h with ⟨h12, h⟩ | ⟨h12, h⟩
              · refine o_skip rfl rfl rfl h12 rfl rfl ?_
                refine o_skip rfl rfl rfl h12 rfl rfl ?_
                refine o_skip rfl rfl rfl h12 rfl rfl ?_
                refine o_skip rfl rfl rfl h12 rfl rfl ?_
                refine o_skip rfl rfl rfl h12 rfl rfl ?_
                refine o_pk (.t (.d (.lit (.bool true)))) (b := true) h12 (g0 rfl) rfl rfl rfl rfl rfl ?_
                refine o_s (.t (.d (.lit (.bool true)))) (g0 rfl) rfl rfl rfl ?_
                refine o_nil ?_
                repeat (first | refine then_normal ?_ | refine then_exit ?_ | refine then_ret ?_ | refine block_normal ?_ | refine block_ret ?_ | refine block_exit ?_ | refine block_pass rfl ?_)
                refine c_t rfl rfl ?_
                refine c_seq ?_
                refine c_region ?_
                refine o_s (.t (.d (.lit (.bool false)))) (g0 rfl) rfl rfl rfl ?_
                refine o_nil ?_
                repeat (first | refine then_normal ?_ | refine then_exit ?_ | refine then_ret ?_ | refine block_normal ?_ | refine block_ret ?_ | refine block_exit ?_ | refine block_pass rfl ?_)
                refine c_ret ?_
                repeat (first | refine then_normal ?_ | refine then_exit ?_ | refine then_ret ?_ | refine block_normal ?_ | refine block_ret ?_ | refine block_exit ?_ | refine block_pass rfl ?_)
                obtain rfl := Option.some.inj h
                exact end0 rfl (.refl _)
              · refine o_s (.ref 1 3) (gy rfl rfl rfl h12) rfl rfl rfl ?_
                refine o_s (.t (.d (.lit (.string ⟨⟨p0.Parent⟩⟩)))) (gy rfl rfl rfl h12) rfl rfl rfl ?_
                refine o_s (.ref 1 0) (gy rfl rfl rfl h12) rfl rfl rfl ?_
                refine o_s (.t (.d (.lit (.string ⟨⟨p0.Folder⟩⟩)))) (gy rfl rfl rfl h12) rfl rfl rfl ?_
                refine o_c (gy rfl rfl rfl h12) rfl rfl rfl (congrArg (fun z => A.t (.d (.lit (.bool z)))) (str_beqL _ _)) trivial ?_
                refine o_pk (.t (.d (.lit (.bool (p0.Parent == p0.Folder))))) (b := false) h12 (g0 rfl) rfl rfl rfl rfl rfl ?_
                refine o_s (.t (.d (.lit (.bool (p0.Parent == p0.Folder))))) (g0 rfl) rfl rfl rfl ?_
                refine o_nil ?_
                repeat (first | refine then_normal ?_ | refine then_exit ?_ | refine then_ret ?_ | refine block_normal ?_ | refine block_ret ?_ | refine block_exit ?_ | refine block_pass rfl ?_)
                rcases bif_some h with ⟨h13, h⟩ | ⟨h13, h⟩
                · refine c_t h13 rfl ?_
                  refine c_seq ?_
                  refine c_region ?_
                  refine o_s (.t (.d (.lit (.bool false)))) (g0 rfl) rfl rfl rfl ?_
                  refine o_nil ?_
                  repeat (first | refine then_normal ?_ | refine then_exit ?_ | refine then_ret ?_ | refine block_normal ?_ | refine block_ret ?_ | refine block_exit ?_ | refine block_pass rfl ?_)
                  refine c_ret ?_
                  repeat (first | refine then_normal ?_ | refine then_exit ?_ | refine then_ret ?_ | refine block_normal ?_ | refine block_ret ?_ | refine block_exit ?_ | refine block_pass rfl ?_)
                  obtain rfl := Option.some.inj h
                  exact end0 rfl (.refl _)
                · refine c_f h13 rfl ?_
                  refine c_skip ?_
                  repeat (first | refine then_normal ?_ | refine then_exit ?_ | refine then_ret ?_ | refine block_normal ?_ | refine block_ret ?_ | refine block_exit ?_ | refine block_pass rfl ?_)
                  exact ⟨(), h, ⟨(.refl _), trivial⟩, rfl⟩
            · refine o_skip rfl rfl rfl h9 rfl rfl ?_
              refine o_skip rfl rfl rfl h9 rfl rfl ?_
              refine o_skip rfl rfl rfl h9 rfl rfl ?_
              refine o_skip rfl rfl rfl h9 rfl rfl ?_
              refine o_pk (.t (.d (.lit (.bool false)))) (b := false) h9 (g0 rfl) rfl rfl rfl rfl rfl ?_
              refine o_s (.t (.d (.lit (.bool false)))) (g0 rfl) rfl rfl rfl ?_
              refine o_s (.ref 1 3) (gy rfl rfl rfl rfl) rfl rfl rfl ?_
              refine o_s (.t (.d (.lit (.string ⟨⟨p0.Parent⟩⟩)))) (gy rfl rfl rfl rfl) rfl rfl rfl ?_
              refine o_s (.ref 1 0) (gy rfl rfl rfl rfl) rfl rfl rfl ?_
              refine o_s (.t (.d (.lit (.string ⟨⟨p0.Folder⟩⟩)))) (gy rfl rfl rfl rfl) rfl rfl rfl ?_
              refine o_c (gy rfl rfl rfl rfl) rfl rfl rfl (congrArg (fun z => A.t (.d (.lit (.bool z)))) (str_beqL _ _)) trivial ?_
              refine o_pk (.t (.d (.lit (.bool (p0.Parent == p0.Folder))))) (b := false) rfl (g0 rfl) rfl rfl rfl rfl rfl ?_
              refine o_s (.t (.d (.lit (.bool (p0.Parent == p0.Folder))))) (g0 rfl) rfl rfl rfl ?_
              refine o_nil ?_
              repeat (first | refine then_normal ?_ | refine then_exit ?_ | refine then_ret ?_ | refine block_normal ?_ | refine block_ret ?_ | refine block_exit ?_ | refine block_pass rfl ?_)
              rcases bif_some h with ⟨h14, h⟩ | ⟨h14, h⟩
              · refine c_t h14 rfl ?_
                refine c_seq ?_
                refine c_region ?_
                refine o_s (.t (.d (.lit (.bool false)))) (g0 rfl) rfl rfl rfl ?_
                refine o_nil ?_
                repeat (first | refine then_normal ?_ | refine then_exit ?_ | refine then_ret ?_ | refine block_normal ?_ | refine block_ret ?_ | refine block_exit ?_ | refine block_pass rfl ?_)
                refine c_ret ?_
                repeat (first | refine then_normal ?_ | refine then_exit ?_ | refine then_ret ?_ | refine block_normal ?_ | refine block_ret ?_ | refine block_exit ?_ | refine block_pass rfl ?_)
                obtain rfl := Option.some.inj h
                exact end0 rfl (.refl _)
              · refine c_f h14 rfl ?_
                refine c_skip ?_
                repeat (first | refine then_normal ?_ | refine then_exit ?_ | refine then_ret ?_ | refine block_normal ?_ | refine block_ret ?_ | refine block_exit ?_ | refine block_pass rfl ?_)
                exact ⟨(), h, ⟨(.refl _), trivial⟩, rfl⟩
  · rintro ⟨⟩ h
    refine c_seq ?_
    refine c_region ?_
    refine o_s (.ref 1 4) (g0 rfl) rfl rfl rfl ?_
    refine o_s (.t (.d (.seq 2 (List.map cS_api_Member p0.Members)))) (g0 rfl) rfl rfl rfl ?_
    obtain ⟨x1, h2, h⟩ := bind_some h
    refine o_ca (fc_role_Right _ _ h2) (g0 rfl) rfl rfl rfl rfl rfl rfl rfl (.cons (.refl _) .nil) rfl rfl ?_
    refine o_s (.t (.d (.lit (.bool x1)))) (g0 rfl) rfl rfl rfl ?_
    rcases bif_some h with ⟨h3, h⟩ | ⟨h3, h⟩
    · refine o_s (.ref 1 5) (gy rfl rfl rfl h3) rfl rfl rfl ?_
      refine o_s (.t (.d (.lit (.int .i64 p0.Cut)))) (gy rfl rfl rfl h3) rfl rfl rfl ?_
      refine o_s (.t (.d (.lit (.bool (decide (p0.Cut ≥ 0)))))) (gy rfl rfl rfl h3) rfl rfl rfl ?_
      refine o_pk (.t (.d (.lit (.bool (decide (p0.Cut ≥ 0)))))) (b := true) h3 (g0 rfl) rfl rfl rfl rfl rfl ?_
      refine o_s (.t (.d (.lit (.bool (decide (p0.Cut ≥ 0)))))) (g0 rfl) rfl rfl rfl ?_
      rcases bif_some h with ⟨h4, h⟩ | ⟨h4, h⟩
      · refine o_s (.ref 1 5) (gy rfl rfl rfl h4) rfl rfl rfl ?_
        refine o_s (.t (.d (.lit (.int .i64 p0.Cut)))) (gy rfl rfl rfl h4) rfl rfl rfl ?_
        refine o_s (.ref 1 1) (gy rfl rfl rfl h4) rfl rfl rfl ?_
        refine o_s (.t (.d (.lit (.int .i64 p0.Seq)))) (gy rfl rfl rfl h4) rfl rfl rfl ?_
        refine o_s (.t (.d (.lit (.bool (decide (p0.Cut ≤ p0.Seq)))))) (gy rfl rfl rfl h4) rfl rfl rfl ?_
        refine o_pk (.t (.d (.lit (.bool (decide (p0.Cut ≤ p0.Seq)))))) (b := true) h4 (g0 rfl) rfl rfl rfl rfl rfl ?_
        refine o_s (.t (.d (.lit (.bool (decide (p0.Cut ≤ p0.Seq)))))) (g0 rfl) rfl rfl rfl ?_
        refine o_nil ?_
        repeat (first | refine then_normal ?_ | refine then_exit ?_ | refine then_ret ?_ | refine block_normal ?_ | refine block_ret ?_ | refine block_exit ?_ | refine block_pass rfl ?_)
        refine c_ret ?_
        repeat (first | refine then_normal ?_ | refine then_exit ?_ | refine then_ret ?_ | refine block_normal ?_ | refine block_ret ?_ | refine block_exit ?_ | refine block_pass rfl ?_)
        obtain rfl := Option.some.inj h
        exact end0 rfl (.refl _)
      · refine o_skip rfl rfl rfl h4 rfl rfl ?_
        refine o_skip rfl rfl rfl h4 rfl rfl ?_
        refine o_skip rfl rfl rfl h4 rfl rfl ?_
        refine o_skip rfl rfl rfl h4 rfl rfl ?_
        refine o_skip rfl rfl rfl h4 rfl rfl ?_
        refine o_pk (.t (.d (.lit (.bool false)))) (b := false) h4 (g0 rfl) rfl rfl rfl rfl rfl ?_
        refine o_s (.t (.d (.lit (.bool false)))) (g0 rfl) rfl rfl rfl ?_
        refine o_nil ?_
        repeat (first | refine then_normal ?_ | refine then_exit ?_ | refine then_ret ?_ | refine block_normal ?_ | refine block_ret ?_ | refine block_exit ?_ | refine block_pass rfl ?_)
        refine c_ret ?_
        repeat (first | refine then_normal ?_ | refine then_exit ?_ | refine then_ret ?_ | refine block_normal ?_ | refine block_ret ?_ | refine block_exit ?_ | refine block_pass rfl ?_)
        obtain rfl := Option.some.inj h
        exact end0 rfl (.refl _)
    · refine o_skip rfl rfl rfl h3 rfl rfl ?_
      refine o_skip rfl rfl rfl h3 rfl rfl ?_
      refine o_skip rfl rfl rfl h3 rfl rfl ?_
      refine o_pk (.t (.d (.lit (.bool false)))) (b := false) h3 (g0 rfl) rfl rfl rfl rfl rfl ?_
      refine o_s (.t (.d (.lit (.bool false)))) (g0 rfl) rfl rfl rfl ?_
      refine o_skip rfl rfl rfl rfl rfl rfl ?_
      refine o_skip rfl rfl rfl rfl rfl rfl ?_
      refine o_skip rfl rfl rfl rfl rfl rfl ?_
      refine o_skip rfl rfl rfl rfl rfl rfl ?_
      refine o_skip rfl rfl rfl rfl rfl rfl ?_
      refine o_pk (.t (.d (.lit (.bool false)))) (b := false) rfl (g0 rfl) rfl rfl rfl rfl rfl ?_
      refine o_s (.t (.d (.lit (.bool false)))) (g0 rfl) rfl rfl rfl ?_
      refine o_nil ?_
      repeat (first | refine then_normal ?_ | refine then_exit ?_ | refine then_ret ?_ | refine block_normal ?_ | refine block_ret ?_ | refine block_exit ?_ | refine block_pass rfl ?_)
      refine c_ret ?_
      repeat (first | refine then_normal ?_ | refine then_exit ?_ | refine then_ret ?_ | refine block_normal ?_ | refine block_ret ?_ | refine block_exit ?_ | refine block_pass rfl ?_)
      obtain rfl := Option.some.inj h
      exact end0 rfl (.refl _)

theorem fc_manifest_word (p0 : (List UInt8)) (r : V) (h : m_manifest_word p0 = some r) : FC Try.prog 28 [.t (.d (.lit (.string ⟨⟨p0⟩⟩)))] [] (.t (.agg [.lit (.int .i64 r.k), .lit (.int .i64 r.n), .seq 1 (bytesD r.b), .lit (.slice none 0 0)])) := by
  refine fc_mk (rs := [.cell 2 58]) (n := 6) Try.func28 rfl rfl (Nat.le_of_ble_eq_true rfl) rfl (pins := []) rfl (L := [(0, .t (.d (.lit (.string ⟨⟨p0⟩⟩))))]) rfl ?_
  refine c_seq ?_
  refine c_region ?_
  refine o_s (.box [.d (.lit (.int .i64 0)), .d (.lit (.int .i64 0)), .d (.lit (.slice none 0 0)), .d (.lit (.slice none 0 0))]) (g0 rfl) rfl rfl rfl ?_
  refine o_nil ?_
  repeat (first | refine then_normal ?_ | refine then_exit ?_ | refine then_ret ?_ | refine block_normal ?_ | refine block_ret ?_ | refine block_exit ?_ | refine block_pass rfl ?_)
  refine c_seq ?_
  refine c_region ?_
  refine o_s (.t (.d (.lit (.string ⟨⟨p0⟩⟩)))) (g0 rfl) rfl rfl rfl ?_
  obtain ⟨x1, h2, h⟩ := bind_some h
  refine o_c (g0 rfl) rfl rfl rfl (strBE h2) (strBC h2) ?_
  obtain ⟨x3, h4, h⟩ := bind_some h
  refine o_ca (fc_codec_Raw _ _ h4) (g0 rfl) rfl rfl rfl rfl rfl rfl rfl (.cons (.refl _) .nil) rfl rfl ?_
  refine o_st (.box [.d (.lit (.int .i64 x3.k)), .d (.lit (.int .i64 x3.n)), .d (.seq 1 (bytesD x3.b)), .d (.lit (.slice none 0 0))]) (g0 rfl) rfl rfl rfl ?_
  refine o_nil ?_
  repeat (first | refine then_normal ?_ | refine then_exit ?_ | refine then_ret ?_ | refine block_normal ?_ | refine block_ret ?_ | refine block_exit ?_ | refine block_pass rfl ?_)
  refine c_ret ?_
  repeat (first | refine then_normal ?_ | refine then_exit ?_ | refine then_ret ?_ | refine block_normal ?_ | refine block_ret ?_ | refine block_exit ?_ | refine block_pass rfl ?_)
  obtain rfl := Option.some.inj h
  exact end0 rfl (.refl _)

theorem fc_manifest_bit (p0 : Bool) (r : Int) (h : m_manifest_bit p0 = some r) : FC Try.prog 32 [.t (.d (.lit (.bool p0)))] [] (.t (.d (.lit (.int .i64 r)))) := by
  refine fc_mk (rs := [.tmp 2]) (n := 4) Try.func32 rfl rfl (Nat.le_of_ble_eq_true rfl) rfl (pins := []) rfl (L := [(0, .t (.d (.lit (.bool p0))))]) rfl ?_
  refine c_seq ?_
  refine c_region ?_
  refine o_s (.t (.d (.lit (.int .i64 0)))) (g0 rfl) rfl rfl rfl ?_
  refine o_nil ?_
  repeat (first | refine then_normal ?_ | refine then_exit ?_ | refine then_ret ?_ | refine block_normal ?_ | refine block_ret ?_ | refine block_exit ?_ | refine block_pass rfl ?_)
  refine c_seq ?_
  refine c_seq ?_
  refine c_region ?_
  refine o_s (.t (.d (.lit (.bool p0)))) (g0 rfl) rfl rfl rfl ?_
  refine o_nil ?_
  repeat (first | refine then_normal ?_ | refine then_exit ?_ | refine then_ret ?_ | refine block_normal ?_ | refine block_ret ?_ | refine block_exit ?_ | refine block_pass rfl ?_)
  rcases bif_some h with ⟨h1, h⟩ | ⟨h1, h⟩
  · refine c_t h1 rfl ?_
    refine c_seq ?_
    refine c_region ?_
    refine o_s (.t (.d (.lit (.int .i64 1)))) (g0 rfl) rfl rfl rfl ?_
    refine o_nil ?_
    repeat (first | refine then_normal ?_ | refine then_exit ?_ | refine then_ret ?_ | refine block_normal ?_ | refine block_ret ?_ | refine block_exit ?_ | refine block_pass rfl ?_)
    refine c_ret ?_
    repeat (first | refine then_normal ?_ | refine then_exit ?_ | refine then_ret ?_ | refine block_normal ?_ | refine block_ret ?_ | refine block_exit ?_ | refine block_pass rfl ?_)
    obtain rfl := Option.some.inj h
    exact end0 rfl (.refl _)
  · refine c_f h1 rfl ?_
    refine c_skip ?_
    repeat (first | refine then_normal ?_ | refine then_exit ?_ | refine then_ret ?_ | refine block_normal ?_ | refine block_ret ?_ | refine block_exit ?_ | refine block_pass rfl ?_)
    refine c_seq ?_
    refine c_region ?_
    refine o_s (.t (.d (.lit (.int .i64 0)))) (g0 rfl) rfl rfl rfl ?_
    refine o_nil ?_
    repeat (first | refine then_normal ?_ | refine then_exit ?_ | refine then_ret ?_ | refine block_normal ?_ | refine block_ret ?_ | refine block_exit ?_ | refine block_pass rfl ?_)
    refine c_ret ?_
    repeat (first | refine then_normal ?_ | refine then_exit ?_ | refine then_ret ?_ | refine block_normal ?_ | refine block_ret ?_ | refine block_exit ?_ | refine block_pass rfl ?_)
    obtain rfl := Option.some.inj h
    exact end0 rfl (.refl _)

theorem fc_manifest_Text (p0 : S_api_Manifest) (r : ((List UInt8) × Int)) (h : m_manifest_Text p0 = some r) : FC Try.prog 8 [.t (.agg [.lit (.string ⟨⟨p0.Folder⟩⟩), .lit (.int .i64 p0.Seq), .seq 1 (bytesD p0.Prev), .lit (.string ⟨⟨p0.Parent⟩⟩), .seq 2 (List.map cS_api_Member p0.Members), .lit (.int .i64 p0.Cut), .lit (.bool p0.Gone), .lit (.string ⟨⟨p0.By⟩⟩)])] [] (.tup [.d (.seq 1 (bytesD r.1)), .d (.lit (.int .i64 r.2))]) := by
  refine fc_mk (rs := [.tmp 2, .tmp 3]) (n := 61) Try.func8 rfl rfl (Nat.le_of_ble_eq_true rfl) rfl (pins := []) rfl (L := [(0, .t (.agg [.lit (.string ⟨⟨p0.Folder⟩⟩), .lit (.int .i64 p0.Seq), .seq 1 (bytesD p0.Prev), .lit (.string ⟨⟨p0.Parent⟩⟩), .seq 2 (List.map cS_api_Member p0.Members), .lit (.int .i64 p0.Cut), .lit (.bool p0.Gone), .lit (.string ⟨⟨p0.By⟩⟩)]))]) rfl ?_
  refine c_seq ?_
  refine c_region ?_
  refine o_s (.box [.d (.lit (.string ⟨⟨p0.Folder⟩⟩)), .d (.lit (.int .i64 p0.Seq)), .d (.seq 1 (bytesD p0.Prev)), .d (.lit (.string ⟨⟨p0.Parent⟩⟩)), .d (.seq 2 (List.map cS_api_Member p0.Members)), .d (.lit (.int .i64 p0.Cut)), .d (.lit (.bool p0.Gone)), .d (.lit (.string ⟨⟨p0.By⟩⟩))]) (g0 rfl) rfl rfl rfl ?_
  refine o_s (.t (.d (.lit (.slice none 0 0)))) (g0 rfl) rfl rfl rfl ?_
  refine o_s (.t (.d (.lit (.int .i64 0)))) (g0 rfl) rfl rfl rfl ?_
  refine o_nil ?_
  repeat (first | refine then_normal ?_ | refine then_exit ?_ | refine then_ret ?_ | refine block_normal ?_ | refine block_ret ?_ | refine block_exit ?_ | refine block_pass rfl ?_)
  refine c_seq ?_
  refine c_seq ?_
  refine c_region ?_
  refine o_s (.t (.agg [.lit (.string ⟨⟨p0.Folder⟩⟩), .lit (.int .i64 p0.Seq), .seq 1 (bytesD p0.Prev), .lit (.string ⟨⟨p0.Parent⟩⟩), .seq 2 (List.map cS_api_Member p0.Members), .lit (.int .i64 p0.Cut), .lit (.bool p0.Gone), .lit (.string ⟨⟨p0.By⟩⟩)])) (g0 rfl) rfl rfl rfl ?_
  obtain ⟨x1, h2, h⟩ := bind_some h
  refine o_ca (fc_manifest_may _ _ h2) (g0 rfl) rfl rfl rfl rfl rfl rfl rfl (.cons (.refl _) .nil) rfl rfl ?_
  refine o_s (.t (.d (.lit (.bool (!x1))))) (g0 rfl) rfl rfl rfl ?_
  refine o_nil ?_
  repeat (first | refine then_normal ?_ | refine then_exit ?_ | refine then_ret ?_ | refine block_normal ?_ | refine block_ret ?_ | refine block_exit ?_ | refine block_pass rfl ?_)
  rcases bif_some h with ⟨h3, h⟩ | ⟨h3, h⟩
  · refine c_t h3 rfl ?_
    refine c_seq ?_
    refine c_region ?_
    refine o_s (.t (.d (.lit (.slice none 0 0)))) (g0 rfl) rfl rfl rfl ?_
    refine o_s (.t (.d (.lit (.int .i64 2)))) (g0 rfl) rfl rfl rfl ?_
    refine o_nil ?_
    repeat (first | refine then_normal ?_ | refine then_exit ?_ | refine then_ret ?_ | refine block_normal ?_ | refine block_ret ?_ | refine block_exit ?_ | refine block_pass rfl ?_)
    refine c_ret ?_
    repeat (first | refine then_normal ?_ | refine then_exit ?_ | refine then_ret ?_ | refine block_normal ?_ | refine block_ret ?_ | refine block_exit ?_ | refine block_pass rfl ?_)
    obtain rfl := Option.some.inj h
    exact end0 rfl (.tup (.cons (.d (.nil _)) (.cons (.refl _) .nil)))
  · refine c_f h3 rfl ?_
    refine c_skip ?_
    repeat (first | refine then_normal ?_ | refine then_exit ?_ | refine then_ret ?_ | refine block_normal ?_ | refine block_ret ?_ | refine block_exit ?_ | refine block_pass rfl ?_)
    refine c_seq ?_
    refine c_region ?_
    obtain ⟨x4, h5, h⟩ := bind_some h
    refine o_ca (fc_codec_Of_n0 _ h5) (g0 rfl) rfl rfl rfl rfl rfl rfl rfl (.cons (.refl _) .nil) rfl rfl ?_
    refine o_s (.box [.d (.lit (.int .i64 0)), .d (.lit (.int .i64 0)), .d (.lit (.slice none 0 0)), .d (.lit (.slice none 0 0))]) (g0 rfl) rfl rfl rfl ?_
    refine o_st (.box [.d (.lit (.int .i64 x4.k)), .d (.lit (.int .i64 x4.n)), .d (.lit (.slice none 0 0)), .d (.lit (.slice none 0 0))]) (g0 rfl) rfl rfl rfl ?_
    refine o_nil ?_
    repeat (first | refine then_normal ?_ | refine then_exit ?_ | refine then_ret ?_ | refine block_normal ?_ | refine block_ret ?_ | refine block_exit ?_ | refine block_pass rfl ?_)
    refine c_cut (fun (y6 : (List V)) => [(1, .box [.d (.lit (.string ⟨⟨p0.Folder⟩⟩)), .d (.lit (.int .i64 p0.Seq)), .d (.seq 1 (bytesD p0.Prev)), .d (.lit (.string ⟨⟨p0.Parent⟩⟩)), .d (.seq 2 (List.map cS_api_Member p0.Members)), .d (.lit (.int .i64 p0.Cut)), .d (.lit (.bool p0.Gone)), .d (.lit (.string ⟨⟨p0.By⟩⟩))]), (4, .box [.d (.lit (.int .i64 x4.k)), .d (.lit (.int .i64 x4.n)), .d (.lit (.slice none 0 0)), .own 58 4 (List.map V.cells y6)])]) (fun (y6 : (List V)) => m_manifest_Text_j1 p0 x4 y6 = some r) ?_ ?_
    · refine c_seq ?_
      refine c_region ?_
      refine o_s (.ref 1 4) (g0 rfl) rfl rfl rfl ?_
      refine o_s (.t (.d (.seq 2 (List.map cS_api_Member p0.Members)))) (g0 rfl) rfl rfl rfl ?_
      refine o_c (g0 rfl) rfl rfl rfl (lenE _ _) trivial ?_
      refine o_s (.t (.d (.lit (.int .i64 0)))) (g0 rfl) rfl rfl rfl ?_
      refine o_nil ?_
      repeat (first | refine then_normal ?_ | refine then_exit ?_ | refine then_ret ?_ | refine block_normal ?_ | refine block_ret ?_ | refine block_exit ?_ | refine block_pass rfl ?_)
      refine c_block ?_
      refine c_fuel (fun (q : (List V) × Int) => [(1, .box [.d (.lit (.string ⟨⟨p0.Folder⟩⟩)), .d (.lit (.int .i64 p0.Seq)), .d (.seq 1 (bytesD p0.Prev)), .d (.lit (.string ⟨⟨p0.Parent⟩⟩)), .d (.seq 2 (List.map cS_api_Member p0.Members)), .d (.lit (.int .i64 p0.Cut)), .d (.lit (.bool p0.Gone)), .d (.lit (.string ⟨⟨p0.By⟩⟩))]), (4, .box [.d (.lit (.int .i64 x4.k)), .d (.lit (.int .i64 x4.n)), .d (.lit (.slice none 0 0)), .own 58 4 (List.map V.cells q.1)]), (12, .t (.d (.seq 2 (List.map cS_api_Member p0.Members)))), (13, .t (.d (.lit (.int .i64 (p0.Members.length : Int))))), (14, .t (.d (.lit (.int .i64 q.2))))]) (fun nl2 => (fun (q : (List V) × Int) => m_manifest_Text_l2 p0 x4 nl2 q.1 q.2 = some r)) (p0.Members.length + 1) ([], 0) h ⟨(.refl _), ⟨(.box (.cons (.refl _) (.cons (.refl _) (.cons (.refl _) (.cons (.nilOwn _ _) .nil)))) rfl), ⟨(.refl _), ⟨(.refl _), ⟨(.refl _), trivial⟩⟩⟩⟩⟩ rfl ?_
      rintro nl2 ⟨z29, z30⟩ h
      cases nl2 with
      | zero => exact none_ne h
      | succ nl2 =>
        refine c_seq ?_
        refine c_region ?_
        refine o_s (.t (.d (.lit (.bool (decide (z30 < (p0.Members.length : Int))))))) (g0 rfl) rfl rfl rfl ?_
        refine o_nil ?_
        repeat (first | refine then_normal ?_ | refine then_exit ?_ | refine then_ret ?_ | refine block_normal ?_ | refine block_ret ?_ | refine block_exit ?_ | refine block_pass rfl ?_)
        refine c_seq ?_
        rcases bif_some h with ⟨h31, h⟩ | ⟨h31, h⟩
        · refine c_t h31 rfl ?_
          refine c_skip ?_
          repeat (first | refine then_normal ?_ | refine then_exit ?_ | refine then_ret ?_ | refine block_normal ?_ | refine block_ret ?_ | refine block_exit ?_ | refine block_pass rfl ?_)
          refine c_seq ?_
          refine c_block ?_
          refine c_seq ?_
          refine c_region ?_
          obtain ⟨x32, h33, h⟩ := bind_some h
          refine o_c (g0 rfl) rfl rfl rfl (idxE h33) (idxC h33) ?_
          refine o_s (.t (.agg [.lit (.string ⟨⟨x32.Name⟩⟩), .lit (.int .i64 x32.Role)])) (g0 rfl) rfl rfl rfl ?_
          refine o_s (.box [.d (.lit (.string ⟨⟨[]⟩⟩)), .d (.lit (.int .i64 0))]) (g0 rfl) rfl rfl rfl ?_
          refine o_st (.box [.d (.lit (.string ⟨⟨x32.Name⟩⟩)), .d (.lit (.int .i64 x32.Role))]) (g0 rfl) rfl rfl rfl ?_
          refine o_nil ?_
          repeat (first | refine then_normal ?_ | refine then_exit ?_ | refine then_ret ?_ | refine block_normal ?_ | refine block_ret ?_ | refine block_exit ?_ | refine block_pass rfl ?_)
          refine c_draw mixed (by kernel_rfl) ?_
          refine d_s (.ref 4 3) rfl (dg0 rfl) rfl rfl rfl rfl ?_
          refine d_2 (.box [.d (.lit (.int .i64 x4.k)), .d (.lit (.int .i64 x4.n)), .d (.lit (.slice none 0 0)), .d (.seq 4 (List.map V.cells z29))]) (.t (.own 58 4 (List.map V.cells z29))) rfl (dg0 rfl) rfl rfl rfl rfl rfl ?_
          refine d_s (.ref 6 0) rfl (dg0 rfl) rfl rfl rfl rfl ?_
          refine d_s (.t (.d (.lit (.string ⟨⟨x32.Name⟩⟩)))) rfl (dg0 rfl) rfl rfl rfl rfl ?_
          obtain ⟨x34, h35, h⟩ := bind_some h
          refine d_ca (fc_manifest_word _ _ h35) rfl (dg0 rfl) rfl rfl rfl rfl rfl rfl rfl rfl (.cons (.refl _) .nil) rfl rfl ?_
          refine d_s (.ref 6 1) rfl (dg0 rfl) rfl rfl rfl rfl ?_
          refine d_s (.t (.d (.lit (.int .i64 x32.Role)))) rfl (dg0 rfl) rfl rfl rfl rfl ?_
          obtain ⟨x36, h37, h⟩ := bind_some h
          refine d_ca (fc_codec_Num _ _ h37) rfl (dg0 rfl) rfl rfl rfl rfl rfl rfl rfl rfl (.cons (.refl _) .nil) rfl rfl ?_
          refine d_w (.t (.own 58 4 (List.map V.cells [(V.mk x34.k x34.n x34.b []), (V.mk x36.k x36.n [] [])]))) rfl (dg0 rfl) rfl rfl rfl rfl (.t (.rows _ _ (.cons (.cons (.refl _) (.cons (.refl _) (.cons (.refl _) (.cons (.nil _) .nil)))) (.cons (.cons (.refl _) (.cons (.refl _) (.cons (.nil _) (.cons (.nil _) .nil)))) .nil)) (rowsE V.cells_eq [(V.mk x34.k x34.n x34.b []), (V.mk x36.k x36.n [] [])]))) (fun e => nomatch e) ?_
          obtain ⟨x38, h39, h⟩ := bind_some h
          refine d_ca (fc_codec_Of _ _ h39) rfl (dg0 rfl) rfl rfl rfl rfl rfl rfl rfl rfl (.cons (.refl _) .nil) rfl rfl ?_
          refine d_w (.t (.own 58 4 (List.map V.cells [(V.mk x38.k x38.n [] x38.l)]))) rfl (dg0 rfl) rfl rfl rfl rfl (.t (.rows _ _ (.cons (.cons (.refl _) (.cons (.refl _) (.cons (.nil _) (.cons (.refl _) .nil)))) .nil) (rowsE V.cells_eq [(V.mk x38.k x38.n [] x38.l)]))) (fun e => nomatch e) ?_
          obtain ⟨x40, h41, h⟩ := bind_some h
          refine d_2c rfl (dg0 rfl) rfl rfl rfl rfl rfl (appE (c := V.cells) h41) (appC (c := V.cells) h41) ?_
          refine d_s (.ref 4 3) rfl (dg0 rfl) rfl rfl rfl rfl ?_
          refine d_st2 (.t (.d (.seq 4 (List.map V.cells x40)))) (.box [.d (.lit (.int .i64 x4.k)), .d (.lit (.int .i64 x4.n)), .d (.lit (.slice none 0 0)), .own 58 4 (List.map V.cells x40)]) rfl (dg0 rfl) rfl rfl rfl rfl rfl ?_
          refine d_nil (by kernel_rfl) ?_
          repeat (first | refine then_normal ?_ | refine then_exit ?_ | refine then_ret ?_ | refine block_normal ?_ | refine block_ret ?_ | refine block_exit ?_ | refine block_pass rfl ?_)
          refine c_region ?_
          refine o_s (.t (.d (.lit (.int .i64 (wi (z30 + 1)))))) (g0 rfl) rfl rfl rfl ?_
          refine o_s (.t (.d (.lit (.int .i64 (wi (z30 + 1)))))) (g0 rfl) rfl rfl rfl ?_
          refine o_nil ?_
          repeat (first | refine then_normal ?_ | refine then_exit ?_ | refine then_ret ?_ | refine block_normal ?_ | refine block_ret ?_ | refine block_exit ?_ | refine block_pass rfl ?_)
          exact ⟨nl2, (x40, (wi (z30 + 1))), Nat.lt_succ_self nl2, h, ⟨(.refl _), ⟨(.refl _), ⟨(.refl _), ⟨(.refl _), ⟨(.refl _), trivial⟩⟩⟩⟩⟩, rfl⟩
        · refine c_f h31 rfl ?_
          refine c_exit ?_
          repeat (first | refine then_normal ?_ | refine then_exit ?_ | refine then_ret ?_ | refine block_normal ?_ | refine block_ret ?_ | refine block_exit ?_ | refine block_pass rfl ?_)
          exact ⟨z29, h, ⟨(.refl _), ⟨(.refl _), trivial⟩⟩, rfl⟩
    · rintro y6 h
      refine c_seq ?_
      refine c_draw mixed (by kernel_rfl) ?_
      obtain ⟨x7, h8, h⟩ := bind_some h
      refine d_ca (fc_manifest_word _ _ h8) rfl (dg0 rfl) rfl rfl rfl rfl rfl rfl rfl rfl (.cons (.refl _) .nil) rfl rfl ?_
      refine d_s (.ref 1 0) rfl (dg0 rfl) rfl rfl rfl rfl ?_
      refine d_s (.t (.d (.lit (.string ⟨⟨p0.Folder⟩⟩)))) rfl (dg0 rfl) rfl rfl rfl rfl ?_
      obtain ⟨x9, h10, h⟩ := bind_some h
      refine d_ca (fc_manifest_word _ _ h10) rfl (dg0 rfl) rfl rfl rfl rfl rfl rfl rfl rfl (.cons (.refl _) .nil) rfl rfl ?_
      refine d_s (.ref 1 1) rfl (dg0 rfl) rfl rfl rfl rfl ?_
      refine d_s (.t (.d (.lit (.int .i64 p0.Seq)))) rfl (dg0 rfl) rfl rfl rfl rfl ?_
      obtain ⟨x11, h12, h⟩ := bind_some h
      refine d_ca (fc_codec_Num _ _ h12) rfl (dg0 rfl) rfl rfl rfl rfl rfl rfl rfl rfl (.cons (.refl _) .nil) rfl rfl ?_
      refine d_s (.ref 1 2) rfl (dg0 rfl) rfl rfl rfl rfl ?_
      refine d_s (.t (.d (.seq 1 (bytesD p0.Prev)))) rfl (dg0 rfl) rfl rfl rfl rfl ?_
      obtain ⟨x13, h14, h⟩ := bind_some h
      refine d_ca (fc_codec_Raw _ _ h14) rfl (dg0 rfl) rfl rfl rfl rfl rfl rfl rfl rfl (.cons (.refl _) .nil) rfl rfl ?_
      refine d_s (.ref 1 3) rfl (dg0 rfl) rfl rfl rfl rfl ?_
      refine d_s (.t (.d (.lit (.string ⟨⟨p0.Parent⟩⟩)))) rfl (dg0 rfl) rfl rfl rfl rfl ?_
      obtain ⟨x15, h16, h⟩ := bind_some h
      refine d_ca (fc_manifest_word _ _ h16) rfl (dg0 rfl) rfl rfl rfl rfl rfl rfl rfl rfl (.cons (.refl _) .nil) rfl rfl ?_
      refine d_s (.t (.agg [.lit (.int .i64 x4.k), .lit (.int .i64 x4.n), .lit (.slice none 0 0), .seq 4 (List.map V.cells y6)])) rfl (dg0 rfl) rfl rfl rfl rfl ?_
      refine d_s (.ref 1 5) rfl (dg0 rfl) rfl rfl rfl rfl ?_
      refine d_s (.t (.d (.lit (.int .i64 p0.Cut)))) rfl (dg0 rfl) rfl rfl rfl rfl ?_
      obtain ⟨x17, h18, h⟩ := bind_some h
      refine d_ca (fc_codec_Num _ _ h18) rfl (dg0 rfl) rfl rfl rfl rfl rfl rfl rfl rfl (.cons (.refl _) .nil) rfl rfl ?_
      refine d_s (.ref 1 6) rfl (dg0 rfl) rfl rfl rfl rfl ?_
      refine d_s (.t (.d (.lit (.bool p0.Gone)))) rfl (dg0 rfl) rfl rfl rfl rfl ?_
      obtain ⟨x19, h20, h⟩ := bind_some h
      refine d_ca (fc_manifest_bit _ _ h20) rfl (dg0 rfl) rfl rfl rfl rfl rfl rfl rfl rfl (.cons (.refl _) .nil) rfl rfl ?_
      obtain ⟨x21, h22, h⟩ := bind_some h
      refine d_ca (fc_codec_Num _ _ h22) rfl (dg0 rfl) rfl rfl rfl rfl rfl rfl rfl rfl (.cons (.refl _) .nil) rfl rfl ?_
      refine d_s (.ref 1 7) rfl (dg0 rfl) rfl rfl rfl rfl ?_
      refine d_s (.t (.d (.lit (.string ⟨⟨p0.By⟩⟩)))) rfl (dg0 rfl) rfl rfl rfl rfl ?_
      obtain ⟨x23, h24, h⟩ := bind_some h
      refine d_ca (fc_manifest_word _ _ h24) rfl (dg0 rfl) rfl rfl rfl rfl rfl rfl rfl rfl (.cons (.refl _) .nil) rfl rfl ?_
      refine d_w (.t (.own 58 4 (List.map V.cells [(V.mk x7.k x7.n x7.b []), (V.mk x9.k x9.n x9.b []), (V.mk x11.k x11.n [] []), (V.mk x13.k x13.n x13.b []), (V.mk x15.k x15.n x15.b []), (V.mk x4.k x4.n [] y6), (V.mk x17.k x17.n [] []), (V.mk x21.k x21.n [] []), (V.mk x23.k x23.n x23.b [])]))) rfl (dg0 rfl) rfl rfl rfl rfl (.t (.rows _ _ (.cons (.cons (.refl _) (.cons (.refl _) (.cons (.refl _) (.cons (.nil _) .nil)))) (.cons (.cons (.refl _) (.cons (.refl _) (.cons (.refl _) (.cons (.nil _) .nil)))) (.cons (.cons (.refl _) (.cons (.refl _) (.cons (.nil _) (.cons (.nil _) .nil)))) (.cons (.cons (.refl _) (.cons (.refl _) (.cons (.refl _) (.cons (.nil _) .nil)))) (.cons (.cons (.refl _) (.cons (.refl _) (.cons (.refl _) (.cons (.nil _) .nil)))) (.cons (.cons (.refl _) (.cons (.refl _) (.cons (.nil _) (.cons (.refl _) .nil)))) (.cons (.cons (.refl _) (.cons (.refl _) (.cons (.nil _) (.cons (.nil _) .nil)))) (.cons (.cons (.refl _) (.cons (.refl _) (.cons (.nil _) (.cons (.nil _) .nil)))) (.cons (.cons (.refl _) (.cons (.refl _) (.cons (.refl _) (.cons (.nil _) .nil)))) .nil))))))))) (rowsE V.cells_eq [(V.mk x7.k x7.n x7.b []), (V.mk x9.k x9.n x9.b []), (V.mk x11.k x11.n [] []), (V.mk x13.k x13.n x13.b []), (V.mk x15.k x15.n x15.b []), (V.mk x4.k x4.n [] y6), (V.mk x17.k x17.n [] []), (V.mk x21.k x21.n [] []), (V.mk x23.k x23.n x23.b [])]))) (fun e => nomatch e) ?_
      obtain ⟨x25, h26, h⟩ := bind_some h
      refine d_ca (fc_codec_Of _ _ h26) rfl (dg0 rfl) rfl rfl rfl rfl rfl rfl rfl rfl (.cons (.refl _) .nil) rfl rfl ?_
      obtain ⟨x27, h28, h⟩ := bind_some h
      refine d_ca (fc_codec_Encode _ _ h28) rfl (dg0 rfl) rfl rfl rfl rfl rfl rfl rfl rfl (.cons (.t (.agg (.cons (.refl _) (.cons (.refl _) (.cons (.nil _) (.cons (.refl _) .nil)))))) .nil) rfl rfl ?_
      refine d_s (.t (.d (.seq 1 (bytesD x27.1)))) rfl (dg0 rfl) rfl rfl rfl rfl ?_
      refine d_s (.t (.d (.lit (.int .i64 x27.2)))) rfl (dg0 rfl) rfl rfl rfl rfl ?_
      refine d_s (.t (.d (.seq 1 (bytesD x27.1)))) rfl (dg0 rfl) rfl rfl rfl rfl ?_
      refine d_s (.t (.d (.lit (.int .i64 x27.2)))) rfl (dg0 rfl) rfl rfl rfl rfl ?_
      refine d_nil (by kernel_rfl) ?_
      repeat (first | refine then_normal ?_ | refine then_exit ?_ | refine then_ret ?_ | refine block_normal ?_ | refine block_ret ?_ | refine block_exit ?_ | refine block_pass rfl ?_)
      refine c_ret ?_
      repeat (first | refine then_normal ?_ | refine then_exit ?_ | refine then_ret ?_ | refine block_normal ?_ | refine block_ret ?_ | refine block_exit ?_ | refine block_pass rfl ?_)
      obtain rfl := Option.some.inj h
      exact end0 rfl (.tup (.cons (.refl _) (.cons (.refl _) .nil)))

theorem fc_manifest_Begins (p0 : S_api_Manifest) (r : Int) (h : m_manifest_Begins p0 = some r) : FC Try.prog 10 [.t (.agg [.lit (.string ⟨⟨p0.Folder⟩⟩), .lit (.int .i64 p0.Seq), .seq 1 (bytesD p0.Prev), .lit (.string ⟨⟨p0.Parent⟩⟩), .seq 2 (List.map cS_api_Member p0.Members), .lit (.int .i64 p0.Cut), .lit (.bool p0.Gone), .lit (.string ⟨⟨p0.By⟩⟩)])] [] (.t (.d (.lit (.int .i64 r)))) := by
  refine fc_mk (rs := [.tmp 2]) (n := 36) Try.func10 rfl rfl (Nat.le_of_ble_eq_true rfl) rfl (pins := []) rfl (L := [(0, .t (.agg [.lit (.string ⟨⟨p0.Folder⟩⟩), .lit (.int .i64 p0.Seq), .seq 1 (bytesD p0.Prev), .lit (.string ⟨⟨p0.Parent⟩⟩), .seq 2 (List.map cS_api_Member p0.Members), .lit (.int .i64 p0.Cut), .lit (.bool p0.Gone), .lit (.string ⟨⟨p0.By⟩⟩)]))]) rfl ?_
  refine c_seq ?_
  refine c_region ?_
  refine o_s (.box [.d (.lit (.string ⟨⟨p0.Folder⟩⟩)), .d (.lit (.int .i64 p0.Seq)), .d (.seq 1 (bytesD p0.Prev)), .d (.lit (.string ⟨⟨p0.Parent⟩⟩)), .d (.seq 2 (List.map cS_api_Member p0.Members)), .d (.lit (.int .i64 p0.Cut)), .d (.lit (.bool p0.Gone)), .d (.lit (.string ⟨⟨p0.By⟩⟩))]) (g0 rfl) rfl rfl rfl ?_
  refine o_s (.t (.d (.lit (.int .i64 0)))) (g0 rfl) rfl rfl rfl ?_
  refine o_nil ?_
  repeat (first | refine then_normal ?_ | refine then_exit ?_ | refine then_ret ?_ | refine block_normal ?_ | refine block_ret ?_ | refine block_exit ?_ | refine block_pass rfl ?_)
  refine c_seq ?_
  refine c_block ?_
  refine c_seq ?_
  refine c_region ?_
  refine o_s (.t (.agg [.lit (.string ⟨⟨p0.Folder⟩⟩), .lit (.int .i64 p0.Seq), .seq 1 (bytesD p0.Prev), .lit (.string ⟨⟨p0.Parent⟩⟩), .seq 2 (List.map cS_api_Member p0.Members), .lit (.int .i64 p0.Cut), .lit (.bool p0.Gone), .lit (.string ⟨⟨p0.By⟩⟩)])) (g0 rfl) rfl rfl rfl ?_
  obtain ⟨x1, h2, h⟩ := bind_some h
  refine o_ca (fc_manifest_may _ _ h2) (g0 rfl) rfl rfl rfl rfl rfl rfl rfl (.cons (.refl _) .nil) rfl rfl ?_
  refine o_s (.t (.d (.lit (.bool (!x1))))) (g0 rfl) rfl rfl rfl ?_
  refine o_s (.t (.d (.lit (.bool (!x1))))) (g0 rfl) rfl rfl rfl ?_
  refine o_nil ?_
  repeat (first | refine then_normal ?_ | refine then_exit ?_ | refine then_ret ?_ | refine block_normal ?_ | refine block_ret ?_ | refine block_exit ?_ | refine block_pass rfl ?_)
  rcases bif_some h with ⟨h3, h⟩ | ⟨h3, h⟩
  · refine c_t h3 rfl ?_
    refine c_seq ?_
    refine c_region ?_
    refine o_s (.t (.d (.lit (.int .i64 2)))) (g0 rfl) rfl rfl rfl ?_
    refine o_nil ?_
    repeat (first | refine then_normal ?_ | refine then_exit ?_ | refine then_ret ?_ | refine block_normal ?_ | refine block_ret ?_ | refine block_exit ?_ | refine block_pass rfl ?_)
    refine c_ret ?_
    repeat (first | refine then_normal ?_ | refine then_exit ?_ | refine then_ret ?_ | refine block_normal ?_ | refine block_ret ?_ | refine block_exit ?_ | refine block_pass rfl ?_)
    obtain rfl := Option.some.inj h
    exact end0 rfl (.refl _)
  · refine c_f h3 rfl ?_
    refine c_seq ?_
    refine c_draw mixed (by kernel_rfl) ?_
    refine d_s (.ref 1 1) rfl (dg0 rfl) rfl rfl rfl rfl ?_
    refine d_s (.t (.d (.lit (.int .i64 p0.Seq)))) rfl (dg0 rfl) rfl rfl rfl rfl ?_
    refine d_s (.t (.d (.lit (.bool (p0.Seq != 1))))) rfl (dg0 rfl) rfl rfl rfl rfl ?_
    refine d_s (.t (.d (.lit (.bool (p0.Seq != 1))))) rfl (dg0 rfl) rfl rfl rfl rfl ?_
    rcases bif_some h with ⟨h4, h⟩ | ⟨h4, h⟩
    · refine d_skip rfl rfl rfl rfl rfl h4 rfl rfl rfl ?_
      refine d_skip rfl rfl rfl rfl rfl h4 rfl rfl rfl ?_
      refine d_skip rfl rfl rfl rfl rfl h4 rfl rfl rfl ?_
      refine d_skip rfl rfl rfl rfl rfl h4 rfl rfl rfl ?_
      refine d_pk (.t (.d (.lit (.bool true)))) (b := true) h4 rfl (dg0 rfl) rfl rfl rfl rfl rfl rfl ?_
      refine d_s (.t (.d (.lit (.bool true)))) rfl (dg0 rfl) rfl rfl rfl rfl ?_
      refine d_skip rfl rfl rfl rfl rfl rfl rfl rfl rfl ?_
      refine d_skip rfl rfl rfl rfl rfl rfl rfl rfl rfl ?_
      refine d_skip rfl rfl rfl rfl rfl rfl rfl rfl rfl ?_
      refine d_skip rfl rfl rfl rfl rfl rfl rfl rfl rfl ?_
      refine d_skip rfl rfl rfl rfl rfl rfl rfl rfl rfl ?_
      refine d_skip rfl rfl rfl rfl rfl rfl rfl rfl rfl ?_
      refine d_skip rfl rfl rfl rfl rfl rfl rfl rfl rfl ?_
      refine d_skip rfl rfl rfl rfl rfl rfl rfl rfl rfl ?_
      refine d_pk (.t (.d (.lit (.bool true)))) (b := true) rfl rfl (dg0 rfl) rfl rfl rfl rfl rfl rfl ?_
      refine d_s (.t (.d (.lit (.bool true)))) rfl (dg0 rfl) rfl rfl rfl rfl ?_
      refine d_skip rfl rfl rfl rfl rfl rfl rfl rfl rfl ?_
      refine d_skip rfl rfl rfl rfl rfl rfl rfl rfl rfl ?_
      refine d_skip rfl rfl rfl rfl rfl rfl rfl rfl rfl ?_
      refine d_pk (.t (.d (.lit (.bool true)))) (b := true) rfl rfl (dg0 rfl) rfl rfl rfl rfl rfl rfl ?_
      refine d_s (.t (.d (.lit (.bool true)))) rfl (dg0 rfl) rfl rfl rfl rfl ?_
      refine d_skip rfl rfl rfl rfl rfl rfl rfl rfl rfl ?_
      refine d_skip rfl rfl rfl rfl rfl rfl rfl rfl rfl ?_
      refine d_pk (.t (.d (.lit (.bool true)))) (b := true) rfl rfl (dg0 rfl) rfl rfl rfl rfl rfl rfl ?_
      refine d_s (.t (.d (.lit (.bool true)))) rfl (dg0 rfl) rfl rfl rfl rfl ?_
      refine d_nil (by kernel_rfl) ?_
      repeat (first | refine then_normal ?_ | refine then_exit ?_ | refine then_ret ?_ | refine block_normal ?_ | refine block_ret ?_ | refine block_exit ?_ | refine block_pass rfl ?_)
      refine c_t rfl rfl ?_
      refine c_seq ?_
      refine c_region ?_
      refine o_s (.t (.d (.lit (.int .i64 11)))) (g0 rfl) rfl rfl rfl ?_
      refine o_nil ?_
      repeat (first | refine then_normal ?_ | refine then_exit ?_ | refine then_ret ?_ | refine block_normal ?_ | refine block_ret ?_ | refine block_exit ?_ | refine block_pass rfl ?_)
      refine c_ret ?_
      repeat (first | refine then_normal ?_ | refine then_exit ?_ | refine then_ret ?_ | refine block_normal ?_ | refine block_ret ?_ | refine block_exit ?_ | refine block_pass rfl ?_)
      obtain rfl := Option.some.inj h
      exact end0 rfl (.refl _)
    · refine d_s (.ref 1 4) rfl (dgy rfl rfl rfl rfl h4) rfl rfl rfl rfl ?_
      refine d_s (.t (.d (.seq 2 (List.map cS_api_Member p0.Members)))) rfl (dgy rfl rfl rfl rfl h4) rfl rfl rfl rfl ?_
      refine d_c rfl (dgy rfl rfl rfl rfl h4) rfl rfl rfl rfl (lenE _ _) trivial ?_
      refine d_s (.t (.d (.lit (.bool ((p0.Members.length : Int) != 1))))) rfl (dgy rfl rfl rfl rfl h4) rfl rfl rfl rfl ?_
      refine d_pk (.t (.d (.lit (.bool ((p0.Members.length : Int) != 1))))) (b := false) h4 rfl (dg0 rfl) rfl rfl rfl rfl rfl rfl ?_
      refine d_s (.t (.d (.lit (.bool ((p0.Members.length : Int) != 1))))) rfl (dg0 rfl) rfl rfl rfl rfl ?_
      rcases bif_some h with ⟨h5, h⟩ | ⟨h5, h⟩
      · refine d_skip rfl rfl rfl rfl rfl h5 rfl rfl rfl ?_
        refine d_skip rfl rfl rfl rfl rfl h5 rfl rfl rfl ?_
        refine d_skip rfl rfl rfl rfl rfl h5 rfl rfl rfl ?_
        refine d_skip rfl rfl rfl rfl rfl h5 rfl rfl rfl ?_
        refine d_skip rfl rfl rfl rfl rfl h5 rfl rfl rfl ?_
        refine d_skip rfl rfl rfl rfl rfl h5 rfl rfl rfl ?_
        refine d_skip rfl rfl rfl rfl rfl h5 rfl rfl rfl ?_
        refine d_skip rfl rfl rfl rfl rfl h5 rfl rfl rfl ?_
        refine d_pk (.t (.d (.lit (.bool true)))) (b := true) h5 rfl (dg0 rfl) rfl rfl rfl rfl rfl rfl ?_
        refine d_s (.t (.d (.lit (.bool true)))) rfl (dg0 rfl) rfl rfl rfl rfl ?_
        refine d_skip rfl rfl rfl rfl rfl rfl rfl rfl rfl ?_
        refine d_skip rfl rfl rfl rfl rfl rfl rfl rfl rfl ?_
        refine d_skip rfl rfl rfl rfl rfl rfl rfl rfl rfl ?_
        refine d_pk (.t (.d (.lit (.bool true)))) (b := true) rfl rfl (dg0 rfl) rfl rfl rfl rfl rfl rfl ?_
        refine d_s (.t (.d (.lit (.bool true)))) rfl (dg0 rfl) rfl rfl rfl rfl ?_
        refine d_skip rfl rfl rfl rfl rfl rfl rfl rfl rfl ?_
        refine d_skip rfl rfl rfl rfl rfl rfl rfl rfl rfl ?_
        refine d_pk (.t (.d (.lit (.bool true)))) (b := true) rfl rfl (dg0 rfl) rfl rfl rfl rfl rfl rfl ?_
        refine d_s (.t (.d (.lit (.bool true)))) rfl (dg0 rfl) rfl rfl rfl rfl ?_
        refine d_nil (by kernel_rfl) ?_
        repeat (first | refine then_normal ?_ | refine then_exit ?_ | refine then_ret ?_ | refine block_normal ?_ | refine block_ret ?_ | refine block_exit ?_ | refine block_pass rfl ?_)
        refine c_t rfl rfl ?_
        refine c_seq ?_
        refine c_region ?_
        refine o_s (.t (.d (.lit (.int .i64 11)))) (g0 rfl) rfl rfl rfl ?_
        refine o_nil ?_
        repeat (first | refine then_normal ?_ | refine then_exit ?_ | refine then_ret ?_ | refine block_normal ?_ | refine block_ret ?_ | refine block_exit ?_ | refine block_pass rfl ?_)
        refine c_ret ?_
        repeat (first | refine then_normal ?_ | refine then_exit ?_ | refine then_ret ?_ | refine block_normal ?_ | refine block_ret ?_ | refine block_exit ?_ | refine block_pass rfl ?_)
        obtain rfl := Option.some.inj h
        exact end0 rfl (.refl _)
      · refine d_s (.ref 1 4) rfl (dgy rfl rfl rfl rfl h5) rfl rfl rfl rfl ?_
        refine d_s (.t (.d (.seq 2 (List.map cS_api_Member p0.Members)))) rfl (dgy rfl rfl rfl rfl h5) rfl rfl rfl rfl ?_
        obtain ⟨x6, h7, h⟩ := bind_some h
        refine d_c rfl (dgy rfl rfl rfl rfl h5) rfl rfl rfl rfl (idxE h7) (idxC h7) ?_
        refine d_s (.imm [.lit (.string ⟨⟨x6.Name⟩⟩), .lit (.int .i64 x6.Role)]) rfl (dgy rfl rfl rfl rfl h5) rfl rfl rfl rfl ?_
        refine d_s (.t (.d (.lit (.string ⟨⟨x6.Name⟩⟩)))) rfl (dgy rfl rfl rfl rfl h5) rfl rfl rfl rfl ?_
        refine d_s (.ref 1 7) rfl (dgy rfl rfl rfl rfl h5) rfl rfl rfl rfl ?_
        refine d_s (.t (.d (.lit (.string ⟨⟨p0.By⟩⟩)))) rfl (dgy rfl rfl rfl rfl h5) rfl rfl rfl rfl ?_
        refine d_c rfl (dgy rfl rfl rfl rfl h5) rfl rfl rfl rfl (congrArg (fun z => A.t (.d (.lit (.bool (!z))))) (str_beqL _ _)) trivial ?_
        refine d_pk (.t (.d (.lit (.bool (!(x6.Name == p0.By)))))) (b := false) h5 rfl (dg0 rfl) rfl rfl rfl rfl rfl rfl ?_
        refine d_s (.t (.d (.lit (.bool (!(x6.Name == p0.By)))))) rfl (dg0 rfl) rfl rfl rfl rfl ?_
        rcases bif_some h with ⟨h8, h⟩ | ⟨h8, h⟩
        · refine d_skip rfl rfl rfl rfl rfl h8 rfl rfl rfl ?_
          refine d_skip rfl rfl rfl rfl rfl h8 rfl rfl rfl ?_
          refine d_skip rfl rfl rfl rfl rfl h8 rfl rfl rfl ?_
          refine d_pk (.t (.d (.lit (.bool true)))) (b := true) h8 rfl (dg0 rfl) rfl rfl rfl rfl rfl rfl ?_
          refine d_s (.t (.d (.lit (.bool true)))) rfl (dg0 rfl) rfl rfl rfl rfl ?_
          refine d_skip rfl rfl rfl rfl rfl rfl rfl rfl rfl ?_
          refine d_skip rfl rfl rfl rfl rfl rfl rfl rfl rfl ?_
          refine d_pk (.t (.d (.lit (.bool true)))) (b := true) rfl rfl (dg0 rfl) rfl rfl rfl rfl rfl rfl ?_
          refine d_s (.t (.d (.lit (.bool true)))) rfl (dg0 rfl) rfl rfl rfl rfl ?_
          refine d_nil (by kernel_rfl) ?_
          repeat (first | refine then_normal ?_ | refine then_exit ?_ | refine then_ret ?_ | refine block_normal ?_ | refine block_ret ?_ | refine block_exit ?_ | refine block_pass rfl ?_)
          refine c_t rfl rfl ?_
          refine c_seq ?_
          refine c_region ?_
          refine o_s (.t (.d (.lit (.int .i64 11)))) (g0 rfl) rfl rfl rfl ?_
          refine o_nil ?_
          repeat (first | refine then_normal ?_ | refine then_exit ?_ | refine then_ret ?_ | refine block_normal ?_ | refine block_ret ?_ | refine block_exit ?_ | refine block_pass rfl ?_)
          refine c_ret ?_
          repeat (first | refine then_normal ?_ | refine then_exit ?_ | refine then_ret ?_ | refine block_normal ?_ | refine block_ret ?_ | refine block_exit ?_ | refine block_pass rfl ?_)
          obtain rfl := Option.some.inj h
          exact end0 rfl (.refl _)
        · refine d_s (.ref 1 5) rfl (dgy rfl rfl rfl rfl h8) rfl rfl rfl rfl ?_
          refine d_s (.t (.d (.lit (.int .i64 p0.Cut)))) rfl (dgy rfl rfl rfl rfl h8) rfl rfl rfl rfl ?_
          refine d_s (.t (.d (.lit (.bool (p0.Cut != 0))))) rfl (dgy rfl rfl rfl rfl h8) rfl rfl rfl rfl ?_
          refine d_pk (.t (.d (.lit (.bool (p0.Cut != 0))))) (b := false) h8 rfl (dg0 rfl) rfl rfl rfl rfl rfl rfl ?_
          refine d_s (.t (.d (.lit (.bool (p0.Cut != 0))))) rfl (dg0 rfl) rfl rfl rfl rfl ?_
          rcases bif_some h with ⟨h9, h⟩ | ⟨h9, h⟩
          · refine d_skip rfl rfl rfl rfl rfl h9 rfl rfl rfl ?_
            refine d_skip rfl rfl rfl rfl rfl h9 rfl rfl rfl ?_
            refine d_pk (.t (.d (.lit (.bool true)))) (b := true) h9 rfl (dg0 rfl) rfl rfl rfl rfl rfl rfl ?_
            refine d_s (.t (.d (.lit (.bool true)))) rfl (dg0 rfl) rfl rfl rfl rfl ?_
            refine d_nil (by kernel_rfl) ?_
            repeat (first | refine then_normal ?_ | refine then_exit ?_ | refine then_ret ?_ | refine block_normal ?_ | refine block_ret ?_ | refine block_exit ?_ | refine block_pass rfl ?_)
            refine c_t rfl rfl ?_
            refine c_seq ?_
            refine c_region ?_
            refine o_s (.t (.d (.lit (.int .i64 11)))) (g0 rfl) rfl rfl rfl ?_
            refine o_nil ?_
            repeat (first | refine then_normal ?_ | refine then_exit ?_ | refine then_ret ?_ | refine block_normal ?_ | refine block_ret ?_ | refine block_exit ?_ | refine block_pass rfl ?_)
            refine c_ret ?_
            repeat (first | refine then_normal ?_ | refine then_exit ?_ | refine then_ret ?_ | refine block_normal ?_ | refine block_ret ?_ | refine block_exit ?_ | refine block_pass rfl ?_)
            obtain rfl := Option.some.inj h
            exact end0 rfl (.refl _)
          · refine d_s (.ref 1 6) rfl (dgy rfl rfl rfl rfl h9) rfl rfl rfl rfl ?_
            refine d_s (.t (.d (.lit (.bool p0.Gone)))) rfl (dgy rfl rfl rfl rfl h9) rfl rfl rfl rfl ?_
            refine d_pk (.t (.d (.lit (.bool p0.Gone)))) (b := false) h9 rfl (dg0 rfl) rfl rfl rfl rfl rfl rfl ?_
            refine d_s (.t (.d (.lit (.bool p0.Gone)))) rfl (dg0 rfl) rfl rfl rfl rfl ?_
            refine d_nil (by kernel_rfl) ?_
            repeat (first | refine then_normal ?_ | refine then_exit ?_ | refine then_ret ?_ | refine block_normal ?_ | refine block_ret ?_ | refine block_exit ?_ | refine block_pass rfl ?_)
            rcases bif_some h with ⟨h10, h⟩ | ⟨h10, h⟩
            · refine c_t h10 rfl ?_
              refine c_seq ?_
              refine c_region ?_
              refine o_s (.t (.d (.lit (.int .i64 11)))) (g0 rfl) rfl rfl rfl ?_
              refine o_nil ?_
              repeat (first | refine then_normal ?_ | refine then_exit ?_ | refine then_ret ?_ | refine block_normal ?_ | refine block_ret ?_ | refine block_exit ?_ | refine block_pass rfl ?_)
              refine c_ret ?_
              repeat (first | refine then_normal ?_ | refine then_exit ?_ | refine then_ret ?_ | refine block_normal ?_ | refine block_ret ?_ | refine block_exit ?_ | refine block_pass rfl ?_)
              obtain rfl := Option.some.inj h
              exact end0 rfl (.refl _)
            · refine c_f h10 rfl ?_
              refine c_skip ?_
              repeat (first | refine then_normal ?_ | refine then_exit ?_ | refine then_ret ?_ | refine block_normal ?_ | refine block_ret ?_ | refine block_exit ?_ | refine block_pass rfl ?_)
              refine c_seq ?_
              refine c_region ?_
              refine o_s (.t (.d (.lit (.int .i64 0)))) (g0 rfl) rfl rfl rfl ?_
              refine o_nil ?_
              repeat (first | refine then_normal ?_ | refine then_exit ?_ | refine then_ret ?_ | refine block_normal ?_ | refine block_ret ?_ | refine block_exit ?_ | refine block_pass rfl ?_)
              refine c_ret ?_
              repeat (first | refine then_normal ?_ | refine then_exit ?_ | refine then_ret ?_ | refine block_normal ?_ | refine block_ret ?_ | refine block_exit ?_ | refine block_pass rfl ?_)
              obtain rfl := Option.some.inj h
              exact end0 rfl (.refl _)

theorem fc_R28_Of (p0 : (List V)) (r : V) (h : m_R28_Of p0 = some r) : FC Try.prog 37 [.t (.d (.seq 4 (List.map V.cells p0)))] [] (.t (.agg [.lit (.int .i64 r.k), .lit (.int .i64 r.n), .lit (.slice none 0 0), .seq 4 (List.map V.cells r.l)])) := by
  refine fc_mk (rs := [.cell 2 58]) (n := 5) Try.func37 rfl rfl (Nat.le_of_ble_eq_true rfl) rfl (pins := []) rfl (L := [(0, .t (.d (.seq 4 (List.map V.cells p0))))]) rfl ?_
  refine c_seq ?_
  refine c_region ?_
  refine o_s (.box [.d (.lit (.int .i64 0)), .d (.lit (.int .i64 0)), .d (.lit (.slice none 0 0)), .d (.lit (.slice none 0 0))]) (g0 rfl) rfl rfl rfl ?_
  refine o_nil ?_
  repeat (first | refine then_normal ?_ | refine then_exit ?_ | refine then_ret ?_ | refine block_normal ?_ | refine block_ret ?_ | refine block_exit ?_ | refine block_pass rfl ?_)
  refine c_seq ?_
  refine c_region ?_
  refine o_s (.t (.d (.seq 4 (List.map V.cells p0)))) (g0 rfl) rfl rfl rfl ?_
  refine o_s (.t (.agg [.lit (.int .i64 3), .lit (.int .i64 0), .lit (.slice none 0 0), .seq 4 (List.map V.cells p0)])) (g0 rfl) rfl rfl rfl ?_
  refine o_st (.box [.d (.lit (.int .i64 3)), .d (.lit (.int .i64 0)), .d (.lit (.slice none 0 0)), .d (.seq 4 (List.map V.cells p0))]) (g0 rfl) rfl rfl rfl ?_
  refine o_nil ?_
  repeat (first | refine then_normal ?_ | refine then_exit ?_ | refine then_ret ?_ | refine block_normal ?_ | refine block_ret ?_ | refine block_exit ?_ | refine block_pass rfl ?_)
  refine c_ret ?_
  repeat (first | refine then_normal ?_ | refine then_exit ?_ | refine then_ret ?_ | refine block_normal ?_ | refine block_ret ?_ | refine block_exit ?_ | refine block_pass rfl ?_)
  obtain rfl := Option.some.inj h
  exact end0 rfl (.refl _)

theorem fc_R28_Raw (p0 : (List UInt8)) (r : V) (h : m_R28_Raw p0 = some r) : FC Try.prog 38 [.t (.d (.seq 1 (bytesD p0)))] [] (.t (.agg [.lit (.int .i64 r.k), .lit (.int .i64 r.n), .seq 1 (bytesD r.b), .lit (.slice none 0 0)])) := by
  refine fc_mk (rs := [.cell 2 58]) (n := 5) Try.func38 rfl rfl (Nat.le_of_ble_eq_true rfl) rfl (pins := []) rfl (L := [(0, .t (.d (.seq 1 (bytesD p0))))]) rfl ?_
  refine c_seq ?_
  refine c_region ?_
  refine o_s (.box [.d (.lit (.int .i64 0)), .d (.lit (.int .i64 0)), .d (.lit (.slice none 0 0)), .d (.lit (.slice none 0 0))]) (g0 rfl) rfl rfl rfl ?_
  refine o_nil ?_
  repeat (first | refine then_normal ?_ | refine then_exit ?_ | refine then_ret ?_ | refine block_normal ?_ | refine block_ret ?_ | refine block_exit ?_ | refine block_pass rfl ?_)
  refine c_seq ?_
  refine c_region ?_
  refine o_s (.t (.d (.seq 1 (bytesD p0)))) (g0 rfl) rfl rfl rfl ?_
  refine o_s (.t (.agg [.lit (.int .i64 2), .lit (.int .i64 0), .seq 1 (bytesD p0), .lit (.slice none 0 0)])) (g0 rfl) rfl rfl rfl ?_
  refine o_st (.box [.d (.lit (.int .i64 2)), .d (.lit (.int .i64 0)), .d (.seq 1 (bytesD p0)), .d (.lit (.slice none 0 0))]) (g0 rfl) rfl rfl rfl ?_
  refine o_nil ?_
  repeat (first | refine then_normal ?_ | refine then_exit ?_ | refine then_ret ?_ | refine block_normal ?_ | refine block_ret ?_ | refine block_exit ?_ | refine block_pass rfl ?_)
  refine c_ret ?_
  repeat (first | refine then_normal ?_ | refine then_exit ?_ | refine then_ret ?_ | refine block_normal ?_ | refine block_ret ?_ | refine block_exit ?_ | refine block_pass rfl ?_)
  obtain rfl := Option.some.inj h
  exact end0 rfl (.refl _)

theorem fc_R28_Num (p0 : Int) (r : V) (h : m_R28_Num p0 = some r) : FC Try.prog 39 [.t (.d (.lit (.int .i64 p0)))] [] (.t (.agg [.lit (.int .i64 r.k), .lit (.int .i64 r.n), .lit (.slice none 0 0), .lit (.slice none 0 0)])) := by
  refine fc_mk (rs := [.cell 2 58]) (n := 5) Try.func39 rfl rfl (Nat.le_of_ble_eq_true rfl) rfl (pins := []) rfl (L := [(0, .t (.d (.lit (.int .i64 p0))))]) rfl ?_
  refine c_seq ?_
  refine c_region ?_
  refine o_s (.box [.d (.lit (.int .i64 0)), .d (.lit (.int .i64 0)), .d (.lit (.slice none 0 0)), .d (.lit (.slice none 0 0))]) (g0 rfl) rfl rfl rfl ?_
  refine o_nil ?_
  repeat (first | refine then_normal ?_ | refine then_exit ?_ | refine then_ret ?_ | refine block_normal ?_ | refine block_ret ?_ | refine block_exit ?_ | refine block_pass rfl ?_)
  refine c_seq ?_
  refine c_region ?_
  refine o_s (.t (.d (.lit (.int .i64 p0)))) (g0 rfl) rfl rfl rfl ?_
  refine o_s (.t (.agg [.lit (.int .i64 1), .lit (.int .i64 p0), .lit (.slice none 0 0), .lit (.slice none 0 0)])) (g0 rfl) rfl rfl rfl ?_
  refine o_st (.box [.d (.lit (.int .i64 1)), .d (.lit (.int .i64 p0)), .d (.lit (.slice none 0 0)), .d (.lit (.slice none 0 0))]) (g0 rfl) rfl rfl rfl ?_
  refine o_nil ?_
  repeat (first | refine then_normal ?_ | refine then_exit ?_ | refine then_ret ?_ | refine block_normal ?_ | refine block_ret ?_ | refine block_exit ?_ | refine block_pass rfl ?_)
  refine c_ret ?_
  repeat (first | refine then_normal ?_ | refine then_exit ?_ | refine then_ret ?_ | refine block_normal ?_ | refine block_ret ?_ | refine block_exit ?_ | refine block_pass rfl ?_)
  obtain rfl := Option.some.inj h
  exact end0 rfl (.refl _)

theorem fc_R28_Text (p0 : S_api_Manifest) (r : (List UInt8)) (h : m_R28_Text p0 = some r) : FC Try.prog 13 [.t (.agg [.lit (.string ⟨⟨p0.Folder⟩⟩), .lit (.int .i64 p0.Seq), .seq 1 (bytesD p0.Prev), .lit (.string ⟨⟨p0.Parent⟩⟩), .seq 2 (List.map cS_api_Member p0.Members), .lit (.int .i64 p0.Cut), .lit (.bool p0.Gone), .lit (.string ⟨⟨p0.By⟩⟩)])] [] (.t (.own 5 1 (bytesD r))) := by
  refine fc_mk (rs := [.tmp 2]) (n := 66) Try.func13 rfl rfl (Nat.le_of_ble_eq_true rfl) rfl (pins := []) rfl (L := [(0, .t (.agg [.lit (.string ⟨⟨p0.Folder⟩⟩), .lit (.int .i64 p0.Seq), .seq 1 (bytesD p0.Prev), .lit (.string ⟨⟨p0.Parent⟩⟩), .seq 2 (List.map cS_api_Member p0.Members), .lit (.int .i64 p0.Cut), .lit (.bool p0.Gone), .lit (.string ⟨⟨p0.By⟩⟩)]))]) rfl ?_
  refine c_seq ?_
  refine c_region ?_
  refine o_s (.box [.d (.lit (.string ⟨⟨p0.Folder⟩⟩)), .d (.lit (.int .i64 p0.Seq)), .d (.seq 1 (bytesD p0.Prev)), .d (.lit (.string ⟨⟨p0.Parent⟩⟩)), .d (.seq 2 (List.map cS_api_Member p0.Members)), .d (.lit (.int .i64 p0.Cut)), .d (.lit (.bool p0.Gone)), .d (.lit (.string ⟨⟨p0.By⟩⟩))]) (g0 rfl) rfl rfl rfl ?_
  refine o_s (.t (.d (.lit (.slice none 0 0)))) (g0 rfl) rfl rfl rfl ?_
  refine o_nil ?_
  repeat (first | refine then_normal ?_ | refine then_exit ?_ | refine then_ret ?_ | refine block_normal ?_ | refine block_ret ?_ | refine block_exit ?_ | refine block_pass rfl ?_)
  refine c_seq ?_
  refine c_region ?_
  refine o_s (.t (.d (.lit (.slice none 0 0)))) (g0 rfl) rfl rfl rfl ?_
  refine o_nil ?_
  repeat (first | refine then_normal ?_ | refine then_exit ?_ | refine then_ret ?_ | refine block_normal ?_ | refine block_ret ?_ | refine block_exit ?_ | refine block_pass rfl ?_)
  refine c_cut (fun (y1 : (List V)) => [(1, .box [.d (.lit (.string ⟨⟨p0.Folder⟩⟩)), .d (.lit (.int .i64 p0.Seq)), .d (.seq 1 (bytesD p0.Prev)), .d (.lit (.string ⟨⟨p0.Parent⟩⟩)), .d (.seq 2 (List.map cS_api_Member p0.Members)), .d (.lit (.int .i64 p0.Cut)), .d (.lit (.bool p0.Gone)), .d (.lit (.string ⟨⟨p0.By⟩⟩))]), (3, .t (.own 58 4 (List.map V.cells y1)))]) (fun (y1 : (List V)) => m_R28_Text_j1 p0 y1 = some r) ?_ ?_
  · refine c_seq ?_
    refine c_region ?_
    refine o_s (.t (.d (.lit (.int .i64 0)))) (g0 rfl) rfl rfl rfl ?_
    refine o_nil ?_
    repeat (first | refine then_normal ?_ | refine then_exit ?_ | refine then_ret ?_ | refine block_normal ?_ | refine block_ret ?_ | refine block_exit ?_ | refine block_pass rfl ?_)
    refine c_block ?_
    refine c_fuel (fun (q : (List V) × Int) => [(1, .box [.d (.lit (.string ⟨⟨p0.Folder⟩⟩)), .d (.lit (.int .i64 p0.Seq)), .d (.seq 1 (bytesD p0.Prev)), .d (.lit (.string ⟨⟨p0.Parent⟩⟩)), .d (.seq 2 (List.map cS_api_Member p0.Members)), .d (.lit (.int .i64 p0.Cut)), .d (.lit (.bool p0.Gone)), .d (.lit (.string ⟨⟨p0.By⟩⟩))]), (3, .t (.own 58 4 (List.map V.cells q.1))), (4, .t (.d (.lit (.int .i64 q.2))))]) (fun nl3 => (fun (q : (List V) × Int) => m_R28_Text_l3 p0 nl3 q.1 q.2 = some r)) (p0.Members.length + 1) ([], 0) h ⟨(.refl _), ⟨(.t (.nilOwn _ _)), ⟨(.refl _), trivial⟩⟩⟩ rfl ?_
    rintro nl3 ⟨z32, z33⟩ h
    cases nl3 with
    | zero => exact none_ne h
    | succ nl3 =>
      refine c_seq ?_
      refine c_seq ?_
      refine c_region ?_
      refine o_s (.t (.d (.lit (.int .i64 z33)))) (g0 rfl) rfl rfl rfl ?_
      refine o_s (.ref 1 4) (g0 rfl) rfl rfl rfl ?_
      refine o_s (.t (.d (.seq 2 (List.map cS_api_Member p0.Members)))) (g0 rfl) rfl rfl rfl ?_
      refine o_c (g0 rfl) rfl rfl rfl (lenE _ _) trivial ?_
      refine o_s (.t (.d (.lit (.bool (decide (z33 < (p0.Members.length : Int))))))) (g0 rfl) rfl rfl rfl ?_
      refine o_nil ?_
      repeat (first | refine then_normal ?_ | refine then_exit ?_ | refine then_ret ?_ | refine block_normal ?_ | refine block_ret ?_ | refine block_exit ?_ | refine block_pass rfl ?_)
      rcases bif_some h with ⟨h34, h⟩ | ⟨h34, h⟩
      · refine c_t h34 rfl ?_
        refine c_skip ?_
        repeat (first | refine then_normal ?_ | refine then_exit ?_ | refine then_ret ?_ | refine block_normal ?_ | refine block_ret ?_ | refine block_exit ?_ | refine block_pass rfl ?_)
        refine c_seq ?_
        refine c_block ?_
        refine c_draw mixed (by kernel_rfl) ?_
        refine d_2 (.t (.d (.seq 4 (List.map V.cells z32)))) (.t (.own 58 4 (List.map V.cells z32))) rfl (dg0 rfl) rfl rfl rfl rfl rfl ?_
        refine d_s (.ref 1 4) rfl (dg0 rfl) rfl rfl rfl rfl ?_
        refine d_s (.t (.d (.seq 2 (List.map cS_api_Member p0.Members)))) rfl (dg0 rfl) rfl rfl rfl rfl ?_
        refine d_s (.t (.d (.lit (.int .i64 z33)))) rfl (dg0 rfl) rfl rfl rfl rfl ?_
        obtain ⟨x35, h36, h⟩ := bind_some h
        refine d_c rfl (dg0 rfl) rfl rfl rfl rfl (idxE h36) (idxC h36) ?_
        refine d_s (.imm [.lit (.string ⟨⟨x35.Name⟩⟩), .lit (.int .i64 x35.Role)]) rfl (dg0 rfl) rfl rfl rfl rfl ?_
        refine d_s (.t (.d (.lit (.string ⟨⟨x35.Name⟩⟩)))) rfl (dg0 rfl) rfl rfl rfl rfl ?_
        obtain ⟨x37, h38, h⟩ := bind_some h
        refine d_c rfl (dg0 rfl) rfl rfl rfl rfl (strBE h38) (strBC h38) ?_
        obtain ⟨x39, h40, h⟩ := bind_some h
        refine d_ca (fc_R28_Raw _ _ h40) rfl (dg0 rfl) rfl rfl rfl rfl rfl rfl rfl rfl (.cons (.refl _) .nil) rfl rfl ?_
        refine d_s (.ref 1 4) rfl (dg0 rfl) rfl rfl rfl rfl ?_
        refine d_s (.t (.d (.seq 2 (List.map cS_api_Member p0.Members)))) rfl (dg0 rfl) rfl rfl rfl rfl ?_
        refine d_s (.t (.d (.lit (.int .i64 z33)))) rfl (dg0 rfl) rfl rfl rfl rfl ?_
        obtain ⟨x41, h42, h⟩ := bind_some h
        refine d_c rfl (dg0 rfl) rfl rfl rfl rfl (idxE h42) (idxC h42) ?_
        refine d_s (.imm [.lit (.int .i64 x41.Role)]) rfl (dg0 rfl) rfl rfl rfl rfl ?_
        refine d_s (.t (.d (.lit (.int .i64 x41.Role)))) rfl (dg0 rfl) rfl rfl rfl rfl ?_
        obtain ⟨x43, h44, h⟩ := bind_some h
        refine d_ca (fc_R28_Num _ _ h44) rfl (dg0 rfl) rfl rfl rfl rfl rfl rfl rfl rfl (.cons (.refl _) .nil) rfl rfl ?_
        refine d_w (.t (.own 58 4 (List.map V.cells [(V.mk x39.k x39.n x39.b []), (V.mk x43.k x43.n [] [])]))) rfl (dg0 rfl) rfl rfl rfl rfl (.t (.rows _ _ (.cons (.cons (.refl _) (.cons (.refl _) (.cons (.refl _) (.cons (.nil _) .nil)))) (.cons (.cons (.refl _) (.cons (.refl _) (.cons (.nil _) (.cons (.nil _) .nil)))) .nil)) (rowsE V.cells_eq [(V.mk x39.k x39.n x39.b []), (V.mk x43.k x43.n [] [])]))) (fun e => nomatch e) ?_
        obtain ⟨x45, h46, h⟩ := bind_some h
        refine d_ca (fc_R28_Of _ _ h46) rfl (dg0 rfl) rfl rfl rfl rfl rfl rfl rfl rfl (.cons (.refl _) .nil) rfl rfl ?_
        refine d_w (.t (.own 58 4 (List.map V.cells [(V.mk x45.k x45.n [] x45.l)]))) rfl (dg0 rfl) rfl rfl rfl rfl (.t (.rows _ _ (.cons (.cons (.refl _) (.cons (.refl _) (.cons (.nil _) (.cons (.refl _) .nil)))) .nil) (rowsE V.cells_eq [(V.mk x45.k x45.n [] x45.l)]))) (fun e => nomatch e) ?_
        obtain ⟨x47, h48, h⟩ := bind_some h
        refine d_2c rfl (dg0 rfl) rfl rfl rfl rfl rfl (appE (c := V.cells) h48) (appC (c := V.cells) h48) ?_
        refine d_2 (.t (.d (.seq 4 (List.map V.cells x47)))) (.t (.own 58 4 (List.map V.cells x47))) rfl (dg0 rfl) rfl rfl rfl rfl rfl ?_
        refine d_nil (by kernel_rfl) ?_
        repeat (first | refine then_normal ?_ | refine then_exit ?_ | refine then_ret ?_ | refine block_normal ?_ | refine block_ret ?_ | refine block_exit ?_ | refine block_pass rfl ?_)
        refine c_region ?_
        refine o_s (.t (.d (.lit (.int .i64 z33)))) (g0 rfl) rfl rfl rfl ?_
        refine o_s (.t (.d (.lit (.int .i64 (wi (z33 + 1)))))) (g0 rfl) rfl rfl rfl ?_
        refine o_s (.t (.d (.lit (.int .i64 (wi (z33 + 1)))))) (g0 rfl) rfl rfl rfl ?_
        refine o_nil ?_
        repeat (first | refine then_normal ?_ | refine then_exit ?_ | refine then_ret ?_ | refine block_normal ?_ | refine block_ret ?_ | refine block_exit ?_ | refine block_pass rfl ?_)
        exact ⟨nl3, (x47, (wi (z33 + 1))), Nat.lt_succ_self nl3, h, ⟨(.refl _), ⟨(.refl _), ⟨(.refl _), trivial⟩⟩⟩, rfl⟩
      · refine c_f h34 rfl ?_
        refine c_exit ?_
        repeat (first | refine then_normal ?_ | refine then_exit ?_ | refine then_ret ?_ | refine block_normal ?_ | refine block_ret ?_ | refine block_exit ?_ | refine block_pass rfl ?_)
        exact ⟨z32, h, ⟨(.refl _), ⟨(.refl _), trivial⟩⟩, rfl⟩
  · rintro y1 h
    refine c_seq ?_
    refine c_region ?_
    refine o_s (.t (.d (.lit (.int .i64 0)))) (g0 rfl) rfl rfl rfl ?_
    refine o_nil ?_
    repeat (first | refine then_normal ?_ | refine then_exit ?_ | refine then_ret ?_ | refine block_normal ?_ | refine block_ret ?_ | refine block_exit ?_ | refine block_pass rfl ?_)
    refine c_cut (fun (y2 : Int) => [(1, .box [.d (.lit (.string ⟨⟨p0.Folder⟩⟩)), .d (.lit (.int .i64 p0.Seq)), .d (.seq 1 (bytesD p0.Prev)), .d (.lit (.string ⟨⟨p0.Parent⟩⟩)), .d (.seq 2 (List.map cS_api_Member p0.Members)), .d (.lit (.int .i64 p0.Cut)), .d (.lit (.bool p0.Gone)), .d (.lit (.string ⟨⟨p0.By⟩⟩))]), (3, .t (.own 58 4 (List.map V.cells y1))), (5, .t (.d (.lit (.int .i64 y2))))]) (fun (y2 : Int) => m_R28_Text_j2 p0 y1 y2 = some r) ?_ ?_
    · refine c_seq ?_
      refine c_region ?_
      refine o_s (.ref 1 6) (g0 rfl) rfl rfl rfl ?_
      refine o_s (.t (.d (.lit (.bool p0.Gone)))) (g0 rfl) rfl rfl rfl ?_
      refine o_nil ?_
      repeat (first | refine then_normal ?_ | refine then_exit ?_ | refine then_ret ?_ | refine block_normal ?_ | refine block_ret ?_ | refine block_exit ?_ | refine block_pass rfl ?_)
      rcases bif_some h with ⟨h31, h⟩ | ⟨h31, h⟩
      · refine c_t h31 rfl ?_
        refine c_region ?_
        refine o_s (.t (.d (.lit (.int .i64 1)))) (g0 rfl) rfl rfl rfl ?_
        refine o_nil ?_
        repeat (first | refine then_normal ?_ | refine then_exit ?_ | refine then_ret ?_ | refine block_normal ?_ | refine block_ret ?_ | refine block_exit ?_ | refine block_pass rfl ?_)
        exact ⟨1, h, ⟨(.refl _), ⟨(.refl _), ⟨(.refl _), trivial⟩⟩⟩, rfl⟩
      · refine c_f h31 rfl ?_
        refine c_skip ?_
        repeat (first | refine then_normal ?_ | refine then_exit ?_ | refine then_ret ?_ | refine block_normal ?_ | refine block_ret ?_ | refine block_exit ?_ | refine block_pass rfl ?_)
        exact ⟨0, h, ⟨(.refl _), ⟨(.refl _), ⟨(.refl _), trivial⟩⟩⟩, rfl⟩
    · rintro y2 h
      refine c_seq ?_
      refine c_draw mixed (by kernel_rfl) ?_
      refine d_s (.t (.own 5 1 (bytesD [109, 97, 110, 105, 102, 101, 115, 116]))) rfl (dg0 rfl) rfl rfl rfl rfl ?_
      refine d_cvk (.t (.d (.seq 1 (bytesD [109, 97, 110, 105, 102, 101, 115, 116])))) rfl (dg0 rfl) rfl rfl rfl rfl rfl rfl rfl rfl rfl rfl rfl ?_
      obtain ⟨x3, h4, h⟩ := bind_some h
      refine d_ca (fc_R28_Raw _ _ h4) rfl (dg0 rfl) rfl rfl rfl rfl rfl rfl rfl rfl (.cons (.refl _) .nil) rfl rfl ?_
      refine d_s (.ref 1 0) rfl (dg0 rfl) rfl rfl rfl rfl ?_
      refine d_s (.t (.d (.lit (.string ⟨⟨p0.Folder⟩⟩)))) rfl (dg0 rfl) rfl rfl rfl rfl ?_
      obtain ⟨x5, h6, h⟩ := bind_some h
      refine d_c rfl (dg0 rfl) rfl rfl rfl rfl (strBE h6) (strBC h6) ?_
      obtain ⟨x7, h8, h⟩ := bind_some h
      refine d_ca (fc_R28_Raw _ _ h8) rfl (dg0 rfl) rfl rfl rfl rfl rfl rfl rfl rfl (.cons (.refl _) .nil) rfl rfl ?_
      refine d_s (.ref 1 1) rfl (dg0 rfl) rfl rfl rfl rfl ?_
      refine d_s (.t (.d (.lit (.int .i64 p0.Seq)))) rfl (dg0 rfl) rfl rfl rfl rfl ?_
      obtain ⟨x9, h10, h⟩ := bind_some h
      refine d_ca (fc_R28_Num _ _ h10) rfl (dg0 rfl) rfl rfl rfl rfl rfl rfl rfl rfl (.cons (.refl _) .nil) rfl rfl ?_
      refine d_s (.ref 1 2) rfl (dg0 rfl) rfl rfl rfl rfl ?_
      refine d_s (.t (.d (.seq 1 (bytesD p0.Prev)))) rfl (dg0 rfl) rfl rfl rfl rfl ?_
      obtain ⟨x11, h12, h⟩ := bind_some h
      refine d_ca (fc_R28_Raw _ _ h12) rfl (dg0 rfl) rfl rfl rfl rfl rfl rfl rfl rfl (.cons (.refl _) .nil) rfl rfl ?_
      refine d_s (.ref 1 3) rfl (dg0 rfl) rfl rfl rfl rfl ?_
      refine d_s (.t (.d (.lit (.string ⟨⟨p0.Parent⟩⟩)))) rfl (dg0 rfl) rfl rfl rfl rfl ?_
      obtain ⟨x13, h14, h⟩ := bind_some h
      refine d_c rfl (dg0 rfl) rfl rfl rfl rfl (strBE h14) (strBC h14) ?_
      obtain ⟨x15, h16, h⟩ := bind_some h
      refine d_ca (fc_R28_Raw _ _ h16) rfl (dg0 rfl) rfl rfl rfl rfl rfl rfl rfl rfl (.cons (.refl _) .nil) rfl rfl ?_
      refine d_2 (.t (.d (.seq 4 (List.map V.cells y1)))) (.t (.own 58 4 (List.map V.cells y1))) rfl (dg0 rfl) rfl rfl rfl rfl rfl ?_
      obtain ⟨x17, h18, h⟩ := bind_some h
      refine d_ca (fc_R28_Of _ _ h18) rfl (dg0 rfl) rfl rfl rfl rfl rfl rfl rfl rfl (.cons (.refl _) .nil) rfl rfl ?_
      refine d_s (.ref 1 5) rfl (dg0 rfl) rfl rfl rfl rfl ?_
      refine d_s (.t (.d (.lit (.int .i64 p0.Cut)))) rfl (dg0 rfl) rfl rfl rfl rfl ?_
      obtain ⟨x19, h20, h⟩ := bind_some h
      refine d_ca (fc_R28_Num _ _ h20) rfl (dg0 rfl) rfl rfl rfl rfl rfl rfl rfl rfl (.cons (.refl _) .nil) rfl rfl ?_
      refine d_s (.t (.d (.lit (.int .i64 y2)))) rfl (dg0 rfl) rfl rfl rfl rfl ?_
      obtain ⟨x21, h22, h⟩ := bind_some h
      refine d_ca (fc_R28_Num _ _ h22) rfl (dg0 rfl) rfl rfl rfl rfl rfl rfl rfl rfl (.cons (.refl _) .nil) rfl rfl ?_
      refine d_s (.ref 1 7) rfl (dg0 rfl) rfl rfl rfl rfl ?_
      refine d_s (.t (.d (.lit (.string ⟨⟨p0.By⟩⟩)))) rfl (dg0 rfl) rfl rfl rfl rfl ?_
      obtain ⟨x23, h24, h⟩ := bind_some h
      refine d_c rfl (dg0 rfl) rfl rfl rfl rfl (strBE h24) (strBC h24) ?_
      obtain ⟨x25, h26, h⟩ := bind_some h
      refine d_ca (fc_R28_Raw _ _ h26) rfl (dg0 rfl) rfl rfl rfl rfl rfl rfl rfl rfl (.cons (.refl _) .nil) rfl rfl ?_
      refine d_w (.t (.own 58 4 (List.map V.cells [(V.mk x3.k x3.n x3.b []), (V.mk x7.k x7.n x7.b []), (V.mk x9.k x9.n [] []), (V.mk x11.k x11.n x11.b []), (V.mk x15.k x15.n x15.b []), (V.mk x17.k x17.n [] x17.l), (V.mk x19.k x19.n [] []), (V.mk x21.k x21.n [] []), (V.mk x25.k x25.n x25.b [])]))) rfl (dg0 rfl) rfl rfl rfl rfl (.t (.rows _ _ (.cons (.cons (.refl _) (.cons (.refl _) (.cons (.refl _) (.cons (.nil _) .nil)))) (.cons (.cons (.refl _) (.cons (.refl _) (.cons (.refl _) (.cons (.nil _) .nil)))) (.cons (.cons (.refl _) (.cons (.refl _) (.cons (.nil _) (.cons (.nil _) .nil)))) (.cons (.cons (.refl _) (.cons (.refl _) (.cons (.refl _) (.cons (.nil _) .nil)))) (.cons (.cons (.refl _) (.cons (.refl _) (.cons (.refl _) (.cons (.nil _) .nil)))) (.cons (.cons (.refl _) (.cons (.refl _) (.cons (.nil _) (.cons (.refl _) .nil)))) (.cons (.cons (.refl _) (.cons (.refl _) (.cons (.nil _) (.cons (.nil _) .nil)))) (.cons (.cons (.refl _) (.cons (.refl _) (.cons (.nil _) (.cons (.nil _) .nil)))) (.cons (.cons (.refl _) (.cons (.refl _) (.cons (.refl _) (.cons (.nil _) .nil)))) .nil))))))))) (rowsE V.cells_eq [(V.mk x3.k x3.n x3.b []), (V.mk x7.k x7.n x7.b []), (V.mk x9.k x9.n [] []), (V.mk x11.k x11.n x11.b []), (V.mk x15.k x15.n x15.b []), (V.mk x17.k x17.n [] x17.l), (V.mk x19.k x19.n [] []), (V.mk x21.k x21.n [] []), (V.mk x25.k x25.n x25.b [])]))) (fun e => nomatch e) ?_
      obtain ⟨x27, h28, h⟩ := bind_some h
      refine d_ca (fc_R28_Of _ _ h28) rfl (dg0 rfl) rfl rfl rfl rfl rfl rfl rfl rfl (.cons (.refl _) .nil) rfl rfl ?_
      obtain ⟨x29, h30, h⟩ := bind_some h
      refine d_ca (fc_R02_Bytes _ _ _ h30) rfl (dg0 rfl) rfl rfl rfl rfl rfl rfl rfl rfl (.cons (.t (.agg (.cons (.refl _) (.cons (.refl _) (.cons (.nil _) (.cons (.refl _) .nil)))))) .nil) rfl rfl ?_
      refine d_2 (.t (.d (.seq 1 (bytesD x29)))) (.t (.own 5 1 (bytesD x29))) rfl (dg0 rfl) rfl rfl rfl rfl rfl ?_
      refine d_nil (by kernel_rfl) ?_
      repeat (first | refine then_normal ?_ | refine then_exit ?_ | refine then_ret ?_ | refine block_normal ?_ | refine block_ret ?_ | refine block_exit ?_ | refine block_pass rfl ?_)
      refine c_ret ?_
      repeat (first | refine then_normal ?_ | refine then_exit ?_ | refine then_ret ?_ | refine block_normal ?_ | refine block_ret ?_ | refine block_exit ?_ | refine block_pass rfl ?_)
      obtain rfl := Option.some.inj h
      exact end0 rfl (.refl _)

theorem fc_L28_awake (r : Bool) (h : m_L28_awake = some r) : FC Try.prog 6 [] [] (.t (.d (.lit (.bool r)))) := by
  refine fc_mk (rs := [.tmp 0]) (n := 25) Try.func6 rfl rfl (Nat.le_of_ble_eq_true rfl) rfl (pins := []) rfl (L := []) rfl ?_
  refine c_seq ?_
  refine c_region ?_
  refine o_s (.t (.d (.lit (.bool false)))) (g0 rfl) rfl rfl rfl ?_
  refine o_nil ?_
  repeat (first | refine then_normal ?_ | refine then_exit ?_ | refine then_ret ?_ | refine block_normal ?_ | refine block_ret ?_ | refine block_exit ?_ | refine block_pass rfl ?_)
  refine c_seq ?_
  refine c_region ?_
  refine o_s (.t (.agg [.lit (.string ⟨⟨[97]⟩⟩), .lit (.int .i64 4)])) (g0 rfl) rfl rfl rfl ?_
  refine o_s (.t (.own 55 2 (List.map cS_api_Member [(S_api_Member.mk [97] 4)]))) (g0 rfl) rfl rfl rfl ?_
  refine o_s (.t (.agg [.lit (.string ⟨⟨[102]⟩⟩), .lit (.int .i64 1), .lit (.slice none 0 0), .lit (.string ⟨⟨[]⟩⟩), .seq 2 (List.map cS_api_Member [(S_api_Member.mk [97] 4)]), .lit (.int .i64 0), .lit (.bool false), .lit (.string ⟨⟨[97]⟩⟩)])) (g0 rfl) rfl rfl rfl ?_
  refine o_s (.box [.d (.lit (.string ⟨⟨[]⟩⟩)), .d (.lit (.int .i64 0)), .d (.lit (.slice none 0 0)), .d (.lit (.string ⟨⟨[]⟩⟩)), .d (.lit (.slice none 0 0)), .d (.lit (.int .i64 0)), .d (.lit (.bool false)), .d (.lit (.string ⟨⟨[]⟩⟩))]) (g0 rfl) rfl rfl rfl ?_
  refine o_st (.box [.d (.lit (.string ⟨⟨[102]⟩⟩)), .d (.lit (.int .i64 1)), .d (.lit (.slice none 0 0)), .d (.lit (.string ⟨⟨[]⟩⟩)), .d (.seq 2 (List.map cS_api_Member [(S_api_Member.mk [97] 4)])), .d (.lit (.int .i64 0)), .d (.lit (.bool false)), .d (.lit (.string ⟨⟨[97]⟩⟩))]) (g0 rfl) rfl rfl rfl ?_
  refine o_nil ?_
  repeat (first | refine then_normal ?_ | refine then_exit ?_ | refine then_ret ?_ | refine block_normal ?_ | refine block_ret ?_ | refine block_exit ?_ | refine block_pass rfl ?_)
  refine c_seq ?_
  refine c_region ?_
  refine o_s (.t (.agg [.lit (.string ⟨⟨[102]⟩⟩), .lit (.int .i64 1), .lit (.slice none 0 0), .lit (.string ⟨⟨[]⟩⟩), .seq 2 (List.map cS_api_Member [(S_api_Member.mk [97] 4)]), .lit (.int .i64 0), .lit (.bool false), .lit (.string ⟨⟨[97]⟩⟩)])) (g0 rfl) rfl rfl rfl ?_
  obtain ⟨x1, h2, h⟩ := bind_some h
  refine o_ca (fc_manifest_Text _ _ h2) (g0 rfl) rfl rfl rfl rfl rfl rfl rfl (.cons (.t (.agg (.cons (.refl _) (.cons (.refl _) (.cons (.nil _) (.cons (.refl _) (.cons (.refl _) (.cons (.refl _) (.cons (.refl _) (.cons (.refl _) .nil)))))))))) .nil) rfl rfl ?_
  refine o_s (.tup [.d (.seq 1 (bytesD x1.1)), .d (.lit (.int .i64 x1.2))]) (g0 rfl) rfl rfl rfl ?_
  refine o_s (.t (.d (.seq 1 (bytesD x1.1)))) (g0 rfl) rfl rfl rfl ?_
  refine o_s (.t (.d (.lit (.int .i64 x1.2)))) (g0 rfl) rfl rfl rfl ?_
  refine o_s (.t (.d (.seq 1 (bytesD x1.1)))) (g0 rfl) rfl rfl rfl ?_
  refine o_s (.t (.d (.lit (.int .i64 x1.2)))) (g0 rfl) rfl rfl rfl ?_
  refine o_nil ?_
  repeat (first | refine then_normal ?_ | refine then_exit ?_ | refine then_ret ?_ | refine block_normal ?_ | refine block_ret ?_ | refine block_exit ?_ | refine block_pass rfl ?_)
  refine c_seq ?_
  refine c_region ?_
  refine o_s (.t (.d (.lit (.int .i64 x1.2)))) (g0 rfl) rfl rfl rfl ?_
  refine o_s (.t (.d (.lit (.bool (x1.2 == 0))))) (g0 rfl) rfl rfl rfl ?_
  refine o_s (.t (.d (.lit (.bool (x1.2 == 0))))) (g0 rfl) rfl rfl rfl ?_
  rcases bif_some h with ⟨h3, h⟩ | ⟨h3, h⟩
  · refine o_s (.t (.agg [.lit (.string ⟨⟨[102]⟩⟩), .lit (.int .i64 1), .lit (.slice none 0 0), .lit (.string ⟨⟨[]⟩⟩), .seq 2 (List.map cS_api_Member [(S_api_Member.mk [97] 4)]), .lit (.int .i64 0), .lit (.bool false), .lit (.string ⟨⟨[97]⟩⟩)])) (gy rfl rfl rfl h3) rfl rfl rfl ?_
    obtain ⟨x4, h5, h⟩ := bind_some h
    refine o_ca (fc_manifest_Begins _ _ h5) (gy rfl rfl rfl h3) rfl rfl rfl rfl rfl rfl rfl (.cons (.t (.agg (.cons (.refl _) (.cons (.refl _) (.cons (.nil _) (.cons (.refl _) (.cons (.refl _) (.cons (.refl _) (.cons (.refl _) (.cons (.refl _) .nil)))))))))) .nil) rfl rfl ?_
    refine o_s (.t (.d (.lit (.bool (x4 == 0))))) (gy rfl rfl rfl h3) rfl rfl rfl ?_
    refine o_pk (.t (.d (.lit (.bool (x4 == 0))))) (b := true) h3 (g0 rfl) rfl rfl rfl rfl rfl ?_
    refine o_s (.t (.d (.lit (.bool (x4 == 0))))) (g0 rfl) rfl rfl rfl ?_
    rcases bif_some h with ⟨h6, h⟩ | ⟨h6, h⟩
    · refine o_s (.t (.d (.seq 1 (bytesD x1.1)))) (gy rfl rfl rfl h6) rfl rfl rfl ?_
      refine o_s (.t (.agg [.lit (.string ⟨⟨[102]⟩⟩), .lit (.int .i64 1), .lit (.slice none 0 0), .lit (.string ⟨⟨[]⟩⟩), .seq 2 (List.map cS_api_Member [(S_api_Member.mk [97] 4)]), .lit (.int .i64 0), .lit (.bool false), .lit (.string ⟨⟨[97]⟩⟩)])) (gy rfl rfl rfl h6) rfl rfl rfl ?_
      obtain ⟨x7, h8, h⟩ := bind_some h
      refine o_ca (fc_R28_Text _ _ h8) (gy rfl rfl rfl h6) rfl rfl rfl rfl rfl rfl rfl (.cons (.t (.agg (.cons (.refl _) (.cons (.refl _) (.cons (.nil _) (.cons (.refl _) (.cons (.refl _) (.cons (.refl _) (.cons (.refl _) (.cons (.refl _) .nil)))))))))) .nil) rfl rfl ?_
      obtain ⟨x9, h10, h⟩ := bind_some h
      refine o_ca (fc_R01_Same _ _ _ h10) (gy rfl rfl rfl h6) rfl rfl rfl rfl rfl rfl rfl (.cons (.refl _) (.cons (.refl _) .nil)) rfl rfl ?_
      refine o_pk (.t (.d (.lit (.bool x9)))) (b := true) h6 (g0 rfl) rfl rfl rfl rfl rfl ?_
      refine o_s (.t (.d (.lit (.bool x9)))) (g0 rfl) rfl rfl rfl ?_
      refine o_nil ?_
      repeat (first | refine then_normal ?_ | refine then_exit ?_ | refine then_ret ?_ | refine block_normal ?_ | refine block_ret ?_ | refine block_exit ?_ | refine block_pass rfl ?_)
      refine c_ret ?_
      repeat (first | refine then_normal ?_ | refine then_exit ?_ | refine then_ret ?_ | refine block_normal ?_ | refine block_ret ?_ | refine block_exit ?_ | refine block_pass rfl ?_)
      obtain rfl := Option.some.inj h
      exact end0 rfl (.refl _)
    · refine o_skip rfl rfl rfl h6 rfl rfl ?_
      refine o_skip rfl rfl rfl h6 rfl rfl ?_
      refine o_skip rfl rfl rfl h6 rfl rfl ?_
      refine o_skip rfl rfl rfl h6 rfl rfl ?_
      refine o_pk (.t (.d (.lit (.bool false)))) (b := false) h6 (g0 rfl) rfl rfl rfl rfl rfl ?_
      refine o_s (.t (.d (.lit (.bool false)))) (g0 rfl) rfl rfl rfl ?_
      refine o_nil ?_
      repeat (first | refine then_normal ?_ | refine then_exit ?_ | refine then_ret ?_ | refine block_normal ?_ | refine block_ret ?_ | refine block_exit ?_ | refine block_pass rfl ?_)
      refine c_ret ?_
      repeat (first | refine then_normal ?_ | refine then_exit ?_ | refine then_ret ?_ | refine block_normal ?_ | refine block_ret ?_ | refine block_exit ?_ | refine block_pass rfl ?_)
      obtain rfl := Option.some.inj h
      exact end0 rfl (.refl _)
  · refine o_skip rfl rfl rfl h3 rfl rfl ?_
    refine o_skip rfl rfl rfl h3 rfl rfl ?_
    refine o_skip rfl rfl rfl h3 rfl rfl ?_
    refine o_pk (.t (.d (.lit (.bool false)))) (b := false) h3 (g0 rfl) rfl rfl rfl rfl rfl ?_
    refine o_s (.t (.d (.lit (.bool false)))) (g0 rfl) rfl rfl rfl ?_
    refine o_skip rfl rfl rfl rfl rfl rfl ?_
    refine o_skip rfl rfl rfl rfl rfl rfl ?_
    refine o_skip rfl rfl rfl rfl rfl rfl ?_
    refine o_skip rfl rfl rfl rfl rfl rfl ?_
    refine o_pk (.t (.d (.lit (.bool false)))) (b := false) rfl (g0 rfl) rfl rfl rfl rfl rfl ?_
    refine o_s (.t (.d (.lit (.bool false)))) (g0 rfl) rfl rfl rfl ?_
    refine o_nil ?_
    repeat (first | refine then_normal ?_ | refine then_exit ?_ | refine then_ret ?_ | refine block_normal ?_ | refine block_ret ?_ | refine block_exit ?_ | refine block_pass rfl ?_)
    refine c_ret ?_
    repeat (first | refine then_normal ?_ | refine then_exit ?_ | refine then_ret ?_ | refine block_normal ?_ | refine block_ret ?_ | refine block_exit ?_ | refine block_pass rfl ?_)
    obtain rfl := Option.some.inj h
    exact end0 rfl (.refl _)

theorem fc_L28_Few (p0 : S_api_Manifest) (r : Bool) (h : m_L28_Few p0 = some r) : FC Try.prog 7 [.t (.agg [.lit (.string ⟨⟨p0.Folder⟩⟩), .lit (.int .i64 p0.Seq), .seq 1 (bytesD p0.Prev), .lit (.string ⟨⟨p0.Parent⟩⟩), .seq 2 (List.map cS_api_Member p0.Members), .lit (.int .i64 p0.Cut), .lit (.bool p0.Gone), .lit (.string ⟨⟨p0.By⟩⟩)])] [] (.t (.d (.lit (.bool r)))) := by
  refine fc_mk (rs := [.tmp 2]) (n := 45) Try.func7 rfl rfl (Nat.le_of_ble_eq_true rfl) rfl (pins := []) rfl (L := [(0, .t (.agg [.lit (.string ⟨⟨p0.Folder⟩⟩), .lit (.int .i64 p0.Seq), .seq 1 (bytesD p0.Prev), .lit (.string ⟨⟨p0.Parent⟩⟩), .seq 2 (List.map cS_api_Member p0.Members), .lit (.int .i64 p0.Cut), .lit (.bool p0.Gone), .lit (.string ⟨⟨p0.By⟩⟩)]))]) rfl ?_
  refine c_seq ?_
  refine c_region ?_
  refine o_s (.box [.d (.lit (.string ⟨⟨p0.Folder⟩⟩)), .d (.lit (.int .i64 p0.Seq)), .d (.seq 1 (bytesD p0.Prev)), .d (.lit (.string ⟨⟨p0.Parent⟩⟩)), .d (.seq 2 (List.map cS_api_Member p0.Members)), .d (.lit (.int .i64 p0.Cut)), .d (.lit (.bool p0.Gone)), .d (.lit (.string ⟨⟨p0.By⟩⟩))]) (g0 rfl) rfl rfl rfl ?_
  refine o_s (.t (.d (.lit (.bool false)))) (g0 rfl) rfl rfl rfl ?_
  refine o_nil ?_
  repeat (first | refine then_normal ?_ | refine then_exit ?_ | refine then_ret ?_ | refine block_normal ?_ | refine block_ret ?_ | refine block_exit ?_ | refine block_pass rfl ?_)
  refine c_cut (fun (_ : Unit) => [(1, .box [.d (.lit (.string ⟨⟨p0.Folder⟩⟩)), .d (.lit (.int .i64 p0.Seq)), .d (.seq 1 (bytesD p0.Prev)), .d (.lit (.string ⟨⟨p0.Parent⟩⟩)), .d (.seq 2 (List.map cS_api_Member p0.Members)), .d (.lit (.int .i64 p0.Cut)), .d (.lit (.bool p0.Gone)), .d (.lit (.string ⟨⟨p0.By⟩⟩))])]) (fun (_ : Unit) => m_L28_Few_j1 p0 = some r) ?_ ?_
  · refine c_seq ?_
    refine c_region ?_
    refine o_s (.ref 1 4) (g0 rfl) rfl rfl rfl ?_
    refine o_s (.t (.d (.seq 2 (List.map cS_api_Member p0.Members)))) (g0 rfl) rfl rfl rfl ?_
    refine o_c (g0 rfl) rfl rfl rfl (lenE _ _) trivial ?_
    refine o_s (.t (.d (.lit (.int .i64 0)))) (g0 rfl) rfl rfl rfl ?_
    refine o_nil ?_
    repeat (first | refine then_normal ?_ | refine then_exit ?_ | refine then_ret ?_ | refine block_normal ?_ | refine block_ret ?_ | refine block_exit ?_ | refine block_pass rfl ?_)
    refine c_block ?_
    refine c_fuel (fun (z5 : Int) => [(1, .box [.d (.lit (.string ⟨⟨p0.Folder⟩⟩)), .d (.lit (.int .i64 p0.Seq)), .d (.seq 1 (bytesD p0.Prev)), .d (.lit (.string ⟨⟨p0.Parent⟩⟩)), .d (.seq 2 (List.map cS_api_Member p0.Members)), .d (.lit (.int .i64 p0.Cut)), .d (.lit (.bool p0.Gone)), .d (.lit (.string ⟨⟨p0.By⟩⟩))]), (6, .t (.d (.seq 2 (List.map cS_api_Member p0.Members)))), (7, .t (.d (.lit (.int .i64 (p0.Members.length : Int))))), (8, .t (.d (.lit (.int .i64 z5))))]) (fun nl2 => (fun (z5 : Int) => m_L28_Few_l2 p0 nl2 z5 = some r)) (p0.Members.length + 1) 0 h ⟨(.refl _), ⟨(.refl _), ⟨(.refl _), ⟨(.refl _), trivial⟩⟩⟩⟩ rfl ?_
    rintro nl2 z5 h
    cases nl2 with
    | zero => exact none_ne h
    | succ nl2 =>
      refine c_seq ?_
      refine c_region ?_
      refine o_s (.t (.d (.lit (.bool (decide (z5 < (p0.Members.length : Int))))))) (g0 rfl) rfl rfl rfl ?_
      refine o_nil ?_
      repeat (first | refine then_normal ?_ | refine then_exit ?_ | refine then_ret ?_ | refine block_normal ?_ | refine block_ret ?_ | refine block_exit ?_ | refine block_pass rfl ?_)
      refine c_seq ?_
      rcases bif_some h with ⟨h6, h⟩ | ⟨h6, h⟩
      · refine c_t h6 rfl ?_
        refine c_skip ?_
        repeat (first | refine then_normal ?_ | refine then_exit ?_ | refine then_ret ?_ | refine block_normal ?_ | refine block_ret ?_ | refine block_exit ?_ | refine block_pass rfl ?_)
        refine c_seq ?_
        refine c_block ?_
        refine c_seq ?_
        refine c_region ?_
        obtain ⟨x7, h8, h⟩ := bind_some h
        refine o_c (g0 rfl) rfl rfl rfl (idxE h8) (idxC h8) ?_
        refine o_s (.t (.agg [.lit (.string ⟨⟨x7.Name⟩⟩), .lit (.int .i64 x7.Role)])) (g0 rfl) rfl rfl rfl ?_
        refine o_s (.box [.d (.lit (.string ⟨⟨[]⟩⟩)), .d (.lit (.int .i64 0))]) (g0 rfl) rfl rfl rfl ?_
        refine o_st (.box [.d (.lit (.string ⟨⟨x7.Name⟩⟩)), .d (.lit (.int .i64 x7.Role))]) (g0 rfl) rfl rfl rfl ?_
        refine o_nil ?_
        repeat (first | refine then_normal ?_ | refine then_exit ?_ | refine then_ret ?_ | refine block_normal ?_ | refine block_ret ?_ | refine block_exit ?_ | refine block_pass rfl ?_)
        refine c_seq ?_
        refine c_region ?_
        refine o_s (.ref 4 0) (g0 rfl) rfl rfl rfl ?_
        refine o_s (.t (.d (.lit (.string ⟨⟨x7.Name⟩⟩)))) (g0 rfl) rfl rfl rfl ?_
        refine o_s (.t (.d (.lit (.int .i64 (x7.Name.length : Int))))) (g0 rfl) rfl rfl rfl ?_
        refine o_s (.t (.d (.lit (.bool (decide ((x7.Name.length : Int) > 20)))))) (g0 rfl) rfl rfl rfl ?_
        refine o_nil ?_
        repeat (first | refine then_normal ?_ | refine then_exit ?_ | refine then_ret ?_ | refine block_normal ?_ | refine block_ret ?_ | refine block_exit ?_ | refine block_pass rfl ?_)
        rcases bif_some h with ⟨h9, h⟩ | ⟨h9, h⟩
        · refine c_t h9 rfl ?_
          refine c_seq ?_
          refine c_region ?_
          refine o_s (.t (.d (.lit (.bool false)))) (g0 rfl) rfl rfl rfl ?_
          refine o_nil ?_
          repeat (first | refine then_normal ?_ | refine then_exit ?_ | refine then_ret ?_ | refine block_normal ?_ | refine block_ret ?_ | refine block_exit ?_ | refine block_pass rfl ?_)
          refine c_ret ?_
          repeat (first | refine then_normal ?_ | refine then_exit ?_ | refine then_ret ?_ | refine block_normal ?_ | refine block_ret ?_ | refine block_exit ?_ | refine block_pass rfl ?_)
          obtain rfl := Option.some.inj h
          exact end0 rfl (.refl _)
        · refine c_f h9 rfl ?_
          refine c_skip ?_
          repeat (first | refine then_normal ?_ | refine then_exit ?_ | refine then_ret ?_ | refine block_normal ?_ | refine block_ret ?_ | refine block_exit ?_ | refine block_pass rfl ?_)
          refine c_region ?_
          refine o_s (.t (.d (.lit (.int .i64 (wi (z5 + 1)))))) (g0 rfl) rfl rfl rfl ?_
          refine o_s (.t (.d (.lit (.int .i64 (wi (z5 + 1)))))) (g0 rfl) rfl rfl rfl ?_
          refine o_nil ?_
          repeat (first | refine then_normal ?_ | refine then_exit ?_ | refine then_ret ?_ | refine block_normal ?_ | refine block_ret ?_ | refine block_exit ?_ | refine block_pass rfl ?_)
          exact ⟨nl2, (wi (z5 + 1)), Nat.lt_succ_self nl2, h, ⟨(.refl _), ⟨(.refl _), ⟨(.refl _), ⟨(.refl _), trivial⟩⟩⟩⟩, rfl⟩
      · refine c_f h6 rfl ?_
        refine c_exit ?_
        repeat (first | refine then_normal ?_ | refine then_exit ?_ | refine then_ret ?_ | refine block_normal ?_ | refine block_ret ?_ | refine block_exit ?_ | refine block_pass rfl ?_)
        exact ⟨(), h, ⟨(.refl _), trivial⟩, rfl⟩
  · rintro ⟨⟩ h
    refine c_seq ?_
    refine c_region ?_
    refine o_s (.ref 1 0) (g0 rfl) rfl rfl rfl ?_
    refine o_s (.t (.d (.lit (.string ⟨⟨p0.Folder⟩⟩)))) (g0 rfl) rfl rfl rfl ?_
    refine o_s (.t (.d (.lit (.int .i64 (p0.Folder.length : Int))))) (g0 rfl) rfl rfl rfl ?_
    refine o_s (.t (.d (.lit (.bool (decide ((p0.Folder.length : Int) ≤ 20)))))) (g0 rfl) rfl rfl rfl ?_
    refine o_s (.t (.d (.lit (.bool (decide ((p0.Folder.length : Int) ≤ 20)))))) (g0 rfl) rfl rfl rfl ?_
    rcases bif_some h with ⟨h1, h⟩ | ⟨h1, h⟩
    · refine o_s (.ref 1 7) (gy rfl rfl rfl h1) rfl rfl rfl ?_
      refine o_s (.t (.d (.lit (.string ⟨⟨p0.By⟩⟩)))) (gy rfl rfl rfl h1) rfl rfl rfl ?_
      refine o_s (.t (.d (.lit (.int .i64 (p0.By.length : Int))))) (gy rfl rfl rfl h1) rfl rfl rfl ?_
      refine o_s (.t (.d (.lit (.bool (decide ((p0.By.length : Int) ≤ 20)))))) (gy rfl rfl rfl h1) rfl rfl rfl ?_
      refine o_pk (.t (.d (.lit (.bool (decide ((p0.By.length : Int) ≤ 20)))))) (b := true) h1 (g0 rfl) rfl rfl rfl rfl rfl ?_
      refine o_s (.t (.d (.lit (.bool (decide ((p0.By.length : Int) ≤ 20)))))) (g0 rfl) rfl rfl rfl ?_
      rcases bif_some h with ⟨h2, h⟩ | ⟨h2, h⟩
      · refine o_s (.ref 1 3) (gy rfl rfl rfl h2) rfl rfl rfl ?_
        refine o_s (.t (.d (.lit (.string ⟨⟨p0.Parent⟩⟩)))) (gy rfl rfl rfl h2) rfl rfl rfl ?_
        refine o_s (.t (.d (.lit (.int .i64 (p0.Parent.length : Int))))) (gy rfl rfl rfl h2) rfl rfl rfl ?_
        refine o_s (.t (.d (.lit (.bool (decide ((p0.Parent.length : Int) ≤ 20)))))) (gy rfl rfl rfl h2) rfl rfl rfl ?_
        refine o_pk (.t (.d (.lit (.bool (decide ((p0.Parent.length : Int) ≤ 20)))))) (b := true) h2 (g0 rfl) rfl rfl rfl rfl rfl ?_
        refine o_s (.t (.d (.lit (.bool (decide ((p0.Parent.length : Int) ≤ 20)))))) (g0 rfl) rfl rfl rfl ?_
        rcases bif_some h with ⟨h3, h⟩ | ⟨h3, h⟩
        · refine o_s (.ref 1 4) (gy rfl rfl rfl h3) rfl rfl rfl ?_
          refine o_s (.t (.d (.seq 2 (List.map cS_api_Member p0.Members)))) (gy rfl rfl rfl h3) rfl rfl rfl ?_
          refine o_c (gy rfl rfl rfl h3) rfl rfl rfl (lenE _ _) trivial ?_
          refine o_s (.t (.d (.lit (.bool (decide ((p0.Members.length : Int) ≤ 20)))))) (gy rfl rfl rfl h3) rfl rfl rfl ?_
          refine o_pk (.t (.d (.lit (.bool (decide ((p0.Members.length : Int) ≤ 20)))))) (b := true) h3 (g0 rfl) rfl rfl rfl rfl rfl ?_
          refine o_s (.t (.d (.lit (.bool (decide ((p0.Members.length : Int) ≤ 20)))))) (g0 rfl) rfl rfl rfl ?_
          rcases bif_some h with ⟨h4, h⟩ | ⟨h4, h⟩
          · refine o_s (.ref 1 2) (gy rfl rfl rfl h4) rfl rfl rfl ?_
            refine o_s (.t (.d (.seq 1 (bytesD p0.Prev)))) (gy rfl rfl rfl h4) rfl rfl rfl ?_
            refine o_c (gy rfl rfl rfl h4) rfl rfl rfl (lenE _ _) trivial ?_
            refine o_s (.t (.d (.lit (.bool (decide ((p0.Prev.length : Int) ≤ 100)))))) (gy rfl rfl rfl h4) rfl rfl rfl ?_
            refine o_pk (.t (.d (.lit (.bool (decide ((p0.Prev.length : Int) ≤ 100)))))) (b := true) h4 (g0 rfl) rfl rfl rfl rfl rfl ?_
            refine o_s (.t (.d (.lit (.bool (decide ((p0.Prev.length : Int) ≤ 100)))))) (g0 rfl) rfl rfl rfl ?_
            refine o_nil ?_
            repeat (first | refine then_normal ?_ | refine then_exit ?_ | refine then_ret ?_ | refine block_normal ?_ | refine block_ret ?_ | refine block_exit ?_ | refine block_pass rfl ?_)
            refine c_ret ?_
            repeat (first | refine then_normal ?_ | refine then_exit ?_ | refine then_ret ?_ | refine block_normal ?_ | refine block_ret ?_ | refine block_exit ?_ | refine block_pass rfl ?_)
            obtain rfl := Option.some.inj h
            exact end0 rfl (.refl _)
          · refine o_skip rfl rfl rfl h4 rfl rfl ?_
            refine o_skip rfl rfl rfl h4 rfl rfl ?_
            refine o_skip rfl rfl rfl h4 rfl rfl ?_
            refine o_skip rfl rfl rfl h4 rfl rfl ?_
            refine o_pk (.t (.d (.lit (.bool false)))) (b := false) h4 (g0 rfl) rfl rfl rfl rfl rfl ?_
            refine o_s (.t (.d (.lit (.bool false)))) (g0 rfl) rfl rfl rfl ?_
            refine o_nil ?_
            repeat (first | refine then_normal ?_ | refine then_exit ?_ | refine then_ret ?_ | refine block_normal ?_ | refine block_ret ?_ | refine block_exit ?_ | refine block_pass rfl ?_)
            refine c_ret ?_
            repeat (first | refine then_normal ?_ | refine then_exit ?_ | refine then_ret ?_ | refine block_normal ?_ | refine block_ret ?_ | refine block_exit ?_ | refine block_pass rfl ?_)
            obtain rfl := Option.some.inj h
            exact end0 rfl (.refl _)
        · refine o_skip rfl rfl rfl h3 rfl rfl ?_
          refine o_skip rfl rfl rfl h3 rfl rfl ?_
          refine o_skip rfl rfl rfl h3 rfl rfl ?_
          refine o_skip rfl rfl rfl h3 rfl rfl ?_
          refine o_pk (.t (.d (.lit (.bool false)))) (b := false) h3 (g0 rfl) rfl rfl rfl rfl rfl ?_
          refine o_s (.t (.d (.lit (.bool false)))) (g0 rfl) rfl rfl rfl ?_
          refine o_skip rfl rfl rfl rfl rfl rfl ?_
          refine o_skip rfl rfl rfl rfl rfl rfl ?_
          refine o_skip rfl rfl rfl rfl rfl rfl ?_
          refine o_skip rfl rfl rfl rfl rfl rfl ?_
          refine o_pk (.t (.d (.lit (.bool false)))) (b := false) rfl (g0 rfl) rfl rfl rfl rfl rfl ?_
          refine o_s (.t (.d (.lit (.bool false)))) (g0 rfl) rfl rfl rfl ?_
          refine o_nil ?_
          repeat (first | refine then_normal ?_ | refine then_exit ?_ | refine then_ret ?_ | refine block_normal ?_ | refine block_ret ?_ | refine block_exit ?_ | refine block_pass rfl ?_)
          refine c_ret ?_
          repeat (first | refine then_normal ?_ | refine then_exit ?_ | refine then_ret ?_ | refine block_normal ?_ | refine block_ret ?_ | refine block_exit ?_ | refine block_pass rfl ?_)
          obtain rfl := Option.some.inj h
          exact end0 rfl (.refl _)
      · refine o_skip rfl rfl rfl h2 rfl rfl ?_
        refine o_skip rfl rfl rfl h2 rfl rfl ?_
        refine o_skip rfl rfl rfl h2 rfl rfl ?_
        refine o_skip rfl rfl rfl h2 rfl rfl ?_
        refine o_pk (.t (.d (.lit (.bool false)))) (b := false) h2 (g0 rfl) rfl rfl rfl rfl rfl ?_
        refine o_s (.t (.d (.lit (.bool false)))) (g0 rfl) rfl rfl rfl ?_
        refine o_skip rfl rfl rfl rfl rfl rfl ?_
        refine o_skip rfl rfl rfl rfl rfl rfl ?_
        refine o_skip rfl rfl rfl rfl rfl rfl ?_
        refine o_skip rfl rfl rfl rfl rfl rfl ?_
        refine o_pk (.t (.d (.lit (.bool false)))) (b := false) rfl (g0 rfl) rfl rfl rfl rfl rfl ?_
        refine o_s (.t (.d (.lit (.bool false)))) (g0 rfl) rfl rfl rfl ?_
        refine o_skip rfl rfl rfl rfl rfl rfl ?_
        refine o_skip rfl rfl rfl rfl rfl rfl ?_
        refine o_skip rfl rfl rfl rfl rfl rfl ?_
        refine o_skip rfl rfl rfl rfl rfl rfl ?_
        refine o_pk (.t (.d (.lit (.bool false)))) (b := false) rfl (g0 rfl) rfl rfl rfl rfl rfl ?_
        refine o_s (.t (.d (.lit (.bool false)))) (g0 rfl) rfl rfl rfl ?_
        refine o_nil ?_
        repeat (first | refine then_normal ?_ | refine then_exit ?_ | refine then_ret ?_ | refine block_normal ?_ | refine block_ret ?_ | refine block_exit ?_ | refine block_pass rfl ?_)
        refine c_ret ?_
        repeat (first | refine then_normal ?_ | refine then_exit ?_ | refine then_ret ?_ | refine block_normal ?_ | refine block_ret ?_ | refine block_exit ?_ | refine block_pass rfl ?_)
        obtain rfl := Option.some.inj h
        exact end0 rfl (.refl _)
    · refine o_skip rfl rfl rfl h1 rfl rfl ?_
      refine o_skip rfl rfl rfl h1 rfl rfl ?_
      refine o_skip rfl rfl rfl h1 rfl rfl ?_
      refine o_skip rfl rfl rfl h1 rfl rfl ?_
      refine o_pk (.t (.d (.lit (.bool false)))) (b := false) h1 (g0 rfl) rfl rfl rfl rfl rfl ?_
      refine o_s (.t (.d (.lit (.bool false)))) (g0 rfl) rfl rfl rfl ?_
      refine o_skip rfl rfl rfl rfl rfl rfl ?_
      refine o_skip rfl rfl rfl rfl rfl rfl ?_
      refine o_skip rfl rfl rfl rfl rfl rfl ?_
      refine o_skip rfl rfl rfl rfl rfl rfl ?_
      refine o_pk (.t (.d (.lit (.bool false)))) (b := false) rfl (g0 rfl) rfl rfl rfl rfl rfl ?_
      refine o_s (.t (.d (.lit (.bool false)))) (g0 rfl) rfl rfl rfl ?_
      refine o_skip rfl rfl rfl rfl rfl rfl ?_
      refine o_skip rfl rfl rfl rfl rfl rfl ?_
      refine o_skip rfl rfl rfl rfl rfl rfl ?_
      refine o_skip rfl rfl rfl rfl rfl rfl ?_
      refine o_pk (.t (.d (.lit (.bool false)))) (b := false) rfl (g0 rfl) rfl rfl rfl rfl rfl ?_
      refine o_s (.t (.d (.lit (.bool false)))) (g0 rfl) rfl rfl rfl ?_
      refine o_skip rfl rfl rfl rfl rfl rfl ?_
      refine o_skip rfl rfl rfl rfl rfl rfl ?_
      refine o_skip rfl rfl rfl rfl rfl rfl ?_
      refine o_skip rfl rfl rfl rfl rfl rfl ?_
      refine o_pk (.t (.d (.lit (.bool false)))) (b := false) rfl (g0 rfl) rfl rfl rfl rfl rfl ?_
      refine o_s (.t (.d (.lit (.bool false)))) (g0 rfl) rfl rfl rfl ?_
      refine o_nil ?_
      repeat (first | refine then_normal ?_ | refine then_exit ?_ | refine then_ret ?_ | refine block_normal ?_ | refine block_ret ?_ | refine block_exit ?_ | refine block_pass rfl ?_)
      refine c_ret ?_
      repeat (first | refine then_normal ?_ | refine then_exit ?_ | refine then_ret ?_ | refine block_normal ?_ | refine block_ret ?_ | refine block_exit ?_ | refine block_pass rfl ?_)
      obtain rfl := Option.some.inj h
      exact end0 rfl (.refl _)

theorem fc_R25_Name (p0 : (List UInt8)) (r : Bool) (h : m_R25_Name p0 = some r) : FC Try.prog 33 [.t (.d (.lit (.string ⟨⟨p0⟩⟩)))] [] (.t (.d (.lit (.bool r)))) := by
  refine fc_mk (rs := [.tmp 2]) (n := 46) Try.func33 rfl rfl (Nat.le_of_ble_eq_true rfl) rfl (pins := []) rfl (L := [(0, .t (.d (.lit (.string ⟨⟨p0⟩⟩))))]) rfl ?_
  refine c_seq ?_
  refine c_region ?_
  refine o_s (.t (.d (.lit (.bool false)))) (g0 rfl) rfl rfl rfl ?_
  refine o_nil ?_
  repeat (first | refine then_normal ?_ | refine then_exit ?_ | refine then_ret ?_ | refine block_normal ?_ | refine block_ret ?_ | refine block_exit ?_ | refine block_pass rfl ?_)
  refine c_seq ?_
  refine c_seq ?_
  refine c_region ?_
  refine o_s (.t (.d (.lit (.string ⟨⟨p0⟩⟩)))) (g0 rfl) rfl rfl rfl ?_
  refine o_s (.t (.d (.lit (.int .i64 (p0.length : Int))))) (g0 rfl) rfl rfl rfl ?_
  refine o_s (.t (.d (.lit (.bool (decide ((p0.length : Int) < 1)))))) (g0 rfl) rfl rfl rfl ?_
  refine o_s (.t (.d (.lit (.bool (decide ((p0.length : Int) < 1)))))) (g0 rfl) rfl rfl rfl ?_
  rcases bif_some h with ⟨h1, h⟩ | ⟨h1, h⟩
  · refine o_skip rfl rfl rfl h1 rfl rfl ?_
    refine o_skip rfl rfl rfl h1 rfl rfl ?_
    refine o_skip rfl rfl rfl h1 rfl rfl ?_
    refine o_pk (.t (.d (.lit (.bool true)))) (b := true) h1 (g0 rfl) rfl rfl rfl rfl rfl ?_
    refine o_nil ?_
    repeat (first | refine then_normal ?_ | refine then_exit ?_ | refine then_ret ?_ | refine block_normal ?_ | refine block_ret ?_ | refine block_exit ?_ | refine block_pass rfl ?_)
    refine c_t rfl rfl ?_
    refine c_seq ?_
    refine c_region ?_
    refine o_s (.t (.d (.lit (.bool false)))) (g0 rfl) rfl rfl rfl ?_
    refine o_nil ?_
    repeat (first | refine then_normal ?_ | refine then_exit ?_ | refine then_ret ?_ | refine block_normal ?_ | refine block_ret ?_ | refine block_exit ?_ | refine block_pass rfl ?_)
    refine c_ret ?_
    repeat (first | refine then_normal ?_ | refine then_exit ?_ | refine then_ret ?_ | refine block_normal ?_ | refine block_ret ?_ | refine block_exit ?_ | refine block_pass rfl ?_)
    obtain rfl := Option.some.inj h
    exact end0 rfl (.refl _)
  · refine o_s (.t (.d (.lit (.string ⟨⟨p0⟩⟩)))) (gy rfl rfl rfl h1) rfl rfl rfl ?_
    refine o_s (.t (.d (.lit (.int .i64 (p0.length : Int))))) (gy rfl rfl rfl h1) rfl rfl rfl ?_
    refine o_s (.t (.d (.lit (.bool (decide ((p0.length : Int) > 12)))))) (gy rfl rfl rfl h1) rfl rfl rfl ?_
    refine o_pk (.t (.d (.lit (.bool (decide ((p0.length : Int) > 12)))))) (b := false) h1 (g0 rfl) rfl rfl rfl rfl rfl ?_
    refine o_nil ?_
    repeat (first | refine then_normal ?_ | refine then_exit ?_ | refine then_ret ?_ | refine block_normal ?_ | refine block_ret ?_ | refine block_exit ?_ | refine block_pass rfl ?_)
    rcases bif_some h with ⟨h2, h⟩ | ⟨h2, h⟩
    · refine c_t h2 rfl ?_
      refine c_seq ?_
      refine c_region ?_
      refine o_s (.t (.d (.lit (.bool false)))) (g0 rfl) rfl rfl rfl ?_
      refine o_nil ?_
      repeat (first | refine then_normal ?_ | refine then_exit ?_ | refine then_ret ?_ | refine block_normal ?_ | refine block_ret ?_ | refine block_exit ?_ | refine block_pass rfl ?_)
      refine c_ret ?_
      repeat (first | refine then_normal ?_ | refine then_exit ?_ | refine then_ret ?_ | refine block_normal ?_ | refine block_ret ?_ | refine block_exit ?_ | refine block_pass rfl ?_)
      obtain rfl := Option.some.inj h
      exact end0 rfl (.refl _)
    · refine c_f h2 rfl ?_
      refine c_skip ?_
      repeat (first | refine then_normal ?_ | refine then_exit ?_ | refine then_ret ?_ | refine block_normal ?_ | refine block_ret ?_ | refine block_exit ?_ | refine block_pass rfl ?_)
      refine c_seq ?_
      refine c_seq ?_
      refine c_region ?_
      refine o_s (.t (.d (.lit (.int .i64 0)))) (g0 rfl) rfl rfl rfl ?_
      refine o_nil ?_
      repeat (first | refine then_normal ?_ | refine then_exit ?_ | refine then_ret ?_ | refine block_normal ?_ | refine block_ret ?_ | refine block_exit ?_ | refine block_pass rfl ?_)
      refine c_block ?_
      refine c_fuel (fun (z3 : Int) => [(0, .t (.d (.lit (.string ⟨⟨p0⟩⟩)))), (3, .t (.d (.lit (.int .i64 z3))))]) (fun nl1 => (fun (z3 : Int) => m_R25_Name_l1 p0 nl1 z3 = some r)) (p0.length + 1) 0 h ⟨(.refl _), ⟨(.refl _), trivial⟩⟩ rfl ?_
      rintro nl1 z3 h
      cases nl1 with
      | zero => exact none_ne h
      | succ nl1 =>
        refine c_seq ?_
        refine c_seq ?_
        refine c_region ?_
        refine o_s (.t (.d (.lit (.int .i64 z3)))) (g0 rfl) rfl rfl rfl ?_
        refine o_s (.t (.d (.lit (.string ⟨⟨p0⟩⟩)))) (g0 rfl) rfl rfl rfl ?_
        refine o_s (.t (.d (.lit (.int .i64 (p0.length : Int))))) (g0 rfl) rfl rfl rfl ?_
        refine o_s (.t (.d (.lit (.bool (decide (z3 < (p0.length : Int))))))) (g0 rfl) rfl rfl rfl ?_
        refine o_nil ?_
        repeat (first | refine then_normal ?_ | refine then_exit ?_ | refine then_ret ?_ | refine block_normal ?_ | refine block_ret ?_ | refine block_exit ?_ | refine block_pass rfl ?_)
        rcases bif_some h with ⟨h4, h⟩ | ⟨h4, h⟩
        · refine c_t h4 rfl ?_
          refine c_skip ?_
          repeat (first | refine then_normal ?_ | refine then_exit ?_ | refine then_ret ?_ | refine block_normal ?_ | refine block_ret ?_ | refine block_exit ?_ | refine block_pass rfl ?_)
          refine c_cut (fun (_ : Unit) => [(0, .t (.d (.lit (.string ⟨⟨p0⟩⟩)))), (3, .t (.d (.lit (.int .i64 z3))))]) (fun (_ : Unit) => m_R25_Name_j2 (m_R25_Name_l1 p0 nl1) z3 = some r) ?_ ?_
          · refine c_block ?_
            refine c_cut (fun (y5 : Bool) => [(0, .t (.d (.lit (.string ⟨⟨p0⟩⟩)))), (3, .t (.d (.lit (.int .i64 z3)))), (4, .t (.d (.lit (.bool y5))))]) (fun (y5 : Bool) => m_R25_Name_j3 (m_R25_Name_l1 p0 nl1) p0 z3 y5 = some r) ?_ ?_
            · refine c_region ?_
              refine o_s (.t (.d (.lit (.string ⟨⟨p0⟩⟩)))) (g0 rfl) rfl rfl rfl ?_
              refine o_s (.t (.d (.lit (.int .i64 z3)))) (g0 rfl) rfl rfl rfl ?_
              obtain ⟨x14, h15, h⟩ := bind_some h
              refine o_c (g0 rfl) rfl rfl rfl (strIdxE h15) (strIdxC h15) ?_
              refine o_s (.t (.d (.lit (.bool (decide ((x14.toNat : Int) ≥ 97)))))) (g0 rfl) rfl rfl rfl ?_
              refine o_s (.t (.d (.lit (.bool (decide ((x14.toNat : Int) ≥ 97)))))) (g0 rfl) rfl rfl rfl ?_
              rcases bif_some h with ⟨h16, h⟩ | ⟨h16, h⟩
              · refine o_s (.t (.d (.lit (.string ⟨⟨p0⟩⟩)))) (gy rfl rfl rfl h16) rfl rfl rfl ?_
                refine o_s (.t (.d (.lit (.int .i64 z3)))) (gy rfl rfl rfl h16) rfl rfl rfl ?_
                obtain ⟨x17, h18, h⟩ := bind_some h
                refine o_c (gy rfl rfl rfl h16) rfl rfl rfl (strIdxE h18) (strIdxC h18) ?_
                refine o_s (.t (.d (.lit (.bool (decide ((x17.toNat : Int) ≤ 122)))))) (gy rfl rfl rfl h16) rfl rfl rfl ?_
                refine o_pk (.t (.d (.lit (.bool (decide ((x17.toNat : Int) ≤ 122)))))) (b := true) h16 (g0 rfl) rfl rfl rfl rfl rfl ?_
                refine o_s (.t (.d (.lit (.bool (decide ((x17.toNat : Int) ≤ 122)))))) (g0 rfl) rfl rfl rfl ?_
                refine o_nil ?_
                repeat (first | refine then_normal ?_ | refine then_exit ?_ | refine then_ret ?_ | refine block_normal ?_ | refine block_ret ?_ | refine block_exit ?_ | refine block_pass rfl ?_)
                exact ⟨(decide ((x17.toNat : Int) ≤ 122)), h, ⟨(.refl _), ⟨(.refl _), ⟨(.refl _), trivial⟩⟩⟩, rfl⟩
              · refine o_skip rfl rfl rfl h16 rfl rfl ?_
                refine o_skip rfl rfl rfl h16 rfl rfl ?_
                refine o_skip rfl rfl rfl h16 rfl rfl ?_
                refine o_skip rfl rfl rfl h16 rfl rfl ?_
                refine o_pk (.t (.d (.lit (.bool false)))) (b := false) h16 (g0 rfl) rfl rfl rfl rfl rfl ?_
                refine o_s (.t (.d (.lit (.bool false)))) (g0 rfl) rfl rfl rfl ?_
                refine o_nil ?_
                repeat (first | refine then_normal ?_ | refine then_exit ?_ | refine then_ret ?_ | refine block_normal ?_ | refine block_ret ?_ | refine block_exit ?_ | refine block_pass rfl ?_)
                exact ⟨false, h, ⟨(.refl _), ⟨(.refl _), ⟨(.refl _), trivial⟩⟩⟩, rfl⟩
            · rintro y5 h
              refine c_cut (fun (y6 : Bool) => [(0, .t (.d (.lit (.string ⟨⟨p0⟩⟩)))), (3, .t (.d (.lit (.int .i64 z3)))), (4, .t (.d (.lit (.bool y5)))), (5, .t (.d (.lit (.bool y6))))]) (fun (y6 : Bool) => m_R25_Name_j4 (m_R25_Name_l1 p0 nl1) y5 z3 y6 = some r) ?_ ?_
              · refine c_region ?_
                refine o_s (.t (.d (.lit (.string ⟨⟨p0⟩⟩)))) (g0 rfl) rfl rfl rfl ?_
                refine o_s (.t (.d (.lit (.int .i64 z3)))) (g0 rfl) rfl rfl rfl ?_
                obtain ⟨x9, h10, h⟩ := bind_some h
                refine o_c (g0 rfl) rfl rfl rfl (strIdxE h10) (strIdxC h10) ?_
                refine o_s (.t (.d (.lit (.bool (decide ((x9.toNat : Int) ≥ 48)))))) (g0 rfl) rfl rfl rfl ?_
                refine o_s (.t (.d (.lit (.bool (decide ((x9.toNat : Int) ≥ 48)))))) (g0 rfl) rfl rfl rfl ?_
                rcases bif_some h with ⟨h11, h⟩ | ⟨h11, h⟩
                · refine o_s (.t (.d (.lit (.string ⟨⟨p0⟩⟩)))) (gy rfl rfl rfl h11) rfl rfl rfl ?_
                  refine o_s (.t (.d (.lit (.int .i64 z3)))) (gy rfl rfl rfl h11) rfl rfl rfl ?_
                  obtain ⟨x12, h13, h⟩ := bind_some h
                  refine o_c (gy rfl rfl rfl h11) rfl rfl rfl (strIdxE h13) (strIdxC h13) ?_
                  refine o_s (.t (.d (.lit (.bool (decide ((x12.toNat : Int) ≤ 57)))))) (gy rfl rfl rfl h11) rfl rfl rfl ?_
                  refine o_pk (.t (.d (.lit (.bool (decide ((x12.toNat : Int) ≤ 57)))))) (b := true) h11 (g0 rfl) rfl rfl rfl rfl rfl ?_
                  refine o_s (.t (.d (.lit (.bool (decide ((x12.toNat : Int) ≤ 57)))))) (g0 rfl) rfl rfl rfl ?_
                  refine o_nil ?_
                  repeat (first | refine then_normal ?_ | refine then_exit ?_ | refine then_ret ?_ | refine block_normal ?_ | refine block_ret ?_ | refine block_exit ?_ | refine block_pass rfl ?_)
                  exact ⟨(decide ((x12.toNat : Int) ≤ 57)), h, ⟨(.refl _), ⟨(.refl _), ⟨(.refl _), ⟨(.refl _), trivial⟩⟩⟩⟩, rfl⟩
                · refine o_skip rfl rfl rfl h11 rfl rfl ?_
                  refine o_skip rfl rfl rfl h11 rfl rfl ?_
                  refine o_skip rfl rfl rfl h11 rfl rfl ?_
                  refine o_skip rfl rfl rfl h11 rfl rfl ?_
                  refine o_pk (.t (.d (.lit (.bool false)))) (b := false) h11 (g0 rfl) rfl rfl rfl rfl rfl ?_
                  refine o_s (.t (.d (.lit (.bool false)))) (g0 rfl) rfl rfl rfl ?_
                  refine o_nil ?_
                  repeat (first | refine then_normal ?_ | refine then_exit ?_ | refine then_ret ?_ | refine block_normal ?_ | refine block_ret ?_ | refine block_exit ?_ | refine block_pass rfl ?_)
                  exact ⟨false, h, ⟨(.refl _), ⟨(.refl _), ⟨(.refl _), ⟨(.refl _), trivial⟩⟩⟩⟩, rfl⟩
              · rintro y6 h
                refine c_seq ?_
                refine c_region ?_
                refine o_s (.t (.d (.lit (.bool y5)))) (g0 rfl) rfl rfl rfl ?_
                refine o_s (.t (.d (.lit (.bool (!y5))))) (g0 rfl) rfl rfl rfl ?_
                refine o_s (.t (.d (.lit (.bool (!y5))))) (g0 rfl) rfl rfl rfl ?_
                rcases bif_some h with ⟨h7, h⟩ | ⟨h7, h⟩
                · refine o_s (.t (.d (.lit (.bool y6)))) (gy rfl rfl rfl h7) rfl rfl rfl ?_
                  refine o_s (.t (.d (.lit (.bool (!y6))))) (gy rfl rfl rfl h7) rfl rfl rfl ?_
                  refine o_pk (.t (.d (.lit (.bool (!y6))))) (b := true) h7 (g0 rfl) rfl rfl rfl rfl rfl ?_
                  refine o_nil ?_
                  repeat (first | refine then_normal ?_ | refine then_exit ?_ | refine then_ret ?_ | refine block_normal ?_ | refine block_ret ?_ | refine block_exit ?_ | refine block_pass rfl ?_)
                  rcases bif_some h with ⟨h8, h⟩ | ⟨h8, h⟩
                  · refine c_t h8 rfl ?_
                    refine c_seq ?_
                    refine c_region ?_
                    refine o_s (.t (.d (.lit (.bool false)))) (g0 rfl) rfl rfl rfl ?_
                    refine o_nil ?_
                    repeat (first | refine then_normal ?_ | refine then_exit ?_ | refine then_ret ?_ | refine block_normal ?_ | refine block_ret ?_ | refine block_exit ?_ | refine block_pass rfl ?_)
                    refine c_ret ?_
                    repeat (first | refine then_normal ?_ | refine then_exit ?_ | refine then_ret ?_ | refine block_normal ?_ | refine block_ret ?_ | refine block_exit ?_ | refine block_pass rfl ?_)
                    obtain rfl := Option.some.inj h
                    exact end0 rfl (.refl _)
                  · refine c_f h8 rfl ?_
                    refine c_skip ?_
                    repeat (first | refine then_normal ?_ | refine then_exit ?_ | refine then_ret ?_ | refine block_normal ?_ | refine block_ret ?_ | refine block_exit ?_ | refine block_pass rfl ?_)
                    exact ⟨(), h, ⟨(.refl _), ⟨(.refl _), trivial⟩⟩, rfl⟩
                · refine o_skip rfl rfl rfl h7 rfl rfl ?_
                  refine o_skip rfl rfl rfl h7 rfl rfl ?_
                  refine o_pk (.t (.d (.lit (.bool false)))) (b := false) h7 (g0 rfl) rfl rfl rfl rfl rfl ?_
                  refine o_nil ?_
                  repeat (first | refine then_normal ?_ | refine then_exit ?_ | refine then_ret ?_ | refine block_normal ?_ | refine block_ret ?_ | refine block_exit ?_ | refine block_pass rfl ?_)
                  refine c_f rfl rfl ?_
                  refine c_skip ?_
                  repeat (first | refine then_normal ?_ | refine then_exit ?_ | refine then_ret ?_ | refine block_normal ?_ | refine block_ret ?_ | refine block_exit ?_ | refine block_pass rfl ?_)
                  exact ⟨(), h, ⟨(.refl _), ⟨(.refl _), trivial⟩⟩, rfl⟩
          · rintro ⟨⟩ h
            refine c_region ?_
            refine o_s (.t (.d (.lit (.int .i64 z3)))) (g0 rfl) rfl rfl rfl ?_
            refine o_s (.t (.d (.lit (.int .i64 (wi (z3 + 1)))))) (g0 rfl) rfl rfl rfl ?_
            refine o_s (.t (.d (.lit (.int .i64 (wi (z3 + 1)))))) (g0 rfl) rfl rfl rfl ?_
            refine o_nil ?_
            repeat (first | refine then_normal ?_ | refine then_exit ?_ | refine then_ret ?_ | refine block_normal ?_ | refine block_ret ?_ | refine block_exit ?_ | refine block_pass rfl ?_)
            exact ⟨nl1, (wi (z3 + 1)), Nat.lt_succ_self nl1, h, ⟨(.refl _), ⟨(.refl _), trivial⟩⟩, rfl⟩
        · refine c_f h4 rfl ?_
          refine c_exit ?_
          repeat (first | refine then_normal ?_ | refine then_exit ?_ | refine then_ret ?_ | refine block_normal ?_ | refine block_ret ?_ | refine block_exit ?_ | refine block_pass rfl ?_)
          refine c_seq ?_
          refine c_region ?_
          refine o_s (.t (.d (.lit (.bool true)))) (g0 rfl) rfl rfl rfl ?_
          refine o_nil ?_
          repeat (first | refine then_normal ?_ | refine then_exit ?_ | refine then_ret ?_ | refine block_normal ?_ | refine block_ret ?_ | refine block_exit ?_ | refine block_pass rfl ?_)
          refine c_ret ?_
          repeat (first | refine then_normal ?_ | refine then_exit ?_ | refine then_ret ?_ | refine block_normal ?_ | refine block_ret ?_ | refine block_exit ?_ | refine block_pass rfl ?_)
          obtain rfl := Option.some.inj h
          exact end0 rfl (.refl _)

theorem fc_R27_Owners (p0 : (List S_api_Member)) (r : Int) (h : m_R27_Owners p0 = some r) : FC Try.prog 61 [.t (.d (.seq 2 (List.map cS_api_Member p0)))] [] (.t (.d (.lit (.int .i64 r)))) := by
  refine fc_mk (rs := [.tmp 2]) (n := 20) Try.func61 rfl rfl (Nat.le_of_ble_eq_true rfl) rfl (pins := []) rfl (L := [(0, .t (.d (.seq 2 (List.map cS_api_Member p0))))]) rfl ?_
  refine c_seq ?_
  refine c_region ?_
  refine o_s (.t (.d (.lit (.int .i64 0)))) (g0 rfl) rfl rfl rfl ?_
  refine o_nil ?_
  repeat (first | refine then_normal ?_ | refine then_exit ?_ | refine then_ret ?_ | refine block_normal ?_ | refine block_ret ?_ | refine block_exit ?_ | refine block_pass rfl ?_)
  refine c_seq ?_
  refine c_region ?_
  refine o_s (.t (.d (.lit (.int .i64 0)))) (g0 rfl) rfl rfl rfl ?_
  refine o_nil ?_
  repeat (first | refine then_normal ?_ | refine then_exit ?_ | refine then_ret ?_ | refine block_normal ?_ | refine block_ret ?_ | refine block_exit ?_ | refine block_pass rfl ?_)
  refine c_seq ?_
  refine c_seq ?_
  refine c_region ?_
  refine o_s (.t (.d (.lit (.int .i64 0)))) (g0 rfl) rfl rfl rfl ?_
  refine o_nil ?_
  repeat (first | refine then_normal ?_ | refine then_exit ?_ | refine then_ret ?_ | refine block_normal ?_ | refine block_ret ?_ | refine block_exit ?_ | refine block_pass rfl ?_)
  refine c_block ?_
  refine c_fuel (fun (q : Int × Int) => [(0, .t (.d (.seq 2 (List.map cS_api_Member p0)))), (3, .t (.d (.lit (.int .i64 q.1)))), (4, .t (.d (.lit (.int .i64 q.2))))]) (fun nl1 => (fun (q : Int × Int) => m_R27_Owners_l1 p0 nl1 q.1 q.2 = some r)) (p0.length + 1) (0, 0) h ⟨(.refl _), ⟨(.refl _), ⟨(.refl _), trivial⟩⟩⟩ rfl ?_
  rintro nl1 ⟨z1, z2⟩ h
  cases nl1 with
  | zero => exact none_ne h
  | succ nl1 =>
    refine c_seq ?_
    refine c_seq ?_
    refine c_region ?_
    refine o_s (.t (.d (.lit (.int .i64 z2)))) (g0 rfl) rfl rfl rfl ?_
    refine o_s (.t (.d (.seq 2 (List.map cS_api_Member p0)))) (g0 rfl) rfl rfl rfl ?_
    refine o_c (g0 rfl) rfl rfl rfl (lenE _ _) trivial ?_
    refine o_s (.t (.d (.lit (.bool (decide (z2 < (p0.length : Int))))))) (g0 rfl) rfl rfl rfl ?_
    refine o_nil ?_
    repeat (first | refine then_normal ?_ | refine then_exit ?_ | refine then_ret ?_ | refine block_normal ?_ | refine block_ret ?_ | refine block_exit ?_ | refine block_pass rfl ?_)
    rcases bif_some h with ⟨h3, h⟩ | ⟨h3, h⟩
    · refine c_t h3 rfl ?_
      refine c_skip ?_
      repeat (first | refine then_normal ?_ | refine then_exit ?_ | refine then_ret ?_ | refine block_normal ?_ | refine block_ret ?_ | refine block_exit ?_ | refine block_pass rfl ?_)
      refine c_cut (fun (y4 : Int) => [(0, .t (.d (.seq 2 (List.map cS_api_Member p0)))), (3, .t (.d (.lit (.int .i64 y4)))), (4, .t (.d (.lit (.int .i64 z2))))]) (fun (y4 : Int) => m_R27_Owners_j2 (m_R27_Owners_l1 p0 nl1) z2 y4 = some r) ?_ ?_
      · refine c_block ?_
        refine c_seq ?_
        refine c_region ?_
        refine o_s (.t (.d (.seq 2 (List.map cS_api_Member p0)))) (g0 rfl) rfl rfl rfl ?_
        refine o_s (.t (.d (.lit (.int .i64 z2)))) (g0 rfl) rfl rfl rfl ?_
        obtain ⟨x5, h6, h⟩ := bind_some h
        refine o_c (g0 rfl) rfl rfl rfl (idxE h6) (idxC h6) ?_
        refine o_s (.imm [.lit (.int .i64 x5.Role)]) (g0 rfl) rfl rfl rfl ?_
        refine o_s (.t (.d (.lit (.int .i64 x5.Role)))) (g0 rfl) rfl rfl rfl ?_
        refine o_s (.t (.d (.lit (.bool (x5.Role == 4))))) (g0 rfl) rfl rfl rfl ?_
        refine o_nil ?_
        repeat (first | refine then_normal ?_ | refine then_exit ?_ | refine then_ret ?_ | refine block_normal ?_ | refine block_ret ?_ | refine block_exit ?_ | refine block_pass rfl ?_)
        rcases bif_some h with ⟨h7, h⟩ | ⟨h7, h⟩
        · refine c_t h7 rfl ?_
          refine c_region ?_
          refine o_s (.t (.d (.lit (.int .i64 z1)))) (g0 rfl) rfl rfl rfl ?_
          refine o_s (.t (.d (.lit (.int .i64 (wi (z1 + 1)))))) (g0 rfl) rfl rfl rfl ?_
          refine o_s (.t (.d (.lit (.int .i64 (wi (z1 + 1)))))) (g0 rfl) rfl rfl rfl ?_
          refine o_nil ?_
          repeat (first | refine then_normal ?_ | refine then_exit ?_ | refine then_ret ?_ | refine block_normal ?_ | refine block_ret ?_ | refine block_exit ?_ | refine block_pass rfl ?_)
          exact ⟨(wi (z1 + 1)), h, ⟨(.refl _), ⟨(.refl _), ⟨(.refl _), trivial⟩⟩⟩, rfl⟩
        · refine c_f h7 rfl ?_
          refine c_skip ?_
          repeat (first | refine then_normal ?_ | refine then_exit ?_ | refine then_ret ?_ | refine block_normal ?_ | refine block_ret ?_ | refine block_exit ?_ | refine block_pass rfl ?_)
          exact ⟨z1, h, ⟨(.refl _), ⟨(.refl _), ⟨(.refl _), trivial⟩⟩⟩, rfl⟩
      · rintro y4 h
        refine c_region ?_
        refine o_s (.t (.d (.lit (.int .i64 z2)))) (g0 rfl) rfl rfl rfl ?_
        refine o_s (.t (.d (.lit (.int .i64 (wi (z2 + 1)))))) (g0 rfl) rfl rfl rfl ?_
        refine o_s (.t (.d (.lit (.int .i64 (wi (z2 + 1)))))) (g0 rfl) rfl rfl rfl ?_
        refine o_nil ?_
        repeat (first | refine then_normal ?_ | refine then_exit ?_ | refine then_ret ?_ | refine block_normal ?_ | refine block_ret ?_ | refine block_exit ?_ | refine block_pass rfl ?_)
        exact ⟨nl1, (y4, (wi (z2 + 1))), Nat.lt_succ_self nl1, h, ⟨(.refl _), ⟨(.refl _), ⟨(.refl _), trivial⟩⟩⟩, rfl⟩
    · refine c_f h3 rfl ?_
      refine c_exit ?_
      repeat (first | refine then_normal ?_ | refine then_exit ?_ | refine then_ret ?_ | refine block_normal ?_ | refine block_ret ?_ | refine block_exit ?_ | refine block_pass rfl ?_)
      refine c_seq ?_
      refine c_region ?_
      refine o_s (.t (.d (.lit (.int .i64 z1)))) (g0 rfl) rfl rfl rfl ?_
      refine o_s (.t (.d (.lit (.int .i64 z1)))) (g0 rfl) rfl rfl rfl ?_
      refine o_nil ?_
      repeat (first | refine then_normal ?_ | refine then_exit ?_ | refine then_ret ?_ | refine block_normal ?_ | refine block_ret ?_ | refine block_exit ?_ | refine block_pass rfl ?_)
      refine c_ret ?_
      repeat (first | refine then_normal ?_ | refine then_exit ?_ | refine then_ret ?_ | refine block_normal ?_ | refine block_ret ?_ | refine block_exit ?_ | refine block_pass rfl ?_)
      obtain rfl := Option.some.inj h
      exact end0 rfl (.refl _)

theorem fc_R27_Right (p0 : (List S_api_Member)) (r : Bool) (h : m_R27_Right p0 = some r) : FC Try.prog 34 [.t (.d (.seq 2 (List.map cS_api_Member p0)))] [] (.t (.d (.lit (.bool r)))) := by
  refine fc_mk (rs := [.tmp 2]) (n := 58) Try.func34 rfl rfl (Nat.le_of_ble_eq_true rfl) rfl (pins := []) rfl (L := [(0, .t (.d (.seq 2 (List.map cS_api_Member p0))))]) rfl ?_
  refine c_seq ?_
  refine c_region ?_
  refine o_s (.t (.d (.lit (.bool false)))) (g0 rfl) rfl rfl rfl ?_
  refine o_nil ?_
  repeat (first | refine then_normal ?_ | refine then_exit ?_ | refine then_ret ?_ | refine block_normal ?_ | refine block_ret ?_ | refine block_exit ?_ | refine block_pass rfl ?_)
  refine c_seq ?_
  refine c_seq ?_
  refine c_region ?_
  refine o_s (.t (.d (.seq 2 (List.map cS_api_Member p0)))) (g0 rfl) rfl rfl rfl ?_
  refine o_c (g0 rfl) rfl rfl rfl (lenE _ _) trivial ?_
  refine o_s (.t (.d (.lit (.bool (decide ((p0.length : Int) > 8)))))) (g0 rfl) rfl rfl rfl ?_
  refine o_s (.t (.d (.lit (.bool (decide ((p0.length : Int) > 8)))))) (g0 rfl) rfl rfl rfl ?_
  rcases bif_some h with ⟨h1, h⟩ | ⟨h1, h⟩
  · refine o_skip rfl rfl rfl h1 rfl rfl ?_
    refine o_skip rfl rfl rfl h1 rfl rfl ?_
    refine o_skip rfl rfl rfl h1 rfl rfl ?_
    refine o_pk (.t (.d (.lit (.bool true)))) (b := true) h1 (g0 rfl) rfl rfl rfl rfl rfl ?_
    refine o_nil ?_
    repeat (first | refine then_normal ?_ | refine then_exit ?_ | refine then_ret ?_ | refine block_normal ?_ | refine block_ret ?_ | refine block_exit ?_ | refine block_pass rfl ?_)
    refine c_t rfl rfl ?_
    refine c_seq ?_
    refine c_region ?_
    refine o_s (.t (.d (.lit (.bool false)))) (g0 rfl) rfl rfl rfl ?_
    refine o_nil ?_
    repeat (first | refine then_normal ?_ | refine then_exit ?_ | refine then_ret ?_ | refine block_normal ?_ | refine block_ret ?_ | refine block_exit ?_ | refine block_pass rfl ?_)
    refine c_ret ?_
    repeat (first | refine then_normal ?_ | refine then_exit ?_ | refine then_ret ?_ | refine block_normal ?_ | refine block_ret ?_ | refine block_exit ?_ | refine block_pass rfl ?_)
    obtain rfl := Option.some.inj h
    exact end0 rfl (.refl _)
  · refine o_s (.t (.d (.seq 2 (List.map cS_api_Member p0)))) (gy rfl rfl rfl h1) rfl rfl rfl ?_
    obtain ⟨x2, h3, h⟩ := bind_some h
    refine o_ca (fc_R27_Owners _ _ h3) (gy rfl rfl rfl h1) rfl rfl rfl rfl rfl rfl rfl (.cons (.refl _) .nil) rfl rfl ?_
    refine o_s (.t (.d (.lit (.bool (x2 == 0))))) (gy rfl rfl rfl h1) rfl rfl rfl ?_
    refine o_pk (.t (.d (.lit (.bool (x2 == 0))))) (b := false) h1 (g0 rfl) rfl rfl rfl rfl rfl ?_
    refine o_nil ?_
    repeat (first | refine then_normal ?_ | refine then_exit ?_ | refine then_ret ?_ | refine block_normal ?_ | refine block_ret ?_ | refine block_exit ?_ | refine block_pass rfl ?_)
    rcases bif_some h with ⟨h4, h⟩ | ⟨h4, h⟩
    · refine c_t h4 rfl ?_
      refine c_seq ?_
      refine c_region ?_
      refine o_s (.t (.d (.lit (.bool false)))) (g0 rfl) rfl rfl rfl ?_
      refine o_nil ?_
      repeat (first | refine then_normal ?_ | refine then_exit ?_ | refine then_ret ?_ | refine block_normal ?_ | refine block_ret ?_ | refine block_exit ?_ | refine block_pass rfl ?_)
      refine c_ret ?_
      repeat (first | refine then_normal ?_ | refine then_exit ?_ | refine then_ret ?_ | refine block_normal ?_ | refine block_ret ?_ | refine block_exit ?_ | refine block_pass rfl ?_)
      obtain rfl := Option.some.inj h
      exact end0 rfl (.refl _)
    · refine c_f h4 rfl ?_
      refine c_skip ?_
      repeat (first | refine then_normal ?_ | refine then_exit ?_ | refine then_ret ?_ | refine block_normal ?_ | refine block_ret ?_ | refine block_exit ?_ | refine block_pass rfl ?_)
      refine c_seq ?_
      refine c_seq ?_
      refine c_region ?_
      refine o_s (.t (.d (.lit (.int .i64 0)))) (g0 rfl) rfl rfl rfl ?_
      refine o_nil ?_
      repeat (first | refine then_normal ?_ | refine then_exit ?_ | refine then_ret ?_ | refine block_normal ?_ | refine block_ret ?_ | refine block_exit ?_ | refine block_pass rfl ?_)
      refine c_block ?_
      refine c_fuel (fun (z5 : Int) => [(0, .t (.d (.seq 2 (List.map cS_api_Member p0)))), (3, .t (.d (.lit (.int .i64 z5))))]) (fun nl1 => (fun (z5 : Int) => m_R27_Right_l1 p0 nl1 z5 = some r)) (p0.length + 1) 0 h ⟨(.refl _), ⟨(.refl _), trivial⟩⟩ rfl ?_
      rintro nl1 z5 h
      cases nl1 with
      | zero => exact none_ne h
      | succ nl1 =>
        refine c_seq ?_
        refine c_seq ?_
        refine c_region ?_
        refine o_s (.t (.d (.lit (.int .i64 z5)))) (g0 rfl) rfl rfl rfl ?_
        refine o_s (.t (.d (.seq 2 (List.map cS_api_Member p0)))) (g0 rfl) rfl rfl rfl ?_
        refine o_c (g0 rfl) rfl rfl rfl (lenE _ _) trivial ?_
        refine o_s (.t (.d (.lit (.bool (decide (z5 < (p0.length : Int))))))) (g0 rfl) rfl rfl rfl ?_
        refine o_nil ?_
        repeat (first | refine then_normal ?_ | refine then_exit ?_ | refine then_ret ?_ | refine block_normal ?_ | refine block_ret ?_ | refine block_exit ?_ | refine block_pass rfl ?_)
        rcases bif_some h with ⟨h6, h⟩ | ⟨h6, h⟩
        · refine c_t h6 rfl ?_
          refine c_skip ?_
          repeat (first | refine then_normal ?_ | refine then_exit ?_ | refine then_ret ?_ | refine block_normal ?_ | refine block_ret ?_ | refine block_exit ?_ | refine block_pass rfl ?_)
          refine c_cut (fun (q : (List UInt8) × Int × Int × Int × Bool × (List UInt8) × Int × Int × Int × Bool) => [(0, .t (.d (.seq 2 (List.map cS_api_Member p0)))), (3, .t (.d (.lit (.int .i64 z5)))), (27, .t (.d (.seq 2 (List.map cS_api_Member p0)))), (28, .t (.d (.lit (.int .i64 z5)))), (29, .imm [.lit (.string ⟨⟨q.1⟩⟩), .lit (.int .i64 q.2.1)]), (30, .imm [.lit (.int .i64 q.2.2.1)]), (31, .t (.d (.lit (.int .i64 q.2.2.2.1)))), (32, .t (.d (.lit (.bool q.2.2.2.2.1)))), (35, .t (.d (.seq 2 (List.map cS_api_Member p0)))), (36, .t (.d (.lit (.int .i64 z5)))), (37, .imm [.lit (.string ⟨⟨q.2.2.2.2.2.1⟩⟩), .lit (.int .i64 q.2.2.2.2.2.2.1)]), (38, .imm [.lit (.int .i64 q.2.2.2.2.2.2.2.1)]), (39, .t (.d (.lit (.int .i64 q.2.2.2.2.2.2.2.2.1)))), (40, .t (.d (.lit (.bool q.2.2.2.2.2.2.2.2.2))))]) (fun (q : (List UInt8) × Int × Int × Int × Bool × (List UInt8) × Int × Int × Int × Bool) => m_R27_Right_j2 (m_R27_Right_l1 p0 nl1) z5 q.1 q.2.1 q.2.2.1 q.2.2.2.1 q.2.2.2.2.1 q.2.2.2.2.2.1 q.2.2.2.2.2.2.1 q.2.2.2.2.2.2.2.1 q.2.2.2.2.2.2.2.2.1 q.2.2.2.2.2.2.2.2.2 = some r) ?_ ?_
          · refine c_block ?_
            refine c_seq ?_
            refine c_seq ?_
            refine c_region ?_
            refine o_s (.t (.d (.seq 2 (List.map cS_api_Member p0)))) (g0 rfl) rfl rfl rfl ?_
            refine o_s (.t (.d (.lit (.int .i64 z5)))) (g0 rfl) rfl rfl rfl ?_
            obtain ⟨x17, h18, h⟩ := bind_some h
            refine o_c (g0 rfl) rfl rfl rfl (idxE h18) (idxC h18) ?_
            refine o_s (.imm [.lit (.string ⟨⟨x17.Name⟩⟩), .lit (.int .i64 x17.Role)]) (g0 rfl) rfl rfl rfl ?_
            refine o_s (.t (.d (.lit (.string ⟨⟨x17.Name⟩⟩)))) (g0 rfl) rfl rfl rfl ?_
            obtain ⟨x19, h20, h⟩ := bind_some h
            refine o_ca (fc_R25_Name _ _ h20) (g0 rfl) rfl rfl rfl rfl rfl rfl rfl (.cons (.refl _) .nil) rfl rfl ?_
            refine o_s (.t (.d (.lit (.bool (!x19))))) (g0 rfl) rfl rfl rfl ?_
            refine o_s (.t (.d (.lit (.bool (!x19))))) (g0 rfl) rfl rfl rfl ?_
            rcases bif_some h with ⟨h21, h⟩ | ⟨h21, h⟩
            · refine o_skip rfl rfl rfl h21 rfl rfl ?_
              refine o_skip rfl rfl rfl h21 rfl rfl ?_
              refine o_skip rfl rfl rfl h21 rfl rfl ?_
              refine o_skip rfl rfl rfl h21 rfl rfl ?_
              refine o_skip rfl rfl rfl h21 rfl rfl ?_
              refine o_skip rfl rfl rfl h21 rfl rfl ?_
              refine o_pk (.t (.d (.lit (.bool true)))) (b := true) h21 (g0 rfl) rfl rfl rfl rfl rfl ?_
              refine o_s (.t (.d (.lit (.bool true)))) (g0 rfl) rfl rfl rfl ?_
              refine o_skip rfl rfl rfl rfl rfl rfl ?_
              refine o_skip rfl rfl rfl rfl rfl rfl ?_
              refine o_skip rfl rfl rfl rfl rfl rfl ?_
              refine o_skip rfl rfl rfl rfl rfl rfl ?_
              refine o_skip rfl rfl rfl rfl rfl rfl ?_
              refine o_skip rfl rfl rfl rfl rfl rfl ?_
              refine o_pk (.t (.d (.lit (.bool true)))) (b := true) rfl (g0 rfl) rfl rfl rfl rfl rfl ?_
              refine o_nil ?_
              repeat (first | refine then_normal ?_ | refine then_exit ?_ | refine then_ret ?_ | refine block_normal ?_ | refine block_ret ?_ | refine block_exit ?_ | refine block_pass rfl ?_)
              refine c_t rfl rfl ?_
              refine c_seq ?_
              refine c_region ?_
              refine o_s (.t (.d (.lit (.bool false)))) (g0 rfl) rfl rfl rfl ?_
              refine o_nil ?_
              repeat (first | refine then_normal ?_ | refine then_exit ?_ | refine then_ret ?_ | refine block_normal ?_ | refine block_ret ?_ | refine block_exit ?_ | refine block_pass rfl ?_)
              refine c_ret ?_
              repeat (first | refine then_normal ?_ | refine then_exit ?_ | refine then_ret ?_ | refine block_normal ?_ | refine block_ret ?_ | refine block_exit ?_ | refine block_pass rfl ?_)
              obtain rfl := Option.some.inj h
              exact end0 rfl (.refl _)
            · refine o_s (.t (.d (.seq 2 (List.map cS_api_Member p0)))) (gy rfl rfl rfl h21) rfl rfl rfl ?_
              refine o_s (.t (.d (.lit (.int .i64 z5)))) (gy rfl rfl rfl h21) rfl rfl rfl ?_
              obtain ⟨x22, h23, h⟩ := bind_some h
              refine o_c (gy rfl rfl rfl h21) rfl rfl rfl (idxE h23) (idxC h23) ?_
              refine o_s (.imm [.lit (.int .i64 x22.Role)]) (gy rfl rfl rfl h21) rfl rfl rfl ?_
              refine o_s (.t (.d (.lit (.int .i64 x22.Role)))) (gy rfl rfl rfl h21) rfl rfl rfl ?_
              refine o_s (.t (.d (.lit (.bool (decide (x22.Role < 1)))))) (gy rfl rfl rfl h21) rfl rfl rfl ?_
              refine o_pk (.t (.d (.lit (.bool (decide (x22.Role < 1)))))) (b := false) h21 (g0 rfl) rfl rfl rfl rfl rfl ?_
              refine o_s (.t (.d (.lit (.bool (decide (x22.Role < 1)))))) (g0 rfl) rfl rfl rfl ?_
              rcases bif_some h with ⟨h24, h⟩ | ⟨h24, h⟩
              · refine o_skip rfl rfl rfl h24 rfl rfl ?_
                refine o_skip rfl rfl rfl h24 rfl rfl ?_
                refine o_skip rfl rfl rfl h24 rfl rfl ?_
                refine o_skip rfl rfl rfl h24 rfl rfl ?_
                refine o_skip rfl rfl rfl h24 rfl rfl ?_
                refine o_skip rfl rfl rfl h24 rfl rfl ?_
                refine o_pk (.t (.d (.lit (.bool true)))) (b := true) h24 (g0 rfl) rfl rfl rfl rfl rfl ?_
                refine o_nil ?_
                repeat (first | refine then_normal ?_ | refine then_exit ?_ | refine then_ret ?_ | refine block_normal ?_ | refine block_ret ?_ | refine block_exit ?_ | refine block_pass rfl ?_)
                refine c_t rfl rfl ?_
                refine c_seq ?_
                refine c_region ?_
                refine o_s (.t (.d (.lit (.bool false)))) (g0 rfl) rfl rfl rfl ?_
                refine o_nil ?_
                repeat (first | refine then_normal ?_ | refine then_exit ?_ | refine then_ret ?_ | refine block_normal ?_ | refine block_ret ?_ | refine block_exit ?_ | refine block_pass rfl ?_)
                refine c_ret ?_
                repeat (first | refine then_normal ?_ | refine then_exit ?_ | refine then_ret ?_ | refine block_normal ?_ | refine block_ret ?_ | refine block_exit ?_ | refine block_pass rfl ?_)
                obtain rfl := Option.some.inj h
                exact end0 rfl (.refl _)
              · refine o_s (.t (.d (.seq 2 (List.map cS_api_Member p0)))) (gy rfl rfl rfl h24) rfl rfl rfl ?_
                refine o_s (.t (.d (.lit (.int .i64 z5)))) (gy rfl rfl rfl h24) rfl rfl rfl ?_
                obtain ⟨x25, h26, h⟩ := bind_some h
                refine o_c (gy rfl rfl rfl h24) rfl rfl rfl (idxE h26) (idxC h26) ?_
                refine o_s (.imm [.lit (.int .i64 x25.Role)]) (gy rfl rfl rfl h24) rfl rfl rfl ?_
                refine o_s (.t (.d (.lit (.int .i64 x25.Role)))) (gy rfl rfl rfl h24) rfl rfl rfl ?_
                refine o_s (.t (.d (.lit (.bool (decide (x25.Role > 4)))))) (gy rfl rfl rfl h24) rfl rfl rfl ?_
                refine o_pk (.t (.d (.lit (.bool (decide (x25.Role > 4)))))) (b := false) h24 (g0 rfl) rfl rfl rfl rfl rfl ?_
                refine o_nil ?_
                repeat (first | refine then_normal ?_ | refine then_exit ?_ | refine then_ret ?_ | refine block_normal ?_ | refine block_ret ?_ | refine block_exit ?_ | refine block_pass rfl ?_)
                rcases bif_some h with ⟨h27, h⟩ | ⟨h27, h⟩
                · refine c_t h27 rfl ?_
                  refine c_seq ?_
                  refine c_region ?_
                  refine o_s (.t (.d (.lit (.bool false)))) (g0 rfl) rfl rfl rfl ?_
                  refine o_nil ?_
                  repeat (first | refine then_normal ?_ | refine then_exit ?_ | refine then_ret ?_ | refine block_normal ?_ | refine block_ret ?_ | refine block_exit ?_ | refine block_pass rfl ?_)
                  refine c_ret ?_
                  repeat (first | refine then_normal ?_ | refine then_exit ?_ | refine then_ret ?_ | refine block_normal ?_ | refine block_ret ?_ | refine block_exit ?_ | refine block_pass rfl ?_)
                  obtain rfl := Option.some.inj h
                  exact end0 rfl (.refl _)
                · refine c_f h27 rfl ?_
                  refine c_skip ?_
                  repeat (first | refine then_normal ?_ | refine then_exit ?_ | refine then_ret ?_ | refine block_normal ?_ | refine block_ret ?_ | refine block_exit ?_ | refine block_pass rfl ?_)
                  refine c_seq ?_
                  refine c_region ?_
                  refine o_s (.t (.d (.lit (.int .i64 0)))) (g0 rfl) rfl rfl rfl ?_
                  refine o_nil ?_
                  repeat (first | refine then_normal ?_ | refine then_exit ?_ | refine then_ret ?_ | refine block_normal ?_ | refine block_ret ?_ | refine block_exit ?_ | refine block_pass rfl ?_)
                  refine c_block ?_
                  refine c_fuel (fun (z28 : Int) => [(0, .t (.d (.seq 2 (List.map cS_api_Member p0)))), (3, .t (.d (.lit (.int .i64 z5)))), (4, .t (.d (.lit (.int .i64 z28)))), (27, .t (.d (.seq 2 (List.map cS_api_Member p0)))), (28, .t (.d (.lit (.int .i64 z5)))), (29, .imm [.lit (.string ⟨⟨x22.Name⟩⟩), .lit (.int .i64 x22.Role)]), (30, .imm [.lit (.int .i64 x22.Role)]), (31, .t (.d (.lit (.int .i64 x22.Role)))), (32, .t (.d (.lit (.bool (decide (x22.Role < 1)))))), (35, .t (.d (.seq 2 (List.map cS_api_Member p0)))), (36, .t (.d (.lit (.int .i64 z5)))), (37, .imm [.lit (.string ⟨⟨x25.Name⟩⟩), .lit (.int .i64 x25.Role)]), (38, .imm [.lit (.int .i64 x25.Role)]), (39, .t (.d (.lit (.int .i64 x25.Role)))), (40, .t (.d (.lit (.bool (decide (x25.Role > 4))))))]) (fun nl3 => (fun (z28 : Int) => m_R27_Right_l3 (m_R27_Right_l1 p0 nl1) z5 p0 x22 x25 nl3 z28 = some r)) (Int.toNat z5 + 1) 0 h ⟨(.refl _), ⟨(.refl _), ⟨(.refl _), ⟨(.refl _), ⟨(.refl _), ⟨(.refl _), ⟨(.refl _), ⟨(.refl _), ⟨(.refl _), ⟨(.refl _), ⟨(.refl _), ⟨(.refl _), ⟨(.refl _), ⟨(.refl _), ⟨(.refl _), trivial⟩⟩⟩⟩⟩⟩⟩⟩⟩⟩⟩⟩⟩⟩⟩ rfl ?_
                  rintro nl3 z28 h
                  cases nl3 with
                  | zero => exact none_ne h
                  | succ nl3 =>
                    refine c_seq ?_
                    refine c_seq ?_
                    refine c_region ?_
                    refine o_s (.t (.d (.lit (.int .i64 z28)))) (g0 rfl) rfl rfl rfl ?_
                    refine o_s (.t (.d (.lit (.int .i64 z5)))) (g0 rfl) rfl rfl rfl ?_
                    refine o_s (.t (.d (.lit (.bool (decide (z28 < z5)))))) (g0 rfl) rfl rfl rfl ?_
                    refine o_nil ?_
                    repeat (first | refine then_normal ?_ | refine then_exit ?_ | refine then_ret ?_ | refine block_normal ?_ | refine block_ret ?_ | refine block_exit ?_ | refine block_pass rfl ?_)
                    rcases bif_some h with ⟨h29, h⟩ | ⟨h29, h⟩
                    · refine c_t h29 rfl ?_
                      refine c_skip ?_
                      repeat (first | refine then_normal ?_ | refine then_exit ?_ | refine then_ret ?_ | refine block_normal ?_ | refine block_ret ?_ | refine block_exit ?_ | refine block_pass rfl ?_)
                      refine c_seq ?_
                      refine c_block ?_
                      refine c_seq ?_
                      refine c_draw mixed (by kernel_rfl) ?_
                      refine d_s (.t (.d (.seq 2 (List.map cS_api_Member p0)))) rfl (dg0 rfl) rfl rfl rfl rfl ?_
                      refine d_s (.t (.d (.lit (.int .i64 z28)))) rfl (dg0 rfl) rfl rfl rfl rfl ?_
                      obtain ⟨x30, h31, h⟩ := bind_some h
                      refine d_c rfl (dg0 rfl) rfl rfl rfl rfl (idxE h31) (idxC h31) ?_
                      refine d_s (.imm [.lit (.string ⟨⟨x30.Name⟩⟩), .lit (.int .i64 x30.Role)]) rfl (dg0 rfl) rfl rfl rfl rfl ?_
                      refine d_s (.t (.d (.lit (.string ⟨⟨x30.Name⟩⟩)))) rfl (dg0 rfl) rfl rfl rfl rfl ?_
                      refine d_s (.t (.d (.seq 2 (List.map cS_api_Member p0)))) rfl (dg0 rfl) rfl rfl rfl rfl ?_
                      refine d_s (.t (.d (.lit (.int .i64 z5)))) rfl (dg0 rfl) rfl rfl rfl rfl ?_
                      obtain ⟨x32, h33, h⟩ := bind_some h
                      refine d_c rfl (dg0 rfl) rfl rfl rfl rfl (idxE h33) (idxC h33) ?_
                      refine d_s (.imm [.lit (.string ⟨⟨x32.Name⟩⟩), .lit (.int .i64 x32.Role)]) rfl (dg0 rfl) rfl rfl rfl rfl ?_
                      refine d_s (.t (.d (.lit (.string ⟨⟨x32.Name⟩⟩)))) rfl (dg0 rfl) rfl rfl rfl rfl ?_
                      refine d_c rfl (dg0 rfl) rfl rfl rfl rfl (congrArg (fun z => A.t (.d (.lit (.bool z)))) (s_ge _ _)) trivial ?_
                      refine d_nil (by kernel_rfl) ?_
                      repeat (first | refine then_normal ?_ | refine then_exit ?_ | refine then_ret ?_ | refine block_normal ?_ | refine block_ret ?_ | refine block_exit ?_ | refine block_pass rfl ?_)
                      rcases bif_some h with ⟨h34, h⟩ | ⟨h34, h⟩
                      · refine c_t h34 rfl ?_
                        refine c_seq ?_
                        refine c_region ?_
                        refine o_s (.t (.d (.lit (.bool false)))) (g0 rfl) rfl rfl rfl ?_
                        refine o_nil ?_
                        repeat (first | refine then_normal ?_ | refine then_exit ?_ | refine then_ret ?_ | refine block_normal ?_ | refine block_ret ?_ | refine block_exit ?_ | refine block_pass rfl ?_)
                        refine c_ret ?_
                        repeat (first | refine then_normal ?_ | refine then_exit ?_ | refine then_ret ?_ | refine block_normal ?_ | refine block_ret ?_ | refine block_exit ?_ | refine block_pass rfl ?_)
                        obtain rfl := Option.some.inj h
                        exact end0 rfl (.refl _)
                      · refine c_f h34 rfl ?_
                        refine c_skip ?_
                        repeat (first | refine then_normal ?_ | refine then_exit ?_ | refine then_ret ?_ | refine block_normal ?_ | refine block_ret ?_ | refine block_exit ?_ | refine block_pass rfl ?_)
                        refine c_region ?_
                        refine o_s (.t (.d (.lit (.int .i64 z28)))) (g0 rfl) rfl rfl rfl ?_
                        refine o_s (.t (.d (.lit (.int .i64 (wi (z28 + 1)))))) (g0 rfl) rfl rfl rfl ?_
                        refine o_s (.t (.d (.lit (.int .i64 (wi (z28 + 1)))))) (g0 rfl) rfl rfl rfl ?_
                        refine o_nil ?_
                        repeat (first | refine then_normal ?_ | refine then_exit ?_ | refine then_ret ?_ | refine block_normal ?_ | refine block_ret ?_ | refine block_exit ?_ | refine block_pass rfl ?_)
                        exact ⟨nl3, (wi (z28 + 1)), Nat.lt_succ_self nl3, h, ⟨(.refl _), ⟨(.refl _), ⟨(.refl _), ⟨(.refl _), ⟨(.refl _), ⟨(.refl _), ⟨(.refl _), ⟨(.refl _), ⟨(.refl _), ⟨(.refl _), ⟨(.refl _), ⟨(.refl _), ⟨(.refl _), ⟨(.refl _), ⟨(.refl _), trivial⟩⟩⟩⟩⟩⟩⟩⟩⟩⟩⟩⟩⟩⟩⟩, rfl⟩
                    · refine c_f h29 rfl ?_
                      refine c_exit ?_
                      repeat (first | refine then_normal ?_ | refine then_exit ?_ | refine then_ret ?_ | refine block_normal ?_ | refine block_ret ?_ | refine block_exit ?_ | refine block_pass rfl ?_)
                      exact ⟨(x22.Name, x22.Role, x22.Role, x22.Role, (decide (x22.Role < 1)), x25.Name, x25.Role, x25.Role, x25.Role, (decide (x25.Role > 4))), h, ⟨(.refl _), ⟨(.refl _), ⟨(.refl _), ⟨(.refl _), ⟨(.refl _), ⟨(.refl _), ⟨(.refl _), ⟨(.refl _), ⟨(.refl _), ⟨(.refl _), ⟨(.refl _), ⟨(.refl _), ⟨(.refl _), ⟨(.refl _), trivial⟩⟩⟩⟩⟩⟩⟩⟩⟩⟩⟩⟩⟩⟩, rfl⟩
          · rintro ⟨y7, y8, y9, y10, y11, y12, y13, y14, y15, y16⟩ h
            refine c_region ?_
            refine o_s (.t (.d (.lit (.int .i64 z5)))) (g0 rfl) rfl rfl rfl ?_
            refine o_s (.t (.d (.lit (.int .i64 (wi (z5 + 1)))))) (g0 rfl) rfl rfl rfl ?_
            refine o_s (.t (.d (.lit (.int .i64 (wi (z5 + 1)))))) (g0 rfl) rfl rfl rfl ?_
            refine o_nil ?_
            repeat (first | refine then_normal ?_ | refine then_exit ?_ | refine then_ret ?_ | refine block_normal ?_ | refine block_ret ?_ | refine block_exit ?_ | refine block_pass rfl ?_)
            exact ⟨nl1, (wi (z5 + 1)), Nat.lt_succ_self nl1, h, ⟨(.refl _), ⟨(.refl _), trivial⟩⟩, rfl⟩
        · refine c_f h6 rfl ?_
          refine c_exit ?_
          repeat (first | refine then_normal ?_ | refine then_exit ?_ | refine then_ret ?_ | refine block_normal ?_ | refine block_ret ?_ | refine block_exit ?_ | refine block_pass rfl ?_)
          refine c_seq ?_
          refine c_region ?_
          refine o_s (.t (.d (.lit (.bool true)))) (g0 rfl) rfl rfl rfl ?_
          refine o_nil ?_
          repeat (first | refine then_normal ?_ | refine then_exit ?_ | refine then_ret ?_ | refine block_normal ?_ | refine block_ret ?_ | refine block_exit ?_ | refine block_pass rfl ?_)
          refine c_ret ?_
          repeat (first | refine then_normal ?_ | refine then_exit ?_ | refine then_ret ?_ | refine block_normal ?_ | refine block_ret ?_ | refine block_exit ?_ | refine block_pass rfl ?_)
          obtain rfl := Option.some.inj h
          exact end0 rfl (.refl _)

end Go.Proofs.Ytimdogdplphmoac
