/-
  Walks of functions: each function does what its model tells. Printed by a program of this claim's own (gen.py) off the given translation.
-/
import Derived.Test.YtimdogdplphmoabDoorClM
import Derived.Test.YtimdogdplphmoabDoorCbW
import Derived.Test.YtimdogdplphmoabDoorTab
namespace Go.Proofs.YtimdogdplphmoabDoor
open Go Go.RowKit
set_option linter.unusedVariables false
set_option maxHeartbeats 4000000
set_option maxRecDepth 20000
theorem fc_call_text (p0 : (List UInt8)) (p1 : Bool) (r : Bool) (h : m_call_text p0 p1 = some r) : FC Tryd.prog 41 [.t (.d (.lit (.string ⟨⟨p0⟩⟩))), .t (.d (.lit (.bool p1)))] [] (.t (.d (.lit (.bool r)))) := by
  refine fc_mk (rs := [.tmp 4]) (n := 10) Tryd.func41 rfl rfl (Nat.le_of_ble_eq_true rfl) rfl (pins := []) rfl (L := [(0, .t (.d (.lit (.string ⟨⟨p0⟩⟩)))), (1, .t (.d (.lit (.bool p1))))]) rfl ?_
  refine c_seq ?_
  refine c_region ?_
  refine o_s (.t (.d (.lit (.bool false)))) (g0 rfl) rfl rfl rfl ?_
  refine o_nil ?_
  repeat (first | refine then_normal ?_ | refine then_exit ?_ | refine then_ret ?_ | refine block_normal ?_ | refine block_ret ?_ | refine block_exit ?_ | refine block_pass rfl ?_)
  refine c_seq ?_
  refine c_seq ?_
  refine c_region ?_
  refine o_s (.t (.d (.lit (.bool p1)))) (g0 rfl) rfl rfl rfl ?_
  refine o_nil ?_
  repeat (first | refine then_normal ?_ | refine then_exit ?_ | refine then_ret ?_ | refine block_normal ?_ | refine block_ret ?_ | refine block_exit ?_ | refine block_pass rfl ?_)
  rcases bif_some h with ⟨h1, h⟩ | ⟨h1, h⟩
  · refine c_t h1 rfl ?_
    refine c_seq ?_
    refine c_region ?_
    refine o_s (.t (.d (.lit (.string ⟨⟨p0⟩⟩)))) (g0 rfl) rfl rfl rfl ?_
    obtain ⟨x2, h3, h⟩ := bind_some h
    refine o_ca (fc_tree_Name _ _ h3) (g0 rfl) rfl rfl rfl rfl rfl rfl rfl (.cons (.refl _) .nil) rfl rfl ?_
    refine o_s (.t (.d (.lit (.bool x2)))) (g0 rfl) rfl rfl rfl ?_
    refine o_nil ?_
    repeat (first | refine then_normal ?_ | refine then_exit ?_ | refine then_ret ?_ | refine block_normal ?_ | refine block_ret ?_ | refine block_exit ?_ | refine block_pass rfl ?_)
    refine c_ret ?_
    repeat (first | refine then_normal ?_ | refine then_exit ?_ | refine then_ret ?_ | refine block_normal ?_ | refine block_ret ?_ | refine block_exit ?_ | refine block_pass rfl ?_)
    obtain rfl := Option.some.inj h
    exact end0 rfl (.refl _)
  · refine c_f h1 rfl ?_
    refine c_skip ?_
    repeat (first | refine then_normal ?_ | refine then_exit ?_ | refine then_ret ?_ | refine block_normal ?_ | refine block_ret ?_ | refine block_exit ?_ | refine block_pass rfl ?_)
    refine c_seq ?_
    refine c_region ?_
    refine o_s (.t (.d (.lit (.string ⟨⟨p0⟩⟩)))) (g0 rfl) rfl rfl rfl ?_
    refine o_c (g0 rfl) rfl rfl rfl (congrArg (fun z => A.t (.d (.lit (.bool z)))) (str_beqL _ _)) trivial ?_
    refine o_s (.t (.d (.lit (.bool (p0 == []))))) (g0 rfl) rfl rfl rfl ?_
    refine o_nil ?_
    repeat (first | refine then_normal ?_ | refine then_exit ?_ | refine then_ret ?_ | refine block_normal ?_ | refine block_ret ?_ | refine block_exit ?_ | refine block_pass rfl ?_)
    refine c_ret ?_
    repeat (first | refine then_normal ?_ | refine then_exit ?_ | refine then_ret ?_ | refine block_normal ?_ | refine block_ret ?_ | refine block_exit ?_ | refine block_pass rfl ?_)
    obtain rfl := Option.some.inj h
    exact end0 rfl (.refl _)

theorem fc_call_number (p0 : Int) (p1 : Int) (p2 : Int) (p3 : Bool) (r : Bool) (h : m_call_number p0 p1 p2 p3 = some r) : FC Tryd.prog 42 [.t (.d (.lit (.int .i64 p0))), .t (.d (.lit (.int .i64 p1))), .t (.d (.lit (.int .i64 p2))), .t (.d (.lit (.bool p3)))] [] (.t (.d (.lit (.bool r)))) := by
  refine fc_mk (rs := [.tmp 8]) (n := 20) Tryd.func42 rfl rfl (Nat.le_of_ble_eq_true rfl) rfl (pins := []) rfl (L := [(0, .t (.d (.lit (.int .i64 p0)))), (1, .t (.d (.lit (.int .i64 p1)))), (2, .t (.d (.lit (.int .i64 p2)))), (3, .t (.d (.lit (.bool p3))))]) rfl ?_
  refine c_seq ?_
  refine c_region ?_
  refine o_s (.t (.d (.lit (.bool false)))) (g0 rfl) rfl rfl rfl ?_
  refine o_nil ?_
  repeat (first | refine then_normal ?_ | refine then_exit ?_ | refine then_ret ?_ | refine block_normal ?_ | refine block_ret ?_ | refine block_exit ?_ | refine block_pass rfl ?_)
  refine c_seq ?_
  refine c_seq ?_
  refine c_region ?_
  refine o_s (.t (.d (.lit (.bool p3)))) (g0 rfl) rfl rfl rfl ?_
  refine o_nil ?_
  repeat (first | refine then_normal ?_ | refine then_exit ?_ | refine then_ret ?_ | refine block_normal ?_ | refine block_ret ?_ | refine block_exit ?_ | refine block_pass rfl ?_)
  rcases bif_some h with ⟨h1, h⟩ | ⟨h1, h⟩
  · refine c_t h1 rfl ?_
    refine c_seq ?_
    refine c_region ?_
    refine o_s (.t (.d (.lit (.int .i64 p0)))) (g0 rfl) rfl rfl rfl ?_
    refine o_s (.t (.d (.lit (.int .i64 p1)))) (g0 rfl) rfl rfl rfl ?_
    refine o_s (.t (.d (.lit (.bool (decide (p0 ≥ p1)))))) (g0 rfl) rfl rfl rfl ?_
    refine o_s (.t (.d (.lit (.bool (decide (p0 ≥ p1)))))) (g0 rfl) rfl rfl rfl ?_
    rcases bif_some h with ⟨h2, h⟩ | ⟨h2, h⟩
    · refine o_s (.t (.d (.lit (.int .i64 p0)))) (gy rfl rfl rfl h2) rfl rfl rfl ?_
      refine o_s (.t (.d (.lit (.int .i64 p2)))) (gy rfl rfl rfl h2) rfl rfl rfl ?_
      refine o_s (.t (.d (.lit (.bool (decide (p0 ≤ p2)))))) (gy rfl rfl rfl h2) rfl rfl rfl ?_
      refine o_pk (.t (.d (.lit (.bool (decide (p0 ≤ p2)))))) (b := true) h2 (g0 rfl) rfl rfl rfl rfl rfl ?_
      refine o_s (.t (.d (.lit (.bool (decide (p0 ≤ p2)))))) (g0 rfl) rfl rfl rfl ?_
      refine o_nil ?_
      repeat (first | refine then_normal ?_ | refine then_exit ?_ | refine then_ret ?_ | refine block_normal ?_ | refine block_ret ?_ | refine block_exit ?_ | refine block_pass rfl ?_)
      refine c_ret ?_
      repeat (first | refine then_normal ?_ | refine then_exit ?_ | refine then_ret ?_ | refine block_normal ?_ | refine block_ret ?_ | refine block_exit ?_ | refine block_pass rfl ?_)
      obtain rfl := Option.some.inj h
      exact end0 rfl (.refl _)
    · refine o_skip rfl rfl rfl h2 rfl rfl ?_
      refine o_skip rfl rfl rfl h2 rfl rfl ?_
      refine o_skip rfl rfl rfl h2 rfl rfl ?_
      refine o_pk (.t (.d (.lit (.bool false)))) (b := false) h2 (g0 rfl) rfl rfl rfl rfl rfl ?_
      refine o_s (.t (.d (.lit (.bool false)))) (g0 rfl) rfl rfl rfl ?_
      refine o_nil ?_
      repeat (first | refine then_normal ?_ | refine then_exit ?_ | refine then_ret ?_ | refine block_normal ?_ | refine block_ret ?_ | refine block_exit ?_ | refine block_pass rfl ?_)
      refine c_ret ?_
      repeat (first | refine then_normal ?_ | refine then_exit ?_ | refine then_ret ?_ | refine block_normal ?_ | refine block_ret ?_ | refine block_exit ?_ | refine block_pass rfl ?_)
      obtain rfl := Option.some.inj h
      exact end0 rfl (.refl _)
  · refine c_f h1 rfl ?_
    refine c_skip ?_
    repeat (first | refine then_normal ?_ | refine then_exit ?_ | refine then_ret ?_ | refine block_normal ?_ | refine block_ret ?_ | refine block_exit ?_ | refine block_pass rfl ?_)
    refine c_seq ?_
    refine c_region ?_
    refine o_s (.t (.d (.lit (.int .i64 p0)))) (g0 rfl) rfl rfl rfl ?_
    refine o_s (.t (.d (.lit (.bool (p0 == 0))))) (g0 rfl) rfl rfl rfl ?_
    refine o_s (.t (.d (.lit (.bool (p0 == 0))))) (g0 rfl) rfl rfl rfl ?_
    refine o_nil ?_
    repeat (first | refine then_normal ?_ | refine then_exit ?_ | refine then_ret ?_ | refine block_normal ?_ | refine block_ret ?_ | refine block_exit ?_ | refine block_pass rfl ?_)
    refine c_ret ?_
    repeat (first | refine then_normal ?_ | refine then_exit ?_ | refine then_ret ?_ | refine block_normal ?_ | refine block_ret ?_ | refine block_exit ?_ | refine block_pass rfl ?_)
    obtain rfl := Option.some.inj h
    exact end0 rfl (.refl _)

theorem fc_call_May (p0 : S_api_Call) (r : Bool) (h : m_call_May p0 = some r) : FC Tryd.prog 21 [.t (.agg [.lit (.int .i64 p0.Kind), .lit (.string ⟨⟨p0.User⟩⟩), .lit (.string ⟨⟨p0.Folder⟩⟩), .lit (.string ⟨⟨p0.Name⟩⟩), .lit (.string ⟨⟨p0.Other⟩⟩), .lit (.int .i64 p0.Role), .lit (.int .i64 p0.Version), .seq 1 (bytesD p0.Data)])] [] (.t (.d (.lit (.bool r)))) := by
  refine fc_mk (rs := [.tmp 2]) (n := 104) Tryd.func21 rfl rfl (Nat.le_of_ble_eq_true rfl) rfl (pins := []) rfl (L := [(0, .t (.agg [.lit (.int .i64 p0.Kind), .lit (.string ⟨⟨p0.User⟩⟩), .lit (.string ⟨⟨p0.Folder⟩⟩), .lit (.string ⟨⟨p0.Name⟩⟩), .lit (.string ⟨⟨p0.Other⟩⟩), .lit (.int .i64 p0.Role), .lit (.int .i64 p0.Version), .seq 1 (bytesD p0.Data)]))]) rfl ?_
  refine c_seq ?_
  refine c_region ?_
  refine o_s (.box [.d (.lit (.int .i64 p0.Kind)), .d (.lit (.string ⟨⟨p0.User⟩⟩)), .d (.lit (.string ⟨⟨p0.Folder⟩⟩)), .d (.lit (.string ⟨⟨p0.Name⟩⟩)), .d (.lit (.string ⟨⟨p0.Other⟩⟩)), .d (.lit (.int .i64 p0.Role)), .d (.lit (.int .i64 p0.Version)), .d (.seq 1 (bytesD p0.Data))]) (g0 rfl) rfl rfl rfl ?_
  refine o_s (.t (.d (.lit (.bool false)))) (g0 rfl) rfl rfl rfl ?_
  refine o_nil ?_
  repeat (first | refine then_normal ?_ | refine then_exit ?_ | refine then_ret ?_ | refine block_normal ?_ | refine block_ret ?_ | refine block_exit ?_ | refine block_pass rfl ?_)
  refine c_seq ?_
  refine c_seq ?_
  refine c_region ?_
  refine o_s (.ref 1 0) (g0 rfl) rfl rfl rfl ?_
  refine o_s (.t (.d (.lit (.int .i64 p0.Kind)))) (g0 rfl) rfl rfl rfl ?_
  refine o_s (.t (.d (.lit (.bool (decide (p0.Kind < 1)))))) (g0 rfl) rfl rfl rfl ?_
  refine o_s (.t (.d (.lit (.bool (decide (p0.Kind < 1)))))) (g0 rfl) rfl rfl rfl ?_
  rcases bif_some h with ⟨h1, h⟩ | ⟨h1, h⟩
  · refine o_skip rfl rfl rfl h1 rfl rfl ?_
    refine o_skip rfl rfl rfl h1 rfl rfl ?_
    refine o_skip rfl rfl rfl h1 rfl rfl ?_
    refine o_pk (.t (.d (.lit (.bool true)))) (b := true) h1 (g0 rfl) rfl rfl rfl rfl rfl ?_
    refine o_s (.t (.d (.lit (.bool true)))) (g0 rfl) rfl rfl rfl ?_
    refine o_skip rfl rfl rfl rfl rfl rfl ?_
    refine o_skip rfl rfl rfl rfl rfl rfl ?_
    refine o_skip rfl rfl rfl rfl rfl rfl ?_
    refine o_skip rfl rfl rfl rfl rfl rfl ?_
    refine o_pk (.t (.d (.lit (.bool true)))) (b := true) rfl (g0 rfl) rfl rfl rfl rfl rfl ?_
    refine o_nil ?_
    repeat (first | refine then_normal ?_ | refine then_exit ?_ | refine then_ret ?_ | refine block_normal ?_ | refine block_ret ?_ | refine block_exit ?_ | refine block_pass rfl ?_)
    refine c_t rfl rfl ?_
    refine c_seq ?_
    refine c_region ?_
    refine o_s (.t (.d (.lit (.bool false)))) (g0 rfl) rfl rfl rfl ?_
    refine o_nil ?_
    repeat (first | refine then_normal ?_ | refine then_exit ?_ | refine then_ret ?_ | refine block_normal ?_ | refine block_ret ?_ | refine block_exit ?_ | refine block_pass rfl ?_)
    refine c_ret ?_
    repeat (first | refine then_normal ?_ | refine then_exit ?_ | refine then_ret ?_ | refine block_normal ?_ | refine block_ret ?_ | refine block_exit ?_ | refine block_pass rfl ?_)
    obtain rfl := Option.some.inj h
    exact end0 rfl (.refl _)
  · refine o_s (.ref 1 0) (gy rfl rfl rfl h1) rfl rfl rfl ?_
    refine o_s (.t (.d (.lit (.int .i64 p0.Kind)))) (gy rfl rfl rfl h1) rfl rfl rfl ?_
    refine o_s (.t (.d (.lit (.bool (decide (p0.Kind > 16)))))) (gy rfl rfl rfl h1) rfl rfl rfl ?_
    refine o_pk (.t (.d (.lit (.bool (decide (p0.Kind > 16)))))) (b := false) h1 (g0 rfl) rfl rfl rfl rfl rfl ?_
    refine o_s (.t (.d (.lit (.bool (decide (p0.Kind > 16)))))) (g0 rfl) rfl rfl rfl ?_
    rcases bif_some h with ⟨h2, h⟩ | ⟨h2, h⟩
    · refine o_skip rfl rfl rfl h2 rfl rfl ?_
      refine o_skip rfl rfl rfl h2 rfl rfl ?_
      refine o_skip rfl rfl rfl h2 rfl rfl ?_
      refine o_skip rfl rfl rfl h2 rfl rfl ?_
      refine o_pk (.t (.d (.lit (.bool true)))) (b := true) h2 (g0 rfl) rfl rfl rfl rfl rfl ?_
      refine o_nil ?_
      repeat (first | refine then_normal ?_ | refine then_exit ?_ | refine then_ret ?_ | refine block_normal ?_ | refine block_ret ?_ | refine block_exit ?_ | refine block_pass rfl ?_)
      refine c_t rfl rfl ?_
      refine c_seq ?_
      refine c_region ?_
      refine o_s (.t (.d (.lit (.bool false)))) (g0 rfl) rfl rfl rfl ?_
      refine o_nil ?_
      repeat (first | refine then_normal ?_ | refine then_exit ?_ | refine then_ret ?_ | refine block_normal ?_ | refine block_ret ?_ | refine block_exit ?_ | refine block_pass rfl ?_)
      refine c_ret ?_
      repeat (first | refine then_normal ?_ | refine then_exit ?_ | refine then_ret ?_ | refine block_normal ?_ | refine block_ret ?_ | refine block_exit ?_ | refine block_pass rfl ?_)
      obtain rfl := Option.some.inj h
      exact end0 rfl (.refl _)
    · refine o_s (.ref 1 1) (gy rfl rfl rfl h2) rfl rfl rfl ?_
      refine o_s (.t (.d (.lit (.string ⟨⟨p0.User⟩⟩)))) (gy rfl rfl rfl h2) rfl rfl rfl ?_
      obtain ⟨x3, h4, h⟩ := bind_some h
      refine o_ca (fc_tree_Name _ _ h4) (gy rfl rfl rfl h2) rfl rfl rfl rfl rfl rfl rfl (.cons (.refl _) .nil) rfl rfl ?_
      refine o_s (.t (.d (.lit (.bool (!x3))))) (gy rfl rfl rfl h2) rfl rfl rfl ?_
      refine o_pk (.t (.d (.lit (.bool (!x3))))) (b := false) h2 (g0 rfl) rfl rfl rfl rfl rfl ?_
      refine o_nil ?_
      repeat (first | refine then_normal ?_ | refine then_exit ?_ | refine then_ret ?_ | refine block_normal ?_ | refine block_ret ?_ | refine block_exit ?_ | refine block_pass rfl ?_)
      rcases bif_some h with ⟨h5, h⟩ | ⟨h5, h⟩
      · refine c_t h5 rfl ?_
        refine c_seq ?_
        refine c_region ?_
        refine o_s (.t (.d (.lit (.bool false)))) (g0 rfl) rfl rfl rfl ?_
        refine o_nil ?_
        repeat (first | refine then_normal ?_ | refine then_exit ?_ | refine then_ret ?_ | refine block_normal ?_ | refine block_ret ?_ | refine block_exit ?_ | refine block_pass rfl ?_)
        refine c_ret ?_
        repeat (first | refine then_normal ?_ | refine then_exit ?_ | refine then_ret ?_ | refine block_normal ?_ | refine block_ret ?_ | refine block_exit ?_ | refine block_pass rfl ?_)
        obtain rfl := Option.some.inj h
        exact end0 rfl (.refl _)
      · refine c_f h5 rfl ?_
        refine c_skip ?_
        repeat (first | refine then_normal ?_ | refine then_exit ?_ | refine then_ret ?_ | refine block_normal ?_ | refine block_ret ?_ | refine block_exit ?_ | refine block_pass rfl ?_)
        refine c_seq ?_
        refine c_region ?_
        refine o_s (.ref 1 0) (g0 rfl) rfl rfl rfl ?_
        refine o_s (.t (.d (.lit (.int .i64 p0.Kind)))) (g0 rfl) rfl rfl rfl ?_
        obtain ⟨x6, h7, h⟩ := bind_some h
        refine o_gix (k := .i64) (l := tbl_call_fields) h7 (g0 rfl) rfl rfl rfl rfl rfl (by kernel_rfl) ?_
        refine o_s (.t (.d (.lit (.int .i64 x6)))) (g0 rfl) rfl rfl rfl ?_
        refine o_s (.t (.d (.lit (.int .i64 x6)))) (g0 rfl) rfl rfl rfl ?_
        refine o_nil ?_
        repeat (first | refine then_normal ?_ | refine then_exit ?_ | refine then_ret ?_ | refine block_normal ?_ | refine block_ret ?_ | refine block_exit ?_ | refine block_pass rfl ?_)
        refine c_seq ?_
        refine c_block ?_
        refine c_cut (fun (y8 : Bool) => [(1, .box [.d (.lit (.int .i64 p0.Kind)), .d (.lit (.string ⟨⟨p0.User⟩⟩)), .d (.lit (.string ⟨⟨p0.Folder⟩⟩)), .d (.lit (.string ⟨⟨p0.Name⟩⟩)), .d (.lit (.string ⟨⟨p0.Other⟩⟩)), .d (.lit (.int .i64 p0.Role)), .d (.lit (.int .i64 p0.Version)), .d (.seq 1 (bytesD p0.Data))]), (3, .t (.d (.lit (.int .i64 x6)))), (22, .t (.d (.lit (.bool y8))))]) (fun (y8 : Bool) => m_call_May_j1 x6 p0 y8 = some r) ?_ ?_
        · refine c_region ?_
          refine o_s (.ref 1 2) (g0 rfl) rfl rfl rfl ?_
          refine o_s (.t (.d (.lit (.string ⟨⟨p0.Folder⟩⟩)))) (g0 rfl) rfl rfl rfl ?_
          refine o_s (.t (.d (.lit (.int .i64 x6)))) (g0 rfl) rfl rfl rfl ?_
          refine o_s (.t (.d (.lit (.int .i64 (wi ((((BitVec.ofInt IntKind.i64.bits x6) &&& (BitVec.ofInt IntKind.i64.bits 1)).toNat : Nat) : Int)))))) (g0 rfl) rfl rfl rfl ?_
          refine o_s (.t (.d (.lit (.bool ((wi ((((BitVec.ofInt IntKind.i64.bits x6) &&& (BitVec.ofInt IntKind.i64.bits 1)).toNat : Nat) : Int)) != 0))))) (g0 rfl) rfl rfl rfl ?_
          obtain ⟨x34, h35, h⟩ := bind_some h
          refine o_ca (fc_call_text _ _ _ h35) (g0 rfl) rfl rfl rfl rfl rfl rfl rfl (.cons (.refl _) (.cons (.refl _) .nil)) rfl rfl ?_
          refine o_s (.t (.d (.lit (.bool (!x34))))) (g0 rfl) rfl rfl rfl ?_
          refine o_s (.t (.d (.lit (.bool (!x34))))) (g0 rfl) rfl rfl rfl ?_
          rcases bif_some h with ⟨h36, h⟩ | ⟨h36, h⟩
          · refine o_skip rfl rfl rfl h36 rfl rfl ?_
            refine o_skip rfl rfl rfl h36 rfl rfl ?_
            refine o_skip rfl rfl rfl h36 rfl rfl ?_
            refine o_skip rfl rfl rfl h36 rfl rfl ?_
            refine o_skip rfl rfl rfl h36 rfl rfl ?_
            refine o_skip rfl rfl rfl h36 rfl rfl ?_
            refine o_skip rfl rfl rfl h36 rfl rfl ?_
            refine o_pk (.t (.d (.lit (.bool true)))) (b := true) h36 (g0 rfl) rfl rfl rfl rfl rfl ?_
            refine o_s (.t (.d (.lit (.bool true)))) (g0 rfl) rfl rfl rfl ?_
            refine o_nil ?_
            repeat (first | refine then_normal ?_ | refine then_exit ?_ | refine then_ret ?_ | refine block_normal ?_ | refine block_ret ?_ | refine block_exit ?_ | refine block_pass rfl ?_)
            exact ⟨true, h, ⟨(.refl _), ⟨(.refl _), ⟨(.refl _), trivial⟩⟩⟩, rfl⟩
          · refine o_s (.ref 1 3) (gy rfl rfl rfl h36) rfl rfl rfl ?_
            refine o_s (.t (.d (.lit (.string ⟨⟨p0.Name⟩⟩)))) (gy rfl rfl rfl h36) rfl rfl rfl ?_
            refine o_s (.t (.d (.lit (.int .i64 x6)))) (gy rfl rfl rfl h36) rfl rfl rfl ?_
            refine o_s (.t (.d (.lit (.int .i64 (wi ((((BitVec.ofInt IntKind.i64.bits x6) &&& (BitVec.ofInt IntKind.i64.bits 2)).toNat : Nat) : Int)))))) (gy rfl rfl rfl h36) rfl rfl rfl ?_
            refine o_s (.t (.d (.lit (.bool ((wi ((((BitVec.ofInt IntKind.i64.bits x6) &&& (BitVec.ofInt IntKind.i64.bits 2)).toNat : Nat) : Int)) != 0))))) (gy rfl rfl rfl h36) rfl rfl rfl ?_
            obtain ⟨x37, h38, h⟩ := bind_some h
            refine o_ca (fc_call_text _ _ _ h38) (gy rfl rfl rfl h36) rfl rfl rfl rfl rfl rfl rfl (.cons (.refl _) (.cons (.refl _) .nil)) rfl rfl ?_
            refine o_s (.t (.d (.lit (.bool (!x37))))) (gy rfl rfl rfl h36) rfl rfl rfl ?_
            refine o_pk (.t (.d (.lit (.bool (!x37))))) (b := false) h36 (g0 rfl) rfl rfl rfl rfl rfl ?_
            refine o_s (.t (.d (.lit (.bool (!x37))))) (g0 rfl) rfl rfl rfl ?_
            refine o_nil ?_
            repeat (first | refine then_normal ?_ | refine then_exit ?_ | refine then_ret ?_ | refine block_normal ?_ | refine block_ret ?_ | refine block_exit ?_ | refine block_pass rfl ?_)
            exact ⟨(!x37), h, ⟨(.refl _), ⟨(.refl _), ⟨(.refl _), trivial⟩⟩⟩, rfl⟩
        · rintro y8 h
          rcases bif_some h with ⟨h9, h⟩ | ⟨h9, h⟩
          · refine c_t h9 rfl ?_
            refine c_seq ?_
            refine c_region ?_
            refine o_s (.t (.d (.lit (.bool false)))) (g0 rfl) rfl rfl rfl ?_
            refine o_nil ?_
            repeat (first | refine then_normal ?_ | refine then_exit ?_ | refine then_ret ?_ | refine block_normal ?_ | refine block_ret ?_ | refine block_exit ?_ | refine block_pass rfl ?_)
            refine c_ret ?_
            repeat (first | refine then_normal ?_ | refine then_exit ?_ | refine then_ret ?_ | refine block_normal ?_ | refine block_ret ?_ | refine block_exit ?_ | refine block_pass rfl ?_)
            obtain rfl := Option.some.inj h
            exact end0 rfl (.refl _)
          · refine c_f h9 rfl ?_
            refine c_cut (fun (y10 : Bool) => [(1, .box [.d (.lit (.int .i64 p0.Kind)), .d (.lit (.string ⟨⟨p0.User⟩⟩)), .d (.lit (.string ⟨⟨p0.Folder⟩⟩)), .d (.lit (.string ⟨⟨p0.Name⟩⟩)), .d (.lit (.string ⟨⟨p0.Other⟩⟩)), .d (.lit (.int .i64 p0.Role)), .d (.lit (.int .i64 p0.Version)), .d (.seq 1 (bytesD p0.Data))]), (3, .t (.d (.lit (.int .i64 x6)))), (39, .t (.d (.lit (.bool y10))))]) (fun (y10 : Bool) => m_call_May_j2 x6 p0 y10 = some r) ?_ ?_
            · refine c_region ?_
              refine o_s (.ref 1 4) (g0 rfl) rfl rfl rfl ?_
              refine o_s (.t (.d (.lit (.string ⟨⟨p0.Other⟩⟩)))) (g0 rfl) rfl rfl rfl ?_
              refine o_s (.t (.d (.lit (.int .i64 x6)))) (g0 rfl) rfl rfl rfl ?_
              refine o_s (.t (.d (.lit (.int .i64 (wi ((((BitVec.ofInt IntKind.i64.bits x6) &&& (BitVec.ofInt IntKind.i64.bits 4)).toNat : Nat) : Int)))))) (g0 rfl) rfl rfl rfl ?_
              refine o_s (.t (.d (.lit (.bool ((wi ((((BitVec.ofInt IntKind.i64.bits x6) &&& (BitVec.ofInt IntKind.i64.bits 4)).toNat : Nat) : Int)) != 0))))) (g0 rfl) rfl rfl rfl ?_
              refine o_s (.t (.d (.lit (.bool ((wi ((((BitVec.ofInt IntKind.i64.bits x6) &&& (BitVec.ofInt IntKind.i64.bits 4)).toNat : Nat) : Int)) != 0))))) (g0 rfl) rfl rfl rfl ?_
              rcases bif_some h with ⟨h26, h⟩ | ⟨h26, h⟩
              · refine o_skip rfl rfl rfl h26 rfl rfl ?_
                refine o_skip rfl rfl rfl h26 rfl rfl ?_
                refine o_skip rfl rfl rfl h26 rfl rfl ?_
                refine o_skip rfl rfl rfl h26 rfl rfl ?_
                refine o_un rfl rfl rfl rfl rfl ?_
                refine o_un rfl rfl rfl rfl rfl ?_
                refine o_un rfl rfl rfl rfl rfl ?_
                refine o_skip rfl rfl rfl h26 rfl rfl ?_
                refine o_pk (.t (.d (.lit (.bool true)))) (b := true) h26 (g0 rfl) rfl rfl rfl rfl rfl ?_
                obtain ⟨x27, h28, h⟩ := bind_some h
                refine o_ca (fc_call_text _ _ _ h28) (g0 rfl) rfl rfl rfl rfl rfl rfl rfl (.cons (.refl _) (.cons (.refl _) .nil)) rfl rfl ?_
                refine o_s (.t (.d (.lit (.bool (!x27))))) (g0 rfl) rfl rfl rfl ?_
                refine o_s (.t (.d (.lit (.bool (!x27))))) (g0 rfl) rfl rfl rfl ?_
                refine o_nil ?_
                repeat (first | refine then_normal ?_ | refine then_exit ?_ | refine then_ret ?_ | refine block_normal ?_ | refine block_ret ?_ | refine block_exit ?_ | refine block_pass rfl ?_)
                exact ⟨(!x27), h, ⟨(.refl _), ⟨(.refl _), ⟨(.refl _), trivial⟩⟩⟩, rfl⟩
              · refine o_s (.t (.d (.lit (.int .i64 x6)))) (gy rfl rfl rfl h26) rfl rfl rfl ?_
                refine o_s (.t (.d (.lit (.int .i64 (wi ((((BitVec.ofInt IntKind.i64.bits x6) &&& (BitVec.ofInt IntKind.i64.bits 8)).toNat : Nat) : Int)))))) (gy rfl rfl rfl h26) rfl rfl rfl ?_
                refine o_s (.t (.d (.lit (.bool ((wi ((((BitVec.ofInt IntKind.i64.bits x6) &&& (BitVec.ofInt IntKind.i64.bits 8)).toNat : Nat) : Int)) != 0))))) (gy rfl rfl rfl h26) rfl rfl rfl ?_
                refine o_s (.t (.d (.lit (.bool ((wi ((((BitVec.ofInt IntKind.i64.bits x6) &&& (BitVec.ofInt IntKind.i64.bits 8)).toNat : Nat) : Int)) != 0))))) (gy rfl rfl rfl h26) rfl rfl rfl ?_
                rcases bif_some h with ⟨h29, h⟩ | ⟨h29, h⟩
                · refine o_s (.ref 1 4) (gy rfl rfl rfl h29) rfl rfl rfl ?_
                  refine o_s (.t (.d (.lit (.string ⟨⟨p0.Other⟩⟩)))) (gy rfl rfl rfl h29) rfl rfl rfl ?_
                  refine o_c (gy rfl rfl rfl h29) rfl rfl rfl (congrArg (fun z => A.t (.d (.lit (.bool (!z))))) (str_beqL _ _)) trivial ?_
                  refine o_pk (.t (.d (.lit (.bool (!(p0.Other == [])))))) (b := true) h29 (gy rfl rfl rfl h26) rfl rfl rfl rfl rfl ?_
                  refine o_pk (.t (.d (.lit (.bool (!(p0.Other == [])))))) (b := false) h26 (g0 rfl) rfl rfl rfl rfl rfl ?_
                  obtain ⟨x30, h31, h⟩ := bind_some h
                  refine o_ca (fc_call_text _ _ _ h31) (g0 rfl) rfl rfl rfl rfl rfl rfl rfl (.cons (.refl _) (.cons (.refl _) .nil)) rfl rfl ?_
                  refine o_s (.t (.d (.lit (.bool (!x30))))) (g0 rfl) rfl rfl rfl ?_
                  refine o_s (.t (.d (.lit (.bool (!x30))))) (g0 rfl) rfl rfl rfl ?_
                  refine o_nil ?_
                  repeat (first | refine then_normal ?_ | refine then_exit ?_ | refine then_ret ?_ | refine block_normal ?_ | refine block_ret ?_ | refine block_exit ?_ | refine block_pass rfl ?_)
                  exact ⟨(!x30), h, ⟨(.refl _), ⟨(.refl _), ⟨(.refl _), trivial⟩⟩⟩, rfl⟩
                · refine o_skip rfl rfl rfl h29 rfl rfl ?_
                  refine o_skip rfl rfl rfl h29 rfl rfl ?_
                  refine o_skip rfl rfl rfl h29 rfl rfl ?_
                  refine o_pk (.t (.d (.lit (.bool false)))) (b := false) h29 (gy rfl rfl rfl h26) rfl rfl rfl rfl rfl ?_
                  refine o_pk (.t (.d (.lit (.bool false)))) (b := false) h26 (g0 rfl) rfl rfl rfl rfl rfl ?_
                  obtain ⟨x32, h33, h⟩ := bind_some h
                  refine o_ca (fc_call_text _ _ _ h33) (g0 rfl) rfl rfl rfl rfl rfl rfl rfl (.cons (.refl _) (.cons (.refl _) .nil)) rfl rfl ?_
                  refine o_s (.t (.d (.lit (.bool (!x32))))) (g0 rfl) rfl rfl rfl ?_
                  refine o_s (.t (.d (.lit (.bool (!x32))))) (g0 rfl) rfl rfl rfl ?_
                  refine o_nil ?_
                  repeat (first | refine then_normal ?_ | refine then_exit ?_ | refine then_ret ?_ | refine block_normal ?_ | refine block_ret ?_ | refine block_exit ?_ | refine block_pass rfl ?_)
                  exact ⟨(!x32), h, ⟨(.refl _), ⟨(.refl _), ⟨(.refl _), trivial⟩⟩⟩, rfl⟩
            · rintro y10 h
              rcases bif_some h with ⟨h11, h⟩ | ⟨h11, h⟩
              · refine c_t h11 rfl ?_
                refine c_seq ?_
                refine c_region ?_
                refine o_s (.t (.d (.lit (.bool false)))) (g0 rfl) rfl rfl rfl ?_
                refine o_nil ?_
                repeat (first | refine then_normal ?_ | refine then_exit ?_ | refine then_ret ?_ | refine block_normal ?_ | refine block_ret ?_ | refine block_exit ?_ | refine block_pass rfl ?_)
                refine c_ret ?_
                repeat (first | refine then_normal ?_ | refine then_exit ?_ | refine then_ret ?_ | refine block_normal ?_ | refine block_ret ?_ | refine block_exit ?_ | refine block_pass rfl ?_)
                obtain rfl := Option.some.inj h
                exact end0 rfl (.refl _)
              · refine c_f h11 rfl ?_
                refine c_cut (fun (y12 : Bool) => [(1, .box [.d (.lit (.int .i64 p0.Kind)), .d (.lit (.string ⟨⟨p0.User⟩⟩)), .d (.lit (.string ⟨⟨p0.Folder⟩⟩)), .d (.lit (.string ⟨⟨p0.Name⟩⟩)), .d (.lit (.string ⟨⟨p0.Other⟩⟩)), .d (.lit (.int .i64 p0.Role)), .d (.lit (.int .i64 p0.Version)), .d (.seq 1 (bytesD p0.Data))]), (3, .t (.d (.lit (.int .i64 x6)))), (57, .t (.d (.lit (.bool y12))))]) (fun (y12 : Bool) => m_call_May_j3 p0 x6 y12 = some r) ?_ ?_
                · refine c_region ?_
                  refine o_s (.t (.d (.lit (.int .i64 x6)))) (g0 rfl) rfl rfl rfl ?_
                  refine o_s (.t (.d (.lit (.int .i64 (wi ((((BitVec.ofInt IntKind.i64.bits x6) &&& (BitVec.ofInt IntKind.i64.bits 1)).toNat : Nat) : Int)))))) (g0 rfl) rfl rfl rfl ?_
                  refine o_s (.t (.d (.lit (.bool ((wi ((((BitVec.ofInt IntKind.i64.bits x6) &&& (BitVec.ofInt IntKind.i64.bits 1)).toNat : Nat) : Int)) == 0))))) (g0 rfl) rfl rfl rfl ?_
                  refine o_s (.t (.d (.lit (.bool ((wi ((((BitVec.ofInt IntKind.i64.bits x6) &&& (BitVec.ofInt IntKind.i64.bits 1)).toNat : Nat) : Int)) == 0))))) (g0 rfl) rfl rfl rfl ?_
                  rcases bif_some h with ⟨h22, h⟩ | ⟨h22, h⟩
                  · refine o_s (.ref 1 4) (gy rfl rfl rfl h22) rfl rfl rfl ?_
                    refine o_s (.t (.d (.lit (.string ⟨⟨p0.Other⟩⟩)))) (gy rfl rfl rfl h22) rfl rfl rfl ?_
                    refine o_s (.ref 1 1) (gy rfl rfl rfl h22) rfl rfl rfl ?_
                    refine o_s (.t (.d (.lit (.string ⟨⟨p0.User⟩⟩)))) (gy rfl rfl rfl h22) rfl rfl rfl ?_
                    refine o_c (gy rfl rfl rfl h22) rfl rfl rfl (congrArg (fun z => A.t (.d (.lit (.bool z)))) (str_beqL _ _)) trivial ?_
                    refine o_pk (.t (.d (.lit (.bool (p0.Other == p0.User))))) (b := true) h22 (g0 rfl) rfl rfl rfl rfl rfl ?_
                    refine o_s (.t (.d (.lit (.bool (p0.Other == p0.User))))) (g0 rfl) rfl rfl rfl ?_
                    rcases bif_some h with ⟨h23, h⟩ | ⟨h23, h⟩
                    · refine o_skip rfl rfl rfl h23 rfl rfl ?_
                      refine o_skip rfl rfl rfl h23 rfl rfl ?_
                      refine o_skip rfl rfl rfl h23 rfl rfl ?_
                      refine o_skip rfl rfl rfl h23 rfl rfl ?_
                      refine o_un rfl rfl rfl rfl rfl ?_
                      refine o_un rfl rfl rfl rfl rfl ?_
                      refine o_un rfl rfl rfl rfl rfl ?_
                      refine o_un rfl rfl rfl rfl rfl ?_
                      refine o_un rfl rfl rfl rfl rfl ?_
                      refine o_skip rfl rfl rfl h23 rfl rfl ?_
                      refine o_pk (.t (.d (.lit (.bool true)))) (b := true) h23 (g0 rfl) rfl rfl rfl rfl rfl ?_
                      refine o_s (.t (.d (.lit (.bool true)))) (g0 rfl) rfl rfl rfl ?_
                      refine o_nil ?_
                      repeat (first | refine then_normal ?_ | refine then_exit ?_ | refine then_ret ?_ | refine block_normal ?_ | refine block_ret ?_ | refine block_exit ?_ | refine block_pass rfl ?_)
                      exact ⟨true, h, ⟨(.refl _), ⟨(.refl _), ⟨(.refl _), trivial⟩⟩⟩, rfl⟩
                    · refine o_s (.ref 1 0) (gy rfl rfl rfl h23) rfl rfl rfl ?_
                      refine o_s (.t (.d (.lit (.int .i64 p0.Kind)))) (gy rfl rfl rfl h23) rfl rfl rfl ?_
                      refine o_s (.t (.d (.lit (.bool (p0.Kind == 2))))) (gy rfl rfl rfl h23) rfl rfl rfl ?_
                      refine o_s (.t (.d (.lit (.bool (p0.Kind == 2))))) (gy rfl rfl rfl h23) rfl rfl rfl ?_
                      rcases bif_some h with ⟨h24, h⟩ | ⟨h24, h⟩
                      · refine o_s (.ref 1 4) (gy rfl rfl rfl h24) rfl rfl rfl ?_
                        refine o_s (.t (.d (.lit (.string ⟨⟨p0.Other⟩⟩)))) (gy rfl rfl rfl h24) rfl rfl rfl ?_
                        refine o_s (.ref 1 2) (gy rfl rfl rfl h24) rfl rfl rfl ?_
                        refine o_s (.t (.d (.lit (.string ⟨⟨p0.Folder⟩⟩)))) (gy rfl rfl rfl h24) rfl rfl rfl ?_
                        refine o_c (gy rfl rfl rfl h24) rfl rfl rfl (congrArg (fun z => A.t (.d (.lit (.bool z)))) (str_beqL _ _)) trivial ?_
                        refine o_pk (.t (.d (.lit (.bool (p0.Other == p0.Folder))))) (b := true) h24 (gy rfl rfl rfl h23) rfl rfl rfl rfl rfl ?_
                        refine o_pk (.t (.d (.lit (.bool (p0.Other == p0.Folder))))) (b := false) h23 (g0 rfl) rfl rfl rfl rfl rfl ?_
                        refine o_s (.t (.d (.lit (.bool (p0.Other == p0.Folder))))) (g0 rfl) rfl rfl rfl ?_
                        refine o_nil ?_
                        repeat (first | refine then_normal ?_ | refine then_exit ?_ | refine then_ret ?_ | refine block_normal ?_ | refine block_ret ?_ | refine block_exit ?_ | refine block_pass rfl ?_)
                        exact ⟨(p0.Other == p0.Folder), h, ⟨(.refl _), ⟨(.refl _), ⟨(.refl _), trivial⟩⟩⟩, rfl⟩
                      · refine o_skip rfl rfl rfl h24 rfl rfl ?_
                        refine o_skip rfl rfl rfl h24 rfl rfl ?_
                        refine o_skip rfl rfl rfl h24 rfl rfl ?_
                        refine o_skip rfl rfl rfl h24 rfl rfl ?_
                        refine o_skip rfl rfl rfl h24 rfl rfl ?_
                        refine o_pk (.t (.d (.lit (.bool false)))) (b := false) h24 (gy rfl rfl rfl h23) rfl rfl rfl rfl rfl ?_
                        refine o_pk (.t (.d (.lit (.bool false)))) (b := false) h23 (g0 rfl) rfl rfl rfl rfl rfl ?_
                        refine o_s (.t (.d (.lit (.bool false)))) (g0 rfl) rfl rfl rfl ?_
                        refine o_nil ?_
                        repeat (first | refine then_normal ?_ | refine then_exit ?_ | refine then_ret ?_ | refine block_normal ?_ | refine block_ret ?_ | refine block_exit ?_ | refine block_pass rfl ?_)
                        exact ⟨false, h, ⟨(.refl _), ⟨(.refl _), ⟨(.refl _), trivial⟩⟩⟩, rfl⟩
                  · refine o_skip rfl rfl rfl h22 rfl rfl ?_
                    refine o_skip rfl rfl rfl h22 rfl rfl ?_
                    refine o_skip rfl rfl rfl h22 rfl rfl ?_
                    refine o_skip rfl rfl rfl h22 rfl rfl ?_
                    refine o_skip rfl rfl rfl h22 rfl rfl ?_
                    refine o_pk (.t (.d (.lit (.bool false)))) (b := false) h22 (g0 rfl) rfl rfl rfl rfl rfl ?_
                    refine o_s (.t (.d (.lit (.bool false)))) (g0 rfl) rfl rfl rfl ?_
                    refine o_s (.ref 1 0) (gy rfl rfl rfl rfl) rfl rfl rfl ?_
                    refine o_s (.t (.d (.lit (.int .i64 p0.Kind)))) (gy rfl rfl rfl rfl) rfl rfl rfl ?_
                    refine o_s (.t (.d (.lit (.bool (p0.Kind == 2))))) (gy rfl rfl rfl rfl) rfl rfl rfl ?_
                    refine o_s (.t (.d (.lit (.bool (p0.Kind == 2))))) (gy rfl rfl rfl rfl) rfl rfl rfl ?_
                    rcases bif_some h with ⟨h25, h⟩ | ⟨h25, h⟩
                    · refine o_s (.ref 1 4) (gy rfl rfl rfl h25) rfl rfl rfl ?_
                      refine o_s (.t (.d (.lit (.string ⟨⟨p0.Other⟩⟩)))) (gy rfl rfl rfl h25) rfl rfl rfl ?_
                      refine o_s (.ref 1 2) (gy rfl rfl rfl h25) rfl rfl rfl ?_
                      refine o_s (.t (.d (.lit (.string ⟨⟨p0.Folder⟩⟩)))) (gy rfl rfl rfl h25) rfl rfl rfl ?_
                      refine o_c (gy rfl rfl rfl h25) rfl rfl rfl (congrArg (fun z => A.t (.d (.lit (.bool z)))) (str_beqL _ _)) trivial ?_
                      refine o_pk (.t (.d (.lit (.bool (p0.Other == p0.Folder))))) (b := true) h25 (gy rfl rfl rfl rfl) rfl rfl rfl rfl rfl ?_
                      refine o_pk (.t (.d (.lit (.bool (p0.Other == p0.Folder))))) (b := false) rfl (g0 rfl) rfl rfl rfl rfl rfl ?_
                      refine o_s (.t (.d (.lit (.bool (p0.Other == p0.Folder))))) (g0 rfl) rfl rfl rfl ?_
                      refine o_nil ?_
                      repeat (first | refine then_normal ?_ | refine then_exit ?_ | refine then_ret ?_ | refine block_normal ?_ | refine block_ret ?_ | refine block_exit ?_ | refine block_pass rfl ?_)
                      exact ⟨(p0.Other == p0.Folder), h, ⟨(.refl _), ⟨(.refl _), ⟨(.refl _), trivial⟩⟩⟩, rfl⟩
                    · refine o_skip rfl rfl rfl h25 rfl rfl ?_
                      refine o_skip rfl rfl rfl h25 rfl rfl ?_
                      refine o_skip rfl rfl rfl h25 rfl rfl ?_
                      refine o_skip rfl rfl rfl h25 rfl rfl ?_
                      refine o_skip rfl rfl rfl h25 rfl rfl ?_
                      refine o_pk (.t (.d (.lit (.bool false)))) (b := false) h25 (gy rfl rfl rfl rfl) rfl rfl rfl rfl rfl ?_
                      refine o_pk (.t (.d (.lit (.bool false)))) (b := false) rfl (g0 rfl) rfl rfl rfl rfl rfl ?_
                      refine o_s (.t (.d (.lit (.bool false)))) (g0 rfl) rfl rfl rfl ?_
                      refine o_nil ?_
                      repeat (first | refine then_normal ?_ | refine then_exit ?_ | refine then_ret ?_ | refine block_normal ?_ | refine block_ret ?_ | refine block_exit ?_ | refine block_pass rfl ?_)
                      exact ⟨false, h, ⟨(.refl _), ⟨(.refl _), ⟨(.refl _), trivial⟩⟩⟩, rfl⟩
                · rintro y12 h
                  rcases bif_some h with ⟨h13, h⟩ | ⟨h13, h⟩
                  · refine c_t h13 rfl ?_
                    refine c_seq ?_
                    refine c_region ?_
                    refine o_s (.t (.d (.lit (.bool false)))) (g0 rfl) rfl rfl rfl ?_
                    refine o_nil ?_
                    repeat (first | refine then_normal ?_ | refine then_exit ?_ | refine then_ret ?_ | refine block_normal ?_ | refine block_ret ?_ | refine block_exit ?_ | refine block_pass rfl ?_)
                    refine c_ret ?_
                    repeat (first | refine then_normal ?_ | refine then_exit ?_ | refine then_ret ?_ | refine block_normal ?_ | refine block_ret ?_ | refine block_exit ?_ | refine block_pass rfl ?_)
                    obtain rfl := Option.some.inj h
                    exact end0 rfl (.refl _)
                  · refine c_f h13 rfl ?_
                    refine c_seq ?_
                    refine c_region ?_
                    refine o_s (.ref 1 5) (g0 rfl) rfl rfl rfl ?_
                    refine o_s (.t (.d (.lit (.int .i64 p0.Role)))) (g0 rfl) rfl rfl rfl ?_
                    refine o_s (.t (.d (.lit (.int .i64 x6)))) (g0 rfl) rfl rfl rfl ?_
                    refine o_s (.t (.d (.lit (.int .i64 (wi ((((BitVec.ofInt IntKind.i64.bits x6) &&& (BitVec.ofInt IntKind.i64.bits 16)).toNat : Nat) : Int)))))) (g0 rfl) rfl rfl rfl ?_
                    refine o_s (.t (.d (.lit (.bool ((wi ((((BitVec.ofInt IntKind.i64.bits x6) &&& (BitVec.ofInt IntKind.i64.bits 16)).toNat : Nat) : Int)) != 0))))) (g0 rfl) rfl rfl rfl ?_
                    obtain ⟨x14, h15, h⟩ := bind_some h
                    refine o_ca (fc_call_number _ _ _ _ _ h15) (g0 rfl) rfl rfl rfl rfl rfl rfl rfl (.cons (.refl _) (.cons (.refl _) (.cons (.refl _) (.cons (.refl _) .nil)))) rfl rfl ?_
                    refine o_s (.t (.d (.lit (.bool (!x14))))) (g0 rfl) rfl rfl rfl ?_
                    refine o_s (.t (.d (.lit (.bool (!x14))))) (g0 rfl) rfl rfl rfl ?_
                    rcases bif_some h with ⟨h16, h⟩ | ⟨h16, h⟩
                    · refine o_skip rfl rfl rfl h16 rfl rfl ?_
                      refine o_skip rfl rfl rfl h16 rfl rfl ?_
                      refine o_skip rfl rfl rfl h16 rfl rfl ?_
                      refine o_skip rfl rfl rfl h16 rfl rfl ?_
                      refine o_skip rfl rfl rfl h16 rfl rfl ?_
                      refine o_skip rfl rfl rfl h16 rfl rfl ?_
                      refine o_skip rfl rfl rfl h16 rfl rfl ?_
                      refine o_pk (.t (.d (.lit (.bool true)))) (b := true) h16 (g0 rfl) rfl rfl rfl rfl rfl ?_
                      refine o_s (.t (.d (.lit (.bool true)))) (g0 rfl) rfl rfl rfl ?_
                      refine o_nil ?_
                      repeat (first | refine then_normal ?_ | refine then_exit ?_ | refine then_ret ?_ | refine block_normal ?_ | refine block_ret ?_ | refine block_exit ?_ | refine block_pass rfl ?_)
                      refine c_t rfl rfl ?_
                      refine c_seq ?_
                      refine c_region ?_
                      refine o_s (.t (.d (.lit (.bool false)))) (g0 rfl) rfl rfl rfl ?_
                      refine o_nil ?_
                      repeat (first | refine then_normal ?_ | refine then_exit ?_ | refine then_ret ?_ | refine block_normal ?_ | refine block_ret ?_ | refine block_exit ?_ | refine block_pass rfl ?_)
                      refine c_ret ?_
                      repeat (first | refine then_normal ?_ | refine then_exit ?_ | refine then_ret ?_ | refine block_normal ?_ | refine block_ret ?_ | refine block_exit ?_ | refine block_pass rfl ?_)
                      obtain rfl := Option.some.inj h
                      exact end0 rfl (.refl _)
                    · refine o_s (.ref 1 6) (gy rfl rfl rfl h16) rfl rfl rfl ?_
                      refine o_s (.t (.d (.lit (.int .i64 p0.Version)))) (gy rfl rfl rfl h16) rfl rfl rfl ?_
                      refine o_s (.t (.d (.lit (.int .i64 x6)))) (gy rfl rfl rfl h16) rfl rfl rfl ?_
                      refine o_s (.t (.d (.lit (.int .i64 (wi ((((BitVec.ofInt IntKind.i64.bits x6) &&& (BitVec.ofInt IntKind.i64.bits 32)).toNat : Nat) : Int)))))) (gy rfl rfl rfl h16) rfl rfl rfl ?_
                      refine o_s (.t (.d (.lit (.bool ((wi ((((BitVec.ofInt IntKind.i64.bits x6) &&& (BitVec.ofInt IntKind.i64.bits 32)).toNat : Nat) : Int)) != 0))))) (gy rfl rfl rfl h16) rfl rfl rfl ?_
                      obtain ⟨x17, h18, h⟩ := bind_some h
                      refine o_ca (fc_call_number _ _ _ _ _ h18) (gy rfl rfl rfl h16) rfl rfl rfl rfl rfl rfl rfl (.cons (.refl _) (.cons (.refl _) (.cons (.refl _) (.cons (.refl _) .nil)))) rfl rfl ?_
                      refine o_s (.t (.d (.lit (.bool (!x17))))) (gy rfl rfl rfl h16) rfl rfl rfl ?_
                      refine o_pk (.t (.d (.lit (.bool (!x17))))) (b := false) h16 (g0 rfl) rfl rfl rfl rfl rfl ?_
                      refine o_s (.t (.d (.lit (.bool (!x17))))) (g0 rfl) rfl rfl rfl ?_
                      refine o_nil ?_
                      repeat (first | refine then_normal ?_ | refine then_exit ?_ | refine then_ret ?_ | refine block_normal ?_ | refine block_ret ?_ | refine block_exit ?_ | refine block_pass rfl ?_)
                      rcases bif_some h with ⟨h19, h⟩ | ⟨h19, h⟩
                      · refine c_t h19 rfl ?_
                        refine c_seq ?_
                        refine c_region ?_
                        refine o_s (.t (.d (.lit (.bool false)))) (g0 rfl) rfl rfl rfl ?_
                        refine o_nil ?_
                        repeat (first | refine then_normal ?_ | refine then_exit ?_ | refine then_ret ?_ | refine block_normal ?_ | refine block_ret ?_ | refine block_exit ?_ | refine block_pass rfl ?_)
                        refine c_ret ?_
                        repeat (first | refine then_normal ?_ | refine then_exit ?_ | refine then_ret ?_ | refine block_normal ?_ | refine block_ret ?_ | refine block_exit ?_ | refine block_pass rfl ?_)
                        obtain rfl := Option.some.inj h
                        exact end0 rfl (.refl _)
                      · refine c_f h19 rfl ?_
                        refine c_skip ?_
                        repeat (first | refine then_normal ?_ | refine then_exit ?_ | refine then_ret ?_ | refine block_normal ?_ | refine block_ret ?_ | refine block_exit ?_ | refine block_pass rfl ?_)
                        refine c_seq ?_
                        refine c_region ?_
                        refine o_s (.ref 1 7) (g0 rfl) rfl rfl rfl ?_
                        refine o_s (.t (.d (.seq 1 (bytesD p0.Data)))) (g0 rfl) rfl rfl rfl ?_
                        refine o_c (g0 rfl) rfl rfl rfl (lenE _ _) trivial ?_
                        refine o_s (.t (.d (.lit (.int .i64 x6)))) (g0 rfl) rfl rfl rfl ?_
                        refine o_s (.t (.d (.lit (.int .i64 (wi ((((BitVec.ofInt IntKind.i64.bits x6) &&& (BitVec.ofInt IntKind.i64.bits 64)).toNat : Nat) : Int)))))) (g0 rfl) rfl rfl rfl ?_
                        refine o_s (.t (.d (.lit (.bool ((wi ((((BitVec.ofInt IntKind.i64.bits x6) &&& (BitVec.ofInt IntKind.i64.bits 64)).toNat : Nat) : Int)) != 0))))) (g0 rfl) rfl rfl rfl ?_
                        obtain ⟨x20, h21, h⟩ := bind_some h
                        refine o_ca (fc_call_number _ _ _ _ _ h21) (g0 rfl) rfl rfl rfl rfl rfl rfl rfl (.cons (.refl _) (.cons (.refl _) (.cons (.refl _) (.cons (.refl _) .nil)))) rfl rfl ?_
                        refine o_s (.t (.d (.lit (.bool x20)))) (g0 rfl) rfl rfl rfl ?_
                        refine o_nil ?_
                        repeat (first | refine then_normal ?_ | refine then_exit ?_ | refine then_ret ?_ | refine block_normal ?_ | refine block_ret ?_ | refine block_exit ?_ | refine block_pass rfl ?_)
                        refine c_ret ?_
                        repeat (first | refine then_normal ?_ | refine then_exit ?_ | refine then_ret ?_ | refine block_normal ?_ | refine block_ret ?_ | refine block_exit ?_ | refine block_pass rfl ?_)
                        obtain rfl := Option.some.inj h
                        exact end0 rfl (.refl _)

theorem fc_call_word (p0 : (List UInt8)) (r : V) (h : m_call_word p0 = some r) : FC Tryd.prog 37 [.t (.d (.lit (.string ⟨⟨p0⟩⟩)))] [] (.t (.agg [.lit (.int .i64 r.k), .lit (.int .i64 r.n), .seq 1 (bytesD r.b), .lit (.slice none 0 0)])) := by
  refine fc_mk (rs := [.cell 2 71]) (n := 6) Tryd.func37 rfl rfl (Nat.le_of_ble_eq_true rfl) rfl (pins := []) rfl (L := [(0, .t (.d (.lit (.string ⟨⟨p0⟩⟩))))]) rfl ?_
  refine c_seq ?_
  refine c_region ?_
  refine o_s (.box [.d (.lit (.int .i64 0)), .d (.lit (.int .i64 0)), .d (.lit (.slice none 0 0)), .d (.lit (.slice none 0 0))]) (g0 rfl) rfl rfl rfl ?_
  refine o_nil ?_
  repeat (first | refine then_normal ?_ | refine then_exit ?_ | refine then_ret ?_ | refine block_normal ?_ | refine block_ret ?_ | refine block_exit ?_ | refine block_pass rfl ?_)
  refine c_seq ?_
  refine c_region ?_
  refine o_s (.t (.d (.lit (.string ⟨⟨p0⟩⟩)))) (g0 rfl) rfl rfl rfl ?_
  obtain ⟨x1, h2, h⟩ := bind_some h
  refine o_c (g0 rfl) rfl rfl rfl (strBE h2) (strBC h2) ?_
  obtain ⟨x3, h4, h⟩ := bind_some h
  refine o_ca (fc_codec_Raw _ _ h4) (g0 rfl) rfl rfl rfl rfl rfl rfl rfl (.cons (.refl _) .nil) rfl rfl ?_
  refine o_st (.box [.d (.lit (.int .i64 x3.k)), .d (.lit (.int .i64 x3.n)), .d (.seq 1 (bytesD x3.b)), .d (.lit (.slice none 0 0))]) (g0 rfl) rfl rfl rfl ?_
  refine o_nil ?_
  repeat (first | refine then_normal ?_ | refine then_exit ?_ | refine then_ret ?_ | refine block_normal ?_ | refine block_ret ?_ | refine block_exit ?_ | refine block_pass rfl ?_)
  refine c_ret ?_
  repeat (first | refine then_normal ?_ | refine then_exit ?_ | refine then_ret ?_ | refine block_normal ?_ | refine block_ret ?_ | refine block_exit ?_ | refine block_pass rfl ?_)
  obtain rfl := Option.some.inj h
  exact end0 rfl (.refl _)

theorem fc_call_Write (p0 : S_api_Call) (r : ((List UInt8) × Int)) (h : m_call_Write p0 = some r) : FC Tryd.prog 19 [.t (.agg [.lit (.int .i64 p0.Kind), .lit (.string ⟨⟨p0.User⟩⟩), .lit (.string ⟨⟨p0.Folder⟩⟩), .lit (.string ⟨⟨p0.Name⟩⟩), .lit (.string ⟨⟨p0.Other⟩⟩), .lit (.int .i64 p0.Role), .lit (.int .i64 p0.Version), .seq 1 (bytesD p0.Data)])] [] (.tup [.d (.seq 1 (bytesD r.1)), .d (.lit (.int .i64 r.2))]) := by
  refine fc_mk (rs := [.tmp 2, .tmp 3]) (n := 36) Tryd.func19 rfl rfl (Nat.le_of_ble_eq_true rfl) rfl (pins := []) rfl (L := [(0, .t (.agg [.lit (.int .i64 p0.Kind), .lit (.string ⟨⟨p0.User⟩⟩), .lit (.string ⟨⟨p0.Folder⟩⟩), .lit (.string ⟨⟨p0.Name⟩⟩), .lit (.string ⟨⟨p0.Other⟩⟩), .lit (.int .i64 p0.Role), .lit (.int .i64 p0.Version), .seq 1 (bytesD p0.Data)]))]) rfl ?_
  refine c_seq ?_
  refine c_region ?_
  refine o_s (.box [.d (.lit (.int .i64 p0.Kind)), .d (.lit (.string ⟨⟨p0.User⟩⟩)), .d (.lit (.string ⟨⟨p0.Folder⟩⟩)), .d (.lit (.string ⟨⟨p0.Name⟩⟩)), .d (.lit (.string ⟨⟨p0.Other⟩⟩)), .d (.lit (.int .i64 p0.Role)), .d (.lit (.int .i64 p0.Version)), .d (.seq 1 (bytesD p0.Data))]) (g0 rfl) rfl rfl rfl ?_
  refine o_s (.t (.d (.lit (.slice none 0 0)))) (g0 rfl) rfl rfl rfl ?_
  refine o_s (.t (.d (.lit (.int .i64 0)))) (g0 rfl) rfl rfl rfl ?_
  refine o_nil ?_
  repeat (first | refine then_normal ?_ | refine then_exit ?_ | refine then_ret ?_ | refine block_normal ?_ | refine block_ret ?_ | refine block_exit ?_ | refine block_pass rfl ?_)
  refine c_seq ?_
  refine c_seq ?_
  refine c_region ?_
  refine o_s (.t (.agg [.lit (.int .i64 p0.Kind), .lit (.string ⟨⟨p0.User⟩⟩), .lit (.string ⟨⟨p0.Folder⟩⟩), .lit (.string ⟨⟨p0.Name⟩⟩), .lit (.string ⟨⟨p0.Other⟩⟩), .lit (.int .i64 p0.Role), .lit (.int .i64 p0.Version), .seq 1 (bytesD p0.Data)])) (g0 rfl) rfl rfl rfl ?_
  obtain ⟨x1, h2, h⟩ := bind_some h
  refine o_ca (fc_call_May _ _ h2) (g0 rfl) rfl rfl rfl rfl rfl rfl rfl (.cons (.refl _) .nil) rfl rfl ?_
  refine o_s (.t (.d (.lit (.bool (!x1))))) (g0 rfl) rfl rfl rfl ?_
  refine o_nil ?_
  repeat (first | refine then_normal ?_ | refine then_exit ?_ | refine then_ret ?_ | refine block_normal ?_ | refine block_ret ?_ | refine block_exit ?_ | refine block_pass rfl ?_)
  rcases bif_some h with ⟨h3, h⟩ | ⟨h3, h⟩
  · refine c_t h3 rfl ?_
    refine c_seq ?_
    refine c_region ?_
    refine o_s (.t (.d (.lit (.slice none 0 0)))) (g0 rfl) rfl rfl rfl ?_
    refine o_s (.t (.d (.lit (.int .i64 13)))) (g0 rfl) rfl rfl rfl ?_
    refine o_nil ?_
    repeat (first | refine then_normal ?_ | refine then_exit ?_ | refine then_ret ?_ | refine block_normal ?_ | refine block_ret ?_ | refine block_exit ?_ | refine block_pass rfl ?_)
    refine c_ret ?_
    repeat (first | refine then_normal ?_ | refine then_exit ?_ | refine then_ret ?_ | refine block_normal ?_ | refine block_ret ?_ | refine block_exit ?_ | refine block_pass rfl ?_)
    obtain rfl := Option.some.inj h
    exact end0 rfl (.tup (.cons (.d (.nil _)) (.cons (.refl _) .nil)))
  · refine c_f h3 rfl ?_
    refine c_skip ?_
    repeat (first | refine then_normal ?_ | refine then_exit ?_ | refine then_ret ?_ | refine block_normal ?_ | refine block_ret ?_ | refine block_exit ?_ | refine block_pass rfl ?_)
    refine c_seq ?_
    refine c_draw mixed (by kernel_rfl) ?_
    refine d_s (.ref 1 0) rfl (dg0 rfl) rfl rfl rfl rfl ?_
    refine d_s (.t (.d (.lit (.int .i64 p0.Kind)))) rfl (dg0 rfl) rfl rfl rfl rfl ?_
    obtain ⟨x4, h5, h⟩ := bind_some h
    refine d_ca (fc_codec_Num _ _ h5) rfl (dg0 rfl) rfl rfl rfl rfl rfl rfl rfl rfl (.cons (.refl _) .nil) rfl rfl ?_
    refine d_s (.ref 1 1) rfl (dg0 rfl) rfl rfl rfl rfl ?_
    refine d_s (.t (.d (.lit (.string ⟨⟨p0.User⟩⟩)))) rfl (dg0 rfl) rfl rfl rfl rfl ?_
    obtain ⟨x6, h7, h⟩ := bind_some h
    refine d_ca (fc_call_word _ _ h7) rfl (dg0 rfl) rfl rfl rfl rfl rfl rfl rfl rfl (.cons (.refl _) .nil) rfl rfl ?_
    refine d_s (.ref 1 2) rfl (dg0 rfl) rfl rfl rfl rfl ?_
    refine d_s (.t (.d (.lit (.string ⟨⟨p0.Folder⟩⟩)))) rfl (dg0 rfl) rfl rfl rfl rfl ?_
    obtain ⟨x8, h9, h⟩ := bind_some h
    refine d_ca (fc_call_word _ _ h9) rfl (dg0 rfl) rfl rfl rfl rfl rfl rfl rfl rfl (.cons (.refl _) .nil) rfl rfl ?_
    refine d_s (.ref 1 3) rfl (dg0 rfl) rfl rfl rfl rfl ?_
    refine d_s (.t (.d (.lit (.string ⟨⟨p0.Name⟩⟩)))) rfl (dg0 rfl) rfl rfl rfl rfl ?_
    obtain ⟨x10, h11, h⟩ := bind_some h
    refine d_ca (fc_call_word _ _ h11) rfl (dg0 rfl) rfl rfl rfl rfl rfl rfl rfl rfl (.cons (.refl _) .nil) rfl rfl ?_
    refine d_s (.ref 1 4) rfl (dg0 rfl) rfl rfl rfl rfl ?_
    refine d_s (.t (.d (.lit (.string ⟨⟨p0.Other⟩⟩)))) rfl (dg0 rfl) rfl rfl rfl rfl ?_
    obtain ⟨x12, h13, h⟩ := bind_some h
    refine d_ca (fc_call_word _ _ h13) rfl (dg0 rfl) rfl rfl rfl rfl rfl rfl rfl rfl (.cons (.refl _) .nil) rfl rfl ?_
    refine d_s (.ref 1 5) rfl (dg0 rfl) rfl rfl rfl rfl ?_
    refine d_s (.t (.d (.lit (.int .i64 p0.Role)))) rfl (dg0 rfl) rfl rfl rfl rfl ?_
    obtain ⟨x14, h15, h⟩ := bind_some h
    refine d_ca (fc_codec_Num _ _ h15) rfl (dg0 rfl) rfl rfl rfl rfl rfl rfl rfl rfl (.cons (.refl _) .nil) rfl rfl ?_
    refine d_s (.ref 1 6) rfl (dg0 rfl) rfl rfl rfl rfl ?_
    refine d_s (.t (.d (.lit (.int .i64 p0.Version)))) rfl (dg0 rfl) rfl rfl rfl rfl ?_
    obtain ⟨x16, h17, h⟩ := bind_some h
    refine d_ca (fc_codec_Num _ _ h17) rfl (dg0 rfl) rfl rfl rfl rfl rfl rfl rfl rfl (.cons (.refl _) .nil) rfl rfl ?_
    refine d_s (.ref 1 7) rfl (dg0 rfl) rfl rfl rfl rfl ?_
    refine d_s (.t (.d (.seq 1 (bytesD p0.Data)))) rfl (dg0 rfl) rfl rfl rfl rfl ?_
    obtain ⟨x18, h19, h⟩ := bind_some h
    refine d_ca (fc_codec_Raw _ _ h19) rfl (dg0 rfl) rfl rfl rfl rfl rfl rfl rfl rfl (.cons (.refl _) .nil) rfl rfl ?_
    refine d_w (.t (.own 71 4 (List.map V.cells [(V.mk x4.k x4.n [] []), (V.mk x6.k x6.n x6.b []), (V.mk x8.k x8.n x8.b []), (V.mk x10.k x10.n x10.b []), (V.mk x12.k x12.n x12.b []), (V.mk x14.k x14.n [] []), (V.mk x16.k x16.n [] []), (V.mk x18.k x18.n x18.b [])]))) rfl (dg0 rfl) rfl rfl rfl rfl (.t (.rows _ _ (.cons (.cons (.refl _) (.cons (.refl _) (.cons (.nil _) (.cons (.nil _) .nil)))) (.cons (.cons (.refl _) (.cons (.refl _) (.cons (.refl _) (.cons (.nil _) .nil)))) (.cons (.cons (.refl _) (.cons (.refl _) (.cons (.refl _) (.cons (.nil _) .nil)))) (.cons (.cons (.refl _) (.cons (.refl _) (.cons (.refl _) (.cons (.nil _) .nil)))) (.cons (.cons (.refl _) (.cons (.refl _) (.cons (.refl _) (.cons (.nil _) .nil)))) (.cons (.cons (.refl _) (.cons (.refl _) (.cons (.nil _) (.cons (.nil _) .nil)))) (.cons (.cons (.refl _) (.cons (.refl _) (.cons (.nil _) (.cons (.nil _) .nil)))) (.cons (.cons (.refl _) (.cons (.refl _) (.cons (.refl _) (.cons (.nil _) .nil)))) .nil)))))))) (rowsE V.cells_eq [(V.mk x4.k x4.n [] []), (V.mk x6.k x6.n x6.b []), (V.mk x8.k x8.n x8.b []), (V.mk x10.k x10.n x10.b []), (V.mk x12.k x12.n x12.b []), (V.mk x14.k x14.n [] []), (V.mk x16.k x16.n [] []), (V.mk x18.k x18.n x18.b [])]))) (fun e => nomatch e) ?_
    obtain ⟨x20, h21, h⟩ := bind_some h
    refine d_ca (fc_codec_Of _ _ h21) rfl (dg0 rfl) rfl rfl rfl rfl rfl rfl rfl rfl (.cons (.refl _) .nil) rfl rfl ?_
    obtain ⟨x22, h23, h⟩ := bind_some h
    refine d_ca (fc_codec_Encode _ _ h23) rfl (dg0 rfl) rfl rfl rfl rfl rfl rfl rfl rfl (.cons (.t (.agg (.cons (.refl _) (.cons (.refl _) (.cons (.nil _) (.cons (.refl _) .nil)))))) .nil) rfl rfl ?_
    refine d_s (.t (.d (.seq 1 (bytesD x22.1)))) rfl (dg0 rfl) rfl rfl rfl rfl ?_
    refine d_s (.t (.d (.lit (.int .i64 x22.2)))) rfl (dg0 rfl) rfl rfl rfl rfl ?_
    refine d_s (.t (.d (.seq 1 (bytesD x22.1)))) rfl (dg0 rfl) rfl rfl rfl rfl ?_
    refine d_s (.t (.d (.lit (.int .i64 x22.2)))) rfl (dg0 rfl) rfl rfl rfl rfl ?_
    refine d_nil (by kernel_rfl) ?_
    repeat (first | refine then_normal ?_ | refine then_exit ?_ | refine then_ret ?_ | refine block_normal ?_ | refine block_ret ?_ | refine block_exit ?_ | refine block_pass rfl ?_)
    refine c_ret ?_
    repeat (first | refine then_normal ?_ | refine then_exit ?_ | refine then_ret ?_ | refine block_normal ?_ | refine block_ret ?_ | refine block_exit ?_ | refine block_pass rfl ?_)
    obtain rfl := Option.some.inj h
    exact end0 rfl (.tup (.cons (.refl _) (.cons (.refl _) .nil)))

theorem fc_R28_Of (p0 : (List V)) (r : V) (h : m_R28_Of p0 = some r) : FC Tryd.prog 46 [.t (.d (.seq 4 (List.map V.cells p0)))] [] (.t (.agg [.lit (.int .i64 r.k), .lit (.int .i64 r.n), .lit (.slice none 0 0), .seq 4 (List.map V.cells r.l)])) := by
  refine fc_mk (rs := [.cell 2 71]) (n := 5) Tryd.func46 rfl rfl (Nat.le_of_ble_eq_true rfl) rfl (pins := []) rfl (L := [(0, .t (.d (.seq 4 (List.map V.cells p0))))]) rfl ?_
  refine c_seq ?_
  refine c_region ?_
  refine o_s (.box [.d (.lit (.int .i64 0)), .d (.lit (.int .i64 0)), .d (.lit (.slice none 0 0)), .d (.lit (.slice none 0 0))]) (g0 rfl) rfl rfl rfl ?_
  refine o_nil ?_
  repeat (first | refine then_normal ?_ | refine then_exit ?_ | refine then_ret ?_ | refine block_normal ?_ | refine block_ret ?_ | refine block_exit ?_ | refine block_pass rfl ?_)
  refine c_seq ?_
  refine c_region ?_
  refine o_s (.t (.d (.seq 4 (List.map V.cells p0)))) (g0 rfl) rfl rfl rfl ?_
  refine o_s (.t (.agg [.lit (.int .i64 3), .lit (.int .i64 0), .lit (.slice none 0 0), .seq 4 (List.map V.cells p0)])) (g0 rfl) rfl rfl rfl ?_
  refine o_st (.box [.d (.lit (.int .i64 3)), .d (.lit (.int .i64 0)), .d (.lit (.slice none 0 0)), .d (.seq 4 (List.map V.cells p0))]) (g0 rfl) rfl rfl rfl ?_
  refine o_nil ?_
  repeat (first | refine then_normal ?_ | refine then_exit ?_ | refine then_ret ?_ | refine block_normal ?_ | refine block_ret ?_ | refine block_exit ?_ | refine block_pass rfl ?_)
  refine c_ret ?_
  repeat (first | refine then_normal ?_ | refine then_exit ?_ | refine then_ret ?_ | refine block_normal ?_ | refine block_ret ?_ | refine block_exit ?_ | refine block_pass rfl ?_)
  obtain rfl := Option.some.inj h
  exact end0 rfl (.refl _)

theorem fc_R28_Num (p0 : Int) (r : V) (h : m_R28_Num p0 = some r) : FC Tryd.prog 47 [.t (.d (.lit (.int .i64 p0)))] [] (.t (.agg [.lit (.int .i64 r.k), .lit (.int .i64 r.n), .lit (.slice none 0 0), .lit (.slice none 0 0)])) := by
  refine fc_mk (rs := [.cell 2 71]) (n := 5) Tryd.func47 rfl rfl (Nat.le_of_ble_eq_true rfl) rfl (pins := []) rfl (L := [(0, .t (.d (.lit (.int .i64 p0))))]) rfl ?_
  refine c_seq ?_
  refine c_region ?_
  refine o_s (.box [.d (.lit (.int .i64 0)), .d (.lit (.int .i64 0)), .d (.lit (.slice none 0 0)), .d (.lit (.slice none 0 0))]) (g0 rfl) rfl rfl rfl ?_
  refine o_nil ?_
  repeat (first | refine then_normal ?_ | refine then_exit ?_ | refine then_ret ?_ | refine block_normal ?_ | refine block_ret ?_ | refine block_exit ?_ | refine block_pass rfl ?_)
  refine c_seq ?_
  refine c_region ?_
  refine o_s (.t (.d (.lit (.int .i64 p0)))) (g0 rfl) rfl rfl rfl ?_
  refine o_s (.t (.agg [.lit (.int .i64 1), .lit (.int .i64 p0), .lit (.slice none 0 0), .lit (.slice none 0 0)])) (g0 rfl) rfl rfl rfl ?_
  refine o_st (.box [.d (.lit (.int .i64 1)), .d (.lit (.int .i64 p0)), .d (.lit (.slice none 0 0)), .d (.lit (.slice none 0 0))]) (g0 rfl) rfl rfl rfl ?_
  refine o_nil ?_
  repeat (first | refine then_normal ?_ | refine then_exit ?_ | refine then_ret ?_ | refine block_normal ?_ | refine block_ret ?_ | refine block_exit ?_ | refine block_pass rfl ?_)
  refine c_ret ?_
  repeat (first | refine then_normal ?_ | refine then_exit ?_ | refine then_ret ?_ | refine block_normal ?_ | refine block_ret ?_ | refine block_exit ?_ | refine block_pass rfl ?_)
  obtain rfl := Option.some.inj h
  exact end0 rfl (.refl _)

theorem fc_R28_Raw (p0 : (List UInt8)) (r : V) (h : m_R28_Raw p0 = some r) : FC Tryd.prog 48 [.t (.d (.seq 1 (bytesD p0)))] [] (.t (.agg [.lit (.int .i64 r.k), .lit (.int .i64 r.n), .seq 1 (bytesD r.b), .lit (.slice none 0 0)])) := by
  refine fc_mk (rs := [.cell 2 71]) (n := 5) Tryd.func48 rfl rfl (Nat.le_of_ble_eq_true rfl) rfl (pins := []) rfl (L := [(0, .t (.d (.seq 1 (bytesD p0))))]) rfl ?_
  refine c_seq ?_
  refine c_region ?_
  refine o_s (.box [.d (.lit (.int .i64 0)), .d (.lit (.int .i64 0)), .d (.lit (.slice none 0 0)), .d (.lit (.slice none 0 0))]) (g0 rfl) rfl rfl rfl ?_
  refine o_nil ?_
  repeat (first | refine then_normal ?_ | refine then_exit ?_ | refine then_ret ?_ | refine block_normal ?_ | refine block_ret ?_ | refine block_exit ?_ | refine block_pass rfl ?_)
  refine c_seq ?_
  refine c_region ?_
  refine o_s (.t (.d (.seq 1 (bytesD p0)))) (g0 rfl) rfl rfl rfl ?_
  refine o_s (.t (.agg [.lit (.int .i64 2), .lit (.int .i64 0), .seq 1 (bytesD p0), .lit (.slice none 0 0)])) (g0 rfl) rfl rfl rfl ?_
  refine o_st (.box [.d (.lit (.int .i64 2)), .d (.lit (.int .i64 0)), .d (.seq 1 (bytesD p0)), .d (.lit (.slice none 0 0))]) (g0 rfl) rfl rfl rfl ?_
  refine o_nil ?_
  repeat (first | refine then_normal ?_ | refine then_exit ?_ | refine then_ret ?_ | refine block_normal ?_ | refine block_ret ?_ | refine block_exit ?_ | refine block_pass rfl ?_)
  refine c_ret ?_
  repeat (first | refine then_normal ?_ | refine then_exit ?_ | refine then_ret ?_ | refine block_normal ?_ | refine block_ret ?_ | refine block_exit ?_ | refine block_pass rfl ?_)
  obtain rfl := Option.some.inj h
  exact end0 rfl (.refl _)

theorem fc_R30_Bytes (p0 : S_api_Call) (r : (List UInt8)) (h : m_R30_Bytes p0 = some r) : FC Tryd.prog 24 [.t (.agg [.lit (.int .i64 p0.Kind), .lit (.string ⟨⟨p0.User⟩⟩), .lit (.string ⟨⟨p0.Folder⟩⟩), .lit (.string ⟨⟨p0.Name⟩⟩), .lit (.string ⟨⟨p0.Other⟩⟩), .lit (.int .i64 p0.Role), .lit (.int .i64 p0.Version), .seq 1 (bytesD p0.Data)])] [] (.t (.own 5 1 (bytesD r))) := by
  refine fc_mk (rs := [.tmp 2]) (n := 34) Tryd.func24 rfl rfl (Nat.le_of_ble_eq_true rfl) rfl (pins := []) rfl (L := [(0, .t (.agg [.lit (.int .i64 p0.Kind), .lit (.string ⟨⟨p0.User⟩⟩), .lit (.string ⟨⟨p0.Folder⟩⟩), .lit (.string ⟨⟨p0.Name⟩⟩), .lit (.string ⟨⟨p0.Other⟩⟩), .lit (.int .i64 p0.Role), .lit (.int .i64 p0.Version), .seq 1 (bytesD p0.Data)]))]) rfl ?_
  refine c_seq ?_
  refine c_region ?_
  refine o_s (.box [.d (.lit (.int .i64 p0.Kind)), .d (.lit (.string ⟨⟨p0.User⟩⟩)), .d (.lit (.string ⟨⟨p0.Folder⟩⟩)), .d (.lit (.string ⟨⟨p0.Name⟩⟩)), .d (.lit (.string ⟨⟨p0.Other⟩⟩)), .d (.lit (.int .i64 p0.Role)), .d (.lit (.int .i64 p0.Version)), .d (.seq 1 (bytesD p0.Data))]) (g0 rfl) rfl rfl rfl ?_
  refine o_s (.t (.d (.lit (.slice none 0 0)))) (g0 rfl) rfl rfl rfl ?_
  refine o_nil ?_
  repeat (first | refine then_normal ?_ | refine then_exit ?_ | refine then_ret ?_ | refine block_normal ?_ | refine block_ret ?_ | refine block_exit ?_ | refine block_pass rfl ?_)
  refine c_seq ?_
  refine c_draw mixed (by kernel_rfl) ?_
  refine d_s (.ref 1 0) rfl (dg0 rfl) rfl rfl rfl rfl ?_
  refine d_s (.t (.d (.lit (.int .i64 p0.Kind)))) rfl (dg0 rfl) rfl rfl rfl rfl ?_
  obtain ⟨x1, h2, h⟩ := bind_some h
  refine d_ca (fc_R28_Num _ _ h2) rfl (dg0 rfl) rfl rfl rfl rfl rfl rfl rfl rfl (.cons (.refl _) .nil) rfl rfl ?_
  refine d_s (.ref 1 1) rfl (dg0 rfl) rfl rfl rfl rfl ?_
  refine d_s (.t (.d (.lit (.string ⟨⟨p0.User⟩⟩)))) rfl (dg0 rfl) rfl rfl rfl rfl ?_
  obtain ⟨x3, h4, h⟩ := bind_some h
  refine d_c rfl (dg0 rfl) rfl rfl rfl rfl (strBE h4) (strBC h4) ?_
  obtain ⟨x5, h6, h⟩ := bind_some h
  refine d_ca (fc_R28_Raw _ _ h6) rfl (dg0 rfl) rfl rfl rfl rfl rfl rfl rfl rfl (.cons (.refl _) .nil) rfl rfl ?_
  refine d_s (.ref 1 2) rfl (dg0 rfl) rfl rfl rfl rfl ?_
  refine d_s (.t (.d (.lit (.string ⟨⟨p0.Folder⟩⟩)))) rfl (dg0 rfl) rfl rfl rfl rfl ?_
  obtain ⟨x7, h8, h⟩ := bind_some h
  refine d_c rfl (dg0 rfl) rfl rfl rfl rfl (strBE h8) (strBC h8) ?_
  obtain ⟨x9, h10, h⟩ := bind_some h
  refine d_ca (fc_R28_Raw _ _ h10) rfl (dg0 rfl) rfl rfl rfl rfl rfl rfl rfl rfl (.cons (.refl _) .nil) rfl rfl ?_
  refine d_s (.ref 1 3) rfl (dg0 rfl) rfl rfl rfl rfl ?_
  refine d_s (.t (.d (.lit (.string ⟨⟨p0.Name⟩⟩)))) rfl (dg0 rfl) rfl rfl rfl rfl ?_
  obtain ⟨x11, h12, h⟩ := bind_some h
  refine d_c rfl (dg0 rfl) rfl rfl rfl rfl (strBE h12) (strBC h12) ?_
  obtain ⟨x13, h14, h⟩ := bind_some h
  refine d_ca (fc_R28_Raw _ _ h14) rfl (dg0 rfl) rfl rfl rfl rfl rfl rfl rfl rfl (.cons (.refl _) .nil) rfl rfl ?_
  refine d_s (.ref 1 4) rfl (dg0 rfl) rfl rfl rfl rfl ?_
  refine d_s (.t (.d (.lit (.string ⟨⟨p0.Other⟩⟩)))) rfl (dg0 rfl) rfl rfl rfl rfl ?_
  obtain ⟨x15, h16, h⟩ := bind_some h
  refine d_c rfl (dg0 rfl) rfl rfl rfl rfl (strBE h16) (strBC h16) ?_
  obtain ⟨x17, h18, h⟩ := bind_some h
  refine d_ca (fc_R28_Raw _ _ h18) rfl (dg0 rfl) rfl rfl rfl rfl rfl rfl rfl rfl (.cons (.refl _) .nil) rfl rfl ?_
  refine d_s (.ref 1 5) rfl (dg0 rfl) rfl rfl rfl rfl ?_
  refine d_s (.t (.d (.lit (.int .i64 p0.Role)))) rfl (dg0 rfl) rfl rfl rfl rfl ?_
  obtain ⟨x19, h20, h⟩ := bind_some h
  refine d_ca (fc_R28_Num _ _ h20) rfl (dg0 rfl) rfl rfl rfl rfl rfl rfl rfl rfl (.cons (.refl _) .nil) rfl rfl ?_
  refine d_s (.ref 1 6) rfl (dg0 rfl) rfl rfl rfl rfl ?_
  refine d_s (.t (.d (.lit (.int .i64 p0.Version)))) rfl (dg0 rfl) rfl rfl rfl rfl ?_
  obtain ⟨x21, h22, h⟩ := bind_some h
  refine d_ca (fc_R28_Num _ _ h22) rfl (dg0 rfl) rfl rfl rfl rfl rfl rfl rfl rfl (.cons (.refl _) .nil) rfl rfl ?_
  refine d_s (.ref 1 7) rfl (dg0 rfl) rfl rfl rfl rfl ?_
  refine d_s (.t (.d (.seq 1 (bytesD p0.Data)))) rfl (dg0 rfl) rfl rfl rfl rfl ?_
  obtain ⟨x23, h24, h⟩ := bind_some h
  refine d_ca (fc_R28_Raw _ _ h24) rfl (dg0 rfl) rfl rfl rfl rfl rfl rfl rfl rfl (.cons (.refl _) .nil) rfl rfl ?_
  refine d_w (.t (.own 71 4 (List.map V.cells [(V.mk x1.k x1.n [] []), (V.mk x5.k x5.n x5.b []), (V.mk x9.k x9.n x9.b []), (V.mk x13.k x13.n x13.b []), (V.mk x17.k x17.n x17.b []), (V.mk x19.k x19.n [] []), (V.mk x21.k x21.n [] []), (V.mk x23.k x23.n x23.b [])]))) rfl (dg0 rfl) rfl rfl rfl rfl (.t (.rows _ _ (.cons (.cons (.refl _) (.cons (.refl _) (.cons (.nil _) (.cons (.nil _) .nil)))) (.cons (.cons (.refl _) (.cons (.refl _) (.cons (.refl _) (.cons (.nil _) .nil)))) (.cons (.cons (.refl _) (.cons (.refl _) (.cons (.refl _) (.cons (.nil _) .nil)))) (.cons (.cons (.refl _) (.cons (.refl _) (.cons (.refl _) (.cons (.nil _) .nil)))) (.cons (.cons (.refl _) (.cons (.refl _) (.cons (.refl _) (.cons (.nil _) .nil)))) (.cons (.cons (.refl _) (.cons (.refl _) (.cons (.nil _) (.cons (.nil _) .nil)))) (.cons (.cons (.refl _) (.cons (.refl _) (.cons (.nil _) (.cons (.nil _) .nil)))) (.cons (.cons (.refl _) (.cons (.refl _) (.cons (.refl _) (.cons (.nil _) .nil)))) .nil)))))))) (rowsE V.cells_eq [(V.mk x1.k x1.n [] []), (V.mk x5.k x5.n x5.b []), (V.mk x9.k x9.n x9.b []), (V.mk x13.k x13.n x13.b []), (V.mk x17.k x17.n x17.b []), (V.mk x19.k x19.n [] []), (V.mk x21.k x21.n [] []), (V.mk x23.k x23.n x23.b [])]))) (fun e => nomatch e) ?_
  obtain ⟨x25, h26, h⟩ := bind_some h
  refine d_ca (fc_R28_Of _ _ h26) rfl (dg0 rfl) rfl rfl rfl rfl rfl rfl rfl rfl (.cons (.refl _) .nil) rfl rfl ?_
  obtain ⟨x27, h28, h⟩ := bind_some h
  refine d_ca (fc_R02_Bytes _ _ _ h28) rfl (dg0 rfl) rfl rfl rfl rfl rfl rfl rfl rfl (.cons (.t (.agg (.cons (.refl _) (.cons (.refl _) (.cons (.nil _) (.cons (.refl _) .nil)))))) .nil) rfl rfl ?_
  refine d_2 (.t (.d (.seq 1 (bytesD x27)))) (.t (.own 5 1 (bytesD x27))) rfl (dg0 rfl) rfl rfl rfl rfl rfl ?_
  refine d_nil (by kernel_rfl) ?_
  repeat (first | refine then_normal ?_ | refine then_exit ?_ | refine then_ret ?_ | refine block_normal ?_ | refine block_ret ?_ | refine block_exit ?_ | refine block_pass rfl ?_)
  refine c_ret ?_
  repeat (first | refine then_normal ?_ | refine then_exit ?_ | refine then_ret ?_ | refine block_normal ?_ | refine block_ret ?_ | refine block_exit ?_ | refine block_pass rfl ?_)
  obtain rfl := Option.some.inj h
  exact end0 rfl (.refl _)

theorem fc_L30_awake (r : Bool) (h : m_L30_awake = some r) : FC Tryd.prog 7 [] [] (.t (.d (.lit (.bool r)))) := by
  refine fc_mk (rs := [.tmp 0]) (n := 30) Tryd.func7 rfl rfl (Nat.le_of_ble_eq_true rfl) rfl (pins := []) rfl (L := []) rfl ?_
  refine c_seq ?_
  refine c_region ?_
  refine o_s (.t (.d (.lit (.bool false)))) (g0 rfl) rfl rfl rfl ?_
  refine o_nil ?_
  repeat (first | refine then_normal ?_ | refine then_exit ?_ | refine then_ret ?_ | refine block_normal ?_ | refine block_ret ?_ | refine block_exit ?_ | refine block_pass rfl ?_)
  refine c_seq ?_
  refine c_region ?_
  refine o_s (.t (.agg [.lit (.int .i64 10), .lit (.string ⟨⟨[97]⟩⟩), .lit (.string ⟨⟨[102]⟩⟩), .lit (.string ⟨⟨[]⟩⟩), .lit (.string ⟨⟨[]⟩⟩), .lit (.int .i64 0), .lit (.int .i64 0), .lit (.slice none 0 0)])) (g0 rfl) rfl rfl rfl ?_
  refine o_s (.box [.d (.lit (.int .i64 0)), .d (.lit (.string ⟨⟨[]⟩⟩)), .d (.lit (.string ⟨⟨[]⟩⟩)), .d (.lit (.string ⟨⟨[]⟩⟩)), .d (.lit (.string ⟨⟨[]⟩⟩)), .d (.lit (.int .i64 0)), .d (.lit (.int .i64 0)), .d (.lit (.slice none 0 0))]) (g0 rfl) rfl rfl rfl ?_
  refine o_st (.box [.d (.lit (.int .i64 10)), .d (.lit (.string ⟨⟨[97]⟩⟩)), .d (.lit (.string ⟨⟨[102]⟩⟩)), .d (.lit (.string ⟨⟨[]⟩⟩)), .d (.lit (.string ⟨⟨[]⟩⟩)), .d (.lit (.int .i64 0)), .d (.lit (.int .i64 0)), .d (.lit (.slice none 0 0))]) (g0 rfl) rfl rfl rfl ?_
  refine o_nil ?_
  repeat (first | refine then_normal ?_ | refine then_exit ?_ | refine then_ret ?_ | refine block_normal ?_ | refine block_ret ?_ | refine block_exit ?_ | refine block_pass rfl ?_)
  refine c_seq ?_
  refine c_region ?_
  refine o_s (.t (.agg [.lit (.int .i64 10), .lit (.string ⟨⟨[97]⟩⟩), .lit (.string ⟨⟨[102]⟩⟩), .lit (.string ⟨⟨[]⟩⟩), .lit (.string ⟨⟨[]⟩⟩), .lit (.int .i64 0), .lit (.int .i64 0), .lit (.slice none 0 0)])) (g0 rfl) rfl rfl rfl ?_
  obtain ⟨x1, h2, h⟩ := bind_some h
  refine o_ca (fc_call_Write _ _ h2) (g0 rfl) rfl rfl rfl rfl rfl rfl rfl (.cons (.t (.agg (.cons (.refl _) (.cons (.refl _) (.cons (.refl _) (.cons (.refl _) (.cons (.refl _) (.cons (.refl _) (.cons (.refl _) (.cons (.nil _) .nil)))))))))) .nil) rfl rfl ?_
  refine o_s (.tup [.d (.seq 1 (bytesD x1.1)), .d (.lit (.int .i64 x1.2))]) (g0 rfl) rfl rfl rfl ?_
  refine o_s (.t (.d (.seq 1 (bytesD x1.1)))) (g0 rfl) rfl rfl rfl ?_
  refine o_s (.t (.d (.lit (.int .i64 x1.2)))) (g0 rfl) rfl rfl rfl ?_
  refine o_s (.t (.d (.seq 1 (bytesD x1.1)))) (g0 rfl) rfl rfl rfl ?_
  refine o_s (.t (.d (.lit (.int .i64 x1.2)))) (g0 rfl) rfl rfl rfl ?_
  refine o_nil ?_
  repeat (first | refine then_normal ?_ | refine then_exit ?_ | refine then_ret ?_ | refine block_normal ?_ | refine block_ret ?_ | refine block_exit ?_ | refine block_pass rfl ?_)
  refine c_seq ?_
  refine c_region ?_
  refine o_s (.t (.agg [.lit (.int .i64 10), .lit (.string ⟨⟨[97]⟩⟩), .lit (.string ⟨⟨[102]⟩⟩), .lit (.string ⟨⟨[]⟩⟩), .lit (.string ⟨⟨[]⟩⟩), .lit (.int .i64 0), .lit (.int .i64 0), .lit (.slice none 0 0)])) (g0 rfl) rfl rfl rfl ?_
  refine o_s (.box [.d (.lit (.int .i64 0)), .d (.lit (.string ⟨⟨[]⟩⟩)), .d (.lit (.string ⟨⟨[]⟩⟩)), .d (.lit (.string ⟨⟨[]⟩⟩)), .d (.lit (.string ⟨⟨[]⟩⟩)), .d (.lit (.int .i64 0)), .d (.lit (.int .i64 0)), .d (.lit (.slice none 0 0))]) (g0 rfl) rfl rfl rfl ?_
  refine o_st (.box [.d (.lit (.int .i64 10)), .d (.lit (.string ⟨⟨[97]⟩⟩)), .d (.lit (.string ⟨⟨[102]⟩⟩)), .d (.lit (.string ⟨⟨[]⟩⟩)), .d (.lit (.string ⟨⟨[]⟩⟩)), .d (.lit (.int .i64 0)), .d (.lit (.int .i64 0)), .d (.lit (.slice none 0 0))]) (g0 rfl) rfl rfl rfl ?_
  refine o_nil ?_
  repeat (first | refine then_normal ?_ | refine then_exit ?_ | refine then_ret ?_ | refine block_normal ?_ | refine block_ret ?_ | refine block_exit ?_ | refine block_pass rfl ?_)
  refine c_seq ?_
  refine c_region ?_
  refine o_s (.ref 4 3) (g0 rfl) rfl rfl rfl ?_
  refine o_st (.box [.d (.lit (.int .i64 10)), .d (.lit (.string ⟨⟨[97]⟩⟩)), .d (.lit (.string ⟨⟨[102]⟩⟩)), .d (.lit (.string ⟨⟨[110]⟩⟩)), .d (.lit (.string ⟨⟨[]⟩⟩)), .d (.lit (.int .i64 0)), .d (.lit (.int .i64 0)), .d (.lit (.slice none 0 0))]) (g0 rfl) rfl rfl rfl ?_
  refine o_nil ?_
  repeat (first | refine then_normal ?_ | refine then_exit ?_ | refine then_ret ?_ | refine block_normal ?_ | refine block_ret ?_ | refine block_exit ?_ | refine block_pass rfl ?_)
  refine c_seq ?_
  refine c_region ?_
  refine o_s (.t (.agg [.lit (.int .i64 10), .lit (.string ⟨⟨[97]⟩⟩), .lit (.string ⟨⟨[102]⟩⟩), .lit (.string ⟨⟨[]⟩⟩), .lit (.string ⟨⟨[]⟩⟩), .lit (.int .i64 0), .lit (.int .i64 0), .lit (.slice none 0 0)])) (g0 rfl) rfl rfl rfl ?_
  obtain ⟨x3, h4, h⟩ := bind_some h
  refine o_ca (fc_call_May _ _ h4) (g0 rfl) rfl rfl rfl rfl rfl rfl rfl (.cons (.t (.agg (.cons (.refl _) (.cons (.refl _) (.cons (.refl _) (.cons (.refl _) (.cons (.refl _) (.cons (.refl _) (.cons (.refl _) (.cons (.nil _) .nil)))))))))) .nil) rfl rfl ?_
  refine o_s (.t (.d (.lit (.bool x3)))) (g0 rfl) rfl rfl rfl ?_
  rcases bif_some h with ⟨h5, h⟩ | ⟨h5, h⟩
  · refine o_s (.t (.agg [.lit (.int .i64 10), .lit (.string ⟨⟨[97]⟩⟩), .lit (.string ⟨⟨[102]⟩⟩), .lit (.string ⟨⟨[110]⟩⟩), .lit (.string ⟨⟨[]⟩⟩), .lit (.int .i64 0), .lit (.int .i64 0), .lit (.slice none 0 0)])) (gy rfl rfl rfl h5) rfl rfl rfl ?_
    obtain ⟨x6, h7, h⟩ := bind_some h
    refine o_ca (fc_call_May _ _ h7) (gy rfl rfl rfl h5) rfl rfl rfl rfl rfl rfl rfl (.cons (.t (.agg (.cons (.refl _) (.cons (.refl _) (.cons (.refl _) (.cons (.refl _) (.cons (.refl _) (.cons (.refl _) (.cons (.refl _) (.cons (.nil _) .nil)))))))))) .nil) rfl rfl ?_
    refine o_s (.t (.d (.lit (.bool (!x6))))) (gy rfl rfl rfl h5) rfl rfl rfl ?_
    refine o_pk (.t (.d (.lit (.bool (!x6))))) (b := true) h5 (g0 rfl) rfl rfl rfl rfl rfl ?_
    refine o_s (.t (.d (.lit (.bool (!x6))))) (g0 rfl) rfl rfl rfl ?_
    rcases bif_some h with ⟨h8, h⟩ | ⟨h8, h⟩
    · refine o_s (.t (.d (.lit (.int .i64 x1.2)))) (gy rfl rfl rfl h8) rfl rfl rfl ?_
      refine o_s (.t (.d (.lit (.bool (x1.2 == 0))))) (gy rfl rfl rfl h8) rfl rfl rfl ?_
      refine o_pk (.t (.d (.lit (.bool (x1.2 == 0))))) (b := true) h8 (g0 rfl) rfl rfl rfl rfl rfl ?_
      refine o_s (.t (.d (.lit (.bool (x1.2 == 0))))) (g0 rfl) rfl rfl rfl ?_
      rcases bif_some h with ⟨h9, h⟩ | ⟨h9, h⟩
      · refine o_s (.t (.d (.seq 1 (bytesD x1.1)))) (gy rfl rfl rfl h9) rfl rfl rfl ?_
        refine o_s (.t (.agg [.lit (.int .i64 10), .lit (.string ⟨⟨[97]⟩⟩), .lit (.string ⟨⟨[102]⟩⟩), .lit (.string ⟨⟨[]⟩⟩), .lit (.string ⟨⟨[]⟩⟩), .lit (.int .i64 0), .lit (.int .i64 0), .lit (.slice none 0 0)])) (gy rfl rfl rfl h9) rfl rfl rfl ?_
        obtain ⟨x10, h11, h⟩ := bind_some h
        refine o_ca (fc_R30_Bytes _ _ h11) (gy rfl rfl rfl h9) rfl rfl rfl rfl rfl rfl rfl (.cons (.t (.agg (.cons (.refl _) (.cons (.refl _) (.cons (.refl _) (.cons (.refl _) (.cons (.refl _) (.cons (.refl _) (.cons (.refl _) (.cons (.nil _) .nil)))))))))) .nil) rfl rfl ?_
        obtain ⟨x12, h13, h⟩ := bind_some h
        refine o_ca (fc_R01_Same _ _ _ h13) (gy rfl rfl rfl h9) rfl rfl rfl rfl rfl rfl rfl (.cons (.refl _) (.cons (.refl _) .nil)) rfl rfl ?_
        refine o_pk (.t (.d (.lit (.bool x12)))) (b := true) h9 (g0 rfl) rfl rfl rfl rfl rfl ?_
        refine o_s (.t (.d (.lit (.bool x12)))) (g0 rfl) rfl rfl rfl ?_
        refine o_nil ?_
        repeat (first | refine then_normal ?_ | refine then_exit ?_ | refine then_ret ?_ | refine block_normal ?_ | refine block_ret ?_ | refine block_exit ?_ | refine block_pass rfl ?_)
        refine c_ret ?_
        repeat (first | refine then_normal ?_ | refine then_exit ?_ | refine then_ret ?_ | refine block_normal ?_ | refine block_ret ?_ | refine block_exit ?_ | refine block_pass rfl ?_)
        obtain rfl := Option.some.inj h
        exact end0 rfl (.refl _)
      · refine o_skip rfl rfl rfl h9 rfl rfl ?_
        refine o_skip rfl rfl rfl h9 rfl rfl ?_
        refine o_skip rfl rfl rfl h9 rfl rfl ?_
        refine o_skip rfl rfl rfl h9 rfl rfl ?_
        refine o_pk (.t (.d (.lit (.bool false)))) (b := false) h9 (g0 rfl) rfl rfl rfl rfl rfl ?_
        refine o_s (.t (.d (.lit (.bool false)))) (g0 rfl) rfl rfl rfl ?_
        refine o_nil ?_
        repeat (first | refine then_normal ?_ | refine then_exit ?_ | refine then_ret ?_ | refine block_normal ?_ | refine block_ret ?_ | refine block_exit ?_ | refine block_pass rfl ?_)
        refine c_ret ?_
        repeat (first | refine then_normal ?_ | refine then_exit ?_ | refine then_ret ?_ | refine block_normal ?_ | refine block_ret ?_ | refine block_exit ?_ | refine block_pass rfl ?_)
        obtain rfl := Option.some.inj h
        exact end0 rfl (.refl _)
    · refine o_skip rfl rfl rfl h8 rfl rfl ?_
      refine o_skip rfl rfl rfl h8 rfl rfl ?_
      refine o_pk (.t (.d (.lit (.bool false)))) (b := false) h8 (g0 rfl) rfl rfl rfl rfl rfl ?_
      refine o_s (.t (.d (.lit (.bool false)))) (g0 rfl) rfl rfl rfl ?_
      refine o_skip rfl rfl rfl rfl rfl rfl ?_
      refine o_skip rfl rfl rfl rfl rfl rfl ?_
      refine o_skip rfl rfl rfl rfl rfl rfl ?_
      refine o_skip rfl rfl rfl rfl rfl rfl ?_
      refine o_pk (.t (.d (.lit (.bool false)))) (b := false) rfl (g0 rfl) rfl rfl rfl rfl rfl ?_
      refine o_s (.t (.d (.lit (.bool false)))) (g0 rfl) rfl rfl rfl ?_
      refine o_nil ?_
      repeat (first | refine then_normal ?_ | refine then_exit ?_ | refine then_ret ?_ | refine block_normal ?_ | refine block_ret ?_ | refine block_exit ?_ | refine block_pass rfl ?_)
      refine c_ret ?_
      repeat (first | refine then_normal ?_ | refine then_exit ?_ | refine then_ret ?_ | refine block_normal ?_ | refine block_ret ?_ | refine block_exit ?_ | refine block_pass rfl ?_)
      obtain rfl := Option.some.inj h
      exact end0 rfl (.refl _)
  · refine o_skip rfl rfl rfl h5 rfl rfl ?_
    refine o_skip rfl rfl rfl h5 rfl rfl ?_
    refine o_skip rfl rfl rfl h5 rfl rfl ?_
    refine o_pk (.t (.d (.lit (.bool false)))) (b := false) h5 (g0 rfl) rfl rfl rfl rfl rfl ?_
    refine o_s (.t (.d (.lit (.bool false)))) (g0 rfl) rfl rfl rfl ?_
    refine o_skip rfl rfl rfl rfl rfl rfl ?_
    refine o_skip rfl rfl rfl rfl rfl rfl ?_
    refine o_pk (.t (.d (.lit (.bool false)))) (b := false) rfl (g0 rfl) rfl rfl rfl rfl rfl ?_
    refine o_s (.t (.d (.lit (.bool false)))) (g0 rfl) rfl rfl rfl ?_
    refine o_skip rfl rfl rfl rfl rfl rfl ?_
    refine o_skip rfl rfl rfl rfl rfl rfl ?_
    refine o_skip rfl rfl rfl rfl rfl rfl ?_
    refine o_skip rfl rfl rfl rfl rfl rfl ?_
    refine o_pk (.t (.d (.lit (.bool false)))) (b := false) rfl (g0 rfl) rfl rfl rfl rfl rfl ?_
    refine o_s (.t (.d (.lit (.bool false)))) (g0 rfl) rfl rfl rfl ?_
    refine o_nil ?_
    repeat (first | refine then_normal ?_ | refine then_exit ?_ | refine then_ret ?_ | refine block_normal ?_ | refine block_ret ?_ | refine block_exit ?_ | refine block_pass rfl ?_)
    refine c_ret ?_
    repeat (first | refine then_normal ?_ | refine then_exit ?_ | refine then_ret ?_ | refine block_normal ?_ | refine block_ret ?_ | refine block_exit ?_ | refine block_pass rfl ?_)
    obtain rfl := Option.some.inj h
    exact end0 rfl (.refl _)

theorem fc_L30_Few (p0 : S_api_Call) (r : Bool) (h : m_L30_Few p0 = some r) : FC Tryd.prog 8 [.t (.agg [.lit (.int .i64 p0.Kind), .lit (.string ⟨⟨p0.User⟩⟩), .lit (.string ⟨⟨p0.Folder⟩⟩), .lit (.string ⟨⟨p0.Name⟩⟩), .lit (.string ⟨⟨p0.Other⟩⟩), .lit (.int .i64 p0.Role), .lit (.int .i64 p0.Version), .seq 1 (bytesD p0.Data)])] [] (.t (.d (.lit (.bool r)))) := by
  refine fc_mk (rs := [.tmp 2]) (n := 31) Tryd.func8 rfl rfl (Nat.le_of_ble_eq_true rfl) rfl (pins := []) rfl (L := [(0, .t (.agg [.lit (.int .i64 p0.Kind), .lit (.string ⟨⟨p0.User⟩⟩), .lit (.string ⟨⟨p0.Folder⟩⟩), .lit (.string ⟨⟨p0.Name⟩⟩), .lit (.string ⟨⟨p0.Other⟩⟩), .lit (.int .i64 p0.Role), .lit (.int .i64 p0.Version), .seq 1 (bytesD p0.Data)]))]) rfl ?_
  refine c_seq ?_
  refine c_region ?_
  refine o_s (.box [.d (.lit (.int .i64 p0.Kind)), .d (.lit (.string ⟨⟨p0.User⟩⟩)), .d (.lit (.string ⟨⟨p0.Folder⟩⟩)), .d (.lit (.string ⟨⟨p0.Name⟩⟩)), .d (.lit (.string ⟨⟨p0.Other⟩⟩)), .d (.lit (.int .i64 p0.Role)), .d (.lit (.int .i64 p0.Version)), .d (.seq 1 (bytesD p0.Data))]) (g0 rfl) rfl rfl rfl ?_
  refine o_s (.t (.d (.lit (.bool false)))) (g0 rfl) rfl rfl rfl ?_
  refine o_nil ?_
  repeat (first | refine then_normal ?_ | refine then_exit ?_ | refine then_ret ?_ | refine block_normal ?_ | refine block_ret ?_ | refine block_exit ?_ | refine block_pass rfl ?_)
  refine c_seq ?_
  refine c_region ?_
  refine o_s (.ref 1 1) (g0 rfl) rfl rfl rfl ?_
  refine o_s (.t (.d (.lit (.string ⟨⟨p0.User⟩⟩)))) (g0 rfl) rfl rfl rfl ?_
  refine o_s (.t (.d (.lit (.int .i64 (p0.User.length : Int))))) (g0 rfl) rfl rfl rfl ?_
  refine o_s (.t (.d (.lit (.bool (decide ((p0.User.length : Int) ≤ 20)))))) (g0 rfl) rfl rfl rfl ?_
  refine o_s (.t (.d (.lit (.bool (decide ((p0.User.length : Int) ≤ 20)))))) (g0 rfl) rfl rfl rfl ?_
  rcases bif_some h with ⟨h1, h⟩ | ⟨h1, h⟩
  · refine o_s (.ref 1 2) (gy rfl rfl rfl h1) rfl rfl rfl ?_
    refine o_s (.t (.d (.lit (.string ⟨⟨p0.Folder⟩⟩)))) (gy rfl rfl rfl h1) rfl rfl rfl ?_
    refine o_s (.t (.d (.lit (.int .i64 (p0.Folder.length : Int))))) (gy rfl rfl rfl h1) rfl rfl rfl ?_
    refine o_s (.t (.d (.lit (.bool (decide ((p0.Folder.length : Int) ≤ 20)))))) (gy rfl rfl rfl h1) rfl rfl rfl ?_
    refine o_pk (.t (.d (.lit (.bool (decide ((p0.Folder.length : Int) ≤ 20)))))) (b := true) h1 (g0 rfl) rfl rfl rfl rfl rfl ?_
    refine o_s (.t (.d (.lit (.bool (decide ((p0.Folder.length : Int) ≤ 20)))))) (g0 rfl) rfl rfl rfl ?_
    rcases bif_some h with ⟨h2, h⟩ | ⟨h2, h⟩
    · refine o_s (.ref 1 3) (gy rfl rfl rfl h2) rfl rfl rfl ?_
      refine o_s (.t (.d (.lit (.string ⟨⟨p0.Name⟩⟩)))) (gy rfl rfl rfl h2) rfl rfl rfl ?_
      refine o_s (.t (.d (.lit (.int .i64 (p0.Name.length : Int))))) (gy rfl rfl rfl h2) rfl rfl rfl ?_
      refine o_s (.t (.d (.lit (.bool (decide ((p0.Name.length : Int) ≤ 20)))))) (gy rfl rfl rfl h2) rfl rfl rfl ?_
      refine o_pk (.t (.d (.lit (.bool (decide ((p0.Name.length : Int) ≤ 20)))))) (b := true) h2 (g0 rfl) rfl rfl rfl rfl rfl ?_
      refine o_s (.t (.d (.lit (.bool (decide ((p0.Name.length : Int) ≤ 20)))))) (g0 rfl) rfl rfl rfl ?_
      rcases bif_some h with ⟨h3, h⟩ | ⟨h3, h⟩
      · refine o_s (.ref 1 4) (gy rfl rfl rfl h3) rfl rfl rfl ?_
        refine o_s (.t (.d (.lit (.string ⟨⟨p0.Other⟩⟩)))) (gy rfl rfl rfl h3) rfl rfl rfl ?_
        refine o_s (.t (.d (.lit (.int .i64 (p0.Other.length : Int))))) (gy rfl rfl rfl h3) rfl rfl rfl ?_
        refine o_s (.t (.d (.lit (.bool (decide ((p0.Other.length : Int) ≤ 20)))))) (gy rfl rfl rfl h3) rfl rfl rfl ?_
        refine o_pk (.t (.d (.lit (.bool (decide ((p0.Other.length : Int) ≤ 20)))))) (b := true) h3 (g0 rfl) rfl rfl rfl rfl rfl ?_
        refine o_s (.t (.d (.lit (.bool (decide ((p0.Other.length : Int) ≤ 20)))))) (g0 rfl) rfl rfl rfl ?_
        rcases bif_some h with ⟨h4, h⟩ | ⟨h4, h⟩
        · refine o_s (.ref 1 7) (gy rfl rfl rfl h4) rfl rfl rfl ?_
          refine o_s (.t (.d (.seq 1 (bytesD p0.Data)))) (gy rfl rfl rfl h4) rfl rfl rfl ?_
          refine o_c (gy rfl rfl rfl h4) rfl rfl rfl (lenE _ _) trivial ?_
          refine o_s (.t (.d (.lit (.bool (decide ((p0.Data.length : Int) ≤ 600)))))) (gy rfl rfl rfl h4) rfl rfl rfl ?_
          refine o_pk (.t (.d (.lit (.bool (decide ((p0.Data.length : Int) ≤ 600)))))) (b := true) h4 (g0 rfl) rfl rfl rfl rfl rfl ?_
          refine o_s (.t (.d (.lit (.bool (decide ((p0.Data.length : Int) ≤ 600)))))) (g0 rfl) rfl rfl rfl ?_
          refine o_nil ?_
          repeat (first | refine then_normal ?_ | refine then_exit ?_ | refine then_ret ?_ | refine block_normal ?_ | refine block_ret ?_ | refine block_exit ?_ | refine block_pass rfl ?_)
          refine c_ret ?_
          repeat (first | refine then_normal ?_ | refine then_exit ?_ | refine then_ret ?_ | refine block_normal ?_ | refine block_ret ?_ | refine block_exit ?_ | refine block_pass rfl ?_)
          obtain rfl := Option.some.inj h
          exact end0 rfl (.refl _)
        · refine o_skip rfl rfl rfl h4 rfl rfl ?_
          refine o_skip rfl rfl rfl h4 rfl rfl ?_
          refine o_skip rfl rfl rfl h4 rfl rfl ?_
          refine o_skip rfl rfl rfl h4 rfl rfl ?_
          refine o_pk (.t (.d (.lit (.bool false)))) (b := false) h4 (g0 rfl) rfl rfl rfl rfl rfl ?_
          refine o_s (.t (.d (.lit (.bool false)))) (g0 rfl) rfl rfl rfl ?_
          refine o_nil ?_
          repeat (first | refine then_normal ?_ | refine then_exit ?_ | refine then_ret ?_ | refine block_normal ?_ | refine block_ret ?_ | refine block_exit ?_ | refine block_pass rfl ?_)
          refine c_ret ?_
          repeat (first | refine then_normal ?_ | refine then_exit ?_ | refine then_ret ?_ | refine block_normal ?_ | refine block_ret ?_ | refine block_exit ?_ | refine block_pass rfl ?_)
          obtain rfl := Option.some.inj h
          exact end0 rfl (.refl _)
      · refine o_skip rfl rfl rfl h3 rfl rfl ?_
        refine o_skip rfl rfl rfl h3 rfl rfl ?_
        refine o_skip rfl rfl rfl h3 rfl rfl ?_
        refine o_skip rfl rfl rfl h3 rfl rfl ?_
        refine o_pk (.t (.d (.lit (.bool false)))) (b := false) h3 (g0 rfl) rfl rfl rfl rfl rfl ?_
        refine o_s (.t (.d (.lit (.bool false)))) (g0 rfl) rfl rfl rfl ?_
        refine o_skip rfl rfl rfl rfl rfl rfl ?_
        refine o_skip rfl rfl rfl rfl rfl rfl ?_
        refine o_skip rfl rfl rfl rfl rfl rfl ?_
        refine o_skip rfl rfl rfl rfl rfl rfl ?_
        refine o_pk (.t (.d (.lit (.bool false)))) (b := false) rfl (g0 rfl) rfl rfl rfl rfl rfl ?_
        refine o_s (.t (.d (.lit (.bool false)))) (g0 rfl) rfl rfl rfl ?_
        refine o_nil ?_
        repeat (first | refine then_normal ?_ | refine then_exit ?_ | refine then_ret ?_ | refine block_normal ?_ | refine block_ret ?_ | refine block_exit ?_ | refine block_pass rfl ?_)
        refine c_ret ?_
        repeat (first | refine then_normal ?_ | refine then_exit ?_ | refine then_ret ?_ | refine block_normal ?_ | refine block_ret ?_ | refine block_exit ?_ | refine block_pass rfl ?_)
        obtain rfl := Option.some.inj h
        exact end0 rfl (.refl _)
    · refine o_skip rfl rfl rfl h2 rfl rfl ?_
      refine o_skip rfl rfl rfl h2 rfl rfl ?_
      refine o_skip rfl rfl rfl h2 rfl rfl ?_
      refine o_skip rfl rfl rfl h2 rfl rfl ?_
      refine o_pk (.t (.d (.lit (.bool false)))) (b := false) h2 (g0 rfl) rfl rfl rfl rfl rfl ?_
      refine o_s (.t (.d (.lit (.bool false)))) (g0 rfl) rfl rfl rfl ?_
      refine o_skip rfl rfl rfl rfl rfl rfl ?_
      refine o_skip rfl rfl rfl rfl rfl rfl ?_
      refine o_skip rfl rfl rfl rfl rfl rfl ?_
      refine o_skip rfl rfl rfl rfl rfl rfl ?_
      refine o_pk (.t (.d (.lit (.bool false)))) (b := false) rfl (g0 rfl) rfl rfl rfl rfl rfl ?_
      refine o_s (.t (.d (.lit (.bool false)))) (g0 rfl) rfl rfl rfl ?_
      refine o_skip rfl rfl rfl rfl rfl rfl ?_
      refine o_skip rfl rfl rfl rfl rfl rfl ?_
      refine o_skip rfl rfl rfl rfl rfl rfl ?_
      refine o_skip rfl rfl rfl rfl rfl rfl ?_
      refine o_pk (.t (.d (.lit (.bool false)))) (b := false) rfl (g0 rfl) rfl rfl rfl rfl rfl ?_
      refine o_s (.t (.d (.lit (.bool false)))) (g0 rfl) rfl rfl rfl ?_
      refine o_nil ?_
      repeat (first | refine then_normal ?_ | refine then_exit ?_ | refine then_ret ?_ | refine block_normal ?_ | refine block_ret ?_ | refine block_exit ?_ | refine block_pass rfl ?_)
      refine c_ret ?_
      repeat (first | refine then_normal ?_ | refine then_exit ?_ | refine then_ret ?_ | refine block_normal ?_ | refine block_ret ?_ | refine block_exit ?_ | refine block_pass rfl ?_)
      obtain rfl := Option.some.inj h
      exact end0 rfl (.refl _)
  · refine o_skip rfl rfl rfl h1 rfl rfl ?_
    refine o_skip rfl rfl rfl h1 rfl rfl ?_
    refine o_skip rfl rfl rfl h1 rfl rfl ?_
    refine o_skip rfl rfl rfl h1 rfl rfl ?_
    refine o_pk (.t (.d (.lit (.bool false)))) (b := false) h1 (g0 rfl) rfl rfl rfl rfl rfl ?_
    refine o_s (.t (.d (.lit (.bool false)))) (g0 rfl) rfl rfl rfl ?_
    refine o_skip rfl rfl rfl rfl rfl rfl ?_
    refine o_skip rfl rfl rfl rfl rfl rfl ?_
    refine o_skip rfl rfl rfl rfl rfl rfl ?_
    refine o_skip rfl rfl rfl rfl rfl rfl ?_
    refine o_pk (.t (.d (.lit (.bool false)))) (b := false) rfl (g0 rfl) rfl rfl rfl rfl rfl ?_
    refine o_s (.t (.d (.lit (.bool false)))) (g0 rfl) rfl rfl rfl ?_
    refine o_skip rfl rfl rfl rfl rfl rfl ?_
    refine o_skip rfl rfl rfl rfl rfl rfl ?_
    refine o_skip rfl rfl rfl rfl rfl rfl ?_
    refine o_skip rfl rfl rfl rfl rfl rfl ?_
    refine o_pk (.t (.d (.lit (.bool false)))) (b := false) rfl (g0 rfl) rfl rfl rfl rfl rfl ?_
    refine o_s (.t (.d (.lit (.bool false)))) (g0 rfl) rfl rfl rfl ?_
    refine o_skip rfl rfl rfl rfl rfl rfl ?_
    refine o_skip rfl rfl rfl rfl rfl rfl ?_
    refine o_skip rfl rfl rfl rfl rfl rfl ?_
    refine o_skip rfl rfl rfl rfl rfl rfl ?_
    refine o_pk (.t (.d (.lit (.bool false)))) (b := false) rfl (g0 rfl) rfl rfl rfl rfl rfl ?_
    refine o_s (.t (.d (.lit (.bool false)))) (g0 rfl) rfl rfl rfl ?_
    refine o_nil ?_
    repeat (first | refine then_normal ?_ | refine then_exit ?_ | refine then_ret ?_ | refine block_normal ?_ | refine block_ret ?_ | refine block_exit ?_ | refine block_pass rfl ?_)
    refine c_ret ?_
    repeat (first | refine then_normal ?_ | refine then_exit ?_ | refine then_ret ?_ | refine block_normal ?_ | refine block_ret ?_ | refine block_exit ?_ | refine block_pass rfl ?_)
    obtain rfl := Option.some.inj h
    exact end0 rfl (.refl _)

theorem fc_bytes_Equal (p0 : (List UInt8)) (p1 : (List UInt8)) (r : Bool) (h : m_bytes_Equal p0 p1 = some r) : FC Tryd.prog 26 [.t (.d (.seq 1 (bytesD p0))), .t (.d (.seq 1 (bytesD p1)))] [] (.t (.d (.lit (.bool r)))) := by
  refine fc_mk (rs := [.tmp 4]) (n := 10) Tryd.func26 rfl rfl (Nat.le_of_ble_eq_true rfl) rfl (pins := []) rfl (L := [(0, .t (.d (.seq 1 (bytesD p0)))), (1, .t (.d (.seq 1 (bytesD p1))))]) rfl ?_
  refine c_seq ?_
  refine c_region ?_
  refine o_s (.t (.d (.lit (.bool false)))) (g0 rfl) rfl rfl rfl ?_
  refine o_nil ?_
  repeat (first | refine then_normal ?_ | refine then_exit ?_ | refine then_ret ?_ | refine block_normal ?_ | refine block_ret ?_ | refine block_exit ?_ | refine block_pass rfl ?_)
  refine c_seq ?_
  refine c_region ?_
  refine o_s (.t (.d (.seq 1 (bytesD p0)))) (g0 rfl) rfl rfl rfl ?_
  refine o_c (g0 rfl) rfl rfl rfl (strE _) (isB_bytes _) ?_
  refine o_s (.t (.d (.seq 1 (bytesD p1)))) (g0 rfl) rfl rfl rfl ?_
  refine o_c (g0 rfl) rfl rfl rfl (strE _) (isB_bytes _) ?_
  refine o_c (g0 rfl) rfl rfl rfl (congrArg (fun z => A.t (.d (.lit (.bool z)))) (str_beqL _ _)) trivial ?_
  refine o_s (.t (.d (.lit (.bool (p0 == p1))))) (g0 rfl) rfl rfl rfl ?_
  refine o_nil ?_
  repeat (first | refine then_normal ?_ | refine then_exit ?_ | refine then_ret ?_ | refine block_normal ?_ | refine block_ret ?_ | refine block_exit ?_ | refine block_pass rfl ?_)
  refine c_ret ?_
  repeat (first | refine then_normal ?_ | refine then_exit ?_ | refine then_ret ?_ | refine block_normal ?_ | refine block_ret ?_ | refine block_exit ?_ | refine block_pass rfl ?_)
  obtain rfl := Option.some.inj h
  exact end0 rfl (.refl _)

theorem fc_call_Same (p0 : S_api_Call) (p1 : S_api_Call) (r : Bool) (h : m_call_Same p0 p1 = some r) : FC Tryd.prog 9 [.t (.agg [.lit (.int .i64 p0.Kind), .lit (.string ⟨⟨p0.User⟩⟩), .lit (.string ⟨⟨p0.Folder⟩⟩), .lit (.string ⟨⟨p0.Name⟩⟩), .lit (.string ⟨⟨p0.Other⟩⟩), .lit (.int .i64 p0.Role), .lit (.int .i64 p0.Version), .seq 1 (bytesD p0.Data)]), .t (.agg [.lit (.int .i64 p1.Kind), .lit (.string ⟨⟨p1.User⟩⟩), .lit (.string ⟨⟨p1.Folder⟩⟩), .lit (.string ⟨⟨p1.Name⟩⟩), .lit (.string ⟨⟨p1.Other⟩⟩), .lit (.int .i64 p1.Role), .lit (.int .i64 p1.Version), .seq 1 (bytesD p1.Data)])] [] (.t (.d (.lit (.bool r)))) := by
  refine fc_mk (rs := [.tmp 4]) (n := 58) Tryd.func9 rfl rfl (Nat.le_of_ble_eq_true rfl) rfl (pins := []) rfl (L := [(0, .t (.agg [.lit (.int .i64 p0.Kind), .lit (.string ⟨⟨p0.User⟩⟩), .lit (.string ⟨⟨p0.Folder⟩⟩), .lit (.string ⟨⟨p0.Name⟩⟩), .lit (.string ⟨⟨p0.Other⟩⟩), .lit (.int .i64 p0.Role), .lit (.int .i64 p0.Version), .seq 1 (bytesD p0.Data)])), (1, .t (.agg [.lit (.int .i64 p1.Kind), .lit (.string ⟨⟨p1.User⟩⟩), .lit (.string ⟨⟨p1.Folder⟩⟩), .lit (.string ⟨⟨p1.Name⟩⟩), .lit (.string ⟨⟨p1.Other⟩⟩), .lit (.int .i64 p1.Role), .lit (.int .i64 p1.Version), .seq 1 (bytesD p1.Data)]))]) rfl ?_
  refine c_seq ?_
  refine c_region ?_
  refine o_s (.box [.d (.lit (.int .i64 p0.Kind)), .d (.lit (.string ⟨⟨p0.User⟩⟩)), .d (.lit (.string ⟨⟨p0.Folder⟩⟩)), .d (.lit (.string ⟨⟨p0.Name⟩⟩)), .d (.lit (.string ⟨⟨p0.Other⟩⟩)), .d (.lit (.int .i64 p0.Role)), .d (.lit (.int .i64 p0.Version)), .d (.seq 1 (bytesD p0.Data))]) (g0 rfl) rfl rfl rfl ?_
  refine o_s (.box [.d (.lit (.int .i64 p1.Kind)), .d (.lit (.string ⟨⟨p1.User⟩⟩)), .d (.lit (.string ⟨⟨p1.Folder⟩⟩)), .d (.lit (.string ⟨⟨p1.Name⟩⟩)), .d (.lit (.string ⟨⟨p1.Other⟩⟩)), .d (.lit (.int .i64 p1.Role)), .d (.lit (.int .i64 p1.Version)), .d (.seq 1 (bytesD p1.Data))]) (g0 rfl) rfl rfl rfl ?_
  refine o_s (.t (.d (.lit (.bool false)))) (g0 rfl) rfl rfl rfl ?_
  refine o_nil ?_
  repeat (first | refine then_normal ?_ | refine then_exit ?_ | refine then_ret ?_ | refine block_normal ?_ | refine block_ret ?_ | refine block_exit ?_ | refine block_pass rfl ?_)
  refine c_seq ?_
  refine c_seq ?_
  refine c_region ?_
  refine o_s (.ref 2 7) (g0 rfl) rfl rfl rfl ?_
  refine o_s (.t (.d (.seq 1 (bytesD p0.Data)))) (g0 rfl) rfl rfl rfl ?_
  refine o_s (.ref 3 7) (g0 rfl) rfl rfl rfl ?_
  refine o_s (.t (.d (.seq 1 (bytesD p1.Data)))) (g0 rfl) rfl rfl rfl ?_
  obtain ⟨x1, h2, h⟩ := bind_some h
  refine o_ca (fc_bytes_Equal _ _ _ h2) (g0 rfl) rfl rfl rfl rfl rfl rfl rfl (.cons (.refl _) (.cons (.refl _) .nil)) rfl rfl ?_
  refine o_s (.t (.d (.lit (.bool (!x1))))) (g0 rfl) rfl rfl rfl ?_
  refine o_s (.t (.d (.lit (.bool (!x1))))) (g0 rfl) rfl rfl rfl ?_
  rcases bif_some h with ⟨h3, h⟩ | ⟨h3, h⟩
  · refine o_skip rfl rfl rfl h3 rfl rfl ?_
    refine o_skip rfl rfl rfl h3 rfl rfl ?_
    refine o_skip rfl rfl rfl h3 rfl rfl ?_
    refine o_skip rfl rfl rfl h3 rfl rfl ?_
    refine o_skip rfl rfl rfl h3 rfl rfl ?_
    refine o_pk (.t (.d (.lit (.bool true)))) (b := true) h3 (g0 rfl) rfl rfl rfl rfl rfl ?_
    refine o_s (.t (.d (.lit (.bool true)))) (g0 rfl) rfl rfl rfl ?_
    refine o_skip rfl rfl rfl rfl rfl rfl ?_
    refine o_skip rfl rfl rfl rfl rfl rfl ?_
    refine o_skip rfl rfl rfl rfl rfl rfl ?_
    refine o_skip rfl rfl rfl rfl rfl rfl ?_
    refine o_skip rfl rfl rfl rfl rfl rfl ?_
    refine o_pk (.t (.d (.lit (.bool true)))) (b := true) rfl (g0 rfl) rfl rfl rfl rfl rfl ?_
    refine o_s (.t (.d (.lit (.bool true)))) (g0 rfl) rfl rfl rfl ?_
    refine o_skip rfl rfl rfl rfl rfl rfl ?_
    refine o_skip rfl rfl rfl rfl rfl rfl ?_
    refine o_skip rfl rfl rfl rfl rfl rfl ?_
    refine o_skip rfl rfl rfl rfl rfl rfl ?_
    refine o_skip rfl rfl rfl rfl rfl rfl ?_
    refine o_pk (.t (.d (.lit (.bool true)))) (b := true) rfl (g0 rfl) rfl rfl rfl rfl rfl ?_
    refine o_nil ?_
    repeat (first | refine then_normal ?_ | refine then_exit ?_ | refine then_ret ?_ | refine block_normal ?_ | refine block_ret ?_ | refine block_exit ?_ | refine block_pass rfl ?_)
    refine c_t rfl rfl ?_
    refine c_seq ?_
    refine c_region ?_
    refine o_s (.t (.d (.lit (.bool false)))) (g0 rfl) rfl rfl rfl ?_
    refine o_nil ?_
    repeat (first | refine then_normal ?_ | refine then_exit ?_ | refine then_ret ?_ | refine block_normal ?_ | refine block_ret ?_ | refine block_exit ?_ | refine block_pass rfl ?_)
    refine c_ret ?_
    repeat (first | refine then_normal ?_ | refine then_exit ?_ | refine then_ret ?_ | refine block_normal ?_ | refine block_ret ?_ | refine block_exit ?_ | refine block_pass rfl ?_)
    obtain rfl := Option.some.inj h
    exact end0 rfl (.refl _)
  · refine o_s (.ref 2 0) (gy rfl rfl rfl h3) rfl rfl rfl ?_
    refine o_s (.t (.d (.lit (.int .i64 p0.Kind)))) (gy rfl rfl rfl h3) rfl rfl rfl ?_
    refine o_s (.ref 3 0) (gy rfl rfl rfl h3) rfl rfl rfl ?_
    refine o_s (.t (.d (.lit (.int .i64 p1.Kind)))) (gy rfl rfl rfl h3) rfl rfl rfl ?_
    refine o_s (.t (.d (.lit (.bool (p0.Kind != p1.Kind))))) (gy rfl rfl rfl h3) rfl rfl rfl ?_
    refine o_pk (.t (.d (.lit (.bool (p0.Kind != p1.Kind))))) (b := false) h3 (g0 rfl) rfl rfl rfl rfl rfl ?_
    refine o_s (.t (.d (.lit (.bool (p0.Kind != p1.Kind))))) (g0 rfl) rfl rfl rfl ?_
    rcases bif_some h with ⟨h4, h⟩ | ⟨h4, h⟩
    · refine o_skip rfl rfl rfl h4 rfl rfl ?_
      refine o_skip rfl rfl rfl h4 rfl rfl ?_
      refine o_skip rfl rfl rfl h4 rfl rfl ?_
      refine o_skip rfl rfl rfl h4 rfl rfl ?_
      refine o_skip rfl rfl rfl h4 rfl rfl ?_
      refine o_pk (.t (.d (.lit (.bool true)))) (b := true) h4 (g0 rfl) rfl rfl rfl rfl rfl ?_
      refine o_s (.t (.d (.lit (.bool true)))) (g0 rfl) rfl rfl rfl ?_
      refine o_skip rfl rfl rfl rfl rfl rfl ?_
      refine o_skip rfl rfl rfl rfl rfl rfl ?_
      refine o_skip rfl rfl rfl rfl rfl rfl ?_
      refine o_skip rfl rfl rfl rfl rfl rfl ?_
      refine o_skip rfl rfl rfl rfl rfl rfl ?_
      refine o_pk (.t (.d (.lit (.bool true)))) (b := true) rfl (g0 rfl) rfl rfl rfl rfl rfl ?_
      refine o_nil ?_
      repeat (first | refine then_normal ?_ | refine then_exit ?_ | refine then_ret ?_ | refine block_normal ?_ | refine block_ret ?_ | refine block_exit ?_ | refine block_pass rfl ?_)
      refine c_t rfl rfl ?_
      refine c_seq ?_
      refine c_region ?_
      refine o_s (.t (.d (.lit (.bool false)))) (g0 rfl) rfl rfl rfl ?_
      refine o_nil ?_
      repeat (first | refine then_normal ?_ | refine then_exit ?_ | refine then_ret ?_ | refine block_normal ?_ | refine block_ret ?_ | refine block_exit ?_ | refine block_pass rfl ?_)
      refine c_ret ?_
      repeat (first | refine then_normal ?_ | refine then_exit ?_ | refine then_ret ?_ | refine block_normal ?_ | refine block_ret ?_ | refine block_exit ?_ | refine block_pass rfl ?_)
      obtain rfl := Option.some.inj h
      exact end0 rfl (.refl _)
    · refine o_s (.ref 2 5) (gy rfl rfl rfl h4) rfl rfl rfl ?_
      refine o_s (.t (.d (.lit (.int .i64 p0.Role)))) (gy rfl rfl rfl h4) rfl rfl rfl ?_
      refine o_s (.ref 3 5) (gy rfl rfl rfl h4) rfl rfl rfl ?_
      refine o_s (.t (.d (.lit (.int .i64 p1.Role)))) (gy rfl rfl rfl h4) rfl rfl rfl ?_
      refine o_s (.t (.d (.lit (.bool (p0.Role != p1.Role))))) (gy rfl rfl rfl h4) rfl rfl rfl ?_
      refine o_pk (.t (.d (.lit (.bool (p0.Role != p1.Role))))) (b := false) h4 (g0 rfl) rfl rfl rfl rfl rfl ?_
      refine o_s (.t (.d (.lit (.bool (p0.Role != p1.Role))))) (g0 rfl) rfl rfl rfl ?_
      rcases bif_some h with ⟨h5, h⟩ | ⟨h5, h⟩
      · refine o_skip rfl rfl rfl h5 rfl rfl ?_
        refine o_skip rfl rfl rfl h5 rfl rfl ?_
        refine o_skip rfl rfl rfl h5 rfl rfl ?_
        refine o_skip rfl rfl rfl h5 rfl rfl ?_
        refine o_skip rfl rfl rfl h5 rfl rfl ?_
        refine o_pk (.t (.d (.lit (.bool true)))) (b := true) h5 (g0 rfl) rfl rfl rfl rfl rfl ?_
        refine o_nil ?_
        repeat (first | refine then_normal ?_ | refine then_exit ?_ | refine then_ret ?_ | refine block_normal ?_ | refine block_ret ?_ | refine block_exit ?_ | refine block_pass rfl ?_)
        refine c_t rfl rfl ?_
        refine c_seq ?_
        refine c_region ?_
        refine o_s (.t (.d (.lit (.bool false)))) (g0 rfl) rfl rfl rfl ?_
        refine o_nil ?_
        repeat (first | refine then_normal ?_ | refine then_exit ?_ | refine then_ret ?_ | refine block_normal ?_ | refine block_ret ?_ | refine block_exit ?_ | refine block_pass rfl ?_)
        refine c_ret ?_
        repeat (first | refine then_normal ?_ | refine then_exit ?_ | refine then_ret ?_ | refine block_normal ?_ | refine block_ret ?_ | refine block_exit ?_ | refine block_pass rfl ?_)
        obtain rfl := Option.some.inj h
        exact end0 rfl (.refl _)
      · refine o_s (.ref 2 6) (gy rfl rfl rfl h5) rfl rfl rfl ?_
        refine o_s (.t (.d (.lit (.int .i64 p0.Version)))) (gy rfl rfl rfl h5) rfl rfl rfl ?_
        refine o_s (.ref 3 6) (gy rfl rfl rfl h5) rfl rfl rfl ?_
        refine o_s (.t (.d (.lit (.int .i64 p1.Version)))) (gy rfl rfl rfl h5) rfl rfl rfl ?_
        refine o_s (.t (.d (.lit (.bool (p0.Version != p1.Version))))) (gy rfl rfl rfl h5) rfl rfl rfl ?_
        refine o_pk (.t (.d (.lit (.bool (p0.Version != p1.Version))))) (b := false) h5 (g0 rfl) rfl rfl rfl rfl rfl ?_
        refine o_nil ?_
        repeat (first | refine then_normal ?_ | refine then_exit ?_ | refine then_ret ?_ | refine block_normal ?_ | refine block_ret ?_ | refine block_exit ?_ | refine block_pass rfl ?_)
        rcases bif_some h with ⟨h6, h⟩ | ⟨h6, h⟩
        · refine c_t h6 rfl ?_
          refine c_seq ?_
          refine c_region ?_
          refine o_s (.t (.d (.lit (.bool false)))) (g0 rfl) rfl rfl rfl ?_
          refine o_nil ?_
          repeat (first | refine then_normal ?_ | refine then_exit ?_ | refine then_ret ?_ | refine block_normal ?_ | refine block_ret ?_ | refine block_exit ?_ | refine block_pass rfl ?_)
          refine c_ret ?_
          repeat (first | refine then_normal ?_ | refine then_exit ?_ | refine then_ret ?_ | refine block_normal ?_ | refine block_ret ?_ | refine block_exit ?_ | refine block_pass rfl ?_)
          obtain rfl := Option.some.inj h
          exact end0 rfl (.refl _)
        · refine c_f h6 rfl ?_
          refine c_skip ?_
          repeat (first | refine then_normal ?_ | refine then_exit ?_ | refine then_ret ?_ | refine block_normal ?_ | refine block_ret ?_ | refine block_exit ?_ | refine block_pass rfl ?_)
          refine c_seq ?_
          refine c_region ?_
          refine o_s (.ref 2 1) (g0 rfl) rfl rfl rfl ?_
          refine o_s (.t (.d (.lit (.string ⟨⟨p0.User⟩⟩)))) (g0 rfl) rfl rfl rfl ?_
          refine o_s (.ref 3 1) (g0 rfl) rfl rfl rfl ?_
          refine o_s (.t (.d (.lit (.string ⟨⟨p1.User⟩⟩)))) (g0 rfl) rfl rfl rfl ?_
          refine o_c (g0 rfl) rfl rfl rfl (congrArg (fun z => A.t (.d (.lit (.bool z)))) (str_beqL _ _)) trivial ?_
          refine o_s (.t (.d (.lit (.bool (p0.User == p1.User))))) (g0 rfl) rfl rfl rfl ?_
          rcases bif_some h with ⟨h7, h⟩ | ⟨h7, h⟩
          · refine o_s (.ref 2 2) (gy rfl rfl rfl h7) rfl rfl rfl ?_
            refine o_s (.t (.d (.lit (.string ⟨⟨p0.Folder⟩⟩)))) (gy rfl rfl rfl h7) rfl rfl rfl ?_
            refine o_s (.ref 3 2) (gy rfl rfl rfl h7) rfl rfl rfl ?_
            refine o_s (.t (.d (.lit (.string ⟨⟨p1.Folder⟩⟩)))) (gy rfl rfl rfl h7) rfl rfl rfl ?_
            refine o_c (gy rfl rfl rfl h7) rfl rfl rfl (congrArg (fun z => A.t (.d (.lit (.bool z)))) (str_beqL _ _)) trivial ?_
            refine o_pk (.t (.d (.lit (.bool (p0.Folder == p1.Folder))))) (b := true) h7 (g0 rfl) rfl rfl rfl rfl rfl ?_
            refine o_s (.t (.d (.lit (.bool (p0.Folder == p1.Folder))))) (g0 rfl) rfl rfl rfl ?_
            rcases bif_some h with ⟨h8, h⟩ | ⟨h8, h⟩
            · refine o_s (.ref 2 3) (gy rfl rfl rfl h8) rfl rfl rfl ?_
              refine o_s (.t (.d (.lit (.string ⟨⟨p0.Name⟩⟩)))) (gy rfl rfl rfl h8) rfl rfl rfl ?_
              refine o_s (.ref 3 3) (gy rfl rfl rfl h8) rfl rfl rfl ?_
              refine o_s (.t (.d (.lit (.string ⟨⟨p1.Name⟩⟩)))) (gy rfl rfl rfl h8) rfl rfl rfl ?_
              refine o_c (gy rfl rfl rfl h8) rfl rfl rfl (congrArg (fun z => A.t (.d (.lit (.bool z)))) (str_beqL _ _)) trivial ?_
              refine o_pk (.t (.d (.lit (.bool (p0.Name == p1.Name))))) (b := true) h8 (g0 rfl) rfl rfl rfl rfl rfl ?_
              refine o_s (.t (.d (.lit (.bool (p0.Name == p1.Name))))) (g0 rfl) rfl rfl rfl ?_
              rcases bif_some h with ⟨h9, h⟩ | ⟨h9, h⟩
              · refine o_s (.ref 2 4) (gy rfl rfl rfl h9) rfl rfl rfl ?_
                refine o_s (.t (.d (.lit (.string ⟨⟨p0.Other⟩⟩)))) (gy rfl rfl rfl h9) rfl rfl rfl ?_
                refine o_s (.ref 3 4) (gy rfl rfl rfl h9) rfl rfl rfl ?_
                refine o_s (.t (.d (.lit (.string ⟨⟨p1.Other⟩⟩)))) (gy rfl rfl rfl h9) rfl rfl rfl ?_
                refine o_c (gy rfl rfl rfl h9) rfl rfl rfl (congrArg (fun z => A.t (.d (.lit (.bool z)))) (str_beqL _ _)) trivial ?_
                refine o_pk (.t (.d (.lit (.bool (p0.Other == p1.Other))))) (b := true) h9 (g0 rfl) rfl rfl rfl rfl rfl ?_
                refine o_s (.t (.d (.lit (.bool (p0.Other == p1.Other))))) (g0 rfl) rfl rfl rfl ?_
                refine o_nil ?_
                repeat (first | refine then_normal ?_ | refine then_exit ?_ | refine then_ret ?_ | refine block_normal ?_ | refine block_ret ?_ | refine block_exit ?_ | refine block_pass rfl ?_)
                refine c_ret ?_
                repeat (first | refine then_normal ?_ | refine then_exit ?_ | refine then_ret ?_ | refine block_normal ?_ | refine block_ret ?_ | refine block_exit ?_ | refine block_pass rfl ?_)
                obtain rfl := Option.some.inj h
                exact end0 rfl (.refl _)
              · refine o_skip rfl rfl rfl h9 rfl rfl ?_
                refine o_skip rfl rfl rfl h9 rfl rfl ?_
                refine o_skip rfl rfl rfl h9 rfl rfl ?_
                refine o_skip rfl rfl rfl h9 rfl rfl ?_
                refine o_skip rfl rfl rfl h9 rfl rfl ?_
                refine o_pk (.t (.d (.lit (.bool false)))) (b := false) h9 (g0 rfl) rfl rfl rfl rfl rfl ?_
                refine o_s (.t (.d (.lit (.bool false)))) (g0 rfl) rfl rfl rfl ?_
                refine o_nil ?_
                repeat (first | refine then_normal ?_ | refine then_exit ?_ | refine then_ret ?_ | refine block_normal ?_ | refine block_ret ?_ | refine block_exit ?_ | refine block_pass rfl ?_)
                refine c_ret ?_
                repeat (first | refine then_normal ?_ | refine then_exit ?_ | refine then_ret ?_ | refine block_normal ?_ | refine block_ret ?_ | refine block_exit ?_ | refine block_pass rfl ?_)
                obtain rfl := Option.some.inj h
                exact end0 rfl (.refl _)
            · refine o_skip rfl rfl rfl h8 rfl rfl ?_
              refine o_skip rfl rfl rfl h8 rfl rfl ?_
              refine o_skip rfl rfl rfl h8 rfl rfl ?_
              refine o_skip rfl rfl rfl h8 rfl rfl ?_
              refine o_skip rfl rfl rfl h8 rfl rfl ?_
              refine o_pk (.t (.d (.lit (.bool false)))) (b := false) h8 (g0 rfl) rfl rfl rfl rfl rfl ?_
              refine o_s (.t (.d (.lit (.bool false)))) (g0 rfl) rfl rfl rfl ?_
              refine o_skip rfl rfl rfl rfl rfl rfl ?_
              refine o_skip rfl rfl rfl rfl rfl rfl ?_
              refine o_skip rfl rfl rfl rfl rfl rfl ?_
              refine o_skip rfl rfl rfl rfl rfl rfl ?_
              refine o_skip rfl rfl rfl rfl rfl rfl ?_
              refine o_pk (.t (.d (.lit (.bool false)))) (b := false) rfl (g0 rfl) rfl rfl rfl rfl rfl ?_
              refine o_s (.t (.d (.lit (.bool false)))) (g0 rfl) rfl rfl rfl ?_
              refine o_nil ?_
              repeat (first | refine then_normal ?_ | refine then_exit ?_ | refine then_ret ?_ | refine block_normal ?_ | refine block_ret ?_ | refine block_exit ?_ | refine block_pass rfl ?_)
              refine c_ret ?_
              repeat (first | refine then_normal ?_ | refine then_exit ?_ | refine then_ret ?_ | refine block_normal ?_ | refine block_ret ?_ | refine block_exit ?_ | refine block_pass rfl ?_)
              obtain rfl := Option.some.inj h
              exact end0 rfl (.refl _)
          · refine o_skip rfl rfl rfl h7 rfl rfl ?_
            refine o_skip rfl rfl rfl h7 rfl rfl ?_
            refine o_skip rfl rfl rfl h7 rfl rfl ?_
            refine o_skip rfl rfl rfl h7 rfl rfl ?_
            refine o_skip rfl rfl rfl h7 rfl rfl ?_
            refine o_pk (.t (.d (.lit (.bool false)))) (b := false) h7 (g0 rfl) rfl rfl rfl rfl rfl ?_
            refine o_s (.t (.d (.lit (.bool false)))) (g0 rfl) rfl rfl rfl ?_
            refine o_skip rfl rfl rfl rfl rfl rfl ?_
            refine o_skip rfl rfl rfl rfl rfl rfl ?_
            refine o_skip rfl rfl rfl rfl rfl rfl ?_
            refine o_skip rfl rfl rfl rfl rfl rfl ?_
            refine o_skip rfl rfl rfl rfl rfl rfl ?_
            refine o_pk (.t (.d (.lit (.bool false)))) (b := false) rfl (g0 rfl) rfl rfl rfl rfl rfl ?_
            refine o_s (.t (.d (.lit (.bool false)))) (g0 rfl) rfl rfl rfl ?_
            refine o_skip rfl rfl rfl rfl rfl rfl ?_
            refine o_skip rfl rfl rfl rfl rfl rfl ?_
            refine o_skip rfl rfl rfl rfl rfl rfl ?_
            refine o_skip rfl rfl rfl rfl rfl rfl ?_
            refine o_skip rfl rfl rfl rfl rfl rfl ?_
            refine o_pk (.t (.d (.lit (.bool false)))) (b := false) rfl (g0 rfl) rfl rfl rfl rfl rfl ?_
            refine o_s (.t (.d (.lit (.bool false)))) (g0 rfl) rfl rfl rfl ?_
            refine o_nil ?_
            repeat (first | refine then_normal ?_ | refine then_exit ?_ | refine then_ret ?_ | refine block_normal ?_ | refine block_ret ?_ | refine block_exit ?_ | refine block_pass rfl ?_)
            refine c_ret ?_
            repeat (first | refine then_normal ?_ | refine then_exit ?_ | refine then_ret ?_ | refine block_normal ?_ | refine block_ret ?_ | refine block_exit ?_ | refine block_pass rfl ?_)
            obtain rfl := Option.some.inj h
            exact end0 rfl (.refl _)

theorem fc_R30_Same (p0 : S_api_Call) (p1 : S_api_Call) (r : Bool) (h : m_R30_Same p0 p1 = some r) : FC Tryd.prog 10 [.t (.agg [.lit (.int .i64 p0.Kind), .lit (.string ⟨⟨p0.User⟩⟩), .lit (.string ⟨⟨p0.Folder⟩⟩), .lit (.string ⟨⟨p0.Name⟩⟩), .lit (.string ⟨⟨p0.Other⟩⟩), .lit (.int .i64 p0.Role), .lit (.int .i64 p0.Version), .seq 1 (bytesD p0.Data)]), .t (.agg [.lit (.int .i64 p1.Kind), .lit (.string ⟨⟨p1.User⟩⟩), .lit (.string ⟨⟨p1.Folder⟩⟩), .lit (.string ⟨⟨p1.Name⟩⟩), .lit (.string ⟨⟨p1.Other⟩⟩), .lit (.int .i64 p1.Role), .lit (.int .i64 p1.Version), .seq 1 (bytesD p1.Data)])] [] (.t (.d (.lit (.bool r)))) := by
  refine fc_mk (rs := [.tmp 4]) (n := 59) Tryd.func10 rfl rfl (Nat.le_of_ble_eq_true rfl) rfl (pins := []) rfl (L := [(0, .t (.agg [.lit (.int .i64 p0.Kind), .lit (.string ⟨⟨p0.User⟩⟩), .lit (.string ⟨⟨p0.Folder⟩⟩), .lit (.string ⟨⟨p0.Name⟩⟩), .lit (.string ⟨⟨p0.Other⟩⟩), .lit (.int .i64 p0.Role), .lit (.int .i64 p0.Version), .seq 1 (bytesD p0.Data)])), (1, .t (.agg [.lit (.int .i64 p1.Kind), .lit (.string ⟨⟨p1.User⟩⟩), .lit (.string ⟨⟨p1.Folder⟩⟩), .lit (.string ⟨⟨p1.Name⟩⟩), .lit (.string ⟨⟨p1.Other⟩⟩), .lit (.int .i64 p1.Role), .lit (.int .i64 p1.Version), .seq 1 (bytesD p1.Data)]))]) rfl ?_
  refine c_seq ?_
  refine c_region ?_
  refine o_s (.box [.d (.lit (.int .i64 p0.Kind)), .d (.lit (.string ⟨⟨p0.User⟩⟩)), .d (.lit (.string ⟨⟨p0.Folder⟩⟩)), .d (.lit (.string ⟨⟨p0.Name⟩⟩)), .d (.lit (.string ⟨⟨p0.Other⟩⟩)), .d (.lit (.int .i64 p0.Role)), .d (.lit (.int .i64 p0.Version)), .d (.seq 1 (bytesD p0.Data))]) (g0 rfl) rfl rfl rfl ?_
  refine o_s (.box [.d (.lit (.int .i64 p1.Kind)), .d (.lit (.string ⟨⟨p1.User⟩⟩)), .d (.lit (.string ⟨⟨p1.Folder⟩⟩)), .d (.lit (.string ⟨⟨p1.Name⟩⟩)), .d (.lit (.string ⟨⟨p1.Other⟩⟩)), .d (.lit (.int .i64 p1.Role)), .d (.lit (.int .i64 p1.Version)), .d (.seq 1 (bytesD p1.Data))]) (g0 rfl) rfl rfl rfl ?_
  refine o_s (.t (.d (.lit (.bool false)))) (g0 rfl) rfl rfl rfl ?_
  refine o_nil ?_
  repeat (first | refine then_normal ?_ | refine then_exit ?_ | refine then_ret ?_ | refine block_normal ?_ | refine block_ret ?_ | refine block_exit ?_ | refine block_pass rfl ?_)
  refine c_seq ?_
  refine c_region ?_
  refine o_s (.ref 2 0) (g0 rfl) rfl rfl rfl ?_
  refine o_s (.t (.d (.lit (.int .i64 p0.Kind)))) (g0 rfl) rfl rfl rfl ?_
  refine o_s (.ref 3 0) (g0 rfl) rfl rfl rfl ?_
  refine o_s (.t (.d (.lit (.int .i64 p1.Kind)))) (g0 rfl) rfl rfl rfl ?_
  refine o_s (.t (.d (.lit (.bool (p0.Kind == p1.Kind))))) (g0 rfl) rfl rfl rfl ?_
  refine o_s (.t (.d (.lit (.bool (p0.Kind == p1.Kind))))) (g0 rfl) rfl rfl rfl ?_
  rcases bif_some h with ⟨h1, h⟩ | ⟨h1, h⟩
  · refine o_s (.ref 2 1) (gy rfl rfl rfl h1) rfl rfl rfl ?_
    refine o_s (.t (.d (.lit (.string ⟨⟨p0.User⟩⟩)))) (gy rfl rfl rfl h1) rfl rfl rfl ?_
    refine o_s (.ref 3 1) (gy rfl rfl rfl h1) rfl rfl rfl ?_
    refine o_s (.t (.d (.lit (.string ⟨⟨p1.User⟩⟩)))) (gy rfl rfl rfl h1) rfl rfl rfl ?_
    refine o_c (gy rfl rfl rfl h1) rfl rfl rfl (congrArg (fun z => A.t (.d (.lit (.bool z)))) (str_beqL _ _)) trivial ?_
    refine o_pk (.t (.d (.lit (.bool (p0.User == p1.User))))) (b := true) h1 (g0 rfl) rfl rfl rfl rfl rfl ?_
    refine o_s (.t (.d (.lit (.bool (p0.User == p1.User))))) (g0 rfl) rfl rfl rfl ?_
    rcases bif_some h with ⟨h2, h⟩ | ⟨h2, h⟩
    · refine o_s (.ref 2 2) (gy rfl rfl rfl h2) rfl rfl rfl ?_
      refine o_s (.t (.d (.lit (.string ⟨⟨p0.Folder⟩⟩)))) (gy rfl rfl rfl h2) rfl rfl rfl ?_
      refine o_s (.ref 3 2) (gy rfl rfl rfl h2) rfl rfl rfl ?_
      refine o_s (.t (.d (.lit (.string ⟨⟨p1.Folder⟩⟩)))) (gy rfl rfl rfl h2) rfl rfl rfl ?_
      refine o_c (gy rfl rfl rfl h2) rfl rfl rfl (congrArg (fun z => A.t (.d (.lit (.bool z)))) (str_beqL _ _)) trivial ?_
      refine o_pk (.t (.d (.lit (.bool (p0.Folder == p1.Folder))))) (b := true) h2 (g0 rfl) rfl rfl rfl rfl rfl ?_
      refine o_s (.t (.d (.lit (.bool (p0.Folder == p1.Folder))))) (g0 rfl) rfl rfl rfl ?_
      rcases bif_some h with ⟨h3, h⟩ | ⟨h3, h⟩
      · refine o_s (.ref 2 3) (gy rfl rfl rfl h3) rfl rfl rfl ?_
        refine o_s (.t (.d (.lit (.string ⟨⟨p0.Name⟩⟩)))) (gy rfl rfl rfl h3) rfl rfl rfl ?_
        refine o_s (.ref 3 3) (gy rfl rfl rfl h3) rfl rfl rfl ?_
        refine o_s (.t (.d (.lit (.string ⟨⟨p1.Name⟩⟩)))) (gy rfl rfl rfl h3) rfl rfl rfl ?_
        refine o_c (gy rfl rfl rfl h3) rfl rfl rfl (congrArg (fun z => A.t (.d (.lit (.bool z)))) (str_beqL _ _)) trivial ?_
        refine o_pk (.t (.d (.lit (.bool (p0.Name == p1.Name))))) (b := true) h3 (g0 rfl) rfl rfl rfl rfl rfl ?_
        refine o_s (.t (.d (.lit (.bool (p0.Name == p1.Name))))) (g0 rfl) rfl rfl rfl ?_
        rcases bif_some h with ⟨h4, h⟩ | ⟨h4, h⟩
        · refine o_s (.ref 2 4) (gy rfl rfl rfl h4) rfl rfl rfl ?_
          refine o_s (.t (.d (.lit (.string ⟨⟨p0.Other⟩⟩)))) (gy rfl rfl rfl h4) rfl rfl rfl ?_
          refine o_s (.ref 3 4) (gy rfl rfl rfl h4) rfl rfl rfl ?_
          refine o_s (.t (.d (.lit (.string ⟨⟨p1.Other⟩⟩)))) (gy rfl rfl rfl h4) rfl rfl rfl ?_
          refine o_c (gy rfl rfl rfl h4) rfl rfl rfl (congrArg (fun z => A.t (.d (.lit (.bool z)))) (str_beqL _ _)) trivial ?_
          refine o_pk (.t (.d (.lit (.bool (p0.Other == p1.Other))))) (b := true) h4 (g0 rfl) rfl rfl rfl rfl rfl ?_
          refine o_s (.t (.d (.lit (.bool (p0.Other == p1.Other))))) (g0 rfl) rfl rfl rfl ?_
          rcases bif_some h with ⟨h5, h⟩ | ⟨h5, h⟩
          · refine o_s (.ref 2 5) (gy rfl rfl rfl h5) rfl rfl rfl ?_
            refine o_s (.t (.d (.lit (.int .i64 p0.Role)))) (gy rfl rfl rfl h5) rfl rfl rfl ?_
            refine o_s (.ref 3 5) (gy rfl rfl rfl h5) rfl rfl rfl ?_
            refine o_s (.t (.d (.lit (.int .i64 p1.Role)))) (gy rfl rfl rfl h5) rfl rfl rfl ?_
            refine o_s (.t (.d (.lit (.bool (p0.Role == p1.Role))))) (gy rfl rfl rfl h5) rfl rfl rfl ?_
            refine o_pk (.t (.d (.lit (.bool (p0.Role == p1.Role))))) (b := true) h5 (g0 rfl) rfl rfl rfl rfl rfl ?_
            refine o_s (.t (.d (.lit (.bool (p0.Role == p1.Role))))) (g0 rfl) rfl rfl rfl ?_
            rcases bif_some h with ⟨h6, h⟩ | ⟨h6, h⟩
            · refine o_s (.ref 2 6) (gy rfl rfl rfl h6) rfl rfl rfl ?_
              refine o_s (.t (.d (.lit (.int .i64 p0.Version)))) (gy rfl rfl rfl h6) rfl rfl rfl ?_
              refine o_s (.ref 3 6) (gy rfl rfl rfl h6) rfl rfl rfl ?_
              refine o_s (.t (.d (.lit (.int .i64 p1.Version)))) (gy rfl rfl rfl h6) rfl rfl rfl ?_
              refine o_s (.t (.d (.lit (.bool (p0.Version == p1.Version))))) (gy rfl rfl rfl h6) rfl rfl rfl ?_
              refine o_pk (.t (.d (.lit (.bool (p0.Version == p1.Version))))) (b := true) h6 (g0 rfl) rfl rfl rfl rfl rfl ?_
              refine o_s (.t (.d (.lit (.bool (p0.Version == p1.Version))))) (g0 rfl) rfl rfl rfl ?_
              rcases bif_some h with ⟨h7, h⟩ | ⟨h7, h⟩
              · refine o_s (.ref 2 7) (gy rfl rfl rfl h7) rfl rfl rfl ?_
                refine o_s (.t (.d (.seq 1 (bytesD p0.Data)))) (gy rfl rfl rfl h7) rfl rfl rfl ?_
                refine o_s (.ref 3 7) (gy rfl rfl rfl h7) rfl rfl rfl ?_
                refine o_s (.t (.d (.seq 1 (bytesD p1.Data)))) (gy rfl rfl rfl h7) rfl rfl rfl ?_
                obtain ⟨x8, h9, h⟩ := bind_some h
                refine o_ca (fc_R01_Same _ _ _ h9) (gy rfl rfl rfl h7) rfl rfl rfl rfl rfl rfl rfl (.cons (.refl _) (.cons (.refl _) .nil)) rfl rfl ?_
                refine o_pk (.t (.d (.lit (.bool x8)))) (b := true) h7 (g0 rfl) rfl rfl rfl rfl rfl ?_
                refine o_s (.t (.d (.lit (.bool x8)))) (g0 rfl) rfl rfl rfl ?_
                refine o_nil ?_
                repeat (first | refine then_normal ?_ | refine then_exit ?_ | refine then_ret ?_ | refine block_normal ?_ | refine block_ret ?_ | refine block_exit ?_ | refine block_pass rfl ?_)
                refine c_ret ?_
                repeat (first | refine then_normal ?_ | refine then_exit ?_ | refine then_ret ?_ | refine block_normal ?_ | refine block_ret ?_ | refine block_exit ?_ | refine block_pass rfl ?_)
                obtain rfl := Option.some.inj h
                exact end0 rfl (.refl _)
              · refine o_skip rfl rfl rfl h7 rfl rfl ?_
                refine o_skip rfl rfl rfl h7 rfl rfl ?_
                refine o_skip rfl rfl rfl h7 rfl rfl ?_
                refine o_skip rfl rfl rfl h7 rfl rfl ?_
                refine o_skip rfl rfl rfl h7 rfl rfl ?_
                refine o_pk (.t (.d (.lit (.bool false)))) (b := false) h7 (g0 rfl) rfl rfl rfl rfl rfl ?_
                refine o_s (.t (.d (.lit (.bool false)))) (g0 rfl) rfl rfl rfl ?_
                refine o_nil ?_
                repeat (first | refine then_normal ?_ | refine then_exit ?_ | refine then_ret ?_ | refine block_normal ?_ | refine block_ret ?_ | refine block_exit ?_ | refine block_pass rfl ?_)
                refine c_ret ?_
                repeat (first | refine then_normal ?_ | refine then_exit ?_ | refine then_ret ?_ | refine block_normal ?_ | refine block_ret ?_ | refine block_exit ?_ | refine block_pass rfl ?_)
                obtain rfl := Option.some.inj h
                exact end0 rfl (.refl _)
            · refine o_skip rfl rfl rfl h6 rfl rfl ?_
              refine o_skip rfl rfl rfl h6 rfl rfl ?_
              refine o_skip rfl rfl rfl h6 rfl rfl ?_
              refine o_skip rfl rfl rfl h6 rfl rfl ?_
              refine o_skip rfl rfl rfl h6 rfl rfl ?_
              refine o_pk (.t (.d (.lit (.bool false)))) (b := false) h6 (g0 rfl) rfl rfl rfl rfl rfl ?_
              refine o_s (.t (.d (.lit (.bool false)))) (g0 rfl) rfl rfl rfl ?_
              refine o_skip rfl rfl rfl rfl rfl rfl ?_
              refine o_skip rfl rfl rfl rfl rfl rfl ?_
              refine o_skip rfl rfl rfl rfl rfl rfl ?_
              refine o_skip rfl rfl rfl rfl rfl rfl ?_
              refine o_skip rfl rfl rfl rfl rfl rfl ?_
              refine o_pk (.t (.d (.lit (.bool false)))) (b := false) rfl (g0 rfl) rfl rfl rfl rfl rfl ?_
              refine o_s (.t (.d (.lit (.bool false)))) (g0 rfl) rfl rfl rfl ?_
              refine o_nil ?_
              repeat (first | refine then_normal ?_ | refine then_exit ?_ | refine then_ret ?_ | refine block_normal ?_ | refine block_ret ?_ | refine block_exit ?_ | refine block_pass rfl ?_)
              refine c_ret ?_
              repeat (first | refine then_normal ?_ | refine then_exit ?_ | refine then_ret ?_ | refine block_normal ?_ | refine block_ret ?_ | refine block_exit ?_ | refine block_pass rfl ?_)
              obtain rfl := Option.some.inj h
              exact end0 rfl (.refl _)
          · refine o_skip rfl rfl rfl h5 rfl rfl ?_
            refine o_skip rfl rfl rfl h5 rfl rfl ?_
            refine o_skip rfl rfl rfl h5 rfl rfl ?_
            refine o_skip rfl rfl rfl h5 rfl rfl ?_
            refine o_skip rfl rfl rfl h5 rfl rfl ?_
            refine o_pk (.t (.d (.lit (.bool false)))) (b := false) h5 (g0 rfl) rfl rfl rfl rfl rfl ?_
            refine o_s (.t (.d (.lit (.bool false)))) (g0 rfl) rfl rfl rfl ?_
            refine o_skip rfl rfl rfl rfl rfl rfl ?_
            refine o_skip rfl rfl rfl rfl rfl rfl ?_
            refine o_skip rfl rfl rfl rfl rfl rfl ?_
            refine o_skip rfl rfl rfl rfl rfl rfl ?_
            refine o_skip rfl rfl rfl rfl rfl rfl ?_
            refine o_pk (.t (.d (.lit (.bool false)))) (b := false) rfl (g0 rfl) rfl rfl rfl rfl rfl ?_
            refine o_s (.t (.d (.lit (.bool false)))) (g0 rfl) rfl rfl rfl ?_
            refine o_skip rfl rfl rfl rfl rfl rfl ?_
            refine o_skip rfl rfl rfl rfl rfl rfl ?_
            refine o_skip rfl rfl rfl rfl rfl rfl ?_
            refine o_skip rfl rfl rfl rfl rfl rfl ?_
            refine o_skip rfl rfl rfl rfl rfl rfl ?_
            refine o_pk (.t (.d (.lit (.bool false)))) (b := false) rfl (g0 rfl) rfl rfl rfl rfl rfl ?_
            refine o_s (.t (.d (.lit (.bool false)))) (g0 rfl) rfl rfl rfl ?_
            refine o_nil ?_
            repeat (first | refine then_normal ?_ | refine then_exit ?_ | refine then_ret ?_ | refine block_normal ?_ | refine block_ret ?_ | refine block_exit ?_ | refine block_pass rfl ?_)
            refine c_ret ?_
            repeat (first | refine then_normal ?_ | refine then_exit ?_ | refine then_ret ?_ | refine block_normal ?_ | refine block_ret ?_ | refine block_exit ?_ | refine block_pass rfl ?_)
            obtain rfl := Option.some.inj h
            exact end0 rfl (.refl _)
        · refine o_skip rfl rfl rfl h4 rfl rfl ?_
          refine o_skip rfl rfl rfl h4 rfl rfl ?_
          refine o_skip rfl rfl rfl h4 rfl rfl ?_
          refine o_skip rfl rfl rfl h4 rfl rfl ?_
          refine o_skip rfl rfl rfl h4 rfl rfl ?_
          refine o_pk (.t (.d (.lit (.bool false)))) (b := false) h4 (g0 rfl) rfl rfl rfl rfl rfl ?_
          refine o_s (.t (.d (.lit (.bool false)))) (g0 rfl) rfl rfl rfl ?_
          refine o_skip rfl rfl rfl rfl rfl rfl ?_
          refine o_skip rfl rfl rfl rfl rfl rfl ?_
          refine o_skip rfl rfl rfl rfl rfl rfl ?_
          refine o_skip rfl rfl rfl rfl rfl rfl ?_
          refine o_skip rfl rfl rfl rfl rfl rfl ?_
          refine o_pk (.t (.d (.lit (.bool false)))) (b := false) rfl (g0 rfl) rfl rfl rfl rfl rfl ?_
          refine o_s (.t (.d (.lit (.bool false)))) (g0 rfl) rfl rfl rfl ?_
          refine o_skip rfl rfl rfl rfl rfl rfl ?_
          refine o_skip rfl rfl rfl rfl rfl rfl ?_
          refine o_skip rfl rfl rfl rfl rfl rfl ?_
          refine o_skip rfl rfl rfl rfl rfl rfl ?_
          refine o_skip rfl rfl rfl rfl rfl rfl ?_
          refine o_pk (.t (.d (.lit (.bool false)))) (b := false) rfl (g0 rfl) rfl rfl rfl rfl rfl ?_
          refine o_s (.t (.d (.lit (.bool false)))) (g0 rfl) rfl rfl rfl ?_
          refine o_skip rfl rfl rfl rfl rfl rfl ?_
          refine o_skip rfl rfl rfl rfl rfl rfl ?_
          refine o_skip rfl rfl rfl rfl rfl rfl ?_
          refine o_skip rfl rfl rfl rfl rfl rfl ?_
          refine o_skip rfl rfl rfl rfl rfl rfl ?_
          refine o_pk (.t (.d (.lit (.bool false)))) (b := false) rfl (g0 rfl) rfl rfl rfl rfl rfl ?_
          refine o_s (.t (.d (.lit (.bool false)))) (g0 rfl) rfl rfl rfl ?_
          refine o_nil ?_
          repeat (first | refine then_normal ?_ | refine then_exit ?_ | refine then_ret ?_ | refine block_normal ?_ | refine block_ret ?_ | refine block_exit ?_ | refine block_pass rfl ?_)
          refine c_ret ?_
          repeat (first | refine then_normal ?_ | refine then_exit ?_ | refine then_ret ?_ | refine block_normal ?_ | refine block_ret ?_ | refine block_exit ?_ | refine block_pass rfl ?_)
          obtain rfl := Option.some.inj h
          exact end0 rfl (.refl _)
      · refine o_skip rfl rfl rfl h3 rfl rfl ?_
        refine o_skip rfl rfl rfl h3 rfl rfl ?_
        refine o_skip rfl rfl rfl h3 rfl rfl ?_
        refine o_skip rfl rfl rfl h3 rfl rfl ?_
        refine o_skip rfl rfl rfl h3 rfl rfl ?_
        refine o_pk (.t (.d (.lit (.bool false)))) (b := false) h3 (g0 rfl) rfl rfl rfl rfl rfl ?_
        refine o_s (.t (.d (.lit (.bool false)))) (g0 rfl) rfl rfl rfl ?_
        refine o_skip rfl rfl rfl rfl rfl rfl ?_
        refine o_skip rfl rfl rfl rfl rfl rfl ?_
        refine o_skip rfl rfl rfl rfl rfl rfl ?_
        refine o_skip rfl rfl rfl rfl rfl rfl ?_
        refine o_skip rfl rfl rfl rfl rfl rfl ?_
        refine o_pk (.t (.d (.lit (.bool false)))) (b := false) rfl (g0 rfl) rfl rfl rfl rfl rfl ?_
        refine o_s (.t (.d (.lit (.bool false)))) (g0 rfl) rfl rfl rfl ?_
        refine o_skip rfl rfl rfl rfl rfl rfl ?_
        refine o_skip rfl rfl rfl rfl rfl rfl ?_
        refine o_skip rfl rfl rfl rfl rfl rfl ?_
        refine o_skip rfl rfl rfl rfl rfl rfl ?_
        refine o_skip rfl rfl rfl rfl rfl rfl ?_
        refine o_pk (.t (.d (.lit (.bool false)))) (b := false) rfl (g0 rfl) rfl rfl rfl rfl rfl ?_
        refine o_s (.t (.d (.lit (.bool false)))) (g0 rfl) rfl rfl rfl ?_
        refine o_skip rfl rfl rfl rfl rfl rfl ?_
        refine o_skip rfl rfl rfl rfl rfl rfl ?_
        refine o_skip rfl rfl rfl rfl rfl rfl ?_
        refine o_skip rfl rfl rfl rfl rfl rfl ?_
        refine o_skip rfl rfl rfl rfl rfl rfl ?_
        refine o_pk (.t (.d (.lit (.bool false)))) (b := false) rfl (g0 rfl) rfl rfl rfl rfl rfl ?_
        refine o_s (.t (.d (.lit (.bool false)))) (g0 rfl) rfl rfl rfl ?_
        refine o_skip rfl rfl rfl rfl rfl rfl ?_
        refine o_skip rfl rfl rfl rfl rfl rfl ?_
        refine o_skip rfl rfl rfl rfl rfl rfl ?_
        refine o_skip rfl rfl rfl rfl rfl rfl ?_
        refine o_skip rfl rfl rfl rfl rfl rfl ?_
        refine o_pk (.t (.d (.lit (.bool false)))) (b := false) rfl (g0 rfl) rfl rfl rfl rfl rfl ?_
        refine o_s (.t (.d (.lit (.bool false)))) (g0 rfl) rfl rfl rfl ?_
        refine o_nil ?_
        repeat (first | refine then_normal ?_ | refine then_exit ?_ | refine then_ret ?_ | refine block_normal ?_ | refine block_ret ?_ | refine block_exit ?_ | refine block_pass rfl ?_)
        refine c_ret ?_
        repeat (first | refine then_normal ?_ | refine then_exit ?_ | refine then_ret ?_ | refine block_normal ?_ | refine block_ret ?_ | refine block_exit ?_ | refine block_pass rfl ?_)
        obtain rfl := Option.some.inj h
        exact end0 rfl (.refl _)
    · refine o_skip rfl rfl rfl h2 rfl rfl ?_
      refine o_skip rfl rfl rfl h2 rfl rfl ?_
      refine o_skip rfl rfl rfl h2 rfl rfl ?_
      refine o_skip rfl rfl rfl h2 rfl rfl ?_
      refine o_skip rfl rfl rfl h2 rfl rfl ?_
      refine o_pk (.t (.d (.lit (.bool false)))) (b := false) h2 (g0 rfl) rfl rfl rfl rfl rfl ?_
      refine o_s (.t (.d (.lit (.bool false)))) (g0 rfl) rfl rfl rfl ?_
      refine o_skip rfl rfl rfl rfl rfl rfl ?_
      refine o_skip rfl rfl rfl rfl rfl rfl ?_
      refine o_skip rfl rfl rfl rfl rfl rfl ?_
      refine o_skip rfl rfl rfl rfl rfl rfl ?_
      refine o_skip rfl rfl rfl rfl rfl rfl ?_
      refine o_pk (.t (.d (.lit (.bool false)))) (b := false) rfl (g0 rfl) rfl rfl rfl rfl rfl ?_
      refine o_s (.t (.d (.lit (.bool false)))) (g0 rfl) rfl rfl rfl ?_
      refine o_skip rfl rfl rfl rfl rfl rfl ?_
      refine o_skip rfl rfl rfl rfl rfl rfl ?_
      refine o_skip rfl rfl rfl rfl rfl rfl ?_
      refine o_skip rfl rfl rfl rfl rfl rfl ?_
      refine o_skip rfl rfl rfl rfl rfl rfl ?_
      refine o_pk (.t (.d (.lit (.bool false)))) (b := false) rfl (g0 rfl) rfl rfl rfl rfl rfl ?_
      refine o_s (.t (.d (.lit (.bool false)))) (g0 rfl) rfl rfl rfl ?_
      refine o_skip rfl rfl rfl rfl rfl rfl ?_
      refine o_skip rfl rfl rfl rfl rfl rfl ?_
      refine o_skip rfl rfl rfl rfl rfl rfl ?_
      refine o_skip rfl rfl rfl rfl rfl rfl ?_
      refine o_skip rfl rfl rfl rfl rfl rfl ?_
      refine o_pk (.t (.d (.lit (.bool false)))) (b := false) rfl (g0 rfl) rfl rfl rfl rfl rfl ?_
      refine o_s (.t (.d (.lit (.bool false)))) (g0 rfl) rfl rfl rfl ?_
      refine o_skip rfl rfl rfl rfl rfl rfl ?_
      refine o_skip rfl rfl rfl rfl rfl rfl ?_
      refine o_skip rfl rfl rfl rfl rfl rfl ?_
      refine o_skip rfl rfl rfl rfl rfl rfl ?_
      refine o_skip rfl rfl rfl rfl rfl rfl ?_
      refine o_pk (.t (.d (.lit (.bool false)))) (b := false) rfl (g0 rfl) rfl rfl rfl rfl rfl ?_
      refine o_s (.t (.d (.lit (.bool false)))) (g0 rfl) rfl rfl rfl ?_
      refine o_skip rfl rfl rfl rfl rfl rfl ?_
      refine o_skip rfl rfl rfl rfl rfl rfl ?_
      refine o_skip rfl rfl rfl rfl rfl rfl ?_
      refine o_skip rfl rfl rfl rfl rfl rfl ?_
      refine o_skip rfl rfl rfl rfl rfl rfl ?_
      refine o_pk (.t (.d (.lit (.bool false)))) (b := false) rfl (g0 rfl) rfl rfl rfl rfl rfl ?_
      refine o_s (.t (.d (.lit (.bool false)))) (g0 rfl) rfl rfl rfl ?_
      refine o_nil ?_
      repeat (first | refine then_normal ?_ | refine then_exit ?_ | refine then_ret ?_ | refine block_normal ?_ | refine block_ret ?_ | refine block_exit ?_ | refine block_pass rfl ?_)
      refine c_ret ?_
      repeat (first | refine then_normal ?_ | refine then_exit ?_ | refine then_ret ?_ | refine block_normal ?_ | refine block_ret ?_ | refine block_exit ?_ | refine block_pass rfl ?_)
      obtain rfl := Option.some.inj h
      exact end0 rfl (.refl _)
  · refine o_skip rfl rfl rfl h1 rfl rfl ?_
    refine o_skip rfl rfl rfl h1 rfl rfl ?_
    refine o_skip rfl rfl rfl h1 rfl rfl ?_
    refine o_skip rfl rfl rfl h1 rfl rfl ?_
    refine o_skip rfl rfl rfl h1 rfl rfl ?_
    refine o_pk (.t (.d (.lit (.bool false)))) (b := false) h1 (g0 rfl) rfl rfl rfl rfl rfl ?_
    refine o_s (.t (.d (.lit (.bool false)))) (g0 rfl) rfl rfl rfl ?_
    refine o_skip rfl rfl rfl rfl rfl rfl ?_
    refine o_skip rfl rfl rfl rfl rfl rfl ?_
    refine o_skip rfl rfl rfl rfl rfl rfl ?_
    refine o_skip rfl rfl rfl rfl rfl rfl ?_
    refine o_skip rfl rfl rfl rfl rfl rfl ?_
    refine o_pk (.t (.d (.lit (.bool false)))) (b := false) rfl (g0 rfl) rfl rfl rfl rfl rfl ?_
    refine o_s (.t (.d (.lit (.bool false)))) (g0 rfl) rfl rfl rfl ?_
    refine o_skip rfl rfl rfl rfl rfl rfl ?_
    refine o_skip rfl rfl rfl rfl rfl rfl ?_
    refine o_skip rfl rfl rfl rfl rfl rfl ?_
    refine o_skip rfl rfl rfl rfl rfl rfl ?_
    refine o_skip rfl rfl rfl rfl rfl rfl ?_
    refine o_pk (.t (.d (.lit (.bool false)))) (b := false) rfl (g0 rfl) rfl rfl rfl rfl rfl ?_
    refine o_s (.t (.d (.lit (.bool false)))) (g0 rfl) rfl rfl rfl ?_
    refine o_skip rfl rfl rfl rfl rfl rfl ?_
    refine o_skip rfl rfl rfl rfl rfl rfl ?_
    refine o_skip rfl rfl rfl rfl rfl rfl ?_
    refine o_skip rfl rfl rfl rfl rfl rfl ?_
    refine o_skip rfl rfl rfl rfl rfl rfl ?_
    refine o_pk (.t (.d (.lit (.bool false)))) (b := false) rfl (g0 rfl) rfl rfl rfl rfl rfl ?_
    refine o_s (.t (.d (.lit (.bool false)))) (g0 rfl) rfl rfl rfl ?_
    refine o_skip rfl rfl rfl rfl rfl rfl ?_
    refine o_skip rfl rfl rfl rfl rfl rfl ?_
    refine o_skip rfl rfl rfl rfl rfl rfl ?_
    refine o_skip rfl rfl rfl rfl rfl rfl ?_
    refine o_skip rfl rfl rfl rfl rfl rfl ?_
    refine o_pk (.t (.d (.lit (.bool false)))) (b := false) rfl (g0 rfl) rfl rfl rfl rfl rfl ?_
    refine o_s (.t (.d (.lit (.bool false)))) (g0 rfl) rfl rfl rfl ?_
    refine o_skip rfl rfl rfl rfl rfl rfl ?_
    refine o_skip rfl rfl rfl rfl rfl rfl ?_
    refine o_skip rfl rfl rfl rfl rfl rfl ?_
    refine o_skip rfl rfl rfl rfl rfl rfl ?_
    refine o_skip rfl rfl rfl rfl rfl rfl ?_
    refine o_pk (.t (.d (.lit (.bool false)))) (b := false) rfl (g0 rfl) rfl rfl rfl rfl rfl ?_
    refine o_s (.t (.d (.lit (.bool false)))) (g0 rfl) rfl rfl rfl ?_
    refine o_skip rfl rfl rfl rfl rfl rfl ?_
    refine o_skip rfl rfl rfl rfl rfl rfl ?_
    refine o_skip rfl rfl rfl rfl rfl rfl ?_
    refine o_skip rfl rfl rfl rfl rfl rfl ?_
    refine o_skip rfl rfl rfl rfl rfl rfl ?_
    refine o_pk (.t (.d (.lit (.bool false)))) (b := false) rfl (g0 rfl) rfl rfl rfl rfl rfl ?_
    refine o_s (.t (.d (.lit (.bool false)))) (g0 rfl) rfl rfl rfl ?_
    refine o_nil ?_
    repeat (first | refine then_normal ?_ | refine then_exit ?_ | refine then_ret ?_ | refine block_normal ?_ | refine block_ret ?_ | refine block_exit ?_ | refine block_pass rfl ?_)
    refine c_ret ?_
    repeat (first | refine then_normal ?_ | refine then_exit ?_ | refine then_ret ?_ | refine block_normal ?_ | refine block_ret ?_ | refine block_exit ?_ | refine block_pass rfl ?_)
    obtain rfl := Option.some.inj h
    exact end0 rfl (.refl _)

theorem fc_call_Writes (p0 : Int) (r : Bool) (h : m_call_Writes p0 = some r) : FC Tryd.prog 11 [.t (.d (.lit (.int .i64 p0)))] [] (.t (.d (.lit (.bool r)))) := by
  refine fc_mk (rs := [.tmp 2]) (n := 13) Tryd.func11 rfl rfl (Nat.le_of_ble_eq_true rfl) rfl (pins := []) rfl (L := [(0, .t (.d (.lit (.int .i64 p0))))]) rfl ?_
  refine c_seq ?_
  refine c_region ?_
  refine o_s (.t (.d (.lit (.bool false)))) (g0 rfl) rfl rfl rfl ?_
  refine o_nil ?_
  repeat (first | refine then_normal ?_ | refine then_exit ?_ | refine then_ret ?_ | refine block_normal ?_ | refine block_ret ?_ | refine block_exit ?_ | refine block_pass rfl ?_)
  refine c_seq ?_
  refine c_region ?_
  refine o_s (.t (.d (.lit (.int .i64 p0)))) (g0 rfl) rfl rfl rfl ?_
  refine o_s (.t (.d (.lit (.bool (decide (p0 ≥ 2)))))) (g0 rfl) rfl rfl rfl ?_
  refine o_s (.t (.d (.lit (.bool (decide (p0 ≥ 2)))))) (g0 rfl) rfl rfl rfl ?_
  rcases bif_some h with ⟨h1, h⟩ | ⟨h1, h⟩
  · refine o_s (.t (.d (.lit (.int .i64 p0)))) (gy rfl rfl rfl h1) rfl rfl rfl ?_
    refine o_s (.t (.d (.lit (.bool (decide (p0 ≤ 8)))))) (gy rfl rfl rfl h1) rfl rfl rfl ?_
    refine o_pk (.t (.d (.lit (.bool (decide (p0 ≤ 8)))))) (b := true) h1 (g0 rfl) rfl rfl rfl rfl rfl ?_
    refine o_s (.t (.d (.lit (.bool (decide (p0 ≤ 8)))))) (g0 rfl) rfl rfl rfl ?_
    rcases bif_some h with ⟨h2, h⟩ | ⟨h2, h⟩
    · refine o_skip rfl rfl rfl h2 rfl rfl ?_
      refine o_skip rfl rfl rfl h2 rfl rfl ?_
      refine o_pk (.t (.d (.lit (.bool true)))) (b := true) h2 (g0 rfl) rfl rfl rfl rfl rfl ?_
      refine o_s (.t (.d (.lit (.bool true)))) (g0 rfl) rfl rfl rfl ?_
      refine o_nil ?_
      repeat (first | refine then_normal ?_ | refine then_exit ?_ | refine then_ret ?_ | refine block_normal ?_ | refine block_ret ?_ | refine block_exit ?_ | refine block_pass rfl ?_)
      refine c_ret ?_
      repeat (first | refine then_normal ?_ | refine then_exit ?_ | refine then_ret ?_ | refine block_normal ?_ | refine block_ret ?_ | refine block_exit ?_ | refine block_pass rfl ?_)
      obtain rfl := Option.some.inj h
      exact end0 rfl (.refl _)
    · refine o_s (.t (.d (.lit (.int .i64 p0)))) (gy rfl rfl rfl h2) rfl rfl rfl ?_
      refine o_s (.t (.d (.lit (.bool (p0 == 11))))) (gy rfl rfl rfl h2) rfl rfl rfl ?_
      refine o_pk (.t (.d (.lit (.bool (p0 == 11))))) (b := false) h2 (g0 rfl) rfl rfl rfl rfl rfl ?_
      refine o_s (.t (.d (.lit (.bool (p0 == 11))))) (g0 rfl) rfl rfl rfl ?_
      refine o_nil ?_
      repeat (first | refine then_normal ?_ | refine then_exit ?_ | refine then_ret ?_ | refine block_normal ?_ | refine block_ret ?_ | refine block_exit ?_ | refine block_pass rfl ?_)
      refine c_ret ?_
      repeat (first | refine then_normal ?_ | refine then_exit ?_ | refine then_ret ?_ | refine block_normal ?_ | refine block_ret ?_ | refine block_exit ?_ | refine block_pass rfl ?_)
      obtain rfl := Option.some.inj h
      exact end0 rfl (.refl _)
  · refine o_skip rfl rfl rfl h1 rfl rfl ?_
    refine o_skip rfl rfl rfl h1 rfl rfl ?_
    refine o_pk (.t (.d (.lit (.bool false)))) (b := false) h1 (g0 rfl) rfl rfl rfl rfl rfl ?_
    refine o_s (.t (.d (.lit (.bool false)))) (g0 rfl) rfl rfl rfl ?_
    refine o_s (.t (.d (.lit (.int .i64 p0)))) (gy rfl rfl rfl rfl) rfl rfl rfl ?_
    refine o_s (.t (.d (.lit (.bool (p0 == 11))))) (gy rfl rfl rfl rfl) rfl rfl rfl ?_
    refine o_pk (.t (.d (.lit (.bool (p0 == 11))))) (b := false) rfl (g0 rfl) rfl rfl rfl rfl rfl ?_
    refine o_s (.t (.d (.lit (.bool (p0 == 11))))) (g0 rfl) rfl rfl rfl ?_
    refine o_nil ?_
    repeat (first | refine then_normal ?_ | refine then_exit ?_ | refine then_ret ?_ | refine block_normal ?_ | refine block_ret ?_ | refine block_exit ?_ | refine block_pass rfl ?_)
    refine c_ret ?_
    repeat (first | refine then_normal ?_ | refine then_exit ?_ | refine then_ret ?_ | refine block_normal ?_ | refine block_ret ?_ | refine block_exit ?_ | refine block_pass rfl ?_)
    obtain rfl := Option.some.inj h
    exact end0 rfl (.refl _)

theorem fc_L30_CallSame (p0 : S_api_Call) (p1 : S_api_Call) (p2 : Int) (r : Bool) (h : m_L30_CallSame p0 p1 p2 = some r) : FC Tryd.prog 3 [.t (.agg [.lit (.int .i64 p0.Kind), .lit (.string ⟨⟨p0.User⟩⟩), .lit (.string ⟨⟨p0.Folder⟩⟩), .lit (.string ⟨⟨p0.Name⟩⟩), .lit (.string ⟨⟨p0.Other⟩⟩), .lit (.int .i64 p0.Role), .lit (.int .i64 p0.Version), .seq 1 (bytesD p0.Data)]), .t (.agg [.lit (.int .i64 p1.Kind), .lit (.string ⟨⟨p1.User⟩⟩), .lit (.string ⟨⟨p1.Folder⟩⟩), .lit (.string ⟨⟨p1.Name⟩⟩), .lit (.string ⟨⟨p1.Other⟩⟩), .lit (.int .i64 p1.Role), .lit (.int .i64 p1.Version), .seq 1 (bytesD p1.Data)]), .t (.d (.lit (.int .i64 p2)))] [] (.t (.d (.lit (.bool r)))) := by
  refine fc_mk (rs := [.tmp 6]) (n := 50) Tryd.func3 rfl rfl (Nat.le_of_ble_eq_true rfl) rfl (pins := []) rfl (L := [(0, .t (.agg [.lit (.int .i64 p0.Kind), .lit (.string ⟨⟨p0.User⟩⟩), .lit (.string ⟨⟨p0.Folder⟩⟩), .lit (.string ⟨⟨p0.Name⟩⟩), .lit (.string ⟨⟨p0.Other⟩⟩), .lit (.int .i64 p0.Role), .lit (.int .i64 p0.Version), .seq 1 (bytesD p0.Data)])), (1, .t (.agg [.lit (.int .i64 p1.Kind), .lit (.string ⟨⟨p1.User⟩⟩), .lit (.string ⟨⟨p1.Folder⟩⟩), .lit (.string ⟨⟨p1.Name⟩⟩), .lit (.string ⟨⟨p1.Other⟩⟩), .lit (.int .i64 p1.Role), .lit (.int .i64 p1.Version), .seq 1 (bytesD p1.Data)])), (2, .t (.d (.lit (.int .i64 p2))))]) rfl ?_
  refine c_seq ?_
  refine c_region ?_
  refine o_s (.box [.d (.lit (.int .i64 p0.Kind)), .d (.lit (.string ⟨⟨p0.User⟩⟩)), .d (.lit (.string ⟨⟨p0.Folder⟩⟩)), .d (.lit (.string ⟨⟨p0.Name⟩⟩)), .d (.lit (.string ⟨⟨p0.Other⟩⟩)), .d (.lit (.int .i64 p0.Role)), .d (.lit (.int .i64 p0.Version)), .d (.seq 1 (bytesD p0.Data))]) (g0 rfl) rfl rfl rfl ?_
  refine o_s (.box [.d (.lit (.int .i64 p1.Kind)), .d (.lit (.string ⟨⟨p1.User⟩⟩)), .d (.lit (.string ⟨⟨p1.Folder⟩⟩)), .d (.lit (.string ⟨⟨p1.Name⟩⟩)), .d (.lit (.string ⟨⟨p1.Other⟩⟩)), .d (.lit (.int .i64 p1.Role)), .d (.lit (.int .i64 p1.Version)), .d (.seq 1 (bytesD p1.Data))]) (g0 rfl) rfl rfl rfl ?_
  refine o_s (.t (.d (.lit (.bool false)))) (g0 rfl) rfl rfl rfl ?_
  refine o_nil ?_
  repeat (first | refine then_normal ?_ | refine then_exit ?_ | refine then_ret ?_ | refine block_normal ?_ | refine block_ret ?_ | refine block_exit ?_ | refine block_pass rfl ?_)
  refine c_seq ?_
  refine c_seq ?_
  refine c_region ?_
  obtain ⟨x1, h2, h⟩ := bind_some h
  refine o_ca (fc_L30_awake _ h2) (g0 rfl) rfl rfl rfl rfl rfl rfl rfl .nil rfl rfl ?_
  refine o_s (.t (.d (.lit (.bool (!x1))))) (g0 rfl) rfl rfl rfl ?_
  refine o_nil ?_
  repeat (first | refine then_normal ?_ | refine then_exit ?_ | refine then_ret ?_ | refine block_normal ?_ | refine block_ret ?_ | refine block_exit ?_ | refine block_pass rfl ?_)
  rcases bif_some h with ⟨h3, h⟩ | ⟨h3, h⟩
  · refine c_t h3 rfl ?_
    refine c_seq ?_
    refine c_region ?_
    refine o_s (.t (.d (.lit (.bool false)))) (g0 rfl) rfl rfl rfl ?_
    refine o_nil ?_
    repeat (first | refine then_normal ?_ | refine then_exit ?_ | refine then_ret ?_ | refine block_normal ?_ | refine block_ret ?_ | refine block_exit ?_ | refine block_pass rfl ?_)
    refine c_ret ?_
    repeat (first | refine then_normal ?_ | refine then_exit ?_ | refine then_ret ?_ | refine block_normal ?_ | refine block_ret ?_ | refine block_exit ?_ | refine block_pass rfl ?_)
    obtain rfl := Option.some.inj h
    exact end0 rfl (.refl _)
  · refine c_f h3 rfl ?_
    refine c_skip ?_
    repeat (first | refine then_normal ?_ | refine then_exit ?_ | refine then_ret ?_ | refine block_normal ?_ | refine block_ret ?_ | refine block_exit ?_ | refine block_pass rfl ?_)
    refine c_seq ?_
    refine c_seq ?_
    refine c_region ?_
    refine o_s (.t (.agg [.lit (.int .i64 p0.Kind), .lit (.string ⟨⟨p0.User⟩⟩), .lit (.string ⟨⟨p0.Folder⟩⟩), .lit (.string ⟨⟨p0.Name⟩⟩), .lit (.string ⟨⟨p0.Other⟩⟩), .lit (.int .i64 p0.Role), .lit (.int .i64 p0.Version), .seq 1 (bytesD p0.Data)])) (g0 rfl) rfl rfl rfl ?_
    obtain ⟨x4, h5, h⟩ := bind_some h
    refine o_ca (fc_L30_Few _ _ h5) (g0 rfl) rfl rfl rfl rfl rfl rfl rfl (.cons (.refl _) .nil) rfl rfl ?_
    refine o_s (.t (.d (.lit (.bool (!x4))))) (g0 rfl) rfl rfl rfl ?_
    refine o_s (.t (.d (.lit (.bool (!x4))))) (g0 rfl) rfl rfl rfl ?_
    rcases bif_some h with ⟨h6, h⟩ | ⟨h6, h⟩
    · refine o_skip rfl rfl rfl h6 rfl rfl ?_
      refine o_skip rfl rfl rfl h6 rfl rfl ?_
      refine o_skip rfl rfl rfl h6 rfl rfl ?_
      refine o_pk (.t (.d (.lit (.bool true)))) (b := true) h6 (g0 rfl) rfl rfl rfl rfl rfl ?_
      refine o_nil ?_
      repeat (first | refine then_normal ?_ | refine then_exit ?_ | refine then_ret ?_ | refine block_normal ?_ | refine block_ret ?_ | refine block_exit ?_ | refine block_pass rfl ?_)
      refine c_t rfl rfl ?_
      refine c_seq ?_
      refine c_region ?_
      refine o_s (.t (.d (.lit (.bool true)))) (g0 rfl) rfl rfl rfl ?_
      refine o_nil ?_
      repeat (first | refine then_normal ?_ | refine then_exit ?_ | refine then_ret ?_ | refine block_normal ?_ | refine block_ret ?_ | refine block_exit ?_ | refine block_pass rfl ?_)
      refine c_ret ?_
      repeat (first | refine then_normal ?_ | refine then_exit ?_ | refine then_ret ?_ | refine block_normal ?_ | refine block_ret ?_ | refine block_exit ?_ | refine block_pass rfl ?_)
      obtain rfl := Option.some.inj h
      exact end0 rfl (.refl _)
    · refine o_s (.t (.agg [.lit (.int .i64 p1.Kind), .lit (.string ⟨⟨p1.User⟩⟩), .lit (.string ⟨⟨p1.Folder⟩⟩), .lit (.string ⟨⟨p1.Name⟩⟩), .lit (.string ⟨⟨p1.Other⟩⟩), .lit (.int .i64 p1.Role), .lit (.int .i64 p1.Version), .seq 1 (bytesD p1.Data)])) (gy rfl rfl rfl h6) rfl rfl rfl ?_
      obtain ⟨x7, h8, h⟩ := bind_some h
      refine o_ca (fc_L30_Few _ _ h8) (gy rfl rfl rfl h6) rfl rfl rfl rfl rfl rfl rfl (.cons (.refl _) .nil) rfl rfl ?_
      refine o_s (.t (.d (.lit (.bool (!x7))))) (gy rfl rfl rfl h6) rfl rfl rfl ?_
      refine o_pk (.t (.d (.lit (.bool (!x7))))) (b := false) h6 (g0 rfl) rfl rfl rfl rfl rfl ?_
      refine o_nil ?_
      repeat (first | refine then_normal ?_ | refine then_exit ?_ | refine then_ret ?_ | refine block_normal ?_ | refine block_ret ?_ | refine block_exit ?_ | refine block_pass rfl ?_)
      rcases bif_some h with ⟨h9, h⟩ | ⟨h9, h⟩
      · refine c_t h9 rfl ?_
        refine c_seq ?_
        refine c_region ?_
        refine o_s (.t (.d (.lit (.bool true)))) (g0 rfl) rfl rfl rfl ?_
        refine o_nil ?_
        repeat (first | refine then_normal ?_ | refine then_exit ?_ | refine then_ret ?_ | refine block_normal ?_ | refine block_ret ?_ | refine block_exit ?_ | refine block_pass rfl ?_)
        refine c_ret ?_
        repeat (first | refine then_normal ?_ | refine then_exit ?_ | refine then_ret ?_ | refine block_normal ?_ | refine block_ret ?_ | refine block_exit ?_ | refine block_pass rfl ?_)
        obtain rfl := Option.some.inj h
        exact end0 rfl (.refl _)
      · refine c_f h9 rfl ?_
        refine c_skip ?_
        repeat (first | refine then_normal ?_ | refine then_exit ?_ | refine then_ret ?_ | refine block_normal ?_ | refine block_ret ?_ | refine block_exit ?_ | refine block_pass rfl ?_)
        refine c_cut (fun (y10 : Bool) => [(2, .t (.d (.lit (.int .i64 p2)))), (3, .box [.d (.lit (.int .i64 p0.Kind)), .d (.lit (.string ⟨⟨p0.User⟩⟩)), .d (.lit (.string ⟨⟨p0.Folder⟩⟩)), .d (.lit (.string ⟨⟨p0.Name⟩⟩)), .d (.lit (.string ⟨⟨p0.Other⟩⟩)), .d (.lit (.int .i64 p0.Role)), .d (.lit (.int .i64 p0.Version)), .d (.seq 1 (bytesD p0.Data))]), (4, .box [.d (.lit (.int .i64 p1.Kind)), .d (.lit (.string ⟨⟨p1.User⟩⟩)), .d (.lit (.string ⟨⟨p1.Folder⟩⟩)), .d (.lit (.string ⟨⟨p1.Name⟩⟩)), .d (.lit (.string ⟨⟨p1.Other⟩⟩)), .d (.lit (.int .i64 p1.Role)), .d (.lit (.int .i64 p1.Version)), .d (.seq 1 (bytesD p1.Data))]), (7, .t (.d (.lit (.bool y10))))]) (fun (y10 : Bool) => m_L30_CallSame_j1 p0 p1 p2 y10 = some r) ?_ ?_
        · refine c_region ?_
          refine o_s (.t (.d (.lit (.int .i64 p2)))) (g0 rfl) rfl rfl rfl ?_
          refine o_s (.t (.d (.lit (.bool (decide (p2 ≥ 2)))))) (g0 rfl) rfl rfl rfl ?_
          refine o_s (.t (.d (.lit (.bool (decide (p2 ≥ 2)))))) (g0 rfl) rfl rfl rfl ?_
          rcases bif_some h with ⟨h21, h⟩ | ⟨h21, h⟩
          · refine o_s (.t (.d (.lit (.int .i64 p2)))) (gy rfl rfl rfl h21) rfl rfl rfl ?_
            refine o_s (.t (.d (.lit (.bool (decide (p2 ≤ 11)))))) (gy rfl rfl rfl h21) rfl rfl rfl ?_
            refine o_pk (.t (.d (.lit (.bool (decide (p2 ≤ 11)))))) (b := true) h21 (g0 rfl) rfl rfl rfl rfl rfl ?_
            refine o_s (.t (.d (.lit (.bool (decide (p2 ≤ 11)))))) (g0 rfl) rfl rfl rfl ?_
            rcases bif_some h with ⟨h22, h⟩ | ⟨h22, h⟩
            · refine o_s (.t (.d (.lit (.int .i64 p2)))) (gy rfl rfl rfl h22) rfl rfl rfl ?_
              refine o_s (.t (.d (.lit (.bool (p2 != 9))))) (gy rfl rfl rfl h22) rfl rfl rfl ?_
              refine o_pk (.t (.d (.lit (.bool (p2 != 9))))) (b := true) h22 (g0 rfl) rfl rfl rfl rfl rfl ?_
              refine o_s (.t (.d (.lit (.bool (p2 != 9))))) (g0 rfl) rfl rfl rfl ?_
              rcases bif_some h with ⟨h23, h⟩ | ⟨h23, h⟩
              · refine o_s (.t (.d (.lit (.int .i64 p2)))) (gy rfl rfl rfl h23) rfl rfl rfl ?_
                refine o_s (.t (.d (.lit (.bool (p2 != 10))))) (gy rfl rfl rfl h23) rfl rfl rfl ?_
                refine o_pk (.t (.d (.lit (.bool (p2 != 10))))) (b := true) h23 (g0 rfl) rfl rfl rfl rfl rfl ?_
                refine o_s (.t (.d (.lit (.bool (p2 != 10))))) (g0 rfl) rfl rfl rfl ?_
                refine o_nil ?_
                repeat (first | refine then_normal ?_ | refine then_exit ?_ | refine then_ret ?_ | refine block_normal ?_ | refine block_ret ?_ | refine block_exit ?_ | refine block_pass rfl ?_)
                exact ⟨(p2 != 10), h, ⟨(.refl _), ⟨(.refl _), ⟨(.refl _), ⟨(.refl _), trivial⟩⟩⟩⟩, rfl⟩
              · refine o_skip rfl rfl rfl h23 rfl rfl ?_
                refine o_skip rfl rfl rfl h23 rfl rfl ?_
                refine o_pk (.t (.d (.lit (.bool false)))) (b := false) h23 (g0 rfl) rfl rfl rfl rfl rfl ?_
                refine o_s (.t (.d (.lit (.bool false)))) (g0 rfl) rfl rfl rfl ?_
                refine o_nil ?_
                repeat (first | refine then_normal ?_ | refine then_exit ?_ | refine then_ret ?_ | refine block_normal ?_ | refine block_ret ?_ | refine block_exit ?_ | refine block_pass rfl ?_)
                exact ⟨false, h, ⟨(.refl _), ⟨(.refl _), ⟨(.refl _), ⟨(.refl _), trivial⟩⟩⟩⟩, rfl⟩
            · refine o_skip rfl rfl rfl h22 rfl rfl ?_
              refine o_skip rfl rfl rfl h22 rfl rfl ?_
              refine o_pk (.t (.d (.lit (.bool false)))) (b := false) h22 (g0 rfl) rfl rfl rfl rfl rfl ?_
              refine o_s (.t (.d (.lit (.bool false)))) (g0 rfl) rfl rfl rfl ?_
              refine o_skip rfl rfl rfl rfl rfl rfl ?_
              refine o_skip rfl rfl rfl rfl rfl rfl ?_
              refine o_pk (.t (.d (.lit (.bool false)))) (b := false) rfl (g0 rfl) rfl rfl rfl rfl rfl ?_
              refine o_s (.t (.d (.lit (.bool false)))) (g0 rfl) rfl rfl rfl ?_
              refine o_nil ?_
              repeat (first | refine then_normal ?_ | refine then_exit ?_ | refine then_ret ?_ | refine block_normal ?_ | refine block_ret ?_ | refine block_exit ?_ | refine block_pass rfl ?_)
              exact ⟨false, h, ⟨(.refl _), ⟨(.refl _), ⟨(.refl _), ⟨(.refl _), trivial⟩⟩⟩⟩, rfl⟩
          · refine o_skip rfl rfl rfl h21 rfl rfl ?_
            refine o_skip rfl rfl rfl h21 rfl rfl ?_
            refine o_pk (.t (.d (.lit (.bool false)))) (b := false) h21 (g0 rfl) rfl rfl rfl rfl rfl ?_
            refine o_s (.t (.d (.lit (.bool false)))) (g0 rfl) rfl rfl rfl ?_
            refine o_skip rfl rfl rfl rfl rfl rfl ?_
            refine o_skip rfl rfl rfl rfl rfl rfl ?_
            refine o_pk (.t (.d (.lit (.bool false)))) (b := false) rfl (g0 rfl) rfl rfl rfl rfl rfl ?_
            refine o_s (.t (.d (.lit (.bool false)))) (g0 rfl) rfl rfl rfl ?_
            refine o_skip rfl rfl rfl rfl rfl rfl ?_
            refine o_skip rfl rfl rfl rfl rfl rfl ?_
            refine o_pk (.t (.d (.lit (.bool false)))) (b := false) rfl (g0 rfl) rfl rfl rfl rfl rfl ?_
            refine o_s (.t (.d (.lit (.bool false)))) (g0 rfl) rfl rfl rfl ?_
            refine o_nil ?_
            repeat (first | refine then_normal ?_ | refine then_exit ?_ | refine then_ret ?_ | refine block_normal ?_ | refine block_ret ?_ | refine block_exit ?_ | refine block_pass rfl ?_)
            exact ⟨false, h, ⟨(.refl _), ⟨(.refl _), ⟨(.refl _), ⟨(.refl _), trivial⟩⟩⟩⟩, rfl⟩
        · rintro y10 h
          refine c_seq ?_
          refine c_draw mixed (by kernel_rfl) ?_
          refine d_s (.t (.agg [.lit (.int .i64 p0.Kind), .lit (.string ⟨⟨p0.User⟩⟩), .lit (.string ⟨⟨p0.Folder⟩⟩), .lit (.string ⟨⟨p0.Name⟩⟩), .lit (.string ⟨⟨p0.Other⟩⟩), .lit (.int .i64 p0.Role), .lit (.int .i64 p0.Version), .seq 1 (bytesD p0.Data)])) rfl (dg0 rfl) rfl rfl rfl rfl ?_
          refine d_s (.t (.agg [.lit (.int .i64 p1.Kind), .lit (.string ⟨⟨p1.User⟩⟩), .lit (.string ⟨⟨p1.Folder⟩⟩), .lit (.string ⟨⟨p1.Name⟩⟩), .lit (.string ⟨⟨p1.Other⟩⟩), .lit (.int .i64 p1.Role), .lit (.int .i64 p1.Version), .seq 1 (bytesD p1.Data)])) rfl (dg0 rfl) rfl rfl rfl rfl ?_
          obtain ⟨x11, h12, h⟩ := bind_some h
          refine d_ca (fc_call_Same _ _ _ h12) rfl (dg0 rfl) rfl rfl rfl rfl rfl rfl rfl rfl (.cons (.refl _) (.cons (.refl _) .nil)) rfl rfl ?_
          refine d_s (.t (.agg [.lit (.int .i64 p0.Kind), .lit (.string ⟨⟨p0.User⟩⟩), .lit (.string ⟨⟨p0.Folder⟩⟩), .lit (.string ⟨⟨p0.Name⟩⟩), .lit (.string ⟨⟨p0.Other⟩⟩), .lit (.int .i64 p0.Role), .lit (.int .i64 p0.Version), .seq 1 (bytesD p0.Data)])) rfl (dg0 rfl) rfl rfl rfl rfl ?_
          refine d_s (.t (.agg [.lit (.int .i64 p1.Kind), .lit (.string ⟨⟨p1.User⟩⟩), .lit (.string ⟨⟨p1.Folder⟩⟩), .lit (.string ⟨⟨p1.Name⟩⟩), .lit (.string ⟨⟨p1.Other⟩⟩), .lit (.int .i64 p1.Role), .lit (.int .i64 p1.Version), .seq 1 (bytesD p1.Data)])) rfl (dg0 rfl) rfl rfl rfl rfl ?_
          obtain ⟨x13, h14, h⟩ := bind_some h
          refine d_ca (fc_R30_Same _ _ _ h14) rfl (dg0 rfl) rfl rfl rfl rfl rfl rfl rfl rfl (.cons (.refl _) (.cons (.refl _) .nil)) rfl rfl ?_
          refine d_s (.t (.d (.lit (.bool (x11 == x13))))) rfl (dg0 rfl) rfl rfl rfl rfl ?_
          refine d_s (.t (.d (.lit (.bool (x11 == x13))))) rfl (dg0 rfl) rfl rfl rfl rfl ?_
          rcases bif_some h with ⟨h15, h⟩ | ⟨h15, h⟩
          · refine d_s (.t (.agg [.lit (.int .i64 p0.Kind), .lit (.string ⟨⟨p0.User⟩⟩), .lit (.string ⟨⟨p0.Folder⟩⟩), .lit (.string ⟨⟨p0.Name⟩⟩), .lit (.string ⟨⟨p0.Other⟩⟩), .lit (.int .i64 p0.Role), .lit (.int .i64 p0.Version), .seq 1 (bytesD p0.Data)])) rfl (dgy rfl rfl rfl rfl h15) rfl rfl rfl rfl ?_
            refine d_s (.t (.agg [.lit (.int .i64 p0.Kind), .lit (.string ⟨⟨p0.User⟩⟩), .lit (.string ⟨⟨p0.Folder⟩⟩), .lit (.string ⟨⟨p0.Name⟩⟩), .lit (.string ⟨⟨p0.Other⟩⟩), .lit (.int .i64 p0.Role), .lit (.int .i64 p0.Version), .seq 1 (bytesD p0.Data)])) rfl (dgy rfl rfl rfl rfl h15) rfl rfl rfl rfl ?_
            obtain ⟨x16, h17, h⟩ := bind_some h
            refine d_ca (fc_call_Same _ _ _ h17) rfl (dgy rfl rfl rfl rfl h15) rfl rfl rfl rfl rfl rfl rfl rfl (.cons (.refl _) (.cons (.refl _) .nil)) rfl rfl ?_
            refine d_pk (.t (.d (.lit (.bool x16)))) (b := true) h15 rfl (dg0 rfl) rfl rfl rfl rfl rfl rfl ?_
            refine d_s (.t (.d (.lit (.bool x16)))) rfl (dg0 rfl) rfl rfl rfl rfl ?_
            rcases bif_some h with ⟨h18, h⟩ | ⟨h18, h⟩
            · refine d_s (.t (.d (.lit (.int .i64 p2)))) rfl (dgy rfl rfl rfl rfl h18) rfl rfl rfl rfl ?_
              obtain ⟨x19, h20, h⟩ := bind_some h
              refine d_ca (fc_call_Writes _ _ h20) rfl (dgy rfl rfl rfl rfl h18) rfl rfl rfl rfl rfl rfl rfl rfl (.cons (.refl _) .nil) rfl rfl ?_
              refine d_s (.t (.d (.lit (.bool y10)))) rfl (dgy rfl rfl rfl rfl h18) rfl rfl rfl rfl ?_
              refine d_s (.t (.d (.lit (.bool (x19 == y10))))) rfl (dgy rfl rfl rfl rfl h18) rfl rfl rfl rfl ?_
              refine d_pk (.t (.d (.lit (.bool (x19 == y10))))) (b := true) h18 rfl (dg0 rfl) rfl rfl rfl rfl rfl rfl ?_
              refine d_s (.t (.d (.lit (.bool (x19 == y10))))) rfl (dg0 rfl) rfl rfl rfl rfl ?_
              refine d_nil (by kernel_rfl) ?_
              repeat (first | refine then_normal ?_ | refine then_exit ?_ | refine then_ret ?_ | refine block_normal ?_ | refine block_ret ?_ | refine block_exit ?_ | refine block_pass rfl ?_)
              refine c_ret ?_
              repeat (first | refine then_normal ?_ | refine then_exit ?_ | refine then_ret ?_ | refine block_normal ?_ | refine block_ret ?_ | refine block_exit ?_ | refine block_pass rfl ?_)
              obtain rfl := Option.some.inj h
              exact end0 rfl (.refl _)
            · refine d_skip rfl rfl rfl rfl rfl h18 rfl rfl rfl ?_
              refine d_skip rfl rfl rfl rfl rfl h18 rfl rfl rfl ?_
              refine d_skip rfl rfl rfl rfl rfl h18 rfl rfl rfl ?_
              refine d_skip rfl rfl rfl rfl rfl h18 rfl rfl rfl ?_
              refine d_pk (.t (.d (.lit (.bool false)))) (b := false) h18 rfl (dg0 rfl) rfl rfl rfl rfl rfl rfl ?_
              refine d_s (.t (.d (.lit (.bool false)))) rfl (dg0 rfl) rfl rfl rfl rfl ?_
              refine d_nil (by kernel_rfl) ?_
              repeat (first | refine then_normal ?_ | refine then_exit ?_ | refine then_ret ?_ | refine block_normal ?_ | refine block_ret ?_ | refine block_exit ?_ | refine block_pass rfl ?_)
              refine c_ret ?_
              repeat (first | refine then_normal ?_ | refine then_exit ?_ | refine then_ret ?_ | refine block_normal ?_ | refine block_ret ?_ | refine block_exit ?_ | refine block_pass rfl ?_)
              obtain rfl := Option.some.inj h
              exact end0 rfl (.refl _)
          · refine d_skip rfl rfl rfl rfl rfl h15 rfl rfl rfl ?_
            refine d_skip rfl rfl rfl rfl rfl h15 rfl rfl rfl ?_
            refine d_skip rfl rfl rfl rfl rfl h15 rfl rfl rfl ?_
            refine d_pk (.t (.d (.lit (.bool false)))) (b := false) h15 rfl (dg0 rfl) rfl rfl rfl rfl rfl rfl ?_
            refine d_s (.t (.d (.lit (.bool false)))) rfl (dg0 rfl) rfl rfl rfl rfl ?_
            refine d_skip rfl rfl rfl rfl rfl rfl rfl rfl rfl ?_
            refine d_skip rfl rfl rfl rfl rfl rfl rfl rfl rfl ?_
            refine d_skip rfl rfl rfl rfl rfl rfl rfl rfl rfl ?_
            refine d_skip rfl rfl rfl rfl rfl rfl rfl rfl rfl ?_
            refine d_pk (.t (.d (.lit (.bool false)))) (b := false) rfl rfl (dg0 rfl) rfl rfl rfl rfl rfl rfl ?_
            refine d_s (.t (.d (.lit (.bool false)))) rfl (dg0 rfl) rfl rfl rfl rfl ?_
            refine d_nil (by kernel_rfl) ?_
            repeat (first | refine then_normal ?_ | refine then_exit ?_ | refine then_ret ?_ | refine block_normal ?_ | refine block_ret ?_ | refine block_exit ?_ | refine block_pass rfl ?_)
            refine c_ret ?_
            repeat (first | refine then_normal ?_ | refine then_exit ?_ | refine then_ret ?_ | refine block_normal ?_ | refine block_ret ?_ | refine block_exit ?_ | refine block_pass rfl ?_)
            obtain rfl := Option.some.inj h
            exact end0 rfl (.refl _)

end Go.Proofs.YtimdogdplphmoabDoor
