/-
  Walks of functions: each function does what its model tells. Printed by a program of this claim's own (gen.py) off the given translation.
-/
import Derived.Test.YtimdogdplphmoabAsM
import Derived.Test.YtimdogdplphmoabCbW
import Derived.Test.YtimdogdplphmoabClo
import Derived.Test.YtimdogdplphmoabAsWa
namespace Go.Proofs.Ytimdogdplphmoab
open Go Go.RowKit
set_option linter.unusedVariables false
set_option maxHeartbeats 4000000
set_option maxRecDepth 20000
theorem fc_R27_Same (p0 : (List S_api_Member)) (p1 : (List S_api_Member)) (r : Bool) (h : m_R27_Same p0 p1 = some r) : FC Try.prog 21 [.t (.d (.seq 2 (List.map cS_api_Member p0))), .t (.d (.seq 2 (List.map cS_api_Member p1)))] [] (.t (.d (.lit (.bool r)))) := by
  refine fc_mk (rs := [.tmp 4]) (n := 26) Try.func21 rfl rfl (Nat.le_of_ble_eq_true rfl) rfl (pins := []) rfl (L := [(0, .t (.d (.seq 2 (List.map cS_api_Member p0)))), (1, .t (.d (.seq 2 (List.map cS_api_Member p1))))]) rfl ?_
  refine c_seq ?_
  refine c_region ?_
  refine o_s (.t (.d (.lit (.bool false)))) (g0 rfl) rfl rfl rfl ?_
  refine o_nil ?_
  repeat (first | refine then_normal ?_ | refine then_exit ?_ | refine then_ret ?_ | refine block_normal ?_ | refine block_ret ?_ | refine block_exit ?_ | refine block_pass rfl ?_)
  refine c_seq ?_
  refine c_seq ?_
  refine c_region ?_
  refine o_s (.t (.d (.seq 2 (List.map cS_api_Member p0)))) (g0 rfl) rfl rfl rfl ?_
  refine o_c (g0 rfl) rfl rfl rfl (lenE _ _) trivial ?_
  refine o_s (.t (.d (.seq 2 (List.map cS_api_Member p1)))) (g0 rfl) rfl rfl rfl ?_
  refine o_c (g0 rfl) rfl rfl rfl (lenE _ _) trivial ?_
  refine o_s (.t (.d (.lit (.bool ((p0.length : Int) != (p1.length : Int)))))) (g0 rfl) rfl rfl rfl ?_
  refine o_nil ?_
  repeat (first | refine then_normal ?_ | refine then_exit ?_ | refine then_ret ?_ | refine block_normal ?_ | refine block_ret ?_ | refine block_exit ?_ | refine block_pass rfl ?_)
  rcases bif_some h with ⟨h1, h⟩ | ⟨h1, h⟩
  · refine c_t h1 rfl ?_
    refine c_seq ?_
    refine c_region ?_
    refine o_s (.t (.d (.lit (.bool false)))) (g0 rfl) rfl rfl rfl ?_
    refine o_nil ?_
    repeat (first | refine then_normal ?_ | refine then_exit ?_ | refine then_ret ?_ | refine block_normal ?_ | refine block_ret ?_ | refine block_exit ?_ | refine block_pass rfl ?_)
    refine c_ret ?_
    repeat (first | refine then_normal ?_ | refine then_exit ?_ | refine then_ret ?_ | refine block_normal ?_ | refine block_ret ?_ | refine block_exit ?_ | refine block_pass rfl ?_)
    obtain rfl := Option.some.inj h
    exact end0 rfl (.refl _)
  · refine c_f h1 rfl ?_
    refine c_skip ?_
    repeat (first | refine then_normal ?_ | refine then_exit ?_ | refine then_ret ?_ | refine block_normal ?_ | refine block_ret ?_ | refine block_exit ?_ | refine block_pass rfl ?_)
    refine c_seq ?_
    refine c_seq ?_
    refine c_region ?_
    refine o_s (.t (.d (.lit (.int .i64 0)))) (g0 rfl) rfl rfl rfl ?_
    refine o_nil ?_
    repeat (first | refine then_normal ?_ | refine then_exit ?_ | refine then_ret ?_ | refine block_normal ?_ | refine block_ret ?_ | refine block_exit ?_ | refine block_pass rfl ?_)
    refine c_block ?_
    refine c_fuel (fun (z2 : Int) => [(0, .t (.d (.seq 2 (List.map cS_api_Member p0)))), (1, .t (.d (.seq 2 (List.map cS_api_Member p1)))), (5, .t (.d (.lit (.int .i64 z2))))]) (fun nl1 => (fun (z2 : Int) => m_R27_Same_l1 p0 p1 nl1 z2 = some r)) (p0.length + 1) 0 h ⟨(.refl _), ⟨(.refl _), ⟨(.refl _), trivial⟩⟩⟩ rfl ?_
    rintro nl1 z2 h
    cases nl1 with
    | zero => exact none_ne h
    | succ nl1 =>
      refine c_seq ?_
      refine c_seq ?_
      refine c_region ?_
      refine o_s (.t (.d (.lit (.int .i64 z2)))) (g0 rfl) rfl rfl rfl ?_
      refine o_s (.t (.d (.seq 2 (List.map cS_api_Member p0)))) (g0 rfl) rfl rfl rfl ?_
      refine o_c (g0 rfl) rfl rfl rfl (lenE _ _) trivial ?_
      refine o_s (.t (.d (.lit (.bool (decide (z2 < (p0.length : Int))))))) (g0 rfl) rfl rfl rfl ?_
      refine o_nil ?_
      repeat (first | refine then_normal ?_ | refine then_exit ?_ | refine then_ret ?_ | refine block_normal ?_ | refine block_ret ?_ | refine block_exit ?_ | refine block_pass rfl ?_)
      rcases bif_some h with ⟨h3, h⟩ | ⟨h3, h⟩
      · refine c_t h3 rfl ?_
        refine c_skip ?_
        repeat (first | refine then_normal ?_ | refine then_exit ?_ | refine then_ret ?_ | refine block_normal ?_ | refine block_ret ?_ | refine block_exit ?_ | refine block_pass rfl ?_)
        refine c_seq ?_
        refine c_block ?_
        refine c_seq ?_
        refine c_draw mixed (by kernel_rfl) ?_
        refine d_s (.t (.d (.seq 2 (List.map cS_api_Member p0)))) rfl (dg0 rfl) rfl rfl rfl rfl ?_
        refine d_s (.t (.d (.lit (.int .i64 z2)))) rfl (dg0 rfl) rfl rfl rfl rfl ?_
        obtain ⟨x4, h5, h⟩ := bind_some h
        refine d_c rfl (dg0 rfl) rfl rfl rfl rfl (idxE h5) (idxC h5) ?_
        refine d_s (.t (.agg [.lit (.string ⟨⟨x4.Name⟩⟩), .lit (.int .i64 x4.Role)])) rfl (dg0 rfl) rfl rfl rfl rfl ?_
        refine d_s (.t (.d (.seq 2 (List.map cS_api_Member p1)))) rfl (dg0 rfl) rfl rfl rfl rfl ?_
        refine d_s (.t (.d (.lit (.int .i64 z2)))) rfl (dg0 rfl) rfl rfl rfl rfl ?_
        obtain ⟨x6, h7, h⟩ := bind_some h
        refine d_c rfl (dg0 rfl) rfl rfl rfl rfl (idxE h7) (idxC h7) ?_
        refine d_s (.t (.agg [.lit (.string ⟨⟨x6.Name⟩⟩), .lit (.int .i64 x6.Role)])) rfl (dg0 rfl) rfl rfl rfl rfl ?_
        refine d_eqs true (b' := ((x4.Name == x6.Name) && ((x4.Role == x6.Role) && true))) (andE (str_beqL _ _) (andE rfl rfl)) rfl (dg0 rfl) rfl rfl rfl rfl rfl (by kernel_rfl) ((!((x4.Name == x6.Name) && ((x4.Role == x6.Role) && true)))) (by cases ((x4.Name == x6.Name) && ((x4.Role == x6.Role) && true)) <;> rfl) ?_
        refine d_nil (by kernel_rfl) ?_
        repeat (first | refine then_normal ?_ | refine then_exit ?_ | refine then_ret ?_ | refine block_normal ?_ | refine block_ret ?_ | refine block_exit ?_ | refine block_pass rfl ?_)
        rcases bif_some h with ⟨h8, h⟩ | ⟨h8, h⟩
        · refine c_t h8 rfl ?_
          refine c_seq ?_
          refine c_region ?_
          refine o_s (.t (.d (.lit (.bool false)))) (g0 rfl) rfl rfl rfl ?_
          refine o_nil ?_
          repeat (first | refine then_normal ?_ | refine then_exit ?_ | refine then_ret ?_ | refine block_normal ?_ | refine block_ret ?_ | refine block_exit ?_ | refine block_pass rfl ?_)
          refine c_ret ?_
          repeat (first | refine then_normal ?_ | refine then_exit ?_ | refine then_ret ?_ | refine block_normal ?_ | refine block_ret ?_ | refine block_exit ?_ | refine block_pass rfl ?_)
          obtain rfl := Option.some.inj h
          exact end0 rfl (.refl _)
        · refine c_f h8 rfl ?_
          refine c_skip ?_
          repeat (first | refine then_normal ?_ | refine then_exit ?_ | refine then_ret ?_ | refine block_normal ?_ | refine block_ret ?_ | refine block_exit ?_ | refine block_pass rfl ?_)
          refine c_region ?_
          refine o_s (.t (.d (.lit (.int .i64 z2)))) (g0 rfl) rfl rfl rfl ?_
          refine o_s (.t (.d (.lit (.int .i64 (wi (z2 + 1)))))) (g0 rfl) rfl rfl rfl ?_
          refine o_s (.t (.d (.lit (.int .i64 (wi (z2 + 1)))))) (g0 rfl) rfl rfl rfl ?_
          refine o_nil ?_
          repeat (first | refine then_normal ?_ | refine then_exit ?_ | refine then_ret ?_ | refine block_normal ?_ | refine block_ret ?_ | refine block_exit ?_ | refine block_pass rfl ?_)
          exact ⟨nl1, (wi (z2 + 1)), Nat.lt_succ_self nl1, h, ⟨(.refl _), ⟨(.refl _), ⟨(.refl _), trivial⟩⟩⟩, rfl⟩
      · refine c_f h3 rfl ?_
        refine c_exit ?_
        repeat (first | refine then_normal ?_ | refine then_exit ?_ | refine then_ret ?_ | refine block_normal ?_ | refine block_ret ?_ | refine block_exit ?_ | refine block_pass rfl ?_)
        refine c_seq ?_
        refine c_region ?_
        refine o_s (.t (.d (.lit (.bool true)))) (g0 rfl) rfl rfl rfl ?_
        refine o_nil ?_
        repeat (first | refine then_normal ?_ | refine then_exit ?_ | refine then_ret ?_ | refine block_normal ?_ | refine block_ret ?_ | refine block_exit ?_ | refine block_pass rfl ?_)
        refine c_ret ?_
        repeat (first | refine then_normal ?_ | refine then_exit ?_ | refine then_ret ?_ | refine block_normal ?_ | refine block_ret ?_ | refine block_exit ?_ | refine block_pass rfl ?_)
        obtain rfl := Option.some.inj h
        exact end0 rfl (.refl _)

theorem fc_R31_Same (p0 : S_api_Answer) (p1 : S_api_Answer) (r : Bool) (h : m_R31_Same p0 p1 = some r) : FC Try.prog 8 [.t (.agg [.lit (.int .i64 p0.Err), .lit (.int .i64 p0.Number), .lit (.string ⟨⟨p0.By⟩⟩), .seq 1 (bytesD p0.Data), .seq 1 (List.map cStr p0.Names), .seq 2 (List.map cS_api_Member p0.Members), .seq 4 (List.map cS_api_Past p0.History)]), .t (.agg [.lit (.int .i64 p1.Err), .lit (.int .i64 p1.Number), .lit (.string ⟨⟨p1.By⟩⟩), .seq 1 (bytesD p1.Data), .seq 1 (List.map cStr p1.Names), .seq 2 (List.map cS_api_Member p1.Members), .seq 4 (List.map cS_api_Past p1.History)])] [] (.t (.d (.lit (.bool r)))) := by
  refine fc_mk (rs := [.tmp 4]) (n := 96) Try.func8 rfl rfl (Nat.le_of_ble_eq_true rfl) rfl (pins := []) rfl (L := [(0, .t (.agg [.lit (.int .i64 p0.Err), .lit (.int .i64 p0.Number), .lit (.string ⟨⟨p0.By⟩⟩), .seq 1 (bytesD p0.Data), .seq 1 (List.map cStr p0.Names), .seq 2 (List.map cS_api_Member p0.Members), .seq 4 (List.map cS_api_Past p0.History)])), (1, .t (.agg [.lit (.int .i64 p1.Err), .lit (.int .i64 p1.Number), .lit (.string ⟨⟨p1.By⟩⟩), .seq 1 (bytesD p1.Data), .seq 1 (List.map cStr p1.Names), .seq 2 (List.map cS_api_Member p1.Members), .seq 4 (List.map cS_api_Past p1.History)]))]) rfl ?_
  refine c_seq ?_
  refine c_region ?_
  refine o_s (.box [.d (.lit (.int .i64 p0.Err)), .d (.lit (.int .i64 p0.Number)), .d (.lit (.string ⟨⟨p0.By⟩⟩)), .d (.seq 1 (bytesD p0.Data)), .d (.seq 1 (List.map cStr p0.Names)), .d (.seq 2 (List.map cS_api_Member p0.Members)), .d (.seq 4 (List.map cS_api_Past p0.History))]) (g0 rfl) rfl rfl rfl ?_
  refine o_s (.box [.d (.lit (.int .i64 p1.Err)), .d (.lit (.int .i64 p1.Number)), .d (.lit (.string ⟨⟨p1.By⟩⟩)), .d (.seq 1 (bytesD p1.Data)), .d (.seq 1 (List.map cStr p1.Names)), .d (.seq 2 (List.map cS_api_Member p1.Members)), .d (.seq 4 (List.map cS_api_Past p1.History))]) (g0 rfl) rfl rfl rfl ?_
  refine o_s (.t (.d (.lit (.bool false)))) (g0 rfl) rfl rfl rfl ?_
  refine o_nil ?_
  repeat (first | refine then_normal ?_ | refine then_exit ?_ | refine then_ret ?_ | refine block_normal ?_ | refine block_ret ?_ | refine block_exit ?_ | refine block_pass rfl ?_)
  refine c_seq ?_
  refine c_seq ?_
  refine c_region ?_
  refine o_s (.ref 2 0) (g0 rfl) rfl rfl rfl ?_
  refine o_s (.t (.d (.lit (.int .i64 p0.Err)))) (g0 rfl) rfl rfl rfl ?_
  refine o_s (.ref 3 0) (g0 rfl) rfl rfl rfl ?_
  refine o_s (.t (.d (.lit (.int .i64 p1.Err)))) (g0 rfl) rfl rfl rfl ?_
  refine o_s (.t (.d (.lit (.bool (p0.Err != p1.Err))))) (g0 rfl) rfl rfl rfl ?_
  refine o_s (.t (.d (.lit (.bool (p0.Err != p1.Err))))) (g0 rfl) rfl rfl rfl ?_
  rcases bif_some h with ⟨h1, h⟩ | ⟨h1, h⟩
  · refine o_skip rfl rfl rfl h1 rfl rfl ?_
    refine o_skip rfl rfl rfl h1 rfl rfl ?_
    refine o_skip rfl rfl rfl h1 rfl rfl ?_
    refine o_skip rfl rfl rfl h1 rfl rfl ?_
    refine o_skip rfl rfl rfl h1 rfl rfl ?_
    refine o_pk (.t (.d (.lit (.bool true)))) (b := true) h1 (g0 rfl) rfl rfl rfl rfl rfl ?_
    refine o_s (.t (.d (.lit (.bool true)))) (g0 rfl) rfl rfl rfl ?_
    refine o_skip rfl rfl rfl rfl rfl rfl ?_
    refine o_skip rfl rfl rfl rfl rfl rfl ?_
    refine o_skip rfl rfl rfl rfl rfl rfl ?_
    refine o_skip rfl rfl rfl rfl rfl rfl ?_
    refine o_skip rfl rfl rfl rfl rfl rfl ?_
    refine o_pk (.t (.d (.lit (.bool true)))) (b := true) rfl (g0 rfl) rfl rfl rfl rfl rfl ?_
    refine o_s (.t (.d (.lit (.bool true)))) (g0 rfl) rfl rfl rfl ?_
    refine o_skip rfl rfl rfl rfl rfl rfl ?_
    refine o_skip rfl rfl rfl rfl rfl rfl ?_
    refine o_skip rfl rfl rfl rfl rfl rfl ?_
    refine o_skip rfl rfl rfl rfl rfl rfl ?_
    refine o_skip rfl rfl rfl rfl rfl rfl ?_
    refine o_skip rfl rfl rfl rfl rfl rfl ?_
    refine o_pk (.t (.d (.lit (.bool true)))) (b := true) rfl (g0 rfl) rfl rfl rfl rfl rfl ?_
    refine o_s (.t (.d (.lit (.bool true)))) (g0 rfl) rfl rfl rfl ?_
    refine o_skip rfl rfl rfl rfl rfl rfl ?_
    refine o_skip rfl rfl rfl rfl rfl rfl ?_
    refine o_skip rfl rfl rfl rfl rfl rfl ?_
    refine o_skip rfl rfl rfl rfl rfl rfl ?_
    refine o_skip rfl rfl rfl rfl rfl rfl ?_
    refine o_skip rfl rfl rfl rfl rfl rfl ?_
    refine o_skip rfl rfl rfl rfl rfl rfl ?_
    refine o_pk (.t (.d (.lit (.bool true)))) (b := true) rfl (g0 rfl) rfl rfl rfl rfl rfl ?_
    refine o_s (.t (.d (.lit (.bool true)))) (g0 rfl) rfl rfl rfl ?_
    refine o_skip rfl rfl rfl rfl rfl rfl ?_
    refine o_skip rfl rfl rfl rfl rfl rfl ?_
    refine o_skip rfl rfl rfl rfl rfl rfl ?_
    refine o_skip rfl rfl rfl rfl rfl rfl ?_
    refine o_skip rfl rfl rfl rfl rfl rfl ?_
    refine o_skip rfl rfl rfl rfl rfl rfl ?_
    refine o_pk (.t (.d (.lit (.bool true)))) (b := true) rfl (g0 rfl) rfl rfl rfl rfl rfl ?_
    refine o_s (.t (.d (.lit (.bool true)))) (g0 rfl) rfl rfl rfl ?_
    refine o_skip rfl rfl rfl rfl rfl rfl ?_
    refine o_skip rfl rfl rfl rfl rfl rfl ?_
    refine o_skip rfl rfl rfl rfl rfl rfl ?_
    refine o_skip rfl rfl rfl rfl rfl rfl ?_
    refine o_skip rfl rfl rfl rfl rfl rfl ?_
    refine o_skip rfl rfl rfl rfl rfl rfl ?_
    refine o_skip rfl rfl rfl rfl rfl rfl ?_
    refine o_pk (.t (.d (.lit (.bool true)))) (b := true) rfl (g0 rfl) rfl rfl rfl rfl rfl ?_
    refine o_nil ?_
    repeat (first | refine then_normal ?_ | refine then_exit ?_ | refine then_ret ?_ | refine block_normal ?_ | refine block_ret ?_ | refine block_exit ?_ | refine block_pass rfl ?_)
    refine c_t rfl rfl ?_
    refine c_seq ?_
    refine c_region ?_
    refine o_s (.t (.d (.lit (.bool false)))) (g0 rfl) rfl rfl rfl ?_
    refine o_nil ?_
    repeat (first | refine then_normal ?_ | refine then_exit ?_ | refine then_ret ?_ | refine block_normal ?_ | refine block_ret ?_ | refine block_exit ?_ | refine block_pass rfl ?_)
    refine c_ret ?_
    repeat (first | refine then_normal ?_ | refine then_exit ?_ | refine then_ret ?_ | refine block_normal ?_ | refine block_ret ?_ | refine block_exit ?_ | refine block_pass rfl ?_)
    obtain rfl := Option.some.inj h
    exact end0 rfl (.refl _)
  · refine o_s (.ref 2 1) (gy rfl rfl rfl h1) rfl rfl rfl ?_
    refine o_s (.t (.d (.lit (.int .i64 p0.Number)))) (gy rfl rfl rfl h1) rfl rfl rfl ?_
    refine o_s (.ref 3 1) (gy rfl rfl rfl h1) rfl rfl rfl ?_
    refine o_s (.t (.d (.lit (.int .i64 p1.Number)))) (gy rfl rfl rfl h1) rfl rfl rfl ?_
    refine o_s (.t (.d (.lit (.bool (p0.Number != p1.Number))))) (gy rfl rfl rfl h1) rfl rfl rfl ?_
    refine o_pk (.t (.d (.lit (.bool (p0.Number != p1.Number))))) (b := false) h1 (g0 rfl) rfl rfl rfl rfl rfl ?_
    refine o_s (.t (.d (.lit (.bool (p0.Number != p1.Number))))) (g0 rfl) rfl rfl rfl ?_
    rcases bif_some h with ⟨h2, h⟩ | ⟨h2, h⟩
    · refine o_skip rfl rfl rfl h2 rfl rfl ?_
      refine o_skip rfl rfl rfl h2 rfl rfl ?_
      refine o_skip rfl rfl rfl h2 rfl rfl ?_
      refine o_skip rfl rfl rfl h2 rfl rfl ?_
      refine o_skip rfl rfl rfl h2 rfl rfl ?_
      refine o_pk (.t (.d (.lit (.bool true)))) (b := true) h2 (g0 rfl) rfl rfl rfl rfl rfl ?_
      refine o_s (.t (.d (.lit (.bool true)))) (g0 rfl) rfl rfl rfl ?_
      refine o_skip rfl rfl rfl rfl rfl rfl ?_
      refine o_skip rfl rfl rfl rfl rfl rfl ?_
      refine o_skip rfl rfl rfl rfl rfl rfl ?_
      refine o_skip rfl rfl rfl rfl rfl rfl ?_
      refine o_skip rfl rfl rfl rfl rfl rfl ?_
      refine o_skip rfl rfl rfl rfl rfl rfl ?_
      refine o_pk (.t (.d (.lit (.bool true)))) (b := true) rfl (g0 rfl) rfl rfl rfl rfl rfl ?_
      refine o_s (.t (.d (.lit (.bool true)))) (g0 rfl) rfl rfl rfl ?_
      refine o_skip rfl rfl rfl rfl rfl rfl ?_
      refine o_skip rfl rfl rfl rfl rfl rfl ?_
      refine o_skip rfl rfl rfl rfl rfl rfl ?_
      refine o_skip rfl rfl rfl rfl rfl rfl ?_
      refine o_skip rfl rfl rfl rfl rfl rfl ?_
      refine o_skip rfl rfl rfl rfl rfl rfl ?_
      refine o_skip rfl rfl rfl rfl rfl rfl ?_
      refine o_pk (.t (.d (.lit (.bool true)))) (b := true) rfl (g0 rfl) rfl rfl rfl rfl rfl ?_
      refine o_s (.t (.d (.lit (.bool true)))) (g0 rfl) rfl rfl rfl ?_
      refine o_skip rfl rfl rfl rfl rfl rfl ?_
      refine o_skip rfl rfl rfl rfl rfl rfl ?_
      refine o_skip rfl rfl rfl rfl rfl rfl ?_
      refine o_skip rfl rfl rfl rfl rfl rfl ?_
      refine o_skip rfl rfl rfl rfl rfl rfl ?_
      refine o_skip rfl rfl rfl rfl rfl rfl ?_
      refine o_pk (.t (.d (.lit (.bool true)))) (b := true) rfl (g0 rfl) rfl rfl rfl rfl rfl ?_
      refine o_s (.t (.d (.lit (.bool true)))) (g0 rfl) rfl rfl rfl ?_
      refine o_skip rfl rfl rfl rfl rfl rfl ?_
      refine o_skip rfl rfl rfl rfl rfl rfl ?_
      refine o_skip rfl rfl rfl rfl rfl rfl ?_
      refine o_skip rfl rfl rfl rfl rfl rfl ?_
      refine o_skip rfl rfl rfl rfl rfl rfl ?_
      refine o_skip rfl rfl rfl rfl rfl rfl ?_
      refine o_skip rfl rfl rfl rfl rfl rfl ?_
      refine o_pk (.t (.d (.lit (.bool true)))) (b := true) rfl (g0 rfl) rfl rfl rfl rfl rfl ?_
      refine o_nil ?_
      repeat (first | refine then_normal ?_ | refine then_exit ?_ | refine then_ret ?_ | refine block_normal ?_ | refine block_ret ?_ | refine block_exit ?_ | refine block_pass rfl ?_)
      refine c_t rfl rfl ?_
      refine c_seq ?_
      refine c_region ?_
      refine o_s (.t (.d (.lit (.bool false)))) (g0 rfl) rfl rfl rfl ?_
      refine o_nil ?_
      repeat (first | refine then_normal ?_ | refine then_exit ?_ | refine then_ret ?_ | refine block_normal ?_ | refine block_ret ?_ | refine block_exit ?_ | refine block_pass rfl ?_)
      refine c_ret ?_
      repeat (first | refine then_normal ?_ | refine then_exit ?_ | refine then_ret ?_ | refine block_normal ?_ | refine block_ret ?_ | refine block_exit ?_ | refine block_pass rfl ?_)
      obtain rfl := Option.some.inj h
      exact end0 rfl (.refl _)
    · refine o_s (.ref 2 2) (gy rfl rfl rfl h2) rfl rfl rfl ?_
      refine o_s (.t (.d (.lit (.string ⟨⟨p0.By⟩⟩)))) (gy rfl rfl rfl h2) rfl rfl rfl ?_
      refine o_s (.ref 3 2) (gy rfl rfl rfl h2) rfl rfl rfl ?_
      refine o_s (.t (.d (.lit (.string ⟨⟨p1.By⟩⟩)))) (gy rfl rfl rfl h2) rfl rfl rfl ?_
      refine o_c (gy rfl rfl rfl h2) rfl rfl rfl (congrArg (fun z => A.t (.d (.lit (.bool (!z))))) (str_beqL _ _)) trivial ?_
      refine o_pk (.t (.d (.lit (.bool (!(p0.By == p1.By)))))) (b := false) h2 (g0 rfl) rfl rfl rfl rfl rfl ?_
      refine o_s (.t (.d (.lit (.bool (!(p0.By == p1.By)))))) (g0 rfl) rfl rfl rfl ?_
      rcases bif_some h with ⟨h3, h⟩ | ⟨h3, h⟩
      · refine o_skip rfl rfl rfl h3 rfl rfl ?_
        refine o_skip rfl rfl rfl h3 rfl rfl ?_
        refine o_skip rfl rfl rfl h3 rfl rfl ?_
        refine o_skip rfl rfl rfl h3 rfl rfl ?_
        refine o_skip rfl rfl rfl h3 rfl rfl ?_
        refine o_skip rfl rfl rfl h3 rfl rfl ?_
        refine o_pk (.t (.d (.lit (.bool true)))) (b := true) h3 (g0 rfl) rfl rfl rfl rfl rfl ?_
        refine o_s (.t (.d (.lit (.bool true)))) (g0 rfl) rfl rfl rfl ?_
        refine o_skip rfl rfl rfl rfl rfl rfl ?_
        refine o_skip rfl rfl rfl rfl rfl rfl ?_
        refine o_skip rfl rfl rfl rfl rfl rfl ?_
        refine o_skip rfl rfl rfl rfl rfl rfl ?_
        refine o_skip rfl rfl rfl rfl rfl rfl ?_
        refine o_skip rfl rfl rfl rfl rfl rfl ?_
        refine o_skip rfl rfl rfl rfl rfl rfl ?_
        refine o_pk (.t (.d (.lit (.bool true)))) (b := true) rfl (g0 rfl) rfl rfl rfl rfl rfl ?_
        refine o_s (.t (.d (.lit (.bool true)))) (g0 rfl) rfl rfl rfl ?_
        refine o_skip rfl rfl rfl rfl rfl rfl ?_
        refine o_skip rfl rfl rfl rfl rfl rfl ?_
        refine o_skip rfl rfl rfl rfl rfl rfl ?_
        refine o_skip rfl rfl rfl rfl rfl rfl ?_
        refine o_skip rfl rfl rfl rfl rfl rfl ?_
        refine o_skip rfl rfl rfl rfl rfl rfl ?_
        refine o_pk (.t (.d (.lit (.bool true)))) (b := true) rfl (g0 rfl) rfl rfl rfl rfl rfl ?_
        refine o_s (.t (.d (.lit (.bool true)))) (g0 rfl) rfl rfl rfl ?_
        refine o_skip rfl rfl rfl rfl rfl rfl ?_
        refine o_skip rfl rfl rfl rfl rfl rfl ?_
        refine o_skip rfl rfl rfl rfl rfl rfl ?_
        refine o_skip rfl rfl rfl rfl rfl rfl ?_
        refine o_skip rfl rfl rfl rfl rfl rfl ?_
        refine o_skip rfl rfl rfl rfl rfl rfl ?_
        refine o_skip rfl rfl rfl rfl rfl rfl ?_
        refine o_pk (.t (.d (.lit (.bool true)))) (b := true) rfl (g0 rfl) rfl rfl rfl rfl rfl ?_
        refine o_nil ?_
        repeat (first | refine then_normal ?_ | refine then_exit ?_ | refine then_ret ?_ | refine block_normal ?_ | refine block_ret ?_ | refine block_exit ?_ | refine block_pass rfl ?_)
        refine c_t rfl rfl ?_
        refine c_seq ?_
        refine c_region ?_
        refine o_s (.t (.d (.lit (.bool false)))) (g0 rfl) rfl rfl rfl ?_
        refine o_nil ?_
        repeat (first | refine then_normal ?_ | refine then_exit ?_ | refine then_ret ?_ | refine block_normal ?_ | refine block_ret ?_ | refine block_exit ?_ | refine block_pass rfl ?_)
        refine c_ret ?_
        repeat (first | refine then_normal ?_ | refine then_exit ?_ | refine then_ret ?_ | refine block_normal ?_ | refine block_ret ?_ | refine block_exit ?_ | refine block_pass rfl ?_)
        obtain rfl := Option.some.inj h
        exact end0 rfl (.refl _)
      · refine o_s (.ref 2 3) (gy rfl rfl rfl h3) rfl rfl rfl ?_
        refine o_s (.t (.d (.seq 1 (bytesD p0.Data)))) (gy rfl rfl rfl h3) rfl rfl rfl ?_
        refine o_s (.ref 3 3) (gy rfl rfl rfl h3) rfl rfl rfl ?_
        refine o_s (.t (.d (.seq 1 (bytesD p1.Data)))) (gy rfl rfl rfl h3) rfl rfl rfl ?_
        obtain ⟨x4, h5, h⟩ := bind_some h
        refine o_ca (fc_R01_Same _ _ _ h5) (gy rfl rfl rfl h3) rfl rfl rfl rfl rfl rfl rfl (.cons (.refl _) (.cons (.refl _) .nil)) rfl rfl ?_
        refine o_s (.t (.d (.lit (.bool (!x4))))) (gy rfl rfl rfl h3) rfl rfl rfl ?_
        refine o_pk (.t (.d (.lit (.bool (!x4))))) (b := false) h3 (g0 rfl) rfl rfl rfl rfl rfl ?_
        refine o_s (.t (.d (.lit (.bool (!x4))))) (g0 rfl) rfl rfl rfl ?_
        rcases bif_some h with ⟨h6, h⟩ | ⟨h6, h⟩
        · refine o_skip rfl rfl rfl h6 rfl rfl ?_
          refine o_skip rfl rfl rfl h6 rfl rfl ?_
          refine o_skip rfl rfl rfl h6 rfl rfl ?_
          refine o_skip rfl rfl rfl h6 rfl rfl ?_
          refine o_skip rfl rfl rfl h6 rfl rfl ?_
          refine o_skip rfl rfl rfl h6 rfl rfl ?_
          refine o_skip rfl rfl rfl h6 rfl rfl ?_
          refine o_pk (.t (.d (.lit (.bool true)))) (b := true) h6 (g0 rfl) rfl rfl rfl rfl rfl ?_
          refine o_s (.t (.d (.lit (.bool true)))) (g0 rfl) rfl rfl rfl ?_
          refine o_skip rfl rfl rfl rfl rfl rfl ?_
          refine o_skip rfl rfl rfl rfl rfl rfl ?_
          refine o_skip rfl rfl rfl rfl rfl rfl ?_
          refine o_skip rfl rfl rfl rfl rfl rfl ?_
          refine o_skip rfl rfl rfl rfl rfl rfl ?_
          refine o_skip rfl rfl rfl rfl rfl rfl ?_
          refine o_pk (.t (.d (.lit (.bool true)))) (b := true) rfl (g0 rfl) rfl rfl rfl rfl rfl ?_
          refine o_s (.t (.d (.lit (.bool true)))) (g0 rfl) rfl rfl rfl ?_
          refine o_skip rfl rfl rfl rfl rfl rfl ?_
          refine o_skip rfl rfl rfl rfl rfl rfl ?_
          refine o_skip rfl rfl rfl rfl rfl rfl ?_
          refine o_skip rfl rfl rfl rfl rfl rfl ?_
          refine o_skip rfl rfl rfl rfl rfl rfl ?_
          refine o_skip rfl rfl rfl rfl rfl rfl ?_
          refine o_skip rfl rfl rfl rfl rfl rfl ?_
          refine o_pk (.t (.d (.lit (.bool true)))) (b := true) rfl (g0 rfl) rfl rfl rfl rfl rfl ?_
          refine o_nil ?_
          repeat (first | refine then_normal ?_ | refine then_exit ?_ | refine then_ret ?_ | refine block_normal ?_ | refine block_ret ?_ | refine block_exit ?_ | refine block_pass rfl ?_)
          refine c_t rfl rfl ?_
          refine c_seq ?_
          refine c_region ?_
          refine o_s (.t (.d (.lit (.bool false)))) (g0 rfl) rfl rfl rfl ?_
          refine o_nil ?_
          repeat (first | refine then_normal ?_ | refine then_exit ?_ | refine then_ret ?_ | refine block_normal ?_ | refine block_ret ?_ | refine block_exit ?_ | refine block_pass rfl ?_)
          refine c_ret ?_
          repeat (first | refine then_normal ?_ | refine then_exit ?_ | refine then_ret ?_ | refine block_normal ?_ | refine block_ret ?_ | refine block_exit ?_ | refine block_pass rfl ?_)
          obtain rfl := Option.some.inj h
          exact end0 rfl (.refl _)
        · refine o_s (.ref 2 4) (gy rfl rfl rfl h6) rfl rfl rfl ?_
          refine o_s (.t (.d (.seq 1 (List.map cStr p0.Names)))) (gy rfl rfl rfl h6) rfl rfl rfl ?_
          refine o_c (gy rfl rfl rfl h6) rfl rfl rfl (lenE _ _) trivial ?_
          refine o_s (.ref 3 4) (gy rfl rfl rfl h6) rfl rfl rfl ?_
          refine o_s (.t (.d (.seq 1 (List.map cStr p1.Names)))) (gy rfl rfl rfl h6) rfl rfl rfl ?_
          refine o_c (gy rfl rfl rfl h6) rfl rfl rfl (lenE _ _) trivial ?_
          refine o_s (.t (.d (.lit (.bool ((p0.Names.length : Int) != (p1.Names.length : Int)))))) (gy rfl rfl rfl h6) rfl rfl rfl ?_
          refine o_pk (.t (.d (.lit (.bool ((p0.Names.length : Int) != (p1.Names.length : Int)))))) (b := false) h6 (g0 rfl) rfl rfl rfl rfl rfl ?_
          refine o_s (.t (.d (.lit (.bool ((p0.Names.length : Int) != (p1.Names.length : Int)))))) (g0 rfl) rfl rfl rfl ?_
          rcases bif_some h with ⟨h7, h⟩ | ⟨h7, h⟩
          · refine o_skip rfl rfl rfl h7 rfl rfl ?_
            refine o_skip rfl rfl rfl h7 rfl rfl ?_
            refine o_skip rfl rfl rfl h7 rfl rfl ?_
            refine o_skip rfl rfl rfl h7 rfl rfl ?_
            refine o_skip rfl rfl rfl h7 rfl rfl ?_
            refine o_skip rfl rfl rfl h7 rfl rfl ?_
            refine o_pk (.t (.d (.lit (.bool true)))) (b := true) h7 (g0 rfl) rfl rfl rfl rfl rfl ?_
            refine o_s (.t (.d (.lit (.bool true)))) (g0 rfl) rfl rfl rfl ?_
            refine o_skip rfl rfl rfl rfl rfl rfl ?_
            refine o_skip rfl rfl rfl rfl rfl rfl ?_
            refine o_skip rfl rfl rfl rfl rfl rfl ?_
            refine o_skip rfl rfl rfl rfl rfl rfl ?_
            refine o_skip rfl rfl rfl rfl rfl rfl ?_
            refine o_skip rfl rfl rfl rfl rfl rfl ?_
            refine o_skip rfl rfl rfl rfl rfl rfl ?_
            refine o_pk (.t (.d (.lit (.bool true)))) (b := true) rfl (g0 rfl) rfl rfl rfl rfl rfl ?_
            refine o_nil ?_
            repeat (first | refine then_normal ?_ | refine then_exit ?_ | refine then_ret ?_ | refine block_normal ?_ | refine block_ret ?_ | refine block_exit ?_ | refine block_pass rfl ?_)
            refine c_t rfl rfl ?_
            refine c_seq ?_
            refine c_region ?_
            refine o_s (.t (.d (.lit (.bool false)))) (g0 rfl) rfl rfl rfl ?_
            refine o_nil ?_
            repeat (first | refine then_normal ?_ | refine then_exit ?_ | refine then_ret ?_ | refine block_normal ?_ | refine block_ret ?_ | refine block_exit ?_ | refine block_pass rfl ?_)
            refine c_ret ?_
            repeat (first | refine then_normal ?_ | refine then_exit ?_ | refine then_ret ?_ | refine block_normal ?_ | refine block_ret ?_ | refine block_exit ?_ | refine block_pass rfl ?_)
            obtain rfl := Option.some.inj h
            exact end0 rfl (.refl _)
          · refine o_s (.ref 2 5) (gy rfl rfl rfl h7) rfl rfl rfl ?_
            refine o_s (.t (.d (.seq 2 (List.map cS_api_Member p0.Members)))) (gy rfl rfl rfl h7) rfl rfl rfl ?_
            refine o_s (.ref 3 5) (gy rfl rfl rfl h7) rfl rfl rfl ?_
            refine o_s (.t (.d (.seq 2 (List.map cS_api_Member p1.Members)))) (gy rfl rfl rfl h7) rfl rfl rfl ?_
            obtain ⟨x8, h9, h⟩ := bind_some h
            refine o_ca (fc_R27_Same _ _ _ h9) (gy rfl rfl rfl h7) rfl rfl rfl rfl rfl rfl rfl (.cons (.refl _) (.cons (.refl _) .nil)) rfl rfl ?_
            refine o_s (.t (.d (.lit (.bool (!x8))))) (gy rfl rfl rfl h7) rfl rfl rfl ?_
            refine o_pk (.t (.d (.lit (.bool (!x8))))) (b := false) h7 (g0 rfl) rfl rfl rfl rfl rfl ?_
            refine o_s (.t (.d (.lit (.bool (!x8))))) (g0 rfl) rfl rfl rfl ?_
            rcases bif_some h with ⟨h10, h⟩ | ⟨h10, h⟩
            · refine o_skip rfl rfl rfl h10 rfl rfl ?_
              refine o_skip rfl rfl rfl h10 rfl rfl ?_
              refine o_skip rfl rfl rfl h10 rfl rfl ?_
              refine o_skip rfl rfl rfl h10 rfl rfl ?_
              refine o_skip rfl rfl rfl h10 rfl rfl ?_
              refine o_skip rfl rfl rfl h10 rfl rfl ?_
              refine o_skip rfl rfl rfl h10 rfl rfl ?_
              refine o_pk (.t (.d (.lit (.bool true)))) (b := true) h10 (g0 rfl) rfl rfl rfl rfl rfl ?_
              refine o_nil ?_
              repeat (first | refine then_normal ?_ | refine then_exit ?_ | refine then_ret ?_ | refine block_normal ?_ | refine block_ret ?_ | refine block_exit ?_ | refine block_pass rfl ?_)
              refine c_t rfl rfl ?_
              refine c_seq ?_
              refine c_region ?_
              refine o_s (.t (.d (.lit (.bool false)))) (g0 rfl) rfl rfl rfl ?_
              refine o_nil ?_
              repeat (first | refine then_normal ?_ | refine then_exit ?_ | refine then_ret ?_ | refine block_normal ?_ | refine block_ret ?_ | refine block_exit ?_ | refine block_pass rfl ?_)
              refine c_ret ?_
              repeat (first | refine then_normal ?_ | refine then_exit ?_ | refine then_ret ?_ | refine block_normal ?_ | refine block_ret ?_ | refine block_exit ?_ | refine block_pass rfl ?_)
              obtain rfl := Option.some.inj h
              exact end0 rfl (.refl _)
            · refine o_s (.ref 2 6) (gy rfl rfl rfl h10) rfl rfl rfl ?_
              refine o_s (.t (.d (.seq 4 (List.map cS_api_Past p0.History)))) (gy rfl rfl rfl h10) rfl rfl rfl ?_
              refine o_c (gy rfl rfl rfl h10) rfl rfl rfl (lenE _ _) trivial ?_
              refine o_s (.ref 3 6) (gy rfl rfl rfl h10) rfl rfl rfl ?_
              refine o_s (.t (.d (.seq 4 (List.map cS_api_Past p1.History)))) (gy rfl rfl rfl h10) rfl rfl rfl ?_
              refine o_c (gy rfl rfl rfl h10) rfl rfl rfl (lenE _ _) trivial ?_
              refine o_s (.t (.d (.lit (.bool ((p0.History.length : Int) != (p1.History.length : Int)))))) (gy rfl rfl rfl h10) rfl rfl rfl ?_
              refine o_pk (.t (.d (.lit (.bool ((p0.History.length : Int) != (p1.History.length : Int)))))) (b := false) h10 (g0 rfl) rfl rfl rfl rfl rfl ?_
              refine o_nil ?_
              repeat (first | refine then_normal ?_ | refine then_exit ?_ | refine then_ret ?_ | refine block_normal ?_ | refine block_ret ?_ | refine block_exit ?_ | refine block_pass rfl ?_)
              rcases bif_some h with ⟨h11, h⟩ | ⟨h11, h⟩
              · refine c_t h11 rfl ?_
                refine c_seq ?_
                refine c_region ?_
                refine o_s (.t (.d (.lit (.bool false)))) (g0 rfl) rfl rfl rfl ?_
                refine o_nil ?_
                repeat (first | refine then_normal ?_ | refine then_exit ?_ | refine then_ret ?_ | refine block_normal ?_ | refine block_ret ?_ | refine block_exit ?_ | refine block_pass rfl ?_)
                refine c_ret ?_
                repeat (first | refine then_normal ?_ | refine then_exit ?_ | refine then_ret ?_ | refine block_normal ?_ | refine block_ret ?_ | refine block_exit ?_ | refine block_pass rfl ?_)
                obtain rfl := Option.some.inj h
                exact end0 rfl (.refl _)
              · refine c_f h11 rfl ?_
                refine c_skip ?_
                repeat (first | refine then_normal ?_ | refine then_exit ?_ | refine then_ret ?_ | refine block_normal ?_ | refine block_ret ?_ | refine block_exit ?_ | refine block_pass rfl ?_)
                refine c_cut (fun (_ : Unit) => [(2, .box [.d (.lit (.int .i64 p0.Err)), .d (.lit (.int .i64 p0.Number)), .d (.lit (.string ⟨⟨p0.By⟩⟩)), .d (.seq 1 (bytesD p0.Data)), .d (.seq 1 (List.map cStr p0.Names)), .d (.seq 2 (List.map cS_api_Member p0.Members)), .d (.seq 4 (List.map cS_api_Past p0.History))]), (3, .box [.d (.lit (.int .i64 p1.Err)), .d (.lit (.int .i64 p1.Number)), .d (.lit (.string ⟨⟨p1.By⟩⟩)), .d (.seq 1 (bytesD p1.Data)), .d (.seq 1 (List.map cStr p1.Names)), .d (.seq 2 (List.map cS_api_Member p1.Members)), .d (.seq 4 (List.map cS_api_Past p1.History))])]) (fun (_ : Unit) => m_R31_Same_j1 p0 p1 = some r) ?_ ?_
                · refine c_seq ?_
                  refine c_region ?_
                  refine o_s (.t (.d (.lit (.int .i64 0)))) (g0 rfl) rfl rfl rfl ?_
                  refine o_nil ?_
                  repeat (first | refine then_normal ?_ | refine then_exit ?_ | refine then_ret ?_ | refine block_normal ?_ | refine block_ret ?_ | refine block_exit ?_ | refine block_pass rfl ?_)
                  refine c_block ?_
                  refine c_fuel (fun (z19 : Int) => [(2, .box [.d (.lit (.int .i64 p0.Err)), .d (.lit (.int .i64 p0.Number)), .d (.lit (.string ⟨⟨p0.By⟩⟩)), .d (.seq 1 (bytesD p0.Data)), .d (.seq 1 (List.map cStr p0.Names)), .d (.seq 2 (List.map cS_api_Member p0.Members)), .d (.seq 4 (List.map cS_api_Past p0.History))]), (3, .box [.d (.lit (.int .i64 p1.Err)), .d (.lit (.int .i64 p1.Number)), .d (.lit (.string ⟨⟨p1.By⟩⟩)), .d (.seq 1 (bytesD p1.Data)), .d (.seq 1 (List.map cStr p1.Names)), .d (.seq 2 (List.map cS_api_Member p1.Members)), .d (.seq 4 (List.map cS_api_Past p1.History))]), (5, .t (.d (.lit (.int .i64 z19))))]) (fun nl3 => (fun (z19 : Int) => m_R31_Same_l3 p0 p1 nl3 z19 = some r)) (p0.Names.length + 1) 0 h ⟨(.refl _), ⟨(.refl _), ⟨(.refl _), trivial⟩⟩⟩ rfl ?_
                  rintro nl3 z19 h
                  cases nl3 with
                  | zero => exact none_ne h
                  | succ nl3 =>
                    refine c_seq ?_
                    refine c_seq ?_
                    refine c_region ?_
                    refine o_s (.t (.d (.lit (.int .i64 z19)))) (g0 rfl) rfl rfl rfl ?_
                    refine o_s (.ref 2 4) (g0 rfl) rfl rfl rfl ?_
                    refine o_s (.t (.d (.seq 1 (List.map cStr p0.Names)))) (g0 rfl) rfl rfl rfl ?_
                    refine o_c (g0 rfl) rfl rfl rfl (lenE _ _) trivial ?_
                    refine o_s (.t (.d (.lit (.bool (decide (z19 < (p0.Names.length : Int))))))) (g0 rfl) rfl rfl rfl ?_
                    refine o_nil ?_
                    repeat (first | refine then_normal ?_ | refine then_exit ?_ | refine then_ret ?_ | refine block_normal ?_ | refine block_ret ?_ | refine block_exit ?_ | refine block_pass rfl ?_)
                    rcases bif_some h with ⟨h20, h⟩ | ⟨h20, h⟩
                    · refine c_t h20 rfl ?_
                      refine c_skip ?_
                      repeat (first | refine then_normal ?_ | refine then_exit ?_ | refine then_ret ?_ | refine block_normal ?_ | refine block_ret ?_ | refine block_exit ?_ | refine block_pass rfl ?_)
                      refine c_seq ?_
                      refine c_block ?_
                      refine c_seq ?_
                      refine c_draw mixed (by kernel_rfl) ?_
                      refine d_s (.ref 2 4) rfl (dg0 rfl) rfl rfl rfl rfl ?_
                      refine d_s (.t (.d (.seq 1 (List.map cStr p0.Names)))) rfl (dg0 rfl) rfl rfl rfl rfl ?_
                      refine d_s (.t (.d (.lit (.int .i64 z19)))) rfl (dg0 rfl) rfl rfl rfl rfl ?_
                      obtain ⟨x21, h22, h⟩ := bind_some h
                      refine d_c rfl (dg0 rfl) rfl rfl rfl rfl (idxE h22) (idxC h22) ?_
                      refine d_s (.t (.d (.lit (.string ⟨⟨x21⟩⟩)))) rfl (dg0 rfl) rfl rfl rfl rfl ?_
                      refine d_s (.ref 3 4) rfl (dg0 rfl) rfl rfl rfl rfl ?_
                      refine d_s (.t (.d (.seq 1 (List.map cStr p1.Names)))) rfl (dg0 rfl) rfl rfl rfl rfl ?_
                      refine d_s (.t (.d (.lit (.int .i64 z19)))) rfl (dg0 rfl) rfl rfl rfl rfl ?_
                      obtain ⟨x23, h24, h⟩ := bind_some h
                      refine d_c rfl (dg0 rfl) rfl rfl rfl rfl (idxE h24) (idxC h24) ?_
                      refine d_s (.t (.d (.lit (.string ⟨⟨x23⟩⟩)))) rfl (dg0 rfl) rfl rfl rfl rfl ?_
                      refine d_c rfl (dg0 rfl) rfl rfl rfl rfl (congrArg (fun z => A.t (.d (.lit (.bool (!z))))) (str_beqL _ _)) trivial ?_
                      refine d_nil (by kernel_rfl) ?_
                      repeat (first | refine then_normal ?_ | refine then_exit ?_ | refine then_ret ?_ | refine block_normal ?_ | refine block_ret ?_ | refine block_exit ?_ | refine block_pass rfl ?_)
                      rcases bif_some h with ⟨h25, h⟩ | ⟨h25, h⟩
                      · refine c_t h25 rfl ?_
                        refine c_seq ?_
                        refine c_region ?_
                        refine o_s (.t (.d (.lit (.bool false)))) (g0 rfl) rfl rfl rfl ?_
                        refine o_nil ?_
                        repeat (first | refine then_normal ?_ | refine then_exit ?_ | refine then_ret ?_ | refine block_normal ?_ | refine block_ret ?_ | refine block_exit ?_ | refine block_pass rfl ?_)
                        refine c_ret ?_
                        repeat (first | refine then_normal ?_ | refine then_exit ?_ | refine then_ret ?_ | refine block_normal ?_ | refine block_ret ?_ | refine block_exit ?_ | refine block_pass rfl ?_)
                        obtain rfl := Option.some.inj h
                        exact end0 rfl (.refl _)
                      · refine c_f h25 rfl ?_
                        refine c_skip ?_
                        repeat (first | refine then_normal ?_ | refine then_exit ?_ | refine then_ret ?_ | refine block_normal ?_ | refine block_ret ?_ | refine block_exit ?_ | refine block_pass rfl ?_)
                        refine c_region ?_
                        refine o_s (.t (.d (.lit (.int .i64 z19)))) (g0 rfl) rfl rfl rfl ?_
                        refine o_s (.t (.d (.lit (.int .i64 (wi (z19 + 1)))))) (g0 rfl) rfl rfl rfl ?_
                        refine o_s (.t (.d (.lit (.int .i64 (wi (z19 + 1)))))) (g0 rfl) rfl rfl rfl ?_
                        refine o_nil ?_
                        repeat (first | refine then_normal ?_ | refine then_exit ?_ | refine then_ret ?_ | refine block_normal ?_ | refine block_ret ?_ | refine block_exit ?_ | refine block_pass rfl ?_)
                        exact ⟨nl3, (wi (z19 + 1)), Nat.lt_succ_self nl3, h, ⟨(.refl _), ⟨(.refl _), ⟨(.refl _), trivial⟩⟩⟩, rfl⟩
                    · refine c_f h20 rfl ?_
                      refine c_exit ?_
                      repeat (first | refine then_normal ?_ | refine then_exit ?_ | refine then_ret ?_ | refine block_normal ?_ | refine block_ret ?_ | refine block_exit ?_ | refine block_pass rfl ?_)
                      exact ⟨(), h, ⟨(.refl _), ⟨(.refl _), trivial⟩⟩, rfl⟩
                · rintro ⟨⟩ h
                  refine c_seq ?_
                  refine c_seq ?_
                  refine c_region ?_
                  refine o_s (.t (.d (.lit (.int .i64 0)))) (g0 rfl) rfl rfl rfl ?_
                  refine o_nil ?_
                  repeat (first | refine then_normal ?_ | refine then_exit ?_ | refine then_ret ?_ | refine block_normal ?_ | refine block_ret ?_ | refine block_exit ?_ | refine block_pass rfl ?_)
                  refine c_block ?_
                  refine c_fuel (fun (z12 : Int) => [(2, .box [.d (.lit (.int .i64 p0.Err)), .d (.lit (.int .i64 p0.Number)), .d (.lit (.string ⟨⟨p0.By⟩⟩)), .d (.seq 1 (bytesD p0.Data)), .d (.seq 1 (List.map cStr p0.Names)), .d (.seq 2 (List.map cS_api_Member p0.Members)), .d (.seq 4 (List.map cS_api_Past p0.History))]), (3, .box [.d (.lit (.int .i64 p1.Err)), .d (.lit (.int .i64 p1.Number)), .d (.lit (.string ⟨⟨p1.By⟩⟩)), .d (.seq 1 (bytesD p1.Data)), .d (.seq 1 (List.map cStr p1.Names)), .d (.seq 2 (List.map cS_api_Member p1.Members)), .d (.seq 4 (List.map cS_api_Past p1.History))]), (6, .t (.d (.lit (.int .i64 z12))))]) (fun nl2 => (fun (z12 : Int) => m_R31_Same_l2 p0 p1 nl2 z12 = some r)) (p0.History.length + 1) 0 h ⟨(.refl _), ⟨(.refl _), ⟨(.refl _), trivial⟩⟩⟩ rfl ?_
                  rintro nl2 z12 h
                  cases nl2 with
                  | zero => exact none_ne h
                  | succ nl2 =>
                    refine c_seq ?_
                    refine c_seq ?_
                    refine c_region ?_
                    refine o_s (.t (.d (.lit (.int .i64 z12)))) (g0 rfl) rfl rfl rfl ?_
                    refine o_s (.ref 2 6) (g0 rfl) rfl rfl rfl ?_
                    refine o_s (.t (.d (.seq 4 (List.map cS_api_Past p0.History)))) (g0 rfl) rfl rfl rfl ?_
                    refine o_c (g0 rfl) rfl rfl rfl (lenE _ _) trivial ?_
                    refine o_s (.t (.d (.lit (.bool (decide (z12 < (p0.History.length : Int))))))) (g0 rfl) rfl rfl rfl ?_
                    refine o_nil ?_
                    repeat (first | refine then_normal ?_ | refine then_exit ?_ | refine then_ret ?_ | refine block_normal ?_ | refine block_ret ?_ | refine block_exit ?_ | refine block_pass rfl ?_)
                    rcases bif_some h with ⟨h13, h⟩ | ⟨h13, h⟩
                    · refine c_t h13 rfl ?_
                      refine c_skip ?_
                      repeat (first | refine then_normal ?_ | refine then_exit ?_ | refine then_ret ?_ | refine block_normal ?_ | refine block_ret ?_ | refine block_exit ?_ | refine block_pass rfl ?_)
                      refine c_seq ?_
                      refine c_block ?_
                      refine c_seq ?_
                      refine c_draw mixed (by kernel_rfl) ?_
                      refine d_s (.ref 2 6) rfl (dg0 rfl) rfl rfl rfl rfl ?_
                      refine d_s (.t (.d (.seq 4 (List.map cS_api_Past p0.History)))) rfl (dg0 rfl) rfl rfl rfl rfl ?_
                      refine d_s (.t (.d (.lit (.int .i64 z12)))) rfl (dg0 rfl) rfl rfl rfl rfl ?_
                      obtain ⟨x14, h15, h⟩ := bind_some h
                      refine d_c rfl (dg0 rfl) rfl rfl rfl rfl (idxE h15) (idxC h15) ?_
                      refine d_s (.t (.agg [.lit (.int .i64 x14.Number), .lit (.int .i64 x14.Epoch), .lit (.bool x14.Gone), .lit (.string ⟨⟨x14.By⟩⟩)])) rfl (dg0 rfl) rfl rfl rfl rfl ?_
                      refine d_s (.ref 3 6) rfl (dg0 rfl) rfl rfl rfl rfl ?_
                      refine d_s (.t (.d (.seq 4 (List.map cS_api_Past p1.History)))) rfl (dg0 rfl) rfl rfl rfl rfl ?_
                      refine d_s (.t (.d (.lit (.int .i64 z12)))) rfl (dg0 rfl) rfl rfl rfl rfl ?_
                      obtain ⟨x16, h17, h⟩ := bind_some h
                      refine d_c rfl (dg0 rfl) rfl rfl rfl rfl (idxE h17) (idxC h17) ?_
                      refine d_s (.t (.agg [.lit (.int .i64 x16.Number), .lit (.int .i64 x16.Epoch), .lit (.bool x16.Gone), .lit (.string ⟨⟨x16.By⟩⟩)])) rfl (dg0 rfl) rfl rfl rfl rfl ?_
                      refine d_eqs true (b' := ((x14.Number == x16.Number) && ((x14.Epoch == x16.Epoch) && ((x14.Gone == x16.Gone) && ((x14.By == x16.By) && true))))) (andE rfl (andE rfl (andE rfl (andE (str_beqL _ _) rfl)))) rfl (dg0 rfl) rfl rfl rfl rfl rfl (by kernel_rfl) ((!((x14.Number == x16.Number) && ((x14.Epoch == x16.Epoch) && ((x14.Gone == x16.Gone) && ((x14.By == x16.By) && true)))))) (by cases ((x14.Number == x16.Number) && ((x14.Epoch == x16.Epoch) && ((x14.Gone == x16.Gone) && ((x14.By == x16.By) && true)))) <;> rfl) ?_
                      refine d_nil (by kernel_rfl) ?_
                      repeat (first | refine then_normal ?_ | refine then_exit ?_ | refine then_ret ?_ | refine block_normal ?_ | refine block_ret ?_ | refine block_exit ?_ | refine block_pass rfl ?_)
                      rcases bif_some h with ⟨h18, h⟩ | ⟨h18, h⟩
                      · refine c_t h18 rfl ?_
                        refine c_seq ?_
                        refine c_region ?_
                        refine o_s (.t (.d (.lit (.bool false)))) (g0 rfl) rfl rfl rfl ?_
                        refine o_nil ?_
                        repeat (first | refine then_normal ?_ | refine then_exit ?_ | refine then_ret ?_ | refine block_normal ?_ | refine block_ret ?_ | refine block_exit ?_ | refine block_pass rfl ?_)
                        refine c_ret ?_
                        repeat (first | refine then_normal ?_ | refine then_exit ?_ | refine then_ret ?_ | refine block_normal ?_ | refine block_ret ?_ | refine block_exit ?_ | refine block_pass rfl ?_)
                        obtain rfl := Option.some.inj h
                        exact end0 rfl (.refl _)
                      · refine c_f h18 rfl ?_
                        refine c_skip ?_
                        repeat (first | refine then_normal ?_ | refine then_exit ?_ | refine then_ret ?_ | refine block_normal ?_ | refine block_ret ?_ | refine block_exit ?_ | refine block_pass rfl ?_)
                        refine c_region ?_
                        refine o_s (.t (.d (.lit (.int .i64 z12)))) (g0 rfl) rfl rfl rfl ?_
                        refine o_s (.t (.d (.lit (.int .i64 (wi (z12 + 1)))))) (g0 rfl) rfl rfl rfl ?_
                        refine o_s (.t (.d (.lit (.int .i64 (wi (z12 + 1)))))) (g0 rfl) rfl rfl rfl ?_
                        refine o_nil ?_
                        repeat (first | refine then_normal ?_ | refine then_exit ?_ | refine then_ret ?_ | refine block_normal ?_ | refine block_ret ?_ | refine block_exit ?_ | refine block_pass rfl ?_)
                        exact ⟨nl2, (wi (z12 + 1)), Nat.lt_succ_self nl2, h, ⟨(.refl _), ⟨(.refl _), ⟨(.refl _), trivial⟩⟩⟩, rfl⟩
                    · refine c_f h13 rfl ?_
                      refine c_exit ?_
                      repeat (first | refine then_normal ?_ | refine then_exit ?_ | refine then_ret ?_ | refine block_normal ?_ | refine block_ret ?_ | refine block_exit ?_ | refine block_pass rfl ?_)
                      refine c_seq ?_
                      refine c_region ?_
                      refine o_s (.t (.d (.lit (.bool true)))) (g0 rfl) rfl rfl rfl ?_
                      refine o_nil ?_
                      repeat (first | refine then_normal ?_ | refine then_exit ?_ | refine then_ret ?_ | refine block_normal ?_ | refine block_ret ?_ | refine block_exit ?_ | refine block_pass rfl ?_)
                      refine c_ret ?_
                      repeat (first | refine then_normal ?_ | refine then_exit ?_ | refine then_ret ?_ | refine block_normal ?_ | refine block_ret ?_ | refine block_exit ?_ | refine block_pass rfl ?_)
                      obtain rfl := Option.some.inj h
                      exact end0 rfl (.refl _)

theorem fc_L31_AnswerSame (p0 : S_api_Answer) (p1 : S_api_Answer) (r : Bool) (h : m_L31_AnswerSame p0 p1 = some r) : FC Try.prog 3 [.t (.agg [.lit (.int .i64 p0.Err), .lit (.int .i64 p0.Number), .lit (.string ⟨⟨p0.By⟩⟩), .seq 1 (bytesD p0.Data), .seq 1 (List.map cStr p0.Names), .seq 2 (List.map cS_api_Member p0.Members), .seq 4 (List.map cS_api_Past p0.History)]), .t (.agg [.lit (.int .i64 p1.Err), .lit (.int .i64 p1.Number), .lit (.string ⟨⟨p1.By⟩⟩), .seq 1 (bytesD p1.Data), .seq 1 (List.map cStr p1.Names), .seq 2 (List.map cS_api_Member p1.Members), .seq 4 (List.map cS_api_Past p1.History)])] [] (.t (.d (.lit (.bool r)))) := by
  refine fc_mk (rs := [.tmp 4]) (n := 27) Try.func3 rfl rfl (Nat.le_of_ble_eq_true rfl) rfl (pins := []) rfl (L := [(0, .t (.agg [.lit (.int .i64 p0.Err), .lit (.int .i64 p0.Number), .lit (.string ⟨⟨p0.By⟩⟩), .seq 1 (bytesD p0.Data), .seq 1 (List.map cStr p0.Names), .seq 2 (List.map cS_api_Member p0.Members), .seq 4 (List.map cS_api_Past p0.History)])), (1, .t (.agg [.lit (.int .i64 p1.Err), .lit (.int .i64 p1.Number), .lit (.string ⟨⟨p1.By⟩⟩), .seq 1 (bytesD p1.Data), .seq 1 (List.map cStr p1.Names), .seq 2 (List.map cS_api_Member p1.Members), .seq 4 (List.map cS_api_Past p1.History)]))]) rfl ?_
  refine c_seq ?_
  refine c_region ?_
  refine o_s (.box [.d (.lit (.int .i64 p0.Err)), .d (.lit (.int .i64 p0.Number)), .d (.lit (.string ⟨⟨p0.By⟩⟩)), .d (.seq 1 (bytesD p0.Data)), .d (.seq 1 (List.map cStr p0.Names)), .d (.seq 2 (List.map cS_api_Member p0.Members)), .d (.seq 4 (List.map cS_api_Past p0.History))]) (g0 rfl) rfl rfl rfl ?_
  refine o_s (.box [.d (.lit (.int .i64 p1.Err)), .d (.lit (.int .i64 p1.Number)), .d (.lit (.string ⟨⟨p1.By⟩⟩)), .d (.seq 1 (bytesD p1.Data)), .d (.seq 1 (List.map cStr p1.Names)), .d (.seq 2 (List.map cS_api_Member p1.Members)), .d (.seq 4 (List.map cS_api_Past p1.History))]) (g0 rfl) rfl rfl rfl ?_
  refine o_s (.t (.d (.lit (.bool false)))) (g0 rfl) rfl rfl rfl ?_
  refine o_nil ?_
  repeat (first | refine then_normal ?_ | refine then_exit ?_ | refine then_ret ?_ | refine block_normal ?_ | refine block_ret ?_ | refine block_exit ?_ | refine block_pass rfl ?_)
  refine c_seq ?_
  refine c_seq ?_
  refine c_region ?_
  obtain ⟨x1, h2, h⟩ := bind_some h
  refine o_ca (fc_L31_awake _ h2) (g0 rfl) rfl rfl rfl rfl rfl rfl rfl .nil rfl rfl ?_
  refine o_s (.t (.d (.lit (.bool (!x1))))) (g0 rfl) rfl rfl rfl ?_
  refine o_nil ?_
  repeat (first | refine then_normal ?_ | refine then_exit ?_ | refine then_ret ?_ | refine block_normal ?_ | refine block_ret ?_ | refine block_exit ?_ | refine block_pass rfl ?_)
  rcases bif_some h with ⟨h3, h⟩ | ⟨h3, h⟩
  · refine c_t h3 rfl ?_
    refine c_seq ?_
    refine c_region ?_
    refine o_s (.t (.d (.lit (.bool false)))) (g0 rfl) rfl rfl rfl ?_
    refine o_nil ?_
    repeat (first | refine then_normal ?_ | refine then_exit ?_ | refine then_ret ?_ | refine block_normal ?_ | refine block_ret ?_ | refine block_exit ?_ | refine block_pass rfl ?_)
    refine c_ret ?_
    repeat (first | refine then_normal ?_ | refine then_exit ?_ | refine then_ret ?_ | refine block_normal ?_ | refine block_ret ?_ | refine block_exit ?_ | refine block_pass rfl ?_)
    obtain rfl := Option.some.inj h
    exact end0 rfl (.refl _)
  · refine c_f h3 rfl ?_
    refine c_skip ?_
    repeat (first | refine then_normal ?_ | refine then_exit ?_ | refine then_ret ?_ | refine block_normal ?_ | refine block_ret ?_ | refine block_exit ?_ | refine block_pass rfl ?_)
    refine c_seq ?_
    refine c_seq ?_
    refine c_region ?_
    refine o_s (.t (.agg [.lit (.int .i64 p0.Err), .lit (.int .i64 p0.Number), .lit (.string ⟨⟨p0.By⟩⟩), .seq 1 (bytesD p0.Data), .seq 1 (List.map cStr p0.Names), .seq 2 (List.map cS_api_Member p0.Members), .seq 4 (List.map cS_api_Past p0.History)])) (g0 rfl) rfl rfl rfl ?_
    obtain ⟨x4, h5, h⟩ := bind_some h
    refine o_ca (fc_L31_few _ _ h5) (g0 rfl) rfl rfl rfl rfl rfl rfl rfl (.cons (.refl _) .nil) rfl rfl ?_
    refine o_s (.t (.d (.lit (.bool (!x4))))) (g0 rfl) rfl rfl rfl ?_
    refine o_s (.t (.d (.lit (.bool (!x4))))) (g0 rfl) rfl rfl rfl ?_
    rcases bif_some h with ⟨h6, h⟩ | ⟨h6, h⟩
    · refine o_skip rfl rfl rfl h6 rfl rfl ?_
      refine o_skip rfl rfl rfl h6 rfl rfl ?_
      refine o_skip rfl rfl rfl h6 rfl rfl ?_
      refine o_pk (.t (.d (.lit (.bool true)))) (b := true) h6 (g0 rfl) rfl rfl rfl rfl rfl ?_
      refine o_nil ?_
      repeat (first | refine then_normal ?_ | refine then_exit ?_ | refine then_ret ?_ | refine block_normal ?_ | refine block_ret ?_ | refine block_exit ?_ | refine block_pass rfl ?_)
      refine c_t rfl rfl ?_
      refine c_seq ?_
      refine c_region ?_
      refine o_s (.t (.d (.lit (.bool true)))) (g0 rfl) rfl rfl rfl ?_
      refine o_nil ?_
      repeat (first | refine then_normal ?_ | refine then_exit ?_ | refine then_ret ?_ | refine block_normal ?_ | refine block_ret ?_ | refine block_exit ?_ | refine block_pass rfl ?_)
      refine c_ret ?_
      repeat (first | refine then_normal ?_ | refine then_exit ?_ | refine then_ret ?_ | refine block_normal ?_ | refine block_ret ?_ | refine block_exit ?_ | refine block_pass rfl ?_)
      obtain rfl := Option.some.inj h
      exact end0 rfl (.refl _)
    · refine o_s (.t (.agg [.lit (.int .i64 p1.Err), .lit (.int .i64 p1.Number), .lit (.string ⟨⟨p1.By⟩⟩), .seq 1 (bytesD p1.Data), .seq 1 (List.map cStr p1.Names), .seq 2 (List.map cS_api_Member p1.Members), .seq 4 (List.map cS_api_Past p1.History)])) (gy rfl rfl rfl h6) rfl rfl rfl ?_
      obtain ⟨x7, h8, h⟩ := bind_some h
      refine o_ca (fc_L31_few _ _ h8) (gy rfl rfl rfl h6) rfl rfl rfl rfl rfl rfl rfl (.cons (.refl _) .nil) rfl rfl ?_
      refine o_s (.t (.d (.lit (.bool (!x7))))) (gy rfl rfl rfl h6) rfl rfl rfl ?_
      refine o_pk (.t (.d (.lit (.bool (!x7))))) (b := false) h6 (g0 rfl) rfl rfl rfl rfl rfl ?_
      refine o_nil ?_
      repeat (first | refine then_normal ?_ | refine then_exit ?_ | refine then_ret ?_ | refine block_normal ?_ | refine block_ret ?_ | refine block_exit ?_ | refine block_pass rfl ?_)
      rcases bif_some h with ⟨h9, h⟩ | ⟨h9, h⟩
      · refine c_t h9 rfl ?_
        refine c_seq ?_
        refine c_region ?_
        refine o_s (.t (.d (.lit (.bool true)))) (g0 rfl) rfl rfl rfl ?_
        refine o_nil ?_
        repeat (first | refine then_normal ?_ | refine then_exit ?_ | refine then_ret ?_ | refine block_normal ?_ | refine block_ret ?_ | refine block_exit ?_ | refine block_pass rfl ?_)
        refine c_ret ?_
        repeat (first | refine then_normal ?_ | refine then_exit ?_ | refine then_ret ?_ | refine block_normal ?_ | refine block_ret ?_ | refine block_exit ?_ | refine block_pass rfl ?_)
        obtain rfl := Option.some.inj h
        exact end0 rfl (.refl _)
      · refine c_f h9 rfl ?_
        refine c_skip ?_
        repeat (first | refine then_normal ?_ | refine then_exit ?_ | refine then_ret ?_ | refine block_normal ?_ | refine block_ret ?_ | refine block_exit ?_ | refine block_pass rfl ?_)
        refine c_seq ?_
        refine c_draw mixed (by kernel_rfl) ?_
        refine d_s (.t (.agg [.lit (.int .i64 p0.Err), .lit (.int .i64 p0.Number), .lit (.string ⟨⟨p0.By⟩⟩), .seq 1 (bytesD p0.Data), .seq 1 (List.map cStr p0.Names), .seq 2 (List.map cS_api_Member p0.Members), .seq 4 (List.map cS_api_Past p0.History)])) rfl (dg0 rfl) rfl rfl rfl rfl ?_
        refine d_s (.t (.agg [.lit (.int .i64 p1.Err), .lit (.int .i64 p1.Number), .lit (.string ⟨⟨p1.By⟩⟩), .seq 1 (bytesD p1.Data), .seq 1 (List.map cStr p1.Names), .seq 2 (List.map cS_api_Member p1.Members), .seq 4 (List.map cS_api_Past p1.History)])) rfl (dg0 rfl) rfl rfl rfl rfl ?_
        obtain ⟨x10, h11, h⟩ := bind_some h
        refine d_ca (fc_answer_Same _ _ _ h11) rfl (dg0 rfl) rfl rfl rfl rfl rfl rfl rfl rfl (.cons (.refl _) (.cons (.refl _) .nil)) rfl rfl ?_
        refine d_s (.t (.agg [.lit (.int .i64 p0.Err), .lit (.int .i64 p0.Number), .lit (.string ⟨⟨p0.By⟩⟩), .seq 1 (bytesD p0.Data), .seq 1 (List.map cStr p0.Names), .seq 2 (List.map cS_api_Member p0.Members), .seq 4 (List.map cS_api_Past p0.History)])) rfl (dg0 rfl) rfl rfl rfl rfl ?_
        refine d_s (.t (.agg [.lit (.int .i64 p1.Err), .lit (.int .i64 p1.Number), .lit (.string ⟨⟨p1.By⟩⟩), .seq 1 (bytesD p1.Data), .seq 1 (List.map cStr p1.Names), .seq 2 (List.map cS_api_Member p1.Members), .seq 4 (List.map cS_api_Past p1.History)])) rfl (dg0 rfl) rfl rfl rfl rfl ?_
        obtain ⟨x12, h13, h⟩ := bind_some h
        refine d_ca (fc_R31_Same _ _ _ h13) rfl (dg0 rfl) rfl rfl rfl rfl rfl rfl rfl rfl (.cons (.refl _) (.cons (.refl _) .nil)) rfl rfl ?_
        refine d_s (.t (.d (.lit (.bool (x10 == x12))))) rfl (dg0 rfl) rfl rfl rfl rfl ?_
        refine d_s (.t (.d (.lit (.bool (x10 == x12))))) rfl (dg0 rfl) rfl rfl rfl rfl ?_
        rcases bif_some h with ⟨h14, h⟩ | ⟨h14, h⟩
        · refine d_s (.t (.agg [.lit (.int .i64 p0.Err), .lit (.int .i64 p0.Number), .lit (.string ⟨⟨p0.By⟩⟩), .seq 1 (bytesD p0.Data), .seq 1 (List.map cStr p0.Names), .seq 2 (List.map cS_api_Member p0.Members), .seq 4 (List.map cS_api_Past p0.History)])) rfl (dgy rfl rfl rfl rfl h14) rfl rfl rfl rfl ?_
          refine d_s (.t (.agg [.lit (.int .i64 p0.Err), .lit (.int .i64 p0.Number), .lit (.string ⟨⟨p0.By⟩⟩), .seq 1 (bytesD p0.Data), .seq 1 (List.map cStr p0.Names), .seq 2 (List.map cS_api_Member p0.Members), .seq 4 (List.map cS_api_Past p0.History)])) rfl (dgy rfl rfl rfl rfl h14) rfl rfl rfl rfl ?_
          obtain ⟨x15, h16, h⟩ := bind_some h
          refine d_ca (fc_answer_Same _ _ _ h16) rfl (dgy rfl rfl rfl rfl h14) rfl rfl rfl rfl rfl rfl rfl rfl (.cons (.refl _) (.cons (.refl _) .nil)) rfl rfl ?_
          refine d_pk (.t (.d (.lit (.bool x15)))) (b := true) h14 rfl (dg0 rfl) rfl rfl rfl rfl rfl rfl ?_
          refine d_s (.t (.d (.lit (.bool x15)))) rfl (dg0 rfl) rfl rfl rfl rfl ?_
          refine d_nil (by kernel_rfl) ?_
          repeat (first | refine then_normal ?_ | refine then_exit ?_ | refine then_ret ?_ | refine block_normal ?_ | refine block_ret ?_ | refine block_exit ?_ | refine block_pass rfl ?_)
          refine c_ret ?_
          repeat (first | refine then_normal ?_ | refine then_exit ?_ | refine then_ret ?_ | refine block_normal ?_ | refine block_ret ?_ | refine block_exit ?_ | refine block_pass rfl ?_)
          obtain rfl := Option.some.inj h
          exact end0 rfl (.refl _)
        · refine d_skip rfl rfl rfl rfl rfl h14 rfl rfl rfl ?_
          refine d_skip rfl rfl rfl rfl rfl h14 rfl rfl rfl ?_
          refine d_skip rfl rfl rfl rfl rfl h14 rfl rfl rfl ?_
          refine d_pk (.t (.d (.lit (.bool false)))) (b := false) h14 rfl (dg0 rfl) rfl rfl rfl rfl rfl rfl ?_
          refine d_s (.t (.d (.lit (.bool false)))) rfl (dg0 rfl) rfl rfl rfl rfl ?_
          refine d_nil (by kernel_rfl) ?_
          repeat (first | refine then_normal ?_ | refine then_exit ?_ | refine then_ret ?_ | refine block_normal ?_ | refine block_ret ?_ | refine block_exit ?_ | refine block_pass rfl ?_)
          refine c_ret ?_
          repeat (first | refine then_normal ?_ | refine then_exit ?_ | refine then_ret ?_ | refine block_normal ?_ | refine block_ret ?_ | refine block_exit ?_ | refine block_pass rfl ?_)
          obtain rfl := Option.some.inj h
          exact end0 rfl (.refl _)

end Go.Proofs.Ytimdogdplphmoab
