/-
  Walks of functions: each function does what its model tells. Printed by a program of this claim's own (gen.py) off the given translation.
-/
import Derived.Test.YtimdogdplphmoacAkM
import Derived.Test.YtimdogdplphmoacCbW
import Derived.Test.YtimdogdplphmoacClo
namespace Go.Proofs.Ytimdogdplphmoac
open Go Go.RowKit
set_option linter.unusedVariables false
set_option maxHeartbeats 4000000
set_option maxRecDepth 20000
theorem fc_answer_word (p0 : (List UInt8)) (r : V) (h : m_answer_word p0 = some r) : FC Try.prog 65 [.t (.d (.lit (.string ⟨⟨p0⟩⟩)))] [] (.t (.agg [.lit (.int .i64 r.k), .lit (.int .i64 r.n), .seq 1 (bytesD r.b), .seq 4 (List.map V.cells r.l)])) := by
  refine fc_mk (rs := [.cell 2 58]) (n := 6) Try.func65 rfl rfl (Nat.le_of_ble_eq_true rfl) rfl (pins := []) rfl (L := [(0, .t (.d (.lit (.string ⟨⟨p0⟩⟩))))]) rfl ?_
  refine c_seq ?_
  refine c_region ?_
  refine o_s (.box [.d (.lit (.int .i64 0)), .d (.lit (.int .i64 0)), .d (.lit (.slice none 0 0)), .d (.lit (.slice none 0 0))]) (g0 rfl) rfl rfl rfl ?_
  refine o_nil ?_
  repeat (first | refine then_normal ?_ | refine then_exit ?_ | refine then_ret ?_ | refine block_normal ?_ | refine block_ret ?_ | refine block_exit ?_ | refine block_pass rfl ?_)
  refine c_seq ?_
  refine c_region ?_
  refine o_s (.t (.d (.lit (.string ⟨⟨p0⟩⟩)))) (g0 rfl) rfl rfl rfl ?_
  obtain ⟨x1, h2, h⟩ := bind_some h
  refine o_c (g0 rfl) rfl rfl rfl (strBE h2) (strBC h2) ?_
  obtain ⟨x3, h4, h⟩ := bind_some h
  refine o_ca (fc_codec_Raw _ _ h4) (g0 rfl) rfl rfl rfl rfl rfl rfl rfl (.cons (.refl _) .nil) rfl rfl ?_
  refine o_st (.box [.d (.lit (.int .i64 x3.k)), .d (.lit (.int .i64 x3.n)), .d (.seq 1 (bytesD x3.b)), .d (.lit (.slice none 0 0))]) (g0 rfl) rfl rfl rfl ?_
  refine o_nil ?_
  repeat (first | refine then_normal ?_ | refine then_exit ?_ | refine then_ret ?_ | refine block_normal ?_ | refine block_ret ?_ | refine block_exit ?_ | refine block_pass rfl ?_)
  refine c_ret ?_
  repeat (first | refine then_normal ?_ | refine then_exit ?_ | refine then_ret ?_ | refine block_normal ?_ | refine block_ret ?_ | refine block_exit ?_ | refine block_pass rfl ?_)
  obtain rfl := Option.some.inj h
  exact end0 rfl (.t (.agg (.cons (.refl _) (.cons (.refl _) (.cons (.refl _) (.cons (.nil _) .nil))))))

theorem fc_answer_list_string (p0 : (List (List UInt8))) (F1 : Nat) (C1 : List (List D)) (p1 : ((List UInt8) → Option V)) (hp1 : ∀ (a0 : (List UInt8)) r, p1 a0 = some r → FC Try.prog F1 ([.t (.d (.lit (.string ⟨⟨a0⟩⟩)))] ++ C1.map A.imm) [] (.t (.agg [.lit (.int .i64 r.k), .lit (.int .i64 r.n), .seq 1 (bytesD r.b), .seq 4 (List.map V.cells r.l)]))) (hf1 : ∃ fn, Try.prog.funcs[F1]? = some fn ∧ fn.body.isNone = false ∧ (fn.name == "runtime.NumGoroutine") = false) (r : V) (h : m_answer_list_string p0 p1 = some r) : FC Try.prog 66 [.t (.d (.seq 1 (List.map cStr p0))), .t (.d (.clo F1 C1))] [] (.t (.agg [.lit (.int .i64 r.k), .lit (.int .i64 r.n), .lit (.slice none 0 0), .seq 4 (List.map V.cells r.l)])) := by
  refine fc_mk (rs := [.cell 4 58]) (n := 25) Try.func66 rfl rfl (Nat.le_of_ble_eq_true rfl) rfl (pins := []) rfl (L := [(0, .t (.d (.seq 1 (List.map cStr p0)))), (1, .t (.d (.clo F1 C1)))]) rfl ?_
  refine c_seq ?_
  refine c_region ?_
  refine o_s (.box [.d (.lit (.int .i64 0)), .d (.lit (.int .i64 0)), .d (.lit (.slice none 0 0)), .d (.lit (.slice none 0 0))]) (g0 rfl) rfl rfl rfl ?_
  refine o_nil ?_
  repeat (first | refine then_normal ?_ | refine then_exit ?_ | refine then_ret ?_ | refine block_normal ?_ | refine block_ret ?_ | refine block_exit ?_ | refine block_pass rfl ?_)
  refine c_seq ?_
  refine c_region ?_
  obtain ⟨x1, h2, h⟩ := bind_some h
  refine o_ca (fc_codec_Of_n0 _ h2) (g0 rfl) rfl rfl rfl rfl rfl rfl rfl (.cons (.refl _) .nil) rfl rfl ?_
  refine o_s (.box [.d (.lit (.int .i64 0)), .d (.lit (.int .i64 0)), .d (.lit (.slice none 0 0)), .d (.lit (.slice none 0 0))]) (g0 rfl) rfl rfl rfl ?_
  refine o_st (.box [.d (.lit (.int .i64 x1.k)), .d (.lit (.int .i64 x1.n)), .d (.lit (.slice none 0 0)), .d (.lit (.slice none 0 0))]) (g0 rfl) rfl rfl rfl ?_
  refine o_nil ?_
  repeat (first | refine then_normal ?_ | refine then_exit ?_ | refine then_ret ?_ | refine block_normal ?_ | refine block_ret ?_ | refine block_exit ?_ | refine block_pass rfl ?_)
  refine c_seq ?_
  refine c_seq ?_
  refine c_region ?_
  refine o_s (.t (.d (.seq 1 (List.map cStr p0)))) (g0 rfl) rfl rfl rfl ?_
  refine o_c (g0 rfl) rfl rfl rfl (lenE _ _) trivial ?_
  refine o_s (.t (.d (.lit (.int .i64 0)))) (g0 rfl) rfl rfl rfl ?_
  refine o_nil ?_
  repeat (first | refine then_normal ?_ | refine then_exit ?_ | refine then_ret ?_ | refine block_normal ?_ | refine block_ret ?_ | refine block_exit ?_ | refine block_pass rfl ?_)
  refine c_block ?_
  refine c_fuel (fun (q : (List V) × Int) => [(1, .t (.d (.clo F1 C1))), (4, .box [.d (.lit (.int .i64 0)), .d (.lit (.int .i64 0)), .d (.lit (.slice none 0 0)), .d (.lit (.slice none 0 0))]), (5, .box [.d (.lit (.int .i64 x1.k)), .d (.lit (.int .i64 x1.n)), .d (.lit (.slice none 0 0)), .own 58 4 (List.map V.cells q.1)]), (9, .t (.d (.seq 1 (List.map cStr p0)))), (10, .t (.d (.lit (.int .i64 (p0.length : Int))))), (11, .t (.d (.lit (.int .i64 q.2))))]) (fun nl1 => (fun (q : (List V) × Int) => m_answer_list_string_l1 p0 p1 x1 nl1 q.1 q.2 = some r)) (p0.length + 1) ([], 0) h ⟨(.refl _), ⟨(.refl _), ⟨(.box (.cons (.refl _) (.cons (.refl _) (.cons (.refl _) (.cons (.nilOwn _ _) .nil)))) rfl), ⟨(.refl _), ⟨(.refl _), ⟨(.refl _), trivial⟩⟩⟩⟩⟩⟩ rfl ?_
  rintro nl1 ⟨z3, z4⟩ h
  cases nl1 with
  | zero => exact none_ne h
  | succ nl1 =>
    refine c_seq ?_
    refine c_region ?_
    refine o_s (.t (.d (.lit (.bool (decide (z4 < (p0.length : Int))))))) (g0 rfl) rfl rfl rfl ?_
    refine o_nil ?_
    repeat (first | refine then_normal ?_ | refine then_exit ?_ | refine then_ret ?_ | refine block_normal ?_ | refine block_ret ?_ | refine block_exit ?_ | refine block_pass rfl ?_)
    refine c_seq ?_
    rcases bif_some h with ⟨h5, h⟩ | ⟨h5, h⟩
    · refine c_t h5 rfl ?_
      refine c_skip ?_
      repeat (first | refine then_normal ?_ | refine then_exit ?_ | refine then_ret ?_ | refine block_normal ?_ | refine block_ret ?_ | refine block_exit ?_ | refine block_pass rfl ?_)
      refine c_seq ?_
      refine c_block ?_
      refine c_seq ?_
      refine c_region ?_
      obtain ⟨x6, h7, h⟩ := bind_some h
      refine o_c (g0 rfl) rfl rfl rfl (idxE h7) (idxC h7) ?_
      refine o_s (.t (.d (.lit (.string ⟨⟨x6⟩⟩)))) (g0 rfl) rfl rfl rfl ?_
      refine o_s (.t (.d (.lit (.string ⟨⟨x6⟩⟩)))) (g0 rfl) rfl rfl rfl ?_
      refine o_nil ?_
      repeat (first | refine then_normal ?_ | refine then_exit ?_ | refine then_ret ?_ | refine block_normal ?_ | refine block_ret ?_ | refine block_exit ?_ | refine block_pass rfl ?_)
      refine c_draw mixed (by kernel_rfl) ?_
      refine d_s (.ref 5 3) rfl (dg0 rfl) rfl rfl rfl rfl ?_
      refine d_2 (.box [.d (.lit (.int .i64 x1.k)), .d (.lit (.int .i64 x1.n)), .d (.lit (.slice none 0 0)), .d (.seq 4 (List.map V.cells z3))]) (.t (.own 58 4 (List.map V.cells z3))) rfl (dg0 rfl) rfl rfl rfl rfl rfl ?_
      refine d_s (.t (.d (.clo F1 C1))) rfl (dg0 rfl) rfl rfl rfl rfl ?_
      refine d_s (.t (.d (.lit (.string ⟨⟨x6⟩⟩)))) rfl (dg0 rfl) rfl rfl rfl rfl ?_
      obtain ⟨x8, h9, h⟩ := bind_some h
      refine d_cc (hp1 _ _ h9) rfl (dg0 rfl) rfl rfl rfl rfl rfl hf1.choose_spec.1 hf1.choose_spec.2.1 hf1.choose_spec.2.2 (.cons (.refl _) .nil) rfl rfl ?_
      refine d_c rfl (dg0 rfl) rfl rfl rfl rfl (congrArg (fun z => A.t (.own 58 4 z)) (rowsE V.cells_eq [x8])) trivial ?_
      obtain ⟨x10, h11, h⟩ := bind_some h
      refine d_2c rfl (dg0 rfl) rfl rfl rfl rfl rfl (appE (c := V.cells) h11) (appC (c := V.cells) h11) ?_
      refine d_s (.ref 5 3) rfl (dg0 rfl) rfl rfl rfl rfl ?_
      refine d_st2 (.t (.d (.seq 4 (List.map V.cells x10)))) (.box [.d (.lit (.int .i64 x1.k)), .d (.lit (.int .i64 x1.n)), .d (.lit (.slice none 0 0)), .own 58 4 (List.map V.cells x10)]) rfl (dg0 rfl) rfl rfl rfl rfl rfl ?_
      refine d_nil (by kernel_rfl) ?_
      repeat (first | refine then_normal ?_ | refine then_exit ?_ | refine then_ret ?_ | refine block_normal ?_ | refine block_ret ?_ | refine block_exit ?_ | refine block_pass rfl ?_)
      refine c_region ?_
      refine o_s (.t (.d (.lit (.int .i64 (wi (z4 + 1)))))) (g0 rfl) rfl rfl rfl ?_
      refine o_s (.t (.d (.lit (.int .i64 (wi (z4 + 1)))))) (g0 rfl) rfl rfl rfl ?_
      refine o_nil ?_
      repeat (first | refine then_normal ?_ | refine then_exit ?_ | refine then_ret ?_ | refine block_normal ?_ | refine block_ret ?_ | refine block_exit ?_ | refine block_pass rfl ?_)
      exact ⟨nl1, (x10, (wi (z4 + 1))), Nat.lt_succ_self nl1, h, ⟨(.refl _), ⟨(.refl _), ⟨(.refl _), ⟨(.refl _), ⟨(.refl _), ⟨(.refl _), trivial⟩⟩⟩⟩⟩⟩, rfl⟩
    · refine c_f h5 rfl ?_
      refine c_exit ?_
      repeat (first | refine then_normal ?_ | refine then_exit ?_ | refine then_ret ?_ | refine block_normal ?_ | refine block_ret ?_ | refine block_exit ?_ | refine block_pass rfl ?_)
      refine c_seq ?_
      refine c_region ?_
      refine o_s (.t (.agg [.lit (.int .i64 x1.k), .lit (.int .i64 x1.n), .lit (.slice none 0 0), .seq 4 (List.map V.cells z3)])) (g0 rfl) rfl rfl rfl ?_
      refine o_st (.box [.d (.lit (.int .i64 x1.k)), .d (.lit (.int .i64 x1.n)), .d (.lit (.slice none 0 0)), .d (.seq 4 (List.map V.cells z3))]) (g0 rfl) rfl rfl rfl ?_
      refine o_nil ?_
      repeat (first | refine then_normal ?_ | refine then_exit ?_ | refine then_ret ?_ | refine block_normal ?_ | refine block_ret ?_ | refine block_exit ?_ | refine block_pass rfl ?_)
      refine c_ret ?_
      repeat (first | refine then_normal ?_ | refine then_exit ?_ | refine then_ret ?_ | refine block_normal ?_ | refine block_ret ?_ | refine block_exit ?_ | refine block_pass rfl ?_)
      obtain rfl := Option.some.inj h
      exact end0 rfl (.refl _)

theorem fc_answer_list_Member (p0 : (List S_api_Member)) (F1 : Nat) (C1 : List (List D)) (p1 : (S_api_Member → Option V)) (hp1 : ∀ (a0 : S_api_Member) r, p1 a0 = some r → FC Try.prog F1 ([.t (.agg [.lit (.string ⟨⟨a0.Name⟩⟩), .lit (.int .i64 a0.Role)])] ++ C1.map A.imm) [] (.t (.agg [.lit (.int .i64 r.k), .lit (.int .i64 r.n), .seq 1 (bytesD r.b), .seq 4 (List.map V.cells r.l)]))) (hf1 : ∃ fn, Try.prog.funcs[F1]? = some fn ∧ fn.body.isNone = false ∧ (fn.name == "runtime.NumGoroutine") = false) (r : V) (h : m_answer_list_Member p0 p1 = some r) : FC Try.prog 67 [.t (.d (.seq 2 (List.map cS_api_Member p0))), .t (.d (.clo F1 C1))] [] (.t (.agg [.lit (.int .i64 r.k), .lit (.int .i64 r.n), .lit (.slice none 0 0), .seq 4 (List.map V.cells r.l)])) := by
  refine fc_mk (rs := [.cell 4 58]) (n := 25) Try.func67 rfl rfl (Nat.le_of_ble_eq_true rfl) rfl (pins := []) rfl (L := [(0, .t (.d (.seq 2 (List.map cS_api_Member p0)))), (1, .t (.d (.clo F1 C1)))]) rfl ?_
  refine c_seq ?_
  refine c_region ?_
  refine o_s (.box [.d (.lit (.int .i64 0)), .d (.lit (.int .i64 0)), .d (.lit (.slice none 0 0)), .d (.lit (.slice none 0 0))]) (g0 rfl) rfl rfl rfl ?_
  refine o_nil ?_
  repeat (first | refine then_normal ?_ | refine then_exit ?_ | refine then_ret ?_ | refine block_normal ?_ | refine block_ret ?_ | refine block_exit ?_ | refine block_pass rfl ?_)
  refine c_seq ?_
  refine c_region ?_
  obtain ⟨x1, h2, h⟩ := bind_some h
  refine o_ca (fc_codec_Of_n0 _ h2) (g0 rfl) rfl rfl rfl rfl rfl rfl rfl (.cons (.refl _) .nil) rfl rfl ?_
  refine o_s (.box [.d (.lit (.int .i64 0)), .d (.lit (.int .i64 0)), .d (.lit (.slice none 0 0)), .d (.lit (.slice none 0 0))]) (g0 rfl) rfl rfl rfl ?_
  refine o_st (.box [.d (.lit (.int .i64 x1.k)), .d (.lit (.int .i64 x1.n)), .d (.lit (.slice none 0 0)), .d (.lit (.slice none 0 0))]) (g0 rfl) rfl rfl rfl ?_
  refine o_nil ?_
  repeat (first | refine then_normal ?_ | refine then_exit ?_ | refine then_ret ?_ | refine block_normal ?_ | refine block_ret ?_ | refine block_exit ?_ | refine block_pass rfl ?_)
  refine c_seq ?_
  refine c_seq ?_
  refine c_region ?_
  refine o_s (.t (.d (.seq 2 (List.map cS_api_Member p0)))) (g0 rfl) rfl rfl rfl ?_
  refine o_c (g0 rfl) rfl rfl rfl (lenE _ _) trivial ?_
  refine o_s (.t (.d (.lit (.int .i64 0)))) (g0 rfl) rfl rfl rfl ?_
  refine o_nil ?_
  repeat (first | refine then_normal ?_ | refine then_exit ?_ | refine then_ret ?_ | refine block_normal ?_ | refine block_ret ?_ | refine block_exit ?_ | refine block_pass rfl ?_)
  refine c_block ?_
  refine c_fuel (fun (q : (List V) × Int) => [(1, .t (.d (.clo F1 C1))), (4, .box [.d (.lit (.int .i64 0)), .d (.lit (.int .i64 0)), .d (.lit (.slice none 0 0)), .d (.lit (.slice none 0 0))]), (5, .box [.d (.lit (.int .i64 x1.k)), .d (.lit (.int .i64 x1.n)), .d (.lit (.slice none 0 0)), .own 58 4 (List.map V.cells q.1)]), (9, .t (.d (.seq 2 (List.map cS_api_Member p0)))), (10, .t (.d (.lit (.int .i64 (p0.length : Int))))), (11, .t (.d (.lit (.int .i64 q.2))))]) (fun nl1 => (fun (q : (List V) × Int) => m_answer_list_Member_l1 p0 p1 x1 nl1 q.1 q.2 = some r)) (p0.length + 1) ([], 0) h ⟨(.refl _), ⟨(.refl _), ⟨(.box (.cons (.refl _) (.cons (.refl _) (.cons (.refl _) (.cons (.nilOwn _ _) .nil)))) rfl), ⟨(.refl _), ⟨(.refl _), ⟨(.refl _), trivial⟩⟩⟩⟩⟩⟩ rfl ?_
  rintro nl1 ⟨z3, z4⟩ h
  cases nl1 with
  | zero => exact none_ne h
  | succ nl1 =>
    refine c_seq ?_
    refine c_region ?_
    refine o_s (.t (.d (.lit (.bool (decide (z4 < (p0.length : Int))))))) (g0 rfl) rfl rfl rfl ?_
    refine o_nil ?_
    repeat (first | refine then_normal ?_ | refine then_exit ?_ | refine then_ret ?_ | refine block_normal ?_ | refine block_ret ?_ | refine block_exit ?_ | refine block_pass rfl ?_)
    refine c_seq ?_
    rcases bif_some h with ⟨h5, h⟩ | ⟨h5, h⟩
    · refine c_t h5 rfl ?_
      refine c_skip ?_
      repeat (first | refine then_normal ?_ | refine then_exit ?_ | refine then_ret ?_ | refine block_normal ?_ | refine block_ret ?_ | refine block_exit ?_ | refine block_pass rfl ?_)
      refine c_seq ?_
      refine c_block ?_
      refine c_seq ?_
      refine c_region ?_
      obtain ⟨x6, h7, h⟩ := bind_some h
      refine o_c (g0 rfl) rfl rfl rfl (idxE h7) (idxC h7) ?_
      refine o_s (.t (.agg [.lit (.string ⟨⟨x6.Name⟩⟩), .lit (.int .i64 x6.Role)])) (g0 rfl) rfl rfl rfl ?_
      refine o_s (.box [.d (.lit (.string ⟨⟨[]⟩⟩)), .d (.lit (.int .i64 0))]) (g0 rfl) rfl rfl rfl ?_
      refine o_st (.box [.d (.lit (.string ⟨⟨x6.Name⟩⟩)), .d (.lit (.int .i64 x6.Role))]) (g0 rfl) rfl rfl rfl ?_
      refine o_nil ?_
      repeat (first | refine then_normal ?_ | refine then_exit ?_ | refine then_ret ?_ | refine block_normal ?_ | refine block_ret ?_ | refine block_exit ?_ | refine block_pass rfl ?_)
      refine c_draw mixed (by kernel_rfl) ?_
      refine d_s (.ref 5 3) rfl (dg0 rfl) rfl rfl rfl rfl ?_
      refine d_2 (.box [.d (.lit (.int .i64 x1.k)), .d (.lit (.int .i64 x1.n)), .d (.lit (.slice none 0 0)), .d (.seq 4 (List.map V.cells z3))]) (.t (.own 58 4 (List.map V.cells z3))) rfl (dg0 rfl) rfl rfl rfl rfl rfl ?_
      refine d_s (.t (.d (.clo F1 C1))) rfl (dg0 rfl) rfl rfl rfl rfl ?_
      refine d_s (.t (.agg [.lit (.string ⟨⟨x6.Name⟩⟩), .lit (.int .i64 x6.Role)])) rfl (dg0 rfl) rfl rfl rfl rfl ?_
      obtain ⟨x8, h9, h⟩ := bind_some h
      refine d_cc (hp1 _ _ h9) rfl (dg0 rfl) rfl rfl rfl rfl rfl hf1.choose_spec.1 hf1.choose_spec.2.1 hf1.choose_spec.2.2 (.cons (.refl _) .nil) rfl rfl ?_
      refine d_c rfl (dg0 rfl) rfl rfl rfl rfl (congrArg (fun z => A.t (.own 58 4 z)) (rowsE V.cells_eq [x8])) trivial ?_
      obtain ⟨x10, h11, h⟩ := bind_some h
      refine d_2c rfl (dg0 rfl) rfl rfl rfl rfl rfl (appE (c := V.cells) h11) (appC (c := V.cells) h11) ?_
      refine d_s (.ref 5 3) rfl (dg0 rfl) rfl rfl rfl rfl ?_
      refine d_st2 (.t (.d (.seq 4 (List.map V.cells x10)))) (.box [.d (.lit (.int .i64 x1.k)), .d (.lit (.int .i64 x1.n)), .d (.lit (.slice none 0 0)), .own 58 4 (List.map V.cells x10)]) rfl (dg0 rfl) rfl rfl rfl rfl rfl ?_
      refine d_nil (by kernel_rfl) ?_
      repeat (first | refine then_normal ?_ | refine then_exit ?_ | refine then_ret ?_ | refine block_normal ?_ | refine block_ret ?_ | refine block_exit ?_ | refine block_pass rfl ?_)
      refine c_region ?_
      refine o_s (.t (.d (.lit (.int .i64 (wi (z4 + 1)))))) (g0 rfl) rfl rfl rfl ?_
      refine o_s (.t (.d (.lit (.int .i64 (wi (z4 + 1)))))) (g0 rfl) rfl rfl rfl ?_
      refine o_nil ?_
      repeat (first | refine then_normal ?_ | refine then_exit ?_ | refine then_ret ?_ | refine block_normal ?_ | refine block_ret ?_ | refine block_exit ?_ | refine block_pass rfl ?_)
      exact ⟨nl1, (x10, (wi (z4 + 1))), Nat.lt_succ_self nl1, h, ⟨(.refl _), ⟨(.refl _), ⟨(.refl _), ⟨(.refl _), ⟨(.refl _), ⟨(.refl _), trivial⟩⟩⟩⟩⟩⟩, rfl⟩
    · refine c_f h5 rfl ?_
      refine c_exit ?_
      repeat (first | refine then_normal ?_ | refine then_exit ?_ | refine then_ret ?_ | refine block_normal ?_ | refine block_ret ?_ | refine block_exit ?_ | refine block_pass rfl ?_)
      refine c_seq ?_
      refine c_region ?_
      refine o_s (.t (.agg [.lit (.int .i64 x1.k), .lit (.int .i64 x1.n), .lit (.slice none 0 0), .seq 4 (List.map V.cells z3)])) (g0 rfl) rfl rfl rfl ?_
      refine o_st (.box [.d (.lit (.int .i64 x1.k)), .d (.lit (.int .i64 x1.n)), .d (.lit (.slice none 0 0)), .d (.seq 4 (List.map V.cells z3))]) (g0 rfl) rfl rfl rfl ?_
      refine o_nil ?_
      repeat (first | refine then_normal ?_ | refine then_exit ?_ | refine then_ret ?_ | refine block_normal ?_ | refine block_ret ?_ | refine block_exit ?_ | refine block_pass rfl ?_)
      refine c_ret ?_
      repeat (first | refine then_normal ?_ | refine then_exit ?_ | refine then_ret ?_ | refine block_normal ?_ | refine block_ret ?_ | refine block_exit ?_ | refine block_pass rfl ?_)
      obtain rfl := Option.some.inj h
      exact end0 rfl (.refl _)

theorem fc_answer_value_c1 (p0 : S_api_Member) (r : V) (h : m_answer_value_c1 p0 = some r) : FC Try.prog 68 [.t (.agg [.lit (.string ⟨⟨p0.Name⟩⟩), .lit (.int .i64 p0.Role)])] [] (.t (.agg [.lit (.int .i64 r.k), .lit (.int .i64 r.n), .seq 1 (bytesD r.b), .seq 4 (List.map V.cells r.l)])) := by
  refine fc_mk (rs := [.cell 2 58]) (n := 11) Try.func68 rfl rfl (Nat.le_of_ble_eq_true rfl) rfl (pins := []) rfl (L := [(0, .t (.agg [.lit (.string ⟨⟨p0.Name⟩⟩), .lit (.int .i64 p0.Role)]))]) rfl ?_
  refine c_seq ?_
  refine c_region ?_
  refine o_s (.box [.d (.lit (.string ⟨⟨p0.Name⟩⟩)), .d (.lit (.int .i64 p0.Role))]) (g0 rfl) rfl rfl rfl ?_
  refine o_s (.box [.d (.lit (.int .i64 0)), .d (.lit (.int .i64 0)), .d (.lit (.slice none 0 0)), .d (.lit (.slice none 0 0))]) (g0 rfl) rfl rfl rfl ?_
  refine o_nil ?_
  repeat (first | refine then_normal ?_ | refine then_exit ?_ | refine then_ret ?_ | refine block_normal ?_ | refine block_ret ?_ | refine block_exit ?_ | refine block_pass rfl ?_)
  refine c_seq ?_
  refine c_draw mixed (by kernel_rfl) ?_
  refine d_s (.ref 1 0) rfl (dg0 rfl) rfl rfl rfl rfl ?_
  refine d_s (.t (.d (.lit (.string ⟨⟨p0.Name⟩⟩)))) rfl (dg0 rfl) rfl rfl rfl rfl ?_
  obtain ⟨x1, h2, h⟩ := bind_some h
  refine d_ca (fc_answer_word _ _ h2) rfl (dg0 rfl) rfl rfl rfl rfl rfl rfl rfl rfl (.cons (.refl _) .nil) rfl rfl ?_
  refine d_s (.ref 1 1) rfl (dg0 rfl) rfl rfl rfl rfl ?_
  refine d_s (.t (.d (.lit (.int .i64 p0.Role)))) rfl (dg0 rfl) rfl rfl rfl rfl ?_
  obtain ⟨x3, h4, h⟩ := bind_some h
  refine d_ca (fc_codec_Num _ _ h4) rfl (dg0 rfl) rfl rfl rfl rfl rfl rfl rfl rfl (.cons (.refl _) .nil) rfl rfl ?_
  refine d_w (.t (.own 58 4 (List.map V.cells [x1, (V.mk x3.k x3.n [] [])]))) rfl (dg0 rfl) rfl rfl rfl rfl (.t (.rows _ _ (.cons (.cons (.refl _) (.cons (.refl _) (.cons (.refl _) (.cons (.refl _) .nil)))) (.cons (.cons (.refl _) (.cons (.refl _) (.cons (.nil _) (.cons (.nil _) .nil)))) .nil)) (rowsE V.cells_eq [x1, (V.mk x3.k x3.n [] [])]))) (fun e => nomatch e) ?_
  obtain ⟨x5, h6, h⟩ := bind_some h
  refine d_ca (fc_codec_Of _ _ h6) rfl (dg0 rfl) rfl rfl rfl rfl rfl rfl rfl rfl (.cons (.refl _) .nil) rfl rfl ?_
  refine d_st (.box [.d (.lit (.int .i64 x5.k)), .d (.lit (.int .i64 x5.n)), .d (.lit (.slice none 0 0)), .d (.seq 4 (List.map V.cells x5.l))]) rfl (dg0 rfl) rfl rfl rfl rfl ?_
  refine d_nil (by kernel_rfl) ?_
  repeat (first | refine then_normal ?_ | refine then_exit ?_ | refine then_ret ?_ | refine block_normal ?_ | refine block_ret ?_ | refine block_exit ?_ | refine block_pass rfl ?_)
  refine c_ret ?_
  repeat (first | refine then_normal ?_ | refine then_exit ?_ | refine then_ret ?_ | refine block_normal ?_ | refine block_ret ?_ | refine block_exit ?_ | refine block_pass rfl ?_)
  obtain rfl := Option.some.inj h
  exact end0 rfl (.t (.agg (.cons (.refl _) (.cons (.refl _) (.cons (.nil _) (.cons (.refl _) .nil))))))

theorem fc_answer_list_Past (p0 : (List S_api_Past)) (F1 : Nat) (C1 : List (List D)) (p1 : (S_api_Past → Option V)) (hp1 : ∀ (a0 : S_api_Past) r, p1 a0 = some r → FC Try.prog F1 ([.t (.agg [.lit (.int .i64 a0.Number), .lit (.int .i64 a0.Epoch), .lit (.bool a0.Gone), .lit (.string ⟨⟨a0.By⟩⟩)])] ++ C1.map A.imm) [] (.t (.agg [.lit (.int .i64 r.k), .lit (.int .i64 r.n), .seq 1 (bytesD r.b), .seq 4 (List.map V.cells r.l)]))) (hf1 : ∃ fn, Try.prog.funcs[F1]? = some fn ∧ fn.body.isNone = false ∧ (fn.name == "runtime.NumGoroutine") = false) (r : V) (h : m_answer_list_Past p0 p1 = some r) : FC Try.prog 69 [.t (.d (.seq 4 (List.map cS_api_Past p0))), .t (.d (.clo F1 C1))] [] (.t (.agg [.lit (.int .i64 r.k), .lit (.int .i64 r.n), .lit (.slice none 0 0), .seq 4 (List.map V.cells r.l)])) := by
  refine fc_mk (rs := [.cell 4 58]) (n := 25) Try.func69 rfl rfl (Nat.le_of_ble_eq_true rfl) rfl (pins := []) rfl (L := [(0, .t (.d (.seq 4 (List.map cS_api_Past p0)))), (1, .t (.d (.clo F1 C1)))]) rfl ?_
  refine c_seq ?_
  refine c_region ?_
  refine o_s (.box [.d (.lit (.int .i64 0)), .d (.lit (.int .i64 0)), .d (.lit (.slice none 0 0)), .d (.lit (.slice none 0 0))]) (g0 rfl) rfl rfl rfl ?_
  refine o_nil ?_
  repeat (first | refine then_normal ?_ | refine then_exit ?_ | refine then_ret ?_ | refine block_normal ?_ | refine block_ret ?_ | refine block_exit ?_ | refine block_pass rfl ?_)
  refine c_seq ?_
  refine c_region ?_
  obtain ⟨x1, h2, h⟩ := bind_some h
  refine o_ca (fc_codec_Of_n0 _ h2) (g0 rfl) rfl rfl rfl rfl rfl rfl rfl (.cons (.refl _) .nil) rfl rfl ?_
  refine o_s (.box [.d (.lit (.int .i64 0)), .d (.lit (.int .i64 0)), .d (.lit (.slice none 0 0)), .d (.lit (.slice none 0 0))]) (g0 rfl) rfl rfl rfl ?_
  refine o_st (.box [.d (.lit (.int .i64 x1.k)), .d (.lit (.int .i64 x1.n)), .d (.lit (.slice none 0 0)), .d (.lit (.slice none 0 0))]) (g0 rfl) rfl rfl rfl ?_
  refine o_nil ?_
  repeat (first | refine then_normal ?_ | refine then_exit ?_ | refine then_ret ?_ | refine block_normal ?_ | refine block_ret ?_ | refine block_exit ?_ | refine block_pass rfl ?_)
  refine c_seq ?_
  refine c_seq ?_
  refine c_region ?_
  refine o_s (.t (.d (.seq 4 (List.map cS_api_Past p0)))) (g0 rfl) rfl rfl rfl ?_
  refine o_c (g0 rfl) rfl rfl rfl (lenE _ _) trivial ?_
  refine o_s (.t (.d (.lit (.int .i64 0)))) (g0 rfl) rfl rfl rfl ?_
  refine o_nil ?_
  repeat (first | refine then_normal ?_ | refine then_exit ?_ | refine then_ret ?_ | refine block_normal ?_ | refine block_ret ?_ | refine block_exit ?_ | refine block_pass rfl ?_)
  refine c_block ?_
  refine c_fuel (fun (q : (List V) × Int) => [(1, .t (.d (.clo F1 C1))), (4, .box [.d (.lit (.int .i64 0)), .d (.lit (.int .i64 0)), .d (.lit (.slice none 0 0)), .d (.lit (.slice none 0 0))]), (5, .box [.d (.lit (.int .i64 x1.k)), .d (.lit (.int .i64 x1.n)), .d (.lit (.slice none 0 0)), .own 58 4 (List.map V.cells q.1)]), (9, .t (.d (.seq 4 (List.map cS_api_Past p0)))), (10, .t (.d (.lit (.int .i64 (p0.length : Int))))), (11, .t (.d (.lit (.int .i64 q.2))))]) (fun nl1 => (fun (q : (List V) × Int) => m_answer_list_Past_l1 p0 p1 x1 nl1 q.1 q.2 = some r)) (p0.length + 1) ([], 0) h ⟨(.refl _), ⟨(.refl _), ⟨(.box (.cons (.refl _) (.cons (.refl _) (.cons (.refl _) (.cons (.nilOwn _ _) .nil)))) rfl), ⟨(.refl _), ⟨(.refl _), ⟨(.refl _), trivial⟩⟩⟩⟩⟩⟩ rfl ?_
  rintro nl1 ⟨z3, z4⟩ h
  cases nl1 with
  | zero => exact none_ne h
  | succ nl1 =>
    refine c_seq ?_
    refine c_region ?_
    refine o_s (.t (.d (.lit (.bool (decide (z4 < (p0.length : Int))))))) (g0 rfl) rfl rfl rfl ?_
    refine o_nil ?_
    repeat (first | refine then_normal ?_ | refine then_exit ?_ | refine then_ret ?_ | refine block_normal ?_ | refine block_ret ?_ | refine block_exit ?_ | refine block_pass rfl ?_)
    refine c_seq ?_
    rcases bif_some h with ⟨h5, h⟩ | ⟨h5, h⟩
    · refine c_t h5 rfl ?_
      refine c_skip ?_
      repeat (first | refine then_normal ?_ | refine then_exit ?_ | refine then_ret ?_ | refine block_normal ?_ | refine block_ret ?_ | refine block_exit ?_ | refine block_pass rfl ?_)
      refine c_seq ?_
      refine c_block ?_
      refine c_seq ?_
      refine c_region ?_
      obtain ⟨x6, h7, h⟩ := bind_some h
      refine o_c (g0 rfl) rfl rfl rfl (idxE h7) (idxC h7) ?_
      refine o_s (.t (.agg [.lit (.int .i64 x6.Number), .lit (.int .i64 x6.Epoch), .lit (.bool x6.Gone), .lit (.string ⟨⟨x6.By⟩⟩)])) (g0 rfl) rfl rfl rfl ?_
      refine o_s (.box [.d (.lit (.int .i64 0)), .d (.lit (.int .i64 0)), .d (.lit (.bool false)), .d (.lit (.string ⟨⟨[]⟩⟩))]) (g0 rfl) rfl rfl rfl ?_
      refine o_st (.box [.d (.lit (.int .i64 x6.Number)), .d (.lit (.int .i64 x6.Epoch)), .d (.lit (.bool x6.Gone)), .d (.lit (.string ⟨⟨x6.By⟩⟩))]) (g0 rfl) rfl rfl rfl ?_
      refine o_nil ?_
      repeat (first | refine then_normal ?_ | refine then_exit ?_ | refine then_ret ?_ | refine block_normal ?_ | refine block_ret ?_ | refine block_exit ?_ | refine block_pass rfl ?_)
      refine c_draw mixed (by kernel_rfl) ?_
      refine d_s (.ref 5 3) rfl (dg0 rfl) rfl rfl rfl rfl ?_
      refine d_2 (.box [.d (.lit (.int .i64 x1.k)), .d (.lit (.int .i64 x1.n)), .d (.lit (.slice none 0 0)), .d (.seq 4 (List.map V.cells z3))]) (.t (.own 58 4 (List.map V.cells z3))) rfl (dg0 rfl) rfl rfl rfl rfl rfl ?_
      refine d_s (.t (.d (.clo F1 C1))) rfl (dg0 rfl) rfl rfl rfl rfl ?_
      refine d_s (.t (.agg [.lit (.int .i64 x6.Number), .lit (.int .i64 x6.Epoch), .lit (.bool x6.Gone), .lit (.string ⟨⟨x6.By⟩⟩)])) rfl (dg0 rfl) rfl rfl rfl rfl ?_
      obtain ⟨x8, h9, h⟩ := bind_some h
      refine d_cc (hp1 _ _ h9) rfl (dg0 rfl) rfl rfl rfl rfl rfl hf1.choose_spec.1 hf1.choose_spec.2.1 hf1.choose_spec.2.2 (.cons (.refl _) .nil) rfl rfl ?_
      refine d_c rfl (dg0 rfl) rfl rfl rfl rfl (congrArg (fun z => A.t (.own 58 4 z)) (rowsE V.cells_eq [x8])) trivial ?_
      obtain ⟨x10, h11, h⟩ := bind_some h
      refine d_2c rfl (dg0 rfl) rfl rfl rfl rfl rfl (appE (c := V.cells) h11) (appC (c := V.cells) h11) ?_
      refine d_s (.ref 5 3) rfl (dg0 rfl) rfl rfl rfl rfl ?_
      refine d_st2 (.t (.d (.seq 4 (List.map V.cells x10)))) (.box [.d (.lit (.int .i64 x1.k)), .d (.lit (.int .i64 x1.n)), .d (.lit (.slice none 0 0)), .own 58 4 (List.map V.cells x10)]) rfl (dg0 rfl) rfl rfl rfl rfl rfl ?_
      refine d_nil (by kernel_rfl) ?_
      repeat (first | refine then_normal ?_ | refine then_exit ?_ | refine then_ret ?_ | refine block_normal ?_ | refine block_ret ?_ | refine block_exit ?_ | refine block_pass rfl ?_)
      refine c_region ?_
      refine o_s (.t (.d (.lit (.int .i64 (wi (z4 + 1)))))) (g0 rfl) rfl rfl rfl ?_
      refine o_s (.t (.d (.lit (.int .i64 (wi (z4 + 1)))))) (g0 rfl) rfl rfl rfl ?_
      refine o_nil ?_
      repeat (first | refine then_normal ?_ | refine then_exit ?_ | refine then_ret ?_ | refine block_normal ?_ | refine block_ret ?_ | refine block_exit ?_ | refine block_pass rfl ?_)
      exact ⟨nl1, (x10, (wi (z4 + 1))), Nat.lt_succ_self nl1, h, ⟨(.refl _), ⟨(.refl _), ⟨(.refl _), ⟨(.refl _), ⟨(.refl _), ⟨(.refl _), trivial⟩⟩⟩⟩⟩⟩, rfl⟩
    · refine c_f h5 rfl ?_
      refine c_exit ?_
      repeat (first | refine then_normal ?_ | refine then_exit ?_ | refine then_ret ?_ | refine block_normal ?_ | refine block_ret ?_ | refine block_exit ?_ | refine block_pass rfl ?_)
      refine c_seq ?_
      refine c_region ?_
      refine o_s (.t (.agg [.lit (.int .i64 x1.k), .lit (.int .i64 x1.n), .lit (.slice none 0 0), .seq 4 (List.map V.cells z3)])) (g0 rfl) rfl rfl rfl ?_
      refine o_st (.box [.d (.lit (.int .i64 x1.k)), .d (.lit (.int .i64 x1.n)), .d (.lit (.slice none 0 0)), .d (.seq 4 (List.map V.cells z3))]) (g0 rfl) rfl rfl rfl ?_
      refine o_nil ?_
      repeat (first | refine then_normal ?_ | refine then_exit ?_ | refine then_ret ?_ | refine block_normal ?_ | refine block_ret ?_ | refine block_exit ?_ | refine block_pass rfl ?_)
      refine c_ret ?_
      repeat (first | refine then_normal ?_ | refine then_exit ?_ | refine then_ret ?_ | refine block_normal ?_ | refine block_ret ?_ | refine block_exit ?_ | refine block_pass rfl ?_)
      obtain rfl := Option.some.inj h
      exact end0 rfl (.refl _)

theorem fc_answer_value_c2 (p0 : S_api_Past) (r : V) (h : m_answer_value_c2 p0 = some r) : FC Try.prog 70 [.t (.agg [.lit (.int .i64 p0.Number), .lit (.int .i64 p0.Epoch), .lit (.bool p0.Gone), .lit (.string ⟨⟨p0.By⟩⟩)])] [] (.t (.agg [.lit (.int .i64 r.k), .lit (.int .i64 r.n), .seq 1 (bytesD r.b), .seq 4 (List.map V.cells r.l)])) := by
  refine fc_mk (rs := [.cell 2 58]) (n := 19) Try.func70 rfl rfl (Nat.le_of_ble_eq_true rfl) rfl (pins := []) rfl (L := [(0, .t (.agg [.lit (.int .i64 p0.Number), .lit (.int .i64 p0.Epoch), .lit (.bool p0.Gone), .lit (.string ⟨⟨p0.By⟩⟩)]))]) rfl ?_
  refine c_seq ?_
  refine c_region ?_
  refine o_s (.box [.d (.lit (.int .i64 p0.Number)), .d (.lit (.int .i64 p0.Epoch)), .d (.lit (.bool p0.Gone)), .d (.lit (.string ⟨⟨p0.By⟩⟩))]) (g0 rfl) rfl rfl rfl ?_
  refine o_s (.box [.d (.lit (.int .i64 0)), .d (.lit (.int .i64 0)), .d (.lit (.slice none 0 0)), .d (.lit (.slice none 0 0))]) (g0 rfl) rfl rfl rfl ?_
  refine o_nil ?_
  repeat (first | refine then_normal ?_ | refine then_exit ?_ | refine then_ret ?_ | refine block_normal ?_ | refine block_ret ?_ | refine block_exit ?_ | refine block_pass rfl ?_)
  refine c_seq ?_
  refine c_region ?_
  refine o_s (.t (.d (.lit (.int .i64 0)))) (g0 rfl) rfl rfl rfl ?_
  refine o_nil ?_
  repeat (first | refine then_normal ?_ | refine then_exit ?_ | refine then_ret ?_ | refine block_normal ?_ | refine block_ret ?_ | refine block_exit ?_ | refine block_pass rfl ?_)
  refine c_cut (fun (y1 : Int) => [(1, .box [.d (.lit (.int .i64 p0.Number)), .d (.lit (.int .i64 p0.Epoch)), .d (.lit (.bool p0.Gone)), .d (.lit (.string ⟨⟨p0.By⟩⟩))]), (2, .box [.d (.lit (.int .i64 0)), .d (.lit (.int .i64 0)), .d (.lit (.slice none 0 0)), .d (.lit (.slice none 0 0))]), (3, .t (.d (.lit (.int .i64 y1))))]) (fun (y1 : Int) => m_answer_value_c2_j1 p0 y1 = some r) ?_ ?_
  · refine c_seq ?_
    refine c_region ?_
    refine o_s (.ref 1 2) (g0 rfl) rfl rfl rfl ?_
    refine o_s (.t (.d (.lit (.bool p0.Gone)))) (g0 rfl) rfl rfl rfl ?_
    refine o_nil ?_
    repeat (first | refine then_normal ?_ | refine then_exit ?_ | refine then_ret ?_ | refine block_normal ?_ | refine block_ret ?_ | refine block_exit ?_ | refine block_pass rfl ?_)
    rcases bif_some h with ⟨h12, h⟩ | ⟨h12, h⟩
    · refine c_t h12 rfl ?_
      refine c_region ?_
      refine o_s (.t (.d (.lit (.int .i64 1)))) (g0 rfl) rfl rfl rfl ?_
      refine o_nil ?_
      repeat (first | refine then_normal ?_ | refine then_exit ?_ | refine then_ret ?_ | refine block_normal ?_ | refine block_ret ?_ | refine block_exit ?_ | refine block_pass rfl ?_)
      exact ⟨1, h, ⟨(.refl _), ⟨(.refl _), ⟨(.refl _), trivial⟩⟩⟩, rfl⟩
    · refine c_f h12 rfl ?_
      refine c_skip ?_
      repeat (first | refine then_normal ?_ | refine then_exit ?_ | refine then_ret ?_ | refine block_normal ?_ | refine block_ret ?_ | refine block_exit ?_ | refine block_pass rfl ?_)
      exact ⟨0, h, ⟨(.refl _), ⟨(.refl _), ⟨(.refl _), trivial⟩⟩⟩, rfl⟩
  · rintro y1 h
    refine c_seq ?_
    refine c_draw mixed (by kernel_rfl) ?_
    refine d_s (.ref 1 0) rfl (dg0 rfl) rfl rfl rfl rfl ?_
    refine d_s (.t (.d (.lit (.int .i64 p0.Number)))) rfl (dg0 rfl) rfl rfl rfl rfl ?_
    obtain ⟨x2, h3, h⟩ := bind_some h
    refine d_ca (fc_codec_Num _ _ h3) rfl (dg0 rfl) rfl rfl rfl rfl rfl rfl rfl rfl (.cons (.refl _) .nil) rfl rfl ?_
    refine d_s (.ref 1 1) rfl (dg0 rfl) rfl rfl rfl rfl ?_
    refine d_s (.t (.d (.lit (.int .i64 p0.Epoch)))) rfl (dg0 rfl) rfl rfl rfl rfl ?_
    obtain ⟨x4, h5, h⟩ := bind_some h
    refine d_ca (fc_codec_Num _ _ h5) rfl (dg0 rfl) rfl rfl rfl rfl rfl rfl rfl rfl (.cons (.refl _) .nil) rfl rfl ?_
    refine d_s (.t (.d (.lit (.int .i64 y1)))) rfl (dg0 rfl) rfl rfl rfl rfl ?_
    obtain ⟨x6, h7, h⟩ := bind_some h
    refine d_ca (fc_codec_Num _ _ h7) rfl (dg0 rfl) rfl rfl rfl rfl rfl rfl rfl rfl (.cons (.refl _) .nil) rfl rfl ?_
    refine d_s (.ref 1 3) rfl (dg0 rfl) rfl rfl rfl rfl ?_
    refine d_s (.t (.d (.lit (.string ⟨⟨p0.By⟩⟩)))) rfl (dg0 rfl) rfl rfl rfl rfl ?_
    obtain ⟨x8, h9, h⟩ := bind_some h
    refine d_ca (fc_answer_word _ _ h9) rfl (dg0 rfl) rfl rfl rfl rfl rfl rfl rfl rfl (.cons (.refl _) .nil) rfl rfl ?_
    refine d_w (.t (.own 58 4 (List.map V.cells [(V.mk x2.k x2.n [] []), (V.mk x4.k x4.n [] []), (V.mk x6.k x6.n [] []), x8]))) rfl (dg0 rfl) rfl rfl rfl rfl (.t (.rows _ _ (.cons (.cons (.refl _) (.cons (.refl _) (.cons (.nil _) (.cons (.nil _) .nil)))) (.cons (.cons (.refl _) (.cons (.refl _) (.cons (.nil _) (.cons (.nil _) .nil)))) (.cons (.cons (.refl _) (.cons (.refl _) (.cons (.nil _) (.cons (.nil _) .nil)))) (.cons (.cons (.refl _) (.cons (.refl _) (.cons (.refl _) (.cons (.refl _) .nil)))) .nil)))) (rowsE V.cells_eq [(V.mk x2.k x2.n [] []), (V.mk x4.k x4.n [] []), (V.mk x6.k x6.n [] []), x8]))) (fun e => nomatch e) ?_
    obtain ⟨x10, h11, h⟩ := bind_some h
    refine d_ca (fc_codec_Of _ _ h11) rfl (dg0 rfl) rfl rfl rfl rfl rfl rfl rfl rfl (.cons (.refl _) .nil) rfl rfl ?_
    refine d_st (.box [.d (.lit (.int .i64 x10.k)), .d (.lit (.int .i64 x10.n)), .d (.lit (.slice none 0 0)), .d (.seq 4 (List.map V.cells x10.l))]) rfl (dg0 rfl) rfl rfl rfl rfl ?_
    refine d_nil (by kernel_rfl) ?_
    repeat (first | refine then_normal ?_ | refine then_exit ?_ | refine then_ret ?_ | refine block_normal ?_ | refine block_ret ?_ | refine block_exit ?_ | refine block_pass rfl ?_)
    refine c_ret ?_
    repeat (first | refine then_normal ?_ | refine then_exit ?_ | refine then_ret ?_ | refine block_normal ?_ | refine block_ret ?_ | refine block_exit ?_ | refine block_pass rfl ?_)
    obtain rfl := Option.some.inj h
    exact end0 rfl (.t (.agg (.cons (.refl _) (.cons (.refl _) (.cons (.nil _) (.cons (.refl _) .nil))))))

theorem fc_answer_value (p0 : S_api_Answer) (r : V) (h : m_answer_value p0 = some r) : FC Try.prog 44 [.t (.agg [.lit (.int .i64 p0.Err), .lit (.int .i64 p0.Number), .lit (.string ⟨⟨p0.By⟩⟩), .seq 1 (bytesD p0.Data), .seq 1 (List.map cStr p0.Names), .seq 2 (List.map cS_api_Member p0.Members), .seq 4 (List.map cS_api_Past p0.History)])] [] (.t (.agg [.lit (.int .i64 r.k), .lit (.int .i64 r.n), .lit (.slice none 0 0), .seq 4 (List.map V.cells r.l)])) := by
  refine fc_mk (rs := [.cell 2 58]) (n := 26) Try.func44 rfl rfl (Nat.le_of_ble_eq_true rfl) rfl (pins := []) rfl (L := [(0, .t (.agg [.lit (.int .i64 p0.Err), .lit (.int .i64 p0.Number), .lit (.string ⟨⟨p0.By⟩⟩), .seq 1 (bytesD p0.Data), .seq 1 (List.map cStr p0.Names), .seq 2 (List.map cS_api_Member p0.Members), .seq 4 (List.map cS_api_Past p0.History)]))]) rfl ?_
  refine c_seq ?_
  refine c_region ?_
  refine o_s (.box [.d (.lit (.int .i64 p0.Err)), .d (.lit (.int .i64 p0.Number)), .d (.lit (.string ⟨⟨p0.By⟩⟩)), .d (.seq 1 (bytesD p0.Data)), .d (.seq 1 (List.map cStr p0.Names)), .d (.seq 2 (List.map cS_api_Member p0.Members)), .d (.seq 4 (List.map cS_api_Past p0.History))]) (g0 rfl) rfl rfl rfl ?_
  refine o_s (.box [.d (.lit (.int .i64 0)), .d (.lit (.int .i64 0)), .d (.lit (.slice none 0 0)), .d (.lit (.slice none 0 0))]) (g0 rfl) rfl rfl rfl ?_
  refine o_nil ?_
  repeat (first | refine then_normal ?_ | refine then_exit ?_ | refine then_ret ?_ | refine block_normal ?_ | refine block_ret ?_ | refine block_exit ?_ | refine block_pass rfl ?_)
  refine c_seq ?_
  refine c_draw mixed (by kernel_rfl) ?_
  refine d_s (.ref 1 0) rfl (dg0 rfl) rfl rfl rfl rfl ?_
  refine d_s (.t (.d (.lit (.int .i64 p0.Err)))) rfl (dg0 rfl) rfl rfl rfl rfl ?_
  obtain ⟨x1, h2, h⟩ := bind_some h
  refine d_ca (fc_codec_Num _ _ h2) rfl (dg0 rfl) rfl rfl rfl rfl rfl rfl rfl rfl (.cons (.refl _) .nil) rfl rfl ?_
  refine d_s (.ref 1 1) rfl (dg0 rfl) rfl rfl rfl rfl ?_
  refine d_s (.t (.d (.lit (.int .i64 p0.Number)))) rfl (dg0 rfl) rfl rfl rfl rfl ?_
  obtain ⟨x3, h4, h⟩ := bind_some h
  refine d_ca (fc_codec_Num _ _ h4) rfl (dg0 rfl) rfl rfl rfl rfl rfl rfl rfl rfl (.cons (.refl _) .nil) rfl rfl ?_
  refine d_s (.ref 1 2) rfl (dg0 rfl) rfl rfl rfl rfl ?_
  refine d_s (.t (.d (.lit (.string ⟨⟨p0.By⟩⟩)))) rfl (dg0 rfl) rfl rfl rfl rfl ?_
  obtain ⟨x5, h6, h⟩ := bind_some h
  refine d_ca (fc_answer_word _ _ h6) rfl (dg0 rfl) rfl rfl rfl rfl rfl rfl rfl rfl (.cons (.refl _) .nil) rfl rfl ?_
  refine d_s (.ref 1 3) rfl (dg0 rfl) rfl rfl rfl rfl ?_
  refine d_s (.t (.d (.seq 1 (bytesD p0.Data)))) rfl (dg0 rfl) rfl rfl rfl rfl ?_
  obtain ⟨x7, h8, h⟩ := bind_some h
  refine d_ca (fc_codec_Raw _ _ h8) rfl (dg0 rfl) rfl rfl rfl rfl rfl rfl rfl rfl (.cons (.refl _) .nil) rfl rfl ?_
  refine d_s (.ref 1 4) rfl (dg0 rfl) rfl rfl rfl rfl ?_
  refine d_s (.t (.d (.seq 1 (List.map cStr p0.Names)))) rfl (dg0 rfl) rfl rfl rfl rfl ?_
  obtain ⟨x9, h10, h⟩ := bind_some h
  refine d_ca (fc_answer_list_string _ 65 [] _ fc_answer_word ⟨_, Try.func65, rfl, rfl⟩ _ h10) rfl (dg0 rfl) rfl rfl rfl rfl rfl rfl rfl rfl (.cons (.refl _) (.cons (.t (.d (.fn _))) .nil)) rfl rfl ?_
  refine d_s (.ref 1 5) rfl (dg0 rfl) rfl rfl rfl rfl ?_
  refine d_s (.t (.d (.seq 2 (List.map cS_api_Member p0.Members)))) rfl (dg0 rfl) rfl rfl rfl rfl ?_
  obtain ⟨x11, h12, h⟩ := bind_some h
  refine d_ca (fc_answer_list_Member _ 68 [] _ fc_answer_value_c1 ⟨_, Try.func68, rfl, rfl⟩ _ h12) rfl (dg0 rfl) rfl rfl rfl rfl rfl rfl rfl rfl (.cons (.refl _) (.cons (.t (.d (.fn _))) .nil)) rfl rfl ?_
  refine d_s (.ref 1 6) rfl (dg0 rfl) rfl rfl rfl rfl ?_
  refine d_s (.t (.d (.seq 4 (List.map cS_api_Past p0.History)))) rfl (dg0 rfl) rfl rfl rfl rfl ?_
  obtain ⟨x13, h14, h⟩ := bind_some h
  refine d_ca (fc_answer_list_Past _ 70 [] _ fc_answer_value_c2 ⟨_, Try.func70, rfl, rfl⟩ _ h14) rfl (dg0 rfl) rfl rfl rfl rfl rfl rfl rfl rfl (.cons (.refl _) (.cons (.t (.d (.fn _))) .nil)) rfl rfl ?_
  refine d_w (.t (.own 58 4 (List.map V.cells [(V.mk x1.k x1.n [] []), (V.mk x3.k x3.n [] []), x5, (V.mk x7.k x7.n x7.b []), (V.mk x9.k x9.n [] x9.l), (V.mk x11.k x11.n [] x11.l), (V.mk x13.k x13.n [] x13.l)]))) rfl (dg0 rfl) rfl rfl rfl rfl (.t (.rows _ _ (.cons (.cons (.refl _) (.cons (.refl _) (.cons (.nil _) (.cons (.nil _) .nil)))) (.cons (.cons (.refl _) (.cons (.refl _) (.cons (.nil _) (.cons (.nil _) .nil)))) (.cons (.cons (.refl _) (.cons (.refl _) (.cons (.refl _) (.cons (.refl _) .nil)))) (.cons (.cons (.refl _) (.cons (.refl _) (.cons (.refl _) (.cons (.nil _) .nil)))) (.cons (.cons (.refl _) (.cons (.refl _) (.cons (.nil _) (.cons (.refl _) .nil)))) (.cons (.cons (.refl _) (.cons (.refl _) (.cons (.nil _) (.cons (.refl _) .nil)))) (.cons (.cons (.refl _) (.cons (.refl _) (.cons (.nil _) (.cons (.refl _) .nil)))) .nil))))))) (rowsE V.cells_eq [(V.mk x1.k x1.n [] []), (V.mk x3.k x3.n [] []), x5, (V.mk x7.k x7.n x7.b []), (V.mk x9.k x9.n [] x9.l), (V.mk x11.k x11.n [] x11.l), (V.mk x13.k x13.n [] x13.l)]))) (fun e => nomatch e) ?_
  obtain ⟨x15, h16, h⟩ := bind_some h
  refine d_ca (fc_codec_Of _ _ h16) rfl (dg0 rfl) rfl rfl rfl rfl rfl rfl rfl rfl (.cons (.refl _) .nil) rfl rfl ?_
  refine d_st (.box [.d (.lit (.int .i64 x15.k)), .d (.lit (.int .i64 x15.n)), .d (.lit (.slice none 0 0)), .d (.seq 4 (List.map V.cells x15.l))]) rfl (dg0 rfl) rfl rfl rfl rfl ?_
  refine d_nil (by kernel_rfl) ?_
  repeat (first | refine then_normal ?_ | refine then_exit ?_ | refine then_ret ?_ | refine block_normal ?_ | refine block_ret ?_ | refine block_exit ?_ | refine block_pass rfl ?_)
  refine c_ret ?_
  repeat (first | refine then_normal ?_ | refine then_exit ?_ | refine then_ret ?_ | refine block_normal ?_ | refine block_ret ?_ | refine block_exit ?_ | refine block_pass rfl ?_)
  obtain rfl := Option.some.inj h
  exact end0 rfl (.refl _)

theorem fc_answer_bare (p0 : S_api_Answer) (r : Bool) (h : m_answer_bare p0 = some r) : FC Try.prog 45 [.t (.agg [.lit (.int .i64 p0.Err), .lit (.int .i64 p0.Number), .lit (.string ⟨⟨p0.By⟩⟩), .seq 1 (bytesD p0.Data), .seq 1 (List.map cStr p0.Names), .seq 2 (List.map cS_api_Member p0.Members), .seq 4 (List.map cS_api_Past p0.History)])] [] (.t (.d (.lit (.bool r)))) := by
  refine fc_mk (rs := [.tmp 2]) (n := 29) Try.func45 rfl rfl (Nat.le_of_ble_eq_true rfl) rfl (pins := []) rfl (L := [(0, .t (.agg [.lit (.int .i64 p0.Err), .lit (.int .i64 p0.Number), .lit (.string ⟨⟨p0.By⟩⟩), .seq 1 (bytesD p0.Data), .seq 1 (List.map cStr p0.Names), .seq 2 (List.map cS_api_Member p0.Members), .seq 4 (List.map cS_api_Past p0.History)]))]) rfl ?_
  refine c_seq ?_
  refine c_region ?_
  refine o_s (.box [.d (.lit (.int .i64 p0.Err)), .d (.lit (.int .i64 p0.Number)), .d (.lit (.string ⟨⟨p0.By⟩⟩)), .d (.seq 1 (bytesD p0.Data)), .d (.seq 1 (List.map cStr p0.Names)), .d (.seq 2 (List.map cS_api_Member p0.Members)), .d (.seq 4 (List.map cS_api_Past p0.History))]) (g0 rfl) rfl rfl rfl ?_
  refine o_s (.t (.d (.lit (.bool false)))) (g0 rfl) rfl rfl rfl ?_
  refine o_nil ?_
  repeat (first | refine then_normal ?_ | refine then_exit ?_ | refine then_ret ?_ | refine block_normal ?_ | refine block_ret ?_ | refine block_exit ?_ | refine block_pass rfl ?_)
  refine c_seq ?_
  refine c_region ?_
  refine o_s (.ref 1 1) (g0 rfl) rfl rfl rfl ?_
  refine o_s (.t (.d (.lit (.int .i64 p0.Number)))) (g0 rfl) rfl rfl rfl ?_
  refine o_s (.t (.d (.lit (.bool (p0.Number == 0))))) (g0 rfl) rfl rfl rfl ?_
  refine o_s (.t (.d (.lit (.bool (p0.Number == 0))))) (g0 rfl) rfl rfl rfl ?_
  rcases bif_some h with ⟨h1, h⟩ | ⟨h1, h⟩
  · refine o_s (.ref 1 2) (gy rfl rfl rfl h1) rfl rfl rfl ?_
    refine o_s (.t (.d (.lit (.string ⟨⟨p0.By⟩⟩)))) (gy rfl rfl rfl h1) rfl rfl rfl ?_
    refine o_c (gy rfl rfl rfl h1) rfl rfl rfl (congrArg (fun z => A.t (.d (.lit (.bool z)))) (str_beqL _ _)) trivial ?_
    refine o_pk (.t (.d (.lit (.bool (p0.By == []))))) (b := true) h1 (g0 rfl) rfl rfl rfl rfl rfl ?_
    refine o_s (.t (.d (.lit (.bool (p0.By == []))))) (g0 rfl) rfl rfl rfl ?_
    rcases bif_some h with ⟨h2, h⟩ | ⟨h2, h⟩
    · refine o_s (.ref 1 3) (gy rfl rfl rfl h2) rfl rfl rfl ?_
      refine o_s (.t (.d (.seq 1 (bytesD p0.Data)))) (gy rfl rfl rfl h2) rfl rfl rfl ?_
      refine o_c (gy rfl rfl rfl h2) rfl rfl rfl (lenE _ _) trivial ?_
      refine o_s (.ref 1 4) (gy rfl rfl rfl h2) rfl rfl rfl ?_
      refine o_s (.t (.d (.seq 1 (List.map cStr p0.Names)))) (gy rfl rfl rfl h2) rfl rfl rfl ?_
      refine o_c (gy rfl rfl rfl h2) rfl rfl rfl (lenE _ _) trivial ?_
      refine o_s (.t (.d (.lit (.int .i64 (wi ((p0.Data.length : Int) + (p0.Names.length : Int))))))) (gy rfl rfl rfl h2) rfl rfl rfl ?_
      refine o_s (.ref 1 5) (gy rfl rfl rfl h2) rfl rfl rfl ?_
      refine o_s (.t (.d (.seq 2 (List.map cS_api_Member p0.Members)))) (gy rfl rfl rfl h2) rfl rfl rfl ?_
      refine o_c (gy rfl rfl rfl h2) rfl rfl rfl (lenE _ _) trivial ?_
      refine o_s (.t (.d (.lit (.int .i64 (wi ((wi ((p0.Data.length : Int) + (p0.Names.length : Int))) + (p0.Members.length : Int))))))) (gy rfl rfl rfl h2) rfl rfl rfl ?_
      refine o_s (.ref 1 6) (gy rfl rfl rfl h2) rfl rfl rfl ?_
      refine o_s (.t (.d (.seq 4 (List.map cS_api_Past p0.History)))) (gy rfl rfl rfl h2) rfl rfl rfl ?_
      refine o_c (gy rfl rfl rfl h2) rfl rfl rfl (lenE _ _) trivial ?_
      refine o_s (.t (.d (.lit (.int .i64 (wi ((wi ((wi ((p0.Data.length : Int) + (p0.Names.length : Int))) + (p0.Members.length : Int))) + (p0.History.length : Int))))))) (gy rfl rfl rfl h2) rfl rfl rfl ?_
      refine o_s (.t (.d (.lit (.bool ((wi ((wi ((wi ((p0.Data.length : Int) + (p0.Names.length : Int))) + (p0.Members.length : Int))) + (p0.History.length : Int))) == 0))))) (gy rfl rfl rfl h2) rfl rfl rfl ?_
      refine o_pk (.t (.d (.lit (.bool ((wi ((wi ((wi ((p0.Data.length : Int) + (p0.Names.length : Int))) + (p0.Members.length : Int))) + (p0.History.length : Int))) == 0))))) (b := true) h2 (g0 rfl) rfl rfl rfl rfl rfl ?_
      refine o_s (.t (.d (.lit (.bool ((wi ((wi ((wi ((p0.Data.length : Int) + (p0.Names.length : Int))) + (p0.Members.length : Int))) + (p0.History.length : Int))) == 0))))) (g0 rfl) rfl rfl rfl ?_
      refine o_nil ?_
      repeat (first | refine then_normal ?_ | refine then_exit ?_ | refine then_ret ?_ | refine block_normal ?_ | refine block_ret ?_ | refine block_exit ?_ | refine block_pass rfl ?_)
      refine c_ret ?_
      repeat (first | refine then_normal ?_ | refine then_exit ?_ | refine then_ret ?_ | refine block_normal ?_ | refine block_ret ?_ | refine block_exit ?_ | refine block_pass rfl ?_)
      obtain rfl := Option.some.inj h
      exact end0 rfl (.refl _)
    · refine o_skip rfl rfl rfl h2 rfl rfl ?_
      refine o_skip rfl rfl rfl h2 rfl rfl ?_
      refine o_skip rfl rfl rfl h2 rfl rfl ?_
      refine o_skip rfl rfl rfl h2 rfl rfl ?_
      refine o_skip rfl rfl rfl h2 rfl rfl ?_
      refine o_skip rfl rfl rfl h2 rfl rfl ?_
      refine o_skip rfl rfl rfl h2 rfl rfl ?_
      refine o_skip rfl rfl rfl h2 rfl rfl ?_
      refine o_skip rfl rfl rfl h2 rfl rfl ?_
      refine o_skip rfl rfl rfl h2 rfl rfl ?_
      refine o_skip rfl rfl rfl h2 rfl rfl ?_
      refine o_skip rfl rfl rfl h2 rfl rfl ?_
      refine o_skip rfl rfl rfl h2 rfl rfl ?_
      refine o_skip rfl rfl rfl h2 rfl rfl ?_
      refine o_skip rfl rfl rfl h2 rfl rfl ?_
      refine o_skip rfl rfl rfl h2 rfl rfl ?_
      refine o_pk (.t (.d (.lit (.bool false)))) (b := false) h2 (g0 rfl) rfl rfl rfl rfl rfl ?_
      refine o_s (.t (.d (.lit (.bool false)))) (g0 rfl) rfl rfl rfl ?_
      refine o_nil ?_
      repeat (first | refine then_normal ?_ | refine then_exit ?_ | refine then_ret ?_ | refine block_normal ?_ | refine block_ret ?_ | refine block_exit ?_ | refine block_pass rfl ?_)
      refine c_ret ?_
      repeat (first | refine then_normal ?_ | refine then_exit ?_ | refine then_ret ?_ | refine block_normal ?_ | refine block_ret ?_ | refine block_exit ?_ | refine block_pass rfl ?_)
      obtain rfl := Option.some.inj h
      exact end0 rfl (.refl _)
  · refine o_skip rfl rfl rfl h1 rfl rfl ?_
    refine o_skip rfl rfl rfl h1 rfl rfl ?_
    refine o_skip rfl rfl rfl h1 rfl rfl ?_
    refine o_pk (.t (.d (.lit (.bool false)))) (b := false) h1 (g0 rfl) rfl rfl rfl rfl rfl ?_
    refine o_s (.t (.d (.lit (.bool false)))) (g0 rfl) rfl rfl rfl ?_
    refine o_skip rfl rfl rfl rfl rfl rfl ?_
    refine o_skip rfl rfl rfl rfl rfl rfl ?_
    refine o_skip rfl rfl rfl rfl rfl rfl ?_
    refine o_skip rfl rfl rfl rfl rfl rfl ?_
    refine o_skip rfl rfl rfl rfl rfl rfl ?_
    refine o_skip rfl rfl rfl rfl rfl rfl ?_
    refine o_skip rfl rfl rfl rfl rfl rfl ?_
    refine o_skip rfl rfl rfl rfl rfl rfl ?_
    refine o_skip rfl rfl rfl rfl rfl rfl ?_
    refine o_skip rfl rfl rfl rfl rfl rfl ?_
    refine o_skip rfl rfl rfl rfl rfl rfl ?_
    refine o_skip rfl rfl rfl rfl rfl rfl ?_
    refine o_skip rfl rfl rfl rfl rfl rfl ?_
    refine o_skip rfl rfl rfl rfl rfl rfl ?_
    refine o_skip rfl rfl rfl rfl rfl rfl ?_
    refine o_skip rfl rfl rfl rfl rfl rfl ?_
    refine o_pk (.t (.d (.lit (.bool false)))) (b := false) rfl (g0 rfl) rfl rfl rfl rfl rfl ?_
    refine o_s (.t (.d (.lit (.bool false)))) (g0 rfl) rfl rfl rfl ?_
    refine o_nil ?_
    repeat (first | refine then_normal ?_ | refine then_exit ?_ | refine then_ret ?_ | refine block_normal ?_ | refine block_ret ?_ | refine block_exit ?_ | refine block_pass rfl ?_)
    refine c_ret ?_
    repeat (first | refine then_normal ?_ | refine then_exit ?_ | refine then_ret ?_ | refine block_normal ?_ | refine block_ret ?_ | refine block_exit ?_ | refine block_pass rfl ?_)
    obtain rfl := Option.some.inj h
    exact end0 rfl (.refl _)

theorem fc_slices_IndexFunc_string (p0 : (List (List UInt8))) (F1 : Nat) (C1 : List (List D)) (p1 : ((List UInt8) → Option Bool)) (hp1 : ∀ (a0 : (List UInt8)) r, p1 a0 = some r → FC Try.prog F1 ([.t (.d (.lit (.string ⟨⟨a0⟩⟩)))] ++ C1.map A.imm) [] (.t (.d (.lit (.bool r))))) (hf1 : ∃ fn, Try.prog.funcs[F1]? = some fn ∧ fn.body.isNone = false ∧ (fn.name == "runtime.NumGoroutine") = false) (r : Int) (h : m_slices_IndexFunc_string p0 p1 = some r) : FC Try.prog 90 [.t (.d (.seq 1 (List.map cStr p0))), .t (.d (.clo F1 C1))] [] (.t (.d (.lit (.int .i64 r)))) := by
  refine fc_mk (rs := [.tmp 4]) (n := 19) Try.func90 rfl rfl (Nat.le_of_ble_eq_true rfl) rfl (pins := []) rfl (L := [(0, .t (.d (.seq 1 (List.map cStr p0)))), (1, .t (.d (.clo F1 C1)))]) rfl ?_
  refine c_seq ?_
  refine c_region ?_
  refine o_s (.t (.d (.lit (.int .i64 0)))) (g0 rfl) rfl rfl rfl ?_
  refine o_nil ?_
  repeat (first | refine then_normal ?_ | refine then_exit ?_ | refine then_ret ?_ | refine block_normal ?_ | refine block_ret ?_ | refine block_exit ?_ | refine block_pass rfl ?_)
  refine c_seq ?_
  refine c_seq ?_
  refine c_region ?_
  refine o_s (.t (.d (.seq 1 (List.map cStr p0)))) (g0 rfl) rfl rfl rfl ?_
  refine o_c (g0 rfl) rfl rfl rfl (lenE _ _) trivial ?_
  refine o_s (.t (.d (.lit (.int .i64 0)))) (g0 rfl) rfl rfl rfl ?_
  refine o_nil ?_
  repeat (first | refine then_normal ?_ | refine then_exit ?_ | refine then_ret ?_ | refine block_normal ?_ | refine block_ret ?_ | refine block_exit ?_ | refine block_pass rfl ?_)
  refine c_block ?_
  refine c_fuel (fun (z1 : Int) => [(0, .t (.d (.seq 1 (List.map cStr p0)))), (1, .t (.d (.clo F1 C1))), (7, .t (.d (.lit (.int .i64 (p0.length : Int))))), (8, .t (.d (.lit (.int .i64 z1))))]) (fun nl1 => (fun (z1 : Int) => m_slices_IndexFunc_string_l1 p0 p1 nl1 z1 = some r)) (p0.length + 1) 0 h ⟨(.refl _), ⟨(.refl _), ⟨(.refl _), ⟨(.refl _), trivial⟩⟩⟩⟩ rfl ?_
  rintro nl1 z1 h
  cases nl1 with
  | zero => exact none_ne h
  | succ nl1 =>
    refine c_seq ?_
    refine c_region ?_
    refine o_s (.t (.d (.lit (.bool (decide (z1 < (p0.length : Int))))))) (g0 rfl) rfl rfl rfl ?_
    refine o_nil ?_
    repeat (first | refine then_normal ?_ | refine then_exit ?_ | refine then_ret ?_ | refine block_normal ?_ | refine block_ret ?_ | refine block_exit ?_ | refine block_pass rfl ?_)
    refine c_seq ?_
    rcases bif_some h with ⟨h2, h⟩ | ⟨h2, h⟩
    · refine c_t h2 rfl ?_
      refine c_skip ?_
      repeat (first | refine then_normal ?_ | refine then_exit ?_ | refine then_ret ?_ | refine block_normal ?_ | refine block_ret ?_ | refine block_exit ?_ | refine block_pass rfl ?_)
      refine c_seq ?_
      refine c_block ?_
      refine c_seq ?_
      refine c_region ?_
      refine o_s (.t (.d (.lit (.int .i64 z1)))) (g0 rfl) rfl rfl rfl ?_
      refine o_s (.t (.d (.lit (.int .i64 z1)))) (g0 rfl) rfl rfl rfl ?_
      refine o_nil ?_
      repeat (first | refine then_normal ?_ | refine then_exit ?_ | refine then_ret ?_ | refine block_normal ?_ | refine block_ret ?_ | refine block_exit ?_ | refine block_pass rfl ?_)
      refine c_seq ?_
      refine c_region ?_
      refine o_s (.t (.d (.clo F1 C1))) (g0 rfl) rfl rfl rfl ?_
      refine o_s (.t (.d (.seq 1 (List.map cStr p0)))) (g0 rfl) rfl rfl rfl ?_
      refine o_s (.t (.d (.lit (.int .i64 z1)))) (g0 rfl) rfl rfl rfl ?_
      obtain ⟨x3, h4, h⟩ := bind_some h
      refine o_c (g0 rfl) rfl rfl rfl (idxE h4) (idxC h4) ?_
      refine o_s (.t (.d (.lit (.string ⟨⟨x3⟩⟩)))) (g0 rfl) rfl rfl rfl ?_
      obtain ⟨x5, h6, h⟩ := bind_some h
      refine o_cc (hp1 _ _ h6) (g0 rfl) rfl rfl rfl rfl hf1.choose_spec.1 hf1.choose_spec.2.1 hf1.choose_spec.2.2 (.cons (.refl _) .nil) rfl rfl ?_
      refine o_nil ?_
      repeat (first | refine then_normal ?_ | refine then_exit ?_ | refine then_ret ?_ | refine block_normal ?_ | refine block_ret ?_ | refine block_exit ?_ | refine block_pass rfl ?_)
      rcases bif_some h with ⟨h7, h⟩ | ⟨h7, h⟩
      · refine c_t h7 rfl ?_
        refine c_seq ?_
        refine c_region ?_
        refine o_s (.t (.d (.lit (.int .i64 z1)))) (g0 rfl) rfl rfl rfl ?_
        refine o_s (.t (.d (.lit (.int .i64 z1)))) (g0 rfl) rfl rfl rfl ?_
        refine o_nil ?_
        repeat (first | refine then_normal ?_ | refine then_exit ?_ | refine then_ret ?_ | refine block_normal ?_ | refine block_ret ?_ | refine block_exit ?_ | refine block_pass rfl ?_)
        refine c_ret ?_
        repeat (first | refine then_normal ?_ | refine then_exit ?_ | refine then_ret ?_ | refine block_normal ?_ | refine block_ret ?_ | refine block_exit ?_ | refine block_pass rfl ?_)
        obtain rfl := Option.some.inj h
        exact end0 rfl (.refl _)
      · refine c_f h7 rfl ?_
        refine c_skip ?_
        repeat (first | refine then_normal ?_ | refine then_exit ?_ | refine then_ret ?_ | refine block_normal ?_ | refine block_ret ?_ | refine block_exit ?_ | refine block_pass rfl ?_)
        refine c_region ?_
        refine o_s (.t (.d (.lit (.int .i64 (wi (z1 + 1)))))) (g0 rfl) rfl rfl rfl ?_
        refine o_s (.t (.d (.lit (.int .i64 (wi (z1 + 1)))))) (g0 rfl) rfl rfl rfl ?_
        refine o_nil ?_
        repeat (first | refine then_normal ?_ | refine then_exit ?_ | refine then_ret ?_ | refine block_normal ?_ | refine block_ret ?_ | refine block_exit ?_ | refine block_pass rfl ?_)
        exact ⟨nl1, (wi (z1 + 1)), Nat.lt_succ_self nl1, h, ⟨(.refl _), ⟨(.refl _), ⟨(.refl _), ⟨(.refl _), trivial⟩⟩⟩⟩, rfl⟩
    · refine c_f h2 rfl ?_
      refine c_exit ?_
      repeat (first | refine then_normal ?_ | refine then_exit ?_ | refine then_ret ?_ | refine block_normal ?_ | refine block_ret ?_ | refine block_exit ?_ | refine block_pass rfl ?_)
      refine c_seq ?_
      refine c_region ?_
      refine o_s (.t (.d (.lit (.int .i64 (-1))))) (g0 rfl) rfl rfl rfl ?_
      refine o_nil ?_
      repeat (first | refine then_normal ?_ | refine then_exit ?_ | refine then_ret ?_ | refine block_normal ?_ | refine block_ret ?_ | refine block_exit ?_ | refine block_pass rfl ?_)
      refine c_ret ?_
      repeat (first | refine then_normal ?_ | refine then_exit ?_ | refine then_ret ?_ | refine block_normal ?_ | refine block_ret ?_ | refine block_exit ?_ | refine block_pass rfl ?_)
      obtain rfl := Option.some.inj h
      exact end0 rfl (.refl _)

theorem fc_slices_ContainsFunc_string (p0 : (List (List UInt8))) (F1 : Nat) (C1 : List (List D)) (p1 : ((List UInt8) → Option Bool)) (hp1 : ∀ (a0 : (List UInt8)) r, p1 a0 = some r → FC Try.prog F1 ([.t (.d (.lit (.string ⟨⟨a0⟩⟩)))] ++ C1.map A.imm) [] (.t (.d (.lit (.bool r))))) (hf1 : ∃ fn, Try.prog.funcs[F1]? = some fn ∧ fn.body.isNone = false ∧ (fn.name == "runtime.NumGoroutine") = false) (r : Bool) (h : m_slices_ContainsFunc_string p0 p1 = some r) : FC Try.prog 71 [.t (.d (.seq 1 (List.map cStr p0))), .t (.d (.clo F1 C1))] [] (.t (.d (.lit (.bool r)))) := by
  refine fc_mk (rs := [.tmp 4]) (n := 9) Try.func71 rfl rfl (Nat.le_of_ble_eq_true rfl) rfl (pins := []) rfl (L := [(0, .t (.d (.seq 1 (List.map cStr p0)))), (1, .t (.d (.clo F1 C1)))]) rfl ?_
  refine c_seq ?_
  refine c_region ?_
  refine o_s (.t (.d (.lit (.bool false)))) (g0 rfl) rfl rfl rfl ?_
  refine o_nil ?_
  repeat (first | refine then_normal ?_ | refine then_exit ?_ | refine then_ret ?_ | refine block_normal ?_ | refine block_ret ?_ | refine block_exit ?_ | refine block_pass rfl ?_)
  refine c_seq ?_
  refine c_region ?_
  refine o_s (.t (.d (.seq 1 (List.map cStr p0)))) (g0 rfl) rfl rfl rfl ?_
  refine o_s (.t (.d (.clo F1 C1))) (g0 rfl) rfl rfl rfl ?_
  obtain ⟨x1, h2, h⟩ := bind_some h
  refine o_ca (fc_slices_IndexFunc_string _ F1 C1 _ hp1 hf1 _ h2) (g0 rfl) rfl rfl rfl rfl rfl rfl rfl (.cons (.refl _) (.cons (.refl _) .nil)) rfl rfl ?_
  refine o_s (.t (.d (.lit (.bool (decide (x1 ≥ 0)))))) (g0 rfl) rfl rfl rfl ?_
  refine o_s (.t (.d (.lit (.bool (decide (x1 ≥ 0)))))) (g0 rfl) rfl rfl rfl ?_
  refine o_nil ?_
  repeat (first | refine then_normal ?_ | refine then_exit ?_ | refine then_ret ?_ | refine block_normal ?_ | refine block_ret ?_ | refine block_exit ?_ | refine block_pass rfl ?_)
  refine c_ret ?_
  repeat (first | refine then_normal ?_ | refine then_exit ?_ | refine then_ret ?_ | refine block_normal ?_ | refine block_ret ?_ | refine block_exit ?_ | refine block_pass rfl ?_)
  obtain rfl := Option.some.inj h
  exact end0 rfl (.refl _)

theorem fc_answer_all_string_c1 (p0 : (List UInt8)) (F1 : Nat) (C1 : List (List D)) (c1 : ((List UInt8) → Option Bool)) (hp1 : ∀ (a0 : (List UInt8)) r, c1 a0 = some r → FC Try.prog F1 ([.t (.d (.lit (.string ⟨⟨a0⟩⟩)))] ++ C1.map A.imm) [] (.t (.d (.lit (.bool r))))) (hf1 : ∃ fn, Try.prog.funcs[F1]? = some fn ∧ fn.body.isNone = false ∧ (fn.name == "runtime.NumGoroutine") = false) (r : Bool) (h : m_answer_all_string_c1 p0 c1 = some r) : FC Try.prog 72 [.t (.d (.lit (.string ⟨⟨p0⟩⟩))), .imm [.clo F1 C1]] [] (.t (.d (.lit (.bool r)))) := by
  refine fc_mk (rs := [.tmp 3]) (n := 8) Try.func72 rfl rfl (Nat.le_of_ble_eq_true rfl) rfl (pins := []) rfl (L := [(0, .t (.d (.lit (.string ⟨⟨p0⟩⟩)))), (1, .imm [.clo F1 C1])]) rfl ?_
  refine c_seq ?_
  refine c_region ?_
  refine o_s (.t (.d (.lit (.bool false)))) (g0 rfl) rfl rfl rfl ?_
  refine o_nil ?_
  repeat (first | refine then_normal ?_ | refine then_exit ?_ | refine then_ret ?_ | refine block_normal ?_ | refine block_ret ?_ | refine block_exit ?_ | refine block_pass rfl ?_)
  refine c_seq ?_
  refine c_region ?_
  refine o_s (.t (.d (.clo F1 C1))) (g0 rfl) rfl rfl rfl ?_
  refine o_s (.t (.d (.lit (.string ⟨⟨p0⟩⟩)))) (g0 rfl) rfl rfl rfl ?_
  obtain ⟨x1, h2, h⟩ := bind_some h
  refine o_cc (hp1 _ _ h2) (g0 rfl) rfl rfl rfl rfl hf1.choose_spec.1 hf1.choose_spec.2.1 hf1.choose_spec.2.2 (.cons (.refl _) .nil) rfl rfl ?_
  refine o_s (.t (.d (.lit (.bool (!x1))))) (g0 rfl) rfl rfl rfl ?_
  refine o_s (.t (.d (.lit (.bool (!x1))))) (g0 rfl) rfl rfl rfl ?_
  refine o_nil ?_
  repeat (first | refine then_normal ?_ | refine then_exit ?_ | refine then_ret ?_ | refine block_normal ?_ | refine block_ret ?_ | refine block_exit ?_ | refine block_pass rfl ?_)
  refine c_ret ?_
  repeat (first | refine then_normal ?_ | refine then_exit ?_ | refine then_ret ?_ | refine block_normal ?_ | refine block_ret ?_ | refine block_exit ?_ | refine block_pass rfl ?_)
  obtain rfl := Option.some.inj h
  exact end0 rfl (.refl _)

theorem fc_answer_all_string (p0 : (List (List UInt8))) (F1 : Nat) (C1 : List (List D)) (p1 : ((List UInt8) → Option Bool)) (hp1 : ∀ (a0 : (List UInt8)) r, p1 a0 = some r → FC Try.prog F1 ([.t (.d (.lit (.string ⟨⟨a0⟩⟩)))] ++ C1.map A.imm) [] (.t (.d (.lit (.bool r))))) (hf1 : ∃ fn, Try.prog.funcs[F1]? = some fn ∧ fn.body.isNone = false ∧ (fn.name == "runtime.NumGoroutine") = false) (r : Bool) (h : m_answer_all_string p0 p1 = some r) : FC Try.prog 47 [.t (.d (.seq 1 (List.map cStr p0))), .t (.d (.clo F1 C1))] [] (.t (.d (.lit (.bool r)))) := by
  refine fc_mk (rs := [.tmp 4]) (n := 14) Try.func47 rfl rfl (Nat.le_of_ble_eq_true rfl) rfl (pins := []) rfl (L := [(0, .t (.d (.seq 1 (List.map cStr p0)))), (1, .t (.d (.clo F1 C1)))]) rfl ?_
  refine c_seq ?_
  refine c_region ?_
  refine o_s (.box [.d (.clo F1 C1)]) (g0 rfl) rfl rfl rfl ?_
  refine o_s (.t (.d (.lit (.bool false)))) (g0 rfl) rfl rfl rfl ?_
  refine o_nil ?_
  repeat (first | refine then_normal ?_ | refine then_exit ?_ | refine then_ret ?_ | refine block_normal ?_ | refine block_ret ?_ | refine block_exit ?_ | refine block_pass rfl ?_)
  refine c_seq ?_
  refine c_fz 3 (.imm [.clo F1 C1]) rfl rfl rfl rfl ?_
  refine c_region ?_
  refine o_s (.t (.d (.seq 1 (List.map cStr p0)))) (g0 rfl) rfl rfl rfl ?_
  refine o_c (g0 rfl) rfl rfl rfl (lenE _ _) trivial ?_
  refine o_s (.t (.d (.lit (.bool (decide ((p0.length : Int) ≤ 4096)))))) (g0 rfl) rfl rfl rfl ?_
  refine o_s (.t (.d (.lit (.bool (decide ((p0.length : Int) ≤ 4096)))))) (g0 rfl) rfl rfl rfl ?_
  rcases bif_some h with ⟨h1, h⟩ | ⟨h1, h⟩
  · refine o_s (.t (.d (.seq 1 (List.map cStr p0)))) (gy rfl rfl rfl h1) rfl rfl rfl ?_
    refine o_mfc (.t (.d (.clo 72 [[.clo F1 C1]]))) (gy rfl rfl rfl h1) rfl rfl rfl rfl rfl ?_
    obtain ⟨x2, h3, h⟩ := bind_some h
    refine o_ca (fc_slices_ContainsFunc_string _ 72 [[.clo F1 C1]] _ (fun a0 r h => fc_answer_all_string_c1 a0 F1 C1 _ hp1 hf1 r h) ⟨_, Try.func72, rfl, rfl⟩ _ h3) (gy rfl rfl rfl h1) rfl rfl rfl rfl rfl rfl rfl (.cons (.refl _) (.cons (.refl _) .nil)) rfl rfl ?_
    refine o_s (.t (.d (.lit (.bool (!x2))))) (gy rfl rfl rfl h1) rfl rfl rfl ?_
    refine o_pk (.t (.d (.lit (.bool (!x2))))) (b := true) h1 (g0 rfl) rfl rfl rfl rfl rfl ?_
    refine o_s (.t (.d (.lit (.bool (!x2))))) (g0 rfl) rfl rfl rfl ?_
    refine o_nil ?_
    repeat (first | refine then_normal ?_ | refine then_exit ?_ | refine then_ret ?_ | refine block_normal ?_ | refine block_ret ?_ | refine block_exit ?_ | refine block_pass rfl ?_)
    refine c_ret ?_
    repeat (first | refine then_normal ?_ | refine then_exit ?_ | refine then_ret ?_ | refine block_normal ?_ | refine block_ret ?_ | refine block_exit ?_ | refine block_pass rfl ?_)
    obtain rfl := Option.some.inj h
    exact end0 rfl (.refl _)
  · refine o_skip rfl rfl rfl h1 rfl rfl ?_
    refine o_skip rfl rfl rfl h1 rfl rfl ?_
    refine o_skip rfl rfl rfl h1 rfl rfl ?_
    refine o_skip rfl rfl rfl h1 rfl rfl ?_
    refine o_pk (.t (.d (.lit (.bool false)))) (b := false) h1 (g0 rfl) rfl rfl rfl rfl rfl ?_
    refine o_s (.t (.d (.lit (.bool false)))) (g0 rfl) rfl rfl rfl ?_
    refine o_nil ?_
    repeat (first | refine then_normal ?_ | refine then_exit ?_ | refine then_ret ?_ | refine block_normal ?_ | refine block_ret ?_ | refine block_exit ?_ | refine block_pass rfl ?_)
    refine c_ret ?_
    repeat (first | refine then_normal ?_ | refine then_exit ?_ | refine then_ret ?_ | refine block_normal ?_ | refine block_ret ?_ | refine block_exit ?_ | refine block_pass rfl ?_)
    obtain rfl := Option.some.inj h
    exact end0 rfl (.refl _)

theorem fc_slices_IndexFunc_Member (p0 : (List S_api_Member)) (F1 : Nat) (C1 : List (List D)) (p1 : (S_api_Member → Option Bool)) (hp1 : ∀ (a0 : S_api_Member) r, p1 a0 = some r → FC Try.prog F1 ([.t (.agg [.lit (.string ⟨⟨a0.Name⟩⟩), .lit (.int .i64 a0.Role)])] ++ C1.map A.imm) [] (.t (.d (.lit (.bool r))))) (hf1 : ∃ fn, Try.prog.funcs[F1]? = some fn ∧ fn.body.isNone = false ∧ (fn.name == "runtime.NumGoroutine") = false) (r : Int) (h : m_slices_IndexFunc_Member p0 p1 = some r) : FC Try.prog 91 [.t (.d (.seq 2 (List.map cS_api_Member p0))), .t (.d (.clo F1 C1))] [] (.t (.d (.lit (.int .i64 r)))) := by
  refine fc_mk (rs := [.tmp 4]) (n := 19) Try.func91 rfl rfl (Nat.le_of_ble_eq_true rfl) rfl (pins := []) rfl (L := [(0, .t (.d (.seq 2 (List.map cS_api_Member p0)))), (1, .t (.d (.clo F1 C1)))]) rfl ?_
  refine c_seq ?_
  refine c_region ?_
  refine o_s (.t (.d (.lit (.int .i64 0)))) (g0 rfl) rfl rfl rfl ?_
  refine o_nil ?_
  repeat (first | refine then_normal ?_ | refine then_exit ?_ | refine then_ret ?_ | refine block_normal ?_ | refine block_ret ?_ | refine block_exit ?_ | refine block_pass rfl ?_)
  refine c_seq ?_
  refine c_seq ?_
  refine c_region ?_
  refine o_s (.t (.d (.seq 2 (List.map cS_api_Member p0)))) (g0 rfl) rfl rfl rfl ?_
  refine o_c (g0 rfl) rfl rfl rfl (lenE _ _) trivial ?_
  refine o_s (.t (.d (.lit (.int .i64 0)))) (g0 rfl) rfl rfl rfl ?_
  refine o_nil ?_
  repeat (first | refine then_normal ?_ | refine then_exit ?_ | refine then_ret ?_ | refine block_normal ?_ | refine block_ret ?_ | refine block_exit ?_ | refine block_pass rfl ?_)
  refine c_block ?_
  refine c_fuel (fun (z1 : Int) => [(0, .t (.d (.seq 2 (List.map cS_api_Member p0)))), (1, .t (.d (.clo F1 C1))), (7, .t (.d (.lit (.int .i64 (p0.length : Int))))), (8, .t (.d (.lit (.int .i64 z1))))]) (fun nl1 => (fun (z1 : Int) => m_slices_IndexFunc_Member_l1 p0 p1 nl1 z1 = some r)) (p0.length + 1) 0 h ⟨(.refl _), ⟨(.refl _), ⟨(.refl _), ⟨(.refl _), trivial⟩⟩⟩⟩ rfl ?_
  rintro nl1 z1 h
  cases nl1 with
  | zero => exact none_ne h
  | succ nl1 =>
    refine c_seq ?_
    refine c_region ?_
    refine o_s (.t (.d (.lit (.bool (decide (z1 < (p0.length : Int))))))) (g0 rfl) rfl rfl rfl ?_
    refine o_nil ?_
    repeat (first | refine then_normal ?_ | refine then_exit ?_ | refine then_ret ?_ | refine block_normal ?_ | refine block_ret ?_ | refine block_exit ?_ | refine block_pass rfl ?_)
    refine c_seq ?_
    rcases bif_some h with ⟨h2, h⟩ | ⟨h2, h⟩
    · refine c_t h2 rfl ?_
      refine c_skip ?_
      repeat (first | refine then_normal ?_ | refine then_exit ?_ | refine then_ret ?_ | refine block_normal ?_ | refine block_ret ?_ | refine block_exit ?_ | refine block_pass rfl ?_)
      refine c_seq ?_
      refine c_block ?_
      refine c_seq ?_
      refine c_region ?_
      refine o_s (.t (.d (.lit (.int .i64 z1)))) (g0 rfl) rfl rfl rfl ?_
      refine o_s (.t (.d (.lit (.int .i64 z1)))) (g0 rfl) rfl rfl rfl ?_
      refine o_nil ?_
      repeat (first | refine then_normal ?_ | refine then_exit ?_ | refine then_ret ?_ | refine block_normal ?_ | refine block_ret ?_ | refine block_exit ?_ | refine block_pass rfl ?_)
      refine c_seq ?_
      refine c_region ?_
      refine o_s (.t (.d (.clo F1 C1))) (g0 rfl) rfl rfl rfl ?_
      refine o_s (.t (.d (.seq 2 (List.map cS_api_Member p0)))) (g0 rfl) rfl rfl rfl ?_
      refine o_s (.t (.d (.lit (.int .i64 z1)))) (g0 rfl) rfl rfl rfl ?_
      obtain ⟨x3, h4, h⟩ := bind_some h
      refine o_c (g0 rfl) rfl rfl rfl (idxE h4) (idxC h4) ?_
      refine o_s (.t (.agg [.lit (.string ⟨⟨x3.Name⟩⟩), .lit (.int .i64 x3.Role)])) (g0 rfl) rfl rfl rfl ?_
      obtain ⟨x5, h6, h⟩ := bind_some h
      refine o_cc (hp1 _ _ h6) (g0 rfl) rfl rfl rfl rfl hf1.choose_spec.1 hf1.choose_spec.2.1 hf1.choose_spec.2.2 (.cons (.refl _) .nil) rfl rfl ?_
      refine o_nil ?_
      repeat (first | refine then_normal ?_ | refine then_exit ?_ | refine then_ret ?_ | refine block_normal ?_ | refine block_ret ?_ | refine block_exit ?_ | refine block_pass rfl ?_)
      rcases bif_some h with ⟨h7, h⟩ | ⟨h7, h⟩
      · refine c_t h7 rfl ?_
        refine c_seq ?_
        refine c_region ?_
        refine o_s (.t (.d (.lit (.int .i64 z1)))) (g0 rfl) rfl rfl rfl ?_
        refine o_s (.t (.d (.lit (.int .i64 z1)))) (g0 rfl) rfl rfl rfl ?_
        refine o_nil ?_
        repeat (first | refine then_normal ?_ | refine then_exit ?_ | refine then_ret ?_ | refine block_normal ?_ | refine block_ret ?_ | refine block_exit ?_ | refine block_pass rfl ?_)
        refine c_ret ?_
        repeat (first | refine then_normal ?_ | refine then_exit ?_ | refine then_ret ?_ | refine block_normal ?_ | refine block_ret ?_ | refine block_exit ?_ | refine block_pass rfl ?_)
        obtain rfl := Option.some.inj h
        exact end0 rfl (.refl _)
      · refine c_f h7 rfl ?_
        refine c_skip ?_
        repeat (first | refine then_normal ?_ | refine then_exit ?_ | refine then_ret ?_ | refine block_normal ?_ | refine block_ret ?_ | refine block_exit ?_ | refine block_pass rfl ?_)
        refine c_region ?_
        refine o_s (.t (.d (.lit (.int .i64 (wi (z1 + 1)))))) (g0 rfl) rfl rfl rfl ?_
        refine o_s (.t (.d (.lit (.int .i64 (wi (z1 + 1)))))) (g0 rfl) rfl rfl rfl ?_
        refine o_nil ?_
        repeat (first | refine then_normal ?_ | refine then_exit ?_ | refine then_ret ?_ | refine block_normal ?_ | refine block_ret ?_ | refine block_exit ?_ | refine block_pass rfl ?_)
        exact ⟨nl1, (wi (z1 + 1)), Nat.lt_succ_self nl1, h, ⟨(.refl _), ⟨(.refl _), ⟨(.refl _), ⟨(.refl _), trivial⟩⟩⟩⟩, rfl⟩
    · refine c_f h2 rfl ?_
      refine c_exit ?_
      repeat (first | refine then_normal ?_ | refine then_exit ?_ | refine then_ret ?_ | refine block_normal ?_ | refine block_ret ?_ | refine block_exit ?_ | refine block_pass rfl ?_)
      refine c_seq ?_
      refine c_region ?_
      refine o_s (.t (.d (.lit (.int .i64 (-1))))) (g0 rfl) rfl rfl rfl ?_
      refine o_nil ?_
      repeat (first | refine then_normal ?_ | refine then_exit ?_ | refine then_ret ?_ | refine block_normal ?_ | refine block_ret ?_ | refine block_exit ?_ | refine block_pass rfl ?_)
      refine c_ret ?_
      repeat (first | refine then_normal ?_ | refine then_exit ?_ | refine then_ret ?_ | refine block_normal ?_ | refine block_ret ?_ | refine block_exit ?_ | refine block_pass rfl ?_)
      obtain rfl := Option.some.inj h
      exact end0 rfl (.refl _)

theorem fc_slices_ContainsFunc_Member (p0 : (List S_api_Member)) (F1 : Nat) (C1 : List (List D)) (p1 : (S_api_Member → Option Bool)) (hp1 : ∀ (a0 : S_api_Member) r, p1 a0 = some r → FC Try.prog F1 ([.t (.agg [.lit (.string ⟨⟨a0.Name⟩⟩), .lit (.int .i64 a0.Role)])] ++ C1.map A.imm) [] (.t (.d (.lit (.bool r))))) (hf1 : ∃ fn, Try.prog.funcs[F1]? = some fn ∧ fn.body.isNone = false ∧ (fn.name == "runtime.NumGoroutine") = false) (r : Bool) (h : m_slices_ContainsFunc_Member p0 p1 = some r) : FC Try.prog 73 [.t (.d (.seq 2 (List.map cS_api_Member p0))), .t (.d (.clo F1 C1))] [] (.t (.d (.lit (.bool r)))) := by
  refine fc_mk (rs := [.tmp 4]) (n := 9) Try.func73 rfl rfl (Nat.le_of_ble_eq_true rfl) rfl (pins := []) rfl (L := [(0, .t (.d (.seq 2 (List.map cS_api_Member p0)))), (1, .t (.d (.clo F1 C1)))]) rfl ?_
  refine c_seq ?_
  refine c_region ?_
  refine o_s (.t (.d (.lit (.bool false)))) (g0 rfl) rfl rfl rfl ?_
  refine o_nil ?_
  repeat (first | refine then_normal ?_ | refine then_exit ?_ | refine then_ret ?_ | refine block_normal ?_ | refine block_ret ?_ | refine block_exit ?_ | refine block_pass rfl ?_)
  refine c_seq ?_
  refine c_region ?_
  refine o_s (.t (.d (.seq 2 (List.map cS_api_Member p0)))) (g0 rfl) rfl rfl rfl ?_
  refine o_s (.t (.d (.clo F1 C1))) (g0 rfl) rfl rfl rfl ?_
  obtain ⟨x1, h2, h⟩ := bind_some h
  refine o_ca (fc_slices_IndexFunc_Member _ F1 C1 _ hp1 hf1 _ h2) (g0 rfl) rfl rfl rfl rfl rfl rfl rfl (.cons (.refl _) (.cons (.refl _) .nil)) rfl rfl ?_
  refine o_s (.t (.d (.lit (.bool (decide (x1 ≥ 0)))))) (g0 rfl) rfl rfl rfl ?_
  refine o_s (.t (.d (.lit (.bool (decide (x1 ≥ 0)))))) (g0 rfl) rfl rfl rfl ?_
  refine o_nil ?_
  repeat (first | refine then_normal ?_ | refine then_exit ?_ | refine then_ret ?_ | refine block_normal ?_ | refine block_ret ?_ | refine block_exit ?_ | refine block_pass rfl ?_)
  refine c_ret ?_
  repeat (first | refine then_normal ?_ | refine then_exit ?_ | refine then_ret ?_ | refine block_normal ?_ | refine block_ret ?_ | refine block_exit ?_ | refine block_pass rfl ?_)
  obtain rfl := Option.some.inj h
  exact end0 rfl (.refl _)

theorem fc_answer_all_Member_c1 (p0 : S_api_Member) (F1 : Nat) (C1 : List (List D)) (c1 : (S_api_Member → Option Bool)) (hp1 : ∀ (a0 : S_api_Member) r, c1 a0 = some r → FC Try.prog F1 ([.t (.agg [.lit (.string ⟨⟨a0.Name⟩⟩), .lit (.int .i64 a0.Role)])] ++ C1.map A.imm) [] (.t (.d (.lit (.bool r))))) (hf1 : ∃ fn, Try.prog.funcs[F1]? = some fn ∧ fn.body.isNone = false ∧ (fn.name == "runtime.NumGoroutine") = false) (r : Bool) (h : m_answer_all_Member_c1 p0 c1 = some r) : FC Try.prog 74 [.t (.agg [.lit (.string ⟨⟨p0.Name⟩⟩), .lit (.int .i64 p0.Role)]), .imm [.clo F1 C1]] [] (.t (.d (.lit (.bool r)))) := by
  refine fc_mk (rs := [.tmp 3]) (n := 8) Try.func74 rfl rfl (Nat.le_of_ble_eq_true rfl) rfl (pins := []) rfl (L := [(0, .t (.agg [.lit (.string ⟨⟨p0.Name⟩⟩), .lit (.int .i64 p0.Role)])), (1, .imm [.clo F1 C1])]) rfl ?_
  refine c_seq ?_
  refine c_region ?_
  refine o_s (.box [.d (.lit (.string ⟨⟨p0.Name⟩⟩)), .d (.lit (.int .i64 p0.Role))]) (g0 rfl) rfl rfl rfl ?_
  refine o_s (.t (.d (.lit (.bool false)))) (g0 rfl) rfl rfl rfl ?_
  refine o_nil ?_
  repeat (first | refine then_normal ?_ | refine then_exit ?_ | refine then_ret ?_ | refine block_normal ?_ | refine block_ret ?_ | refine block_exit ?_ | refine block_pass rfl ?_)
  refine c_seq ?_
  refine c_region ?_
  refine o_s (.t (.d (.clo F1 C1))) (g0 rfl) rfl rfl rfl ?_
  refine o_s (.t (.agg [.lit (.string ⟨⟨p0.Name⟩⟩), .lit (.int .i64 p0.Role)])) (g0 rfl) rfl rfl rfl ?_
  obtain ⟨x1, h2, h⟩ := bind_some h
  refine o_cc (hp1 _ _ h2) (g0 rfl) rfl rfl rfl rfl hf1.choose_spec.1 hf1.choose_spec.2.1 hf1.choose_spec.2.2 (.cons (.refl _) .nil) rfl rfl ?_
  refine o_s (.t (.d (.lit (.bool (!x1))))) (g0 rfl) rfl rfl rfl ?_
  refine o_s (.t (.d (.lit (.bool (!x1))))) (g0 rfl) rfl rfl rfl ?_
  refine o_nil ?_
  repeat (first | refine then_normal ?_ | refine then_exit ?_ | refine then_ret ?_ | refine block_normal ?_ | refine block_ret ?_ | refine block_exit ?_ | refine block_pass rfl ?_)
  refine c_ret ?_
  repeat (first | refine then_normal ?_ | refine then_exit ?_ | refine then_ret ?_ | refine block_normal ?_ | refine block_ret ?_ | refine block_exit ?_ | refine block_pass rfl ?_)
  obtain rfl := Option.some.inj h
  exact end0 rfl (.refl _)

theorem fc_answer_all_Member (p0 : (List S_api_Member)) (F1 : Nat) (C1 : List (List D)) (p1 : (S_api_Member → Option Bool)) (hp1 : ∀ (a0 : S_api_Member) r, p1 a0 = some r → FC Try.prog F1 ([.t (.agg [.lit (.string ⟨⟨a0.Name⟩⟩), .lit (.int .i64 a0.Role)])] ++ C1.map A.imm) [] (.t (.d (.lit (.bool r))))) (hf1 : ∃ fn, Try.prog.funcs[F1]? = some fn ∧ fn.body.isNone = false ∧ (fn.name == "runtime.NumGoroutine") = false) (r : Bool) (h : m_answer_all_Member p0 p1 = some r) : FC Try.prog 48 [.t (.d (.seq 2 (List.map cS_api_Member p0))), .t (.d (.clo F1 C1))] [] (.t (.d (.lit (.bool r)))) := by
  refine fc_mk (rs := [.tmp 4]) (n := 14) Try.func48 rfl rfl (Nat.le_of_ble_eq_true rfl) rfl (pins := []) rfl (L := [(0, .t (.d (.seq 2 (List.map cS_api_Member p0)))), (1, .t (.d (.clo F1 C1)))]) rfl ?_
  refine c_seq ?_
  refine c_region ?_
  refine o_s (.box [.d (.clo F1 C1)]) (g0 rfl) rfl rfl rfl ?_
  refine o_s (.t (.d (.lit (.bool false)))) (g0 rfl) rfl rfl rfl ?_
  refine o_nil ?_
  repeat (first | refine then_normal ?_ | refine then_exit ?_ | refine then_ret ?_ | refine block_normal ?_ | refine block_ret ?_ | refine block_exit ?_ | refine block_pass rfl ?_)
  refine c_seq ?_
  refine c_fz 3 (.imm [.clo F1 C1]) rfl rfl rfl rfl ?_
  refine c_region ?_
  refine o_s (.t (.d (.seq 2 (List.map cS_api_Member p0)))) (g0 rfl) rfl rfl rfl ?_
  refine o_c (g0 rfl) rfl rfl rfl (lenE _ _) trivial ?_
  refine o_s (.t (.d (.lit (.bool (decide ((p0.length : Int) ≤ 4096)))))) (g0 rfl) rfl rfl rfl ?_
  refine o_s (.t (.d (.lit (.bool (decide ((p0.length : Int) ≤ 4096)))))) (g0 rfl) rfl rfl rfl ?_
  rcases bif_some h with ⟨h1, h⟩ | ⟨h1, h⟩
  · refine o_s (.t (.d (.seq 2 (List.map cS_api_Member p0)))) (gy rfl rfl rfl h1) rfl rfl rfl ?_
    refine o_mfc (.t (.d (.clo 74 [[.clo F1 C1]]))) (gy rfl rfl rfl h1) rfl rfl rfl rfl rfl ?_
    obtain ⟨x2, h3, h⟩ := bind_some h
    refine o_ca (fc_slices_ContainsFunc_Member _ 74 [[.clo F1 C1]] _ (fun a0 r h => fc_answer_all_Member_c1 a0 F1 C1 _ hp1 hf1 r h) ⟨_, Try.func74, rfl, rfl⟩ _ h3) (gy rfl rfl rfl h1) rfl rfl rfl rfl rfl rfl rfl (.cons (.refl _) (.cons (.refl _) .nil)) rfl rfl ?_
    refine o_s (.t (.d (.lit (.bool (!x2))))) (gy rfl rfl rfl h1) rfl rfl rfl ?_
    refine o_pk (.t (.d (.lit (.bool (!x2))))) (b := true) h1 (g0 rfl) rfl rfl rfl rfl rfl ?_
    refine o_s (.t (.d (.lit (.bool (!x2))))) (g0 rfl) rfl rfl rfl ?_
    refine o_nil ?_
    repeat (first | refine then_normal ?_ | refine then_exit ?_ | refine then_ret ?_ | refine block_normal ?_ | refine block_ret ?_ | refine block_exit ?_ | refine block_pass rfl ?_)
    refine c_ret ?_
    repeat (first | refine then_normal ?_ | refine then_exit ?_ | refine then_ret ?_ | refine block_normal ?_ | refine block_ret ?_ | refine block_exit ?_ | refine block_pass rfl ?_)
    obtain rfl := Option.some.inj h
    exact end0 rfl (.refl _)
  · refine o_skip rfl rfl rfl h1 rfl rfl ?_
    refine o_skip rfl rfl rfl h1 rfl rfl ?_
    refine o_skip rfl rfl rfl h1 rfl rfl ?_
    refine o_skip rfl rfl rfl h1 rfl rfl ?_
    refine o_pk (.t (.d (.lit (.bool false)))) (b := false) h1 (g0 rfl) rfl rfl rfl rfl rfl ?_
    refine o_s (.t (.d (.lit (.bool false)))) (g0 rfl) rfl rfl rfl ?_
    refine o_nil ?_
    repeat (first | refine then_normal ?_ | refine then_exit ?_ | refine then_ret ?_ | refine block_normal ?_ | refine block_ret ?_ | refine block_exit ?_ | refine block_pass rfl ?_)
    refine c_ret ?_
    repeat (first | refine then_normal ?_ | refine then_exit ?_ | refine then_ret ?_ | refine block_normal ?_ | refine block_ret ?_ | refine block_exit ?_ | refine block_pass rfl ?_)
    obtain rfl := Option.some.inj h
    exact end0 rfl (.refl _)

theorem fc_answer_member (p0 : S_api_Member) (r : Bool) (h : m_answer_member p0 = some r) : FC Try.prog 49 [.t (.agg [.lit (.string ⟨⟨p0.Name⟩⟩), .lit (.int .i64 p0.Role)])] [] (.t (.d (.lit (.bool r)))) := by
  refine fc_mk (rs := [.tmp 2]) (n := 16) Try.func49 rfl rfl (Nat.le_of_ble_eq_true rfl) rfl (pins := []) rfl (L := [(0, .t (.agg [.lit (.string ⟨⟨p0.Name⟩⟩), .lit (.int .i64 p0.Role)]))]) rfl ?_
  refine c_seq ?_
  refine c_region ?_
  refine o_s (.box [.d (.lit (.string ⟨⟨p0.Name⟩⟩)), .d (.lit (.int .i64 p0.Role))]) (g0 rfl) rfl rfl rfl ?_
  refine o_s (.t (.d (.lit (.bool false)))) (g0 rfl) rfl rfl rfl ?_
  refine o_nil ?_
  repeat (first | refine then_normal ?_ | refine then_exit ?_ | refine then_ret ?_ | refine block_normal ?_ | refine block_ret ?_ | refine block_exit ?_ | refine block_pass rfl ?_)
  refine c_seq ?_
  refine c_region ?_
  refine o_s (.ref 1 0) (g0 rfl) rfl rfl rfl ?_
  refine o_s (.t (.d (.lit (.string ⟨⟨p0.Name⟩⟩)))) (g0 rfl) rfl rfl rfl ?_
  obtain ⟨x1, h2, h⟩ := bind_some h
  refine o_ca (fc_tree_Name _ _ h2) (g0 rfl) rfl rfl rfl rfl rfl rfl rfl (.cons (.refl _) .nil) rfl rfl ?_
  refine o_s (.t (.d (.lit (.bool x1)))) (g0 rfl) rfl rfl rfl ?_
  rcases bif_some h with ⟨h3, h⟩ | ⟨h3, h⟩
  · refine o_s (.ref 1 1) (gy rfl rfl rfl h3) rfl rfl rfl ?_
    refine o_s (.t (.d (.lit (.int .i64 p0.Role)))) (gy rfl rfl rfl h3) rfl rfl rfl ?_
    refine o_s (.t (.d (.lit (.bool (decide (p0.Role ≥ 1)))))) (gy rfl rfl rfl h3) rfl rfl rfl ?_
    refine o_pk (.t (.d (.lit (.bool (decide (p0.Role ≥ 1)))))) (b := true) h3 (g0 rfl) rfl rfl rfl rfl rfl ?_
    refine o_s (.t (.d (.lit (.bool (decide (p0.Role ≥ 1)))))) (g0 rfl) rfl rfl rfl ?_
    rcases bif_some h with ⟨h4, h⟩ | ⟨h4, h⟩
    · refine o_s (.ref 1 1) (gy rfl rfl rfl h4) rfl rfl rfl ?_
      refine o_s (.t (.d (.lit (.int .i64 p0.Role)))) (gy rfl rfl rfl h4) rfl rfl rfl ?_
      refine o_s (.t (.d (.lit (.bool (decide (p0.Role ≤ 4)))))) (gy rfl rfl rfl h4) rfl rfl rfl ?_
      refine o_pk (.t (.d (.lit (.bool (decide (p0.Role ≤ 4)))))) (b := true) h4 (g0 rfl) rfl rfl rfl rfl rfl ?_
      refine o_s (.t (.d (.lit (.bool (decide (p0.Role ≤ 4)))))) (g0 rfl) rfl rfl rfl ?_
      refine o_nil ?_
      repeat (first | refine then_normal ?_ | refine then_exit ?_ | refine then_ret ?_ | refine block_normal ?_ | refine block_ret ?_ | refine block_exit ?_ | refine block_pass rfl ?_)
      refine c_ret ?_
      repeat (first | refine then_normal ?_ | refine then_exit ?_ | refine then_ret ?_ | refine block_normal ?_ | refine block_ret ?_ | refine block_exit ?_ | refine block_pass rfl ?_)
      obtain rfl := Option.some.inj h
      exact end0 rfl (.refl _)
    · refine o_skip rfl rfl rfl h4 rfl rfl ?_
      refine o_skip rfl rfl rfl h4 rfl rfl ?_
      refine o_skip rfl rfl rfl h4 rfl rfl ?_
      refine o_pk (.t (.d (.lit (.bool false)))) (b := false) h4 (g0 rfl) rfl rfl rfl rfl rfl ?_
      refine o_s (.t (.d (.lit (.bool false)))) (g0 rfl) rfl rfl rfl ?_
      refine o_nil ?_
      repeat (first | refine then_normal ?_ | refine then_exit ?_ | refine then_ret ?_ | refine block_normal ?_ | refine block_ret ?_ | refine block_exit ?_ | refine block_pass rfl ?_)
      refine c_ret ?_
      repeat (first | refine then_normal ?_ | refine then_exit ?_ | refine then_ret ?_ | refine block_normal ?_ | refine block_ret ?_ | refine block_exit ?_ | refine block_pass rfl ?_)
      obtain rfl := Option.some.inj h
      exact end0 rfl (.refl _)
  · refine o_skip rfl rfl rfl h3 rfl rfl ?_
    refine o_skip rfl rfl rfl h3 rfl rfl ?_
    refine o_skip rfl rfl rfl h3 rfl rfl ?_
    refine o_pk (.t (.d (.lit (.bool false)))) (b := false) h3 (g0 rfl) rfl rfl rfl rfl rfl ?_
    refine o_s (.t (.d (.lit (.bool false)))) (g0 rfl) rfl rfl rfl ?_
    refine o_skip rfl rfl rfl rfl rfl rfl ?_
    refine o_skip rfl rfl rfl rfl rfl rfl ?_
    refine o_skip rfl rfl rfl rfl rfl rfl ?_
    refine o_pk (.t (.d (.lit (.bool false)))) (b := false) rfl (g0 rfl) rfl rfl rfl rfl rfl ?_
    refine o_s (.t (.d (.lit (.bool false)))) (g0 rfl) rfl rfl rfl ?_
    refine o_nil ?_
    repeat (first | refine then_normal ?_ | refine then_exit ?_ | refine then_ret ?_ | refine block_normal ?_ | refine block_ret ?_ | refine block_exit ?_ | refine block_pass rfl ?_)
    refine c_ret ?_
    repeat (first | refine then_normal ?_ | refine then_exit ?_ | refine then_ret ?_ | refine block_normal ?_ | refine block_ret ?_ | refine block_exit ?_ | refine block_pass rfl ?_)
    obtain rfl := Option.some.inj h
    exact end0 rfl (.refl _)

theorem fc_slices_IndexFunc_Past (p0 : (List S_api_Past)) (F1 : Nat) (C1 : List (List D)) (p1 : (S_api_Past → Option Bool)) (hp1 : ∀ (a0 : S_api_Past) r, p1 a0 = some r → FC Try.prog F1 ([.t (.agg [.lit (.int .i64 a0.Number), .lit (.int .i64 a0.Epoch), .lit (.bool a0.Gone), .lit (.string ⟨⟨a0.By⟩⟩)])] ++ C1.map A.imm) [] (.t (.d (.lit (.bool r))))) (hf1 : ∃ fn, Try.prog.funcs[F1]? = some fn ∧ fn.body.isNone = false ∧ (fn.name == "runtime.NumGoroutine") = false) (r : Int) (h : m_slices_IndexFunc_Past p0 p1 = some r) : FC Try.prog 92 [.t (.d (.seq 4 (List.map cS_api_Past p0))), .t (.d (.clo F1 C1))] [] (.t (.d (.lit (.int .i64 r)))) := by
  refine fc_mk (rs := [.tmp 4]) (n := 19) Try.func92 rfl rfl (Nat.le_of_ble_eq_true rfl) rfl (pins := []) rfl (L := [(0, .t (.d (.seq 4 (List.map cS_api_Past p0)))), (1, .t (.d (.clo F1 C1)))]) rfl ?_
  refine c_seq ?_
  refine c_region ?_
  refine o_s (.t (.d (.lit (.int .i64 0)))) (g0 rfl) rfl rfl rfl ?_
  refine o_nil ?_
  repeat (first | refine then_normal ?_ | refine then_exit ?_ | refine then_ret ?_ | refine block_normal ?_ | refine block_ret ?_ | refine block_exit ?_ | refine block_pass rfl ?_)
  refine c_seq ?_
  refine c_seq ?_
  refine c_region ?_
  refine o_s (.t (.d (.seq 4 (List.map cS_api_Past p0)))) (g0 rfl) rfl rfl rfl ?_
  refine o_c (g0 rfl) rfl rfl rfl (lenE _ _) trivial ?_
  refine o_s (.t (.d (.lit (.int .i64 0)))) (g0 rfl) rfl rfl rfl ?_
  refine o_nil ?_
  repeat (first | refine then_normal ?_ | refine then_exit ?_ | refine then_ret ?_ | refine block_normal ?_ | refine block_ret ?_ | refine block_exit ?_ | refine block_pass rfl ?_)
  refine c_block ?_
  refine c_fuel (fun (z1 : Int) => [(0, .t (.d (.seq 4 (List.map cS_api_Past p0)))), (1, .t (.d (.clo F1 C1))), (7, .t (.d (.lit (.int .i64 (p0.length : Int))))), (8, .t (.d (.lit (.int .i64 z1))))]) (fun nl1 => (fun (z1 : Int) => m_slices_IndexFunc_Past_l1 p0 p1 nl1 z1 = some r)) (p0.length + 1) 0 h ⟨(.refl _), ⟨(.refl _), ⟨(.refl _), ⟨(.refl _), trivial⟩⟩⟩⟩ rfl ?_
  rintro nl1 z1 h
  cases nl1 with
  | zero => exact none_ne h
  | succ nl1 =>
    refine c_seq ?_
    refine c_region ?_
    refine o_s (.t (.d (.lit (.bool (decide (z1 < (p0.length : Int))))))) (g0 rfl) rfl rfl rfl ?_
    refine o_nil ?_
    repeat (first | refine then_normal ?_ | refine then_exit ?_ | refine then_ret ?_ | refine block_normal ?_ | refine block_ret ?_ | refine block_exit ?_ | refine block_pass rfl ?_)
    refine c_seq ?_
    rcases bif_some h with ⟨h2, h⟩ | ⟨h2, h⟩
    · refine c_t h2 rfl ?_
      refine c_skip ?_
      repeat (first | refine then_normal ?_ | refine then_exit ?_ | refine then_ret ?_ | refine block_normal ?_ | refine block_ret ?_ | refine block_exit ?_ | refine block_pass rfl ?_)
      refine c_seq ?_
      refine c_block ?_
      refine c_seq ?_
      refine c_region ?_
      refine o_s (.t (.d (.lit (.int .i64 z1)))) (g0 rfl) rfl rfl rfl ?_
      refine o_s (.t (.d (.lit (.int .i64 z1)))) (g0 rfl) rfl rfl rfl ?_
      refine o_nil ?_
      repeat (first | refine then_normal ?_ | refine then_exit ?_ | refine then_ret ?_ | refine block_normal ?_ | refine block_ret ?_ | refine block_exit ?_ | refine block_pass rfl ?_)
      refine c_seq ?_
      refine c_region ?_
      refine o_s (.t (.d (.clo F1 C1))) (g0 rfl) rfl rfl rfl ?_
      refine o_s (.t (.d (.seq 4 (List.map cS_api_Past p0)))) (g0 rfl) rfl rfl rfl ?_
      refine o_s (.t (.d (.lit (.int .i64 z1)))) (g0 rfl) rfl rfl rfl ?_
      obtain ⟨x3, h4, h⟩ := bind_some h
      refine o_c (g0 rfl) rfl rfl rfl (idxE h4) (idxC h4) ?_
      refine o_s (.t (.agg [.lit (.int .i64 x3.Number), .lit (.int .i64 x3.Epoch), .lit (.bool x3.Gone), .lit (.string ⟨⟨x3.By⟩⟩)])) (g0 rfl) rfl rfl rfl ?_
      obtain ⟨x5, h6, h⟩ := bind_some h
      refine o_cc (hp1 _ _ h6) (g0 rfl) rfl rfl rfl rfl hf1.choose_spec.1 hf1.choose_spec.2.1 hf1.choose_spec.2.2 (.cons (.refl _) .nil) rfl rfl ?_
      refine o_nil ?_
      repeat (first | refine then_normal ?_ | refine then_exit ?_ | refine then_ret ?_ | refine block_normal ?_ | refine block_ret ?_ | refine block_exit ?_ | refine block_pass rfl ?_)
      rcases bif_some h with ⟨h7, h⟩ | ⟨h7, h⟩
      · refine c_t h7 rfl ?_
        refine c_seq ?_
        refine c_region ?_
        refine o_s (.t (.d (.lit (.int .i64 z1)))) (g0 rfl) rfl rfl rfl ?_
        refine o_s (.t (.d (.lit (.int .i64 z1)))) (g0 rfl) rfl rfl rfl ?_
        refine o_nil ?_
        repeat (first | refine then_normal ?_ | refine then_exit ?_ | refine then_ret ?_ | refine block_normal ?_ | refine block_ret ?_ | refine block_exit ?_ | refine block_pass rfl ?_)
        refine c_ret ?_
        repeat (first | refine then_normal ?_ | refine then_exit ?_ | refine then_ret ?_ | refine block_normal ?_ | refine block_ret ?_ | refine block_exit ?_ | refine block_pass rfl ?_)
        obtain rfl := Option.some.inj h
        exact end0 rfl (.refl _)
      · refine c_f h7 rfl ?_
        refine c_skip ?_
        repeat (first | refine then_normal ?_ | refine then_exit ?_ | refine then_ret ?_ | refine block_normal ?_ | refine block_ret ?_ | refine block_exit ?_ | refine block_pass rfl ?_)
        refine c_region ?_
        refine o_s (.t (.d (.lit (.int .i64 (wi (z1 + 1)))))) (g0 rfl) rfl rfl rfl ?_
        refine o_s (.t (.d (.lit (.int .i64 (wi (z1 + 1)))))) (g0 rfl) rfl rfl rfl ?_
        refine o_nil ?_
        repeat (first | refine then_normal ?_ | refine then_exit ?_ | refine then_ret ?_ | refine block_normal ?_ | refine block_ret ?_ | refine block_exit ?_ | refine block_pass rfl ?_)
        exact ⟨nl1, (wi (z1 + 1)), Nat.lt_succ_self nl1, h, ⟨(.refl _), ⟨(.refl _), ⟨(.refl _), ⟨(.refl _), trivial⟩⟩⟩⟩, rfl⟩
    · refine c_f h2 rfl ?_
      refine c_exit ?_
      repeat (first | refine then_normal ?_ | refine then_exit ?_ | refine then_ret ?_ | refine block_normal ?_ | refine block_ret ?_ | refine block_exit ?_ | refine block_pass rfl ?_)
      refine c_seq ?_
      refine c_region ?_
      refine o_s (.t (.d (.lit (.int .i64 (-1))))) (g0 rfl) rfl rfl rfl ?_
      refine o_nil ?_
      repeat (first | refine then_normal ?_ | refine then_exit ?_ | refine then_ret ?_ | refine block_normal ?_ | refine block_ret ?_ | refine block_exit ?_ | refine block_pass rfl ?_)
      refine c_ret ?_
      repeat (first | refine then_normal ?_ | refine then_exit ?_ | refine then_ret ?_ | refine block_normal ?_ | refine block_ret ?_ | refine block_exit ?_ | refine block_pass rfl ?_)
      obtain rfl := Option.some.inj h
      exact end0 rfl (.refl _)

theorem fc_slices_ContainsFunc_Past (p0 : (List S_api_Past)) (F1 : Nat) (C1 : List (List D)) (p1 : (S_api_Past → Option Bool)) (hp1 : ∀ (a0 : S_api_Past) r, p1 a0 = some r → FC Try.prog F1 ([.t (.agg [.lit (.int .i64 a0.Number), .lit (.int .i64 a0.Epoch), .lit (.bool a0.Gone), .lit (.string ⟨⟨a0.By⟩⟩)])] ++ C1.map A.imm) [] (.t (.d (.lit (.bool r))))) (hf1 : ∃ fn, Try.prog.funcs[F1]? = some fn ∧ fn.body.isNone = false ∧ (fn.name == "runtime.NumGoroutine") = false) (r : Bool) (h : m_slices_ContainsFunc_Past p0 p1 = some r) : FC Try.prog 75 [.t (.d (.seq 4 (List.map cS_api_Past p0))), .t (.d (.clo F1 C1))] [] (.t (.d (.lit (.bool r)))) := by
  refine fc_mk (rs := [.tmp 4]) (n := 9) Try.func75 rfl rfl (Nat.le_of_ble_eq_true rfl) rfl (pins := []) rfl (L := [(0, .t (.d (.seq 4 (List.map cS_api_Past p0)))), (1, .t (.d (.clo F1 C1)))]) rfl ?_
  refine c_seq ?_
  refine c_region ?_
  refine o_s (.t (.d (.lit (.bool false)))) (g0 rfl) rfl rfl rfl ?_
  refine o_nil ?_
  repeat (first | refine then_normal ?_ | refine then_exit ?_ | refine then_ret ?_ | refine block_normal ?_ | refine block_ret ?_ | refine block_exit ?_ | refine block_pass rfl ?_)
  refine c_seq ?_
  refine c_region ?_
  refine o_s (.t (.d (.seq 4 (List.map cS_api_Past p0)))) (g0 rfl) rfl rfl rfl ?_
  refine o_s (.t (.d (.clo F1 C1))) (g0 rfl) rfl rfl rfl ?_
  obtain ⟨x1, h2, h⟩ := bind_some h
  refine o_ca (fc_slices_IndexFunc_Past _ F1 C1 _ hp1 hf1 _ h2) (g0 rfl) rfl rfl rfl rfl rfl rfl rfl (.cons (.refl _) (.cons (.refl _) .nil)) rfl rfl ?_
  refine o_s (.t (.d (.lit (.bool (decide (x1 ≥ 0)))))) (g0 rfl) rfl rfl rfl ?_
  refine o_s (.t (.d (.lit (.bool (decide (x1 ≥ 0)))))) (g0 rfl) rfl rfl rfl ?_
  refine o_nil ?_
  repeat (first | refine then_normal ?_ | refine then_exit ?_ | refine then_ret ?_ | refine block_normal ?_ | refine block_ret ?_ | refine block_exit ?_ | refine block_pass rfl ?_)
  refine c_ret ?_
  repeat (first | refine then_normal ?_ | refine then_exit ?_ | refine then_ret ?_ | refine block_normal ?_ | refine block_ret ?_ | refine block_exit ?_ | refine block_pass rfl ?_)
  obtain rfl := Option.some.inj h
  exact end0 rfl (.refl _)

theorem fc_answer_all_Past_c1 (p0 : S_api_Past) (F1 : Nat) (C1 : List (List D)) (c1 : (S_api_Past → Option Bool)) (hp1 : ∀ (a0 : S_api_Past) r, c1 a0 = some r → FC Try.prog F1 ([.t (.agg [.lit (.int .i64 a0.Number), .lit (.int .i64 a0.Epoch), .lit (.bool a0.Gone), .lit (.string ⟨⟨a0.By⟩⟩)])] ++ C1.map A.imm) [] (.t (.d (.lit (.bool r))))) (hf1 : ∃ fn, Try.prog.funcs[F1]? = some fn ∧ fn.body.isNone = false ∧ (fn.name == "runtime.NumGoroutine") = false) (r : Bool) (h : m_answer_all_Past_c1 p0 c1 = some r) : FC Try.prog 76 [.t (.agg [.lit (.int .i64 p0.Number), .lit (.int .i64 p0.Epoch), .lit (.bool p0.Gone), .lit (.string ⟨⟨p0.By⟩⟩)]), .imm [.clo F1 C1]] [] (.t (.d (.lit (.bool r)))) := by
  refine fc_mk (rs := [.tmp 3]) (n := 8) Try.func76 rfl rfl (Nat.le_of_ble_eq_true rfl) rfl (pins := []) rfl (L := [(0, .t (.agg [.lit (.int .i64 p0.Number), .lit (.int .i64 p0.Epoch), .lit (.bool p0.Gone), .lit (.string ⟨⟨p0.By⟩⟩)])), (1, .imm [.clo F1 C1])]) rfl ?_
  refine c_seq ?_
  refine c_region ?_
  refine o_s (.box [.d (.lit (.int .i64 p0.Number)), .d (.lit (.int .i64 p0.Epoch)), .d (.lit (.bool p0.Gone)), .d (.lit (.string ⟨⟨p0.By⟩⟩))]) (g0 rfl) rfl rfl rfl ?_
  refine o_s (.t (.d (.lit (.bool false)))) (g0 rfl) rfl rfl rfl ?_
  refine o_nil ?_
  repeat (first | refine then_normal ?_ | refine then_exit ?_ | refine then_ret ?_ | refine block_normal ?_ | refine block_ret ?_ | refine block_exit ?_ | refine block_pass rfl ?_)
  refine c_seq ?_
  refine c_region ?_
  refine o_s (.t (.d (.clo F1 C1))) (g0 rfl) rfl rfl rfl ?_
  refine o_s (.t (.agg [.lit (.int .i64 p0.Number), .lit (.int .i64 p0.Epoch), .lit (.bool p0.Gone), .lit (.string ⟨⟨p0.By⟩⟩)])) (g0 rfl) rfl rfl rfl ?_
  obtain ⟨x1, h2, h⟩ := bind_some h
  refine o_cc (hp1 _ _ h2) (g0 rfl) rfl rfl rfl rfl hf1.choose_spec.1 hf1.choose_spec.2.1 hf1.choose_spec.2.2 (.cons (.refl _) .nil) rfl rfl ?_
  refine o_s (.t (.d (.lit (.bool (!x1))))) (g0 rfl) rfl rfl rfl ?_
  refine o_s (.t (.d (.lit (.bool (!x1))))) (g0 rfl) rfl rfl rfl ?_
  refine o_nil ?_
  repeat (first | refine then_normal ?_ | refine then_exit ?_ | refine then_ret ?_ | refine block_normal ?_ | refine block_ret ?_ | refine block_exit ?_ | refine block_pass rfl ?_)
  refine c_ret ?_
  repeat (first | refine then_normal ?_ | refine then_exit ?_ | refine then_ret ?_ | refine block_normal ?_ | refine block_ret ?_ | refine block_exit ?_ | refine block_pass rfl ?_)
  obtain rfl := Option.some.inj h
  exact end0 rfl (.refl _)

theorem fc_answer_all_Past (p0 : (List S_api_Past)) (F1 : Nat) (C1 : List (List D)) (p1 : (S_api_Past → Option Bool)) (hp1 : ∀ (a0 : S_api_Past) r, p1 a0 = some r → FC Try.prog F1 ([.t (.agg [.lit (.int .i64 a0.Number), .lit (.int .i64 a0.Epoch), .lit (.bool a0.Gone), .lit (.string ⟨⟨a0.By⟩⟩)])] ++ C1.map A.imm) [] (.t (.d (.lit (.bool r))))) (hf1 : ∃ fn, Try.prog.funcs[F1]? = some fn ∧ fn.body.isNone = false ∧ (fn.name == "runtime.NumGoroutine") = false) (r : Bool) (h : m_answer_all_Past p0 p1 = some r) : FC Try.prog 50 [.t (.d (.seq 4 (List.map cS_api_Past p0))), .t (.d (.clo F1 C1))] [] (.t (.d (.lit (.bool r)))) := by
  refine fc_mk (rs := [.tmp 4]) (n := 14) Try.func50 rfl rfl (Nat.le_of_ble_eq_true rfl) rfl (pins := []) rfl (L := [(0, .t (.d (.seq 4 (List.map cS_api_Past p0)))), (1, .t (.d (.clo F1 C1)))]) rfl ?_
  refine c_seq ?_
  refine c_region ?_
  refine o_s (.box [.d (.clo F1 C1)]) (g0 rfl) rfl rfl rfl ?_
  refine o_s (.t (.d (.lit (.bool false)))) (g0 rfl) rfl rfl rfl ?_
  refine o_nil ?_
  repeat (first | refine then_normal ?_ | refine then_exit ?_ | refine then_ret ?_ | refine block_normal ?_ | refine block_ret ?_ | refine block_exit ?_ | refine block_pass rfl ?_)
  refine c_seq ?_
  refine c_fz 3 (.imm [.clo F1 C1]) rfl rfl rfl rfl ?_
  refine c_region ?_
  refine o_s (.t (.d (.seq 4 (List.map cS_api_Past p0)))) (g0 rfl) rfl rfl rfl ?_
  refine o_c (g0 rfl) rfl rfl rfl (lenE _ _) trivial ?_
  refine o_s (.t (.d (.lit (.bool (decide ((p0.length : Int) ≤ 4096)))))) (g0 rfl) rfl rfl rfl ?_
  refine o_s (.t (.d (.lit (.bool (decide ((p0.length : Int) ≤ 4096)))))) (g0 rfl) rfl rfl rfl ?_
  rcases bif_some h with ⟨h1, h⟩ | ⟨h1, h⟩
  · refine o_s (.t (.d (.seq 4 (List.map cS_api_Past p0)))) (gy rfl rfl rfl h1) rfl rfl rfl ?_
    refine o_mfc (.t (.d (.clo 76 [[.clo F1 C1]]))) (gy rfl rfl rfl h1) rfl rfl rfl rfl rfl ?_
    obtain ⟨x2, h3, h⟩ := bind_some h
    refine o_ca (fc_slices_ContainsFunc_Past _ 76 [[.clo F1 C1]] _ (fun a0 r h => fc_answer_all_Past_c1 a0 F1 C1 _ hp1 hf1 r h) ⟨_, Try.func76, rfl, rfl⟩ _ h3) (gy rfl rfl rfl h1) rfl rfl rfl rfl rfl rfl rfl (.cons (.refl _) (.cons (.refl _) .nil)) rfl rfl ?_
    refine o_s (.t (.d (.lit (.bool (!x2))))) (gy rfl rfl rfl h1) rfl rfl rfl ?_
    refine o_pk (.t (.d (.lit (.bool (!x2))))) (b := true) h1 (g0 rfl) rfl rfl rfl rfl rfl ?_
    refine o_s (.t (.d (.lit (.bool (!x2))))) (g0 rfl) rfl rfl rfl ?_
    refine o_nil ?_
    repeat (first | refine then_normal ?_ | refine then_exit ?_ | refine then_ret ?_ | refine block_normal ?_ | refine block_ret ?_ | refine block_exit ?_ | refine block_pass rfl ?_)
    refine c_ret ?_
    repeat (first | refine then_normal ?_ | refine then_exit ?_ | refine then_ret ?_ | refine block_normal ?_ | refine block_ret ?_ | refine block_exit ?_ | refine block_pass rfl ?_)
    obtain rfl := Option.some.inj h
    exact end0 rfl (.refl _)
  · refine o_skip rfl rfl rfl h1 rfl rfl ?_
    refine o_skip rfl rfl rfl h1 rfl rfl ?_
    refine o_skip rfl rfl rfl h1 rfl rfl ?_
    refine o_skip rfl rfl rfl h1 rfl rfl ?_
    refine o_pk (.t (.d (.lit (.bool false)))) (b := false) h1 (g0 rfl) rfl rfl rfl rfl rfl ?_
    refine o_s (.t (.d (.lit (.bool false)))) (g0 rfl) rfl rfl rfl ?_
    refine o_nil ?_
    repeat (first | refine then_normal ?_ | refine then_exit ?_ | refine then_ret ?_ | refine block_normal ?_ | refine block_ret ?_ | refine block_exit ?_ | refine block_pass rfl ?_)
    refine c_ret ?_
    repeat (first | refine then_normal ?_ | refine then_exit ?_ | refine then_ret ?_ | refine block_normal ?_ | refine block_ret ?_ | refine block_exit ?_ | refine block_pass rfl ?_)
    obtain rfl := Option.some.inj h
    exact end0 rfl (.refl _)

theorem fc_answer_past (p0 : S_api_Past) (r : Bool) (h : m_answer_past p0 = some r) : FC Try.prog 51 [.t (.agg [.lit (.int .i64 p0.Number), .lit (.int .i64 p0.Epoch), .lit (.bool p0.Gone), .lit (.string ⟨⟨p0.By⟩⟩)])] [] (.t (.d (.lit (.bool r)))) := by
  refine fc_mk (rs := [.tmp 2]) (n := 26) Try.func51 rfl rfl (Nat.le_of_ble_eq_true rfl) rfl (pins := []) rfl (L := [(0, .t (.agg [.lit (.int .i64 p0.Number), .lit (.int .i64 p0.Epoch), .lit (.bool p0.Gone), .lit (.string ⟨⟨p0.By⟩⟩)]))]) rfl ?_
  refine c_seq ?_
  refine c_region ?_
  refine o_s (.box [.d (.lit (.int .i64 p0.Number)), .d (.lit (.int .i64 p0.Epoch)), .d (.lit (.bool p0.Gone)), .d (.lit (.string ⟨⟨p0.By⟩⟩))]) (g0 rfl) rfl rfl rfl ?_
  refine o_s (.t (.d (.lit (.bool false)))) (g0 rfl) rfl rfl rfl ?_
  refine o_nil ?_
  repeat (first | refine then_normal ?_ | refine then_exit ?_ | refine then_ret ?_ | refine block_normal ?_ | refine block_ret ?_ | refine block_exit ?_ | refine block_pass rfl ?_)
  refine c_seq ?_
  refine c_region ?_
  refine o_s (.ref 1 0) (g0 rfl) rfl rfl rfl ?_
  refine o_s (.t (.d (.lit (.int .i64 p0.Number)))) (g0 rfl) rfl rfl rfl ?_
  refine o_s (.t (.d (.lit (.bool (decide (p0.Number ≥ 1)))))) (g0 rfl) rfl rfl rfl ?_
  refine o_s (.t (.d (.lit (.bool (decide (p0.Number ≥ 1)))))) (g0 rfl) rfl rfl rfl ?_
  rcases bif_some h with ⟨h1, h⟩ | ⟨h1, h⟩
  · refine o_s (.ref 1 0) (gy rfl rfl rfl h1) rfl rfl rfl ?_
    refine o_s (.t (.d (.lit (.int .i64 p0.Number)))) (gy rfl rfl rfl h1) rfl rfl rfl ?_
    refine o_s (.t (.d (.lit (.bool (decide (p0.Number ≤ 1099511627776)))))) (gy rfl rfl rfl h1) rfl rfl rfl ?_
    refine o_pk (.t (.d (.lit (.bool (decide (p0.Number ≤ 1099511627776)))))) (b := true) h1 (g0 rfl) rfl rfl rfl rfl rfl ?_
    refine o_s (.t (.d (.lit (.bool (decide (p0.Number ≤ 1099511627776)))))) (g0 rfl) rfl rfl rfl ?_
    rcases bif_some h with ⟨h2, h⟩ | ⟨h2, h⟩
    · refine o_s (.ref 1 1) (gy rfl rfl rfl h2) rfl rfl rfl ?_
      refine o_s (.t (.d (.lit (.int .i64 p0.Epoch)))) (gy rfl rfl rfl h2) rfl rfl rfl ?_
      refine o_s (.t (.d (.lit (.bool (decide (p0.Epoch ≥ 1)))))) (gy rfl rfl rfl h2) rfl rfl rfl ?_
      refine o_pk (.t (.d (.lit (.bool (decide (p0.Epoch ≥ 1)))))) (b := true) h2 (g0 rfl) rfl rfl rfl rfl rfl ?_
      refine o_s (.t (.d (.lit (.bool (decide (p0.Epoch ≥ 1)))))) (g0 rfl) rfl rfl rfl ?_
      rcases bif_some h with ⟨h3, h⟩ | ⟨h3, h⟩
      · refine o_s (.ref 1 1) (gy rfl rfl rfl h3) rfl rfl rfl ?_
        refine o_s (.t (.d (.lit (.int .i64 p0.Epoch)))) (gy rfl rfl rfl h3) rfl rfl rfl ?_
        refine o_s (.t (.d (.lit (.bool (decide (p0.Epoch ≤ 1099511627776)))))) (gy rfl rfl rfl h3) rfl rfl rfl ?_
        refine o_pk (.t (.d (.lit (.bool (decide (p0.Epoch ≤ 1099511627776)))))) (b := true) h3 (g0 rfl) rfl rfl rfl rfl rfl ?_
        refine o_s (.t (.d (.lit (.bool (decide (p0.Epoch ≤ 1099511627776)))))) (g0 rfl) rfl rfl rfl ?_
        rcases bif_some h with ⟨h4, h⟩ | ⟨h4, h⟩
        · refine o_s (.ref 1 3) (gy rfl rfl rfl h4) rfl rfl rfl ?_
          refine o_s (.t (.d (.lit (.string ⟨⟨p0.By⟩⟩)))) (gy rfl rfl rfl h4) rfl rfl rfl ?_
          obtain ⟨x5, h6, h⟩ := bind_some h
          refine o_ca (fc_tree_Name _ _ h6) (gy rfl rfl rfl h4) rfl rfl rfl rfl rfl rfl rfl (.cons (.refl _) .nil) rfl rfl ?_
          refine o_pk (.t (.d (.lit (.bool x5)))) (b := true) h4 (g0 rfl) rfl rfl rfl rfl rfl ?_
          refine o_s (.t (.d (.lit (.bool x5)))) (g0 rfl) rfl rfl rfl ?_
          refine o_nil ?_
          repeat (first | refine then_normal ?_ | refine then_exit ?_ | refine then_ret ?_ | refine block_normal ?_ | refine block_ret ?_ | refine block_exit ?_ | refine block_pass rfl ?_)
          refine c_ret ?_
          repeat (first | refine then_normal ?_ | refine then_exit ?_ | refine then_ret ?_ | refine block_normal ?_ | refine block_ret ?_ | refine block_exit ?_ | refine block_pass rfl ?_)
          obtain rfl := Option.some.inj h
          exact end0 rfl (.refl _)
        · refine o_skip rfl rfl rfl h4 rfl rfl ?_
          refine o_skip rfl rfl rfl h4 rfl rfl ?_
          refine o_skip rfl rfl rfl h4 rfl rfl ?_
          refine o_pk (.t (.d (.lit (.bool false)))) (b := false) h4 (g0 rfl) rfl rfl rfl rfl rfl ?_
          refine o_s (.t (.d (.lit (.bool false)))) (g0 rfl) rfl rfl rfl ?_
          refine o_nil ?_
          repeat (first | refine then_normal ?_ | refine then_exit ?_ | refine then_ret ?_ | refine block_normal ?_ | refine block_ret ?_ | refine block_exit ?_ | refine block_pass rfl ?_)
          refine c_ret ?_
          repeat (first | refine then_normal ?_ | refine then_exit ?_ | refine then_ret ?_ | refine block_normal ?_ | refine block_ret ?_ | refine block_exit ?_ | refine block_pass rfl ?_)
          obtain rfl := Option.some.inj h
          exact end0 rfl (.refl _)
      · refine o_skip rfl rfl rfl h3 rfl rfl ?_
        refine o_skip rfl rfl rfl h3 rfl rfl ?_
        refine o_skip rfl rfl rfl h3 rfl rfl ?_
        refine o_pk (.t (.d (.lit (.bool false)))) (b := false) h3 (g0 rfl) rfl rfl rfl rfl rfl ?_
        refine o_s (.t (.d (.lit (.bool false)))) (g0 rfl) rfl rfl rfl ?_
        refine o_skip rfl rfl rfl rfl rfl rfl ?_
        refine o_skip rfl rfl rfl rfl rfl rfl ?_
        refine o_skip rfl rfl rfl rfl rfl rfl ?_
        refine o_pk (.t (.d (.lit (.bool false)))) (b := false) rfl (g0 rfl) rfl rfl rfl rfl rfl ?_
        refine o_s (.t (.d (.lit (.bool false)))) (g0 rfl) rfl rfl rfl ?_
        refine o_nil ?_
        repeat (first | refine then_normal ?_ | refine then_exit ?_ | refine then_ret ?_ | refine block_normal ?_ | refine block_ret ?_ | refine block_exit ?_ | refine block_pass rfl ?_)
        refine c_ret ?_
        repeat (first | refine then_normal ?_ | refine then_exit ?_ | refine then_ret ?_ | refine block_normal ?_ | refine block_ret ?_ | refine block_exit ?_ | refine block_pass rfl ?_)
        obtain rfl := Option.some.inj h
        exact end0 rfl (.refl _)
    · refine o_skip rfl rfl rfl h2 rfl rfl ?_
      refine o_skip rfl rfl rfl h2 rfl rfl ?_
      refine o_skip rfl rfl rfl h2 rfl rfl ?_
      refine o_pk (.t (.d (.lit (.bool false)))) (b := false) h2 (g0 rfl) rfl rfl rfl rfl rfl ?_
      refine o_s (.t (.d (.lit (.bool false)))) (g0 rfl) rfl rfl rfl ?_
      refine o_skip rfl rfl rfl rfl rfl rfl ?_
      refine o_skip rfl rfl rfl rfl rfl rfl ?_
      refine o_skip rfl rfl rfl rfl rfl rfl ?_
      refine o_pk (.t (.d (.lit (.bool false)))) (b := false) rfl (g0 rfl) rfl rfl rfl rfl rfl ?_
      refine o_s (.t (.d (.lit (.bool false)))) (g0 rfl) rfl rfl rfl ?_
      refine o_skip rfl rfl rfl rfl rfl rfl ?_
      refine o_skip rfl rfl rfl rfl rfl rfl ?_
      refine o_skip rfl rfl rfl rfl rfl rfl ?_
      refine o_pk (.t (.d (.lit (.bool false)))) (b := false) rfl (g0 rfl) rfl rfl rfl rfl rfl ?_
      refine o_s (.t (.d (.lit (.bool false)))) (g0 rfl) rfl rfl rfl ?_
      refine o_nil ?_
      repeat (first | refine then_normal ?_ | refine then_exit ?_ | refine then_ret ?_ | refine block_normal ?_ | refine block_ret ?_ | refine block_exit ?_ | refine block_pass rfl ?_)
      refine c_ret ?_
      repeat (first | refine then_normal ?_ | refine then_exit ?_ | refine then_ret ?_ | refine block_normal ?_ | refine block_ret ?_ | refine block_exit ?_ | refine block_pass rfl ?_)
      obtain rfl := Option.some.inj h
      exact end0 rfl (.refl _)
  · refine o_skip rfl rfl rfl h1 rfl rfl ?_
    refine o_skip rfl rfl rfl h1 rfl rfl ?_
    refine o_skip rfl rfl rfl h1 rfl rfl ?_
    refine o_pk (.t (.d (.lit (.bool false)))) (b := false) h1 (g0 rfl) rfl rfl rfl rfl rfl ?_
    refine o_s (.t (.d (.lit (.bool false)))) (g0 rfl) rfl rfl rfl ?_
    refine o_skip rfl rfl rfl rfl rfl rfl ?_
    refine o_skip rfl rfl rfl rfl rfl rfl ?_
    refine o_skip rfl rfl rfl rfl rfl rfl ?_
    refine o_pk (.t (.d (.lit (.bool false)))) (b := false) rfl (g0 rfl) rfl rfl rfl rfl rfl ?_
    refine o_s (.t (.d (.lit (.bool false)))) (g0 rfl) rfl rfl rfl ?_
    refine o_skip rfl rfl rfl rfl rfl rfl ?_
    refine o_skip rfl rfl rfl rfl rfl rfl ?_
    refine o_skip rfl rfl rfl rfl rfl rfl ?_
    refine o_pk (.t (.d (.lit (.bool false)))) (b := false) rfl (g0 rfl) rfl rfl rfl rfl rfl ?_
    refine o_s (.t (.d (.lit (.bool false)))) (g0 rfl) rfl rfl rfl ?_
    refine o_skip rfl rfl rfl rfl rfl rfl ?_
    refine o_skip rfl rfl rfl rfl rfl rfl ?_
    refine o_skip rfl rfl rfl rfl rfl rfl ?_
    refine o_pk (.t (.d (.lit (.bool false)))) (b := false) rfl (g0 rfl) rfl rfl rfl rfl rfl ?_
    refine o_s (.t (.d (.lit (.bool false)))) (g0 rfl) rfl rfl rfl ?_
    refine o_nil ?_
    repeat (first | refine then_normal ?_ | refine then_exit ?_ | refine then_ret ?_ | refine block_normal ?_ | refine block_ret ?_ | refine block_exit ?_ | refine block_pass rfl ?_)
    refine c_ret ?_
    repeat (first | refine then_normal ?_ | refine then_exit ?_ | refine then_ret ?_ | refine block_normal ?_ | refine block_ret ?_ | refine block_exit ?_ | refine block_pass rfl ?_)
    obtain rfl := Option.some.inj h
    exact end0 rfl (.refl _)

theorem fc_answer_May (p0 : S_api_Answer) (r : Bool) (h : m_answer_May p0 = some r) : FC Try.prog 22 [.t (.agg [.lit (.int .i64 p0.Err), .lit (.int .i64 p0.Number), .lit (.string ⟨⟨p0.By⟩⟩), .seq 1 (bytesD p0.Data), .seq 1 (List.map cStr p0.Names), .seq 2 (List.map cS_api_Member p0.Members), .seq 4 (List.map cS_api_Past p0.History)])] [] (.t (.d (.lit (.bool r)))) := by
  refine fc_mk (rs := [.tmp 2]) (n := 68) Try.func22 rfl rfl (Nat.le_of_ble_eq_true rfl) rfl (pins := []) rfl (L := [(0, .t (.agg [.lit (.int .i64 p0.Err), .lit (.int .i64 p0.Number), .lit (.string ⟨⟨p0.By⟩⟩), .seq 1 (bytesD p0.Data), .seq 1 (List.map cStr p0.Names), .seq 2 (List.map cS_api_Member p0.Members), .seq 4 (List.map cS_api_Past p0.History)]))]) rfl ?_
  refine c_seq ?_
  refine c_region ?_
  refine o_s (.box [.d (.lit (.int .i64 p0.Err)), .d (.lit (.int .i64 p0.Number)), .d (.lit (.string ⟨⟨p0.By⟩⟩)), .d (.seq 1 (bytesD p0.Data)), .d (.seq 1 (List.map cStr p0.Names)), .d (.seq 2 (List.map cS_api_Member p0.Members)), .d (.seq 4 (List.map cS_api_Past p0.History))]) (g0 rfl) rfl rfl rfl ?_
  refine o_s (.t (.d (.lit (.bool false)))) (g0 rfl) rfl rfl rfl ?_
  refine o_nil ?_
  repeat (first | refine then_normal ?_ | refine then_exit ?_ | refine then_ret ?_ | refine block_normal ?_ | refine block_ret ?_ | refine block_exit ?_ | refine block_pass rfl ?_)
  refine c_seq ?_
  refine c_block ?_
  refine c_cut (fun (y1 : Bool) => [(1, .box [.d (.lit (.int .i64 p0.Err)), .d (.lit (.int .i64 p0.Number)), .d (.lit (.string ⟨⟨p0.By⟩⟩)), .d (.seq 1 (bytesD p0.Data)), .d (.seq 1 (List.map cStr p0.Names)), .d (.seq 2 (List.map cS_api_Member p0.Members)), .d (.seq 4 (List.map cS_api_Past p0.History))]), (5, .t (.d (.lit (.bool y1))))]) (fun (y1 : Bool) => m_answer_May_j1 p0 y1 = some r) ?_ ?_
  · refine c_region ?_
    refine o_s (.ref 1 0) (g0 rfl) rfl rfl rfl ?_
    refine o_s (.t (.d (.lit (.int .i64 p0.Err)))) (g0 rfl) rfl rfl rfl ?_
    refine o_s (.t (.d (.lit (.bool (decide (p0.Err < 0)))))) (g0 rfl) rfl rfl rfl ?_
    refine o_s (.t (.d (.lit (.bool (decide (p0.Err < 0)))))) (g0 rfl) rfl rfl rfl ?_
    rcases bif_some h with ⟨h23, h⟩ | ⟨h23, h⟩
    · refine o_skip rfl rfl rfl h23 rfl rfl ?_
      refine o_skip rfl rfl rfl h23 rfl rfl ?_
      refine o_skip rfl rfl rfl h23 rfl rfl ?_
      refine o_pk (.t (.d (.lit (.bool true)))) (b := true) h23 (g0 rfl) rfl rfl rfl rfl rfl ?_
      refine o_s (.t (.d (.lit (.bool true)))) (g0 rfl) rfl rfl rfl ?_
      refine o_skip rfl rfl rfl rfl rfl rfl ?_
      refine o_skip rfl rfl rfl rfl rfl rfl ?_
      refine o_skip rfl rfl rfl rfl rfl rfl ?_
      refine o_skip rfl rfl rfl rfl rfl rfl ?_
      refine o_un rfl rfl rfl rfl rfl ?_
      refine o_un rfl rfl rfl rfl rfl ?_
      refine o_un rfl rfl rfl rfl rfl ?_
      refine o_skip rfl rfl rfl rfl rfl rfl ?_
      refine o_pk (.t (.d (.lit (.bool true)))) (b := true) rfl (g0 rfl) rfl rfl rfl rfl rfl ?_
      refine o_s (.t (.d (.lit (.bool true)))) (g0 rfl) rfl rfl rfl ?_
      refine o_nil ?_
      repeat (first | refine then_normal ?_ | refine then_exit ?_ | refine then_ret ?_ | refine block_normal ?_ | refine block_ret ?_ | refine block_exit ?_ | refine block_pass rfl ?_)
      exact ⟨true, h, ⟨(.refl _), ⟨(.refl _), trivial⟩⟩, rfl⟩
    · refine o_s (.ref 1 0) (gy rfl rfl rfl h23) rfl rfl rfl ?_
      refine o_s (.t (.d (.lit (.int .i64 p0.Err)))) (gy rfl rfl rfl h23) rfl rfl rfl ?_
      refine o_s (.t (.d (.lit (.bool (decide (p0.Err > 255)))))) (gy rfl rfl rfl h23) rfl rfl rfl ?_
      refine o_pk (.t (.d (.lit (.bool (decide (p0.Err > 255)))))) (b := false) h23 (g0 rfl) rfl rfl rfl rfl rfl ?_
      refine o_s (.t (.d (.lit (.bool (decide (p0.Err > 255)))))) (g0 rfl) rfl rfl rfl ?_
      rcases bif_some h with ⟨h24, h⟩ | ⟨h24, h⟩
      · refine o_skip rfl rfl rfl h24 rfl rfl ?_
        refine o_skip rfl rfl rfl h24 rfl rfl ?_
        refine o_skip rfl rfl rfl h24 rfl rfl ?_
        refine o_skip rfl rfl rfl h24 rfl rfl ?_
        refine o_un rfl rfl rfl rfl rfl ?_
        refine o_un rfl rfl rfl rfl rfl ?_
        refine o_un rfl rfl rfl rfl rfl ?_
        refine o_skip rfl rfl rfl h24 rfl rfl ?_
        refine o_pk (.t (.d (.lit (.bool true)))) (b := true) h24 (g0 rfl) rfl rfl rfl rfl rfl ?_
        refine o_s (.t (.d (.lit (.bool true)))) (g0 rfl) rfl rfl rfl ?_
        refine o_nil ?_
        repeat (first | refine then_normal ?_ | refine then_exit ?_ | refine then_ret ?_ | refine block_normal ?_ | refine block_ret ?_ | refine block_exit ?_ | refine block_pass rfl ?_)
        exact ⟨true, h, ⟨(.refl _), ⟨(.refl _), trivial⟩⟩, rfl⟩
      · refine o_s (.ref 1 0) (gy rfl rfl rfl h24) rfl rfl rfl ?_
        refine o_s (.t (.d (.lit (.int .i64 p0.Err)))) (gy rfl rfl rfl h24) rfl rfl rfl ?_
        refine o_s (.t (.d (.lit (.bool (p0.Err != 0))))) (gy rfl rfl rfl h24) rfl rfl rfl ?_
        refine o_s (.t (.d (.lit (.bool (p0.Err != 0))))) (gy rfl rfl rfl h24) rfl rfl rfl ?_
        rcases bif_some h with ⟨h25, h⟩ | ⟨h25, h⟩
        · refine o_s (.t (.agg [.lit (.int .i64 p0.Err), .lit (.int .i64 p0.Number), .lit (.string ⟨⟨p0.By⟩⟩), .seq 1 (bytesD p0.Data), .seq 1 (List.map cStr p0.Names), .seq 2 (List.map cS_api_Member p0.Members), .seq 4 (List.map cS_api_Past p0.History)])) (gy rfl rfl rfl h25) rfl rfl rfl ?_
          obtain ⟨x26, h27, h⟩ := bind_some h
          refine o_ca (fc_answer_bare _ _ h27) (gy rfl rfl rfl h25) rfl rfl rfl rfl rfl rfl rfl (.cons (.refl _) .nil) rfl rfl ?_
          refine o_s (.t (.d (.lit (.bool (!x26))))) (gy rfl rfl rfl h25) rfl rfl rfl ?_
          refine o_pk (.t (.d (.lit (.bool (!x26))))) (b := true) h25 (gy rfl rfl rfl h24) rfl rfl rfl rfl rfl ?_
          refine o_pk (.t (.d (.lit (.bool (!x26))))) (b := false) h24 (g0 rfl) rfl rfl rfl rfl rfl ?_
          refine o_s (.t (.d (.lit (.bool (!x26))))) (g0 rfl) rfl rfl rfl ?_
          refine o_nil ?_
          repeat (first | refine then_normal ?_ | refine then_exit ?_ | refine then_ret ?_ | refine block_normal ?_ | refine block_ret ?_ | refine block_exit ?_ | refine block_pass rfl ?_)
          exact ⟨(!x26), h, ⟨(.refl _), ⟨(.refl _), trivial⟩⟩, rfl⟩
        · refine o_skip rfl rfl rfl h25 rfl rfl ?_
          refine o_skip rfl rfl rfl h25 rfl rfl ?_
          refine o_skip rfl rfl rfl h25 rfl rfl ?_
          refine o_pk (.t (.d (.lit (.bool false)))) (b := false) h25 (gy rfl rfl rfl h24) rfl rfl rfl rfl rfl ?_
          refine o_pk (.t (.d (.lit (.bool false)))) (b := false) h24 (g0 rfl) rfl rfl rfl rfl rfl ?_
          refine o_s (.t (.d (.lit (.bool false)))) (g0 rfl) rfl rfl rfl ?_
          refine o_nil ?_
          repeat (first | refine then_normal ?_ | refine then_exit ?_ | refine then_ret ?_ | refine block_normal ?_ | refine block_ret ?_ | refine block_exit ?_ | refine block_pass rfl ?_)
          exact ⟨false, h, ⟨(.refl _), ⟨(.refl _), trivial⟩⟩, rfl⟩
  · rintro y1 h
    rcases bif_some h with ⟨h2, h⟩ | ⟨h2, h⟩
    · refine c_t h2 rfl ?_
      refine c_seq ?_
      refine c_region ?_
      refine o_s (.t (.d (.lit (.bool false)))) (g0 rfl) rfl rfl rfl ?_
      refine o_nil ?_
      repeat (first | refine then_normal ?_ | refine then_exit ?_ | refine then_ret ?_ | refine block_normal ?_ | refine block_ret ?_ | refine block_exit ?_ | refine block_pass rfl ?_)
      refine c_ret ?_
      repeat (first | refine then_normal ?_ | refine then_exit ?_ | refine then_ret ?_ | refine block_normal ?_ | refine block_ret ?_ | refine block_exit ?_ | refine block_pass rfl ?_)
      obtain rfl := Option.some.inj h
      exact end0 rfl (.refl _)
    · refine c_f h2 rfl ?_
      refine c_cut (fun (y3 : Bool) => [(1, .box [.d (.lit (.int .i64 p0.Err)), .d (.lit (.int .i64 p0.Number)), .d (.lit (.string ⟨⟨p0.By⟩⟩)), .d (.seq 1 (bytesD p0.Data)), .d (.seq 1 (List.map cStr p0.Names)), .d (.seq 2 (List.map cS_api_Member p0.Members)), .d (.seq 4 (List.map cS_api_Past p0.History))]), (24, .t (.d (.lit (.bool y3))))]) (fun (y3 : Bool) => m_answer_May_j2 p0 y3 = some r) ?_ ?_
      · refine c_region ?_
        refine o_s (.ref 1 1) (g0 rfl) rfl rfl rfl ?_
        refine o_s (.t (.d (.lit (.int .i64 p0.Number)))) (g0 rfl) rfl rfl rfl ?_
        refine o_s (.t (.d (.lit (.bool (decide (p0.Number < 0)))))) (g0 rfl) rfl rfl rfl ?_
        refine o_s (.t (.d (.lit (.bool (decide (p0.Number < 0)))))) (g0 rfl) rfl rfl rfl ?_
        rcases bif_some h with ⟨h18, h⟩ | ⟨h18, h⟩
        · refine o_skip rfl rfl rfl h18 rfl rfl ?_
          refine o_skip rfl rfl rfl h18 rfl rfl ?_
          refine o_skip rfl rfl rfl h18 rfl rfl ?_
          refine o_pk (.t (.d (.lit (.bool true)))) (b := true) h18 (g0 rfl) rfl rfl rfl rfl rfl ?_
          refine o_s (.t (.d (.lit (.bool true)))) (g0 rfl) rfl rfl rfl ?_
          refine o_skip rfl rfl rfl rfl rfl rfl ?_
          refine o_skip rfl rfl rfl rfl rfl rfl ?_
          refine o_skip rfl rfl rfl rfl rfl rfl ?_
          refine o_skip rfl rfl rfl rfl rfl rfl ?_
          refine o_un rfl rfl rfl rfl rfl ?_
          refine o_un rfl rfl rfl rfl rfl ?_
          refine o_un rfl rfl rfl rfl rfl ?_
          refine o_un rfl rfl rfl rfl rfl ?_
          refine o_skip rfl rfl rfl rfl rfl rfl ?_
          refine o_pk (.t (.d (.lit (.bool true)))) (b := true) rfl (g0 rfl) rfl rfl rfl rfl rfl ?_
          refine o_s (.t (.d (.lit (.bool true)))) (g0 rfl) rfl rfl rfl ?_
          refine o_nil ?_
          repeat (first | refine then_normal ?_ | refine then_exit ?_ | refine then_ret ?_ | refine block_normal ?_ | refine block_ret ?_ | refine block_exit ?_ | refine block_pass rfl ?_)
          exact ⟨true, h, ⟨(.refl _), ⟨(.refl _), trivial⟩⟩, rfl⟩
        · refine o_s (.ref 1 1) (gy rfl rfl rfl h18) rfl rfl rfl ?_
          refine o_s (.t (.d (.lit (.int .i64 p0.Number)))) (gy rfl rfl rfl h18) rfl rfl rfl ?_
          refine o_s (.t (.d (.lit (.bool (decide (p0.Number > 1099511627776)))))) (gy rfl rfl rfl h18) rfl rfl rfl ?_
          refine o_pk (.t (.d (.lit (.bool (decide (p0.Number > 1099511627776)))))) (b := false) h18 (g0 rfl) rfl rfl rfl rfl rfl ?_
          refine o_s (.t (.d (.lit (.bool (decide (p0.Number > 1099511627776)))))) (g0 rfl) rfl rfl rfl ?_
          rcases bif_some h with ⟨h19, h⟩ | ⟨h19, h⟩
          · refine o_skip rfl rfl rfl h19 rfl rfl ?_
            refine o_skip rfl rfl rfl h19 rfl rfl ?_
            refine o_skip rfl rfl rfl h19 rfl rfl ?_
            refine o_skip rfl rfl rfl h19 rfl rfl ?_
            refine o_un rfl rfl rfl rfl rfl ?_
            refine o_un rfl rfl rfl rfl rfl ?_
            refine o_un rfl rfl rfl rfl rfl ?_
            refine o_un rfl rfl rfl rfl rfl ?_
            refine o_skip rfl rfl rfl h19 rfl rfl ?_
            refine o_pk (.t (.d (.lit (.bool true)))) (b := true) h19 (g0 rfl) rfl rfl rfl rfl rfl ?_
            refine o_s (.t (.d (.lit (.bool true)))) (g0 rfl) rfl rfl rfl ?_
            refine o_nil ?_
            repeat (first | refine then_normal ?_ | refine then_exit ?_ | refine then_ret ?_ | refine block_normal ?_ | refine block_ret ?_ | refine block_exit ?_ | refine block_pass rfl ?_)
            exact ⟨true, h, ⟨(.refl _), ⟨(.refl _), trivial⟩⟩, rfl⟩
          · refine o_s (.ref 1 2) (gy rfl rfl rfl h19) rfl rfl rfl ?_
            refine o_s (.t (.d (.lit (.string ⟨⟨p0.By⟩⟩)))) (gy rfl rfl rfl h19) rfl rfl rfl ?_
            refine o_c (gy rfl rfl rfl h19) rfl rfl rfl (congrArg (fun z => A.t (.d (.lit (.bool (!z))))) (str_beqL _ _)) trivial ?_
            refine o_s (.t (.d (.lit (.bool (!(p0.By == [])))))) (gy rfl rfl rfl h19) rfl rfl rfl ?_
            rcases bif_some h with ⟨h20, h⟩ | ⟨h20, h⟩
            · refine o_s (.ref 1 2) (gy rfl rfl rfl h20) rfl rfl rfl ?_
              refine o_s (.t (.d (.lit (.string ⟨⟨p0.By⟩⟩)))) (gy rfl rfl rfl h20) rfl rfl rfl ?_
              obtain ⟨x21, h22, h⟩ := bind_some h
              refine o_ca (fc_tree_Name _ _ h22) (gy rfl rfl rfl h20) rfl rfl rfl rfl rfl rfl rfl (.cons (.refl _) .nil) rfl rfl ?_
              refine o_s (.t (.d (.lit (.bool (!x21))))) (gy rfl rfl rfl h20) rfl rfl rfl ?_
              refine o_pk (.t (.d (.lit (.bool (!x21))))) (b := true) h20 (gy rfl rfl rfl h19) rfl rfl rfl rfl rfl ?_
              refine o_pk (.t (.d (.lit (.bool (!x21))))) (b := false) h19 (g0 rfl) rfl rfl rfl rfl rfl ?_
              refine o_s (.t (.d (.lit (.bool (!x21))))) (g0 rfl) rfl rfl rfl ?_
              refine o_nil ?_
              repeat (first | refine then_normal ?_ | refine then_exit ?_ | refine then_ret ?_ | refine block_normal ?_ | refine block_ret ?_ | refine block_exit ?_ | refine block_pass rfl ?_)
              exact ⟨(!x21), h, ⟨(.refl _), ⟨(.refl _), trivial⟩⟩, rfl⟩
            · refine o_skip rfl rfl rfl h20 rfl rfl ?_
              refine o_skip rfl rfl rfl h20 rfl rfl ?_
              refine o_skip rfl rfl rfl h20 rfl rfl ?_
              refine o_skip rfl rfl rfl h20 rfl rfl ?_
              refine o_pk (.t (.d (.lit (.bool false)))) (b := false) h20 (gy rfl rfl rfl h19) rfl rfl rfl rfl rfl ?_
              refine o_pk (.t (.d (.lit (.bool false)))) (b := false) h19 (g0 rfl) rfl rfl rfl rfl rfl ?_
              refine o_s (.t (.d (.lit (.bool false)))) (g0 rfl) rfl rfl rfl ?_
              refine o_nil ?_
              repeat (first | refine then_normal ?_ | refine then_exit ?_ | refine then_ret ?_ | refine block_normal ?_ | refine block_ret ?_ | refine block_exit ?_ | refine block_pass rfl ?_)
              exact ⟨false, h, ⟨(.refl _), ⟨(.refl _), trivial⟩⟩, rfl⟩
      · rintro y3 h
        rcases bif_some h with ⟨h4, h⟩ | ⟨h4, h⟩
        · refine c_t h4 rfl ?_
          refine c_seq ?_
          refine c_region ?_
          refine o_s (.t (.d (.lit (.bool false)))) (g0 rfl) rfl rfl rfl ?_
          refine o_nil ?_
          repeat (first | refine then_normal ?_ | refine then_exit ?_ | refine then_ret ?_ | refine block_normal ?_ | refine block_ret ?_ | refine block_exit ?_ | refine block_pass rfl ?_)
          refine c_ret ?_
          repeat (first | refine then_normal ?_ | refine then_exit ?_ | refine then_ret ?_ | refine block_normal ?_ | refine block_ret ?_ | refine block_exit ?_ | refine block_pass rfl ?_)
          obtain rfl := Option.some.inj h
          exact end0 rfl (.refl _)
        · refine c_f h4 rfl ?_
          refine c_seq ?_
          refine c_region ?_
          refine o_s (.ref 1 4) (g0 rfl) rfl rfl rfl ?_
          refine o_s (.t (.d (.seq 1 (List.map cStr p0.Names)))) (g0 rfl) rfl rfl rfl ?_
          obtain ⟨x5, h6, h⟩ := bind_some h
          refine o_ca (fc_answer_all_string _ 46 [] _ fc_tree_Name ⟨_, Try.func46, rfl, rfl⟩ _ h6) (g0 rfl) rfl rfl rfl rfl rfl rfl rfl (.cons (.refl _) (.cons (.t (.d (.fn _))) .nil)) rfl rfl ?_
          refine o_s (.t (.d (.lit (.bool (!x5))))) (g0 rfl) rfl rfl rfl ?_
          refine o_s (.t (.d (.lit (.bool (!x5))))) (g0 rfl) rfl rfl rfl ?_
          rcases bif_some h with ⟨h7, h⟩ | ⟨h7, h⟩
          · refine o_skip rfl rfl rfl h7 rfl rfl ?_
            refine o_skip rfl rfl rfl h7 rfl rfl ?_
            refine o_skip rfl rfl rfl h7 rfl rfl ?_
            refine o_skip rfl rfl rfl h7 rfl rfl ?_
            refine o_pk (.t (.d (.lit (.bool true)))) (b := true) h7 (g0 rfl) rfl rfl rfl rfl rfl ?_
            refine o_s (.t (.d (.lit (.bool true)))) (g0 rfl) rfl rfl rfl ?_
            refine o_skip rfl rfl rfl rfl rfl rfl ?_
            refine o_skip rfl rfl rfl rfl rfl rfl ?_
            refine o_skip rfl rfl rfl rfl rfl rfl ?_
            refine o_skip rfl rfl rfl rfl rfl rfl ?_
            refine o_pk (.t (.d (.lit (.bool true)))) (b := true) rfl (g0 rfl) rfl rfl rfl rfl rfl ?_
            refine o_s (.t (.d (.lit (.bool true)))) (g0 rfl) rfl rfl rfl ?_
            refine o_nil ?_
            repeat (first | refine then_normal ?_ | refine then_exit ?_ | refine then_ret ?_ | refine block_normal ?_ | refine block_ret ?_ | refine block_exit ?_ | refine block_pass rfl ?_)
            refine c_t rfl rfl ?_
            refine c_seq ?_
            refine c_region ?_
            refine o_s (.t (.d (.lit (.bool false)))) (g0 rfl) rfl rfl rfl ?_
            refine o_nil ?_
            repeat (first | refine then_normal ?_ | refine then_exit ?_ | refine then_ret ?_ | refine block_normal ?_ | refine block_ret ?_ | refine block_exit ?_ | refine block_pass rfl ?_)
            refine c_ret ?_
            repeat (first | refine then_normal ?_ | refine then_exit ?_ | refine then_ret ?_ | refine block_normal ?_ | refine block_ret ?_ | refine block_exit ?_ | refine block_pass rfl ?_)
            obtain rfl := Option.some.inj h
            exact end0 rfl (.refl _)
          · refine o_s (.ref 1 5) (gy rfl rfl rfl h7) rfl rfl rfl ?_
            refine o_s (.t (.d (.seq 2 (List.map cS_api_Member p0.Members)))) (gy rfl rfl rfl h7) rfl rfl rfl ?_
            obtain ⟨x8, h9, h⟩ := bind_some h
            refine o_ca (fc_answer_all_Member _ 49 [] _ fc_answer_member ⟨_, Try.func49, rfl, rfl⟩ _ h9) (gy rfl rfl rfl h7) rfl rfl rfl rfl rfl rfl rfl (.cons (.refl _) (.cons (.t (.d (.fn _))) .nil)) rfl rfl ?_
            refine o_s (.t (.d (.lit (.bool (!x8))))) (gy rfl rfl rfl h7) rfl rfl rfl ?_
            refine o_pk (.t (.d (.lit (.bool (!x8))))) (b := false) h7 (g0 rfl) rfl rfl rfl rfl rfl ?_
            refine o_s (.t (.d (.lit (.bool (!x8))))) (g0 rfl) rfl rfl rfl ?_
            rcases bif_some h with ⟨h10, h⟩ | ⟨h10, h⟩
            · refine o_skip rfl rfl rfl h10 rfl rfl ?_
              refine o_skip rfl rfl rfl h10 rfl rfl ?_
              refine o_skip rfl rfl rfl h10 rfl rfl ?_
              refine o_skip rfl rfl rfl h10 rfl rfl ?_
              refine o_pk (.t (.d (.lit (.bool true)))) (b := true) h10 (g0 rfl) rfl rfl rfl rfl rfl ?_
              refine o_s (.t (.d (.lit (.bool true)))) (g0 rfl) rfl rfl rfl ?_
              refine o_nil ?_
              repeat (first | refine then_normal ?_ | refine then_exit ?_ | refine then_ret ?_ | refine block_normal ?_ | refine block_ret ?_ | refine block_exit ?_ | refine block_pass rfl ?_)
              refine c_t rfl rfl ?_
              refine c_seq ?_
              refine c_region ?_
              refine o_s (.t (.d (.lit (.bool false)))) (g0 rfl) rfl rfl rfl ?_
              refine o_nil ?_
              repeat (first | refine then_normal ?_ | refine then_exit ?_ | refine then_ret ?_ | refine block_normal ?_ | refine block_ret ?_ | refine block_exit ?_ | refine block_pass rfl ?_)
              refine c_ret ?_
              repeat (first | refine then_normal ?_ | refine then_exit ?_ | refine then_ret ?_ | refine block_normal ?_ | refine block_ret ?_ | refine block_exit ?_ | refine block_pass rfl ?_)
              obtain rfl := Option.some.inj h
              exact end0 rfl (.refl _)
            · refine o_s (.ref 1 6) (gy rfl rfl rfl h10) rfl rfl rfl ?_
              refine o_s (.t (.d (.seq 4 (List.map cS_api_Past p0.History)))) (gy rfl rfl rfl h10) rfl rfl rfl ?_
              obtain ⟨x11, h12, h⟩ := bind_some h
              refine o_ca (fc_answer_all_Past _ 51 [] _ fc_answer_past ⟨_, Try.func51, rfl, rfl⟩ _ h12) (gy rfl rfl rfl h10) rfl rfl rfl rfl rfl rfl rfl (.cons (.refl _) (.cons (.t (.d (.fn _))) .nil)) rfl rfl ?_
              refine o_s (.t (.d (.lit (.bool (!x11))))) (gy rfl rfl rfl h10) rfl rfl rfl ?_
              refine o_pk (.t (.d (.lit (.bool (!x11))))) (b := false) h10 (g0 rfl) rfl rfl rfl rfl rfl ?_
              refine o_s (.t (.d (.lit (.bool (!x11))))) (g0 rfl) rfl rfl rfl ?_
              refine o_nil ?_
              repeat (first | refine then_normal ?_ | refine then_exit ?_ | refine then_ret ?_ | refine block_normal ?_ | refine block_ret ?_ | refine block_exit ?_ | refine block_pass rfl ?_)
              rcases bif_some h with ⟨h13, h⟩ | ⟨h13, h⟩
              · refine c_t h13 rfl ?_
                refine c_seq ?_
                refine c_region ?_
                refine o_s (.t (.d (.lit (.bool false)))) (g0 rfl) rfl rfl rfl ?_
                refine o_nil ?_
                repeat (first | refine then_normal ?_ | refine then_exit ?_ | refine then_ret ?_ | refine block_normal ?_ | refine block_ret ?_ | refine block_exit ?_ | refine block_pass rfl ?_)
                refine c_ret ?_
                repeat (first | refine then_normal ?_ | refine then_exit ?_ | refine then_ret ?_ | refine block_normal ?_ | refine block_ret ?_ | refine block_exit ?_ | refine block_pass rfl ?_)
                obtain rfl := Option.some.inj h
                exact end0 rfl (.refl _)
              · refine c_f h13 rfl ?_
                refine c_skip ?_
                repeat (first | refine then_normal ?_ | refine then_exit ?_ | refine then_ret ?_ | refine block_normal ?_ | refine block_ret ?_ | refine block_exit ?_ | refine block_pass rfl ?_)
                refine c_seq ?_
                refine c_region ?_
                refine o_s (.t (.agg [.lit (.int .i64 p0.Err), .lit (.int .i64 p0.Number), .lit (.string ⟨⟨p0.By⟩⟩), .seq 1 (bytesD p0.Data), .seq 1 (List.map cStr p0.Names), .seq 2 (List.map cS_api_Member p0.Members), .seq 4 (List.map cS_api_Past p0.History)])) (g0 rfl) rfl rfl rfl ?_
                obtain ⟨x14, h15, h⟩ := bind_some h
                refine o_ca (fc_answer_value _ _ h15) (g0 rfl) rfl rfl rfl rfl rfl rfl rfl (.cons (.refl _) .nil) rfl rfl ?_
                obtain ⟨x16, h17, h⟩ := bind_some h
                refine o_ca (fc_codec_Size _ _ h17) (g0 rfl) rfl rfl rfl rfl rfl rfl rfl (.cons (.t (.agg (.cons (.refl _) (.cons (.refl _) (.cons (.nil _) (.cons (.refl _) .nil)))))) .nil) rfl rfl ?_
                refine o_s (.tup [.d (.lit (.int .i64 x16.1)), .d (.lit (.bool x16.2))]) (g0 rfl) rfl rfl rfl ?_
                refine o_s (.t (.d (.lit (.int .i64 x16.1)))) (g0 rfl) rfl rfl rfl ?_
                refine o_s (.t (.d (.lit (.bool x16.2)))) (g0 rfl) rfl rfl rfl ?_
                refine o_s (.t (.d (.lit (.int .i64 x16.1)))) (g0 rfl) rfl rfl rfl ?_
                refine o_s (.t (.d (.lit (.bool x16.2)))) (g0 rfl) rfl rfl rfl ?_
                refine o_nil ?_
                repeat (first | refine then_normal ?_ | refine then_exit ?_ | refine then_ret ?_ | refine block_normal ?_ | refine block_ret ?_ | refine block_exit ?_ | refine block_pass rfl ?_)
                refine c_seq ?_
                refine c_region ?_
                refine o_s (.t (.d (.lit (.bool x16.2)))) (g0 rfl) rfl rfl rfl ?_
                refine o_s (.t (.d (.lit (.bool x16.2)))) (g0 rfl) rfl rfl rfl ?_
                refine o_nil ?_
                repeat (first | refine then_normal ?_ | refine then_exit ?_ | refine then_ret ?_ | refine block_normal ?_ | refine block_ret ?_ | refine block_exit ?_ | refine block_pass rfl ?_)
                refine c_ret ?_
                repeat (first | refine then_normal ?_ | refine then_exit ?_ | refine then_ret ?_ | refine block_normal ?_ | refine block_ret ?_ | refine block_exit ?_ | refine block_pass rfl ?_)
                obtain rfl := Option.some.inj h
                exact end0 rfl (.refl _)

theorem fc_answer_Write (p0 : S_api_Answer) (r : ((List UInt8) × Int)) (h : m_answer_Write p0 = some r) : FC Try.prog 20 [.t (.agg [.lit (.int .i64 p0.Err), .lit (.int .i64 p0.Number), .lit (.string ⟨⟨p0.By⟩⟩), .seq 1 (bytesD p0.Data), .seq 1 (List.map cStr p0.Names), .seq 2 (List.map cS_api_Member p0.Members), .seq 4 (List.map cS_api_Past p0.History)])] [] (.tup [.d (.seq 1 (bytesD r.1)), .d (.lit (.int .i64 r.2))]) := by
  refine fc_mk (rs := [.tmp 2, .tmp 3]) (n := 12) Try.func20 rfl rfl (Nat.le_of_ble_eq_true rfl) rfl (pins := []) rfl (L := [(0, .t (.agg [.lit (.int .i64 p0.Err), .lit (.int .i64 p0.Number), .lit (.string ⟨⟨p0.By⟩⟩), .seq 1 (bytesD p0.Data), .seq 1 (List.map cStr p0.Names), .seq 2 (List.map cS_api_Member p0.Members), .seq 4 (List.map cS_api_Past p0.History)]))]) rfl ?_
  refine c_seq ?_
  refine c_region ?_
  refine o_s (.box [.d (.lit (.int .i64 p0.Err)), .d (.lit (.int .i64 p0.Number)), .d (.lit (.string ⟨⟨p0.By⟩⟩)), .d (.seq 1 (bytesD p0.Data)), .d (.seq 1 (List.map cStr p0.Names)), .d (.seq 2 (List.map cS_api_Member p0.Members)), .d (.seq 4 (List.map cS_api_Past p0.History))]) (g0 rfl) rfl rfl rfl ?_
  refine o_s (.t (.d (.lit (.slice none 0 0)))) (g0 rfl) rfl rfl rfl ?_
  refine o_s (.t (.d (.lit (.int .i64 0)))) (g0 rfl) rfl rfl rfl ?_
  refine o_nil ?_
  repeat (first | refine then_normal ?_ | refine then_exit ?_ | refine then_ret ?_ | refine block_normal ?_ | refine block_ret ?_ | refine block_exit ?_ | refine block_pass rfl ?_)
  refine c_seq ?_
  refine c_seq ?_
  refine c_region ?_
  refine o_s (.t (.agg [.lit (.int .i64 p0.Err), .lit (.int .i64 p0.Number), .lit (.string ⟨⟨p0.By⟩⟩), .seq 1 (bytesD p0.Data), .seq 1 (List.map cStr p0.Names), .seq 2 (List.map cS_api_Member p0.Members), .seq 4 (List.map cS_api_Past p0.History)])) (g0 rfl) rfl rfl rfl ?_
  obtain ⟨x1, h2, h⟩ := bind_some h
  refine o_ca (fc_answer_May _ _ h2) (g0 rfl) rfl rfl rfl rfl rfl rfl rfl (.cons (.refl _) .nil) rfl rfl ?_
  refine o_s (.t (.d (.lit (.bool (!x1))))) (g0 rfl) rfl rfl rfl ?_
  refine o_nil ?_
  repeat (first | refine then_normal ?_ | refine then_exit ?_ | refine then_ret ?_ | refine block_normal ?_ | refine block_ret ?_ | refine block_exit ?_ | refine block_pass rfl ?_)
  rcases bif_some h with ⟨h3, h⟩ | ⟨h3, h⟩
  · refine c_t h3 rfl ?_
    refine c_seq ?_
    refine c_region ?_
    refine o_s (.t (.d (.lit (.slice none 0 0)))) (g0 rfl) rfl rfl rfl ?_
    refine o_s (.t (.d (.lit (.int .i64 2)))) (g0 rfl) rfl rfl rfl ?_
    refine o_nil ?_
    repeat (first | refine then_normal ?_ | refine then_exit ?_ | refine then_ret ?_ | refine block_normal ?_ | refine block_ret ?_ | refine block_exit ?_ | refine block_pass rfl ?_)
    refine c_ret ?_
    repeat (first | refine then_normal ?_ | refine then_exit ?_ | refine then_ret ?_ | refine block_normal ?_ | refine block_ret ?_ | refine block_exit ?_ | refine block_pass rfl ?_)
    obtain rfl := Option.some.inj h
    exact end0 rfl (.tup (.cons (.d (.nil _)) (.cons (.refl _) .nil)))
  · refine c_f h3 rfl ?_
    refine c_skip ?_
    repeat (first | refine then_normal ?_ | refine then_exit ?_ | refine then_ret ?_ | refine block_normal ?_ | refine block_ret ?_ | refine block_exit ?_ | refine block_pass rfl ?_)
    refine c_seq ?_
    refine c_region ?_
    refine o_s (.t (.agg [.lit (.int .i64 p0.Err), .lit (.int .i64 p0.Number), .lit (.string ⟨⟨p0.By⟩⟩), .seq 1 (bytesD p0.Data), .seq 1 (List.map cStr p0.Names), .seq 2 (List.map cS_api_Member p0.Members), .seq 4 (List.map cS_api_Past p0.History)])) (g0 rfl) rfl rfl rfl ?_
    obtain ⟨x4, h5, h⟩ := bind_some h
    refine o_ca (fc_answer_value _ _ h5) (g0 rfl) rfl rfl rfl rfl rfl rfl rfl (.cons (.refl _) .nil) rfl rfl ?_
    obtain ⟨x6, h7, h⟩ := bind_some h
    refine o_ca (fc_codec_Encode _ _ h7) (g0 rfl) rfl rfl rfl rfl rfl rfl rfl (.cons (.t (.agg (.cons (.refl _) (.cons (.refl _) (.cons (.nil _) (.cons (.refl _) .nil)))))) .nil) rfl rfl ?_
    refine o_s (.t (.d (.seq 1 (bytesD x6.1)))) (g0 rfl) rfl rfl rfl ?_
    refine o_s (.t (.d (.lit (.int .i64 x6.2)))) (g0 rfl) rfl rfl rfl ?_
    refine o_s (.t (.d (.seq 1 (bytesD x6.1)))) (g0 rfl) rfl rfl rfl ?_
    refine o_s (.t (.d (.lit (.int .i64 x6.2)))) (g0 rfl) rfl rfl rfl ?_
    refine o_nil ?_
    repeat (first | refine then_normal ?_ | refine then_exit ?_ | refine then_ret ?_ | refine block_normal ?_ | refine block_ret ?_ | refine block_exit ?_ | refine block_pass rfl ?_)
    refine c_ret ?_
    repeat (first | refine then_normal ?_ | refine then_exit ?_ | refine then_ret ?_ | refine block_normal ?_ | refine block_ret ?_ | refine block_exit ?_ | refine block_pass rfl ?_)
    obtain rfl := Option.some.inj h
    exact end0 rfl (.tup (.cons (.refl _) (.cons (.refl _) .nil)))

theorem fc_L31_awake (r : Bool) (h : m_L31_awake = some r) : FC Try.prog 18 [] [] (.t (.d (.lit (.bool r)))) := by
  refine fc_mk (rs := [.tmp 0]) (n := 15) Try.func18 rfl rfl (Nat.le_of_ble_eq_true rfl) rfl (pins := []) rfl (L := []) rfl ?_
  refine c_seq ?_
  refine c_region ?_
  refine o_s (.t (.d (.lit (.bool false)))) (g0 rfl) rfl rfl rfl ?_
  refine o_nil ?_
  repeat (first | refine then_normal ?_ | refine then_exit ?_ | refine then_ret ?_ | refine block_normal ?_ | refine block_ret ?_ | refine block_exit ?_ | refine block_pass rfl ?_)
  refine c_seq ?_
  refine c_region ?_
  refine o_s (.t (.agg [.lit (.int .i64 0), .lit (.int .i64 0), .lit (.string ⟨⟨[]⟩⟩), .lit (.slice none 0 0), .lit (.slice none 0 0), .lit (.slice none 0 0), .lit (.slice none 0 0)])) (g0 rfl) rfl rfl rfl ?_
  obtain ⟨x1, h2, h⟩ := bind_some h
  refine o_ca (fc_answer_Write _ _ h2) (g0 rfl) rfl rfl rfl rfl rfl rfl rfl (.cons (.t (.agg (.cons (.refl _) (.cons (.refl _) (.cons (.refl _) (.cons (.nil _) (.cons (.nil _) (.cons (.nil _) (.cons (.nil _) .nil))))))))) .nil) rfl rfl ?_
  refine o_s (.tup [.d (.seq 1 (bytesD x1.1)), .d (.lit (.int .i64 x1.2))]) (g0 rfl) rfl rfl rfl ?_
  refine o_s (.t (.d (.seq 1 (bytesD x1.1)))) (g0 rfl) rfl rfl rfl ?_
  refine o_s (.t (.d (.lit (.int .i64 x1.2)))) (g0 rfl) rfl rfl rfl ?_
  refine o_s (.t (.d (.seq 1 (bytesD x1.1)))) (g0 rfl) rfl rfl rfl ?_
  refine o_s (.t (.d (.lit (.int .i64 x1.2)))) (g0 rfl) rfl rfl rfl ?_
  refine o_nil ?_
  repeat (first | refine then_normal ?_ | refine then_exit ?_ | refine then_ret ?_ | refine block_normal ?_ | refine block_ret ?_ | refine block_exit ?_ | refine block_pass rfl ?_)
  refine c_seq ?_
  refine c_region ?_
  refine o_s (.t (.d (.lit (.int .i64 x1.2)))) (g0 rfl) rfl rfl rfl ?_
  refine o_s (.t (.d (.lit (.bool (x1.2 == 0))))) (g0 rfl) rfl rfl rfl ?_
  refine o_s (.t (.d (.lit (.bool (x1.2 == 0))))) (g0 rfl) rfl rfl rfl ?_
  rcases bif_some h with ⟨h3, h⟩ | ⟨h3, h⟩
  · refine o_s (.t (.d (.seq 1 (bytesD x1.1)))) (gy rfl rfl rfl h3) rfl rfl rfl ?_
    refine o_s (.t (.own 5 1 (bytesD [3, 0, 7, 1, 0, 1, 0, 2, 0, 0, 0, 2, 0, 0, 0, 3, 0, 0, 3, 0, 0, 3, 0, 0]))) (gy rfl rfl rfl h3) rfl rfl rfl ?_
    obtain ⟨x4, h5, h⟩ := bind_some h
    refine o_ca (fc_R01_Same _ _ _ h5) (gy rfl rfl rfl h3) rfl rfl rfl rfl rfl rfl rfl (.cons (.refl _) (.cons (.refl _) .nil)) rfl rfl ?_
    refine o_pk (.t (.d (.lit (.bool x4)))) (b := true) h3 (g0 rfl) rfl rfl rfl rfl rfl ?_
    refine o_s (.t (.d (.lit (.bool x4)))) (g0 rfl) rfl rfl rfl ?_
    refine o_nil ?_
    repeat (first | refine then_normal ?_ | refine then_exit ?_ | refine then_ret ?_ | refine block_normal ?_ | refine block_ret ?_ | refine block_exit ?_ | refine block_pass rfl ?_)
    refine c_ret ?_
    repeat (first | refine then_normal ?_ | refine then_exit ?_ | refine then_ret ?_ | refine block_normal ?_ | refine block_ret ?_ | refine block_exit ?_ | refine block_pass rfl ?_)
    obtain rfl := Option.some.inj h
    exact end0 rfl (.refl _)
  · refine o_skip rfl rfl rfl h3 rfl rfl ?_
    refine o_skip rfl rfl rfl h3 rfl rfl ?_
    refine o_skip rfl rfl rfl h3 rfl rfl ?_
    refine o_pk (.t (.d (.lit (.bool false)))) (b := false) h3 (g0 rfl) rfl rfl rfl rfl rfl ?_
    refine o_s (.t (.d (.lit (.bool false)))) (g0 rfl) rfl rfl rfl ?_
    refine o_nil ?_
    repeat (first | refine then_normal ?_ | refine then_exit ?_ | refine then_ret ?_ | refine block_normal ?_ | refine block_ret ?_ | refine block_exit ?_ | refine block_pass rfl ?_)
    refine c_ret ?_
    repeat (first | refine then_normal ?_ | refine then_exit ?_ | refine then_ret ?_ | refine block_normal ?_ | refine block_ret ?_ | refine block_exit ?_ | refine block_pass rfl ?_)
    obtain rfl := Option.some.inj h
    exact end0 rfl (.refl _)

theorem fc_L31_few (p0 : S_api_Answer) (r : Bool) (h : m_L31_few p0 = some r) : FC Try.prog 19 [.t (.agg [.lit (.int .i64 p0.Err), .lit (.int .i64 p0.Number), .lit (.string ⟨⟨p0.By⟩⟩), .seq 1 (bytesD p0.Data), .seq 1 (List.map cStr p0.Names), .seq 2 (List.map cS_api_Member p0.Members), .seq 4 (List.map cS_api_Past p0.History)])] [] (.t (.d (.lit (.bool r)))) := by
  refine fc_mk (rs := [.tmp 2]) (n := 72) Try.func19 rfl rfl (Nat.le_of_ble_eq_true rfl) rfl (pins := []) rfl (L := [(0, .t (.agg [.lit (.int .i64 p0.Err), .lit (.int .i64 p0.Number), .lit (.string ⟨⟨p0.By⟩⟩), .seq 1 (bytesD p0.Data), .seq 1 (List.map cStr p0.Names), .seq 2 (List.map cS_api_Member p0.Members), .seq 4 (List.map cS_api_Past p0.History)]))]) rfl ?_
  refine c_seq ?_
  refine c_region ?_
  refine o_s (.box [.d (.lit (.int .i64 p0.Err)), .d (.lit (.int .i64 p0.Number)), .d (.lit (.string ⟨⟨p0.By⟩⟩)), .d (.seq 1 (bytesD p0.Data)), .d (.seq 1 (List.map cStr p0.Names)), .d (.seq 2 (List.map cS_api_Member p0.Members)), .d (.seq 4 (List.map cS_api_Past p0.History))]) (g0 rfl) rfl rfl rfl ?_
  refine o_s (.t (.d (.lit (.bool false)))) (g0 rfl) rfl rfl rfl ?_
  refine o_nil ?_
  repeat (first | refine then_normal ?_ | refine then_exit ?_ | refine then_ret ?_ | refine block_normal ?_ | refine block_ret ?_ | refine block_exit ?_ | refine block_pass rfl ?_)
  refine c_cut (fun (_ : Unit) => [(1, .box [.d (.lit (.int .i64 p0.Err)), .d (.lit (.int .i64 p0.Number)), .d (.lit (.string ⟨⟨p0.By⟩⟩)), .d (.seq 1 (bytesD p0.Data)), .d (.seq 1 (List.map cStr p0.Names)), .d (.seq 2 (List.map cS_api_Member p0.Members)), .d (.seq 4 (List.map cS_api_Past p0.History))])]) (fun (_ : Unit) => m_L31_few_j1 p0 = some r) ?_ ?_
  · refine c_seq ?_
    refine c_region ?_
    refine o_s (.ref 1 4) (g0 rfl) rfl rfl rfl ?_
    refine o_s (.t (.d (.seq 1 (List.map cStr p0.Names)))) (g0 rfl) rfl rfl rfl ?_
    refine o_c (g0 rfl) rfl rfl rfl (lenE _ _) trivial ?_
    refine o_s (.t (.d (.lit (.int .i64 0)))) (g0 rfl) rfl rfl rfl ?_
    refine o_nil ?_
    repeat (first | refine then_normal ?_ | refine then_exit ?_ | refine then_ret ?_ | refine block_normal ?_ | refine block_ret ?_ | refine block_exit ?_ | refine block_pass rfl ?_)
    refine c_block ?_
    refine c_fuel (fun (z15 : Int) => [(1, .box [.d (.lit (.int .i64 p0.Err)), .d (.lit (.int .i64 p0.Number)), .d (.lit (.string ⟨⟨p0.By⟩⟩)), .d (.seq 1 (bytesD p0.Data)), .d (.seq 1 (List.map cStr p0.Names)), .d (.seq 2 (List.map cS_api_Member p0.Members)), .d (.seq 4 (List.map cS_api_Past p0.History))]), (10, .t (.d (.seq 1 (List.map cStr p0.Names)))), (11, .t (.d (.lit (.int .i64 (p0.Names.length : Int))))), (12, .t (.d (.lit (.int .i64 z15))))]) (fun nl6 => (fun (z15 : Int) => m_L31_few_l6 p0 nl6 z15 = some r)) (p0.Names.length + 1) 0 h ⟨(.refl _), ⟨(.refl _), ⟨(.refl _), ⟨(.refl _), trivial⟩⟩⟩⟩ rfl ?_
    rintro nl6 z15 h
    cases nl6 with
    | zero => exact none_ne h
    | succ nl6 =>
      refine c_seq ?_
      refine c_region ?_
      refine o_s (.t (.d (.lit (.bool (decide (z15 < (p0.Names.length : Int))))))) (g0 rfl) rfl rfl rfl ?_
      refine o_nil ?_
      repeat (first | refine then_normal ?_ | refine then_exit ?_ | refine then_ret ?_ | refine block_normal ?_ | refine block_ret ?_ | refine block_exit ?_ | refine block_pass rfl ?_)
      refine c_seq ?_
      rcases bif_some h with ⟨h16, h⟩ | ⟨h16, h⟩
      · refine c_t h16 rfl ?_
        refine c_skip ?_
        repeat (first | refine then_normal ?_ | refine then_exit ?_ | refine then_ret ?_ | refine block_normal ?_ | refine block_ret ?_ | refine block_exit ?_ | refine block_pass rfl ?_)
        refine c_seq ?_
        refine c_block ?_
        refine c_seq ?_
        refine c_region ?_
        obtain ⟨x17, h18, h⟩ := bind_some h
        refine o_c (g0 rfl) rfl rfl rfl (idxE h18) (idxC h18) ?_
        refine o_s (.t (.d (.lit (.string ⟨⟨x17⟩⟩)))) (g0 rfl) rfl rfl rfl ?_
        refine o_s (.t (.d (.lit (.string ⟨⟨x17⟩⟩)))) (g0 rfl) rfl rfl rfl ?_
        refine o_nil ?_
        repeat (first | refine then_normal ?_ | refine then_exit ?_ | refine then_ret ?_ | refine block_normal ?_ | refine block_ret ?_ | refine block_exit ?_ | refine block_pass rfl ?_)
        refine c_seq ?_
        refine c_region ?_
        refine o_s (.t (.d (.lit (.string ⟨⟨x17⟩⟩)))) (g0 rfl) rfl rfl rfl ?_
        refine o_s (.t (.d (.lit (.int .i64 (x17.length : Int))))) (g0 rfl) rfl rfl rfl ?_
        refine o_s (.t (.d (.lit (.bool (decide ((x17.length : Int) > 20)))))) (g0 rfl) rfl rfl rfl ?_
        refine o_nil ?_
        repeat (first | refine then_normal ?_ | refine then_exit ?_ | refine then_ret ?_ | refine block_normal ?_ | refine block_ret ?_ | refine block_exit ?_ | refine block_pass rfl ?_)
        rcases bif_some h with ⟨h19, h⟩ | ⟨h19, h⟩
        · refine c_t h19 rfl ?_
          refine c_seq ?_
          refine c_region ?_
          refine o_s (.t (.d (.lit (.bool false)))) (g0 rfl) rfl rfl rfl ?_
          refine o_nil ?_
          repeat (first | refine then_normal ?_ | refine then_exit ?_ | refine then_ret ?_ | refine block_normal ?_ | refine block_ret ?_ | refine block_exit ?_ | refine block_pass rfl ?_)
          refine c_ret ?_
          repeat (first | refine then_normal ?_ | refine then_exit ?_ | refine then_ret ?_ | refine block_normal ?_ | refine block_ret ?_ | refine block_exit ?_ | refine block_pass rfl ?_)
          obtain rfl := Option.some.inj h
          exact end0 rfl (.refl _)
        · refine c_f h19 rfl ?_
          refine c_skip ?_
          repeat (first | refine then_normal ?_ | refine then_exit ?_ | refine then_ret ?_ | refine block_normal ?_ | refine block_ret ?_ | refine block_exit ?_ | refine block_pass rfl ?_)
          refine c_region ?_
          refine o_s (.t (.d (.lit (.int .i64 (wi (z15 + 1)))))) (g0 rfl) rfl rfl rfl ?_
          refine o_s (.t (.d (.lit (.int .i64 (wi (z15 + 1)))))) (g0 rfl) rfl rfl rfl ?_
          refine o_nil ?_
          repeat (first | refine then_normal ?_ | refine then_exit ?_ | refine then_ret ?_ | refine block_normal ?_ | refine block_ret ?_ | refine block_exit ?_ | refine block_pass rfl ?_)
          exact ⟨nl6, (wi (z15 + 1)), Nat.lt_succ_self nl6, h, ⟨(.refl _), ⟨(.refl _), ⟨(.refl _), ⟨(.refl _), trivial⟩⟩⟩⟩, rfl⟩
      · refine c_f h16 rfl ?_
        refine c_exit ?_
        repeat (first | refine then_normal ?_ | refine then_exit ?_ | refine then_ret ?_ | refine block_normal ?_ | refine block_ret ?_ | refine block_exit ?_ | refine block_pass rfl ?_)
        exact ⟨(), h, ⟨(.refl _), trivial⟩, rfl⟩
  · rintro ⟨⟩ h
    refine c_cut (fun (_ : Unit) => [(1, .box [.d (.lit (.int .i64 p0.Err)), .d (.lit (.int .i64 p0.Number)), .d (.lit (.string ⟨⟨p0.By⟩⟩)), .d (.seq 1 (bytesD p0.Data)), .d (.seq 1 (List.map cStr p0.Names)), .d (.seq 2 (List.map cS_api_Member p0.Members)), .d (.seq 4 (List.map cS_api_Past p0.History))])]) (fun (_ : Unit) => m_L31_few_j2 p0 = some r) ?_ ?_
    · refine c_seq ?_
      refine c_region ?_
      refine o_s (.ref 1 5) (g0 rfl) rfl rfl rfl ?_
      refine o_s (.t (.d (.seq 2 (List.map cS_api_Member p0.Members)))) (g0 rfl) rfl rfl rfl ?_
      refine o_c (g0 rfl) rfl rfl rfl (lenE _ _) trivial ?_
      refine o_s (.t (.d (.lit (.int .i64 0)))) (g0 rfl) rfl rfl rfl ?_
      refine o_nil ?_
      repeat (first | refine then_normal ?_ | refine then_exit ?_ | refine then_ret ?_ | refine block_normal ?_ | refine block_ret ?_ | refine block_exit ?_ | refine block_pass rfl ?_)
      refine c_block ?_
      refine c_fuel (fun (z10 : Int) => [(1, .box [.d (.lit (.int .i64 p0.Err)), .d (.lit (.int .i64 p0.Number)), .d (.lit (.string ⟨⟨p0.By⟩⟩)), .d (.seq 1 (bytesD p0.Data)), .d (.seq 1 (List.map cStr p0.Names)), .d (.seq 2 (List.map cS_api_Member p0.Members)), .d (.seq 4 (List.map cS_api_Past p0.History))]), (21, .t (.d (.seq 2 (List.map cS_api_Member p0.Members)))), (22, .t (.d (.lit (.int .i64 (p0.Members.length : Int))))), (23, .t (.d (.lit (.int .i64 z10))))]) (fun nl5 => (fun (z10 : Int) => m_L31_few_l5 p0 nl5 z10 = some r)) (p0.Members.length + 1) 0 h ⟨(.refl _), ⟨(.refl _), ⟨(.refl _), ⟨(.refl _), trivial⟩⟩⟩⟩ rfl ?_
      rintro nl5 z10 h
      cases nl5 with
      | zero => exact none_ne h
      | succ nl5 =>
        refine c_seq ?_
        refine c_region ?_
        refine o_s (.t (.d (.lit (.bool (decide (z10 < (p0.Members.length : Int))))))) (g0 rfl) rfl rfl rfl ?_
        refine o_nil ?_
        repeat (first | refine then_normal ?_ | refine then_exit ?_ | refine then_ret ?_ | refine block_normal ?_ | refine block_ret ?_ | refine block_exit ?_ | refine block_pass rfl ?_)
        refine c_seq ?_
        rcases bif_some h with ⟨h11, h⟩ | ⟨h11, h⟩
        · refine c_t h11 rfl ?_
          refine c_skip ?_
          repeat (first | refine then_normal ?_ | refine then_exit ?_ | refine then_ret ?_ | refine block_normal ?_ | refine block_ret ?_ | refine block_exit ?_ | refine block_pass rfl ?_)
          refine c_seq ?_
          refine c_block ?_
          refine c_seq ?_
          refine c_region ?_
          obtain ⟨x12, h13, h⟩ := bind_some h
          refine o_c (g0 rfl) rfl rfl rfl (idxE h13) (idxC h13) ?_
          refine o_s (.t (.agg [.lit (.string ⟨⟨x12.Name⟩⟩), .lit (.int .i64 x12.Role)])) (g0 rfl) rfl rfl rfl ?_
          refine o_s (.box [.d (.lit (.string ⟨⟨[]⟩⟩)), .d (.lit (.int .i64 0))]) (g0 rfl) rfl rfl rfl ?_
          refine o_st (.box [.d (.lit (.string ⟨⟨x12.Name⟩⟩)), .d (.lit (.int .i64 x12.Role))]) (g0 rfl) rfl rfl rfl ?_
          refine o_nil ?_
          repeat (first | refine then_normal ?_ | refine then_exit ?_ | refine then_ret ?_ | refine block_normal ?_ | refine block_ret ?_ | refine block_exit ?_ | refine block_pass rfl ?_)
          refine c_seq ?_
          refine c_region ?_
          refine o_s (.ref 6 0) (g0 rfl) rfl rfl rfl ?_
          refine o_s (.t (.d (.lit (.string ⟨⟨x12.Name⟩⟩)))) (g0 rfl) rfl rfl rfl ?_
          refine o_s (.t (.d (.lit (.int .i64 (x12.Name.length : Int))))) (g0 rfl) rfl rfl rfl ?_
          refine o_s (.t (.d (.lit (.bool (decide ((x12.Name.length : Int) > 20)))))) (g0 rfl) rfl rfl rfl ?_
          refine o_nil ?_
          repeat (first | refine then_normal ?_ | refine then_exit ?_ | refine then_ret ?_ | refine block_normal ?_ | refine block_ret ?_ | refine block_exit ?_ | refine block_pass rfl ?_)
          rcases bif_some h with ⟨h14, h⟩ | ⟨h14, h⟩
          · refine c_t h14 rfl ?_
            refine c_seq ?_
            refine c_region ?_
            refine o_s (.t (.d (.lit (.bool false)))) (g0 rfl) rfl rfl rfl ?_
            refine o_nil ?_
            repeat (first | refine then_normal ?_ | refine then_exit ?_ | refine then_ret ?_ | refine block_normal ?_ | refine block_ret ?_ | refine block_exit ?_ | refine block_pass rfl ?_)
            refine c_ret ?_
            repeat (first | refine then_normal ?_ | refine then_exit ?_ | refine then_ret ?_ | refine block_normal ?_ | refine block_ret ?_ | refine block_exit ?_ | refine block_pass rfl ?_)
            obtain rfl := Option.some.inj h
            exact end0 rfl (.refl _)
          · refine c_f h14 rfl ?_
            refine c_skip ?_
            repeat (first | refine then_normal ?_ | refine then_exit ?_ | refine then_ret ?_ | refine block_normal ?_ | refine block_ret ?_ | refine block_exit ?_ | refine block_pass rfl ?_)
            refine c_region ?_
            refine o_s (.t (.d (.lit (.int .i64 (wi (z10 + 1)))))) (g0 rfl) rfl rfl rfl ?_
            refine o_s (.t (.d (.lit (.int .i64 (wi (z10 + 1)))))) (g0 rfl) rfl rfl rfl ?_
            refine o_nil ?_
            repeat (first | refine then_normal ?_ | refine then_exit ?_ | refine then_ret ?_ | refine block_normal ?_ | refine block_ret ?_ | refine block_exit ?_ | refine block_pass rfl ?_)
            exact ⟨nl5, (wi (z10 + 1)), Nat.lt_succ_self nl5, h, ⟨(.refl _), ⟨(.refl _), ⟨(.refl _), ⟨(.refl _), trivial⟩⟩⟩⟩, rfl⟩
        · refine c_f h11 rfl ?_
          refine c_exit ?_
          repeat (first | refine then_normal ?_ | refine then_exit ?_ | refine then_ret ?_ | refine block_normal ?_ | refine block_ret ?_ | refine block_exit ?_ | refine block_pass rfl ?_)
          exact ⟨(), h, ⟨(.refl _), trivial⟩, rfl⟩
    · rintro ⟨⟩ h
      refine c_cut (fun (_ : Unit) => [(1, .box [.d (.lit (.int .i64 p0.Err)), .d (.lit (.int .i64 p0.Number)), .d (.lit (.string ⟨⟨p0.By⟩⟩)), .d (.seq 1 (bytesD p0.Data)), .d (.seq 1 (List.map cStr p0.Names)), .d (.seq 2 (List.map cS_api_Member p0.Members)), .d (.seq 4 (List.map cS_api_Past p0.History))])]) (fun (_ : Unit) => m_L31_few_j3 p0 = some r) ?_ ?_
      · refine c_seq ?_
        refine c_region ?_
        refine o_s (.ref 1 6) (g0 rfl) rfl rfl rfl ?_
        refine o_s (.t (.d (.seq 4 (List.map cS_api_Past p0.History)))) (g0 rfl) rfl rfl rfl ?_
        refine o_c (g0 rfl) rfl rfl rfl (lenE _ _) trivial ?_
        refine o_s (.t (.d (.lit (.int .i64 0)))) (g0 rfl) rfl rfl rfl ?_
        refine o_nil ?_
        repeat (first | refine then_normal ?_ | refine then_exit ?_ | refine then_ret ?_ | refine block_normal ?_ | refine block_ret ?_ | refine block_exit ?_ | refine block_pass rfl ?_)
        refine c_block ?_
        refine c_fuel (fun (z5 : Int) => [(1, .box [.d (.lit (.int .i64 p0.Err)), .d (.lit (.int .i64 p0.Number)), .d (.lit (.string ⟨⟨p0.By⟩⟩)), .d (.seq 1 (bytesD p0.Data)), .d (.seq 1 (List.map cStr p0.Names)), .d (.seq 2 (List.map cS_api_Member p0.Members)), .d (.seq 4 (List.map cS_api_Past p0.History))]), (33, .t (.d (.seq 4 (List.map cS_api_Past p0.History)))), (34, .t (.d (.lit (.int .i64 (p0.History.length : Int))))), (35, .t (.d (.lit (.int .i64 z5))))]) (fun nl4 => (fun (z5 : Int) => m_L31_few_l4 p0 nl4 z5 = some r)) (p0.History.length + 1) 0 h ⟨(.refl _), ⟨(.refl _), ⟨(.refl _), ⟨(.refl _), trivial⟩⟩⟩⟩ rfl ?_
        rintro nl4 z5 h
        cases nl4 with
        | zero => exact none_ne h
        | succ nl4 =>
          refine c_seq ?_
          refine c_region ?_
          refine o_s (.t (.d (.lit (.bool (decide (z5 < (p0.History.length : Int))))))) (g0 rfl) rfl rfl rfl ?_
          refine o_nil ?_
          repeat (first | refine then_normal ?_ | refine then_exit ?_ | refine then_ret ?_ | refine block_normal ?_ | refine block_ret ?_ | refine block_exit ?_ | refine block_pass rfl ?_)
          refine c_seq ?_
          rcases bif_some h with ⟨h6, h⟩ | ⟨h6, h⟩
          · refine c_t h6 rfl ?_
            refine c_skip ?_
            repeat (first | refine then_normal ?_ | refine then_exit ?_ | refine then_ret ?_ | refine block_normal ?_ | refine block_ret ?_ | refine block_exit ?_ | refine block_pass rfl ?_)
            refine c_seq ?_
            refine c_block ?_
            refine c_seq ?_
            refine c_region ?_
            obtain ⟨x7, h8, h⟩ := bind_some h
            refine o_c (g0 rfl) rfl rfl rfl (idxE h8) (idxC h8) ?_
            refine o_s (.t (.agg [.lit (.int .i64 x7.Number), .lit (.int .i64 x7.Epoch), .lit (.bool x7.Gone), .lit (.string ⟨⟨x7.By⟩⟩)])) (g0 rfl) rfl rfl rfl ?_
            refine o_s (.box [.d (.lit (.int .i64 0)), .d (.lit (.int .i64 0)), .d (.lit (.bool false)), .d (.lit (.string ⟨⟨[]⟩⟩))]) (g0 rfl) rfl rfl rfl ?_
            refine o_st (.box [.d (.lit (.int .i64 x7.Number)), .d (.lit (.int .i64 x7.Epoch)), .d (.lit (.bool x7.Gone)), .d (.lit (.string ⟨⟨x7.By⟩⟩))]) (g0 rfl) rfl rfl rfl ?_
            refine o_nil ?_
            repeat (first | refine then_normal ?_ | refine then_exit ?_ | refine then_ret ?_ | refine block_normal ?_ | refine block_ret ?_ | refine block_exit ?_ | refine block_pass rfl ?_)
            refine c_seq ?_
            refine c_region ?_
            refine o_s (.ref 8 3) (g0 rfl) rfl rfl rfl ?_
            refine o_s (.t (.d (.lit (.string ⟨⟨x7.By⟩⟩)))) (g0 rfl) rfl rfl rfl ?_
            refine o_s (.t (.d (.lit (.int .i64 (x7.By.length : Int))))) (g0 rfl) rfl rfl rfl ?_
            refine o_s (.t (.d (.lit (.bool (decide ((x7.By.length : Int) > 20)))))) (g0 rfl) rfl rfl rfl ?_
            refine o_nil ?_
            repeat (first | refine then_normal ?_ | refine then_exit ?_ | refine then_ret ?_ | refine block_normal ?_ | refine block_ret ?_ | refine block_exit ?_ | refine block_pass rfl ?_)
            rcases bif_some h with ⟨h9, h⟩ | ⟨h9, h⟩
            · refine c_t h9 rfl ?_
              refine c_seq ?_
              refine c_region ?_
              refine o_s (.t (.d (.lit (.bool false)))) (g0 rfl) rfl rfl rfl ?_
              refine o_nil ?_
              repeat (first | refine then_normal ?_ | refine then_exit ?_ | refine then_ret ?_ | refine block_normal ?_ | refine block_ret ?_ | refine block_exit ?_ | refine block_pass rfl ?_)
              refine c_ret ?_
              repeat (first | refine then_normal ?_ | refine then_exit ?_ | refine then_ret ?_ | refine block_normal ?_ | refine block_ret ?_ | refine block_exit ?_ | refine block_pass rfl ?_)
              obtain rfl := Option.some.inj h
              exact end0 rfl (.refl _)
            · refine c_f h9 rfl ?_
              refine c_skip ?_
              repeat (first | refine then_normal ?_ | refine then_exit ?_ | refine then_ret ?_ | refine block_normal ?_ | refine block_ret ?_ | refine block_exit ?_ | refine block_pass rfl ?_)
              refine c_region ?_
              refine o_s (.t (.d (.lit (.int .i64 (wi (z5 + 1)))))) (g0 rfl) rfl rfl rfl ?_
              refine o_s (.t (.d (.lit (.int .i64 (wi (z5 + 1)))))) (g0 rfl) rfl rfl rfl ?_
              refine o_nil ?_
              repeat (first | refine then_normal ?_ | refine then_exit ?_ | refine then_ret ?_ | refine block_normal ?_ | refine block_ret ?_ | refine block_exit ?_ | refine block_pass rfl ?_)
              exact ⟨nl4, (wi (z5 + 1)), Nat.lt_succ_self nl4, h, ⟨(.refl _), ⟨(.refl _), ⟨(.refl _), ⟨(.refl _), trivial⟩⟩⟩⟩, rfl⟩
          · refine c_f h6 rfl ?_
            refine c_exit ?_
            repeat (first | refine then_normal ?_ | refine then_exit ?_ | refine then_ret ?_ | refine block_normal ?_ | refine block_ret ?_ | refine block_exit ?_ | refine block_pass rfl ?_)
            exact ⟨(), h, ⟨(.refl _), trivial⟩, rfl⟩
      · rintro ⟨⟩ h
        refine c_seq ?_
        refine c_region ?_
        refine o_s (.ref 1 2) (g0 rfl) rfl rfl rfl ?_
        refine o_s (.t (.d (.lit (.string ⟨⟨p0.By⟩⟩)))) (g0 rfl) rfl rfl rfl ?_
        refine o_s (.t (.d (.lit (.int .i64 (p0.By.length : Int))))) (g0 rfl) rfl rfl rfl ?_
        refine o_s (.t (.d (.lit (.bool (decide ((p0.By.length : Int) ≤ 20)))))) (g0 rfl) rfl rfl rfl ?_
        refine o_s (.t (.d (.lit (.bool (decide ((p0.By.length : Int) ≤ 20)))))) (g0 rfl) rfl rfl rfl ?_
        rcases bif_some h with ⟨h1, h⟩ | ⟨h1, h⟩
        · refine o_s (.ref 1 3) (gy rfl rfl rfl h1) rfl rfl rfl ?_
          refine o_s (.t (.d (.seq 1 (bytesD p0.Data)))) (gy rfl rfl rfl h1) rfl rfl rfl ?_
          refine o_c (gy rfl rfl rfl h1) rfl rfl rfl (lenE _ _) trivial ?_
          refine o_s (.t (.d (.lit (.bool (decide ((p0.Data.length : Int) ≤ 2000)))))) (gy rfl rfl rfl h1) rfl rfl rfl ?_
          refine o_pk (.t (.d (.lit (.bool (decide ((p0.Data.length : Int) ≤ 2000)))))) (b := true) h1 (g0 rfl) rfl rfl rfl rfl rfl ?_
          refine o_s (.t (.d (.lit (.bool (decide ((p0.Data.length : Int) ≤ 2000)))))) (g0 rfl) rfl rfl rfl ?_
          rcases bif_some h with ⟨h2, h⟩ | ⟨h2, h⟩
          · refine o_s (.ref 1 4) (gy rfl rfl rfl h2) rfl rfl rfl ?_
            refine o_s (.t (.d (.seq 1 (List.map cStr p0.Names)))) (gy rfl rfl rfl h2) rfl rfl rfl ?_
            refine o_c (gy rfl rfl rfl h2) rfl rfl rfl (lenE _ _) trivial ?_
            refine o_s (.t (.d (.lit (.bool (decide ((p0.Names.length : Int) ≤ 30)))))) (gy rfl rfl rfl h2) rfl rfl rfl ?_
            refine o_pk (.t (.d (.lit (.bool (decide ((p0.Names.length : Int) ≤ 30)))))) (b := true) h2 (g0 rfl) rfl rfl rfl rfl rfl ?_
            refine o_s (.t (.d (.lit (.bool (decide ((p0.Names.length : Int) ≤ 30)))))) (g0 rfl) rfl rfl rfl ?_
            rcases bif_some h with ⟨h3, h⟩ | ⟨h3, h⟩
            · refine o_s (.ref 1 5) (gy rfl rfl rfl h3) rfl rfl rfl ?_
              refine o_s (.t (.d (.seq 2 (List.map cS_api_Member p0.Members)))) (gy rfl rfl rfl h3) rfl rfl rfl ?_
              refine o_c (gy rfl rfl rfl h3) rfl rfl rfl (lenE _ _) trivial ?_
              refine o_s (.t (.d (.lit (.bool (decide ((p0.Members.length : Int) ≤ 30)))))) (gy rfl rfl rfl h3) rfl rfl rfl ?_
              refine o_pk (.t (.d (.lit (.bool (decide ((p0.Members.length : Int) ≤ 30)))))) (b := true) h3 (g0 rfl) rfl rfl rfl rfl rfl ?_
              refine o_s (.t (.d (.lit (.bool (decide ((p0.Members.length : Int) ≤ 30)))))) (g0 rfl) rfl rfl rfl ?_
              rcases bif_some h with ⟨h4, h⟩ | ⟨h4, h⟩
              · refine o_s (.ref 1 6) (gy rfl rfl rfl h4) rfl rfl rfl ?_
                refine o_s (.t (.d (.seq 4 (List.map cS_api_Past p0.History)))) (gy rfl rfl rfl h4) rfl rfl rfl ?_
                refine o_c (gy rfl rfl rfl h4) rfl rfl rfl (lenE _ _) trivial ?_
                refine o_s (.t (.d (.lit (.bool (decide ((p0.History.length : Int) ≤ 30)))))) (gy rfl rfl rfl h4) rfl rfl rfl ?_
                refine o_pk (.t (.d (.lit (.bool (decide ((p0.History.length : Int) ≤ 30)))))) (b := true) h4 (g0 rfl) rfl rfl rfl rfl rfl ?_
                refine o_s (.t (.d (.lit (.bool (decide ((p0.History.length : Int) ≤ 30)))))) (g0 rfl) rfl rfl rfl ?_
                refine o_nil ?_
                repeat (first | refine then_normal ?_ | refine then_exit ?_ | refine then_ret ?_ | refine block_normal ?_ | refine block_ret ?_ | refine block_exit ?_ | refine block_pass rfl ?_)
                refine c_ret ?_
                repeat (first | refine then_normal ?_ | refine then_exit ?_ | refine then_ret ?_ | refine block_normal ?_ | refine block_ret ?_ | refine block_exit ?_ | refine block_pass rfl ?_)
                obtain rfl := Option.some.inj h
                exact end0 rfl (.refl _)
              · refine o_skip rfl rfl rfl h4 rfl rfl ?_
                refine o_skip rfl rfl rfl h4 rfl rfl ?_
                refine o_skip rfl rfl rfl h4 rfl rfl ?_
                refine o_skip rfl rfl rfl h4 rfl rfl ?_
                refine o_pk (.t (.d (.lit (.bool false)))) (b := false) h4 (g0 rfl) rfl rfl rfl rfl rfl ?_
                refine o_s (.t (.d (.lit (.bool false)))) (g0 rfl) rfl rfl rfl ?_
                refine o_nil ?_
                repeat (first | refine then_normal ?_ | refine then_exit ?_ | refine then_ret ?_ | refine block_normal ?_ | refine block_ret ?_ | refine block_exit ?_ | refine block_pass rfl ?_)
                refine c_ret ?_
                repeat (first | refine then_normal ?_ | refine then_exit ?_ | refine then_ret ?_ | refine block_normal ?_ | refine block_ret ?_ | refine block_exit ?_ | refine block_pass rfl ?_)
                obtain rfl := Option.some.inj h
                exact end0 rfl (.refl _)
            · refine o_skip rfl rfl rfl h3 rfl rfl ?_
              refine o_skip rfl rfl rfl h3 rfl rfl ?_
              refine o_skip rfl rfl rfl h3 rfl rfl ?_
              refine o_skip rfl rfl rfl h3 rfl rfl ?_
              refine o_pk (.t (.d (.lit (.bool false)))) (b := false) h3 (g0 rfl) rfl rfl rfl rfl rfl ?_
              refine o_s (.t (.d (.lit (.bool false)))) (g0 rfl) rfl rfl rfl ?_
              refine o_skip rfl rfl rfl rfl rfl rfl ?_
              refine o_skip rfl rfl rfl rfl rfl rfl ?_
              refine o_skip rfl rfl rfl rfl rfl rfl ?_
              refine o_skip rfl rfl rfl rfl rfl rfl ?_
              refine o_pk (.t (.d (.lit (.bool false)))) (b := false) rfl (g0 rfl) rfl rfl rfl rfl rfl ?_
              refine o_s (.t (.d (.lit (.bool false)))) (g0 rfl) rfl rfl rfl ?_
              refine o_nil ?_
              repeat (first | refine then_normal ?_ | refine then_exit ?_ | refine then_ret ?_ | refine block_normal ?_ | refine block_ret ?_ | refine block_exit ?_ | refine block_pass rfl ?_)
              refine c_ret ?_
              repeat (first | refine then_normal ?_ | refine then_exit ?_ | refine then_ret ?_ | refine block_normal ?_ | refine block_ret ?_ | refine block_exit ?_ | refine block_pass rfl ?_)
              obtain rfl := Option.some.inj h
              exact end0 rfl (.refl _)
          · refine o_skip rfl rfl rfl h2 rfl rfl ?_
            refine o_skip rfl rfl rfl h2 rfl rfl ?_
            refine o_skip rfl rfl rfl h2 rfl rfl ?_
            refine o_skip rfl rfl rfl h2 rfl rfl ?_
            refine o_pk (.t (.d (.lit (.bool false)))) (b := false) h2 (g0 rfl) rfl rfl rfl rfl rfl ?_
            refine o_s (.t (.d (.lit (.bool false)))) (g0 rfl) rfl rfl rfl ?_
            refine o_skip rfl rfl rfl rfl rfl rfl ?_
            refine o_skip rfl rfl rfl rfl rfl rfl ?_
            refine o_skip rfl rfl rfl rfl rfl rfl ?_
            refine o_skip rfl rfl rfl rfl rfl rfl ?_
            refine o_pk (.t (.d (.lit (.bool false)))) (b := false) rfl (g0 rfl) rfl rfl rfl rfl rfl ?_
            refine o_s (.t (.d (.lit (.bool false)))) (g0 rfl) rfl rfl rfl ?_
            refine o_skip rfl rfl rfl rfl rfl rfl ?_
            refine o_skip rfl rfl rfl rfl rfl rfl ?_
            refine o_skip rfl rfl rfl rfl rfl rfl ?_
            refine o_skip rfl rfl rfl rfl rfl rfl ?_
            refine o_pk (.t (.d (.lit (.bool false)))) (b := false) rfl (g0 rfl) rfl rfl rfl rfl rfl ?_
            refine o_s (.t (.d (.lit (.bool false)))) (g0 rfl) rfl rfl rfl ?_
            refine o_nil ?_
            repeat (first | refine then_normal ?_ | refine then_exit ?_ | refine then_ret ?_ | refine block_normal ?_ | refine block_ret ?_ | refine block_exit ?_ | refine block_pass rfl ?_)
            refine c_ret ?_
            repeat (first | refine then_normal ?_ | refine then_exit ?_ | refine then_ret ?_ | refine block_normal ?_ | refine block_ret ?_ | refine block_exit ?_ | refine block_pass rfl ?_)
            obtain rfl := Option.some.inj h
            exact end0 rfl (.refl _)
        · refine o_skip rfl rfl rfl h1 rfl rfl ?_
          refine o_skip rfl rfl rfl h1 rfl rfl ?_
          refine o_skip rfl rfl rfl h1 rfl rfl ?_
          refine o_skip rfl rfl rfl h1 rfl rfl ?_
          refine o_pk (.t (.d (.lit (.bool false)))) (b := false) h1 (g0 rfl) rfl rfl rfl rfl rfl ?_
          refine o_s (.t (.d (.lit (.bool false)))) (g0 rfl) rfl rfl rfl ?_
          refine o_skip rfl rfl rfl rfl rfl rfl ?_
          refine o_skip rfl rfl rfl rfl rfl rfl ?_
          refine o_skip rfl rfl rfl rfl rfl rfl ?_
          refine o_skip rfl rfl rfl rfl rfl rfl ?_
          refine o_pk (.t (.d (.lit (.bool false)))) (b := false) rfl (g0 rfl) rfl rfl rfl rfl rfl ?_
          refine o_s (.t (.d (.lit (.bool false)))) (g0 rfl) rfl rfl rfl ?_
          refine o_skip rfl rfl rfl rfl rfl rfl ?_
          refine o_skip rfl rfl rfl rfl rfl rfl ?_
          refine o_skip rfl rfl rfl rfl rfl rfl ?_
          refine o_skip rfl rfl rfl rfl rfl rfl ?_
          refine o_pk (.t (.d (.lit (.bool false)))) (b := false) rfl (g0 rfl) rfl rfl rfl rfl rfl ?_
          refine o_s (.t (.d (.lit (.bool false)))) (g0 rfl) rfl rfl rfl ?_
          refine o_skip rfl rfl rfl rfl rfl rfl ?_
          refine o_skip rfl rfl rfl rfl rfl rfl ?_
          refine o_skip rfl rfl rfl rfl rfl rfl ?_
          refine o_skip rfl rfl rfl rfl rfl rfl ?_
          refine o_pk (.t (.d (.lit (.bool false)))) (b := false) rfl (g0 rfl) rfl rfl rfl rfl rfl ?_
          refine o_s (.t (.d (.lit (.bool false)))) (g0 rfl) rfl rfl rfl ?_
          refine o_nil ?_
          repeat (first | refine then_normal ?_ | refine then_exit ?_ | refine then_ret ?_ | refine block_normal ?_ | refine block_ret ?_ | refine block_exit ?_ | refine block_pass rfl ?_)
          refine c_ret ?_
          repeat (first | refine then_normal ?_ | refine then_exit ?_ | refine then_ret ?_ | refine block_normal ?_ | refine block_ret ?_ | refine block_exit ?_ | refine block_pass rfl ?_)
          obtain rfl := Option.some.inj h
          exact end0 rfl (.refl _)

theorem fc_R28_Of (p0 : (List V)) (r : V) (h : m_R28_Of p0 = some r) : FC Try.prog 37 [.t (.d (.seq 4 (List.map V.cells p0)))] [] (.t (.agg [.lit (.int .i64 r.k), .lit (.int .i64 r.n), .lit (.slice none 0 0), .seq 4 (List.map V.cells r.l)])) := by
  refine fc_mk (rs := [.cell 2 58]) (n := 5) Try.func37 rfl rfl (Nat.le_of_ble_eq_true rfl) rfl (pins := []) rfl (L := [(0, .t (.d (.seq 4 (List.map V.cells p0))))]) rfl ?_
  refine c_seq ?_
  refine c_region ?_
  refine o_s (.box [.d (.lit (.int .i64 0)), .d (.lit (.int .i64 0)), .d (.lit (.slice none 0 0)), .d (.lit (.slice none 0 0))]) (g0 rfl) rfl rfl rfl ?_
  refine o_nil ?_
  repeat (first | refine then_normal ?_ | refine then_exit ?_ | refine then_ret ?_ | refine block_normal ?_ | refine block_ret ?_ | refine block_exit ?_ | refine block_pass rfl ?_)
  refine c_seq ?_
  refine c_region ?_
  refine o_s (.t (.d (.seq 4 (List.map V.cells p0)))) (g0 rfl) rfl rfl rfl ?_
  refine o_s (.t (.agg [.lit (.int .i64 3), .lit (.int .i64 0), .lit (.slice none 0 0), .seq 4 (List.map V.cells p0)])) (g0 rfl) rfl rfl rfl ?_
  refine o_st (.box [.d (.lit (.int .i64 3)), .d (.lit (.int .i64 0)), .d (.lit (.slice none 0 0)), .d (.seq 4 (List.map V.cells p0))]) (g0 rfl) rfl rfl rfl ?_
  refine o_nil ?_
  repeat (first | refine then_normal ?_ | refine then_exit ?_ | refine then_ret ?_ | refine block_normal ?_ | refine block_ret ?_ | refine block_exit ?_ | refine block_pass rfl ?_)
  refine c_ret ?_
  repeat (first | refine then_normal ?_ | refine then_exit ?_ | refine then_ret ?_ | refine block_normal ?_ | refine block_ret ?_ | refine block_exit ?_ | refine block_pass rfl ?_)
  obtain rfl := Option.some.inj h
  exact end0 rfl (.refl _)

theorem fc_R28_Raw (p0 : (List UInt8)) (r : V) (h : m_R28_Raw p0 = some r) : FC Try.prog 38 [.t (.d (.seq 1 (bytesD p0)))] [] (.t (.agg [.lit (.int .i64 r.k), .lit (.int .i64 r.n), .seq 1 (bytesD r.b), .lit (.slice none 0 0)])) := by
  refine fc_mk (rs := [.cell 2 58]) (n := 5) Try.func38 rfl rfl (Nat.le_of_ble_eq_true rfl) rfl (pins := []) rfl (L := [(0, .t (.d (.seq 1 (bytesD p0))))]) rfl ?_
  refine c_seq ?_
  refine c_region ?_
  refine o_s (.box [.d (.lit (.int .i64 0)), .d (.lit (.int .i64 0)), .d (.lit (.slice none 0 0)), .d (.lit (.slice none 0 0))]) (g0 rfl) rfl rfl rfl ?_
  refine o_nil ?_
  repeat (first | refine then_normal ?_ | refine then_exit ?_ | refine then_ret ?_ | refine block_normal ?_ | refine block_ret ?_ | refine block_exit ?_ | refine block_pass rfl ?_)
  refine c_seq ?_
  refine c_region ?_
  refine o_s (.t (.d (.seq 1 (bytesD p0)))) (g0 rfl) rfl rfl rfl ?_
  refine o_s (.t (.agg [.lit (.int .i64 2), .lit (.int .i64 0), .seq 1 (bytesD p0), .lit (.slice none 0 0)])) (g0 rfl) rfl rfl rfl ?_
  refine o_st (.box [.d (.lit (.int .i64 2)), .d (.lit (.int .i64 0)), .d (.seq 1 (bytesD p0)), .d (.lit (.slice none 0 0))]) (g0 rfl) rfl rfl rfl ?_
  refine o_nil ?_
  repeat (first | refine then_normal ?_ | refine then_exit ?_ | refine then_ret ?_ | refine block_normal ?_ | refine block_ret ?_ | refine block_exit ?_ | refine block_pass rfl ?_)
  refine c_ret ?_
  repeat (first | refine then_normal ?_ | refine then_exit ?_ | refine then_ret ?_ | refine block_normal ?_ | refine block_ret ?_ | refine block_exit ?_ | refine block_pass rfl ?_)
  obtain rfl := Option.some.inj h
  exact end0 rfl (.refl _)

theorem fc_R28_Num (p0 : Int) (r : V) (h : m_R28_Num p0 = some r) : FC Try.prog 39 [.t (.d (.lit (.int .i64 p0)))] [] (.t (.agg [.lit (.int .i64 r.k), .lit (.int .i64 r.n), .lit (.slice none 0 0), .lit (.slice none 0 0)])) := by
  refine fc_mk (rs := [.cell 2 58]) (n := 5) Try.func39 rfl rfl (Nat.le_of_ble_eq_true rfl) rfl (pins := []) rfl (L := [(0, .t (.d (.lit (.int .i64 p0))))]) rfl ?_
  refine c_seq ?_
  refine c_region ?_
  refine o_s (.box [.d (.lit (.int .i64 0)), .d (.lit (.int .i64 0)), .d (.lit (.slice none 0 0)), .d (.lit (.slice none 0 0))]) (g0 rfl) rfl rfl rfl ?_
  refine o_nil ?_
  repeat (first | refine then_normal ?_ | refine then_exit ?_ | refine then_ret ?_ | refine block_normal ?_ | refine block_ret ?_ | refine block_exit ?_ | refine block_pass rfl ?_)
  refine c_seq ?_
  refine c_region ?_
  refine o_s (.t (.d (.lit (.int .i64 p0)))) (g0 rfl) rfl rfl rfl ?_
  refine o_s (.t (.agg [.lit (.int .i64 1), .lit (.int .i64 p0), .lit (.slice none 0 0), .lit (.slice none 0 0)])) (g0 rfl) rfl rfl rfl ?_
  refine o_st (.box [.d (.lit (.int .i64 1)), .d (.lit (.int .i64 p0)), .d (.lit (.slice none 0 0)), .d (.lit (.slice none 0 0))]) (g0 rfl) rfl rfl rfl ?_
  refine o_nil ?_
  repeat (first | refine then_normal ?_ | refine then_exit ?_ | refine then_ret ?_ | refine block_normal ?_ | refine block_ret ?_ | refine block_exit ?_ | refine block_pass rfl ?_)
  refine c_ret ?_
  repeat (first | refine then_normal ?_ | refine then_exit ?_ | refine then_ret ?_ | refine block_normal ?_ | refine block_ret ?_ | refine block_exit ?_ | refine block_pass rfl ?_)
  obtain rfl := Option.some.inj h
  exact end0 rfl (.refl _)

theorem fc_R31_Bytes (p0 : S_api_Answer) (r : (List UInt8)) (h : m_R31_Bytes p0 = some r) : FC Try.prog 24 [.t (.agg [.lit (.int .i64 p0.Err), .lit (.int .i64 p0.Number), .lit (.string ⟨⟨p0.By⟩⟩), .seq 1 (bytesD p0.Data), .seq 1 (List.map cStr p0.Names), .seq 2 (List.map cS_api_Member p0.Members), .seq 4 (List.map cS_api_Past p0.History)])] [] (.t (.own 5 1 (bytesD r))) := by
  refine fc_mk (rs := [.tmp 2]) (n := 108) Try.func24 rfl rfl (Nat.le_of_ble_eq_true rfl) rfl (pins := []) rfl (L := [(0, .t (.agg [.lit (.int .i64 p0.Err), .lit (.int .i64 p0.Number), .lit (.string ⟨⟨p0.By⟩⟩), .seq 1 (bytesD p0.Data), .seq 1 (List.map cStr p0.Names), .seq 2 (List.map cS_api_Member p0.Members), .seq 4 (List.map cS_api_Past p0.History)]))]) rfl ?_
  refine c_seq ?_
  refine c_region ?_
  refine o_s (.box [.d (.lit (.int .i64 p0.Err)), .d (.lit (.int .i64 p0.Number)), .d (.lit (.string ⟨⟨p0.By⟩⟩)), .d (.seq 1 (bytesD p0.Data)), .d (.seq 1 (List.map cStr p0.Names)), .d (.seq 2 (List.map cS_api_Member p0.Members)), .d (.seq 4 (List.map cS_api_Past p0.History))]) (g0 rfl) rfl rfl rfl ?_
  refine o_s (.t (.d (.lit (.slice none 0 0)))) (g0 rfl) rfl rfl rfl ?_
  refine o_nil ?_
  repeat (first | refine then_normal ?_ | refine then_exit ?_ | refine then_ret ?_ | refine block_normal ?_ | refine block_ret ?_ | refine block_exit ?_ | refine block_pass rfl ?_)
  refine c_seq ?_
  refine c_region ?_
  refine o_s (.t (.d (.lit (.slice none 0 0)))) (g0 rfl) rfl rfl rfl ?_
  refine o_nil ?_
  repeat (first | refine then_normal ?_ | refine then_exit ?_ | refine then_ret ?_ | refine block_normal ?_ | refine block_ret ?_ | refine block_exit ?_ | refine block_pass rfl ?_)
  refine c_cut (fun (y1 : (List V)) => [(1, .box [.d (.lit (.int .i64 p0.Err)), .d (.lit (.int .i64 p0.Number)), .d (.lit (.string ⟨⟨p0.By⟩⟩)), .d (.seq 1 (bytesD p0.Data)), .d (.seq 1 (List.map cStr p0.Names)), .d (.seq 2 (List.map cS_api_Member p0.Members)), .d (.seq 4 (List.map cS_api_Past p0.History))]), (3, .t (.own 58 4 (List.map V.cells y1)))]) (fun (y1 : (List V)) => m_R31_Bytes_j1 p0 y1 = some r) ?_ ?_
  · refine c_seq ?_
    refine c_region ?_
    refine o_s (.t (.d (.lit (.int .i64 0)))) (g0 rfl) rfl rfl rfl ?_
    refine o_nil ?_
    repeat (first | refine then_normal ?_ | refine then_exit ?_ | refine then_ret ?_ | refine block_normal ?_ | refine block_ret ?_ | refine block_exit ?_ | refine block_pass rfl ?_)
    refine c_block ?_
    refine c_fuel (fun (q : (List V) × Int) => [(1, .box [.d (.lit (.int .i64 p0.Err)), .d (.lit (.int .i64 p0.Number)), .d (.lit (.string ⟨⟨p0.By⟩⟩)), .d (.seq 1 (bytesD p0.Data)), .d (.seq 1 (List.map cStr p0.Names)), .d (.seq 2 (List.map cS_api_Member p0.Members)), .d (.seq 4 (List.map cS_api_Past p0.History))]), (3, .t (.own 58 4 (List.map V.cells q.1))), (4, .t (.d (.lit (.int .i64 q.2))))]) (fun nl7 => (fun (q : (List V) × Int) => m_R31_Bytes_l7 p0 nl7 q.1 q.2 = some r)) (p0.Names.length + 1) ([], 0) h ⟨(.refl _), ⟨(.t (.nilOwn _ _)), ⟨(.refl _), trivial⟩⟩⟩ rfl ?_
    rintro nl7 ⟨z62, z63⟩ h
    cases nl7 with
    | zero => exact none_ne h
    | succ nl7 =>
      refine c_seq ?_
      refine c_seq ?_
      refine c_region ?_
      refine o_s (.t (.d (.lit (.int .i64 z63)))) (g0 rfl) rfl rfl rfl ?_
      refine o_s (.ref 1 4) (g0 rfl) rfl rfl rfl ?_
      refine o_s (.t (.d (.seq 1 (List.map cStr p0.Names)))) (g0 rfl) rfl rfl rfl ?_
      refine o_c (g0 rfl) rfl rfl rfl (lenE _ _) trivial ?_
      refine o_s (.t (.d (.lit (.bool (decide (z63 < (p0.Names.length : Int))))))) (g0 rfl) rfl rfl rfl ?_
      refine o_nil ?_
      repeat (first | refine then_normal ?_ | refine then_exit ?_ | refine then_ret ?_ | refine block_normal ?_ | refine block_ret ?_ | refine block_exit ?_ | refine block_pass rfl ?_)
      rcases bif_some h with ⟨h64, h⟩ | ⟨h64, h⟩
      · refine c_t h64 rfl ?_
        refine c_skip ?_
        repeat (first | refine then_normal ?_ | refine then_exit ?_ | refine then_ret ?_ | refine block_normal ?_ | refine block_ret ?_ | refine block_exit ?_ | refine block_pass rfl ?_)
        refine c_seq ?_
        refine c_block ?_
        refine c_region ?_
        refine o_2 (.t (.d (.seq 4 (List.map V.cells z62)))) (.t (.own 58 4 (List.map V.cells z62))) (g0 rfl) rfl rfl rfl ?_
        refine o_s (.ref 1 4) (g0 rfl) rfl rfl rfl ?_
        refine o_s (.t (.d (.seq 1 (List.map cStr p0.Names)))) (g0 rfl) rfl rfl rfl ?_
        refine o_s (.t (.d (.lit (.int .i64 z63)))) (g0 rfl) rfl rfl rfl ?_
        obtain ⟨x65, h66, h⟩ := bind_some h
        refine o_c (g0 rfl) rfl rfl rfl (idxE h66) (idxC h66) ?_
        refine o_s (.t (.d (.lit (.string ⟨⟨x65⟩⟩)))) (g0 rfl) rfl rfl rfl ?_
        obtain ⟨x67, h68, h⟩ := bind_some h
        refine o_c (g0 rfl) rfl rfl rfl (strBE h68) (strBC h68) ?_
        obtain ⟨x69, h70, h⟩ := bind_some h
        refine o_ca (fc_R28_Raw _ _ h70) (g0 rfl) rfl rfl rfl rfl rfl rfl rfl (.cons (.refl _) .nil) rfl rfl ?_
        refine o_w (.t (.own 58 4 (List.map V.cells [(V.mk x69.k x69.n x69.b [])]))) (g0 rfl) rfl rfl rfl (.t (.rows _ _ (.cons (.cons (.refl _) (.cons (.refl _) (.cons (.refl _) (.cons (.nil _) .nil)))) .nil) (rowsE V.cells_eq [(V.mk x69.k x69.n x69.b [])]))) (fun e => nomatch e) ?_
        obtain ⟨x71, h72, h⟩ := bind_some h
        refine o_2c (g0 rfl) rfl rfl rfl (appE (c := V.cells) h72) (appC (c := V.cells) h72) ?_
        refine o_2 (.t (.d (.seq 4 (List.map V.cells x71)))) (.t (.own 58 4 (List.map V.cells x71))) (g0 rfl) rfl rfl rfl ?_
        refine o_nil ?_
        repeat (first | refine then_normal ?_ | refine then_exit ?_ | refine then_ret ?_ | refine block_normal ?_ | refine block_ret ?_ | refine block_exit ?_ | refine block_pass rfl ?_)
        refine c_region ?_
        refine o_s (.t (.d (.lit (.int .i64 z63)))) (g0 rfl) rfl rfl rfl ?_
        refine o_s (.t (.d (.lit (.int .i64 (wi (z63 + 1)))))) (g0 rfl) rfl rfl rfl ?_
        refine o_s (.t (.d (.lit (.int .i64 (wi (z63 + 1)))))) (g0 rfl) rfl rfl rfl ?_
        refine o_nil ?_
        repeat (first | refine then_normal ?_ | refine then_exit ?_ | refine then_ret ?_ | refine block_normal ?_ | refine block_ret ?_ | refine block_exit ?_ | refine block_pass rfl ?_)
        exact ⟨nl7, (x71, (wi (z63 + 1))), Nat.lt_succ_self nl7, h, ⟨(.refl _), ⟨(.refl _), ⟨(.refl _), trivial⟩⟩⟩, rfl⟩
      · refine c_f h64 rfl ?_
        refine c_exit ?_
        repeat (first | refine then_normal ?_ | refine then_exit ?_ | refine then_ret ?_ | refine block_normal ?_ | refine block_ret ?_ | refine block_exit ?_ | refine block_pass rfl ?_)
        exact ⟨z62, h, ⟨(.refl _), ⟨(.refl _), trivial⟩⟩, rfl⟩
  · rintro y1 h
    refine c_seq ?_
    refine c_region ?_
    refine o_s (.t (.d (.lit (.slice none 0 0)))) (g0 rfl) rfl rfl rfl ?_
    refine o_nil ?_
    repeat (first | refine then_normal ?_ | refine then_exit ?_ | refine then_ret ?_ | refine block_normal ?_ | refine block_ret ?_ | refine block_exit ?_ | refine block_pass rfl ?_)
    refine c_cut (fun (y2 : (List V)) => [(1, .box [.d (.lit (.int .i64 p0.Err)), .d (.lit (.int .i64 p0.Number)), .d (.lit (.string ⟨⟨p0.By⟩⟩)), .d (.seq 1 (bytesD p0.Data)), .d (.seq 1 (List.map cStr p0.Names)), .d (.seq 2 (List.map cS_api_Member p0.Members)), .d (.seq 4 (List.map cS_api_Past p0.History))]), (3, .t (.own 58 4 (List.map V.cells y1))), (5, .t (.own 58 4 (List.map V.cells y2)))]) (fun (y2 : (List V)) => m_R31_Bytes_j2 p0 y1 y2 = some r) ?_ ?_
    · refine c_seq ?_
      refine c_region ?_
      refine o_s (.t (.d (.lit (.int .i64 0)))) (g0 rfl) rfl rfl rfl ?_
      refine o_nil ?_
      repeat (first | refine then_normal ?_ | refine then_exit ?_ | refine then_ret ?_ | refine block_normal ?_ | refine block_ret ?_ | refine block_exit ?_ | refine block_pass rfl ?_)
      refine c_block ?_
      refine c_fuel (fun (q : (List V) × Int) => [(1, .box [.d (.lit (.int .i64 p0.Err)), .d (.lit (.int .i64 p0.Number)), .d (.lit (.string ⟨⟨p0.By⟩⟩)), .d (.seq 1 (bytesD p0.Data)), .d (.seq 1 (List.map cStr p0.Names)), .d (.seq 2 (List.map cS_api_Member p0.Members)), .d (.seq 4 (List.map cS_api_Past p0.History))]), (3, .t (.own 58 4 (List.map V.cells y1))), (5, .t (.own 58 4 (List.map V.cells q.1))), (6, .t (.d (.lit (.int .i64 q.2))))]) (fun nl6 => (fun (q : (List V) × Int) => m_R31_Bytes_l6 p0 y1 nl6 q.1 q.2 = some r)) (p0.Members.length + 1) ([], 0) h ⟨(.refl _), ⟨(.refl _), ⟨(.t (.nilOwn _ _)), ⟨(.refl _), trivial⟩⟩⟩⟩ rfl ?_
      rintro nl6 ⟨z45, z46⟩ h
      cases nl6 with
      | zero => exact none_ne h
      | succ nl6 =>
        refine c_seq ?_
        refine c_seq ?_
        refine c_region ?_
        refine o_s (.t (.d (.lit (.int .i64 z46)))) (g0 rfl) rfl rfl rfl ?_
        refine o_s (.ref 1 5) (g0 rfl) rfl rfl rfl ?_
        refine o_s (.t (.d (.seq 2 (List.map cS_api_Member p0.Members)))) (g0 rfl) rfl rfl rfl ?_
        refine o_c (g0 rfl) rfl rfl rfl (lenE _ _) trivial ?_
        refine o_s (.t (.d (.lit (.bool (decide (z46 < (p0.Members.length : Int))))))) (g0 rfl) rfl rfl rfl ?_
        refine o_nil ?_
        repeat (first | refine then_normal ?_ | refine then_exit ?_ | refine then_ret ?_ | refine block_normal ?_ | refine block_ret ?_ | refine block_exit ?_ | refine block_pass rfl ?_)
        rcases bif_some h with ⟨h47, h⟩ | ⟨h47, h⟩
        · refine c_t h47 rfl ?_
          refine c_skip ?_
          repeat (first | refine then_normal ?_ | refine then_exit ?_ | refine then_ret ?_ | refine block_normal ?_ | refine block_ret ?_ | refine block_exit ?_ | refine block_pass rfl ?_)
          refine c_seq ?_
          refine c_block ?_
          refine c_draw mixed (by kernel_rfl) ?_
          refine d_2 (.t (.d (.seq 4 (List.map V.cells z45)))) (.t (.own 58 4 (List.map V.cells z45))) rfl (dg0 rfl) rfl rfl rfl rfl rfl ?_
          refine d_s (.ref 1 5) rfl (dg0 rfl) rfl rfl rfl rfl ?_
          refine d_s (.t (.d (.seq 2 (List.map cS_api_Member p0.Members)))) rfl (dg0 rfl) rfl rfl rfl rfl ?_
          refine d_s (.t (.d (.lit (.int .i64 z46)))) rfl (dg0 rfl) rfl rfl rfl rfl ?_
          obtain ⟨x48, h49, h⟩ := bind_some h
          refine d_c rfl (dg0 rfl) rfl rfl rfl rfl (idxE h49) (idxC h49) ?_
          refine d_s (.imm [.lit (.string ⟨⟨x48.Name⟩⟩), .lit (.int .i64 x48.Role)]) rfl (dg0 rfl) rfl rfl rfl rfl ?_
          refine d_s (.t (.d (.lit (.string ⟨⟨x48.Name⟩⟩)))) rfl (dg0 rfl) rfl rfl rfl rfl ?_
          obtain ⟨x50, h51, h⟩ := bind_some h
          refine d_c rfl (dg0 rfl) rfl rfl rfl rfl (strBE h51) (strBC h51) ?_
          obtain ⟨x52, h53, h⟩ := bind_some h
          refine d_ca (fc_R28_Raw _ _ h53) rfl (dg0 rfl) rfl rfl rfl rfl rfl rfl rfl rfl (.cons (.refl _) .nil) rfl rfl ?_
          refine d_s (.ref 1 5) rfl (dg0 rfl) rfl rfl rfl rfl ?_
          refine d_s (.t (.d (.seq 2 (List.map cS_api_Member p0.Members)))) rfl (dg0 rfl) rfl rfl rfl rfl ?_
          refine d_s (.t (.d (.lit (.int .i64 z46)))) rfl (dg0 rfl) rfl rfl rfl rfl ?_
          obtain ⟨x54, h55, h⟩ := bind_some h
          refine d_c rfl (dg0 rfl) rfl rfl rfl rfl (idxE h55) (idxC h55) ?_
          refine d_s (.imm [.lit (.int .i64 x54.Role)]) rfl (dg0 rfl) rfl rfl rfl rfl ?_
          refine d_s (.t (.d (.lit (.int .i64 x54.Role)))) rfl (dg0 rfl) rfl rfl rfl rfl ?_
          obtain ⟨x56, h57, h⟩ := bind_some h
          refine d_ca (fc_R28_Num _ _ h57) rfl (dg0 rfl) rfl rfl rfl rfl rfl rfl rfl rfl (.cons (.refl _) .nil) rfl rfl ?_
          refine d_w (.t (.own 58 4 (List.map V.cells [(V.mk x52.k x52.n x52.b []), (V.mk x56.k x56.n [] [])]))) rfl (dg0 rfl) rfl rfl rfl rfl (.t (.rows _ _ (.cons (.cons (.refl _) (.cons (.refl _) (.cons (.refl _) (.cons (.nil _) .nil)))) (.cons (.cons (.refl _) (.cons (.refl _) (.cons (.nil _) (.cons (.nil _) .nil)))) .nil)) (rowsE V.cells_eq [(V.mk x52.k x52.n x52.b []), (V.mk x56.k x56.n [] [])]))) (fun e => nomatch e) ?_
          obtain ⟨x58, h59, h⟩ := bind_some h
          refine d_ca (fc_R28_Of _ _ h59) rfl (dg0 rfl) rfl rfl rfl rfl rfl rfl rfl rfl (.cons (.refl _) .nil) rfl rfl ?_
          refine d_w (.t (.own 58 4 (List.map V.cells [(V.mk x58.k x58.n [] x58.l)]))) rfl (dg0 rfl) rfl rfl rfl rfl (.t (.rows _ _ (.cons (.cons (.refl _) (.cons (.refl _) (.cons (.nil _) (.cons (.refl _) .nil)))) .nil) (rowsE V.cells_eq [(V.mk x58.k x58.n [] x58.l)]))) (fun e => nomatch e) ?_
          obtain ⟨x60, h61, h⟩ := bind_some h
          refine d_2c rfl (dg0 rfl) rfl rfl rfl rfl rfl (appE (c := V.cells) h61) (appC (c := V.cells) h61) ?_
          refine d_2 (.t (.d (.seq 4 (List.map V.cells x60)))) (.t (.own 58 4 (List.map V.cells x60))) rfl (dg0 rfl) rfl rfl rfl rfl rfl ?_
          refine d_nil (by kernel_rfl) ?_
          repeat (first | refine then_normal ?_ | refine then_exit ?_ | refine then_ret ?_ | refine block_normal ?_ | refine block_ret ?_ | refine block_exit ?_ | refine block_pass rfl ?_)
          refine c_region ?_
          refine o_s (.t (.d (.lit (.int .i64 z46)))) (g0 rfl) rfl rfl rfl ?_
          refine o_s (.t (.d (.lit (.int .i64 (wi (z46 + 1)))))) (g0 rfl) rfl rfl rfl ?_
          refine o_s (.t (.d (.lit (.int .i64 (wi (z46 + 1)))))) (g0 rfl) rfl rfl rfl ?_
          refine o_nil ?_
          repeat (first | refine then_normal ?_ | refine then_exit ?_ | refine then_ret ?_ | refine block_normal ?_ | refine block_ret ?_ | refine block_exit ?_ | refine block_pass rfl ?_)
          exact ⟨nl6, (x60, (wi (z46 + 1))), Nat.lt_succ_self nl6, h, ⟨(.refl _), ⟨(.refl _), ⟨(.refl _), ⟨(.refl _), trivial⟩⟩⟩⟩, rfl⟩
        · refine c_f h47 rfl ?_
          refine c_exit ?_
          repeat (first | refine then_normal ?_ | refine then_exit ?_ | refine then_ret ?_ | refine block_normal ?_ | refine block_ret ?_ | refine block_exit ?_ | refine block_pass rfl ?_)
          exact ⟨z45, h, ⟨(.refl _), ⟨(.refl _), ⟨(.refl _), trivial⟩⟩⟩, rfl⟩
    · rintro y2 h
      refine c_seq ?_
      refine c_region ?_
      refine o_s (.t (.d (.lit (.slice none 0 0)))) (g0 rfl) rfl rfl rfl ?_
      refine o_nil ?_
      repeat (first | refine then_normal ?_ | refine then_exit ?_ | refine then_ret ?_ | refine block_normal ?_ | refine block_ret ?_ | refine block_exit ?_ | refine block_pass rfl ?_)
      refine c_cut (fun (y3 : (List V)) => [(1, .box [.d (.lit (.int .i64 p0.Err)), .d (.lit (.int .i64 p0.Number)), .d (.lit (.string ⟨⟨p0.By⟩⟩)), .d (.seq 1 (bytesD p0.Data)), .d (.seq 1 (List.map cStr p0.Names)), .d (.seq 2 (List.map cS_api_Member p0.Members)), .d (.seq 4 (List.map cS_api_Past p0.History))]), (3, .t (.own 58 4 (List.map V.cells y1))), (5, .t (.own 58 4 (List.map V.cells y2))), (7, .t (.own 58 4 (List.map V.cells y3)))]) (fun (y3 : (List V)) => m_R31_Bytes_j3 p0 y1 y2 y3 = some r) ?_ ?_
      · refine c_seq ?_
        refine c_region ?_
        refine o_s (.t (.d (.lit (.int .i64 0)))) (g0 rfl) rfl rfl rfl ?_
        refine o_nil ?_
        repeat (first | refine then_normal ?_ | refine then_exit ?_ | refine then_ret ?_ | refine block_normal ?_ | refine block_ret ?_ | refine block_exit ?_ | refine block_pass rfl ?_)
        refine c_block ?_
        refine c_fuel (fun (q : (List V) × Int) => [(1, .box [.d (.lit (.int .i64 p0.Err)), .d (.lit (.int .i64 p0.Number)), .d (.lit (.string ⟨⟨p0.By⟩⟩)), .d (.seq 1 (bytesD p0.Data)), .d (.seq 1 (List.map cStr p0.Names)), .d (.seq 2 (List.map cS_api_Member p0.Members)), .d (.seq 4 (List.map cS_api_Past p0.History))]), (3, .t (.own 58 4 (List.map V.cells y1))), (5, .t (.own 58 4 (List.map V.cells y2))), (7, .t (.own 58 4 (List.map V.cells q.1))), (8, .t (.d (.lit (.int .i64 q.2))))]) (fun nl4 => (fun (q : (List V) × Int) => m_R31_Bytes_l4 p0 y1 y2 nl4 q.1 q.2 = some r)) (p0.History.length + 1) ([], 0) h ⟨(.refl _), ⟨(.refl _), ⟨(.refl _), ⟨(.t (.nilOwn _ _)), ⟨(.refl _), trivial⟩⟩⟩⟩⟩ rfl ?_
        rintro nl4 ⟨z24, z25⟩ h
        cases nl4 with
        | zero => exact none_ne h
        | succ nl4 =>
          refine c_seq ?_
          refine c_seq ?_
          refine c_region ?_
          refine o_s (.t (.d (.lit (.int .i64 z25)))) (g0 rfl) rfl rfl rfl ?_
          refine o_s (.ref 1 6) (g0 rfl) rfl rfl rfl ?_
          refine o_s (.t (.d (.seq 4 (List.map cS_api_Past p0.History)))) (g0 rfl) rfl rfl rfl ?_
          refine o_c (g0 rfl) rfl rfl rfl (lenE _ _) trivial ?_
          refine o_s (.t (.d (.lit (.bool (decide (z25 < (p0.History.length : Int))))))) (g0 rfl) rfl rfl rfl ?_
          refine o_nil ?_
          repeat (first | refine then_normal ?_ | refine then_exit ?_ | refine then_ret ?_ | refine block_normal ?_ | refine block_ret ?_ | refine block_exit ?_ | refine block_pass rfl ?_)
          rcases bif_some h with ⟨h26, h⟩ | ⟨h26, h⟩
          · refine c_t h26 rfl ?_
            refine c_skip ?_
            repeat (first | refine then_normal ?_ | refine then_exit ?_ | refine then_ret ?_ | refine block_normal ?_ | refine block_ret ?_ | refine block_exit ?_ | refine block_pass rfl ?_)
            refine c_seq ?_
            refine c_block ?_
            refine c_seq ?_
            refine c_region ?_
            refine o_s (.ref 1 6) (g0 rfl) rfl rfl rfl ?_
            refine o_s (.t (.d (.seq 4 (List.map cS_api_Past p0.History)))) (g0 rfl) rfl rfl rfl ?_
            refine o_s (.t (.d (.lit (.int .i64 z25)))) (g0 rfl) rfl rfl rfl ?_
            obtain ⟨x27, h28, h⟩ := bind_some h
            refine o_c (g0 rfl) rfl rfl rfl (idxE h28) (idxC h28) ?_
            refine o_s (.t (.agg [.lit (.int .i64 x27.Number), .lit (.int .i64 x27.Epoch), .lit (.bool x27.Gone), .lit (.string ⟨⟨x27.By⟩⟩)])) (g0 rfl) rfl rfl rfl ?_
            refine o_s (.box [.d (.lit (.int .i64 0)), .d (.lit (.int .i64 0)), .d (.lit (.bool false)), .d (.lit (.string ⟨⟨[]⟩⟩))]) (g0 rfl) rfl rfl rfl ?_
            refine o_st (.box [.d (.lit (.int .i64 x27.Number)), .d (.lit (.int .i64 x27.Epoch)), .d (.lit (.bool x27.Gone)), .d (.lit (.string ⟨⟨x27.By⟩⟩))]) (g0 rfl) rfl rfl rfl ?_
            refine o_nil ?_
            repeat (first | refine then_normal ?_ | refine then_exit ?_ | refine then_ret ?_ | refine block_normal ?_ | refine block_ret ?_ | refine block_exit ?_ | refine block_pass rfl ?_)
            refine c_seq ?_
            refine c_region ?_
            refine o_s (.t (.d (.lit (.int .i64 0)))) (g0 rfl) rfl rfl rfl ?_
            refine o_nil ?_
            repeat (first | refine then_normal ?_ | refine then_exit ?_ | refine then_ret ?_ | refine block_normal ?_ | refine block_ret ?_ | refine block_exit ?_ | refine block_pass rfl ?_)
            refine c_cut (fun (y29 : Int) => [(1, .box [.d (.lit (.int .i64 p0.Err)), .d (.lit (.int .i64 p0.Number)), .d (.lit (.string ⟨⟨p0.By⟩⟩)), .d (.seq 1 (bytesD p0.Data)), .d (.seq 1 (List.map cStr p0.Names)), .d (.seq 2 (List.map cS_api_Member p0.Members)), .d (.seq 4 (List.map cS_api_Past p0.History))]), (3, .t (.own 58 4 (List.map V.cells y1))), (5, .t (.own 58 4 (List.map V.cells y2))), (7, .t (.own 58 4 (List.map V.cells z24))), (8, .t (.d (.lit (.int .i64 z25)))), (9, .box [.d (.lit (.int .i64 x27.Number)), .d (.lit (.int .i64 x27.Epoch)), .d (.lit (.bool x27.Gone)), .d (.lit (.string ⟨⟨x27.By⟩⟩))]), (10, .t (.d (.lit (.int .i64 y29))))]) (fun (y29 : Int) => m_R31_Bytes_j5 (m_R31_Bytes_l4 p0 y1 y2 nl4) x27 z24 z25 y29 = some r) ?_ ?_
            · refine c_seq ?_
              refine c_region ?_
              refine o_s (.ref 9 2) (g0 rfl) rfl rfl rfl ?_
              refine o_s (.t (.d (.lit (.bool x27.Gone)))) (g0 rfl) rfl rfl rfl ?_
              refine o_nil ?_
              repeat (first | refine then_normal ?_ | refine then_exit ?_ | refine then_ret ?_ | refine block_normal ?_ | refine block_ret ?_ | refine block_exit ?_ | refine block_pass rfl ?_)
              rcases bif_some h with ⟨h44, h⟩ | ⟨h44, h⟩
              · refine c_t h44 rfl ?_
                refine c_region ?_
                refine o_s (.t (.d (.lit (.int .i64 1)))) (g0 rfl) rfl rfl rfl ?_
                refine o_nil ?_
                repeat (first | refine then_normal ?_ | refine then_exit ?_ | refine then_ret ?_ | refine block_normal ?_ | refine block_ret ?_ | refine block_exit ?_ | refine block_pass rfl ?_)
                exact ⟨1, h, ⟨(.refl _), ⟨(.refl _), ⟨(.refl _), ⟨(.refl _), ⟨(.refl _), ⟨(.refl _), ⟨(.refl _), trivial⟩⟩⟩⟩⟩⟩⟩, rfl⟩
              · refine c_f h44 rfl ?_
                refine c_skip ?_
                repeat (first | refine then_normal ?_ | refine then_exit ?_ | refine then_ret ?_ | refine block_normal ?_ | refine block_ret ?_ | refine block_exit ?_ | refine block_pass rfl ?_)
                exact ⟨0, h, ⟨(.refl _), ⟨(.refl _), ⟨(.refl _), ⟨(.refl _), ⟨(.refl _), ⟨(.refl _), ⟨(.refl _), trivial⟩⟩⟩⟩⟩⟩⟩, rfl⟩
            · rintro y29 h
              refine c_draw mixed (by kernel_rfl) ?_
              refine d_2 (.t (.d (.seq 4 (List.map V.cells z24)))) (.t (.own 58 4 (List.map V.cells z24))) rfl (dg0 rfl) rfl rfl rfl rfl rfl ?_
              refine d_s (.ref 9 0) rfl (dg0 rfl) rfl rfl rfl rfl ?_
              refine d_s (.t (.d (.lit (.int .i64 x27.Number)))) rfl (dg0 rfl) rfl rfl rfl rfl ?_
              obtain ⟨x30, h31, h⟩ := bind_some h
              refine d_ca (fc_R28_Num _ _ h31) rfl (dg0 rfl) rfl rfl rfl rfl rfl rfl rfl rfl (.cons (.refl _) .nil) rfl rfl ?_
              refine d_s (.ref 9 1) rfl (dg0 rfl) rfl rfl rfl rfl ?_
              refine d_s (.t (.d (.lit (.int .i64 x27.Epoch)))) rfl (dg0 rfl) rfl rfl rfl rfl ?_
              obtain ⟨x32, h33, h⟩ := bind_some h
              refine d_ca (fc_R28_Num _ _ h33) rfl (dg0 rfl) rfl rfl rfl rfl rfl rfl rfl rfl (.cons (.refl _) .nil) rfl rfl ?_
              refine d_s (.t (.d (.lit (.int .i64 y29)))) rfl (dg0 rfl) rfl rfl rfl rfl ?_
              obtain ⟨x34, h35, h⟩ := bind_some h
              refine d_ca (fc_R28_Num _ _ h35) rfl (dg0 rfl) rfl rfl rfl rfl rfl rfl rfl rfl (.cons (.refl _) .nil) rfl rfl ?_
              refine d_s (.ref 9 3) rfl (dg0 rfl) rfl rfl rfl rfl ?_
              refine d_s (.t (.d (.lit (.string ⟨⟨x27.By⟩⟩)))) rfl (dg0 rfl) rfl rfl rfl rfl ?_
              obtain ⟨x36, h37, h⟩ := bind_some h
              refine d_c rfl (dg0 rfl) rfl rfl rfl rfl (strBE h37) (strBC h37) ?_
              obtain ⟨x38, h39, h⟩ := bind_some h
              refine d_ca (fc_R28_Raw _ _ h39) rfl (dg0 rfl) rfl rfl rfl rfl rfl rfl rfl rfl (.cons (.refl _) .nil) rfl rfl ?_
              refine d_w (.t (.own 58 4 (List.map V.cells [(V.mk x30.k x30.n [] []), (V.mk x32.k x32.n [] []), (V.mk x34.k x34.n [] []), (V.mk x38.k x38.n x38.b [])]))) rfl (dg0 rfl) rfl rfl rfl rfl (.t (.rows _ _ (.cons (.cons (.refl _) (.cons (.refl _) (.cons (.nil _) (.cons (.nil _) .nil)))) (.cons (.cons (.refl _) (.cons (.refl _) (.cons (.nil _) (.cons (.nil _) .nil)))) (.cons (.cons (.refl _) (.cons (.refl _) (.cons (.nil _) (.cons (.nil _) .nil)))) (.cons (.cons (.refl _) (.cons (.refl _) (.cons (.refl _) (.cons (.nil _) .nil)))) .nil)))) (rowsE V.cells_eq [(V.mk x30.k x30.n [] []), (V.mk x32.k x32.n [] []), (V.mk x34.k x34.n [] []), (V.mk x38.k x38.n x38.b [])]))) (fun e => nomatch e) ?_
              obtain ⟨x40, h41, h⟩ := bind_some h
              refine d_ca (fc_R28_Of _ _ h41) rfl (dg0 rfl) rfl rfl rfl rfl rfl rfl rfl rfl (.cons (.refl _) .nil) rfl rfl ?_
              refine d_w (.t (.own 58 4 (List.map V.cells [(V.mk x40.k x40.n [] x40.l)]))) rfl (dg0 rfl) rfl rfl rfl rfl (.t (.rows _ _ (.cons (.cons (.refl _) (.cons (.refl _) (.cons (.nil _) (.cons (.refl _) .nil)))) .nil) (rowsE V.cells_eq [(V.mk x40.k x40.n [] x40.l)]))) (fun e => nomatch e) ?_
              obtain ⟨x42, h43, h⟩ := bind_some h
              refine d_2c rfl (dg0 rfl) rfl rfl rfl rfl rfl (appE (c := V.cells) h43) (appC (c := V.cells) h43) ?_
              refine d_2 (.t (.d (.seq 4 (List.map V.cells x42)))) (.t (.own 58 4 (List.map V.cells x42))) rfl (dg0 rfl) rfl rfl rfl rfl rfl ?_
              refine d_nil (by kernel_rfl) ?_
              repeat (first | refine then_normal ?_ | refine then_exit ?_ | refine then_ret ?_ | refine block_normal ?_ | refine block_ret ?_ | refine block_exit ?_ | refine block_pass rfl ?_)
              refine c_region ?_
              refine o_s (.t (.d (.lit (.int .i64 z25)))) (g0 rfl) rfl rfl rfl ?_
              refine o_s (.t (.d (.lit (.int .i64 (wi (z25 + 1)))))) (g0 rfl) rfl rfl rfl ?_
              refine o_s (.t (.d (.lit (.int .i64 (wi (z25 + 1)))))) (g0 rfl) rfl rfl rfl ?_
              refine o_nil ?_
              repeat (first | refine then_normal ?_ | refine then_exit ?_ | refine then_ret ?_ | refine block_normal ?_ | refine block_ret ?_ | refine block_exit ?_ | refine block_pass rfl ?_)
              exact ⟨nl4, (x42, (wi (z25 + 1))), Nat.lt_succ_self nl4, h, ⟨(.refl _), ⟨(.refl _), ⟨(.refl _), ⟨(.refl _), ⟨(.refl _), trivial⟩⟩⟩⟩⟩, rfl⟩
          · refine c_f h26 rfl ?_
            refine c_exit ?_
            repeat (first | refine then_normal ?_ | refine then_exit ?_ | refine then_ret ?_ | refine block_normal ?_ | refine block_ret ?_ | refine block_exit ?_ | refine block_pass rfl ?_)
            exact ⟨z24, h, ⟨(.refl _), ⟨(.refl _), ⟨(.refl _), ⟨(.refl _), trivial⟩⟩⟩⟩, rfl⟩
      · rintro y3 h
        refine c_seq ?_
        refine c_draw mixed (by kernel_rfl) ?_
        refine d_s (.ref 1 0) rfl (dg0 rfl) rfl rfl rfl rfl ?_
        refine d_s (.t (.d (.lit (.int .i64 p0.Err)))) rfl (dg0 rfl) rfl rfl rfl rfl ?_
        obtain ⟨x4, h5, h⟩ := bind_some h
        refine d_ca (fc_R28_Num _ _ h5) rfl (dg0 rfl) rfl rfl rfl rfl rfl rfl rfl rfl (.cons (.refl _) .nil) rfl rfl ?_
        refine d_s (.ref 1 1) rfl (dg0 rfl) rfl rfl rfl rfl ?_
        refine d_s (.t (.d (.lit (.int .i64 p0.Number)))) rfl (dg0 rfl) rfl rfl rfl rfl ?_
        obtain ⟨x6, h7, h⟩ := bind_some h
        refine d_ca (fc_R28_Num _ _ h7) rfl (dg0 rfl) rfl rfl rfl rfl rfl rfl rfl rfl (.cons (.refl _) .nil) rfl rfl ?_
        refine d_s (.ref 1 2) rfl (dg0 rfl) rfl rfl rfl rfl ?_
        refine d_s (.t (.d (.lit (.string ⟨⟨p0.By⟩⟩)))) rfl (dg0 rfl) rfl rfl rfl rfl ?_
        obtain ⟨x8, h9, h⟩ := bind_some h
        refine d_c rfl (dg0 rfl) rfl rfl rfl rfl (strBE h9) (strBC h9) ?_
        obtain ⟨x10, h11, h⟩ := bind_some h
        refine d_ca (fc_R28_Raw _ _ h11) rfl (dg0 rfl) rfl rfl rfl rfl rfl rfl rfl rfl (.cons (.refl _) .nil) rfl rfl ?_
        refine d_s (.ref 1 3) rfl (dg0 rfl) rfl rfl rfl rfl ?_
        refine d_s (.t (.d (.seq 1 (bytesD p0.Data)))) rfl (dg0 rfl) rfl rfl rfl rfl ?_
        obtain ⟨x12, h13, h⟩ := bind_some h
        refine d_ca (fc_R28_Raw _ _ h13) rfl (dg0 rfl) rfl rfl rfl rfl rfl rfl rfl rfl (.cons (.refl _) .nil) rfl rfl ?_
        refine d_2 (.t (.d (.seq 4 (List.map V.cells y1)))) (.t (.own 58 4 (List.map V.cells y1))) rfl (dg0 rfl) rfl rfl rfl rfl rfl ?_
        obtain ⟨x14, h15, h⟩ := bind_some h
        refine d_ca (fc_R28_Of _ _ h15) rfl (dg0 rfl) rfl rfl rfl rfl rfl rfl rfl rfl (.cons (.refl _) .nil) rfl rfl ?_
        refine d_2 (.t (.d (.seq 4 (List.map V.cells y2)))) (.t (.own 58 4 (List.map V.cells y2))) rfl (dg0 rfl) rfl rfl rfl rfl rfl ?_
        obtain ⟨x16, h17, h⟩ := bind_some h
        refine d_ca (fc_R28_Of _ _ h17) rfl (dg0 rfl) rfl rfl rfl rfl rfl rfl rfl rfl (.cons (.refl _) .nil) rfl rfl ?_
        refine d_2 (.t (.d (.seq 4 (List.map V.cells y3)))) (.t (.own 58 4 (List.map V.cells y3))) rfl (dg0 rfl) rfl rfl rfl rfl rfl ?_
        obtain ⟨x18, h19, h⟩ := bind_some h
        refine d_ca (fc_R28_Of _ _ h19) rfl (dg0 rfl) rfl rfl rfl rfl rfl rfl rfl rfl (.cons (.refl _) .nil) rfl rfl ?_
        refine d_w (.t (.own 58 4 (List.map V.cells [(V.mk x4.k x4.n [] []), (V.mk x6.k x6.n [] []), (V.mk x10.k x10.n x10.b []), (V.mk x12.k x12.n x12.b []), (V.mk x14.k x14.n [] x14.l), (V.mk x16.k x16.n [] x16.l), (V.mk x18.k x18.n [] x18.l)]))) rfl (dg0 rfl) rfl rfl rfl rfl (.t (.rows _ _ (.cons (.cons (.refl _) (.cons (.refl _) (.cons (.nil _) (.cons (.nil _) .nil)))) (.cons (.cons (.refl _) (.cons (.refl _) (.cons (.nil _) (.cons (.nil _) .nil)))) (.cons (.cons (.refl _) (.cons (.refl _) (.cons (.refl _) (.cons (.nil _) .nil)))) (.cons (.cons (.refl _) (.cons (.refl _) (.cons (.refl _) (.cons (.nil _) .nil)))) (.cons (.cons (.refl _) (.cons (.refl _) (.cons (.nil _) (.cons (.refl _) .nil)))) (.cons (.cons (.refl _) (.cons (.refl _) (.cons (.nil _) (.cons (.refl _) .nil)))) (.cons (.cons (.refl _) (.cons (.refl _) (.cons (.nil _) (.cons (.refl _) .nil)))) .nil))))))) (rowsE V.cells_eq [(V.mk x4.k x4.n [] []), (V.mk x6.k x6.n [] []), (V.mk x10.k x10.n x10.b []), (V.mk x12.k x12.n x12.b []), (V.mk x14.k x14.n [] x14.l), (V.mk x16.k x16.n [] x16.l), (V.mk x18.k x18.n [] x18.l)]))) (fun e => nomatch e) ?_
        obtain ⟨x20, h21, h⟩ := bind_some h
        refine d_ca (fc_R28_Of _ _ h21) rfl (dg0 rfl) rfl rfl rfl rfl rfl rfl rfl rfl (.cons (.refl _) .nil) rfl rfl ?_
        obtain ⟨x22, h23, h⟩ := bind_some h
        refine d_ca (fc_R02_Bytes _ _ _ h23) rfl (dg0 rfl) rfl rfl rfl rfl rfl rfl rfl rfl (.cons (.t (.agg (.cons (.refl _) (.cons (.refl _) (.cons (.nil _) (.cons (.refl _) .nil)))))) .nil) rfl rfl ?_
        refine d_2 (.t (.d (.seq 1 (bytesD x22)))) (.t (.own 5 1 (bytesD x22))) rfl (dg0 rfl) rfl rfl rfl rfl rfl ?_
        refine d_nil (by kernel_rfl) ?_
        repeat (first | refine then_normal ?_ | refine then_exit ?_ | refine then_ret ?_ | refine block_normal ?_ | refine block_ret ?_ | refine block_exit ?_ | refine block_pass rfl ?_)
        refine c_ret ?_
        repeat (first | refine then_normal ?_ | refine then_exit ?_ | refine then_ret ?_ | refine block_normal ?_ | refine block_ret ?_ | refine block_exit ?_ | refine block_pass rfl ?_)
        obtain rfl := Option.some.inj h
        exact end0 rfl (.refl _)

end Go.Proofs.Ytimdogdplphmoac
