/-
  Walks of functions: each function does what its model tells. Printed by a program of this claim's own (gen.py) off the given translation.
-/
import Derived.Test.YteopjhakjeknaaaAkM
import Derived.Test.YteopjhakjeknaaaCbW
import Derived.Test.YteopjhakjeknaaaClo
namespace Go.Proofs.Yteopjhakjeknaaa
open Go Go.RowKit
set_option linter.unusedVariables false
set_option maxHeartbeats 4000000
set_option maxRecDepth 20000
theorem fc_answer_word (p0 : (List UInt8)) (r : V) (h : m_answer_word p0 = some r) : FC Try.prog 61 [.t (.d (.lit (.string ⟨⟨p0⟩⟩)))] [] (.t (.agg [.lit (.int .i64 r.k), .lit (.int .i64 r.n), .seq 1 (bytesD r.b), .seq 4 (List.map V.cells r.l)])) := by
  refine fc_mk (rs := [.cell 2 49]) (n := 6) Try.func61 rfl rfl (Nat.le_of_ble_eq_true rfl) rfl (pins := []) rfl (L := [(0, .t (.d (.lit (.string ⟨⟨p0⟩⟩))))]) rfl ?_
  refine c_seq ?_
  refine c_region ?_
  refine o_s (.box [.d (.lit (.int .i64 0)), .d (.lit (.int .i64 0)), .d (.lit (.slice none 0 0)), .d (.lit (.slice none 0 0))]) (g0 rfl) rfl rfl rfl ?_
  refine o_nil ?_
  repeat (first | refine then_normal ?_ | refine then_exit ?_ | refine then_ret ?_ | refine block_normal ?_ | refine block_ret ?_ | refine block_exit ?_ | refine block_pass rfl ?_)
  refine c_seq ?_
  refine c_region ?_
  refine o_s (.t (.d (.lit (.string ⟨⟨p0⟩⟩)))) (g0 rfl) rfl rfl rfl ?_
  obtain ⟨x1, h2, h⟩ := bind_some h
  refine o_c (g0 rfl) rfl rfl rfl (strBE h2) (strBC h2) ?_
  obtain ⟨x3, h4, h⟩ := bind_some h
  refine o_ca (fc_codec_Raw _ _ h4) (g0 rfl) rfl rfl rfl rfl rfl rfl rfl (.cons (.refl _) .nil) rfl rfl ?_
  refine o_st (.box [.d (.lit (.int .i64 x3.k)), .d (.lit (.int .i64 x3.n)), .d (.seq 1 (bytesD x3.b)), .d (.lit (.slice none 0 0))]) (g0 rfl) rfl rfl rfl ?_
  refine o_nil ?_
  repeat (first | refine then_normal ?_ | refine then_exit ?_ | refine then_ret ?_ | refine block_normal ?_ | refine block_ret ?_ | refine block_exit ?_ | refine block_pass rfl ?_)
  refine c_ret ?_
  repeat (first | refine then_normal ?_ | refine then_exit ?_ | refine then_ret ?_ | refine block_normal ?_ | refine block_ret ?_ | refine block_exit ?_ | refine block_pass rfl ?_)
  obtain rfl := Option.some.inj h
  exact end0 rfl (.t (.agg (.cons (.refl _) (.cons (.refl _) (.cons (.refl _) (.cons (.nil _) .nil))))))

theorem fc_answer_list_string (p0 : (List (List UInt8))) (F1 : Nat) (C1 : List (List D)) (p1 : ((List UInt8) → Option V)) (hp1 : ∀ (a0 : (List UInt8)) r, p1 a0 = some r → FC Try.prog F1 ([.t (.d (.lit (.string ⟨⟨a0⟩⟩)))] ++ C1.map A.imm) [] (.t (.agg [.lit (.int .i64 r.k), .lit (.int .i64 r.n), .seq 1 (bytesD r.b), .seq 4 (List.map V.cells r.l)]))) (hf1 : ∃ fn, Try.prog.funcs[F1]? = some fn ∧ fn.body.isNone = false ∧ (fn.name == "runtime.NumGoroutine") = false) (r : V) (h : m_answer_list_string p0 p1 = some r) : FC Try.prog 63 [.t (.d (.seq 1 (List.map cStr p0))), .t (.d (.clo F1 C1))] [] (.t (.agg [.lit (.int .i64 r.k), .lit (.int .i64 r.n), .lit (.slice none 0 0), .seq 4 (List.map V.cells r.l)])) := by
  refine fc_mk (rs := [.cell 4 49]) (n := 25) Try.func63 rfl rfl (Nat.le_of_ble_eq_true rfl) rfl (pins := []) rfl (L := [(0, .t (.d (.seq 1 (List.map cStr p0)))), (1, .t (.d (.clo F1 C1)))]) rfl ?_
  refine c_seq ?_
  refine c_region ?_
  refine o_s (.box [.d (.lit (.int .i64 0)), .d (.lit (.int .i64 0)), .d (.lit (.slice none 0 0)), .d (.lit (.slice none 0 0))]) (g0 rfl) rfl rfl rfl ?_
  refine o_nil ?_
  repeat (first | refine then_normal ?_ | refine then_exit ?_ | refine then_ret ?_ | refine block_normal ?_ | refine block_ret ?_ | refine block_exit ?_ | refine block_pass rfl ?_)
  refine c_seq ?_
  refine c_region ?_
  obtain ⟨x1, h2, h⟩ := bind_some h
  refine o_ca (fc_codec_Of_n0 _ h2) (g0 rfl) rfl rfl rfl rfl rfl rfl rfl (.cons (.refl _) .nil) rfl rfl ?_
  refine o_s (.box [.d (.lit (.int .i64 0)), .d (.lit (.int .i64 0)), .d (.lit (.slice none 0 0)), .d (.lit (.slice none 0 0))]) (g0 rfl) rfl rfl rfl ?_
  refine o_st (.box [.d (.lit (.int .i64 x1.k)), .d (.lit (.int .i64 x1.n)), .d (.lit (.slice none 0 0)), .d (.lit (.slice none 0 0))]) (g0 rfl) rfl rfl rfl ?_
  refine o_nil ?_
  repeat (first | refine then_normal ?_ | refine then_exit ?_ | refine then_ret ?_ | refine block_normal ?_ | refine block_ret ?_ | refine block_exit ?_ | refine block_pass rfl ?_)
  refine c_seq ?_
  refine c_seq ?_
  refine c_region ?_
  refine o_s (.t (.d (.seq 1 (List.map cStr p0)))) (g0 rfl) rfl rfl rfl ?_
  refine o_c (g0 rfl) rfl rfl rfl (lenE _ _) trivial ?_
  refine o_s (.t (.d (.lit (.int .i64 0)))) (g0 rfl) rfl rfl rfl ?_
  refine o_nil ?_
  repeat (first | refine then_normal ?_ | refine then_exit ?_ | refine then_ret ?_ | refine block_normal ?_ | refine block_ret ?_ | refine block_exit ?_ | refine block_pass rfl ?_)
  refine c_block ?_
  refine c_fuel (fun (q : (List V) × Int) => [(1, .t (.d (.clo F1 C1))), (4, .box [.d (.lit (.int .i64 0)), .d (.lit (.int .i64 0)), .d (.lit (.slice none 0 0)), .d (.lit (.slice none 0 0))]), (5, .box [.d (.lit (.int .i64 x1.k)), .d (.lit (.int .i64 x1.n)), .d (.lit (.slice none 0 0)), .own 49 4 (List.map V.cells q.1)]), (9, .t (.d (.seq 1 (List.map cStr p0)))), (10, .t (.d (.lit (.int .i64 (p0.length : Int))))), (11, .t (.d (.lit (.int .i64 q.2))))]) (fun nl1 => (fun (q : (List V) × Int) => m_answer_list_string_l1 p0 p1 x1 nl1 q.1 q.2 = some r)) (p0.length + 1) ([], 0) h ⟨(.refl _), ⟨(.refl _), ⟨(.box (.cons (.refl _) (.cons (.refl _) (.cons (.refl _) (.cons (.nilOwn _ _) .nil)))) rfl), ⟨(.refl _), ⟨(.refl _), ⟨(.refl _), trivial⟩⟩⟩⟩⟩⟩ rfl ?_
  rintro nl1 ⟨z3, z4⟩ h
  cases nl1 with
  | zero => exact none_ne h
  | succ nl1 =>
    refine c_seq ?_
    refine c_region ?_
    refine o_s (.t (.d (.lit (.bool (decide (z4 < (p0.length : Int))))))) (g0 rfl) rfl rfl rfl ?_
    refine o_nil ?_
    repeat (first | refine then_normal ?_ | refine then_exit ?_ | refine then_ret ?_ | refine block_normal ?_ | refine block_ret ?_ | refine block_exit ?_ | refine block_pass rfl ?_)
    refine c_seq ?_
    rcases bif_some h with ⟨h5, h⟩ | ⟨h5, h⟩
    · refine c_t h5 rfl ?_
      refine c_skip ?_
      repeat (first | refine then_normal ?_ | refine then_exit ?_ | refine then_ret ?_ | refine block_normal ?_ | refine block_ret ?_ | refine block_exit ?_ | refine block_pass rfl ?_)
      refine c_seq ?_
      refine c_block ?_
      refine c_seq ?_
      refine c_region ?_
      obtain ⟨x6, h7, h⟩ := bind_some h
      refine o_c (g0 rfl) rfl rfl rfl (idxE h7) (idxC h7) ?_
      refine o_s (.t (.d (.lit (.string ⟨⟨x6⟩⟩)))) (g0 rfl) rfl rfl rfl ?_
      refine o_s (.t (.d (.lit (.string ⟨⟨x6⟩⟩)))) (g0 rfl) rfl rfl rfl ?_
      refine o_nil ?_
      repeat (first | refine then_normal ?_ | refine then_exit ?_ | refine then_ret ?_ | refine block_normal ?_ | refine block_ret ?_ | refine block_exit ?_ | refine block_pass rfl ?_)
      refine c_draw mixed (by kernel_rfl) ?_
      refine d_s (.ref 5 3) rfl (dg0 rfl) rfl rfl rfl rfl ?_
      refine d_2 (.box [.d (.lit (.int .i64 x1.k)), .d (.lit (.int .i64 x1.n)), .d (.lit (.slice none 0 0)), .d (.seq 4 (List.map V.cells z3))]) (.t (.own 49 4 (List.map V.cells z3))) rfl (dg0 rfl) rfl rfl rfl rfl rfl ?_
      refine d_s (.t (.d (.clo F1 C1))) rfl (dg0 rfl) rfl rfl rfl rfl ?_
      refine d_s (.t (.d (.lit (.string ⟨⟨x6⟩⟩)))) rfl (dg0 rfl) rfl rfl rfl rfl ?_
      obtain ⟨x8, h9, h⟩ := bind_some h
      refine d_cc (hp1 _ _ h9) rfl (dg0 rfl) rfl rfl rfl rfl rfl hf1.choose_spec.1 hf1.choose_spec.2.1 hf1.choose_spec.2.2 (.cons (.refl _) .nil) rfl rfl ?_
      refine d_c rfl (dg0 rfl) rfl rfl rfl rfl (congrArg (fun z => A.t (.own 49 4 z)) (rowsE V.cells_eq [x8])) trivial ?_
      obtain ⟨x10, h11, h⟩ := bind_some h
      refine d_2c rfl (dg0 rfl) rfl rfl rfl rfl rfl (appE (c := V.cells) h11) (appC (c := V.cells) h11) ?_
      refine d_s (.ref 5 3) rfl (dg0 rfl) rfl rfl rfl rfl ?_
      refine d_st2 (.t (.d (.seq 4 (List.map V.cells x10)))) (.box [.d (.lit (.int .i64 x1.k)), .d (.lit (.int .i64 x1.n)), .d (.lit (.slice none 0 0)), .own 49 4 (List.map V.cells x10)]) rfl (dg0 rfl) rfl rfl rfl rfl rfl ?_
      refine d_nil (by kernel_rfl) ?_
      repeat (first | refine then_normal ?_ | refine then_exit ?_ | refine then_ret ?_ | refine block_normal ?_ | refine block_ret ?_ | refine block_exit ?_ | refine block_pass rfl ?_)
      refine c_region ?_
      refine o_s (.t (.d (.lit (.int .i64 (wi (z4 + 1)))))) (g0 rfl) rfl rfl rfl ?_
      refine o_s (.t (.d (.lit (.int .i64 (wi (z4 + 1)))))) (g0 rfl) rfl rfl rfl ?_
      refine o_nil ?_
      repeat (first | refine then_normal ?_ | refine then_exit ?_ | refine then_ret ?_ | refine block_normal ?_ | refine block_ret ?_ | refine block_exit ?_ | refine block_pass rfl ?_)
      exact ⟨nl1, (x10, (wi (z4 + 1))), Nat.lt_succ_self nl1, h, ⟨(.refl _), ⟨(.refl _), ⟨(.refl _), ⟨(.refl _), ⟨(.refl _), ⟨(.refl _), trivial⟩⟩⟩⟩⟩⟩, rfl⟩
    · refine c_f h5 rfl ?_
      refine c_exit ?_
      repeat (first | refine then_normal ?_ | refine then_exit ?_ | refine then_ret ?_ | refine block_normal ?_ | refine block_ret ?_ | refine block_exit ?_ | refine block_pass rfl ?_)
      refine c_seq ?_
      refine c_region ?_
      refine o_s (.t (.agg [.lit (.int .i64 x1.k), .lit (.int .i64 x1.n), .lit (.slice none 0 0), .seq 4 (List.map V.cells z3)])) (g0 rfl) rfl rfl rfl ?_
      refine o_st (.box [.d (.lit (.int .i64 x1.k)), .d (.lit (.int .i64 x1.n)), .d (.lit (.slice none 0 0)), .d (.seq 4 (List.map V.cells z3))]) (g0 rfl) rfl rfl rfl ?_
      refine o_nil ?_
      repeat (first | refine then_normal ?_ | refine then_exit ?_ | refine then_ret ?_ | refine block_normal ?_ | refine block_ret ?_ | refine block_exit ?_ | refine block_pass rfl ?_)
      refine c_ret ?_
      repeat (first | refine then_normal ?_ | refine then_exit ?_ | refine then_ret ?_ | refine block_normal ?_ | refine block_ret ?_ | refine block_exit ?_ | refine block_pass rfl ?_)
      obtain rfl := Option.some.inj h
      exact end0 rfl (.refl _)

theorem fc_answer_list_Member (p0 : (List S_api_Member)) (F1 : Nat) (C1 : List (List D)) (p1 : (S_api_Member → Option V)) (hp1 : ∀ (a0 : S_api_Member) r, p1 a0 = some r → FC Try.prog F1 ([.t (.agg [.lit (.string ⟨⟨a0.Name⟩⟩), .lit (.int .i64 a0.Role)])] ++ C1.map A.imm) [] (.t (.agg [.lit (.int .i64 r.k), .lit (.int .i64 r.n), .seq 1 (bytesD r.b), .seq 4 (List.map V.cells r.l)]))) (hf1 : ∃ fn, Try.prog.funcs[F1]? = some fn ∧ fn.body.isNone = false ∧ (fn.name == "runtime.NumGoroutine") = false) (r : V) (h : m_answer_list_Member p0 p1 = some r) : FC Try.prog 64 [.t (.d (.seq 2 (List.map cS_api_Member p0))), .t (.d (.clo F1 C1))] [] (.t (.agg [.lit (.int .i64 r.k), .lit (.int .i64 r.n), .lit (.slice none 0 0), .seq 4 (List.map V.cells r.l)])) := by
  refine fc_mk (rs := [.cell 4 49]) (n := 25) Try.func64 rfl rfl (Nat.le_of_ble_eq_true rfl) rfl (pins := []) rfl (L := [(0, .t (.d (.seq 2 (List.map cS_api_Member p0)))), (1, .t (.d (.clo F1 C1)))]) rfl ?_
  refine c_seq ?_
  refine c_region ?_
  refine o_s (.box [.d (.lit (.int .i64 0)), .d (.lit (.int .i64 0)), .d (.lit (.slice none 0 0)), .d (.lit (.slice none 0 0))]) (g0 rfl) rfl rfl rfl ?_
  refine o_nil ?_
  repeat (first | refine then_normal ?_ | refine then_exit ?_ | refine then_ret ?_ | refine block_normal ?_ | refine block_ret ?_ | refine block_exit ?_ | refine block_pass rfl ?_)
  refine c_seq ?_
  refine c_region ?_
  obtain ⟨x1, h2, h⟩ := bind_some h
  refine o_ca (fc_codec_Of_n0 _ h2) (g0 rfl) rfl rfl rfl rfl rfl rfl rfl (.cons (.refl _) .nil) rfl rfl ?_
  refine o_s (.box [.d (.lit (.int .i64 0)), .d (.lit (.int .i64 0)), .d (.lit (.slice none 0 0)), .d (.lit (.slice none 0 0))]) (g0 rfl) rfl rfl rfl ?_
  refine o_st (.box [.d (.lit (.int .i64 x1.k)), .d (.lit (.int .i64 x1.n)), .d (.lit (.slice none 0 0)), .d (.lit (.slice none 0 0))]) (g0 rfl) rfl rfl rfl ?_
  refine o_nil ?_
  repeat (first | refine then_normal ?_ | refine then_exit ?_ | refine then_ret ?_ | refine block_normal ?_ | refine block_ret ?_ | refine block_exit ?_ | refine block_pass rfl ?_)
  refine c_seq ?_
  refine c_seq ?_
  refine c_region ?_
  refine o_s (.t (.d (.seq 2 (List.map cS_api_Member p0)))) (g0 rfl) rfl rfl rfl ?_
  refine o_c (g0 rfl) rfl rfl rfl (lenE _ _) trivial ?_
  refine o_s (.t (.d (.lit (.int .i64 0)))) (g0 rfl) rfl rfl rfl ?_
  refine o_nil ?_
  repeat (first | refine then_normal ?_ | refine then_exit ?_ | refine then_ret ?_ | refine block_normal ?_ | refine block_ret ?_ | refine block_exit ?_ | refine block_pass rfl ?_)
  refine c_block ?_
  refine c_fuel (fun (q : (List V) × Int) => [(1, .t (.d (.clo F1 C1))), (4, .box [.d (.lit (.int .i64 0)), .d (.lit (.int .i64 0)), .d (.lit (.slice none 0 0)), .d (.lit (.slice none 0 0))]), (5, .box [.d (.lit (.int .i64 x1.k)), .d (.lit (.int .i64 x1.n)), .d (.lit (.slice none 0 0)), .own 49 4 (List.map V.cells q.1)]), (9, .t (.d (.seq 2 (List.map cS_api_Member p0)))), (10, .t (.d (.lit (.int .i64 (p0.length : Int))))), (11, .t (.d (.lit (.int .i64 q.2))))]) (fun nl1 => (fun (q : (List V) × Int) => m_answer_list_Member_l1 p0 p1 x1 nl1 q.1 q.2 = some r)) (p0.length + 1) ([], 0) h ⟨(.refl _), ⟨(.refl _), ⟨(.box (.cons (.refl _) (.cons (.refl _) (.cons (.refl _) (.cons (.nilOwn _ _) .nil)))) rfl), ⟨(.refl _), ⟨(.refl _), ⟨(.refl _), trivial⟩⟩⟩⟩⟩⟩ rfl ?_
  rintro nl1 ⟨z3, z4⟩ h
  cases nl1 with
  | zero => exact none_ne h
  | succ nl1 =>
    refine c_seq ?_
    refine c_region ?_
    refine o_s (.t (.d (.lit (.bool (decide (z4 < (p0.length : Int))))))) (g0 rfl) rfl rfl rfl ?_
    refine o_nil ?_
    repeat (first | refine then_normal ?_ | refine then_exit ?_ | refine then_ret ?_ | refine block_normal ?_ | refine block_ret ?_ | refine block_exit ?_ | refine block_pass rfl ?_)
    refine c_seq ?_
    rcases bif_some h with ⟨h5, h⟩ | ⟨h5, h⟩
    · refine c_t h5 rfl ?_
      refine c_skip ?_
      repeat (first | refine then_normal ?_ | refine then_exit ?_ | refine then_ret ?_ | refine block_normal ?_ | refine block_ret ?_ | refine block_exit ?_ | refine block_pass rfl ?_)
      refine c_seq ?_
      refine c_block ?_
      refine c_seq ?_
      refine c_region ?_
      obtain ⟨x6, h7, h⟩ := bind_some h
      refine o_c (g0 rfl) rfl rfl rfl (idxE h7) (idxC h7) ?_
      refine o_s (.t (.agg [.lit (.string ⟨⟨x6.Name⟩⟩), .lit (.int .i64 x6.Role)])) (g0 rfl) rfl rfl rfl ?_
      refine o_s (.box [.d (.lit (.string ⟨⟨[]⟩⟩)), .d (.lit (.int .i64 0))]) (g0 rfl) rfl rfl rfl ?_
      refine o_st (.box [.d (.lit (.string ⟨⟨x6.Name⟩⟩)), .d (.lit (.int .i64 x6.Role))]) (g0 rfl) rfl rfl rfl ?_
      refine o_nil ?_
      repeat (first | refine then_normal ?_ | refine then_exit ?_ | refine then_ret ?_ | refine block_normal ?_ | refine block_ret ?_ | refine block_exit ?_ | refine block_pass rfl ?_)
      refine c_draw mixed (by kernel_rfl) ?_
      refine d_s (.ref 5 3) rfl (dg0 rfl) rfl rfl rfl rfl ?_
      refine d_2 (.box [.d (.lit (.int .i64 x1.k)), .d (.lit (.int .i64 x1.n)), .d (.lit (.slice none 0 0)), .d (.seq 4 (List.map V.cells z3))]) (.t (.own 49 4 (List.map V.cells z3))) rfl (dg0 rfl) rfl rfl rfl rfl rfl ?_
      refine d_s (.t (.d (.clo F1 C1))) rfl (dg0 rfl) rfl rfl rfl rfl ?_
      refine d_s (.t (.agg [.lit (.string ⟨⟨x6.Name⟩⟩), .lit (.int .i64 x6.Role)])) rfl (dg0 rfl) rfl rfl rfl rfl ?_
      obtain ⟨x8, h9, h⟩ := bind_some h
      refine d_cc (hp1 _ _ h9) rfl (dg0 rfl) rfl rfl rfl rfl rfl hf1.choose_spec.1 hf1.choose_spec.2.1 hf1.choose_spec.2.2 (.cons (.refl _) .nil) rfl rfl ?_
      refine d_c rfl (dg0 rfl) rfl rfl rfl rfl (congrArg (fun z => A.t (.own 49 4 z)) (rowsE V.cells_eq [x8])) trivial ?_
      obtain ⟨x10, h11, h⟩ := bind_some h
      refine d_2c rfl (dg0 rfl) rfl rfl rfl rfl rfl (appE (c := V.cells) h11) (appC (c := V.cells) h11) ?_
      refine d_s (.ref 5 3) rfl (dg0 rfl) rfl rfl rfl rfl ?_
      refine d_st2 (.t (.d (.seq 4 (List.map V.cells x10)))) (.box [.d (.lit (.int .i64 x1.k)), .d (.lit (.int .i64 x1.n)), .d (.lit (.slice none 0 0)), .own 49 4 (List.map V.cells x10)]) rfl (dg0 rfl) rfl rfl rfl rfl rfl ?_
      refine d_nil (by kernel_rfl) ?_
      repeat (first | refine then_normal ?_ | refine then_exit ?_ | refine then_ret ?_ | refine block_normal ?_ | refine block_ret ?_ | refine block_exit ?_ | refine block_pass rfl ?_)
      refine c_region ?_
      refine o_s (.t (.d (.lit (.int .i64 (wi (z4 + 1)))))) (g0 rfl) rfl rfl rfl ?_
      refine o_s (.t (.d (.lit (.int .i64 (wi (z4 + 1)))))) (g0 rfl) rfl rfl rfl ?_
      refine o_nil ?_
      repeat (first | refine then_normal ?_ | refine then_exit ?_ | refine then_ret ?_ | refine block_normal ?_ | refine block_ret ?_ | refine block_exit ?_ | refine block_pass rfl ?_)
      exact ⟨nl1, (x10, (wi (z4 + 1))), Nat.lt_succ_self nl1, h, ⟨(.refl _), ⟨(.refl _), ⟨(.refl _), ⟨(.refl _), ⟨(.refl _), ⟨(.refl _), trivial⟩⟩⟩⟩⟩⟩, rfl⟩
    · refine c_f h5 rfl ?_
      refine c_exit ?_
      repeat (first | refine then_normal ?_ | refine then_exit ?_ | refine then_ret ?_ | refine block_normal ?_ | refine block_ret ?_ | refine block_exit ?_ | refine block_pass rfl ?_)
      refine c_seq ?_
      refine c_region ?_
      refine o_s (.t (.agg [.lit (.int .i64 x1.k), .lit (.int .i64 x1.n), .lit (.slice none 0 0), .seq 4 (List.map V.cells z3)])) (g0 rfl) rfl rfl rfl ?_
      refine o_st (.box [.d (.lit (.int .i64 x1.k)), .d (.lit (.int .i64 x1.n)), .d (.lit (.slice none 0 0)), .d (.seq 4 (List.map V.cells z3))]) (g0 rfl) rfl rfl rfl ?_
      refine o_nil ?_
      repeat (first | refine then_normal ?_ | refine then_exit ?_ | refine then_ret ?_ | refine block_normal ?_ | refine block_ret ?_ | refine block_exit ?_ | refine block_pass rfl ?_)
      refine c_ret ?_
      repeat (first | refine then_normal ?_ | refine then_exit ?_ | refine then_ret ?_ | refine block_normal ?_ | refine block_ret ?_ | refine block_exit ?_ | refine block_pass rfl ?_)
      obtain rfl := Option.some.inj h
      exact end0 rfl (.refl _)

theorem fc_answer_value_c1 (p0 : S_api_Member) (r : V) (h : m_answer_value_c1 p0 = some r) : FC Try.prog 65 [.t (.agg [.lit (.string ⟨⟨p0.Name⟩⟩), .lit (.int .i64 p0.Role)])] [] (.t (.agg [.lit (.int .i64 r.k), .lit (.int .i64 r.n), .seq 1 (bytesD r.b), .seq 4 (List.map V.cells r.l)])) := by
  refine fc_mk (rs := [.cell 2 49]) (n := 11) Try.func65 rfl rfl (Nat.le_of_ble_eq_true rfl) rfl (pins := []) rfl (L := [(0, .t (.agg [.lit (.string ⟨⟨p0.Name⟩⟩), .lit (.int .i64 p0.Role)]))]) rfl ?_
  refine c_seq ?_
  refine c_region ?_
  refine o_s (.box [.d (.lit (.string ⟨⟨p0.Name⟩⟩)), .d (.lit (.int .i64 p0.Role))]) (g0 rfl) rfl rfl rfl ?_
  refine o_s (.box [.d (.lit (.int .i64 0)), .d (.lit (.int .i64 0)), .d (.lit (.slice none 0 0)), .d (.lit (.slice none 0 0))]) (g0 rfl) rfl rfl rfl ?_
  refine o_nil ?_
  repeat (first | refine then_normal ?_ | refine then_exit ?_ | refine then_ret ?_ | refine block_normal ?_ | refine block_ret ?_ | refine block_exit ?_ | refine block_pass rfl ?_)
  refine c_seq ?_
  refine c_draw mixed (by kernel_rfl) ?_
  refine d_s (.ref 1 0) rfl (dg0 rfl) rfl rfl rfl rfl ?_
  refine d_s (.t (.d (.lit (.string ⟨⟨p0.Name⟩⟩)))) rfl (dg0 rfl) rfl rfl rfl rfl ?_
  obtain ⟨x1, h2, h⟩ := bind_some h
  refine d_ca (fc_answer_word _ _ h2) rfl (dg0 rfl) rfl rfl rfl rfl rfl rfl rfl rfl (.cons (.refl _) .nil) rfl rfl ?_
  refine d_s (.ref 1 1) rfl (dg0 rfl) rfl rfl rfl rfl ?_
  refine d_s (.t (.d (.lit (.int .i64 p0.Role)))) rfl (dg0 rfl) rfl rfl rfl rfl ?_
  obtain ⟨x3, h4, h⟩ := bind_some h
  refine d_ca (fc_codec_Num _ _ h4) rfl (dg0 rfl) rfl rfl rfl rfl rfl rfl rfl rfl (.cons (.refl _) .nil) rfl rfl ?_
  refine d_w (.t (.own 49 4 (List.map V.cells [x1, (V.mk x3.k x3.n [] [])]))) rfl (dg0 rfl) rfl rfl rfl rfl (.t (.rows _ _ (.cons (.cons (.refl _) (.cons (.refl _) (.cons (.refl _) (.cons (.refl _) .nil)))) (.cons (.cons (.refl _) (.cons (.refl _) (.cons (.nil _) (.cons (.nil _) .nil)))) .nil)) (rowsE V.cells_eq [x1, (V.mk x3.k x3.n [] [])]))) (fun e => nomatch e) ?_
  obtain ⟨x5, h6, h⟩ := bind_some h
  refine d_ca (fc_codec_Of _ _ h6) rfl (dg0 rfl) rfl rfl rfl rfl rfl rfl rfl rfl (.cons (.refl _) .nil) rfl rfl ?_
  refine d_st (.box [.d (.lit (.int .i64 x5.k)), .d (.lit (.int .i64 x5.n)), .d (.lit (.slice none 0 0)), .d (.seq 4 (List.map V.cells x5.l))]) rfl (dg0 rfl) rfl rfl rfl rfl ?_
  refine d_nil (by kernel_rfl) ?_
  repeat (first | refine then_normal ?_ | refine then_exit ?_ | refine then_ret ?_ | refine block_normal ?_ | refine block_ret ?_ | refine block_exit ?_ | refine block_pass rfl ?_)
  refine c_ret ?_
  repeat (first | refine then_normal ?_ | refine then_exit ?_ | refine then_ret ?_ | refine block_normal ?_ | refine block_ret ?_ | refine block_exit ?_ | refine block_pass rfl ?_)
  obtain rfl := Option.some.inj h
  exact end0 rfl (.t (.agg (.cons (.refl _) (.cons (.refl _) (.cons (.nil _) (.cons (.refl _) .nil))))))

theorem fc_answer_list_Past (p0 : (List S_api_Past)) (F1 : Nat) (C1 : List (List D)) (p1 : (S_api_Past → Option V)) (hp1 : ∀ (a0 : S_api_Past) r, p1 a0 = some r → FC Try.prog F1 ([.t (.agg [.lit (.int .i64 a0.Number), .lit (.int .i64 a0.Epoch), .lit (.bool a0.Gone), .lit (.string ⟨⟨a0.By⟩⟩)])] ++ C1.map A.imm) [] (.t (.agg [.lit (.int .i64 r.k), .lit (.int .i64 r.n), .seq 1 (bytesD r.b), .seq 4 (List.map V.cells r.l)]))) (hf1 : ∃ fn, Try.prog.funcs[F1]? = some fn ∧ fn.body.isNone = false ∧ (fn.name == "runtime.NumGoroutine") = false) (r : V) (h : m_answer_list_Past p0 p1 = some r) : FC Try.prog 66 [.t (.d (.seq 4 (List.map cS_api_Past p0))), .t (.d (.clo F1 C1))] [] (.t (.agg [.lit (.int .i64 r.k), .lit (.int .i64 r.n), .lit (.slice none 0 0), .seq 4 (List.map V.cells r.l)])) := by
  refine fc_mk (rs := [.cell 4 49]) (n := 25) Try.func66 rfl rfl (Nat.le_of_ble_eq_true rfl) rfl (pins := []) rfl (L := [(0, .t (.d (.seq 4 (List.map cS_api_Past p0)))), (1, .t (.d (.clo F1 C1)))]) rfl ?_
  refine c_seq ?_
  refine c_region ?_
  refine o_s (.box [.d (.lit (.int .i64 0)), .d (.lit (.int .i64 0)), .d (.lit (.slice none 0 0)), .d (.lit (.slice none 0 0))]) (g0 rfl) rfl rfl rfl ?_
  refine o_nil ?_
  repeat (first | refine then_normal ?_ | refine then_exit ?_ | refine then_ret ?_ | refine block_normal ?_ | refine block_ret ?_ | refine block_exit ?_ | refine block_pass rfl ?_)
  refine c_seq ?_
  refine c_region ?_
  obtain ⟨x1, h2, h⟩ := bind_some h
  refine o_ca (fc_codec_Of_n0 _ h2) (g0 rfl) rfl rfl rfl rfl rfl rfl rfl (.cons (.refl _) .nil) rfl rfl ?_
  refine o_s (.box [.d (.lit (.int .i64 0)), .d (.lit (.int .i64 0)), .d (.lit (.slice none 0 0)), .d (.lit (.slice none 0 0))]) (g0 rfl) rfl rfl rfl ?_
  refine o_st (.box [.d (.lit (.int .i64 x1.k)), .d (.lit (.int .i64 x1.n)), .d (.lit (.slice none 0 0)), .d (.lit (.slice none 0 0))]) (g0 rfl) rfl rfl rfl ?_
  refine o_nil ?_
  repeat (first | refine then_normal ?_ | refine then_exit ?_ | refine then_ret ?_ | refine block_normal ?_ | refine block_ret ?_ | refine block_exit ?_ | refine block_pass rfl ?_)
  refine c_seq ?_
  refine c_seq ?_
  refine c_region ?_
  refine o_s (.t (.d (.seq 4 (List.map cS_api_Past p0)))) (g0 rfl) rfl rfl rfl ?_
  refine o_c (g0 rfl) rfl rfl rfl (lenE _ _) trivial ?_
  refine o_s (.t (.d (.lit (.int .i64 0)))) (g0 rfl) rfl rfl rfl ?_
  refine o_nil ?_
  repeat (first | refine then_normal ?_ | refine then_exit ?_ | refine then_ret ?_ | refine block_normal ?_ | refine block_ret ?_ | refine block_exit ?_ | refine block_pass rfl ?_)
  refine c_block ?_
  refine c_fuel (fun (q : (List V) × Int) => [(1, .t (.d (.clo F1 C1))), (4, .box [.d (.lit (.int .i64 0)), .d (.lit (.int .i64 0)), .d (.lit (.slice none 0 0)), .d (.lit (.slice none 0 0))]), (5, .box [.d (.lit (.int .i64 x1.k)), .d (.lit (.int .i64 x1.n)), .d (.lit (.slice none 0 0)), .own 49 4 (List.map V.cells q.1)]), (9, .t (.d (.seq 4 (List.map cS_api_Past p0)))), (10, .t (.d (.lit (.int .i64 (p0.length : Int))))), (11, .t (.d (.lit (.int .i64 q.2))))]) (fun nl1 => (fun (q : (List V) × Int) => m_answer_list_Past_l1 p0 p1 x1 nl1 q.1 q.2 = some r)) (p0.length + 1) ([], 0) h ⟨(.refl _), ⟨(.refl _), ⟨(.box (.cons (.refl _) (.cons (.refl _) (.cons (.refl _) (.cons (.nilOwn _ _) .nil)))) rfl), ⟨(.refl _), ⟨(.refl _), ⟨(.refl _), trivial⟩⟩⟩⟩⟩⟩ rfl ?_
  rintro nl1 ⟨z3, z4⟩ h
  cases nl1 with
  | zero => exact none_ne h
  | succ nl1 =>
    refine c_seq ?_
    refine c_region ?_
    refine o_s (.t (.d (.lit (.bool (decide (z4 < (p0.length : Int))))))) (g0 rfl) rfl rfl rfl ?_
    refine o_nil ?_
    repeat (first | refine then_normal ?_ | refine then_exit ?_ | refine then_ret ?_ | refine block_normal ?_ | refine block_ret ?_ | refine block_exit ?_ | refine block_pass rfl ?_)
    refine c_seq ?_
    rcases bif_some h with ⟨h5, h⟩ | ⟨h5, h⟩
    · refine c_t h5 rfl ?_
      refine c_skip ?_
      repeat (first | refine then_normal ?_ | refine then_exit ?_ | refine then_ret ?_ | refine block_normal ?_ | refine block_ret ?_ | refine block_exit ?_ | refine block_pass rfl ?_)
      refine c_seq ?_
      refine c_block ?_
      refine c_seq ?_
      refine c_region ?_
      obtain ⟨x6, h7, h⟩ := bind_some h
      refine o_c (g0 rfl) rfl rfl rfl (idxE h7) (idxC h7) ?_
      refine o_s (.t (.agg [.lit (.int .i64 x6.Number), .lit (.int .i64 x6.Epoch), .lit (.bool x6.Gone), .lit (.string ⟨⟨x6.By⟩⟩)])) (g0 rfl) rfl rfl rfl ?_
      refine o_s (.box [.d (.lit (.int .i64 0)), .d (.lit (.int .i64 0)), .d (.lit (.bool false)), .d (.lit (.string ⟨⟨[]⟩⟩))]) (g0 rfl) rfl rfl rfl ?_
      refine o_st (.box [.d (.lit (.int .i64 x6.Number)), .d (.lit (.int .i64 x6.Epoch)), .d (.lit (.bool x6.Gone)), .d (.lit (.string ⟨⟨x6.By⟩⟩))]) (g0 rfl) rfl rfl rfl ?_
      refine o_nil ?_
      repeat (first | refine then_normal ?_ | refine then_exit ?_ | refine then_ret ?_ | refine block_normal ?_ | refine block_ret ?_ | refine block_exit ?_ | refine block_pass rfl ?_)
      refine c_draw mixed (by kernel_rfl) ?_
      refine d_s (.ref 5 3) rfl (dg0 rfl) rfl rfl rfl rfl ?_
      refine d_2 (.box [.d (.lit (.int .i64 x1.k)), .d (.lit (.int .i64 x1.n)), .d (.lit (.slice none 0 0)), .d (.seq 4 (List.map V.cells z3))]) (.t (.own 49 4 (List.map V.cells z3))) rfl (dg0 rfl) rfl rfl rfl rfl rfl ?_
      refine d_s (.t (.d (.clo F1 C1))) rfl (dg0 rfl) rfl rfl rfl rfl ?_
      refine d_s (.t (.agg [.lit (.int .i64 x6.Number), .lit (.int .i64 x6.Epoch), .lit (.bool x6.Gone), .lit (.string ⟨⟨x6.By⟩⟩)])) rfl (dg0 rfl) rfl rfl rfl rfl ?_
      obtain ⟨x8, h9, h⟩ := bind_some h
      refine d_cc (hp1 _ _ h9) rfl (dg0 rfl) rfl rfl rfl rfl rfl hf1.choose_spec.1 hf1.choose_spec.2.1 hf1.choose_spec.2.2 (.cons (.refl _) .nil) rfl rfl ?_
      refine d_c rfl (dg0 rfl) rfl rfl rfl rfl (congrArg (fun z => A.t (.own 49 4 z)) (rowsE V.cells_eq [x8])) trivial ?_
      obtain ⟨x10, h11, h⟩ := bind_some h
      refine d_2c rfl (dg0 rfl) rfl rfl rfl rfl rfl (appE (c := V.cells) h11) (appC (c := V.cells) h11) ?_
      refine d_s (.ref 5 3) rfl (dg0 rfl) rfl rfl rfl rfl ?_
      refine d_st2 (.t (.d (.seq 4 (List.map V.cells x10)))) (.box [.d (.lit (.int .i64 x1.k)), .d (.lit (.int .i64 x1.n)), .d (.lit (.slice none 0 0)), .own 49 4 (List.map V.cells x10)]) rfl (dg0 rfl) rfl rfl rfl rfl rfl ?_
      refine d_nil (by kernel_rfl) ?_
      repeat (first | refine then_normal ?_ | refine then_exit ?_ | refine then_ret ?_ | refine block_normal ?_ | refine block_ret ?_ | refine block_exit ?_ | refine block_pass rfl ?_)
      refine c_region ?_
      refine o_s (.t (.d (.lit (.int .i64 (wi (z4 + 1)))))) (g0 rfl) rfl rfl rfl ?_
      refine o_s (.t (.d (.lit (.int .i64 (wi (z4 + 1)))))) (g0 rfl) rfl rfl rfl ?_
      refine o_nil ?_
      repeat (first | refine then_normal ?_ | refine then_exit ?_ | refine then_ret ?_ | refine block_normal ?_ | refine block_ret ?_ | refine block_exit ?_ | refine block_pass rfl ?_)
      exact ⟨nl1, (x10, (wi (z4 + 1))), Nat.lt_succ_self nl1, h, ⟨(.refl _), ⟨(.refl _), ⟨(.refl _), ⟨(.refl _), ⟨(.refl _), ⟨(.refl _), trivial⟩⟩⟩⟩⟩⟩, rfl⟩
    · refine c_f h5 rfl ?_
      refine c_exit ?_
      repeat (first | refine then_normal ?_ | refine then_exit ?_ | refine then_ret ?_ | refine block_normal ?_ | refine block_ret ?_ | refine block_exit ?_ | refine block_pass rfl ?_)
      refine c_seq ?_
      refine c_region ?_
      refine o_s (.t (.agg [.lit (.int .i64 x1.k), .lit (.int .i64 x1.n), .lit (.slice none 0 0), .seq 4 (List.map V.cells z3)])) (g0 rfl) rfl rfl rfl ?_
      refine o_st (.box [.d (.lit (.int .i64 x1.k)), .d (.lit (.int .i64 x1.n)), .d (.lit (.slice none 0 0)), .d (.seq 4 (List.map V.cells z3))]) (g0 rfl) rfl rfl rfl ?_
      refine o_nil ?_
      repeat (first | refine then_normal ?_ | refine then_exit ?_ | refine then_ret ?_ | refine block_normal ?_ | refine block_ret ?_ | refine block_exit ?_ | refine block_pass rfl ?_)
      refine c_ret ?_
      repeat (first | refine then_normal ?_ | refine then_exit ?_ | refine then_ret ?_ | refine block_normal ?_ | refine block_ret ?_ | refine block_exit ?_ | refine block_pass rfl ?_)
      obtain rfl := Option.some.inj h
      exact end0 rfl (.refl _)

theorem fc_answer_value_c2 (p0 : S_api_Past) (r : V) (h : m_answer_value_c2 p0 = some r) : FC Try.prog 67 [.t (.agg [.lit (.int .i64 p0.Number), .lit (.int .i64 p0.Epoch), .lit (.bool p0.Gone), .lit (.string ⟨⟨p0.By⟩⟩)])] [] (.t (.agg [.lit (.int .i64 r.k), .lit (.int .i64 r.n), .seq 1 (bytesD r.b), .seq 4 (List.map V.cells r.l)])) := by
  refine fc_mk (rs := [.cell 2 49]) (n := 19) Try.func67 rfl rfl (Nat.le_of_ble_eq_true rfl) rfl (pins := []) rfl (L := [(0, .t (.agg [.lit (.int .i64 p0.Number), .lit (.int .i64 p0.Epoch), .lit (.bool p0.Gone), .lit (.string ⟨⟨p0.By⟩⟩)]))]) rfl ?_
  refine c_seq ?_
  refine c_region ?_
  refine o_s (.box [.d (.lit (.int .i64 p0.Number)), .d (.lit (.int .i64 p0.Epoch)), .d (.lit (.bool p0.Gone)), .d (.lit (.string ⟨⟨p0.By⟩⟩))]) (g0 rfl) rfl rfl rfl ?_
  refine o_s (.box [.d (.lit (.int .i64 0)), .d (.lit (.int .i64 0)), .d (.lit (.slice none 0 0)), .d (.lit (.slice none 0 0))]) (g0 rfl) rfl rfl rfl ?_
  refine o_nil ?_
  repeat (first | refine then_normal ?_ | refine then_exit ?_ | refine then_ret ?_ | refine block_normal ?_ | refine block_ret ?_ | refine block_exit ?_ | refine block_pass rfl ?_)
  refine c_seq ?_
  refine c_region ?_
  refine o_s (.t (.d (.lit (.int .i64 0)))) (g0 rfl) rfl rfl rfl ?_
  refine o_nil ?_
  repeat (first | refine then_normal ?_ | refine then_exit ?_ | refine then_ret ?_ | refine block_normal ?_ | refine block_ret ?_ | refine block_exit ?_ | refine block_pass rfl ?_)
  refine c_cut (fun (y1 : Int) => [(1, .box [.d (.lit (.int .i64 p0.Number)), .d (.lit (.int .i64 p0.Epoch)), .d (.lit (.bool p0.Gone)), .d (.lit (.string ⟨⟨p0.By⟩⟩))]), (2, .box [.d (.lit (.int .i64 0)), .d (.lit (.int .i64 0)), .d (.lit (.slice none 0 0)), .d (.lit (.slice none 0 0))]), (3, .t (.d (.lit (.int .i64 y1))))]) (fun (y1 : Int) => m_answer_value_c2_j1 p0 y1 = some r) ?_ ?_
  · refine c_seq ?_
    refine c_region ?_
    refine o_s (.ref 1 2) (g0 rfl) rfl rfl rfl ?_
    refine o_s (.t (.d (.lit (.bool p0.Gone)))) (g0 rfl) rfl rfl rfl ?_
    refine o_nil ?_
    repeat (first | refine then_normal ?_ | refine then_exit ?_ | refine then_ret ?_ | refine block_normal ?_ | refine block_ret ?_ | refine block_exit ?_ | refine block_pass rfl ?_)
    rcases bif_some h with ⟨h12, h⟩ | ⟨h12, h⟩
    · refine c_t h12 rfl ?_
      refine c_region ?_
      refine o_s (.t (.d (.lit (.int .i64 1)))) (g0 rfl) rfl rfl rfl ?_
      refine o_nil ?_
      repeat (first | refine then_normal ?_ | refine then_exit ?_ | refine then_ret ?_ | refine block_normal ?_ | refine block_ret ?_ | refine block_exit ?_ | refine block_pass rfl ?_)
      exact ⟨1, h, ⟨(.refl _), ⟨(.refl _), ⟨(.refl _), trivial⟩⟩⟩, rfl⟩
    · refine c_f h12 rfl ?_
      refine c_skip ?_
      repeat (first | refine then_normal ?_ | refine then_exit ?_ | refine then_ret ?_ | refine block_normal ?_ | refine block_ret ?_ | refine block_exit ?_ | refine block_pass rfl ?_)
      exact ⟨0, h, ⟨(.refl _), ⟨(.refl _), ⟨(.refl _), trivial⟩⟩⟩, rfl⟩
  · rintro y1 h
    refine c_seq ?_
    refine c_draw mixed (by kernel_rfl) ?_
    refine d_s (.ref 1 0) rfl (dg0 rfl) rfl rfl rfl rfl ?_
    refine d_s (.t (.d (.lit (.int .i64 p0.Number)))) rfl (dg0 rfl) rfl rfl rfl rfl ?_
    obtain ⟨x2, h3, h⟩ := bind_some h
    refine d_ca (fc_codec_Num _ _ h3) rfl (dg0 rfl) rfl rfl rfl rfl rfl rfl rfl rfl (.cons (.refl _) .nil) rfl rfl ?_
    refine d_s (.ref 1 1) rfl (dg0 rfl) rfl rfl rfl rfl ?_
    refine d_s (.t (.d (.lit (.int .i64 p0.Epoch)))) rfl (dg0 rfl) rfl rfl rfl rfl ?_
    obtain ⟨x4, h5, h⟩ := bind_some h
    refine d_ca (fc_codec_Num _ _ h5) rfl (dg0 rfl) rfl rfl rfl rfl rfl rfl rfl rfl (.cons (.refl _) .nil) rfl rfl ?_
    refine d_s (.t (.d (.lit (.int .i64 y1)))) rfl (dg0 rfl) rfl rfl rfl rfl ?_
    obtain ⟨x6, h7, h⟩ := bind_some h
    refine d_ca (fc_codec_Num _ _ h7) rfl (dg0 rfl) rfl rfl rfl rfl rfl rfl rfl rfl (.cons (.refl _) .nil) rfl rfl ?_
    refine d_s (.ref 1 3) rfl (dg0 rfl) rfl rfl rfl rfl ?_
    refine d_s (.t (.d (.lit (.string ⟨⟨p0.By⟩⟩)))) rfl (dg0 rfl) rfl rfl rfl rfl ?_
    obtain ⟨x8, h9, h⟩ := bind_some h
    refine d_ca (fc_answer_word _ _ h9) rfl (dg0 rfl) rfl rfl rfl rfl rfl rfl rfl rfl (.cons (.refl _) .nil) rfl rfl ?_
    refine d_w (.t (.own 49 4 (List.map V.cells [(V.mk x2.k x2.n [] []), (V.mk x4.k x4.n [] []), (V.mk x6.k x6.n [] []), x8]))) rfl (dg0 rfl) rfl rfl rfl rfl (.t (.rows _ _ (.cons (.cons (.refl _) (.cons (.refl _) (.cons (.nil _) (.cons (.nil _) .nil)))) (.cons (.cons (.refl _) (.cons (.refl _) (.cons (.nil _) (.cons (.nil _) .nil)))) (.cons (.cons (.refl _) (.cons (.refl _) (.cons (.nil _) (.cons (.nil _) .nil)))) (.cons (.cons (.refl _) (.cons (.refl _) (.cons (.refl _) (.cons (.refl _) .nil)))) .nil)))) (rowsE V.cells_eq [(V.mk x2.k x2.n [] []), (V.mk x4.k x4.n [] []), (V.mk x6.k x6.n [] []), x8]))) (fun e => nomatch e) ?_
    obtain ⟨x10, h11, h⟩ := bind_some h
    refine d_ca (fc_codec_Of _ _ h11) rfl (dg0 rfl) rfl rfl rfl rfl rfl rfl rfl rfl (.cons (.refl _) .nil) rfl rfl ?_
    refine d_st (.box [.d (.lit (.int .i64 x10.k)), .d (.lit (.int .i64 x10.n)), .d (.lit (.slice none 0 0)), .d (.seq 4 (List.map V.cells x10.l))]) rfl (dg0 rfl) rfl rfl rfl rfl ?_
    refine d_nil (by kernel_rfl) ?_
    repeat (first | refine then_normal ?_ | refine then_exit ?_ | refine then_ret ?_ | refine block_normal ?_ | refine block_ret ?_ | refine block_exit ?_ | refine block_pass rfl ?_)
    refine c_ret ?_
    repeat (first | refine then_normal ?_ | refine then_exit ?_ | refine then_ret ?_ | refine block_normal ?_ | refine block_ret ?_ | refine block_exit ?_ | refine block_pass rfl ?_)
    obtain rfl := Option.some.inj h
    exact end0 rfl (.t (.agg (.cons (.refl _) (.cons (.refl _) (.cons (.nil _) (.cons (.refl _) .nil))))))

theorem fc_answer_value (p0 : S_api_Answer) (r : V) (h : m_answer_value p0 = some r) : FC Try.prog 32 [.t (.agg [.lit (.int .i64 p0.Err), .lit (.int .i64 p0.Number), .lit (.string ⟨⟨p0.By⟩⟩), .seq 1 (bytesD p0.Data), .seq 1 (List.map cStr p0.Names), .seq 2 (List.map cS_api_Member p0.Members), .seq 4 (List.map cS_api_Past p0.History)])] [] (.t (.agg [.lit (.int .i64 r.k), .lit (.int .i64 r.n), .lit (.slice none 0 0), .seq 4 (List.map V.cells r.l)])) := by
  refine fc_mk (rs := [.cell 2 49]) (n := 26) Try.func32 rfl rfl (Nat.le_of_ble_eq_true rfl) rfl (pins := []) rfl (L := [(0, .t (.agg [.lit (.int .i64 p0.Err), .lit (.int .i64 p0.Number), .lit (.string ⟨⟨p0.By⟩⟩), .seq 1 (bytesD p0.Data), .seq 1 (List.map cStr p0.Names), .seq 2 (List.map cS_api_Member p0.Members), .seq 4 (List.map cS_api_Past p0.History)]))]) rfl ?_
  refine c_seq ?_
  refine c_region ?_
  refine o_s (.box [.d (.lit (.int .i64 p0.Err)), .d (.lit (.int .i64 p0.Number)), .d (.lit (.string ⟨⟨p0.By⟩⟩)), .d (.seq 1 (bytesD p0.Data)), .d (.seq 1 (List.map cStr p0.Names)), .d (.seq 2 (List.map cS_api_Member p0.Members)), .d (.seq 4 (List.map cS_api_Past p0.History))]) (g0 rfl) rfl rfl rfl ?_
  refine o_s (.box [.d (.lit (.int .i64 0)), .d (.lit (.int .i64 0)), .d (.lit (.slice none 0 0)), .d (.lit (.slice none 0 0))]) (g0 rfl) rfl rfl rfl ?_
  refine o_nil ?_
  repeat (first | refine then_normal ?_ | refine then_exit ?_ | refine then_ret ?_ | refine block_normal ?_ | refine block_ret ?_ | refine block_exit ?_ | refine block_pass rfl ?_)
  refine c_seq ?_
  refine c_draw mixed (by kernel_rfl) ?_
  refine d_s (.ref 1 0) rfl (dg0 rfl) rfl rfl rfl rfl ?_
  refine d_s (.t (.d (.lit (.int .i64 p0.Err)))) rfl (dg0 rfl) rfl rfl rfl rfl ?_
  obtain ⟨x1, h2, h⟩ := bind_some h
  refine d_ca (fc_codec_Num _ _ h2) rfl (dg0 rfl) rfl rfl rfl rfl rfl rfl rfl rfl (.cons (.refl _) .nil) rfl rfl ?_
  refine d_s (.ref 1 1) rfl (dg0 rfl) rfl rfl rfl rfl ?_
  refine d_s (.t (.d (.lit (.int .i64 p0.Number)))) rfl (dg0 rfl) rfl rfl rfl rfl ?_
  obtain ⟨x3, h4, h⟩ := bind_some h
  refine d_ca (fc_codec_Num _ _ h4) rfl (dg0 rfl) rfl rfl rfl rfl rfl rfl rfl rfl (.cons (.refl _) .nil) rfl rfl ?_
  refine d_s (.ref 1 2) rfl (dg0 rfl) rfl rfl rfl rfl ?_
  refine d_s (.t (.d (.lit (.string ⟨⟨p0.By⟩⟩)))) rfl (dg0 rfl) rfl rfl rfl rfl ?_
  obtain ⟨x5, h6, h⟩ := bind_some h
  refine d_ca (fc_answer_word _ _ h6) rfl (dg0 rfl) rfl rfl rfl rfl rfl rfl rfl rfl (.cons (.refl _) .nil) rfl rfl ?_
  refine d_s (.ref 1 3) rfl (dg0 rfl) rfl rfl rfl rfl ?_
  refine d_s (.t (.d (.seq 1 (bytesD p0.Data)))) rfl (dg0 rfl) rfl rfl rfl rfl ?_
  obtain ⟨x7, h8, h⟩ := bind_some h
  refine d_ca (fc_codec_Raw _ _ h8) rfl (dg0 rfl) rfl rfl rfl rfl rfl rfl rfl rfl (.cons (.refl _) .nil) rfl rfl ?_
  refine d_s (.ref 1 4) rfl (dg0 rfl) rfl rfl rfl rfl ?_
  refine d_s (.t (.d (.seq 1 (List.map cStr p0.Names)))) rfl (dg0 rfl) rfl rfl rfl rfl ?_
  obtain ⟨x9, h10, h⟩ := bind_some h
  refine d_ca (fc_answer_list_string _ 61 [] _ fc_answer_word ⟨_, Try.func61, rfl, rfl⟩ _ h10) rfl (dg0 rfl) rfl rfl rfl rfl rfl rfl rfl rfl (.cons (.refl _) (.cons (.t (.d (.fn _))) .nil)) rfl rfl ?_
  refine d_s (.ref 1 5) rfl (dg0 rfl) rfl rfl rfl rfl ?_
  refine d_s (.t (.d (.seq 2 (List.map cS_api_Member p0.Members)))) rfl (dg0 rfl) rfl rfl rfl rfl ?_
  obtain ⟨x11, h12, h⟩ := bind_some h
  refine d_ca (fc_answer_list_Member _ 65 [] _ fc_answer_value_c1 ⟨_, Try.func65, rfl, rfl⟩ _ h12) rfl (dg0 rfl) rfl rfl rfl rfl rfl rfl rfl rfl (.cons (.refl _) (.cons (.t (.d (.fn _))) .nil)) rfl rfl ?_
  refine d_s (.ref 1 6) rfl (dg0 rfl) rfl rfl rfl rfl ?_
  refine d_s (.t (.d (.seq 4 (List.map cS_api_Past p0.History)))) rfl (dg0 rfl) rfl rfl rfl rfl ?_
  obtain ⟨x13, h14, h⟩ := bind_some h
  refine d_ca (fc_answer_list_Past _ 67 [] _ fc_answer_value_c2 ⟨_, Try.func67, rfl, rfl⟩ _ h14) rfl (dg0 rfl) rfl rfl rfl rfl rfl rfl rfl rfl (.cons (.refl _) (.cons (.t (.d (.fn _))) .nil)) rfl rfl ?_
  refine d_w (.t (.own 49 4 (List.map V.cells [(V.mk x1.k x1.n [] []), (V.mk x3.k x3.n [] []), x5, (V.mk x7.k x7.n x7.b []), (V.mk x9.k x9.n [] x9.l), (V.mk x11.k x11.n [] x11.l), (V.mk x13.k x13.n [] x13.l)]))) rfl (dg0 rfl) rfl rfl rfl rfl (.t (.rows _ _ (.cons (.cons (.refl _) (.cons (.refl _) (.cons (.nil _) (.cons (.nil _) .nil)))) (.cons (.cons (.refl _) (.cons (.refl _) (.cons (.nil _) (.cons (.nil _) .nil)))) (.cons (.cons (.refl _) (.cons (.refl _) (.cons (.refl _) (.cons (.refl _) .nil)))) (.cons (.cons (.refl _) (.cons (.refl _) (.cons (.refl _) (.cons (.nil _) .nil)))) (.cons (.cons (.refl _) (.cons (.refl _) (.cons (.nil _) (.cons (.refl _) .nil)))) (.cons (.cons (.refl _) (.cons (.refl _) (.cons (.nil _) (.cons (.refl _) .nil)))) (.cons (.cons (.refl _) (.cons (.refl _) (.cons (.nil _) (.cons (.refl _) .nil)))) .nil))))))) (rowsE V.cells_eq [(V.mk x1.k x1.n [] []), (V.mk x3.k x3.n [] []), x5, (V.mk x7.k x7.n x7.b []), (V.mk x9.k x9.n [] x9.l), (V.mk x11.k x11.n [] x11.l), (V.mk x13.k x13.n [] x13.l)]))) (fun e => nomatch e) ?_
  obtain ⟨x15, h16, h⟩ := bind_some h
  refine d_ca (fc_codec_Of _ _ h16) rfl (dg0 rfl) rfl rfl rfl rfl rfl rfl rfl rfl (.cons (.refl _) .nil) rfl rfl ?_
  refine d_st (.box [.d (.lit (.int .i64 x15.k)), .d (.lit (.int .i64 x15.n)), .d (.lit (.slice none 0 0)), .d (.seq 4 (List.map V.cells x15.l))]) rfl (dg0 rfl) rfl rfl rfl rfl ?_
  refine d_nil (by kernel_rfl) ?_
  repeat (first | refine then_normal ?_ | refine then_exit ?_ | refine then_ret ?_ | refine block_normal ?_ | refine block_ret ?_ | refine block_exit ?_ | refine block_pass rfl ?_)
  refine c_ret ?_
  repeat (first | refine then_normal ?_ | refine then_exit ?_ | refine then_ret ?_ | refine block_normal ?_ | refine block_ret ?_ | refine block_exit ?_ | refine block_pass rfl ?_)
  obtain rfl := Option.some.inj h
  exact end0 rfl (.refl _)

theorem fc_answer_bare (p0 : S_api_Answer) (r : Bool) (h : m_answer_bare p0 = some r) : FC Try.prog 44 [.t (.agg [.lit (.int .i64 p0.Err), .lit (.int .i64 p0.Number), .lit (.string ⟨⟨p0.By⟩⟩), .seq 1 (bytesD p0.Data), .seq 1 (List.map cStr p0.Names), .seq 2 (List.map cS_api_Member p0.Members), .seq 4 (List.map cS_api_Past p0.History)])] [] (.t (.d (.lit (.bool r)))) := by
  refine fc_mk (rs := [.tmp 2]) (n := 29) Try.func44 rfl rfl (Nat.le_of_ble_eq_true rfl) rfl (pins := []) rfl (L := [(0, .t (.agg [.lit (.int .i64 p0.Err), .lit (.int .i64 p0.Number), .lit (.string ⟨⟨p0.By⟩⟩), .seq 1 (bytesD p0.Data), .seq 1 (List.map cStr p0.Names), .seq 2 (List.map cS_api_Member p0.Members), .seq 4 (List.map cS_api_Past p0.History)]))]) rfl ?_
  refine c_seq ?_
  refine c_region ?_
  refine o_s (.box [.d (.lit (.int .i64 p0.Err)), .d (.lit (.int .i64 p0.Number)), .d (.lit (.string ⟨⟨p0.By⟩⟩)), .d (.seq 1 (bytesD p0.Data)), .d (.seq 1 (List.map cStr p0.Names)), .d (.seq 2 (List.map cS_api_Member p0.Members)), .d (.seq 4 (List.map cS_api_Past p0.History))]) (g0 rfl) rfl rfl rfl ?_
  refine o_s (.t (.d (.lit (.bool false)))) (g0 rfl) rfl rfl rfl ?_
  refine o_nil ?_
  repeat (first | refine then_normal ?_ | refine then_exit ?_ | refine then_ret ?_ | refine block_normal ?_ | refine block_ret ?_ | refine block_exit ?_ | refine block_pass rfl ?_)
  refine c_seq ?_
  refine c_region ?_
  refine o_s (.ref 1 1) (g0 rfl) rfl rfl rfl ?_
  refine o_s (.t (.d (.lit (.int .i64 p0.Number)))) (g0 rfl) rfl rfl rfl ?_
  refine o_s (.t (.d (.lit (.bool (p0.Number == 0))))) (g0 rfl) rfl rfl rfl ?_
  refine o_s (.t (.d (.lit (.bool (p0.Number == 0))))) (g0 rfl) rfl rfl rfl ?_
  rcases bif_some h with ⟨h1, h⟩ | ⟨h1, h⟩
  · refine o_s (.ref 1 2) (gy rfl rfl rfl h1) rfl rfl rfl ?_
    refine o_s (.t (.d (.lit (.string ⟨⟨p0.By⟩⟩)))) (gy rfl rfl rfl h1) rfl rfl rfl ?_
    refine o_c (gy rfl rfl rfl h1) rfl rfl rfl (congrArg (fun z => A.t (.d (.lit (.bool z)))) (str_beqL _ _)) trivial ?_
    refine o_pk (.t (.d (.lit (.bool (p0.By == []))))) (b := true) h1 (g0 rfl) rfl rfl rfl rfl rfl ?_
    refine o_s (.t (.d (.lit (.bool (p0.By == []))))) (g0 rfl) rfl rfl rfl ?_
    rcases bif_some h with ⟨h2, h⟩ | ⟨h2, h⟩
    · refine o_s (.ref 1 3) (gy rfl rfl rfl h2) rfl rfl rfl ?_
      refine o_s (.t (.d (.seq 1 (bytesD p0.Data)))) (gy rfl rfl rfl h2) rfl rfl rfl ?_
      refine o_c (gy rfl rfl rfl h2) rfl rfl rfl (lenE _ _) trivial ?_
      refine o_s (.ref 1 4) (gy rfl rfl rfl h2) rfl rfl rfl ?_
      refine o_s (.t (.d (.seq 1 (List.map cStr p0.Names)))) (gy rfl rfl rfl h2) rfl rfl rfl ?_
      refine o_c (gy rfl rfl rfl h2) rfl rfl rfl (lenE _ _) trivial ?_
      refine o_s (.t (.d (.lit (.int .i64 (wi ((p0.Data.length : Int) + (p0.Names.length : Int))))))) (gy rfl rfl rfl h2) rfl rfl rfl ?_
      refine o_s (.ref 1 5) (gy rfl rfl rfl h2) rfl rfl rfl ?_
      refine o_s (.t (.d (.seq 2 (List.map cS_api_Member p0.Members)))) (gy rfl rfl rfl h2) rfl rfl rfl ?_
      refine o_c (gy rfl rfl rfl h2) rfl rfl rfl (lenE _ _) trivial ?_
      refine o_s (.t (.d (.lit (.int .i64 (wi ((wi ((p0.Data.length : Int) + (p0.Names.length : Int))) + (p0.Members.length : Int))))))) (gy rfl rfl rfl h2) rfl rfl rfl ?_
      refine o_s (.ref 1 6) (gy rfl rfl rfl h2) rfl rfl rfl ?_
      refine o_s (.t (.d (.seq 4 (List.map cS_api_Past p0.History)))) (gy rfl rfl rfl h2) rfl rfl rfl ?_
      refine o_c (gy rfl rfl rfl h2) rfl rfl rfl (lenE _ _) trivial ?_
      refine o_s (.t (.d (.lit (.int .i64 (wi ((wi ((wi ((p0.Data.length : Int) + (p0.Names.length : Int))) + (p0.Members.length : Int))) + (p0.History.length : Int))))))) (gy rfl rfl rfl h2) rfl rfl rfl ?_
      refine o_s (.t (.d (.lit (.bool ((wi ((wi ((wi ((p0.Data.length : Int) + (p0.Names.length : Int))) + (p0.Members.length : Int))) + (p0.History.length : Int))) == 0))))) (gy rfl rfl rfl h2) rfl rfl rfl ?_
      refine o_pk (.t (.d (.lit (.bool ((wi ((wi ((wi ((p0.Data.length : Int) + (p0.Names.length : Int))) + (p0.Members.length : Int))) + (p0.History.length : Int))) == 0))))) (b := true) h2 (g0 rfl) rfl rfl rfl rfl rfl ?_
      refine o_s (.t (.d (.lit (.bool ((wi ((wi ((wi ((p0.Data.length : Int) + (p0.Names.length : Int))) + (p0.Members.length : Int))) + (p0.History.length : Int))) == 0))))) (g0 rfl) rfl rfl rfl ?_
      refine o_nil ?_
      repeat (first | refine then_normal ?_ | refine then_exit ?_ | refine then_ret ?_ | refine block_normal ?_ | refine block_ret ?_ | refine block_exit ?_ | refine block_pass rfl ?_)
      refine c_ret ?_
      repeat (first | refine then_normal ?_ | refine then_exit ?_ | refine then_ret ?_ | refine block_normal ?_ | refine block_ret ?_ | refine block_exit ?_ | refine block_pass rfl ?_)
      obtain rfl := Option.some.inj h
      exact end0 rfl (.refl _)
    · refine o_skip rfl rfl rfl h2 rfl rfl ?_
      refine o_skip rfl rfl rfl h2 rfl rfl ?_
      refine o_skip rfl rfl rfl h2 rfl rfl ?_
      refine o_skip rfl rfl rfl h2 rfl rfl ?_
      refine o_skip rfl rfl rfl h2 rfl rfl ?_
      refine o_skip rfl rfl rfl h2 rfl rfl ?_
      refine o_skip rfl rfl rfl h2 rfl rfl ?_
      refine o_skip rfl rfl rfl h2 rfl rfl ?_
      refine o_skip rfl rfl rfl h2 rfl rfl ?_
      refine o_skip rfl rfl rfl h2 rfl rfl ?_
      refine o_skip rfl rfl rfl h2 rfl rfl ?_
      refine o_skip rfl rfl rfl h2 rfl rfl ?_
      refine o_skip rfl rfl rfl h2 rfl rfl ?_
      refine o_skip rfl rfl rfl h2 rfl rfl ?_
      refine o_skip rfl rfl rfl h2 rfl rfl ?_
      refine o_skip rfl rfl rfl h2 rfl rfl ?_
      refine o_pk (.t (.d (.lit (.bool false)))) (b := false) h2 (g0 rfl) rfl rfl rfl rfl rfl ?_
      refine o_s (.t (.d (.lit (.bool false)))) (g0 rfl) rfl rfl rfl ?_
      refine o_nil ?_
      repeat (first | refine then_normal ?_ | refine then_exit ?_ | refine then_ret ?_ | refine block_normal ?_ | refine block_ret ?_ | refine block_exit ?_ | refine block_pass rfl ?_)
      refine c_ret ?_
      repeat (first | refine then_normal ?_ | refine then_exit ?_ | refine then_ret ?_ | refine block_normal ?_ | refine block_ret ?_ | refine block_exit ?_ | refine block_pass rfl ?_)
      obtain rfl := Option.some.inj h
      exact end0 rfl (.refl _)
  · refine o_skip rfl rfl rfl h1 rfl rfl ?_
    refine o_skip rfl rfl rfl h1 rfl rfl ?_
    refine o_skip rfl rfl rfl h1 rfl rfl ?_
    refine o_pk (.t (.d (.lit (.bool false)))) (b := false) h1 (g0 rfl) rfl rfl rfl rfl rfl ?_
    refine o_s (.t (.d (.lit (.bool false)))) (g0 rfl) rfl rfl rfl ?_
    refine o_skip rfl rfl rfl rfl rfl rfl ?_
    refine o_skip rfl rfl rfl rfl rfl rfl ?_
    refine o_skip rfl rfl rfl rfl rfl rfl ?_
    refine o_skip rfl rfl rfl rfl rfl rfl ?_
    refine o_skip rfl rfl rfl rfl rfl rfl ?_
    refine o_skip rfl rfl rfl rfl rfl rfl ?_
    refine o_skip rfl rfl rfl rfl rfl rfl ?_
    refine o_skip rfl rfl rfl rfl rfl rfl ?_
    refine o_skip rfl rfl rfl rfl rfl rfl ?_
    refine o_skip rfl rfl rfl rfl rfl rfl ?_
    refine o_skip rfl rfl rfl rfl rfl rfl ?_
    refine o_skip rfl rfl rfl rfl rfl rfl ?_
    refine o_skip rfl rfl rfl rfl rfl rfl ?_
    refine o_skip rfl rfl rfl rfl rfl rfl ?_
    refine o_skip rfl rfl rfl rfl rfl rfl ?_
    refine o_skip rfl rfl rfl rfl rfl rfl ?_
    refine o_pk (.t (.d (.lit (.bool false)))) (b := false) rfl (g0 rfl) rfl rfl rfl rfl rfl ?_
    refine o_s (.t (.d (.lit (.bool false)))) (g0 rfl) rfl rfl rfl ?_
    refine o_nil ?_
    repeat (first | refine then_normal ?_ | refine then_exit ?_ | refine then_ret ?_ | refine block_normal ?_ | refine block_ret ?_ | refine block_exit ?_ | refine block_pass rfl ?_)
    refine c_ret ?_
    repeat (first | refine then_normal ?_ | refine then_exit ?_ | refine then_ret ?_ | refine block_normal ?_ | refine block_ret ?_ | refine block_exit ?_ | refine block_pass rfl ?_)
    obtain rfl := Option.some.inj h
    exact end0 rfl (.refl _)

theorem fc_slices_IndexFunc_string (p0 : (List (List UInt8))) (F1 : Nat) (C1 : List (List D)) (p1 : ((List UInt8) → Option Bool)) (hp1 : ∀ (a0 : (List UInt8)) r, p1 a0 = some r → FC Try.prog F1 ([.t (.d (.lit (.string ⟨⟨a0⟩⟩)))] ++ C1.map A.imm) [] (.t (.d (.lit (.bool r))))) (hf1 : ∃ fn, Try.prog.funcs[F1]? = some fn ∧ fn.body.isNone = false ∧ (fn.name == "runtime.NumGoroutine") = false) (r : Int) (h : m_slices_IndexFunc_string p0 p1 = some r) : FC Try.prog 109 [.t (.d (.seq 1 (List.map cStr p0))), .t (.d (.clo F1 C1))] [] (.t (.d (.lit (.int .i64 r)))) := by
  refine fc_mk (rs := [.tmp 4]) (n := 19) Try.func109 rfl rfl (Nat.le_of_ble_eq_true rfl) rfl (pins := []) rfl (L := [(0, .t (.d (.seq 1 (List.map cStr p0)))), (1, .t (.d (.clo F1 C1)))]) rfl ?_
  refine c_seq ?_
  refine c_region ?_
  refine o_s (.t (.d (.lit (.int .i64 0)))) (g0 rfl) rfl rfl rfl ?_
  refine o_nil ?_
  repeat (first | refine then_normal ?_ | refine then_exit ?_ | refine then_ret ?_ | refine block_normal ?_ | refine block_ret ?_ | refine block_exit ?_ | refine block_pass rfl ?_)
  refine c_seq ?_
  refine c_seq ?_
  refine c_region ?_
  refine o_s (.t (.d (.seq 1 (List.map cStr p0)))) (g0 rfl) rfl rfl rfl ?_
  refine o_c (g0 rfl) rfl rfl rfl (lenE _ _) trivial ?_
  refine o_s (.t (.d (.lit (.int .i64 0)))) (g0 rfl) rfl rfl rfl ?_
  refine o_nil ?_
  repeat (first | refine then_normal ?_ | refine then_exit ?_ | refine then_ret ?_ | refine block_normal ?_ | refine block_ret ?_ | refine block_exit ?_ | refine block_pass rfl ?_)
  refine c_block ?_
  refine c_fuel (fun (z1 : Int) => [(0, .t (.d (.seq 1 (List.map cStr p0)))), (1, .t (.d (.clo F1 C1))), (7, .t (.d (.lit (.int .i64 (p0.length : Int))))), (8, .t (.d (.lit (.int .i64 z1))))]) (fun nl1 => (fun (z1 : Int) => m_slices_IndexFunc_string_l1 p0 p1 nl1 z1 = some r)) (p0.length + 1) 0 h ⟨(.refl _), ⟨(.refl _), ⟨(.refl _), ⟨(.refl _), trivial⟩⟩⟩⟩ rfl ?_
  rintro nl1 z1 h
  cases nl1 with
  | zero => exact none_ne h
  | succ nl1 =>
    refine c_seq ?_
    refine c_region ?_
    refine o_s (.t (.d (.lit (.bool (decide (z1 < (p0.length : Int))))))) (g0 rfl) rfl rfl rfl ?_
    refine o_nil ?_
    repeat (first | refine then_normal ?_ | refine then_exit ?_ | refine then_ret ?_ | refine block_normal ?_ | refine block_ret ?_ | refine block_exit ?_ | refine block_pass rfl ?_)
    refine c_seq ?_
    rcases bif_some h with ⟨h2, h⟩ | ⟨h2, h⟩
    · refine c_t h2 rfl ?_
      refine c_skip ?_
      repeat (first | refine then_normal ?_ | refine then_exit ?_ | refine then_ret ?_ | refine block_normal ?_ | refine block_ret ?_ | refine block_exit ?_ | refine block_pass rfl ?_)
      refine c_seq ?_
      refine c_block ?_
      refine c_seq ?_
      refine c_region ?_
      refine o_s (.t (.d (.lit (.int .i64 z1)))) (g0 rfl) rfl rfl rfl ?_
      refine o_s (.t (.d (.lit (.int .i64 z1)))) (g0 rfl) rfl rfl rfl ?_
      refine o_nil ?_
      repeat (first | refine then_normal ?_ | refine then_exit ?_ | refine then_ret ?_ | refine block_normal ?_ | refine block_ret ?_ | refine block_exit ?_ | refine block_pass rfl ?_)
      refine c_seq ?_
      refine c_region ?_
      refine o_s (.t (.d (.clo F1 C1))) (g0 rfl) rfl rfl rfl ?_
      refine o_s (.t (.d (.seq 1 (List.map cStr p0)))) (g0 rfl) rfl rfl rfl ?_
      refine o_s (.t (.d (.lit (.int .i64 z1)))) (g0 rfl) rfl rfl rfl ?_
      obtain ⟨x3, h4, h⟩ := bind_some h
      refine o_c (g0 rfl) rfl rfl rfl (idxE h4) (idxC h4) ?_
      refine o_s (.t (.d (.lit (.string ⟨⟨x3⟩⟩)))) (g0 rfl) rfl rfl rfl ?_
      obtain ⟨x5, h6, h⟩ := bind_some h
      refine o_cc (hp1 _ _ h6) (g0 rfl) rfl rfl rfl rfl hf1.choose_spec.1 hf1.choose_spec.2.1 hf1.choose_spec.2.2 (.cons (.refl _) .nil) rfl rfl ?_
      refine o_nil ?_
      repeat (first | refine then_normal ?_ | refine then_exit ?_ | refine then_ret ?_ | refine block_normal ?_ | refine block_ret ?_ | refine block_exit ?_ | refine block_pass rfl ?_)
      rcases bif_some h with ⟨h7, h⟩ | ⟨h7, h⟩
      · refine c_t h7 rfl ?_
        refine c_seq ?_
        refine c_region ?_
        refine o_s (.t (.d (.lit (.int .i64 z1)))) (g0 rfl) rfl rfl rfl ?_
        refine o_s (.t (.d (.lit (.int .i64 z1)))) (g0 rfl) rfl rfl rfl ?_
        refine o_nil ?_
        repeat (first | refine then_normal ?_ | refine then_exit ?_ | refine then_ret ?_ | refine block_normal ?_ | refine block_ret ?_ | refine block_exit ?_ | refine block_pass rfl ?_)
        refine c_ret ?_
        repeat (first | refine then_normal ?_ | refine then_exit ?_ | refine then_ret ?_ | refine block_normal ?_ | refine block_ret ?_ | refine block_exit ?_ | refine block_pass rfl ?_)
        obtain rfl := Option.some.inj h
        exact end0 rfl (.refl _)
      · refine c_f h7 rfl ?_
        refine c_skip ?_
        repeat (first | refine then_normal ?_ | refine then_exit ?_ | refine then_ret ?_ | refine block_normal ?_ | refine block_ret ?_ | refine block_exit ?_ | refine block_pass rfl ?_)
        refine c_region ?_
        refine o_s (.t (.d (.lit (.int .i64 (wi (z1 + 1)))))) (g0 rfl) rfl rfl rfl ?_
        refine o_s (.t (.d (.lit (.int .i64 (wi (z1 + 1)))))) (g0 rfl) rfl rfl rfl ?_
        refine o_nil ?_
        repeat (first | refine then_normal ?_ | refine then_exit ?_ | refine then_ret ?_ | refine block_normal ?_ | refine block_ret ?_ | refine block_exit ?_ | refine block_pass rfl ?_)
        exact ⟨nl1, (wi (z1 + 1)), Nat.lt_succ_self nl1, h, ⟨(.refl _), ⟨(.refl _), ⟨(.refl _), ⟨(.refl _), trivial⟩⟩⟩⟩, rfl⟩
    · refine c_f h2 rfl ?_
      refine c_exit ?_
      repeat (first | refine then_normal ?_ | refine then_exit ?_ | refine then_ret ?_ | refine block_normal ?_ | refine block_ret ?_ | refine block_exit ?_ | refine block_pass rfl ?_)
      refine c_seq ?_
      refine c_region ?_
      refine o_s (.t (.d (.lit (.int .i64 (-1))))) (g0 rfl) rfl rfl rfl ?_
      refine o_nil ?_
      repeat (first | refine then_normal ?_ | refine then_exit ?_ | refine then_ret ?_ | refine block_normal ?_ | refine block_ret ?_ | refine block_exit ?_ | refine block_pass rfl ?_)
      refine c_ret ?_
      repeat (first | refine then_normal ?_ | refine then_exit ?_ | refine then_ret ?_ | refine block_normal ?_ | refine block_ret ?_ | refine block_exit ?_ | refine block_pass rfl ?_)
      obtain rfl := Option.some.inj h
      exact end0 rfl (.refl _)

theorem fc_slices_ContainsFunc_string (p0 : (List (List UInt8))) (F1 : Nat) (C1 : List (List D)) (p1 : ((List UInt8) → Option Bool)) (hp1 : ∀ (a0 : (List UInt8)) r, p1 a0 = some r → FC Try.prog F1 ([.t (.d (.lit (.string ⟨⟨a0⟩⟩)))] ++ C1.map A.imm) [] (.t (.d (.lit (.bool r))))) (hf1 : ∃ fn, Try.prog.funcs[F1]? = some fn ∧ fn.body.isNone = false ∧ (fn.name == "runtime.NumGoroutine") = false) (r : Bool) (h : m_slices_ContainsFunc_string p0 p1 = some r) : FC Try.prog 86 [.t (.d (.seq 1 (List.map cStr p0))), .t (.d (.clo F1 C1))] [] (.t (.d (.lit (.bool r)))) := by
  refine fc_mk (rs := [.tmp 4]) (n := 9) Try.func86 rfl rfl (Nat.le_of_ble_eq_true rfl) rfl (pins := []) rfl (L := [(0, .t (.d (.seq 1 (List.map cStr p0)))), (1, .t (.d (.clo F1 C1)))]) rfl ?_
  refine c_seq ?_
  refine c_region ?_
  refine o_s (.t (.d (.lit (.bool false)))) (g0 rfl) rfl rfl rfl ?_
  refine o_nil ?_
  repeat (first | refine then_normal ?_ | refine then_exit ?_ | refine then_ret ?_ | refine block_normal ?_ | refine block_ret ?_ | refine block_exit ?_ | refine block_pass rfl ?_)
  refine c_seq ?_
  refine c_region ?_
  refine o_s (.t (.d (.seq 1 (List.map cStr p0)))) (g0 rfl) rfl rfl rfl ?_
  refine o_s (.t (.d (.clo F1 C1))) (g0 rfl) rfl rfl rfl ?_
  obtain ⟨x1, h2, h⟩ := bind_some h
  refine o_ca (fc_slices_IndexFunc_string _ F1 C1 _ hp1 hf1 _ h2) (g0 rfl) rfl rfl rfl rfl rfl rfl rfl (.cons (.refl _) (.cons (.refl _) .nil)) rfl rfl ?_
  refine o_s (.t (.d (.lit (.bool (decide (x1 ≥ 0)))))) (g0 rfl) rfl rfl rfl ?_
  refine o_s (.t (.d (.lit (.bool (decide (x1 ≥ 0)))))) (g0 rfl) rfl rfl rfl ?_
  refine o_nil ?_
  repeat (first | refine then_normal ?_ | refine then_exit ?_ | refine then_ret ?_ | refine block_normal ?_ | refine block_ret ?_ | refine block_exit ?_ | refine block_pass rfl ?_)
  refine c_ret ?_
  repeat (first | refine then_normal ?_ | refine then_exit ?_ | refine then_ret ?_ | refine block_normal ?_ | refine block_ret ?_ | refine block_exit ?_ | refine block_pass rfl ?_)
  obtain rfl := Option.some.inj h
  exact end0 rfl (.refl _)

theorem fc_answer_all_string_c1 (p0 : (List UInt8)) (F1 : Nat) (C1 : List (List D)) (c1 : ((List UInt8) → Option Bool)) (hp1 : ∀ (a0 : (List UInt8)) r, c1 a0 = some r → FC Try.prog F1 ([.t (.d (.lit (.string ⟨⟨a0⟩⟩)))] ++ C1.map A.imm) [] (.t (.d (.lit (.bool r))))) (hf1 : ∃ fn, Try.prog.funcs[F1]? = some fn ∧ fn.body.isNone = false ∧ (fn.name == "runtime.NumGoroutine") = false) (r : Bool) (h : m_answer_all_string_c1 p0 c1 = some r) : FC Try.prog 87 [.t (.d (.lit (.string ⟨⟨p0⟩⟩))), .imm [.clo F1 C1]] [] (.t (.d (.lit (.bool r)))) := by
  refine fc_mk (rs := [.tmp 3]) (n := 8) Try.func87 rfl rfl (Nat.le_of_ble_eq_true rfl) rfl (pins := []) rfl (L := [(0, .t (.d (.lit (.string ⟨⟨p0⟩⟩)))), (1, .imm [.clo F1 C1])]) rfl ?_
  refine c_seq ?_
  refine c_region ?_
  refine o_s (.t (.d (.lit (.bool false)))) (g0 rfl) rfl rfl rfl ?_
  refine o_nil ?_
  repeat (first | refine then_normal ?_ | refine then_exit ?_ | refine then_ret ?_ | refine block_normal ?_ | refine block_ret ?_ | refine block_exit ?_ | refine block_pass rfl ?_)
  refine c_seq ?_
  refine c_region ?_
  refine o_s (.t (.d (.clo F1 C1))) (g0 rfl) rfl rfl rfl ?_
  refine o_s (.t (.d (.lit (.string ⟨⟨p0⟩⟩)))) (g0 rfl) rfl rfl rfl ?_
  obtain ⟨x1, h2, h⟩ := bind_some h
  refine o_cc (hp1 _ _ h2) (g0 rfl) rfl rfl rfl rfl hf1.choose_spec.1 hf1.choose_spec.2.1 hf1.choose_spec.2.2 (.cons (.refl _) .nil) rfl rfl ?_
  refine o_s (.t (.d (.lit (.bool (!x1))))) (g0 rfl) rfl rfl rfl ?_
  refine o_s (.t (.d (.lit (.bool (!x1))))) (g0 rfl) rfl rfl rfl ?_
  refine o_nil ?_
  repeat (first | refine then_normal ?_ | refine then_exit ?_ | refine then_ret ?_ | refine block_normal ?_ | refine block_ret ?_ | refine block_exit ?_ | refine block_pass rfl ?_)
  refine c_ret ?_
  repeat (first | refine then_normal ?_ | refine then_exit ?_ | refine then_ret ?_ | refine block_normal ?_ | refine block_ret ?_ | refine block_exit ?_ | refine block_pass rfl ?_)
  obtain rfl := Option.some.inj h
  exact end0 rfl (.refl _)

theorem fc_answer_all_string (p0 : (List (List UInt8))) (F1 : Nat) (C1 : List (List D)) (p1 : ((List UInt8) → Option Bool)) (hp1 : ∀ (a0 : (List UInt8)) r, p1 a0 = some r → FC Try.prog F1 ([.t (.d (.lit (.string ⟨⟨a0⟩⟩)))] ++ C1.map A.imm) [] (.t (.d (.lit (.bool r))))) (hf1 : ∃ fn, Try.prog.funcs[F1]? = some fn ∧ fn.body.isNone = false ∧ (fn.name == "runtime.NumGoroutine") = false) (r : Bool) (h : m_answer_all_string p0 p1 = some r) : FC Try.prog 46 [.t (.d (.seq 1 (List.map cStr p0))), .t (.d (.clo F1 C1))] [] (.t (.d (.lit (.bool r)))) := by
  refine fc_mk (rs := [.tmp 4]) (n := 14) Try.func46 rfl rfl (Nat.le_of_ble_eq_true rfl) rfl (pins := []) rfl (L := [(0, .t (.d (.seq 1 (List.map cStr p0)))), (1, .t (.d (.clo F1 C1)))]) rfl ?_
  refine c_seq ?_
  refine c_region ?_
  refine o_s (.box [.d (.clo F1 C1)]) (g0 rfl) rfl rfl rfl ?_
  refine o_s (.t (.d (.lit (.bool false)))) (g0 rfl) rfl rfl rfl ?_
  refine o_nil ?_
  repeat (first | refine then_normal ?_ | refine then_exit ?_ | refine then_ret ?_ | refine block_normal ?_ | refine block_ret ?_ | refine block_exit ?_ | refine block_pass rfl ?_)
  refine c_seq ?_
  refine c_fz 3 (.imm [.clo F1 C1]) rfl rfl rfl rfl ?_
  refine c_region ?_
  refine o_s (.t (.d (.seq 1 (List.map cStr p0)))) (g0 rfl) rfl rfl rfl ?_
  refine o_c (g0 rfl) rfl rfl rfl (lenE _ _) trivial ?_
  refine o_s (.t (.d (.lit (.bool (decide ((p0.length : Int) ≤ 4096)))))) (g0 rfl) rfl rfl rfl ?_
  refine o_s (.t (.d (.lit (.bool (decide ((p0.length : Int) ≤ 4096)))))) (g0 rfl) rfl rfl rfl ?_
  rcases bif_some h with ⟨h1, h⟩ | ⟨h1, h⟩
  · refine o_s (.t (.d (.seq 1 (List.map cStr p0)))) (gy rfl rfl rfl h1) rfl rfl rfl ?_
    refine o_mfc (.t (.d (.clo 87 [[.clo F1 C1]]))) (gy rfl rfl rfl h1) rfl rfl rfl rfl rfl ?_
    obtain ⟨x2, h3, h⟩ := bind_some h
    refine o_ca (fc_slices_ContainsFunc_string _ 87 [[.clo F1 C1]] _ (fun a0 r h => fc_answer_all_string_c1 a0 F1 C1 _ hp1 hf1 r h) ⟨_, Try.func87, rfl, rfl⟩ _ h3) (gy rfl rfl rfl h1) rfl rfl rfl rfl rfl rfl rfl (.cons (.refl _) (.cons (.refl _) .nil)) rfl rfl ?_
    refine o_s (.t (.d (.lit (.bool (!x2))))) (gy rfl rfl rfl h1) rfl rfl rfl ?_
    refine o_pk (.t (.d (.lit (.bool (!x2))))) (b := true) h1 (g0 rfl) rfl rfl rfl rfl rfl ?_
    refine o_s (.t (.d (.lit (.bool (!x2))))) (g0 rfl) rfl rfl rfl ?_
    refine o_nil ?_
    repeat (first | refine then_normal ?_ | refine then_exit ?_ | refine then_ret ?_ | refine block_normal ?_ | refine block_ret ?_ | refine block_exit ?_ | refine block_pass rfl ?_)
    refine c_ret ?_
    repeat (first | refine then_normal ?_ | refine then_exit ?_ | refine then_ret ?_ | refine block_normal ?_ | refine block_ret ?_ | refine block_exit ?_ | refine block_pass rfl ?_)
    obtain rfl := Option.some.inj h
    exact end0 rfl (.refl _)
  · refine o_skip rfl rfl rfl h1 rfl rfl ?_
    refine o_skip rfl rfl rfl h1 rfl rfl ?_
    refine o_skip rfl rfl rfl h1 rfl rfl ?_
    refine o_skip rfl rfl rfl h1 rfl rfl ?_
    refine o_pk (.t (.d (.lit (.bool false)))) (b := false) h1 (g0 rfl) rfl rfl rfl rfl rfl ?_
    refine o_s (.t (.d (.lit (.bool false)))) (g0 rfl) rfl rfl rfl ?_
    refine o_nil ?_
    repeat (first | refine then_normal ?_ | refine then_exit ?_ | refine then_ret ?_ | refine block_normal ?_ | refine block_ret ?_ | refine block_exit ?_ | refine block_pass rfl ?_)
    refine c_ret ?_
    repeat (first | refine then_normal ?_ | refine then_exit ?_ | refine then_ret ?_ | refine block_normal ?_ | refine block_ret ?_ | refine block_exit ?_ | refine block_pass rfl ?_)
    obtain rfl := Option.some.inj h
    exact end0 rfl (.refl _)

theorem fc_slices_IndexFunc_Member (p0 : (List S_api_Member)) (F1 : Nat) (C1 : List (List D)) (p1 : (S_api_Member → Option Bool)) (hp1 : ∀ (a0 : S_api_Member) r, p1 a0 = some r → FC Try.prog F1 ([.t (.agg [.lit (.string ⟨⟨a0.Name⟩⟩), .lit (.int .i64 a0.Role)])] ++ C1.map A.imm) [] (.t (.d (.lit (.bool r))))) (hf1 : ∃ fn, Try.prog.funcs[F1]? = some fn ∧ fn.body.isNone = false ∧ (fn.name == "runtime.NumGoroutine") = false) (r : Int) (h : m_slices_IndexFunc_Member p0 p1 = some r) : FC Try.prog 102 [.t (.d (.seq 2 (List.map cS_api_Member p0))), .t (.d (.clo F1 C1))] [] (.t (.d (.lit (.int .i64 r)))) := by
  refine fc_mk (rs := [.tmp 4]) (n := 19) Try.func102 rfl rfl (Nat.le_of_ble_eq_true rfl) rfl (pins := []) rfl (L := [(0, .t (.d (.seq 2 (List.map cS_api_Member p0)))), (1, .t (.d (.clo F1 C1)))]) rfl ?_
  refine c_seq ?_
  refine c_region ?_
  refine o_s (.t (.d (.lit (.int .i64 0)))) (g0 rfl) rfl rfl rfl ?_
  refine o_nil ?_
  repeat (first | refine then_normal ?_ | refine then_exit ?_ | refine then_ret ?_ | refine block_normal ?_ | refine block_ret ?_ | refine block_exit ?_ | refine block_pass rfl ?_)
  refine c_seq ?_
  refine c_seq ?_
  refine c_region ?_
  refine o_s (.t (.d (.seq 2 (List.map cS_api_Member p0)))) (g0 rfl) rfl rfl rfl ?_
  refine o_c (g0 rfl) rfl rfl rfl (lenE _ _) trivial ?_
  refine o_s (.t (.d (.lit (.int .i64 0)))) (g0 rfl) rfl rfl rfl ?_
  refine o_nil ?_
  repeat (first | refine then_normal ?_ | refine then_exit ?_ | refine then_ret ?_ | refine block_normal ?_ | refine block_ret ?_ | refine block_exit ?_ | refine block_pass rfl ?_)
  refine c_block ?_
  refine c_fuel (fun (z1 : Int) => [(0, .t (.d (.seq 2 (List.map cS_api_Member p0)))), (1, .t (.d (.clo F1 C1))), (7, .t (.d (.lit (.int .i64 (p0.length : Int))))), (8, .t (.d (.lit (.int .i64 z1))))]) (fun nl1 => (fun (z1 : Int) => m_slices_IndexFunc_Member_l1 p0 p1 nl1 z1 = some r)) (p0.length + 1) 0 h ⟨(.refl _), ⟨(.refl _), ⟨(.refl _), ⟨(.refl _), trivial⟩⟩⟩⟩ rfl ?_
  rintro nl1 z1 h
  cases nl1 with
  | zero => exact none_ne h
  | succ nl1 =>
    refine c_seq ?_
    refine c_region ?_
    refine o_s (.t (.d (.lit (.bool (decide (z1 < (p0.length : Int))))))) (g0 rfl) rfl rfl rfl ?_
    refine o_nil ?_
    repeat (first | refine then_normal ?_ | refine then_exit ?_ | refine then_ret ?_ | refine block_normal ?_ | refine block_ret ?_ | refine block_exit ?_ | refine block_pass rfl ?_)
    refine c_seq ?_
    rcases bif_some h with ⟨h2, h⟩ | ⟨h2, h⟩
    · refine c_t h2 rfl ?_
      refine c_skip ?_
      repeat (first | refine then_normal ?_ | refine then_exit ?_ | refine then_ret ?_ | refine block_normal ?_ | refine block_ret ?_ | refine block_exit ?_ | refine block_pass rfl ?_)
      refine c_seq ?_
      refine c_block ?_
      refine c_seq ?_
      refine c_region ?_
      refine o_s (.t (.d (.lit (.int .i64 z1)))) (g0 rfl) rfl rfl rfl ?_
      refine o_s (.t (.d (.lit (.int .i64 z1)))) (g0 rfl) rfl rfl rfl ?_
      refine o_nil ?_
      repeat (first | refine then_normal ?_ | refine then_exit ?_ | refine then_ret ?_ | refine block_normal ?_ | refine block_ret ?_ | refine block_exit ?_ | refine block_pass rfl ?_)
      refine c_seq ?_
      refine c_region ?_
      refine o_s (.t (.d (.clo F1 C1))) (g0 rfl) rfl rfl rfl ?_
      refine o_s (.t (.d (.seq 2 (List.map cS_api_Member p0)))) (g0 rfl) rfl rfl rfl ?_
      refine o_s (.t (.d (.lit (.int .i64 z1)))) (g0 rfl) rfl rfl rfl ?_
      obtain ⟨x3, h4, h⟩ := bind_some h
      refine o_c (g0 rfl) rfl rfl rfl (idxE h4) (idxC h4) ?_
      refine o_s (.t (.agg [.lit (.string ⟨⟨x3.Name⟩⟩), .lit (.int .i64 x3.Role)])) (g0 rfl) rfl rfl rfl ?_
      obtain ⟨x5, h6, h⟩ := bind_some h
      refine o_cc (hp1 _ _ h6) (g0 rfl) rfl rfl rfl rfl hf1.choose_spec.1 hf1.choose_spec.2.1 hf1.choose_spec.2.2 (.cons (.refl _) .nil) rfl rfl ?_
      refine o_nil ?_
      repeat (first | refine then_normal ?_ | refine then_exit ?_ | refine then_ret ?_ | refine block_normal ?_ | refine block_ret ?_ | refine block_exit ?_ | refine block_pass rfl ?_)
      rcases bif_some h with ⟨h7, h⟩ | ⟨h7, h⟩
      · refine c_t h7 rfl ?_
        refine c_seq ?_
        refine c_region ?_
        refine o_s (.t (.d (.lit (.int .i64 z1)))) (g0 rfl) rfl rfl rfl ?_
        refine o_s (.t (.d (.lit (.int .i64 z1)))) (g0 rfl) rfl rfl rfl ?_
        refine o_nil ?_
        repeat (first | refine then_normal ?_ | refine then_exit ?_ | refine then_ret ?_ | refine block_normal ?_ | refine block_ret ?_ | refine block_exit ?_ | refine block_pass rfl ?_)
        refine c_ret ?_
        repeat (first | refine then_normal ?_ | refine then_exit ?_ | refine then_ret ?_ | refine block_normal ?_ | refine block_ret ?_ | refine block_exit ?_ | refine block_pass rfl ?_)
        obtain rfl := Option.some.inj h
        exact end0 rfl (.refl _)
      · refine c_f h7 rfl ?_
        refine c_skip ?_
        repeat (first | refine then_normal ?_ | refine then_exit ?_ | refine then_ret ?_ | refine block_normal ?_ | refine block_ret ?_ | refine block_exit ?_ | refine block_pass rfl ?_)
        refine c_region ?_
        refine o_s (.t (.d (.lit (.int .i64 (wi (z1 + 1)))))) (g0 rfl) rfl rfl rfl ?_
        refine o_s (.t (.d (.lit (.int .i64 (wi (z1 + 1)))))) (g0 rfl) rfl rfl rfl ?_
        refine o_nil ?_
        repeat (first | refine then_normal ?_ | refine then_exit ?_ | refine then_ret ?_ | refine block_normal ?_ | refine block_ret ?_ | refine block_exit ?_ | refine block_pass rfl ?_)
        exact ⟨nl1, (wi (z1 + 1)), Nat.lt_succ_self nl1, h, ⟨(.refl _), ⟨(.refl _), ⟨(.refl _), ⟨(.refl _), trivial⟩⟩⟩⟩, rfl⟩
    · refine c_f h2 rfl ?_
      refine c_exit ?_
      repeat (first | refine then_normal ?_ | refine then_exit ?_ | refine then_ret ?_ | refine block_normal ?_ | refine block_ret ?_ | refine block_exit ?_ | refine block_pass rfl ?_)
      refine c_seq ?_
      refine c_region ?_
      refine o_s (.t (.d (.lit (.int .i64 (-1))))) (g0 rfl) rfl rfl rfl ?_
      refine o_nil ?_
      repeat (first | refine then_normal ?_ | refine then_exit ?_ | refine then_ret ?_ | refine block_normal ?_ | refine block_ret ?_ | refine block_exit ?_ | refine block_pass rfl ?_)
      refine c_ret ?_
      repeat (first | refine then_normal ?_ | refine then_exit ?_ | refine then_ret ?_ | refine block_normal ?_ | refine block_ret ?_ | refine block_exit ?_ | refine block_pass rfl ?_)
      obtain rfl := Option.some.inj h
      exact end0 rfl (.refl _)

theorem fc_slices_ContainsFunc_Member (p0 : (List S_api_Member)) (F1 : Nat) (C1 : List (List D)) (p1 : (S_api_Member → Option Bool)) (hp1 : ∀ (a0 : S_api_Member) r, p1 a0 = some r → FC Try.prog F1 ([.t (.agg [.lit (.string ⟨⟨a0.Name⟩⟩), .lit (.int .i64 a0.Role)])] ++ C1.map A.imm) [] (.t (.d (.lit (.bool r))))) (hf1 : ∃ fn, Try.prog.funcs[F1]? = some fn ∧ fn.body.isNone = false ∧ (fn.name == "runtime.NumGoroutine") = false) (r : Bool) (h : m_slices_ContainsFunc_Member p0 p1 = some r) : FC Try.prog 88 [.t (.d (.seq 2 (List.map cS_api_Member p0))), .t (.d (.clo F1 C1))] [] (.t (.d (.lit (.bool r)))) := by
  refine fc_mk (rs := [.tmp 4]) (n := 9) Try.func88 rfl rfl (Nat.le_of_ble_eq_true rfl) rfl (pins := []) rfl (L := [(0, .t (.d (.seq 2 (List.map cS_api_Member p0)))), (1, .t (.d (.clo F1 C1)))]) rfl ?_
  refine c_seq ?_
  refine c_region ?_
  refine o_s (.t (.d (.lit (.bool false)))) (g0 rfl) rfl rfl rfl ?_
  refine o_nil ?_
  repeat (first | refine then_normal ?_ | refine then_exit ?_ | refine then_ret ?_ | refine block_normal ?_ | refine block_ret ?_ | refine block_exit ?_ | refine block_pass rfl ?_)
  refine c_seq ?_
  refine c_region ?_
  refine o_s (.t (.d (.seq 2 (List.map cS_api_Member p0)))) (g0 rfl) rfl rfl rfl ?_
  refine o_s (.t (.d (.clo F1 C1))) (g0 rfl) rfl rfl rfl ?_
  obtain ⟨x1, h2, h⟩ := bind_some h
  refine o_ca (fc_slices_IndexFunc_Member _ F1 C1 _ hp1 hf1 _ h2) (g0 rfl) rfl rfl rfl rfl rfl rfl rfl (.cons (.refl _) (.cons (.refl _) .nil)) rfl rfl ?_
  refine o_s (.t (.d (.lit (.bool (decide (x1 ≥ 0)))))) (g0 rfl) rfl rfl rfl ?_
  refine o_s (.t (.d (.lit (.bool (decide (x1 ≥ 0)))))) (g0 rfl) rfl rfl rfl ?_
  refine o_nil ?_
  repeat (first | refine then_normal ?_ | refine then_exit ?_ | refine then_ret ?_ | refine block_normal ?_ | refine block_ret ?_ | refine block_exit ?_ | refine block_pass rfl ?_)
  refine c_ret ?_
  repeat (first | refine then_normal ?_ | refine then_exit ?_ | refine then_ret ?_ | refine block_normal ?_ | refine block_ret ?_ | refine block_exit ?_ | refine block_pass rfl ?_)
  obtain rfl := Option.some.inj h
  exact end0 rfl (.refl _)

theorem fc_answer_all_Member_c1 (p0 : S_api_Member) (F1 : Nat) (C1 : List (List D)) (c1 : (S_api_Member → Option Bool)) (hp1 : ∀ (a0 : S_api_Member) r, c1 a0 = some r → FC Try.prog F1 ([.t (.agg [.lit (.string ⟨⟨a0.Name⟩⟩), .lit (.int .i64 a0.Role)])] ++ C1.map A.imm) [] (.t (.d (.lit (.bool r))))) (hf1 : ∃ fn, Try.prog.funcs[F1]? = some fn ∧ fn.body.isNone = false ∧ (fn.name == "runtime.NumGoroutine") = false) (r : Bool) (h : m_answer_all_Member_c1 p0 c1 = some r) : FC Try.prog 89 [.t (.agg [.lit (.string ⟨⟨p0.Name⟩⟩), .lit (.int .i64 p0.Role)]), .imm [.clo F1 C1]] [] (.t (.d (.lit (.bool r)))) := by
  refine fc_mk (rs := [.tmp 3]) (n := 8) Try.func89 rfl rfl (Nat.le_of_ble_eq_true rfl) rfl (pins := []) rfl (L := [(0, .t (.agg [.lit (.string ⟨⟨p0.Name⟩⟩), .lit (.int .i64 p0.Role)])), (1, .imm [.clo F1 C1])]) rfl ?_
  refine c_seq ?_
  refine c_region ?_
  refine o_s (.box [.d (.lit (.string ⟨⟨p0.Name⟩⟩)), .d (.lit (.int .i64 p0.Role))]) (g0 rfl) rfl rfl rfl ?_
  refine o_s (.t (.d (.lit (.bool false)))) (g0 rfl) rfl rfl rfl ?_
  refine o_nil ?_
  repeat (first | refine then_normal ?_ | refine then_exit ?_ | refine then_ret ?_ | refine block_normal ?_ | refine block_ret ?_ | refine block_exit ?_ | refine block_pass rfl ?_)
  refine c_seq ?_
  refine c_region ?_
  refine o_s (.t (.d (.clo F1 C1))) (g0 rfl) rfl rfl rfl ?_
  refine o_s (.t (.agg [.lit (.string ⟨⟨p0.Name⟩⟩), .lit (.int .i64 p0.Role)])) (g0 rfl) rfl rfl rfl ?_
  obtain ⟨x1, h2, h⟩ := bind_some h
  refine o_cc (hp1 _ _ h2) (g0 rfl) rfl rfl rfl rfl hf1.choose_spec.1 hf1.choose_spec.2.1 hf1.choose_spec.2.2 (.cons (.refl _) .nil) rfl rfl ?_
  refine o_s (.t (.d (.lit (.bool (!x1))))) (g0 rfl) rfl rfl rfl ?_
  refine o_s (.t (.d (.lit (.bool (!x1))))) (g0 rfl) rfl rfl rfl ?_
  refine o_nil ?_
  repeat (first | refine then_normal ?_ | refine then_exit ?_ | refine then_ret ?_ | refine block_normal ?_ | refine block_ret ?_ | refine block_exit ?_ | refine block_pass rfl ?_)
  refine c_ret ?_
  repeat (first | refine then_normal ?_ | refine then_exit ?_ | refine then_ret ?_ | refine block_normal ?_ | refine block_ret ?_ | refine block_exit ?_ | refine block_pass rfl ?_)
  obtain rfl := Option.some.inj h
  exact end0 rfl (.refl _)

theorem fc_answer_all_Member (p0 : (List S_api_Member)) (F1 : Nat) (C1 : List (List D)) (p1 : (S_api_Member → Option Bool)) (hp1 : ∀ (a0 : S_api_Member) r, p1 a0 = some r → FC Try.prog F1 ([.t (.agg [.lit (.string ⟨⟨a0.Name⟩⟩), .lit (.int .i64 a0.Role)])] ++ C1.map A.imm) [] (.t (.d (.lit (.bool r))))) (hf1 : ∃ fn, Try.prog.funcs[F1]? = some fn ∧ fn.body.isNone = false ∧ (fn.name == "runtime.NumGoroutine") = false) (r : Bool) (h : m_answer_all_Member p0 p1 = some r) : FC Try.prog 47 [.t (.d (.seq 2 (List.map cS_api_Member p0))), .t (.d (.clo F1 C1))] [] (.t (.d (.lit (.bool r)))) := by
  refine fc_mk (rs := [.tmp 4]) (n := 14) Try.func47 rfl rfl (Nat.le_of_ble_eq_true rfl) rfl (pins := []) rfl (L := [(0, .t (.d (.seq 2 (List.map cS_api_Member p0)))), (1, .t (.d (.clo F1 C1)))]) rfl ?_
  refine c_seq ?_
  refine c_region ?_
  refine o_s (.box [.d (.clo F1 C1)]) (g0 rfl) rfl rfl rfl ?_
  refine o_s (.t (.d (.lit (.bool false)))) (g0 rfl) rfl rfl rfl ?_
  refine o_nil ?_
  repeat (first | refine then_normal ?_ | refine then_exit ?_ | refine then_ret ?_ | refine block_normal ?_ | refine block_ret ?_ | refine block_exit ?_ | refine block_pass rfl ?_)
  refine c_seq ?_
  refine c_fz 3 (.imm [.clo F1 C1]) rfl rfl rfl rfl ?_
  refine c_region ?_
  refine o_s (.t (.d (.seq 2 (List.map cS_api_Member p0)))) (g0 rfl) rfl rfl rfl ?_
  refine o_c (g0 rfl) rfl rfl rfl (lenE _ _) trivial ?_
  refine o_s (.t (.d (.lit (.bool (decide ((p0.length : Int) ≤ 4096)))))) (g0 rfl) rfl rfl rfl ?_
  refine o_s (.t (.d (.lit (.bool (decide ((p0.length : Int) ≤ 4096)))))) (g0 rfl) rfl rfl rfl ?_
  rcases bif_some h with ⟨h1, h⟩ | ⟨h1, h⟩
  · refine o_s (.t (.d (.seq 2 (List.map cS_api_Member p0)))) (gy rfl rfl rfl h1) rfl rfl rfl ?_
    refine o_mfc (.t (.d (.clo 89 [[.clo F1 C1]]))) (gy rfl rfl rfl h1) rfl rfl rfl rfl rfl ?_
    obtain ⟨x2, h3, h⟩ := bind_some h
    refine o_ca (fc_slices_ContainsFunc_Member _ 89 [[.clo F1 C1]] _ (fun a0 r h => fc_answer_all_Member_c1 a0 F1 C1 _ hp1 hf1 r h) ⟨_, Try.func89, rfl, rfl⟩ _ h3) (gy rfl rfl rfl h1) rfl rfl rfl rfl rfl rfl rfl (.cons (.refl _) (.cons (.refl _) .nil)) rfl rfl ?_
    refine o_s (.t (.d (.lit (.bool (!x2))))) (gy rfl rfl rfl h1) rfl rfl rfl ?_
    refine o_pk (.t (.d (.lit (.bool (!x2))))) (b := true) h1 (g0 rfl) rfl rfl rfl rfl rfl ?_
    refine o_s (.t (.d (.lit (.bool (!x2))))) (g0 rfl) rfl rfl rfl ?_
    refine o_nil ?_
    repeat (first | refine then_normal ?_ | refine then_exit ?_ | refine then_ret ?_ | refine block_normal ?_ | refine block_ret ?_ | refine block_exit ?_ | refine block_pass rfl ?_)
    refine c_ret ?_
    repeat (first | refine then_normal ?_ | refine then_exit ?_ | refine then_ret ?_ | refine block_normal ?_ | refine block_ret ?_ | refine block_exit ?_ | refine block_pass rfl ?_)
    obtain rfl := Option.some.inj h
    exact end0 rfl (.refl _)
  · refine o_skip rfl rfl rfl h1 rfl rfl ?_
    refine o_skip rfl rfl rfl h1 rfl rfl ?_
    refine o_skip rfl rfl rfl h1 rfl rfl ?_
    refine o_skip rfl rfl rfl h1 rfl rfl ?_
    refine o_pk (.t (.d (.lit (.bool false)))) (b := false) h1 (g0 rfl) rfl rfl rfl rfl rfl ?_
    refine o_s (.t (.d (.lit (.bool false)))) (g0 rfl) rfl rfl rfl ?_
    refine o_nil ?_
    repeat (first | refine then_normal ?_ | refine then_exit ?_ | refine then_ret ?_ | refine block_normal ?_ | refine block_ret ?_ | refine block_exit ?_ | refine block_pass rfl ?_)
    refine c_ret ?_
    repeat (first | refine then_normal ?_ | refine then_exit ?_ | refine then_ret ?_ | refine block_normal ?_ | refine block_ret ?_ | refine block_exit ?_ | refine block_pass rfl ?_)
    obtain rfl := Option.some.inj h
    exact end0 rfl (.refl _)

theorem fc_answer_member (p0 : S_api_Member) (r : Bool) (h : m_answer_member p0 = some r) : FC Try.prog 48 [.t (.agg [.lit (.string ⟨⟨p0.Name⟩⟩), .lit (.int .i64 p0.Role)])] [] (.t (.d (.lit (.bool r)))) := by
  refine fc_mk (rs := [.tmp 2]) (n := 16) Try.func48 rfl rfl (Nat.le_of_ble_eq_true rfl) rfl (pins := []) rfl (L := [(0, .t (.agg [.lit (.string ⟨⟨p0.Name⟩⟩), .lit (.int .i64 p0.Role)]))]) rfl ?_
  refine c_seq ?_
  refine c_region ?_
  refine o_s (.box [.d (.lit (.string ⟨⟨p0.Name⟩⟩)), .d (.lit (.int .i64 p0.Role))]) (g0 rfl) rfl rfl rfl ?_
  refine o_s (.t (.d (.lit (.bool false)))) (g0 rfl) rfl rfl rfl ?_
  refine o_nil ?_
  repeat (first | refine then_normal ?_ | refine then_exit ?_ | refine then_ret ?_ | refine block_normal ?_ | refine block_ret ?_ | refine block_exit ?_ | refine block_pass rfl ?_)
  refine c_seq ?_
  refine c_region ?_
  refine o_s (.ref 1 0) (g0 rfl) rfl rfl rfl ?_
  refine o_s (.t (.d (.lit (.string ⟨⟨p0.Name⟩⟩)))) (g0 rfl) rfl rfl rfl ?_
  obtain ⟨x1, h2, h⟩ := bind_some h
  refine o_ca (fc_tree_Name _ _ h2) (g0 rfl) rfl rfl rfl rfl rfl rfl rfl (.cons (.refl _) .nil) rfl rfl ?_
  refine o_s (.t (.d (.lit (.bool x1)))) (g0 rfl) rfl rfl rfl ?_
  rcases bif_some h with ⟨h3, h⟩ | ⟨h3, h⟩
  · refine o_s (.ref 1 1) (gy rfl rfl rfl h3) rfl rfl rfl ?_
    refine o_s (.t (.d (.lit (.int .i64 p0.Role)))) (gy rfl rfl rfl h3) rfl rfl rfl ?_
    refine o_s (.t (.d (.lit (.bool (decide (p0.Role ≥ 1)))))) (gy rfl rfl rfl h3) rfl rfl rfl ?_
    refine o_pk (.t (.d (.lit (.bool (decide (p0.Role ≥ 1)))))) (b := true) h3 (g0 rfl) rfl rfl rfl rfl rfl ?_
    refine o_s (.t (.d (.lit (.bool (decide (p0.Role ≥ 1)))))) (g0 rfl) rfl rfl rfl ?_
    rcases bif_some h with ⟨h4, h⟩ | ⟨h4, h⟩
    · refine o_s (.ref 1 1) (gy rfl rfl rfl h4) rfl rfl rfl ?_
      refine o_s (.t (.d (.lit (.int .i64 p0.Role)))) (gy rfl rfl rfl h4) rfl rfl rfl ?_
      refine o_s (.t (.d (.lit (.bool (decide (p0.Role ≤ 4)))))) (gy rfl rfl rfl h4) rfl rfl rfl ?_
      refine o_pk (.t (.d (.lit (.bool (decide (p0.Role ≤ 4)))))) (b := true) h4 (g0 rfl) rfl rfl rfl rfl rfl ?_
      refine o_s (.t (.d (.lit (.bool (decide (p0.Role ≤ 4)))))) (g0 rfl) rfl rfl rfl ?_
      refine o_nil ?_
      repeat (first | refine then_normal ?_ | refine then_exit ?_ | refine then_ret ?_ | refine block_normal ?_ | refine block_ret ?_ | refine block_exit ?_ | refine block_pass rfl ?_)
      refine c_ret ?_
      repeat (first | refine then_normal ?_ | refine then_exit ?_ | refine then_ret ?_ | refine block_normal ?_ | refine block_ret ?_ | refine block_exit ?_ | refine block_pass rfl ?_)
      obtain rfl := Option.some.inj h
      exact end0 rfl (.refl _)
    · refine o_skip rfl rfl rfl h4 rfl rfl ?_
      refine o_skip rfl rfl rfl h4 rfl rfl ?_
      refine o_skip rfl rfl rfl h4 rfl rfl ?_
      refine o_pk (.t (.d (.lit (.bool false)))) (b := false) h4 (g0 rfl) rfl rfl rfl rfl rfl ?_
      refine o_s (.t (.d (.lit (.bool false)))) (g0 rfl) rfl rfl rfl ?_
      refine o_nil ?_
      repeat (first | refine then_normal ?_ | refine then_exit ?_ | refine then_ret ?_ | refine block_normal ?_ | refine block_ret ?_ | refine block_exit ?_ | refine block_pass rfl ?_)
      refine c_ret ?_
      repeat (first | refine then_normal ?_ | refine then_exit ?_ | refine then_ret ?_ | refine block_normal ?_ | refine block_ret ?_ | refine block_exit ?_ | refine block_pass rfl ?_)
      obtain rfl := Option.some.inj h
      exact end0 rfl (.refl _)
  · refine o_skip rfl rfl rfl h3 rfl rfl ?_
    refine o_skip rfl rfl rfl h3 rfl rfl ?_
    refine o_skip rfl rfl rfl h3 rfl rfl ?_
    refine o_pk (.t (.d (.lit (.bool false)))) (b := false) h3 (g0 rfl) rfl rfl rfl rfl rfl ?_
    refine o_s (.t (.d (.lit (.bool false)))) (g0 rfl) rfl rfl rfl ?_
    refine o_skip rfl rfl rfl rfl rfl rfl ?_
    refine o_skip rfl rfl rfl rfl rfl rfl ?_
    refine o_skip rfl rfl rfl rfl rfl rfl ?_
    refine o_pk (.t (.d (.lit (.bool false)))) (b := false) rfl (g0 rfl) rfl rfl rfl rfl rfl ?_
    refine o_s (.t (.d (.lit (.bool false)))) (g0 rfl) rfl rfl rfl ?_
    refine o_nil ?_
    repeat (first | refine then_normal ?_ | refine then_exit ?_ | refine then_ret ?_ | refine block_normal ?_ | refine block_ret ?_ | refine block_exit ?_ | refine block_pass rfl ?_)
    refine c_ret ?_
    repeat (first | refine then_normal ?_ | refine then_exit ?_ | refine then_ret ?_ | refine block_normal ?_ | refine block_ret ?_ | refine block_exit ?_ | refine block_pass rfl ?_)
    obtain rfl := Option.some.inj h
    exact end0 rfl (.refl _)

theorem fc_slices_IndexFunc_Past (p0 : (List S_api_Past)) (F1 : Nat) (C1 : List (List D)) (p1 : (S_api_Past → Option Bool)) (hp1 : ∀ (a0 : S_api_Past) r, p1 a0 = some r → FC Try.prog F1 ([.t (.agg [.lit (.int .i64 a0.Number), .lit (.int .i64 a0.Epoch), .lit (.bool a0.Gone), .lit (.string ⟨⟨a0.By⟩⟩)])] ++ C1.map A.imm) [] (.t (.d (.lit (.bool r))))) (hf1 : ∃ fn, Try.prog.funcs[F1]? = some fn ∧ fn.body.isNone = false ∧ (fn.name == "runtime.NumGoroutine") = false) (r : Int) (h : m_slices_IndexFunc_Past p0 p1 = some r) : FC Try.prog 110 [.t (.d (.seq 4 (List.map cS_api_Past p0))), .t (.d (.clo F1 C1))] [] (.t (.d (.lit (.int .i64 r)))) := by
  refine fc_mk (rs := [.tmp 4]) (n := 19) Try.func110 rfl rfl (Nat.le_of_ble_eq_true rfl) rfl (pins := []) rfl (L := [(0, .t (.d (.seq 4 (List.map cS_api_Past p0)))), (1, .t (.d (.clo F1 C1)))]) rfl ?_
  refine c_seq ?_
  refine c_region ?_
  refine o_s (.t (.d (.lit (.int .i64 0)))) (g0 rfl) rfl rfl rfl ?_
  refine o_nil ?_
  repeat (first | refine then_normal ?_ | refine then_exit ?_ | refine then_ret ?_ | refine block_normal ?_ | refine block_ret ?_ | refine block_exit ?_ | refine block_pass rfl ?_)
  refine c_seq ?_
  refine c_seq ?_
  refine c_region ?_
  refine o_s (.t (.d (.seq 4 (List.map cS_api_Past p0)))) (g0 rfl) rfl rfl rfl ?_
  refine o_c (g0 rfl) rfl rfl rfl (lenE _ _) trivial ?_
  refine o_s (.t (.d (.lit (.int .i64 0)))) (g0 rfl) rfl rfl rfl ?_
  refine o_nil ?_
  repeat (first | refine then_normal ?_ | refine then_exit ?_ | refine then_ret ?_ | refine block_normal ?_ | refine block_ret ?_ | refine block_exit ?_ | refine block_pass rfl ?_)
  refine c_block ?_
  refine c_fuel (fun (z1 : Int) => [(0, .t (.d (.seq 4 (List.map cS_api_Past p0)))), (1, .t (.d (.clo F1 C1))), (7, .t (.d (.lit (.int .i64 (p0.length : Int))))), (8, .t (.d (.lit (.int .i64 z1))))]) (fun nl1 => (fun (z1 : Int) => m_slices_IndexFunc_Past_l1 p0 p1 nl1 z1 = some r)) (p0.length + 1) 0 h ⟨(.refl _), ⟨(.refl _), ⟨(.refl _), ⟨(.refl _), trivial⟩⟩⟩⟩ rfl ?_
  rintro nl1 z1 h
  cases nl1 with
  | zero => exact none_ne h
  | succ nl1 =>
    refine c_seq ?_
    refine c_region ?_
    refine o_s (.t (.d (.lit (.bool (decide (z1 < (p0.length : Int))))))) (g0 rfl) rfl rfl rfl ?_
    refine o_nil ?_
    repeat (first | refine then_normal ?_ | refine then_exit ?_ | refine then_ret ?_ | refine block_normal ?_ | refine block_ret ?_ | refine block_exit ?_ | refine block_pass rfl ?_)
    refine c_seq ?_
    rcases bif_some h with ⟨h2, h⟩ | ⟨h2, h⟩
    · refine c_t h2 rfl ?_
      refine c_skip ?_
      repeat (first | refine then_normal ?_ | refine then_exit ?_ | refine then_ret ?_ | refine block_normal ?_ | refine block_ret ?_ | refine block_exit ?_ | refine block_pass rfl ?_)
      refine c_seq ?_
      refine c_block ?_
      refine c_seq ?_
      refine c_region ?_
      refine o_s (.t (.d (.lit (.int .i64 z1)))) (g0 rfl) rfl rfl rfl ?_
      refine o_s (.t (.d (.lit (.int .i64 z1)))) (g0 rfl) rfl rfl rfl ?_
      refine o_nil ?_
      repeat (first | refine then_normal ?_ | refine then_exit ?_ | refine then_ret ?_ | refine block_normal ?_ | refine block_ret ?_ | refine block_exit ?_ | refine block_pass rfl ?_)
      refine c_seq ?_
      refine c_region ?_
      refine o_s (.t (.d (.clo F1 C1))) (g0 rfl) rfl rfl rfl ?_
      refine o_s (.t (.d (.seq 4 (List.map cS_api_Past p0)))) (g0 rfl) rfl rfl rfl ?_
      refine o_s (.t (.d (.lit (.int .i64 z1)))) (g0 rfl) rfl rfl rfl ?_
      obtain ⟨x3, h4, h⟩ := bind_some h
      refine o_c (g0 rfl) rfl rfl rfl (idxE h4) (idxC h4) ?_
      refine o_s (.t (.agg [.lit (.int .i64 x3.Number), .lit (.int .i64 x3.Epoch), .lit (.bool x3.Gone), .lit (.string ⟨⟨x3.By⟩⟩)])) (g0 rfl) rfl rfl rfl ?_
      obtain ⟨x5, h6, h⟩ := bind_some h
      refine o_cc (hp1 _ _ h6) (g0 rfl) rfl rfl rfl rfl hf1.choose_spec.1 hf1.choose_spec.2.1 hf1.choose_spec.2.2 (.cons (.refl _) .nil) rfl rfl ?_
      refine o_nil ?_
      repeat (first | refine then_normal ?_ | refine then_exit ?_ | refine then_ret ?_ | refine block_normal ?_ | refine block_ret ?_ | refine block_exit ?_ | refine block_pass rfl ?_)
      rcases bif_some h with ⟨h7, h⟩ | ⟨h7, h⟩
      · refine c_t h7 rfl ?_
        refine c_seq ?_
        refine c_region ?_
        refine o_s (.t (.d (.lit (.int .i64 z1)))) (g0 rfl) rfl rfl rfl ?_
        refine o_s (.t (.d (.lit (.int .i64 z1)))) (g0 rfl) rfl rfl rfl ?_
        refine o_nil ?_
        repeat (first | refine then_normal ?_ | refine then_exit ?_ | refine then_ret ?_ | refine block_normal ?_ | refine block_ret ?_ | refine block_exit ?_ | refine block_pass rfl ?_)
        refine c_ret ?_
        repeat (first | refine then_normal ?_ | refine then_exit ?_ | refine then_ret ?_ | refine block_normal ?_ | refine block_ret ?_ | refine block_exit ?_ | refine block_pass rfl ?_)
        obtain rfl := Option.some.inj h
        exact end0 rfl (.refl _)
      · refine c_f h7 rfl ?_
        refine c_skip ?_
        repeat (first | refine then_normal ?_ | refine then_exit ?_ | refine then_ret ?_ | refine block_normal ?_ | refine block_ret ?_ | refine block_exit ?_ | refine block_pass rfl ?_)
        refine c_region ?_
        refine o_s (.t (.d (.lit (.int .i64 (wi (z1 + 1)))))) (g0 rfl) rfl rfl rfl ?_
        refine o_s (.t (.d (.lit (.int .i64 (wi (z1 + 1)))))) (g0 rfl) rfl rfl rfl ?_
        refine o_nil ?_
        repeat (first | refine then_normal ?_ | refine then_exit ?_ | refine then_ret ?_ | refine block_normal ?_ | refine block_ret ?_ | refine block_exit ?_ | refine block_pass rfl ?_)
        exact ⟨nl1, (wi (z1 + 1)), Nat.lt_succ_self nl1, h, ⟨(.refl _), ⟨(.refl _), ⟨(.refl _), ⟨(.refl _), trivial⟩⟩⟩⟩, rfl⟩
    · refine c_f h2 rfl ?_
      refine c_exit ?_
      repeat (first | refine then_normal ?_ | refine then_exit ?_ | refine then_ret ?_ | refine block_normal ?_ | refine block_ret ?_ | refine block_exit ?_ | refine block_pass rfl ?_)
      refine c_seq ?_
      refine c_region ?_
      refine o_s (.t (.d (.lit (.int .i64 (-1))))) (g0 rfl) rfl rfl rfl ?_
      refine o_nil ?_
      repeat (first | refine then_normal ?_ | refine then_exit ?_ | refine then_ret ?_ | refine block_normal ?_ | refine block_ret ?_ | refine block_exit ?_ | refine block_pass rfl ?_)
      refine c_ret ?_
      repeat (first | refine then_normal ?_ | refine then_exit ?_ | refine then_ret ?_ | refine block_normal ?_ | refine block_ret ?_ | refine block_exit ?_ | refine block_pass rfl ?_)
      obtain rfl := Option.some.inj h
      exact end0 rfl (.refl _)

theorem fc_slices_ContainsFunc_Past (p0 : (List S_api_Past)) (F1 : Nat) (C1 : List (List D)) (p1 : (S_api_Past → Option Bool)) (hp1 : ∀ (a0 : S_api_Past) r, p1 a0 = some r → FC Try.prog F1 ([.t (.agg [.lit (.int .i64 a0.Number), .lit (.int .i64 a0.Epoch), .lit (.bool a0.Gone), .lit (.string ⟨⟨a0.By⟩⟩)])] ++ C1.map A.imm) [] (.t (.d (.lit (.bool r))))) (hf1 : ∃ fn, Try.prog.funcs[F1]? = some fn ∧ fn.body.isNone = false ∧ (fn.name == "runtime.NumGoroutine") = false) (r : Bool) (h : m_slices_ContainsFunc_Past p0 p1 = some r) : FC Try.prog 90 [.t (.d (.seq 4 (List.map cS_api_Past p0))), .t (.d (.clo F1 C1))] [] (.t (.d (.lit (.bool r)))) := by
  refine fc_mk (rs := [.tmp 4]) (n := 9) Try.func90 rfl rfl (Nat.le_of_ble_eq_true rfl) rfl (pins := []) rfl (L := [(0, .t (.d (.seq 4 (List.map cS_api_Past p0)))), (1, .t (.d (.clo F1 C1)))]) rfl ?_
  refine c_seq ?_
  refine c_region ?_
  refine o_s (.t (.d (.lit (.bool false)))) (g0 rfl) rfl rfl rfl ?_
  refine o_nil ?_
  repeat (first | refine then_normal ?_ | refine then_exit ?_ | refine then_ret ?_ | refine block_normal ?_ | refine block_ret ?_ | refine block_exit ?_ | refine block_pass rfl ?_)
  refine c_seq ?_
  refine c_region ?_
  refine o_s (.t (.d (.seq 4 (List.map cS_api_Past p0)))) (g0 rfl) rfl rfl rfl ?_
  refine o_s (.t (.d (.clo F1 C1))) (g0 rfl) rfl rfl rfl ?_
  obtain ⟨x1, h2, h⟩ := bind_some h
  refine o_ca (fc_slices_IndexFunc_Past _ F1 C1 _ hp1 hf1 _ h2) (g0 rfl) rfl rfl rfl rfl rfl rfl rfl (.cons (.refl _) (.cons (.refl _) .nil)) rfl rfl ?_
  refine o_s (.t (.d (.lit (.bool (decide (x1 ≥ 0)))))) (g0 rfl) rfl rfl rfl ?_
  refine o_s (.t (.d (.lit (.bool (decide (x1 ≥ 0)))))) (g0 rfl) rfl rfl rfl ?_
  refine o_nil ?_
  repeat (first | refine then_normal ?_ | refine then_exit ?_ | refine then_ret ?_ | refine block_normal ?_ | refine block_ret ?_ | refine block_exit ?_ | refine block_pass rfl ?_)
  refine c_ret ?_
  repeat (first | refine then_normal ?_ | refine then_exit ?_ | refine then_ret ?_ | refine block_normal ?_ | refine block_ret ?_ | refine block_exit ?_ | refine block_pass rfl ?_)
  obtain rfl := Option.some.inj h
  exact end0 rfl (.refl _)

theorem fc_answer_all_Past_c1 (p0 : S_api_Past) (F1 : Nat) (C1 : List (List D)) (c1 : (S_api_Past → Option Bool)) (hp1 : ∀ (a0 : S_api_Past) r, c1 a0 = some r → FC Try.prog F1 ([.t (.agg [.lit (.int .i64 a0.Number), .lit (.int .i64 a0.Epoch), .lit (.bool a0.Gone), .lit (.string ⟨⟨a0.By⟩⟩)])] ++ C1.map A.imm) [] (.t (.d (.lit (.bool r))))) (hf1 : ∃ fn, Try.prog.funcs[F1]? = some fn ∧ fn.body.isNone = false ∧ (fn.name == "runtime.NumGoroutine") = false) (r : Bool) (h : m_answer_all_Past_c1 p0 c1 = some r) : FC Try.prog 91 [.t (.agg [.lit (.int .i64 p0.Number), .lit (.int .i64 p0.Epoch), .lit (.bool p0.Gone), .lit (.string ⟨⟨p0.By⟩⟩)]), .imm [.clo F1 C1]] [] (.t (.d (.lit (.bool r)))) := by
  refine fc_mk (rs := [.tmp 3]) (n := 8) Try.func91 rfl rfl (Nat.le_of_ble_eq_true rfl) rfl (pins := []) rfl (L := [(0, .t (.agg [.lit (.int .i64 p0.Number), .lit (.int .i64 p0.Epoch), .lit (.bool p0.Gone), .lit (.string ⟨⟨p0.By⟩⟩)])), (1, .imm [.clo F1 C1])]) rfl ?_
  refine c_seq ?_
  refine c_region ?_
  refine o_s (.box [.d (.lit (.int .i64 p0.Number)), .d (.lit (.int .i64 p0.Epoch)), .d (.lit (.bool p0.Gone)), .d (.lit (.string ⟨⟨p0.By⟩⟩))]) (g0 rfl) rfl rfl rfl ?_
  refine o_s (.t (.d (.lit (.bool false)))) (g0 rfl) rfl rfl rfl ?_
  refine o_nil ?_
  repeat (first | refine then_normal ?_ | refine then_exit ?_ | refine then_ret ?_ | refine block_normal ?_ | refine block_ret ?_ | refine block_exit ?_ | refine block_pass rfl ?_)
  refine c_seq ?_
  refine c_region ?_
  refine o_s (.t (.d (.clo F1 C1))) (g0 rfl) rfl rfl rfl ?_
  refine o_s (.t (.agg [.lit (.int .i64 p0.Number), .lit (.int .i64 p0.Epoch), .lit (.bool p0.Gone), .lit (.string ⟨⟨p0.By⟩⟩)])) (g0 rfl) rfl rfl rfl ?_
  obtain ⟨x1, h2, h⟩ := bind_some h
  refine o_cc (hp1 _ _ h2) (g0 rfl) rfl rfl rfl rfl hf1.choose_spec.1 hf1.choose_spec.2.1 hf1.choose_spec.2.2 (.cons (.refl _) .nil) rfl rfl ?_
  refine o_s (.t (.d (.lit (.bool (!x1))))) (g0 rfl) rfl rfl rfl ?_
  refine o_s (.t (.d (.lit (.bool (!x1))))) (g0 rfl) rfl rfl rfl ?_
  refine o_nil ?_
  repeat (first | refine then_normal ?_ | refine then_exit ?_ | refine then_ret ?_ | refine block_normal ?_ | refine block_ret ?_ | refine block_exit ?_ | refine block_pass rfl ?_)
  refine c_ret ?_
  repeat (first | refine then_normal ?_ | refine then_exit ?_ | refine then_ret ?_ | refine block_normal ?_ | refine block_ret ?_ | refine block_exit ?_ | refine block_pass rfl ?_)
  obtain rfl := Option.some.inj h
  exact end0 rfl (.refl _)

theorem fc_answer_all_Past (p0 : (List S_api_Past)) (F1 : Nat) (C1 : List (List D)) (p1 : (S_api_Past → Option Bool)) (hp1 : ∀ (a0 : S_api_Past) r, p1 a0 = some r → FC Try.prog F1 ([.t (.agg [.lit (.int .i64 a0.Number), .lit (.int .i64 a0.Epoch), .lit (.bool a0.Gone), .lit (.string ⟨⟨a0.By⟩⟩)])] ++ C1.map A.imm) [] (.t (.d (.lit (.bool r))))) (hf1 : ∃ fn, Try.prog.funcs[F1]? = some fn ∧ fn.body.isNone = false ∧ (fn.name == "runtime.NumGoroutine") = false) (r : Bool) (h : m_answer_all_Past p0 p1 = some r) : FC Try.prog 49 [.t (.d (.seq 4 (List.map cS_api_Past p0))), .t (.d (.clo F1 C1))] [] (.t (.d (.lit (.bool r)))) := by
  refine fc_mk (rs := [.tmp 4]) (n := 14) Try.func49 rfl rfl (Nat.le_of_ble_eq_true rfl) rfl (pins := []) rfl (L := [(0, .t (.d (.seq 4 (List.map cS_api_Past p0)))), (1, .t (.d (.clo F1 C1)))]) rfl ?_
  refine c_seq ?_
  refine c_region ?_
  refine o_s (.box [.d (.clo F1 C1)]) (g0 rfl) rfl rfl rfl ?_
  refine o_s (.t (.d (.lit (.bool false)))) (g0 rfl) rfl rfl rfl ?_
  refine o_nil ?_
  repeat (first | refine then_normal ?_ | refine then_exit ?_ | refine then_ret ?_ | refine block_normal ?_ | refine block_ret ?_ | refine block_exit ?_ | refine block_pass rfl ?_)
  refine c_seq ?_
  refine c_fz 3 (.imm [.clo F1 C1]) rfl rfl rfl rfl ?_
  refine c_region ?_
  refine o_s (.t (.d (.seq 4 (List.map cS_api_Past p0)))) (g0 rfl) rfl rfl rfl ?_
  refine o_c (g0 rfl) rfl rfl rfl (lenE _ _) trivial ?_
  refine o_s (.t (.d (.lit (.bool (decide ((p0.length : Int) ≤ 4096)))))) (g0 rfl) rfl rfl rfl ?_
  refine o_s (.t (.d (.lit (.bool (decide ((p0.length : Int) ≤ 4096)))))) (g0 rfl) rfl rfl rfl ?_
  rcases bif_some h with ⟨h1, h⟩ | ⟨h1, h⟩
  · refine o_s (.t (.d (.seq 4 (List.map cS_api_Past p0)))) (gy rfl rfl rfl h1) rfl rfl rfl ?_
    refine o_mfc (.t (.d (.clo 91 [[.clo F1 C1]]))) (gy rfl rfl rfl h1) rfl rfl rfl rfl rfl ?_
    obtain ⟨x2, h3, h⟩ := bind_some h
    refine o_ca (fc_slices_ContainsFunc_Past _ 91 [[.clo F1 C1]] _ (fun a0 r h => fc_answer_all_Past_c1 a0 F1 C1 _ hp1 hf1 r h) ⟨_, Try.func91, rfl, rfl⟩ _ h3) (gy rfl rfl rfl h1) rfl rfl rfl rfl rfl rfl rfl (.cons (.refl _) (.cons (.refl _) .nil)) rfl rfl ?_
    refine o_s (.t (.d (.lit (.bool (!x2))))) (gy rfl rfl rfl h1) rfl rfl rfl ?_
    refine o_pk (.t (.d (.lit (.bool (!x2))))) (b := true) h1 (g0 rfl) rfl rfl rfl rfl rfl ?_
    refine o_s (.t (.d (.lit (.bool (!x2))))) (g0 rfl) rfl rfl rfl ?_
    refine o_nil ?_
    repeat (first | refine then_normal ?_ | refine then_exit ?_ | refine then_ret ?_ | refine block_normal ?_ | refine block_ret ?_ | refine block_exit ?_ | refine block_pass rfl ?_)
    refine c_ret ?_
    repeat (first | refine then_normal ?_ | refine then_exit ?_ | refine then_ret ?_ | refine block_normal ?_ | refine block_ret ?_ | refine block_exit ?_ | refine block_pass rfl ?_)
    obtain rfl := Option.some.inj h
    exact end0 rfl (.refl _)
  · refine o_skip rfl rfl rfl h1 rfl rfl ?_
    refine o_skip rfl rfl rfl h1 rfl rfl ?_
    refine o_skip rfl rfl rfl h1 rfl rfl ?_
    refine o_skip rfl rfl rfl h1 rfl rfl ?_
    refine o_pk (.t (.d (.lit (.bool false)))) (b := false) h1 (g0 rfl) rfl rfl rfl rfl rfl ?_
    refine o_s (.t (.d (.lit (.bool false)))) (g0 rfl) rfl rfl rfl ?_
    refine o_nil ?_
    repeat (first | refine then_normal ?_ | refine then_exit ?_ | refine then_ret ?_ | refine block_normal ?_ | refine block_ret ?_ | refine block_exit ?_ | refine block_pass rfl ?_)
    refine c_ret ?_
    repeat (first | refine then_normal ?_ | refine then_exit ?_ | refine then_ret ?_ | refine block_normal ?_ | refine block_ret ?_ | refine block_exit ?_ | refine block_pass rfl ?_)
    obtain rfl := Option.some.inj h
    exact end0 rfl (.refl _)

theorem fc_answer_past (p0 : S_api_Past) (r : Bool) (h : m_answer_past p0 = some r) : FC Try.prog 50 [.t (.agg [.lit (.int .i64 p0.Number), .lit (.int .i64 p0.Epoch), .lit (.bool p0.Gone), .lit (.string ⟨⟨p0.By⟩⟩)])] [] (.t (.d (.lit (.bool r)))) := by
  refine fc_mk (rs := [.tmp 2]) (n := 26) Try.func50 rfl rfl (Nat.le_of_ble_eq_true rfl) rfl (pins := []) rfl (L := [(0, .t (.agg [.lit (.int .i64 p0.Number), .lit (.int .i64 p0.Epoch), .lit (.bool p0.Gone), .lit (.string ⟨⟨p0.By⟩⟩)]))]) rfl ?_
  refine c_seq ?_
  refine c_region ?_
  refine o_s (.box [.d (.lit (.int .i64 p0.Number)), .d (.lit (.int .i64 p0.Epoch)), .d (.lit (.bool p0.Gone)), .d (.lit (.string ⟨⟨p0.By⟩⟩))]) (g0 rfl) rfl rfl rfl ?_
  refine o_s (.t (.d (.lit (.bool false)))) (g0 rfl) rfl rfl rfl ?_
  refine o_nil ?_
  repeat (first | refine then_normal ?_ | refine then_exit ?_ | refine then_ret ?_ | refine block_normal ?_ | refine block_ret ?_ | refine block_exit ?_ | refine block_pass rfl ?_)
  refine c_seq ?_
  refine c_region ?_
  refine o_s (.ref 1 0) (g0 rfl) rfl rfl rfl ?_
  refine o_s (.t (.d (.lit (.int .i64 p0.Number)))) (g0 rfl) rfl rfl rfl ?_
  refine o_s (.t (.d (.lit (.bool (decide (p0.Number ≥ 1)))))) (g0 rfl) rfl rfl rfl ?_
  refine o_s (.t (.d (.lit (.bool (decide (p0.Number ≥ 1)))))) (g0 rfl) rfl rfl rfl ?_
  rcases bif_some h with ⟨h1, h⟩ | ⟨h1, h⟩
  · refine o_s (.ref 1 0) (gy rfl rfl rfl h1) rfl rfl rfl ?_
    refine o_s (.t (.d (.lit (.int .i64 p0.Number)))) (gy rfl rfl rfl h1) rfl rfl rfl ?_
    refine o_s (.t (.d (.lit (.bool (decide (p0.Number ≤ 1099511627776)))))) (gy rfl rfl rfl h1) rfl rfl rfl ?_
    refine o_pk (.t (.d (.lit (.bool (decide (p0.Number ≤ 1099511627776)))))) (b := true) h1 (g0 rfl) rfl rfl rfl rfl rfl ?_
    refine o_s (.t (.d (.lit (.bool (decide (p0.Number ≤ 1099511627776)))))) (g0 rfl) rfl rfl rfl ?_
    rcases bif_some h with ⟨h2, h⟩ | ⟨h2, h⟩
    · refine o_s (.ref 1 1) (gy rfl rfl rfl h2) rfl rfl rfl ?_
      refine o_s (.t (.d (.lit (.int .i64 p0.Epoch)))) (gy rfl rfl rfl h2) rfl rfl rfl ?_
      refine o_s (.t (.d (.lit (.bool (decide (p0.Epoch ≥ 1)))))) (gy rfl rfl rfl h2) rfl rfl rfl ?_
      refine o_pk (.t (.d (.lit (.bool (decide (p0.Epoch ≥ 1)))))) (b := true) h2 (g0 rfl) rfl rfl rfl rfl rfl ?_
      refine o_s (.t (.d (.lit (.bool (decide (p0.Epoch ≥ 1)))))) (g0 rfl) rfl rfl rfl ?_
      rcases bif_some h with ⟨h3, h⟩ | ⟨h3, h⟩
      · refine o_s (.ref 1 1) (gy rfl rfl rfl h3) rfl rfl rfl ?_
        refine o_s (.t (.d (.lit (.int .i64 p0.Epoch)))) (gy rfl rfl rfl h3) rfl rfl rfl ?_
        refine o_s (.t (.d (.lit (.bool (decide (p0.Epoch ≤ 1099511627776)))))) (gy rfl rfl rfl h3) rfl rfl rfl ?_
        refine o_pk (.t (.d (.lit (.bool (decide (p0.Epoch ≤ 1099511627776)))))) (b := true) h3 (g0 rfl) rfl rfl rfl rfl rfl ?_
        refine o_s (.t (.d (.lit (.bool (decide (p0.Epoch ≤ 1099511627776)))))) (g0 rfl) rfl rfl rfl ?_
        rcases bif_some h with ⟨h4, h⟩ | ⟨h4, h⟩
        · refine o_s (.ref 1 3) (gy rfl rfl rfl h4) rfl rfl rfl ?_
          refine o_s (.t (.d (.lit (.string ⟨⟨p0.By⟩⟩)))) (gy rfl rfl rfl h4) rfl rfl rfl ?_
          obtain ⟨x5, h6, h⟩ := bind_some h
          refine o_ca (fc_tree_Name _ _ h6) (gy rfl rfl rfl h4) rfl rfl rfl rfl rfl rfl rfl (.cons (.refl _) .nil) rfl rfl ?_
          refine o_pk (.t (.d (.lit (.bool x5)))) (b := true) h4 (g0 rfl) rfl rfl rfl rfl rfl ?_
          refine o_s (.t (.d (.lit (.bool x5)))) (g0 rfl) rfl rfl rfl ?_
          refine o_nil ?_
          repeat (first | refine then_normal ?_ | refine then_exit ?_ | refine then_ret ?_ | refine block_normal ?_ | refine block_ret ?_ | refine block_exit ?_ | refine block_pass rfl ?_)
          refine c_ret ?_
          repeat (first | refine then_normal ?_ | refine then_exit ?_ | refine then_ret ?_ | refine block_normal ?_ | refine block_ret ?_ | refine block_exit ?_ | refine block_pass rfl ?_)
          obtain rfl := Option.some.inj h
          exact end0 rfl (.refl _)
        · refine o_skip rfl rfl rfl h4 rfl rfl ?_
          refine o_skip rfl rfl rfl h4 rfl rfl ?_
          refine o_skip rfl rfl rfl h4 rfl rfl ?_
          refine o_pk (.t (.d (.lit (.bool false)))) (b := false) h4 (g0 rfl) rfl rfl rfl rfl rfl ?_
          refine o_s (.t (.d (.lit (.bool false)))) (g0 rfl) rfl rfl rfl ?_
          refine o_nil ?_
          repeat (first | refine then_normal ?_ | refine then_exit ?_ | refine then_ret ?_ | refine block_normal ?_ | refine block_ret ?_ | refine block_exit ?_ | refine block_pass rfl ?_)
          refine c_ret ?_
          repeat (first | refine then_normal ?_ | refine then_exit ?_ | refine then_ret ?_ | refine block_normal ?_ | refine block_ret ?_ | refine block_exit ?_ | refine block_pass rfl ?_)
          obtain rfl := Option.some.inj h
          exact end0 rfl (.refl _)
      · refine o_skip rfl rfl rfl h3 rfl rfl ?_
        refine o_skip rfl rfl rfl h3 rfl rfl ?_
        refine o_skip rfl rfl rfl h3 rfl rfl ?_
        refine o_pk (.t (.d (.lit (.bool false)))) (b := false) h3 (g0 rfl) rfl rfl rfl rfl rfl ?_
        refine o_s (.t (.d (.lit (.bool false)))) (g0 rfl) rfl rfl rfl ?_
        refine o_skip rfl rfl rfl rfl rfl rfl ?_
        refine o_skip rfl rfl rfl rfl rfl rfl ?_
        refine o_skip rfl rfl rfl rfl rfl rfl ?_
        refine o_pk (.t (.d (.lit (.bool false)))) (b := false) rfl (g0 rfl) rfl rfl rfl rfl rfl ?_
        refine o_s (.t (.d (.lit (.bool false)))) (g0 rfl) rfl rfl rfl ?_
        refine o_nil ?_
        repeat (first | refine then_normal ?_ | refine then_exit ?_ | refine then_ret ?_ | refine block_normal ?_ | refine block_ret ?_ | refine block_exit ?_ | refine block_pass rfl ?_)
        refine c_ret ?_
        repeat (first | refine then_normal ?_ | refine then_exit ?_ | refine then_ret ?_ | refine block_normal ?_ | refine block_ret ?_ | refine block_exit ?_ | refine block_pass rfl ?_)
        obtain rfl := Option.some.inj h
        exact end0 rfl (.refl _)
    · refine o_skip rfl rfl rfl h2 rfl rfl ?_
      refine o_skip rfl rfl rfl h2 rfl rfl ?_
      refine o_skip rfl rfl rfl h2 rfl rfl ?_
      refine o_pk (.t (.d (.lit (.bool false)))) (b := false) h2 (g0 rfl) rfl rfl rfl rfl rfl ?_
      refine o_s (.t (.d (.lit (.bool false)))) (g0 rfl) rfl rfl rfl ?_
      refine o_skip rfl rfl rfl rfl rfl rfl ?_
      refine o_skip rfl rfl rfl rfl rfl rfl ?_
      refine o_skip rfl rfl rfl rfl rfl rfl ?_
      refine o_pk (.t (.d (.lit (.bool false)))) (b := false) rfl (g0 rfl) rfl rfl rfl rfl rfl ?_
      refine o_s (.t (.d (.lit (.bool false)))) (g0 rfl) rfl rfl rfl ?_
      refine o_skip rfl rfl rfl rfl rfl rfl ?_
      refine o_skip rfl rfl rfl rfl rfl rfl ?_
      refine o_skip rfl rfl rfl rfl rfl rfl ?_
      refine o_pk (.t (.d (.lit (.bool false)))) (b := false) rfl (g0 rfl) rfl rfl rfl rfl rfl ?_
      refine o_s (.t (.d (.lit (.bool false)))) (g0 rfl) rfl rfl rfl ?_
      refine o_nil ?_
      repeat (first | refine then_normal ?_ | refine then_exit ?_ | refine then_ret ?_ | refine block_normal ?_ | refine block_ret ?_ | refine block_exit ?_ | refine block_pass rfl ?_)
      refine c_ret ?_
      repeat (first | refine then_normal ?_ | refine then_exit ?_ | refine then_ret ?_ | refine block_normal ?_ | refine block_ret ?_ | refine block_exit ?_ | refine block_pass rfl ?_)
      obtain rfl := Option.some.inj h
      exact end0 rfl (.refl _)
  · refine o_skip rfl rfl rfl h1 rfl rfl ?_
    refine o_skip rfl rfl rfl h1 rfl rfl ?_
    refine o_skip rfl rfl rfl h1 rfl rfl ?_
    refine o_pk (.t (.d (.lit (.bool false)))) (b := false) h1 (g0 rfl) rfl rfl rfl rfl rfl ?_
    refine o_s (.t (.d (.lit (.bool false)))) (g0 rfl) rfl rfl rfl ?_
    refine o_skip rfl rfl rfl rfl rfl rfl ?_
    refine o_skip rfl rfl rfl rfl rfl rfl ?_
    refine o_skip rfl rfl rfl rfl rfl rfl ?_
    refine o_pk (.t (.d (.lit (.bool false)))) (b := false) rfl (g0 rfl) rfl rfl rfl rfl rfl ?_
    refine o_s (.t (.d (.lit (.bool false)))) (g0 rfl) rfl rfl rfl ?_
    refine o_skip rfl rfl rfl rfl rfl rfl ?_
    refine o_skip rfl rfl rfl rfl rfl rfl ?_
    refine o_skip rfl rfl rfl rfl rfl rfl ?_
    refine o_pk (.t (.d (.lit (.bool false)))) (b := false) rfl (g0 rfl) rfl rfl rfl rfl rfl ?_
    refine o_s (.t (.d (.lit (.bool false)))) (g0 rfl) rfl rfl rfl ?_
    refine o_skip rfl rfl rfl rfl rfl rfl ?_
    refine o_skip rfl rfl rfl rfl rfl rfl ?_
    refine o_skip rfl rfl rfl rfl rfl rfl ?_
    refine o_pk (.t (.d (.lit (.bool false)))) (b := false) rfl (g0 rfl) rfl rfl rfl rfl rfl ?_
    refine o_s (.t (.d (.lit (.bool false)))) (g0 rfl) rfl rfl rfl ?_
    refine o_nil ?_
    repeat (first | refine then_normal ?_ | refine then_exit ?_ | refine then_ret ?_ | refine block_normal ?_ | refine block_ret ?_ | refine block_exit ?_ | refine block_pass rfl ?_)
    refine c_ret ?_
    repeat (first | refine then_normal ?_ | refine then_exit ?_ | refine then_ret ?_ | refine block_normal ?_ | refine block_ret ?_ | refine block_exit ?_ | refine block_pass rfl ?_)
    obtain rfl := Option.some.inj h
    exact end0 rfl (.refl _)

theorem fc_answer_May (p0 : S_api_Answer) (r : Bool) (h : m_answer_May p0 = some r) : FC Try.prog 25 [.t (.agg [.lit (.int .i64 p0.Err), .lit (.int .i64 p0.Number), .lit (.string ⟨⟨p0.By⟩⟩), .seq 1 (bytesD p0.Data), .seq 1 (List.map cStr p0.Names), .seq 2 (List.map cS_api_Member p0.Members), .seq 4 (List.map cS_api_Past p0.History)])] [] (.t (.d (.lit (.bool r)))) := by
  refine fc_mk (rs := [.tmp 2]) (n := 68) Try.func25 rfl rfl (Nat.le_of_ble_eq_true rfl) rfl (pins := []) rfl (L := [(0, .t (.agg [.lit (.int .i64 p0.Err), .lit (.int .i64 p0.Number), .lit (.string ⟨⟨p0.By⟩⟩), .seq 1 (bytesD p0.Data), .seq 1 (List.map cStr p0.Names), .seq 2 (List.map cS_api_Member p0.Members), .seq 4 (List.map cS_api_Past p0.History)]))]) rfl ?_
  refine c_seq ?_
  refine c_region ?_
  refine o_s (.box [.d (.lit (.int .i64 p0.Err)), .d (.lit (.int .i64 p0.Number)), .d (.lit (.string ⟨⟨p0.By⟩⟩)), .d (.seq 1 (bytesD p0.Data)), .d (.seq 1 (List.map cStr p0.Names)), .d (.seq 2 (List.map cS_api_Member p0.Members)), .d (.seq 4 (List.map cS_api_Past p0.History))]) (g0 rfl) rfl rfl rfl ?_
  refine o_s (.t (.d (.lit (.bool false)))) (g0 rfl) rfl rfl rfl ?_
  refine o_nil ?_
  repeat (first | refine then_normal ?_ | refine then_exit ?_ | refine then_ret ?_ | refine block_normal ?_ | refine block_ret ?_ | refine block_exit ?_ | refine block_pass rfl ?_)
  refine c_seq ?_
  refine c_block ?_
  refine c_cut (fun (y1 : Bool) => [(1, .box [.d (.lit (.int .i64 p0.Err)), .d (.lit (.int .i64 p0.Number)), .d (.lit (.string ⟨⟨p0.By⟩⟩)), .d (.seq 1 (bytesD p0.Data)), .d (.seq 1 (List.map cStr p0.Names)), .d (.seq 2 (List.map cS_api_Member p0.Members)), .d (.seq 4 (List.map cS_api_Past p0.History))]), (5, .t (.d (.lit (.bool y1))))]) (fun (y1 : Bool) => m_answer_May_j1 p0 y1 = some r) ?_ ?_
  · refine c_region ?_
    refine o_s (.ref 1 0) (g0 rfl) rfl rfl rfl ?_
    refine o_s (.t (.d (.lit (.int .i64 p0.Err)))) (g0 rfl) rfl rfl rfl ?_
    refine o_s (.t (.d (.lit (.bool (decide (p0.Err < 0)))))) (g0 rfl) rfl rfl rfl ?_
    refine o_s (.t (.d (.lit (.bool (decide (p0.Err < 0)))))) (g0 rfl) rfl rfl rfl ?_
    rcases bif_some h with ⟨h23, h⟩ | ⟨h23, h⟩
    · refine o_skip rfl rfl rfl h23 rfl rfl ?_
      refine o_skip rfl rfl rfl h23 rfl rfl ?_
      refine o_skip rfl rfl rfl h23 rfl rfl ?_
      refine o_pk (.t (.d (.lit (.bool true)))) (b := true) h23 (g0 rfl) rfl rfl rfl rfl rfl ?_
      refine o_s (.t (.d (.lit (.bool true)))) (g0 rfl) rfl rfl rfl ?_
      refine o_skip rfl rfl rfl rfl rfl rfl ?_
      refine o_skip rfl rfl rfl rfl rfl rfl ?_
      refine o_skip rfl rfl rfl rfl rfl rfl ?_
      refine o_skip rfl rfl rfl rfl rfl rfl ?_
      refine o_un rfl rfl rfl rfl rfl ?_
      refine o_un rfl rfl rfl rfl rfl ?_
      refine o_un rfl rfl rfl rfl rfl ?_
      refine o_skip rfl rfl rfl rfl rfl rfl ?_
      refine o_pk (.t (.d (.lit (.bool true)))) (b := true) rfl (g0 rfl) rfl rfl rfl rfl rfl ?_
      refine o_s (.t (.d (.lit (.bool true)))) (g0 rfl) rfl rfl rfl ?_
      refine o_nil ?_
      repeat (first | refine then_normal ?_ | refine then_exit ?_ | refine then_ret ?_ | refine block_normal ?_ | refine block_ret ?_ | refine block_exit ?_ | refine block_pass rfl ?_)
      exact ⟨true, h, ⟨(.refl _), ⟨(.refl _), trivial⟩⟩, rfl⟩
    · refine o_s (.ref 1 0) (gy rfl rfl rfl h23) rfl rfl rfl ?_
      refine o_s (.t (.d (.lit (.int .i64 p0.Err)))) (gy rfl rfl rfl h23) rfl rfl rfl ?_
      refine o_s (.t (.d (.lit (.bool (decide (p0.Err > 255)))))) (gy rfl rfl rfl h23) rfl rfl rfl ?_
      refine o_pk (.t (.d (.lit (.bool (decide (p0.Err > 255)))))) (b := false) h23 (g0 rfl) rfl rfl rfl rfl rfl ?_
      refine o_s (.t (.d (.lit (.bool (decide (p0.Err > 255)))))) (g0 rfl) rfl rfl rfl ?_
      rcases bif_some h with ⟨h24, h⟩ | ⟨h24, h⟩
      · refine o_skip rfl rfl rfl h24 rfl rfl ?_
        refine o_skip rfl rfl rfl h24 rfl rfl ?_
        refine o_skip rfl rfl rfl h24 rfl rfl ?_
        refine o_skip rfl rfl rfl h24 rfl rfl ?_
        refine o_un rfl rfl rfl rfl rfl ?_
        refine o_un rfl rfl rfl rfl rfl ?_
        refine o_un rfl rfl rfl rfl rfl ?_
        refine o_skip rfl rfl rfl h24 rfl rfl ?_
        refine o_pk (.t (.d (.lit (.bool true)))) (b := true) h24 (g0 rfl) rfl rfl rfl rfl rfl ?_
        refine o_s (.t (.d (.lit (.bool true)))) (g0 rfl) rfl rfl rfl ?_
        refine o_nil ?_
        repeat (first | refine then_normal ?_ | refine then_exit ?_ | refine then_ret ?_ | refine block_normal ?_ | refine block_ret ?_ | refine block_exit ?_ | refine block_pass rfl ?_)
        exact ⟨true, h, ⟨(.refl _), ⟨(.refl _), trivial⟩⟩, rfl⟩
      · refine o_s (.ref 1 0) (gy rfl rfl rfl h24) rfl rfl rfl ?_
        refine o_s (.t (.d (.lit (.int .i64 p0.Err)))) (gy rfl rfl rfl h24) rfl rfl rfl ?_
        refine o_s (.t (.d (.lit (.bool (p0.Err != 0))))) (gy rfl rfl rfl h24) rfl rfl rfl ?_
        refine o_s (.t (.d (.lit (.bool (p0.Err != 0))))) (gy rfl rfl rfl h24) rfl rfl rfl ?_
        rcases bif_some h with ⟨h25, h⟩ | ⟨h25, h⟩
        · refine o_s (.t (.agg [.lit (.int .i64 p0.Err), .lit (.int .i64 p0.Number), .lit (.string ⟨⟨p0.By⟩⟩), .seq 1 (bytesD p0.Data), .seq 1 (List.map cStr p0.Names), .seq 2 (List.map cS_api_Member p0.Members), .seq 4 (List.map cS_api_Past p0.History)])) (gy rfl rfl rfl h25) rfl rfl rfl ?_
          obtain ⟨x26, h27, h⟩ := bind_some h
          refine o_ca (fc_answer_bare _ _ h27) (gy rfl rfl rfl h25) rfl rfl rfl rfl rfl rfl rfl (.cons (.refl _) .nil) rfl rfl ?_
          refine o_s (.t (.d (.lit (.bool (!x26))))) (gy rfl rfl rfl h25) rfl rfl rfl ?_
          refine o_pk (.t (.d (.lit (.bool (!x26))))) (b := true) h25 (gy rfl rfl rfl h24) rfl rfl rfl rfl rfl ?_
          refine o_pk (.t (.d (.lit (.bool (!x26))))) (b := false) h24 (g0 rfl) rfl rfl rfl rfl rfl ?_
          refine o_s (.t (.d (.lit (.bool (!x26))))) (g0 rfl) rfl rfl rfl ?_
          refine o_nil ?_
          repeat (first | refine then_normal ?_ | refine then_exit ?_ | refine then_ret ?_ | refine block_normal ?_ | refine block_ret ?_ | refine block_exit ?_ | refine block_pass rfl ?_)
          exact ⟨(!x26), h, ⟨(.refl _), ⟨(.refl _), trivial⟩⟩, rfl⟩
        · refine o_skip rfl rfl rfl h25 rfl rfl ?_
          refine o_skip rfl rfl rfl h25 rfl rfl ?_
          refine o_skip rfl rfl rfl h25 rfl rfl ?_
          refine o_pk (.t (.d (.lit (.bool false)))) (b := false) h25 (gy rfl rfl rfl h24) rfl rfl rfl rfl rfl ?_
          refine o_pk (.t (.d (.lit (.bool false)))) (b := false) h24 (g0 rfl) rfl rfl rfl rfl rfl ?_
          refine o_s (.t (.d (.lit (.bool false)))) (g0 rfl) rfl rfl rfl ?_
          refine o_nil ?_
          repeat (first | refine then_normal ?_ | refine then_exit ?_ | refine then_ret ?_ | refine block_normal ?_ | refine block_ret ?_ | refine block_exit ?_ | refine block_pass rfl ?_)
          exact ⟨false, h, ⟨(.refl _), ⟨(.refl _), trivial⟩⟩, rfl⟩
  · rintro y1 h
    rcases bif_some h with ⟨h2, h⟩ | ⟨h2, h⟩
    · refine c_t h2 rfl ?_
      refine c_seq ?_
      refine c_region ?_
      refine o_s (.t (.d (.lit (.bool false)))) (g0 rfl) rfl rfl rfl ?_
      refine o_nil ?_
      repeat (first | refine then_normal ?_ | refine then_exit ?_ | refine then_ret ?_ | refine block_normal ?_ | refine block_ret ?_ | refine block_exit ?_ | refine block_pass rfl ?_)
      refine c_ret ?_
      repeat (first | refine then_normal ?_ | refine then_exit ?_ | refine then_ret ?_ | refine block_normal ?_ | refine block_ret ?_ | refine block_exit ?_ | refine block_pass rfl ?_)
      obtain rfl := Option.some.inj h
      exact end0 rfl (.refl _)
    · refine c_f h2 rfl ?_
      refine c_cut (fun (y3 : Bool) => [(1, .box [.d (.lit (.int .i64 p0.Err)), .d (.lit (.int .i64 p0.Number)), .d (.lit (.string ⟨⟨p0.By⟩⟩)), .d (.seq 1 (bytesD p0.Data)), .d (.seq 1 (List.map cStr p0.Names)), .d (.seq 2 (List.map cS_api_Member p0.Members)), .d (.seq 4 (List.map cS_api_Past p0.History))]), (24, .t (.d (.lit (.bool y3))))]) (fun (y3 : Bool) => m_answer_May_j2 p0 y3 = some r) ?_ ?_
      · refine c_region ?_
        refine o_s (.ref 1 1) (g0 rfl) rfl rfl rfl ?_
        refine o_s (.t (.d (.lit (.int .i64 p0.Number)))) (g0 rfl) rfl rfl rfl ?_
        refine o_s (.t (.d (.lit (.bool (decide (p0.Number < 0)))))) (g0 rfl) rfl rfl rfl ?_
        refine o_s (.t (.d (.lit (.bool (decide (p0.Number < 0)))))) (g0 rfl) rfl rfl rfl ?_
        rcases bif_some h with ⟨h18, h⟩ | ⟨h18, h⟩
        · refine o_skip rfl rfl rfl h18 rfl rfl ?_
          refine o_skip rfl rfl rfl h18 rfl rfl ?_
          refine o_skip rfl rfl rfl h18 rfl rfl ?_
          refine o_pk (.t (.d (.lit (.bool true)))) (b := true) h18 (g0 rfl) rfl rfl rfl rfl rfl ?_
          refine o_s (.t (.d (.lit (.bool true)))) (g0 rfl) rfl rfl rfl ?_
          refine o_skip rfl rfl rfl rfl rfl rfl ?_
          refine o_skip rfl rfl rfl rfl rfl rfl ?_
          refine o_skip rfl rfl rfl rfl rfl rfl ?_
          refine o_skip rfl rfl rfl rfl rfl rfl ?_
          refine o_un rfl rfl rfl rfl rfl ?_
          refine o_un rfl rfl rfl rfl rfl ?_
          refine o_un rfl rfl rfl rfl rfl ?_
          refine o_un rfl rfl rfl rfl rfl ?_
          refine o_skip rfl rfl rfl rfl rfl rfl ?_
          refine o_pk (.t (.d (.lit (.bool true)))) (b := true) rfl (g0 rfl) rfl rfl rfl rfl rfl ?_
          refine o_s (.t (.d (.lit (.bool true)))) (g0 rfl) rfl rfl rfl ?_
          refine o_nil ?_
          repeat (first | refine then_normal ?_ | refine then_exit ?_ | refine then_ret ?_ | refine block_normal ?_ | refine block_ret ?_ | refine block_exit ?_ | refine block_pass rfl ?_)
          exact ⟨true, h, ⟨(.refl _), ⟨(.refl _), trivial⟩⟩, rfl⟩
        · refine o_s (.ref 1 1) (gy rfl rfl rfl h18) rfl rfl rfl ?_
          refine o_s (.t (.d (.lit (.int .i64 p0.Number)))) (gy rfl rfl rfl h18) rfl rfl rfl ?_
          refine o_s (.t (.d (.lit (.bool (decide (p0.Number > 1099511627776)))))) (gy rfl rfl rfl h18) rfl rfl rfl ?_
          refine o_pk (.t (.d (.lit (.bool (decide (p0.Number > 1099511627776)))))) (b := false) h18 (g0 rfl) rfl rfl rfl rfl rfl ?_
          refine o_s (.t (.d (.lit (.bool (decide (p0.Number > 1099511627776)))))) (g0 rfl) rfl rfl rfl ?_
          rcases bif_some h with ⟨h19, h⟩ | ⟨h19, h⟩
          · refine o_skip rfl rfl rfl h19 rfl rfl ?_
            refine o_skip rfl rfl rfl h19 rfl rfl ?_
            refine o_skip rfl rfl rfl h19 rfl rfl ?_
            refine o_skip rfl rfl rfl h19 rfl rfl ?_
            refine o_un rfl rfl rfl rfl rfl ?_
            refine o_un rfl rfl rfl rfl rfl ?_
            refine o_un rfl rfl rfl rfl rfl ?_
            refine o_un rfl rfl rfl rfl rfl ?_
            refine o_skip rfl rfl rfl h19 rfl rfl ?_
            refine o_pk (.t (.d (.lit (.bool true)))) (b := true) h19 (g0 rfl) rfl rfl rfl rfl rfl ?_
            refine o_s (.t (.d (.lit (.bool true)))) (g0 rfl) rfl rfl rfl ?_
            refine o_nil ?_
            repeat (first | refine then_normal ?_ | refine then_exit ?_ | refine then_ret ?_ | refine block_normal ?_ | refine block_ret ?_ | refine block_exit ?_ | refine block_pass rfl ?_)
            exact ⟨true, h, ⟨(.refl _), ⟨(.refl _), trivial⟩⟩, rfl⟩
          · refine o_s (.ref 1 2) (gy rfl rfl rfl h19) rfl rfl rfl ?_
            refine o_s (.t (.d (.lit (.string ⟨⟨p0.By⟩⟩)))) (gy rfl rfl rfl h19) rfl rfl rfl ?_
            refine o_c (gy rfl rfl rfl h19) rfl rfl rfl (congrArg (fun z => A.t (.d (.lit (.bool (!z))))) (str_beqL _ _)) trivial ?_
            refine o_s (.t (.d (.lit (.bool (!(p0.By == [])))))) (gy rfl rfl rfl h19) rfl rfl rfl ?_
            rcases bif_some h with ⟨h20, h⟩ | ⟨h20, h⟩
            · refine o_s (.ref 1 2) (gy rfl rfl rfl h20) rfl rfl rfl ?_
              refine o_s (.t (.d (.lit (.string ⟨⟨p0.By⟩⟩)))) (gy rfl rfl rfl h20) rfl rfl rfl ?_
              obtain ⟨x21, h22, h⟩ := bind_some h
              refine o_ca (fc_tree_Name _ _ h22) (gy rfl rfl rfl h20) rfl rfl rfl rfl rfl rfl rfl (.cons (.refl _) .nil) rfl rfl ?_
              refine o_s (.t (.d (.lit (.bool (!x21))))) (gy rfl rfl rfl h20) rfl rfl rfl ?_
              refine o_pk (.t (.d (.lit (.bool (!x21))))) (b := true) h20 (gy rfl rfl rfl h19) rfl rfl rfl rfl rfl ?_
              refine o_pk (.t (.d (.lit (.bool (!x21))))) (b := false) h19 (g0 rfl) rfl rfl rfl rfl rfl ?_
              refine o_s (.t (.d (.lit (.bool (!x21))))) (g0 rfl) rfl rfl rfl ?_
              refine o_nil ?_
              repeat (first | refine then_normal ?_ | refine then_exit ?_ | refine then_ret ?_ | refine block_normal ?_ | refine block_ret ?_ | refine block_exit ?_ | refine block_pass rfl ?_)
              exact ⟨(!x21), h, ⟨(.refl _), ⟨(.refl _), trivial⟩⟩, rfl⟩
            · refine o_skip rfl rfl rfl h20 rfl rfl ?_
              refine o_skip rfl rfl rfl h20 rfl rfl ?_
              refine o_skip rfl rfl rfl h20 rfl rfl ?_
              refine o_skip rfl rfl rfl h20 rfl rfl ?_
              refine o_pk (.t (.d (.lit (.bool false)))) (b := false) h20 (gy rfl rfl rfl h19) rfl rfl rfl rfl rfl ?_
              refine o_pk (.t (.d (.lit (.bool false)))) (b := false) h19 (g0 rfl) rfl rfl rfl rfl rfl ?_
              refine o_s (.t (.d (.lit (.bool false)))) (g0 rfl) rfl rfl rfl ?_
              refine o_nil ?_
              repeat (first | refine then_normal ?_ | refine then_exit ?_ | refine then_ret ?_ | refine block_normal ?_ | refine block_ret ?_ | refine block_exit ?_ | refine block_pass rfl ?_)
              exact ⟨false, h, ⟨(.refl _), ⟨(.refl _), trivial⟩⟩, rfl⟩
      · rintro y3 h
        rcases bif_some h with ⟨h4, h⟩ | ⟨h4, h⟩
        · refine c_t h4 rfl ?_
          refine c_seq ?_
          refine c_region ?_
          refine o_s (.t (.d (.lit (.bool false)))) (g0 rfl) rfl rfl rfl ?_
          refine o_nil ?_
          repeat (first | refine then_normal ?_ | refine then_exit ?_ | refine then_ret ?_ | refine block_normal ?_ | refine block_ret ?_ | refine block_exit ?_ | refine block_pass rfl ?_)
          refine c_ret ?_
          repeat (first | refine then_normal ?_ | refine then_exit ?_ | refine then_ret ?_ | refine block_normal ?_ | refine block_ret ?_ | refine block_exit ?_ | refine block_pass rfl ?_)
          obtain rfl := Option.some.inj h
          exact end0 rfl (.refl _)
        · refine c_f h4 rfl ?_
          refine c_seq ?_
          refine c_region ?_
          refine o_s (.ref 1 4) (g0 rfl) rfl rfl rfl ?_
          refine o_s (.t (.d (.seq 1 (List.map cStr p0.Names)))) (g0 rfl) rfl rfl rfl ?_
          obtain ⟨x5, h6, h⟩ := bind_some h
          refine o_ca (fc_answer_all_string _ 45 [] _ fc_tree_Name ⟨_, Try.func45, rfl, rfl⟩ _ h6) (g0 rfl) rfl rfl rfl rfl rfl rfl rfl (.cons (.refl _) (.cons (.t (.d (.fn _))) .nil)) rfl rfl ?_
          refine o_s (.t (.d (.lit (.bool (!x5))))) (g0 rfl) rfl rfl rfl ?_
          refine o_s (.t (.d (.lit (.bool (!x5))))) (g0 rfl) rfl rfl rfl ?_
          rcases bif_some h with ⟨h7, h⟩ | ⟨h7, h⟩
          · refine o_skip rfl rfl rfl h7 rfl rfl ?_
            refine o_skip rfl rfl rfl h7 rfl rfl ?_
            refine o_skip rfl rfl rfl h7 rfl rfl ?_
            refine o_skip rfl rfl rfl h7 rfl rfl ?_
            refine o_pk (.t (.d (.lit (.bool true)))) (b := true) h7 (g0 rfl) rfl rfl rfl rfl rfl ?_
            refine o_s (.t (.d (.lit (.bool true)))) (g0 rfl) rfl rfl rfl ?_
            refine o_skip rfl rfl rfl rfl rfl rfl ?_
            refine o_skip rfl rfl rfl rfl rfl rfl ?_
            refine o_skip rfl rfl rfl rfl rfl rfl ?_
            refine o_skip rfl rfl rfl rfl rfl rfl ?_
            refine o_pk (.t (.d (.lit (.bool true)))) (b := true) rfl (g0 rfl) rfl rfl rfl rfl rfl ?_
            refine o_s (.t (.d (.lit (.bool true)))) (g0 rfl) rfl rfl rfl ?_
            refine o_nil ?_
            repeat (first | refine then_normal ?_ | refine then_exit ?_ | refine then_ret ?_ | refine block_normal ?_ | refine block_ret ?_ | refine block_exit ?_ | refine block_pass rfl ?_)
            refine c_t rfl rfl ?_
            refine c_seq ?_
            refine c_region ?_
            refine o_s (.t (.d (.lit (.bool false)))) (g0 rfl) rfl rfl rfl ?_
            refine o_nil ?_
            repeat (first | refine then_normal ?_ | refine then_exit ?_ | refine then_ret ?_ | refine block_normal ?_ | refine block_ret ?_ | refine block_exit ?_ | refine block_pass rfl ?_)
            refine c_ret ?_
            repeat (first | refine then_normal ?_ | refine then_exit ?_ | refine then_ret ?_ | refine block_normal ?_ | refine block_ret ?_ | refine block_exit ?_ | refine block_pass rfl ?_)
            obtain rfl := Option.some.inj h
            exact end0 rfl (.refl _)
          · refine o_s (.ref 1 5) (gy rfl rfl rfl h7) rfl rfl rfl ?_
            refine o_s (.t (.d (.seq 2 (List.map cS_api_Member p0.Members)))) (gy rfl rfl rfl h7) rfl rfl rfl ?_
            obtain ⟨x8, h9, h⟩ := bind_some h
            refine o_ca (fc_answer_all_Member _ 48 [] _ fc_answer_member ⟨_, Try.func48, rfl, rfl⟩ _ h9) (gy rfl rfl rfl h7) rfl rfl rfl rfl rfl rfl rfl (.cons (.refl _) (.cons (.t (.d (.fn _))) .nil)) rfl rfl ?_
            refine o_s (.t (.d (.lit (.bool (!x8))))) (gy rfl rfl rfl h7) rfl rfl rfl ?_
            refine o_pk (.t (.d (.lit (.bool (!x8))))) (b := false) h7 (g0 rfl) rfl rfl rfl rfl rfl ?_
            refine o_s (.t (.d (.lit (.bool (!x8))))) (g0 rfl) rfl rfl rfl ?_
            rcases bif_some h with ⟨h10, h⟩ | ⟨h10, h⟩
            · refine o_skip rfl rfl rfl h10 rfl rfl ?_
              refine o_skip rfl rfl rfl h10 rfl rfl ?_
              refine o_skip rfl rfl rfl h10 rfl rfl ?_
              refine o_skip rfl rfl rfl h10 rfl rfl ?_
              refine o_pk (.t (.d (.lit (.bool true)))) (b := true) h10 (g0 rfl) rfl rfl rfl rfl rfl ?_
              refine o_s (.t (.d (.lit (.bool true)))) (g0 rfl) rfl rfl rfl ?_
              refine o_nil ?_
              repeat (first | refine then_normal ?_ | refine then_exit ?_ | refine then_ret ?_ | refine block_normal ?_ | refine block_ret ?_ | refine block_exit ?_ | refine block_pass rfl ?_)
              refine c_t rfl rfl ?_
              refine c_seq ?_
              refine c_region ?_
              refine o_s (.t (.d (.lit (.bool false)))) (g0 rfl) rfl rfl rfl ?_
              refine o_nil ?_
              repeat (first | refine then_normal ?_ | refine then_exit ?_ | refine then_ret ?_ | refine block_normal ?_ | refine block_ret ?_ | refine block_exit ?_ | refine block_pass rfl ?_)
              refine c_ret ?_
              repeat (first | refine then_normal ?_ | refine then_exit ?_ | refine then_ret ?_ | refine block_normal ?_ | refine block_ret ?_ | refine block_exit ?_ | refine block_pass rfl ?_)
              obtain rfl := Option.some.inj h
              exact end0 rfl (.refl _)
            · refine o_s (.ref 1 6) (gy rfl rfl rfl h10) rfl rfl rfl ?_
              refine o_s (.t (.d (.seq 4 (List.map cS_api_Past p0.History)))) (gy rfl rfl rfl h10) rfl rfl rfl ?_
              obtain ⟨x11, h12, h⟩ := bind_some h
              refine o_ca (fc_answer_all_Past _ 50 [] _ fc_answer_past ⟨_, Try.func50, rfl, rfl⟩ _ h12) (gy rfl rfl rfl h10) rfl rfl rfl rfl rfl rfl rfl (.cons (.refl _) (.cons (.t (.d (.fn _))) .nil)) rfl rfl ?_
              refine o_s (.t (.d (.lit (.bool (!x11))))) (gy rfl rfl rfl h10) rfl rfl rfl ?_
              refine o_pk (.t (.d (.lit (.bool (!x11))))) (b := false) h10 (g0 rfl) rfl rfl rfl rfl rfl ?_
              refine o_s (.t (.d (.lit (.bool (!x11))))) (g0 rfl) rfl rfl rfl ?_
              refine o_nil ?_
              repeat (first | refine then_normal ?_ | refine then_exit ?_ | refine then_ret ?_ | refine block_normal ?_ | refine block_ret ?_ | refine block_exit ?_ | refine block_pass rfl ?_)
              rcases bif_some h with ⟨h13, h⟩ | ⟨h13, h⟩
              · refine c_t h13 rfl ?_
                refine c_seq ?_
                refine c_region ?_
                refine o_s (.t (.d (.lit (.bool false)))) (g0 rfl) rfl rfl rfl ?_
                refine o_nil ?_
                repeat (first | refine then_normal ?_ | refine then_exit ?_ | refine then_ret ?_ | refine block_normal ?_ | refine block_ret ?_ | refine block_exit ?_ | refine block_pass rfl ?_)
                refine c_ret ?_
                repeat (first | refine then_normal ?_ | refine then_exit ?_ | refine then_ret ?_ | refine block_normal ?_ | refine block_ret ?_ | refine block_exit ?_ | refine block_pass rfl ?_)
                obtain rfl := Option.some.inj h
                exact end0 rfl (.refl _)
              · refine c_f h13 rfl ?_
                refine c_skip ?_
                repeat (first | refine then_normal ?_ | refine then_exit ?_ | refine then_ret ?_ | refine block_normal ?_ | refine block_ret ?_ | refine block_exit ?_ | refine block_pass rfl ?_)
                refine c_seq ?_
                refine c_region ?_
                refine o_s (.t (.agg [.lit (.int .i64 p0.Err), .lit (.int .i64 p0.Number), .lit (.string ⟨⟨p0.By⟩⟩), .seq 1 (bytesD p0.Data), .seq 1 (List.map cStr p0.Names), .seq 2 (List.map cS_api_Member p0.Members), .seq 4 (List.map cS_api_Past p0.History)])) (g0 rfl) rfl rfl rfl ?_
                obtain ⟨x14, h15, h⟩ := bind_some h
                refine o_ca (fc_answer_value _ _ h15) (g0 rfl) rfl rfl rfl rfl rfl rfl rfl (.cons (.refl _) .nil) rfl rfl ?_
                obtain ⟨x16, h17, h⟩ := bind_some h
                refine o_ca (fc_codec_Size _ _ h17) (g0 rfl) rfl rfl rfl rfl rfl rfl rfl (.cons (.t (.agg (.cons (.refl _) (.cons (.refl _) (.cons (.nil _) (.cons (.refl _) .nil)))))) .nil) rfl rfl ?_
                refine o_s (.tup [.d (.lit (.int .i64 x16.1)), .d (.lit (.bool x16.2))]) (g0 rfl) rfl rfl rfl ?_
                refine o_s (.t (.d (.lit (.int .i64 x16.1)))) (g0 rfl) rfl rfl rfl ?_
                refine o_s (.t (.d (.lit (.bool x16.2)))) (g0 rfl) rfl rfl rfl ?_
                refine o_s (.t (.d (.lit (.int .i64 x16.1)))) (g0 rfl) rfl rfl rfl ?_
                refine o_s (.t (.d (.lit (.bool x16.2)))) (g0 rfl) rfl rfl rfl ?_
                refine o_nil ?_
                repeat (first | refine then_normal ?_ | refine then_exit ?_ | refine then_ret ?_ | refine block_normal ?_ | refine block_ret ?_ | refine block_exit ?_ | refine block_pass rfl ?_)
                refine c_seq ?_
                refine c_region ?_
                refine o_s (.t (.d (.lit (.bool x16.2)))) (g0 rfl) rfl rfl rfl ?_
                refine o_s (.t (.d (.lit (.bool x16.2)))) (g0 rfl) rfl rfl rfl ?_
                refine o_nil ?_
                repeat (first | refine then_normal ?_ | refine then_exit ?_ | refine then_ret ?_ | refine block_normal ?_ | refine block_ret ?_ | refine block_exit ?_ | refine block_pass rfl ?_)
                refine c_ret ?_
                repeat (first | refine then_normal ?_ | refine then_exit ?_ | refine then_ret ?_ | refine block_normal ?_ | refine block_ret ?_ | refine block_exit ?_ | refine block_pass rfl ?_)
                obtain rfl := Option.some.inj h
                exact end0 rfl (.refl _)

theorem fc_answer_Write (p0 : S_api_Answer) (r : ((List UInt8) × Int)) (h : m_answer_Write p0 = some r) : FC Try.prog 9 [.t (.agg [.lit (.int .i64 p0.Err), .lit (.int .i64 p0.Number), .lit (.string ⟨⟨p0.By⟩⟩), .seq 1 (bytesD p0.Data), .seq 1 (List.map cStr p0.Names), .seq 2 (List.map cS_api_Member p0.Members), .seq 4 (List.map cS_api_Past p0.History)])] [] (.tup [.d (.seq 1 (bytesD r.1)), .d (.lit (.int .i64 r.2))]) := by
  refine fc_mk (rs := [.tmp 2, .tmp 3]) (n := 12) Try.func9 rfl rfl (Nat.le_of_ble_eq_true rfl) rfl (pins := []) rfl (L := [(0, .t (.agg [.lit (.int .i64 p0.Err), .lit (.int .i64 p0.Number), .lit (.string ⟨⟨p0.By⟩⟩), .seq 1 (bytesD p0.Data), .seq 1 (List.map cStr p0.Names), .seq 2 (List.map cS_api_Member p0.Members), .seq 4 (List.map cS_api_Past p0.History)]))]) rfl ?_
  refine c_seq ?_
  refine c_region ?_
  refine o_s (.box [.d (.lit (.int .i64 p0.Err)), .d (.lit (.int .i64 p0.Number)), .d (.lit (.string ⟨⟨p0.By⟩⟩)), .d (.seq 1 (bytesD p0.Data)), .d (.seq 1 (List.map cStr p0.Names)), .d (.seq 2 (List.map cS_api_Member p0.Members)), .d (.seq 4 (List.map cS_api_Past p0.History))]) (g0 rfl) rfl rfl rfl ?_
  refine o_s (.t (.d (.lit (.slice none 0 0)))) (g0 rfl) rfl rfl rfl ?_
  refine o_s (.t (.d (.lit (.int .i64 0)))) (g0 rfl) rfl rfl rfl ?_
  refine o_nil ?_
  repeat (first | refine then_normal ?_ | refine then_exit ?_ | refine then_ret ?_ | refine block_normal ?_ | refine block_ret ?_ | refine block_exit ?_ | refine block_pass rfl ?_)
  refine c_seq ?_
  refine c_seq ?_
  refine c_region ?_
  refine o_s (.t (.agg [.lit (.int .i64 p0.Err), .lit (.int .i64 p0.Number), .lit (.string ⟨⟨p0.By⟩⟩), .seq 1 (bytesD p0.Data), .seq 1 (List.map cStr p0.Names), .seq 2 (List.map cS_api_Member p0.Members), .seq 4 (List.map cS_api_Past p0.History)])) (g0 rfl) rfl rfl rfl ?_
  obtain ⟨x1, h2, h⟩ := bind_some h
  refine o_ca (fc_answer_May _ _ h2) (g0 rfl) rfl rfl rfl rfl rfl rfl rfl (.cons (.refl _) .nil) rfl rfl ?_
  refine o_s (.t (.d (.lit (.bool (!x1))))) (g0 rfl) rfl rfl rfl ?_
  refine o_nil ?_
  repeat (first | refine then_normal ?_ | refine then_exit ?_ | refine then_ret ?_ | refine block_normal ?_ | refine block_ret ?_ | refine block_exit ?_ | refine block_pass rfl ?_)
  rcases bif_some h with ⟨h3, h⟩ | ⟨h3, h⟩
  · refine c_t h3 rfl ?_
    refine c_seq ?_
    refine c_region ?_
    refine o_s (.t (.d (.lit (.slice none 0 0)))) (g0 rfl) rfl rfl rfl ?_
    refine o_s (.t (.d (.lit (.int .i64 2)))) (g0 rfl) rfl rfl rfl ?_
    refine o_nil ?_
    repeat (first | refine then_normal ?_ | refine then_exit ?_ | refine then_ret ?_ | refine block_normal ?_ | refine block_ret ?_ | refine block_exit ?_ | refine block_pass rfl ?_)
    refine c_ret ?_
    repeat (first | refine then_normal ?_ | refine then_exit ?_ | refine then_ret ?_ | refine block_normal ?_ | refine block_ret ?_ | refine block_exit ?_ | refine block_pass rfl ?_)
    obtain rfl := Option.some.inj h
    exact end0 rfl (.tup (.cons (.d (.nil _)) (.cons (.refl _) .nil)))
  · refine c_f h3 rfl ?_
    refine c_skip ?_
    repeat (first | refine then_normal ?_ | refine then_exit ?_ | refine then_ret ?_ | refine block_normal ?_ | refine block_ret ?_ | refine block_exit ?_ | refine block_pass rfl ?_)
    refine c_seq ?_
    refine c_region ?_
    refine o_s (.t (.agg [.lit (.int .i64 p0.Err), .lit (.int .i64 p0.Number), .lit (.string ⟨⟨p0.By⟩⟩), .seq 1 (bytesD p0.Data), .seq 1 (List.map cStr p0.Names), .seq 2 (List.map cS_api_Member p0.Members), .seq 4 (List.map cS_api_Past p0.History)])) (g0 rfl) rfl rfl rfl ?_
    obtain ⟨x4, h5, h⟩ := bind_some h
    refine o_ca (fc_answer_value _ _ h5) (g0 rfl) rfl rfl rfl rfl rfl rfl rfl (.cons (.refl _) .nil) rfl rfl ?_
    obtain ⟨x6, h7, h⟩ := bind_some h
    refine o_ca (fc_codec_Encode _ _ h7) (g0 rfl) rfl rfl rfl rfl rfl rfl rfl (.cons (.t (.agg (.cons (.refl _) (.cons (.refl _) (.cons (.nil _) (.cons (.refl _) .nil)))))) .nil) rfl rfl ?_
    refine o_s (.t (.d (.seq 1 (bytesD x6.1)))) (g0 rfl) rfl rfl rfl ?_
    refine o_s (.t (.d (.lit (.int .i64 x6.2)))) (g0 rfl) rfl rfl rfl ?_
    refine o_s (.t (.d (.seq 1 (bytesD x6.1)))) (g0 rfl) rfl rfl rfl ?_
    refine o_s (.t (.d (.lit (.int .i64 x6.2)))) (g0 rfl) rfl rfl rfl ?_
    refine o_nil ?_
    repeat (first | refine then_normal ?_ | refine then_exit ?_ | refine then_ret ?_ | refine block_normal ?_ | refine block_ret ?_ | refine block_exit ?_ | refine block_pass rfl ?_)
    refine c_ret ?_
    repeat (first | refine then_normal ?_ | refine then_exit ?_ | refine then_ret ?_ | refine block_normal ?_ | refine block_ret ?_ | refine block_exit ?_ | refine block_pass rfl ?_)
    obtain rfl := Option.some.inj h
    exact end0 rfl (.tup (.cons (.refl _) (.cons (.refl _) .nil)))

theorem fc_L31_awake (r : Bool) (h : m_L31_awake = some r) : FC Try.prog 5 [] [] (.t (.d (.lit (.bool r)))) := by
  refine fc_mk (rs := [.tmp 0]) (n := 15) Try.func5 rfl rfl (Nat.le_of_ble_eq_true rfl) rfl (pins := []) rfl (L := []) rfl ?_
  refine c_seq ?_
  refine c_region ?_
  refine o_s (.t (.d (.lit (.bool false)))) (g0 rfl) rfl rfl rfl ?_
  refine o_nil ?_
  repeat (first | refine then_normal ?_ | refine then_exit ?_ | refine then_ret ?_ | refine block_normal ?_ | refine block_ret ?_ | refine block_exit ?_ | refine block_pass rfl ?_)
  refine c_seq ?_
  refine c_region ?_
  refine o_s (.t (.agg [.lit (.int .i64 0), .lit (.int .i64 0), .lit (.string ⟨⟨[]⟩⟩), .lit (.slice none 0 0), .lit (.slice none 0 0), .lit (.slice none 0 0), .lit (.slice none 0 0)])) (g0 rfl) rfl rfl rfl ?_
  obtain ⟨x1, h2, h⟩ := bind_some h
  refine o_ca (fc_answer_Write _ _ h2) (g0 rfl) rfl rfl rfl rfl rfl rfl rfl (.cons (.t (.agg (.cons (.refl _) (.cons (.refl _) (.cons (.refl _) (.cons (.nil _) (.cons (.nil _) (.cons (.nil _) (.cons (.nil _) .nil))))))))) .nil) rfl rfl ?_
  refine o_s (.tup [.d (.seq 1 (bytesD x1.1)), .d (.lit (.int .i64 x1.2))]) (g0 rfl) rfl rfl rfl ?_
  refine o_s (.t (.d (.seq 1 (bytesD x1.1)))) (g0 rfl) rfl rfl rfl ?_
  refine o_s (.t (.d (.lit (.int .i64 x1.2)))) (g0 rfl) rfl rfl rfl ?_
  refine o_s (.t (.d (.seq 1 (bytesD x1.1)))) (g0 rfl) rfl rfl rfl ?_
  refine o_s (.t (.d (.lit (.int .i64 x1.2)))) (g0 rfl) rfl rfl rfl ?_
  refine o_nil ?_
  repeat (first | refine then_normal ?_ | refine then_exit ?_ | refine then_ret ?_ | refine block_normal ?_ | refine block_ret ?_ | refine block_exit ?_ | refine block_pass rfl ?_)
  refine c_seq ?_
  refine c_region ?_
  refine o_s (.t (.d (.lit (.int .i64 x1.2)))) (g0 rfl) rfl rfl rfl ?_
  refine o_s (.t (.d (.lit (.bool (x1.2 == 0))))) (g0 rfl) rfl rfl rfl ?_
  refine o_s (.t (.d (.lit (.bool (x1.2 == 0))))) (g0 rfl) rfl rfl rfl ?_
  rcases bif_some h with ⟨h3, h⟩ | ⟨h3, h⟩
  · refine o_s (.t (.d (.seq 1 (bytesD x1.1)))) (gy rfl rfl rfl h3) rfl rfl rfl ?_
    refine o_s (.t (.own 5 1 (bytesD [3, 0, 7, 1, 0, 1, 0, 2, 0, 0, 0, 2, 0, 0, 0, 3, 0, 0, 3, 0, 0, 3, 0, 0]))) (gy rfl rfl rfl h3) rfl rfl rfl ?_
    obtain ⟨x4, h5, h⟩ := bind_some h
    refine o_ca (fc_R01_Same _ _ _ h5) (gy rfl rfl rfl h3) rfl rfl rfl rfl rfl rfl rfl (.cons (.refl _) (.cons (.refl _) .nil)) rfl rfl ?_
    refine o_pk (.t (.d (.lit (.bool x4)))) (b := true) h3 (g0 rfl) rfl rfl rfl rfl rfl ?_
    refine o_s (.t (.d (.lit (.bool x4)))) (g0 rfl) rfl rfl rfl ?_
    refine o_nil ?_
    repeat (first | refine then_normal ?_ | refine then_exit ?_ | refine then_ret ?_ | refine block_normal ?_ | refine block_ret ?_ | refine block_exit ?_ | refine block_pass rfl ?_)
    refine c_ret ?_
    repeat (first | refine then_normal ?_ | refine then_exit ?_ | refine then_ret ?_ | refine block_normal ?_ | refine block_ret ?_ | refine block_exit ?_ | refine block_pass rfl ?_)
    obtain rfl := Option.some.inj h
    exact end0 rfl (.refl _)
  · refine o_skip rfl rfl rfl h3 rfl rfl ?_
    refine o_skip rfl rfl rfl h3 rfl rfl ?_
    refine o_skip rfl rfl rfl h3 rfl rfl ?_
    refine o_pk (.t (.d (.lit (.bool false)))) (b := false) h3 (g0 rfl) rfl rfl rfl rfl rfl ?_
    refine o_s (.t (.d (.lit (.bool false)))) (g0 rfl) rfl rfl rfl ?_
    refine o_nil ?_
    repeat (first | refine then_normal ?_ | refine then_exit ?_ | refine then_ret ?_ | refine block_normal ?_ | refine block_ret ?_ | refine block_exit ?_ | refine block_pass rfl ?_)
    refine c_ret ?_
    repeat (first | refine then_normal ?_ | refine then_exit ?_ | refine then_ret ?_ | refine block_normal ?_ | refine block_ret ?_ | refine block_exit ?_ | refine block_pass rfl ?_)
    obtain rfl := Option.some.inj h
    exact end0 rfl (.refl _)

theorem fc_answer_things_string (p0 : V) (F1 : Nat) (C1 : List (List D)) (p1 : (V → Option ((List UInt8) × Bool))) (hp1 : ∀ (a0 : V) r, p1 a0 = some r → FC Try.prog F1 ([.t (.agg [.lit (.int .i64 a0.k), .lit (.int .i64 a0.n), .seq 1 (bytesD a0.b), .seq 4 (List.map V.cells a0.l)])] ++ C1.map A.imm) [] (.tup [.d (.lit (.string ⟨⟨r.1⟩⟩)), .d (.lit (.bool r.2))])) (hf1 : ∃ fn, Try.prog.funcs[F1]? = some fn ∧ fn.body.isNone = false ∧ (fn.name == "runtime.NumGoroutine") = false) (r : ((List (List UInt8)) × Bool)) (h : m_answer_things_string p0 p1 = some r) : FC Try.prog 19 [.t (.agg [.lit (.int .i64 p0.k), .lit (.int .i64 p0.n), .seq 1 (bytesD p0.b), .seq 4 (List.map V.cells p0.l)]), .t (.d (.clo F1 C1))] [] (.tup [.d (.seq 1 (List.map cStr r.1)), .d (.lit (.bool r.2))]) := by
  refine fc_mk (rs := [.tmp 4, .tmp 5]) (n := 32) Try.func19 rfl rfl (Nat.le_of_ble_eq_true rfl) rfl (pins := []) rfl (L := [(0, .t (.agg [.lit (.int .i64 p0.k), .lit (.int .i64 p0.n), .seq 1 (bytesD p0.b), .seq 4 (List.map V.cells p0.l)])), (1, .t (.d (.clo F1 C1)))]) rfl ?_
  refine c_seq ?_
  refine c_region ?_
  refine o_s (.box [.d (.lit (.int .i64 p0.k)), .d (.lit (.int .i64 p0.n)), .d (.seq 1 (bytesD p0.b)), .d (.seq 4 (List.map V.cells p0.l))]) (g0 rfl) rfl rfl rfl ?_
  refine o_s (.t (.d (.lit (.slice none 0 0)))) (g0 rfl) rfl rfl rfl ?_
  refine o_s (.t (.d (.lit (.bool false)))) (g0 rfl) rfl rfl rfl ?_
  refine o_nil ?_
  repeat (first | refine then_normal ?_ | refine then_exit ?_ | refine then_ret ?_ | refine block_normal ?_ | refine block_ret ?_ | refine block_exit ?_ | refine block_pass rfl ?_)
  refine c_seq ?_
  refine c_region ?_
  refine o_s (.t (.d (.lit (.slice none 0 0)))) (g0 rfl) rfl rfl rfl ?_
  refine o_nil ?_
  repeat (first | refine then_normal ?_ | refine then_exit ?_ | refine then_ret ?_ | refine block_normal ?_ | refine block_ret ?_ | refine block_exit ?_ | refine block_pass rfl ?_)
  refine c_cut (fun (y1 : (List (List UInt8))) => [(6, .t (.own 9 1 (List.map cStr y1)))]) (fun (y1 : (List (List UInt8))) => m_answer_things_string_j1 y1 = some r) ?_ ?_
  · refine c_seq ?_
    refine c_region ?_
    refine o_s (.ref 2 3) (g0 rfl) rfl rfl rfl ?_
    refine o_s (.t (.d (.seq 4 (List.map V.cells p0.l)))) (g0 rfl) rfl rfl rfl ?_
    refine o_c (g0 rfl) rfl rfl rfl (lenE _ _) trivial ?_
    refine o_s (.t (.d (.lit (.int .i64 0)))) (g0 rfl) rfl rfl rfl ?_
    refine o_nil ?_
    repeat (first | refine then_normal ?_ | refine then_exit ?_ | refine then_ret ?_ | refine block_normal ?_ | refine block_ret ?_ | refine block_exit ?_ | refine block_pass rfl ?_)
    refine c_block ?_
    refine c_fuel (fun (q : (List (List UInt8)) × Int) => [(1, .t (.d (.clo F1 C1))), (6, .t (.own 9 1 (List.map cStr q.1))), (12, .t (.d (.seq 4 (List.map V.cells p0.l)))), (13, .t (.d (.lit (.int .i64 (p0.l.length : Int))))), (14, .t (.d (.lit (.int .i64 q.2))))]) (fun nl2 => (fun (q : (List (List UInt8)) × Int) => m_answer_things_string_l2 p0 p1 nl2 q.1 q.2 = some r)) (p0.l.length + 1) ([], 0) h ⟨(.refl _), ⟨(.t (.nilOwn _ _)), ⟨(.refl _), ⟨(.refl _), ⟨(.refl _), trivial⟩⟩⟩⟩⟩ rfl ?_
    rintro nl2 ⟨z2, z3⟩ h
    cases nl2 with
    | zero => exact none_ne h
    | succ nl2 =>
      refine c_seq ?_
      refine c_region ?_
      refine o_s (.t (.d (.lit (.bool (decide (z3 < (p0.l.length : Int))))))) (g0 rfl) rfl rfl rfl ?_
      refine o_nil ?_
      repeat (first | refine then_normal ?_ | refine then_exit ?_ | refine then_ret ?_ | refine block_normal ?_ | refine block_ret ?_ | refine block_exit ?_ | refine block_pass rfl ?_)
      refine c_seq ?_
      rcases bif_some h with ⟨h4, h⟩ | ⟨h4, h⟩
      · refine c_t h4 rfl ?_
        refine c_skip ?_
        repeat (first | refine then_normal ?_ | refine then_exit ?_ | refine then_ret ?_ | refine block_normal ?_ | refine block_ret ?_ | refine block_exit ?_ | refine block_pass rfl ?_)
        refine c_seq ?_
        refine c_block ?_
        refine c_seq ?_
        refine c_region ?_
        obtain ⟨x5, h6, h⟩ := bind_some h
        refine o_c (g0 rfl) rfl rfl rfl (idxE' V.cells_eq h6) (idxC h6) ?_
        refine o_s (.t (.agg [.lit (.int .i64 x5.k), .lit (.int .i64 x5.n), .seq 1 (bytesD x5.b), .seq 4 (List.map V.cells x5.l)])) (g0 rfl) rfl rfl rfl ?_
        refine o_s (.box [.d (.lit (.int .i64 0)), .d (.lit (.int .i64 0)), .d (.lit (.slice none 0 0)), .d (.lit (.slice none 0 0))]) (g0 rfl) rfl rfl rfl ?_
        refine o_st (.box [.d (.lit (.int .i64 x5.k)), .d (.lit (.int .i64 x5.n)), .d (.seq 1 (bytesD x5.b)), .d (.seq 4 (List.map V.cells x5.l))]) (g0 rfl) rfl rfl rfl ?_
        refine o_nil ?_
        repeat (first | refine then_normal ?_ | refine then_exit ?_ | refine then_ret ?_ | refine block_normal ?_ | refine block_ret ?_ | refine block_exit ?_ | refine block_pass rfl ?_)
        refine c_seq ?_
        refine c_region ?_
        refine o_s (.t (.d (.clo F1 C1))) (g0 rfl) rfl rfl rfl ?_
        refine o_s (.t (.agg [.lit (.int .i64 x5.k), .lit (.int .i64 x5.n), .seq 1 (bytesD x5.b), .seq 4 (List.map V.cells x5.l)])) (g0 rfl) rfl rfl rfl ?_
        obtain ⟨x7, h8, h⟩ := bind_some h
        refine o_cc (hp1 _ _ h8) (g0 rfl) rfl rfl rfl rfl hf1.choose_spec.1 hf1.choose_spec.2.1 hf1.choose_spec.2.2 (.cons (.refl _) .nil) rfl rfl ?_
        refine o_s (.tup [.d (.lit (.string ⟨⟨x7.1⟩⟩)), .d (.lit (.bool x7.2))]) (g0 rfl) rfl rfl rfl ?_
        refine o_s (.t (.d (.lit (.string ⟨⟨x7.1⟩⟩)))) (g0 rfl) rfl rfl rfl ?_
        refine o_s (.t (.d (.lit (.bool x7.2)))) (g0 rfl) rfl rfl rfl ?_
        refine o_s (.t (.d (.lit (.string ⟨⟨x7.1⟩⟩)))) (g0 rfl) rfl rfl rfl ?_
        refine o_s (.t (.d (.lit (.bool x7.2)))) (g0 rfl) rfl rfl rfl ?_
        refine o_nil ?_
        repeat (first | refine then_normal ?_ | refine then_exit ?_ | refine then_ret ?_ | refine block_normal ?_ | refine block_ret ?_ | refine block_exit ?_ | refine block_pass rfl ?_)
        refine c_seq ?_
        refine c_seq ?_
        refine c_region ?_
        refine o_s (.t (.d (.lit (.bool x7.2)))) (g0 rfl) rfl rfl rfl ?_
        refine o_s (.t (.d (.lit (.bool (!x7.2))))) (g0 rfl) rfl rfl rfl ?_
        refine o_nil ?_
        repeat (first | refine then_normal ?_ | refine then_exit ?_ | refine then_ret ?_ | refine block_normal ?_ | refine block_ret ?_ | refine block_exit ?_ | refine block_pass rfl ?_)
        rcases bif_some h with ⟨h9, h⟩ | ⟨h9, h⟩
        · refine c_t h9 rfl ?_
          refine c_seq ?_
          refine c_region ?_
          refine o_s (.t (.d (.lit (.slice none 0 0)))) (g0 rfl) rfl rfl rfl ?_
          refine o_s (.t (.d (.lit (.bool false)))) (g0 rfl) rfl rfl rfl ?_
          refine o_nil ?_
          repeat (first | refine then_normal ?_ | refine then_exit ?_ | refine then_ret ?_ | refine block_normal ?_ | refine block_ret ?_ | refine block_exit ?_ | refine block_pass rfl ?_)
          refine c_ret ?_
          repeat (first | refine then_normal ?_ | refine then_exit ?_ | refine then_ret ?_ | refine block_normal ?_ | refine block_ret ?_ | refine block_exit ?_ | refine block_pass rfl ?_)
          obtain rfl := Option.some.inj h
          exact end0 rfl (.tup (.cons (.d (.nil _)) (.cons (.refl _) .nil)))
        · refine c_f h9 rfl ?_
          refine c_skip ?_
          repeat (first | refine then_normal ?_ | refine then_exit ?_ | refine then_ret ?_ | refine block_normal ?_ | refine block_ret ?_ | refine block_exit ?_ | refine block_pass rfl ?_)
          refine c_region ?_
          refine o_2 (.t (.d (.seq 1 (List.map cStr z2)))) (.t (.own 9 1 (List.map cStr z2))) (g0 rfl) rfl rfl rfl ?_
          refine o_s (.t (.d (.lit (.string ⟨⟨x7.1⟩⟩)))) (g0 rfl) rfl rfl rfl ?_
          refine o_s (.t (.own 9 1 (List.map cStr [x7.1]))) (g0 rfl) rfl rfl rfl ?_
          obtain ⟨x10, h11, h⟩ := bind_some h
          refine o_2c (g0 rfl) rfl rfl rfl (appE (c := cStr) h11) (appC (c := cStr) h11) ?_
          refine o_2 (.t (.d (.seq 1 (List.map cStr x10)))) (.t (.own 9 1 (List.map cStr x10))) (g0 rfl) rfl rfl rfl ?_
          refine o_nil ?_
          repeat (first | refine then_normal ?_ | refine then_exit ?_ | refine then_ret ?_ | refine block_normal ?_ | refine block_ret ?_ | refine block_exit ?_ | refine block_pass rfl ?_)
          refine c_region ?_
          refine o_s (.t (.d (.lit (.int .i64 (wi (z3 + 1)))))) (g0 rfl) rfl rfl rfl ?_
          refine o_s (.t (.d (.lit (.int .i64 (wi (z3 + 1)))))) (g0 rfl) rfl rfl rfl ?_
          refine o_nil ?_
          repeat (first | refine then_normal ?_ | refine then_exit ?_ | refine then_ret ?_ | refine block_normal ?_ | refine block_ret ?_ | refine block_exit ?_ | refine block_pass rfl ?_)
          exact ⟨nl2, (x10, (wi (z3 + 1))), Nat.lt_succ_self nl2, h, ⟨(.refl _), ⟨(.refl _), ⟨(.refl _), ⟨(.refl _), ⟨(.refl _), trivial⟩⟩⟩⟩⟩, rfl⟩
      · refine c_f h4 rfl ?_
        refine c_exit ?_
        repeat (first | refine then_normal ?_ | refine then_exit ?_ | refine then_ret ?_ | refine block_normal ?_ | refine block_ret ?_ | refine block_exit ?_ | refine block_pass rfl ?_)
        exact ⟨z2, h, ⟨(.refl _), trivial⟩, rfl⟩
  · rintro y1 h
    refine c_seq ?_
    refine c_region ?_
    refine o_2 (.t (.d (.seq 1 (List.map cStr y1)))) (.t (.own 9 1 (List.map cStr y1))) (g0 rfl) rfl rfl rfl ?_
    refine o_2 (.t (.d (.seq 1 (List.map cStr y1)))) (.t (.own 9 1 (List.map cStr y1))) (g0 rfl) rfl rfl rfl ?_
    refine o_s (.t (.d (.lit (.bool true)))) (g0 rfl) rfl rfl rfl ?_
    refine o_nil ?_
    repeat (first | refine then_normal ?_ | refine then_exit ?_ | refine then_ret ?_ | refine block_normal ?_ | refine block_ret ?_ | refine block_exit ?_ | refine block_pass rfl ?_)
    refine c_ret ?_
    repeat (first | refine then_normal ?_ | refine then_exit ?_ | refine then_ret ?_ | refine block_normal ?_ | refine block_ret ?_ | refine block_exit ?_ | refine block_pass rfl ?_)
    obtain rfl := Option.some.inj h
    exact end0 rfl (.tup (.cons (.refl _) (.cons (.refl _) .nil)))

theorem fc_answer_name (p0 : V) (r : ((List UInt8) × Bool)) (h : m_answer_name p0 = some r) : FC Try.prog 20 [.t (.agg [.lit (.int .i64 p0.k), .lit (.int .i64 p0.n), .seq 1 (bytesD p0.b), .seq 4 (List.map V.cells p0.l)])] [] (.tup [.d (.lit (.string ⟨⟨r.1⟩⟩)), .d (.lit (.bool r.2))]) := by
  refine fc_mk (rs := [.tmp 2, .tmp 3]) (n := 10) Try.func20 rfl rfl (Nat.le_of_ble_eq_true rfl) rfl (pins := []) rfl (L := [(0, .t (.agg [.lit (.int .i64 p0.k), .lit (.int .i64 p0.n), .seq 1 (bytesD p0.b), .seq 4 (List.map V.cells p0.l)]))]) rfl ?_
  refine c_seq ?_
  refine c_region ?_
  refine o_s (.box [.d (.lit (.int .i64 p0.k)), .d (.lit (.int .i64 p0.n)), .d (.seq 1 (bytesD p0.b)), .d (.seq 4 (List.map V.cells p0.l))]) (g0 rfl) rfl rfl rfl ?_
  refine o_s (.t (.d (.lit (.string ⟨⟨[]⟩⟩)))) (g0 rfl) rfl rfl rfl ?_
  refine o_s (.t (.d (.lit (.bool false)))) (g0 rfl) rfl rfl rfl ?_
  refine o_nil ?_
  repeat (first | refine then_normal ?_ | refine then_exit ?_ | refine then_ret ?_ | refine block_normal ?_ | refine block_ret ?_ | refine block_exit ?_ | refine block_pass rfl ?_)
  refine c_seq ?_
  refine c_draw mixed (by kernel_rfl) ?_
  refine d_s (.ref 1 2) rfl (dg0 rfl) rfl rfl rfl rfl ?_
  refine d_s (.t (.d (.seq 1 (bytesD p0.b)))) rfl (dg0 rfl) rfl rfl rfl rfl ?_
  refine d_c rfl (dg0 rfl) rfl rfl rfl rfl (strE _) (isB_bytes _) ?_
  refine d_s (.ref 1 0) rfl (dg0 rfl) rfl rfl rfl rfl ?_
  refine d_s (.t (.d (.lit (.int .i64 p0.k)))) rfl (dg0 rfl) rfl rfl rfl rfl ?_
  refine d_s (.t (.d (.lit (.bool (p0.k == 2))))) rfl (dg0 rfl) rfl rfl rfl rfl ?_
  refine d_s (.t (.d (.lit (.string ⟨⟨p0.b⟩⟩)))) rfl (dg0 rfl) rfl rfl rfl rfl ?_
  refine d_s (.t (.d (.lit (.bool (p0.k == 2))))) rfl (dg0 rfl) rfl rfl rfl rfl ?_
  refine d_nil (by kernel_rfl) ?_
  repeat (first | refine then_normal ?_ | refine then_exit ?_ | refine then_ret ?_ | refine block_normal ?_ | refine block_ret ?_ | refine block_exit ?_ | refine block_pass rfl ?_)
  refine c_ret ?_
  repeat (first | refine then_normal ?_ | refine then_exit ?_ | refine then_ret ?_ | refine block_normal ?_ | refine block_ret ?_ | refine block_exit ?_ | refine block_pass rfl ?_)
  obtain rfl := Option.some.inj h
  exact end0 rfl (.tup (.cons (.refl _) (.cons (.refl _) .nil)))

theorem fc_answer_things_Member (p0 : V) (F1 : Nat) (C1 : List (List D)) (p1 : (V → Option (S_api_Member × Bool))) (hp1 : ∀ (a0 : V) r, p1 a0 = some r → FC Try.prog F1 ([.t (.agg [.lit (.int .i64 a0.k), .lit (.int .i64 a0.n), .seq 1 (bytesD a0.b), .seq 4 (List.map V.cells a0.l)])] ++ C1.map A.imm) [] (.tup [.agg [.lit (.string ⟨⟨r.1.Name⟩⟩), .lit (.int .i64 r.1.Role)], .d (.lit (.bool r.2))])) (hf1 : ∃ fn, Try.prog.funcs[F1]? = some fn ∧ fn.body.isNone = false ∧ (fn.name == "runtime.NumGoroutine") = false) (r : ((List S_api_Member) × Bool)) (h : m_answer_things_Member p0 p1 = some r) : FC Try.prog 21 [.t (.agg [.lit (.int .i64 p0.k), .lit (.int .i64 p0.n), .seq 1 (bytesD p0.b), .seq 4 (List.map V.cells p0.l)]), .t (.d (.clo F1 C1))] [] (.tup [.d (.seq 2 (List.map cS_api_Member r.1)), .d (.lit (.bool r.2))]) := by
  refine fc_mk (rs := [.tmp 4, .tmp 5]) (n := 32) Try.func21 rfl rfl (Nat.le_of_ble_eq_true rfl) rfl (pins := []) rfl (L := [(0, .t (.agg [.lit (.int .i64 p0.k), .lit (.int .i64 p0.n), .seq 1 (bytesD p0.b), .seq 4 (List.map V.cells p0.l)])), (1, .t (.d (.clo F1 C1)))]) rfl ?_
  refine c_seq ?_
  refine c_region ?_
  refine o_s (.box [.d (.lit (.int .i64 p0.k)), .d (.lit (.int .i64 p0.n)), .d (.seq 1 (bytesD p0.b)), .d (.seq 4 (List.map V.cells p0.l))]) (g0 rfl) rfl rfl rfl ?_
  refine o_s (.t (.d (.lit (.slice none 0 0)))) (g0 rfl) rfl rfl rfl ?_
  refine o_s (.t (.d (.lit (.bool false)))) (g0 rfl) rfl rfl rfl ?_
  refine o_nil ?_
  repeat (first | refine then_normal ?_ | refine then_exit ?_ | refine then_ret ?_ | refine block_normal ?_ | refine block_ret ?_ | refine block_exit ?_ | refine block_pass rfl ?_)
  refine c_seq ?_
  refine c_region ?_
  refine o_s (.t (.d (.lit (.slice none 0 0)))) (g0 rfl) rfl rfl rfl ?_
  refine o_nil ?_
  repeat (first | refine then_normal ?_ | refine then_exit ?_ | refine then_ret ?_ | refine block_normal ?_ | refine block_ret ?_ | refine block_exit ?_ | refine block_pass rfl ?_)
  refine c_cut (fun (y1 : (List S_api_Member)) => [(6, .t (.own 60 2 (List.map cS_api_Member y1)))]) (fun (y1 : (List S_api_Member)) => m_answer_things_Member_j1 y1 = some r) ?_ ?_
  · refine c_seq ?_
    refine c_region ?_
    refine o_s (.ref 2 3) (g0 rfl) rfl rfl rfl ?_
    refine o_s (.t (.d (.seq 4 (List.map V.cells p0.l)))) (g0 rfl) rfl rfl rfl ?_
    refine o_c (g0 rfl) rfl rfl rfl (lenE _ _) trivial ?_
    refine o_s (.t (.d (.lit (.int .i64 0)))) (g0 rfl) rfl rfl rfl ?_
    refine o_nil ?_
    repeat (first | refine then_normal ?_ | refine then_exit ?_ | refine then_ret ?_ | refine block_normal ?_ | refine block_ret ?_ | refine block_exit ?_ | refine block_pass rfl ?_)
    refine c_block ?_
    refine c_fuel (fun (q : (List S_api_Member) × Int) => [(1, .t (.d (.clo F1 C1))), (6, .t (.own 60 2 (List.map cS_api_Member q.1))), (12, .t (.d (.seq 4 (List.map V.cells p0.l)))), (13, .t (.d (.lit (.int .i64 (p0.l.length : Int))))), (14, .t (.d (.lit (.int .i64 q.2))))]) (fun nl2 => (fun (q : (List S_api_Member) × Int) => m_answer_things_Member_l2 p0 p1 nl2 q.1 q.2 = some r)) (p0.l.length + 1) ([], 0) h ⟨(.refl _), ⟨(.t (.nilOwn _ _)), ⟨(.refl _), ⟨(.refl _), ⟨(.refl _), trivial⟩⟩⟩⟩⟩ rfl ?_
    rintro nl2 ⟨z2, z3⟩ h
    cases nl2 with
    | zero => exact none_ne h
    | succ nl2 =>
      refine c_seq ?_
      refine c_region ?_
      refine o_s (.t (.d (.lit (.bool (decide (z3 < (p0.l.length : Int))))))) (g0 rfl) rfl rfl rfl ?_
      refine o_nil ?_
      repeat (first | refine then_normal ?_ | refine then_exit ?_ | refine then_ret ?_ | refine block_normal ?_ | refine block_ret ?_ | refine block_exit ?_ | refine block_pass rfl ?_)
      refine c_seq ?_
      rcases bif_some h with ⟨h4, h⟩ | ⟨h4, h⟩
      · refine c_t h4 rfl ?_
        refine c_skip ?_
        repeat (first | refine then_normal ?_ | refine then_exit ?_ | refine then_ret ?_ | refine block_normal ?_ | refine block_ret ?_ | refine block_exit ?_ | refine block_pass rfl ?_)
        refine c_seq ?_
        refine c_block ?_
        refine c_seq ?_
        refine c_region ?_
        obtain ⟨x5, h6, h⟩ := bind_some h
        refine o_c (g0 rfl) rfl rfl rfl (idxE' V.cells_eq h6) (idxC h6) ?_
        refine o_s (.t (.agg [.lit (.int .i64 x5.k), .lit (.int .i64 x5.n), .seq 1 (bytesD x5.b), .seq 4 (List.map V.cells x5.l)])) (g0 rfl) rfl rfl rfl ?_
        refine o_s (.box [.d (.lit (.int .i64 0)), .d (.lit (.int .i64 0)), .d (.lit (.slice none 0 0)), .d (.lit (.slice none 0 0))]) (g0 rfl) rfl rfl rfl ?_
        refine o_st (.box [.d (.lit (.int .i64 x5.k)), .d (.lit (.int .i64 x5.n)), .d (.seq 1 (bytesD x5.b)), .d (.seq 4 (List.map V.cells x5.l))]) (g0 rfl) rfl rfl rfl ?_
        refine o_nil ?_
        repeat (first | refine then_normal ?_ | refine then_exit ?_ | refine then_ret ?_ | refine block_normal ?_ | refine block_ret ?_ | refine block_exit ?_ | refine block_pass rfl ?_)
        refine c_seq ?_
        refine c_region ?_
        refine o_s (.t (.d (.clo F1 C1))) (g0 rfl) rfl rfl rfl ?_
        refine o_s (.t (.agg [.lit (.int .i64 x5.k), .lit (.int .i64 x5.n), .seq 1 (bytesD x5.b), .seq 4 (List.map V.cells x5.l)])) (g0 rfl) rfl rfl rfl ?_
        obtain ⟨x7, h8, h⟩ := bind_some h
        refine o_cc (hp1 _ _ h8) (g0 rfl) rfl rfl rfl rfl hf1.choose_spec.1 hf1.choose_spec.2.1 hf1.choose_spec.2.2 (.cons (.refl _) .nil) rfl rfl ?_
        refine o_s (.tup [.agg [.lit (.string ⟨⟨x7.1.Name⟩⟩), .lit (.int .i64 x7.1.Role)], .d (.lit (.bool x7.2))]) (g0 rfl) rfl rfl rfl ?_
        refine o_s (.t (.agg [.lit (.string ⟨⟨x7.1.Name⟩⟩), .lit (.int .i64 x7.1.Role)])) (g0 rfl) rfl rfl rfl ?_
        refine o_s (.t (.d (.lit (.bool x7.2)))) (g0 rfl) rfl rfl rfl ?_
        refine o_s (.box [.d (.lit (.string ⟨⟨[]⟩⟩)), .d (.lit (.int .i64 0))]) (g0 rfl) rfl rfl rfl ?_
        refine o_st (.box [.d (.lit (.string ⟨⟨x7.1.Name⟩⟩)), .d (.lit (.int .i64 x7.1.Role))]) (g0 rfl) rfl rfl rfl ?_
        refine o_s (.t (.d (.lit (.bool x7.2)))) (g0 rfl) rfl rfl rfl ?_
        refine o_nil ?_
        repeat (first | refine then_normal ?_ | refine then_exit ?_ | refine then_ret ?_ | refine block_normal ?_ | refine block_ret ?_ | refine block_exit ?_ | refine block_pass rfl ?_)
        refine c_seq ?_
        refine c_seq ?_
        refine c_region ?_
        refine o_s (.t (.d (.lit (.bool x7.2)))) (g0 rfl) rfl rfl rfl ?_
        refine o_s (.t (.d (.lit (.bool (!x7.2))))) (g0 rfl) rfl rfl rfl ?_
        refine o_nil ?_
        repeat (first | refine then_normal ?_ | refine then_exit ?_ | refine then_ret ?_ | refine block_normal ?_ | refine block_ret ?_ | refine block_exit ?_ | refine block_pass rfl ?_)
        rcases bif_some h with ⟨h9, h⟩ | ⟨h9, h⟩
        · refine c_t h9 rfl ?_
          refine c_seq ?_
          refine c_region ?_
          refine o_s (.t (.d (.lit (.slice none 0 0)))) (g0 rfl) rfl rfl rfl ?_
          refine o_s (.t (.d (.lit (.bool false)))) (g0 rfl) rfl rfl rfl ?_
          refine o_nil ?_
          repeat (first | refine then_normal ?_ | refine then_exit ?_ | refine then_ret ?_ | refine block_normal ?_ | refine block_ret ?_ | refine block_exit ?_ | refine block_pass rfl ?_)
          refine c_ret ?_
          repeat (first | refine then_normal ?_ | refine then_exit ?_ | refine then_ret ?_ | refine block_normal ?_ | refine block_ret ?_ | refine block_exit ?_ | refine block_pass rfl ?_)
          obtain rfl := Option.some.inj h
          exact end0 rfl (.tup (.cons (.d (.nil _)) (.cons (.refl _) .nil)))
        · refine c_f h9 rfl ?_
          refine c_skip ?_
          repeat (first | refine then_normal ?_ | refine then_exit ?_ | refine then_ret ?_ | refine block_normal ?_ | refine block_ret ?_ | refine block_exit ?_ | refine block_pass rfl ?_)
          refine c_region ?_
          refine o_2 (.t (.d (.seq 2 (List.map cS_api_Member z2)))) (.t (.own 60 2 (List.map cS_api_Member z2))) (g0 rfl) rfl rfl rfl ?_
          refine o_s (.t (.agg [.lit (.string ⟨⟨x7.1.Name⟩⟩), .lit (.int .i64 x7.1.Role)])) (g0 rfl) rfl rfl rfl ?_
          refine o_s (.t (.own 60 2 (List.map cS_api_Member [x7.1]))) (g0 rfl) rfl rfl rfl ?_
          obtain ⟨x10, h11, h⟩ := bind_some h
          refine o_2c (g0 rfl) rfl rfl rfl (appE (c := cS_api_Member) h11) (appC (c := cS_api_Member) h11) ?_
          refine o_2 (.t (.d (.seq 2 (List.map cS_api_Member x10)))) (.t (.own 60 2 (List.map cS_api_Member x10))) (g0 rfl) rfl rfl rfl ?_
          refine o_nil ?_
          repeat (first | refine then_normal ?_ | refine then_exit ?_ | refine then_ret ?_ | refine block_normal ?_ | refine block_ret ?_ | refine block_exit ?_ | refine block_pass rfl ?_)
          refine c_region ?_
          refine o_s (.t (.d (.lit (.int .i64 (wi (z3 + 1)))))) (g0 rfl) rfl rfl rfl ?_
          refine o_s (.t (.d (.lit (.int .i64 (wi (z3 + 1)))))) (g0 rfl) rfl rfl rfl ?_
          refine o_nil ?_
          repeat (first | refine then_normal ?_ | refine then_exit ?_ | refine then_ret ?_ | refine block_normal ?_ | refine block_ret ?_ | refine block_exit ?_ | refine block_pass rfl ?_)
          exact ⟨nl2, (x10, (wi (z3 + 1))), Nat.lt_succ_self nl2, h, ⟨(.refl _), ⟨(.refl _), ⟨(.refl _), ⟨(.refl _), ⟨(.refl _), trivial⟩⟩⟩⟩⟩, rfl⟩
      · refine c_f h4 rfl ?_
        refine c_exit ?_
        repeat (first | refine then_normal ?_ | refine then_exit ?_ | refine then_ret ?_ | refine block_normal ?_ | refine block_ret ?_ | refine block_exit ?_ | refine block_pass rfl ?_)
        exact ⟨z2, h, ⟨(.refl _), trivial⟩, rfl⟩
  · rintro y1 h
    refine c_seq ?_
    refine c_region ?_
    refine o_2 (.t (.d (.seq 2 (List.map cS_api_Member y1)))) (.t (.own 60 2 (List.map cS_api_Member y1))) (g0 rfl) rfl rfl rfl ?_
    refine o_2 (.t (.d (.seq 2 (List.map cS_api_Member y1)))) (.t (.own 60 2 (List.map cS_api_Member y1))) (g0 rfl) rfl rfl rfl ?_
    refine o_s (.t (.d (.lit (.bool true)))) (g0 rfl) rfl rfl rfl ?_
    refine o_nil ?_
    repeat (first | refine then_normal ?_ | refine then_exit ?_ | refine then_ret ?_ | refine block_normal ?_ | refine block_ret ?_ | refine block_exit ?_ | refine block_pass rfl ?_)
    refine c_ret ?_
    repeat (first | refine then_normal ?_ | refine then_exit ?_ | refine then_ret ?_ | refine block_normal ?_ | refine block_ret ?_ | refine block_exit ?_ | refine block_pass rfl ?_)
    obtain rfl := Option.some.inj h
    exact end0 rfl (.tup (.cons (.refl _) (.cons (.refl _) .nil)))

theorem fc_answer_Read_c1 (p0 : V) (r : (S_api_Member × Bool)) (h : m_answer_Read_c1 p0 = some r) : FC Try.prog 22 [.t (.agg [.lit (.int .i64 p0.k), .lit (.int .i64 p0.n), .seq 1 (bytesD p0.b), .seq 4 (List.map V.cells p0.l)])] [] (.tup [.agg [.lit (.string ⟨⟨r.1.Name⟩⟩), .lit (.int .i64 r.1.Role)], .d (.lit (.bool r.2))]) := by
  refine fc_mk (rs := [.cell 2 60, .tmp 3]) (n := 25) Try.func22 rfl rfl (Nat.le_of_ble_eq_true rfl) rfl (pins := []) rfl (L := [(0, .t (.agg [.lit (.int .i64 p0.k), .lit (.int .i64 p0.n), .seq 1 (bytesD p0.b), .seq 4 (List.map V.cells p0.l)]))]) rfl ?_
  refine c_seq ?_
  refine c_region ?_
  refine o_s (.box [.d (.lit (.int .i64 p0.k)), .d (.lit (.int .i64 p0.n)), .d (.seq 1 (bytesD p0.b)), .d (.seq 4 (List.map V.cells p0.l))]) (g0 rfl) rfl rfl rfl ?_
  refine o_s (.box [.d (.lit (.string ⟨⟨[]⟩⟩)), .d (.lit (.int .i64 0))]) (g0 rfl) rfl rfl rfl ?_
  refine o_s (.t (.d (.lit (.bool false)))) (g0 rfl) rfl rfl rfl ?_
  refine o_nil ?_
  repeat (first | refine then_normal ?_ | refine then_exit ?_ | refine then_ret ?_ | refine block_normal ?_ | refine block_ret ?_ | refine block_exit ?_ | refine block_pass rfl ?_)
  refine c_seq ?_
  refine c_region ?_
  refine o_s (.t (.agg [.lit (.int .i64 p0.k), .lit (.int .i64 p0.n), .seq 1 (bytesD p0.b), .seq 4 (List.map V.cells p0.l)])) (g0 rfl) rfl rfl rfl ?_
  refine o_s (.t (.own 3 1 (List.map cI64 [2, 1]))) (g0 rfl) rfl rfl rfl ?_
  obtain ⟨x1, h2, h⟩ := bind_some h
  refine o_ca (fc_codec_Fields _ _ _ h2) (g0 rfl) rfl rfl rfl rfl rfl rfl rfl (.cons (.refl _) (.cons (.refl _) .nil)) rfl rfl ?_
  refine o_s (.tup [.d (.seq 4 (List.map V.cells x1.1)), .d (.lit (.bool x1.2))]) (g0 rfl) rfl rfl rfl ?_
  refine o_s (.t (.d (.seq 4 (List.map V.cells x1.1)))) (g0 rfl) rfl rfl rfl ?_
  refine o_s (.t (.d (.lit (.bool x1.2)))) (g0 rfl) rfl rfl rfl ?_
  refine o_s (.t (.d (.seq 4 (List.map V.cells x1.1)))) (g0 rfl) rfl rfl rfl ?_
  refine o_s (.t (.d (.lit (.bool x1.2)))) (g0 rfl) rfl rfl rfl ?_
  refine o_nil ?_
  repeat (first | refine then_normal ?_ | refine then_exit ?_ | refine then_ret ?_ | refine block_normal ?_ | refine block_ret ?_ | refine block_exit ?_ | refine block_pass rfl ?_)
  refine c_seq ?_
  refine c_seq ?_
  refine c_region ?_
  refine o_s (.t (.d (.lit (.bool x1.2)))) (g0 rfl) rfl rfl rfl ?_
  refine o_s (.t (.d (.lit (.bool (!x1.2))))) (g0 rfl) rfl rfl rfl ?_
  refine o_nil ?_
  repeat (first | refine then_normal ?_ | refine then_exit ?_ | refine then_ret ?_ | refine block_normal ?_ | refine block_ret ?_ | refine block_exit ?_ | refine block_pass rfl ?_)
  rcases bif_some h with ⟨h3, h⟩ | ⟨h3, h⟩
  · refine c_t h3 rfl ?_
    refine c_seq ?_
    refine c_region ?_
    refine o_s (.t (.agg [.lit (.string ⟨⟨[]⟩⟩), .lit (.int .i64 0)])) (g0 rfl) rfl rfl rfl ?_
    refine o_st (.box [.d (.lit (.string ⟨⟨[]⟩⟩)), .d (.lit (.int .i64 0))]) (g0 rfl) rfl rfl rfl ?_
    refine o_s (.t (.d (.lit (.bool false)))) (g0 rfl) rfl rfl rfl ?_
    refine o_nil ?_
    repeat (first | refine then_normal ?_ | refine then_exit ?_ | refine then_ret ?_ | refine block_normal ?_ | refine block_ret ?_ | refine block_exit ?_ | refine block_pass rfl ?_)
    refine c_ret ?_
    repeat (first | refine then_normal ?_ | refine then_exit ?_ | refine then_ret ?_ | refine block_normal ?_ | refine block_ret ?_ | refine block_exit ?_ | refine block_pass rfl ?_)
    obtain rfl := Option.some.inj h
    exact end0 rfl (.tup (.cons (.refl _) (.cons (.refl _) .nil)))
  · refine c_f h3 rfl ?_
    refine c_skip ?_
    repeat (first | refine then_normal ?_ | refine then_exit ?_ | refine then_ret ?_ | refine block_normal ?_ | refine block_ret ?_ | refine block_exit ?_ | refine block_pass rfl ?_)
    refine c_seq ?_
    refine c_draw mixed (by kernel_rfl) ?_
    refine d_s (.t (.d (.seq 4 (List.map V.cells x1.1)))) rfl (dg0 rfl) rfl rfl rfl rfl ?_
    obtain ⟨x4, h5, h⟩ := bind_some h
    refine d_c rfl (dg0 rfl) rfl rfl rfl rfl (idxE' V.cells_eq h5) (idxC h5) ?_
    refine d_s (.imm [.seq 1 (bytesD x4.b), .seq 4 (List.map V.cells x4.l)]) rfl (dg0 rfl) rfl rfl rfl rfl ?_
    refine d_s (.t (.d (.seq 1 (bytesD x4.b)))) rfl (dg0 rfl) rfl rfl rfl rfl ?_
    refine d_c rfl (dg0 rfl) rfl rfl rfl rfl (strE _) (isB_bytes _) ?_
    refine d_s (.t (.d (.seq 4 (List.map V.cells x1.1)))) rfl (dg0 rfl) rfl rfl rfl rfl ?_
    obtain ⟨x6, h7, h⟩ := bind_some h
    refine d_c rfl (dg0 rfl) rfl rfl rfl rfl (idxE' V.cells_eq h7) (idxC h7) ?_
    refine d_s (.imm [.lit (.int .i64 x6.n), .seq 1 (bytesD x6.b), .seq 4 (List.map V.cells x6.l)]) rfl (dg0 rfl) rfl rfl rfl rfl ?_
    refine d_s (.t (.d (.lit (.int .i64 x6.n)))) rfl (dg0 rfl) rfl rfl rfl rfl ?_
    refine d_s (.t (.agg [.lit (.string ⟨⟨x4.b⟩⟩), .lit (.int .i64 x6.n)])) rfl (dg0 rfl) rfl rfl rfl rfl ?_
    refine d_st (.box [.d (.lit (.string ⟨⟨x4.b⟩⟩)), .d (.lit (.int .i64 x6.n))]) rfl (dg0 rfl) rfl rfl rfl rfl ?_
    refine d_s (.t (.d (.lit (.bool true)))) rfl (dg0 rfl) rfl rfl rfl rfl ?_
    refine d_nil (by kernel_rfl) ?_
    repeat (first | refine then_normal ?_ | refine then_exit ?_ | refine then_ret ?_ | refine block_normal ?_ | refine block_ret ?_ | refine block_exit ?_ | refine block_pass rfl ?_)
    refine c_ret ?_
    repeat (first | refine then_normal ?_ | refine then_exit ?_ | refine then_ret ?_ | refine block_normal ?_ | refine block_ret ?_ | refine block_exit ?_ | refine block_pass rfl ?_)
    obtain rfl := Option.some.inj h
    exact end0 rfl (.tup (.cons (.refl _) (.cons (.refl _) .nil)))

theorem fc_answer_things_Past (p0 : V) (F1 : Nat) (C1 : List (List D)) (p1 : (V → Option (S_api_Past × Bool))) (hp1 : ∀ (a0 : V) r, p1 a0 = some r → FC Try.prog F1 ([.t (.agg [.lit (.int .i64 a0.k), .lit (.int .i64 a0.n), .seq 1 (bytesD a0.b), .seq 4 (List.map V.cells a0.l)])] ++ C1.map A.imm) [] (.tup [.agg [.lit (.int .i64 r.1.Number), .lit (.int .i64 r.1.Epoch), .lit (.bool r.1.Gone), .lit (.string ⟨⟨r.1.By⟩⟩)], .d (.lit (.bool r.2))])) (hf1 : ∃ fn, Try.prog.funcs[F1]? = some fn ∧ fn.body.isNone = false ∧ (fn.name == "runtime.NumGoroutine") = false) (r : ((List S_api_Past) × Bool)) (h : m_answer_things_Past p0 p1 = some r) : FC Try.prog 23 [.t (.agg [.lit (.int .i64 p0.k), .lit (.int .i64 p0.n), .seq 1 (bytesD p0.b), .seq 4 (List.map V.cells p0.l)]), .t (.d (.clo F1 C1))] [] (.tup [.d (.seq 4 (List.map cS_api_Past r.1)), .d (.lit (.bool r.2))]) := by
  refine fc_mk (rs := [.tmp 4, .tmp 5]) (n := 32) Try.func23 rfl rfl (Nat.le_of_ble_eq_true rfl) rfl (pins := []) rfl (L := [(0, .t (.agg [.lit (.int .i64 p0.k), .lit (.int .i64 p0.n), .seq 1 (bytesD p0.b), .seq 4 (List.map V.cells p0.l)])), (1, .t (.d (.clo F1 C1)))]) rfl ?_
  refine c_seq ?_
  refine c_region ?_
  refine o_s (.box [.d (.lit (.int .i64 p0.k)), .d (.lit (.int .i64 p0.n)), .d (.seq 1 (bytesD p0.b)), .d (.seq 4 (List.map V.cells p0.l))]) (g0 rfl) rfl rfl rfl ?_
  refine o_s (.t (.d (.lit (.slice none 0 0)))) (g0 rfl) rfl rfl rfl ?_
  refine o_s (.t (.d (.lit (.bool false)))) (g0 rfl) rfl rfl rfl ?_
  refine o_nil ?_
  repeat (first | refine then_normal ?_ | refine then_exit ?_ | refine then_ret ?_ | refine block_normal ?_ | refine block_ret ?_ | refine block_exit ?_ | refine block_pass rfl ?_)
  refine c_seq ?_
  refine c_region ?_
  refine o_s (.t (.d (.lit (.slice none 0 0)))) (g0 rfl) rfl rfl rfl ?_
  refine o_nil ?_
  repeat (first | refine then_normal ?_ | refine then_exit ?_ | refine then_ret ?_ | refine block_normal ?_ | refine block_ret ?_ | refine block_exit ?_ | refine block_pass rfl ?_)
  refine c_cut (fun (y1 : (List S_api_Past)) => [(6, .t (.own 65 4 (List.map cS_api_Past y1)))]) (fun (y1 : (List S_api_Past)) => m_answer_things_Past_j1 y1 = some r) ?_ ?_
  · refine c_seq ?_
    refine c_region ?_
    refine o_s (.ref 2 3) (g0 rfl) rfl rfl rfl ?_
    refine o_s (.t (.d (.seq 4 (List.map V.cells p0.l)))) (g0 rfl) rfl rfl rfl ?_
    refine o_c (g0 rfl) rfl rfl rfl (lenE _ _) trivial ?_
    refine o_s (.t (.d (.lit (.int .i64 0)))) (g0 rfl) rfl rfl rfl ?_
    refine o_nil ?_
    repeat (first | refine then_normal ?_ | refine then_exit ?_ | refine then_ret ?_ | refine block_normal ?_ | refine block_ret ?_ | refine block_exit ?_ | refine block_pass rfl ?_)
    refine c_block ?_
    refine c_fuel (fun (q : (List S_api_Past) × Int) => [(1, .t (.d (.clo F1 C1))), (6, .t (.own 65 4 (List.map cS_api_Past q.1))), (12, .t (.d (.seq 4 (List.map V.cells p0.l)))), (13, .t (.d (.lit (.int .i64 (p0.l.length : Int))))), (14, .t (.d (.lit (.int .i64 q.2))))]) (fun nl2 => (fun (q : (List S_api_Past) × Int) => m_answer_things_Past_l2 p0 p1 nl2 q.1 q.2 = some r)) (p0.l.length + 1) ([], 0) h ⟨(.refl _), ⟨(.t (.nilOwn _ _)), ⟨(.refl _), ⟨(.refl _), ⟨(.refl _), trivial⟩⟩⟩⟩⟩ rfl ?_
    rintro nl2 ⟨z2, z3⟩ h
    cases nl2 with
    | zero => exact none_ne h
    | succ nl2 =>
      refine c_seq ?_
      refine c_region ?_
      refine o_s (.t (.d (.lit (.bool (decide (z3 < (p0.l.length : Int))))))) (g0 rfl) rfl rfl rfl ?_
      refine o_nil ?_
      repeat (first | refine then_normal ?_ | refine then_exit ?_ | refine then_ret ?_ | refine block_normal ?_ | refine block_ret ?_ | refine block_exit ?_ | refine block_pass rfl ?_)
      refine c_seq ?_
      rcases bif_some h with ⟨h4, h⟩ | ⟨h4, h⟩
      · refine c_t h4 rfl ?_
        refine c_skip ?_
        repeat (first | refine then_normal ?_ | refine then_exit ?_ | refine then_ret ?_ | refine block_normal ?_ | refine block_ret ?_ | refine block_exit ?_ | refine block_pass rfl ?_)
        refine c_seq ?_
        refine c_block ?_
        refine c_seq ?_
        refine c_region ?_
        obtain ⟨x5, h6, h⟩ := bind_some h
        refine o_c (g0 rfl) rfl rfl rfl (idxE' V.cells_eq h6) (idxC h6) ?_
        refine o_s (.t (.agg [.lit (.int .i64 x5.k), .lit (.int .i64 x5.n), .seq 1 (bytesD x5.b), .seq 4 (List.map V.cells x5.l)])) (g0 rfl) rfl rfl rfl ?_
        refine o_s (.box [.d (.lit (.int .i64 0)), .d (.lit (.int .i64 0)), .d (.lit (.slice none 0 0)), .d (.lit (.slice none 0 0))]) (g0 rfl) rfl rfl rfl ?_
        refine o_st (.box [.d (.lit (.int .i64 x5.k)), .d (.lit (.int .i64 x5.n)), .d (.seq 1 (bytesD x5.b)), .d (.seq 4 (List.map V.cells x5.l))]) (g0 rfl) rfl rfl rfl ?_
        refine o_nil ?_
        repeat (first | refine then_normal ?_ | refine then_exit ?_ | refine then_ret ?_ | refine block_normal ?_ | refine block_ret ?_ | refine block_exit ?_ | refine block_pass rfl ?_)
        refine c_seq ?_
        refine c_region ?_
        refine o_s (.t (.d (.clo F1 C1))) (g0 rfl) rfl rfl rfl ?_
        refine o_s (.t (.agg [.lit (.int .i64 x5.k), .lit (.int .i64 x5.n), .seq 1 (bytesD x5.b), .seq 4 (List.map V.cells x5.l)])) (g0 rfl) rfl rfl rfl ?_
        obtain ⟨x7, h8, h⟩ := bind_some h
        refine o_cc (hp1 _ _ h8) (g0 rfl) rfl rfl rfl rfl hf1.choose_spec.1 hf1.choose_spec.2.1 hf1.choose_spec.2.2 (.cons (.refl _) .nil) rfl rfl ?_
        refine o_s (.tup [.agg [.lit (.int .i64 x7.1.Number), .lit (.int .i64 x7.1.Epoch), .lit (.bool x7.1.Gone), .lit (.string ⟨⟨x7.1.By⟩⟩)], .d (.lit (.bool x7.2))]) (g0 rfl) rfl rfl rfl ?_
        refine o_s (.t (.agg [.lit (.int .i64 x7.1.Number), .lit (.int .i64 x7.1.Epoch), .lit (.bool x7.1.Gone), .lit (.string ⟨⟨x7.1.By⟩⟩)])) (g0 rfl) rfl rfl rfl ?_
        refine o_s (.t (.d (.lit (.bool x7.2)))) (g0 rfl) rfl rfl rfl ?_
        refine o_s (.box [.d (.lit (.int .i64 0)), .d (.lit (.int .i64 0)), .d (.lit (.bool false)), .d (.lit (.string ⟨⟨[]⟩⟩))]) (g0 rfl) rfl rfl rfl ?_
        refine o_st (.box [.d (.lit (.int .i64 x7.1.Number)), .d (.lit (.int .i64 x7.1.Epoch)), .d (.lit (.bool x7.1.Gone)), .d (.lit (.string ⟨⟨x7.1.By⟩⟩))]) (g0 rfl) rfl rfl rfl ?_
        refine o_s (.t (.d (.lit (.bool x7.2)))) (g0 rfl) rfl rfl rfl ?_
        refine o_nil ?_
        repeat (first | refine then_normal ?_ | refine then_exit ?_ | refine then_ret ?_ | refine block_normal ?_ | refine block_ret ?_ | refine block_exit ?_ | refine block_pass rfl ?_)
        refine c_seq ?_
        refine c_seq ?_
        refine c_region ?_
        refine o_s (.t (.d (.lit (.bool x7.2)))) (g0 rfl) rfl rfl rfl ?_
        refine o_s (.t (.d (.lit (.bool (!x7.2))))) (g0 rfl) rfl rfl rfl ?_
        refine o_nil ?_
        repeat (first | refine then_normal ?_ | refine then_exit ?_ | refine then_ret ?_ | refine block_normal ?_ | refine block_ret ?_ | refine block_exit ?_ | refine block_pass rfl ?_)
        rcases bif_some h with ⟨h9, h⟩ | ⟨h9, h⟩
        · refine c_t h9 rfl ?_
          refine c_seq ?_
          refine c_region ?_
          refine o_s (.t (.d (.lit (.slice none 0 0)))) (g0 rfl) rfl rfl rfl ?_
          refine o_s (.t (.d (.lit (.bool false)))) (g0 rfl) rfl rfl rfl ?_
          refine o_nil ?_
          repeat (first | refine then_normal ?_ | refine then_exit ?_ | refine then_ret ?_ | refine block_normal ?_ | refine block_ret ?_ | refine block_exit ?_ | refine block_pass rfl ?_)
          refine c_ret ?_
          repeat (first | refine then_normal ?_ | refine then_exit ?_ | refine then_ret ?_ | refine block_normal ?_ | refine block_ret ?_ | refine block_exit ?_ | refine block_pass rfl ?_)
          obtain rfl := Option.some.inj h
          exact end0 rfl (.tup (.cons (.d (.nil _)) (.cons (.refl _) .nil)))
        · refine c_f h9 rfl ?_
          refine c_skip ?_
          repeat (first | refine then_normal ?_ | refine then_exit ?_ | refine then_ret ?_ | refine block_normal ?_ | refine block_ret ?_ | refine block_exit ?_ | refine block_pass rfl ?_)
          refine c_region ?_
          refine o_2 (.t (.d (.seq 4 (List.map cS_api_Past z2)))) (.t (.own 65 4 (List.map cS_api_Past z2))) (g0 rfl) rfl rfl rfl ?_
          refine o_s (.t (.agg [.lit (.int .i64 x7.1.Number), .lit (.int .i64 x7.1.Epoch), .lit (.bool x7.1.Gone), .lit (.string ⟨⟨x7.1.By⟩⟩)])) (g0 rfl) rfl rfl rfl ?_
          refine o_s (.t (.own 65 4 (List.map cS_api_Past [x7.1]))) (g0 rfl) rfl rfl rfl ?_
          obtain ⟨x10, h11, h⟩ := bind_some h
          refine o_2c (g0 rfl) rfl rfl rfl (appE (c := cS_api_Past) h11) (appC (c := cS_api_Past) h11) ?_
          refine o_2 (.t (.d (.seq 4 (List.map cS_api_Past x10)))) (.t (.own 65 4 (List.map cS_api_Past x10))) (g0 rfl) rfl rfl rfl ?_
          refine o_nil ?_
          repeat (first | refine then_normal ?_ | refine then_exit ?_ | refine then_ret ?_ | refine block_normal ?_ | refine block_ret ?_ | refine block_exit ?_ | refine block_pass rfl ?_)
          refine c_region ?_
          refine o_s (.t (.d (.lit (.int .i64 (wi (z3 + 1)))))) (g0 rfl) rfl rfl rfl ?_
          refine o_s (.t (.d (.lit (.int .i64 (wi (z3 + 1)))))) (g0 rfl) rfl rfl rfl ?_
          refine o_nil ?_
          repeat (first | refine then_normal ?_ | refine then_exit ?_ | refine then_ret ?_ | refine block_normal ?_ | refine block_ret ?_ | refine block_exit ?_ | refine block_pass rfl ?_)
          exact ⟨nl2, (x10, (wi (z3 + 1))), Nat.lt_succ_self nl2, h, ⟨(.refl _), ⟨(.refl _), ⟨(.refl _), ⟨(.refl _), ⟨(.refl _), trivial⟩⟩⟩⟩⟩, rfl⟩
      · refine c_f h4 rfl ?_
        refine c_exit ?_
        repeat (first | refine then_normal ?_ | refine then_exit ?_ | refine then_ret ?_ | refine block_normal ?_ | refine block_ret ?_ | refine block_exit ?_ | refine block_pass rfl ?_)
        exact ⟨z2, h, ⟨(.refl _), trivial⟩, rfl⟩
  · rintro y1 h
    refine c_seq ?_
    refine c_region ?_
    refine o_2 (.t (.d (.seq 4 (List.map cS_api_Past y1)))) (.t (.own 65 4 (List.map cS_api_Past y1))) (g0 rfl) rfl rfl rfl ?_
    refine o_2 (.t (.d (.seq 4 (List.map cS_api_Past y1)))) (.t (.own 65 4 (List.map cS_api_Past y1))) (g0 rfl) rfl rfl rfl ?_
    refine o_s (.t (.d (.lit (.bool true)))) (g0 rfl) rfl rfl rfl ?_
    refine o_nil ?_
    repeat (first | refine then_normal ?_ | refine then_exit ?_ | refine then_ret ?_ | refine block_normal ?_ | refine block_ret ?_ | refine block_exit ?_ | refine block_pass rfl ?_)
    refine c_ret ?_
    repeat (first | refine then_normal ?_ | refine then_exit ?_ | refine then_ret ?_ | refine block_normal ?_ | refine block_ret ?_ | refine block_exit ?_ | refine block_pass rfl ?_)
    obtain rfl := Option.some.inj h
    exact end0 rfl (.tup (.cons (.refl _) (.cons (.refl _) .nil)))

theorem fc_answer_Read_c2 (p0 : V) (r : (S_api_Past × Bool)) (h : m_answer_Read_c2 p0 = some r) : FC Try.prog 24 [.t (.agg [.lit (.int .i64 p0.k), .lit (.int .i64 p0.n), .seq 1 (bytesD p0.b), .seq 4 (List.map V.cells p0.l)])] [] (.tup [.agg [.lit (.int .i64 r.1.Number), .lit (.int .i64 r.1.Epoch), .lit (.bool r.1.Gone), .lit (.string ⟨⟨r.1.By⟩⟩)], .d (.lit (.bool r.2))]) := by
  refine fc_mk (rs := [.cell 2 65, .tmp 3]) (n := 41) Try.func24 rfl rfl (Nat.le_of_ble_eq_true rfl) rfl (pins := []) rfl (L := [(0, .t (.agg [.lit (.int .i64 p0.k), .lit (.int .i64 p0.n), .seq 1 (bytesD p0.b), .seq 4 (List.map V.cells p0.l)]))]) rfl ?_
  refine c_seq ?_
  refine c_region ?_
  refine o_s (.box [.d (.lit (.int .i64 p0.k)), .d (.lit (.int .i64 p0.n)), .d (.seq 1 (bytesD p0.b)), .d (.seq 4 (List.map V.cells p0.l))]) (g0 rfl) rfl rfl rfl ?_
  refine o_s (.box [.d (.lit (.int .i64 0)), .d (.lit (.int .i64 0)), .d (.lit (.bool false)), .d (.lit (.string ⟨⟨[]⟩⟩))]) (g0 rfl) rfl rfl rfl ?_
  refine o_s (.t (.d (.lit (.bool false)))) (g0 rfl) rfl rfl rfl ?_
  refine o_nil ?_
  repeat (first | refine then_normal ?_ | refine then_exit ?_ | refine then_ret ?_ | refine block_normal ?_ | refine block_ret ?_ | refine block_exit ?_ | refine block_pass rfl ?_)
  refine c_seq ?_
  refine c_region ?_
  refine o_s (.t (.agg [.lit (.int .i64 p0.k), .lit (.int .i64 p0.n), .seq 1 (bytesD p0.b), .seq 4 (List.map V.cells p0.l)])) (g0 rfl) rfl rfl rfl ?_
  refine o_s (.t (.own 3 1 (List.map cI64 [1, 1, 1, 2]))) (g0 rfl) rfl rfl rfl ?_
  obtain ⟨x1, h2, h⟩ := bind_some h
  refine o_ca (fc_codec_Fields _ _ _ h2) (g0 rfl) rfl rfl rfl rfl rfl rfl rfl (.cons (.refl _) (.cons (.refl _) .nil)) rfl rfl ?_
  refine o_s (.tup [.d (.seq 4 (List.map V.cells x1.1)), .d (.lit (.bool x1.2))]) (g0 rfl) rfl rfl rfl ?_
  refine o_s (.t (.d (.seq 4 (List.map V.cells x1.1)))) (g0 rfl) rfl rfl rfl ?_
  refine o_s (.t (.d (.lit (.bool x1.2)))) (g0 rfl) rfl rfl rfl ?_
  refine o_s (.t (.d (.seq 4 (List.map V.cells x1.1)))) (g0 rfl) rfl rfl rfl ?_
  refine o_s (.t (.d (.lit (.bool x1.2)))) (g0 rfl) rfl rfl rfl ?_
  refine o_nil ?_
  repeat (first | refine then_normal ?_ | refine then_exit ?_ | refine then_ret ?_ | refine block_normal ?_ | refine block_ret ?_ | refine block_exit ?_ | refine block_pass rfl ?_)
  refine c_seq ?_
  refine c_seq ?_
  refine c_region ?_
  refine o_s (.t (.d (.lit (.bool x1.2)))) (g0 rfl) rfl rfl rfl ?_
  refine o_s (.t (.d (.lit (.bool (!x1.2))))) (g0 rfl) rfl rfl rfl ?_
  refine o_s (.t (.d (.lit (.bool (!x1.2))))) (g0 rfl) rfl rfl rfl ?_
  rcases bif_some h with ⟨h3, h⟩ | ⟨h3, h⟩
  · refine o_skip rfl rfl rfl h3 rfl rfl ?_
    refine o_skip rfl rfl rfl h3 rfl rfl ?_
    refine o_skip rfl rfl rfl h3 rfl rfl ?_
    refine o_skip rfl rfl rfl h3 rfl rfl ?_
    refine o_skip rfl rfl rfl h3 rfl rfl ?_
    refine o_pk (.t (.d (.lit (.bool true)))) (b := true) h3 (g0 rfl) rfl rfl rfl rfl rfl ?_
    refine o_nil ?_
    repeat (first | refine then_normal ?_ | refine then_exit ?_ | refine then_ret ?_ | refine block_normal ?_ | refine block_ret ?_ | refine block_exit ?_ | refine block_pass rfl ?_)
    refine c_t rfl rfl ?_
    refine c_seq ?_
    refine c_region ?_
    refine o_s (.t (.agg [.lit (.int .i64 0), .lit (.int .i64 0), .lit (.bool false), .lit (.string ⟨⟨[]⟩⟩)])) (g0 rfl) rfl rfl rfl ?_
    refine o_st (.box [.d (.lit (.int .i64 0)), .d (.lit (.int .i64 0)), .d (.lit (.bool false)), .d (.lit (.string ⟨⟨[]⟩⟩))]) (g0 rfl) rfl rfl rfl ?_
    refine o_s (.t (.d (.lit (.bool false)))) (g0 rfl) rfl rfl rfl ?_
    refine o_nil ?_
    repeat (first | refine then_normal ?_ | refine then_exit ?_ | refine then_ret ?_ | refine block_normal ?_ | refine block_ret ?_ | refine block_exit ?_ | refine block_pass rfl ?_)
    refine c_ret ?_
    repeat (first | refine then_normal ?_ | refine then_exit ?_ | refine then_ret ?_ | refine block_normal ?_ | refine block_ret ?_ | refine block_exit ?_ | refine block_pass rfl ?_)
    obtain rfl := Option.some.inj h
    exact end0 rfl (.tup (.cons (.refl _) (.cons (.refl _) .nil)))
  · refine o_s (.t (.d (.seq 4 (List.map V.cells x1.1)))) (gy rfl rfl rfl h3) rfl rfl rfl ?_
    obtain ⟨x4, h5, h⟩ := bind_some h
    refine o_c (gy rfl rfl rfl h3) rfl rfl rfl (idxE' V.cells_eq h5) (idxC h5) ?_
    refine o_s (.imm [.lit (.int .i64 x4.n), .seq 1 (bytesD x4.b), .seq 4 (List.map V.cells x4.l)]) (gy rfl rfl rfl h3) rfl rfl rfl ?_
    refine o_s (.t (.d (.lit (.int .i64 x4.n)))) (gy rfl rfl rfl h3) rfl rfl rfl ?_
    refine o_s (.t (.d (.lit (.bool (decide (x4.n > 1)))))) (gy rfl rfl rfl h3) rfl rfl rfl ?_
    refine o_pk (.t (.d (.lit (.bool (decide (x4.n > 1)))))) (b := false) h3 (g0 rfl) rfl rfl rfl rfl rfl ?_
    refine o_nil ?_
    repeat (first | refine then_normal ?_ | refine then_exit ?_ | refine then_ret ?_ | refine block_normal ?_ | refine block_ret ?_ | refine block_exit ?_ | refine block_pass rfl ?_)
    rcases bif_some h with ⟨h6, h⟩ | ⟨h6, h⟩
    · refine c_t h6 rfl ?_
      refine c_seq ?_
      refine c_region ?_
      refine o_s (.t (.agg [.lit (.int .i64 0), .lit (.int .i64 0), .lit (.bool false), .lit (.string ⟨⟨[]⟩⟩)])) (g0 rfl) rfl rfl rfl ?_
      refine o_st (.box [.d (.lit (.int .i64 0)), .d (.lit (.int .i64 0)), .d (.lit (.bool false)), .d (.lit (.string ⟨⟨[]⟩⟩))]) (g0 rfl) rfl rfl rfl ?_
      refine o_s (.t (.d (.lit (.bool false)))) (g0 rfl) rfl rfl rfl ?_
      refine o_nil ?_
      repeat (first | refine then_normal ?_ | refine then_exit ?_ | refine then_ret ?_ | refine block_normal ?_ | refine block_ret ?_ | refine block_exit ?_ | refine block_pass rfl ?_)
      refine c_ret ?_
      repeat (first | refine then_normal ?_ | refine then_exit ?_ | refine then_ret ?_ | refine block_normal ?_ | refine block_ret ?_ | refine block_exit ?_ | refine block_pass rfl ?_)
      obtain rfl := Option.some.inj h
      exact end0 rfl (.tup (.cons (.refl _) (.cons (.refl _) .nil)))
    · refine c_f h6 rfl ?_
      refine c_skip ?_
      repeat (first | refine then_normal ?_ | refine then_exit ?_ | refine then_ret ?_ | refine block_normal ?_ | refine block_ret ?_ | refine block_exit ?_ | refine block_pass rfl ?_)
      refine c_seq ?_
      refine c_draw mixed (by kernel_rfl) ?_
      refine d_s (.t (.d (.seq 4 (List.map V.cells x1.1)))) rfl (dg0 rfl) rfl rfl rfl rfl ?_
      obtain ⟨x7, h8, h⟩ := bind_some h
      refine d_c rfl (dg0 rfl) rfl rfl rfl rfl (idxE' V.cells_eq h8) (idxC h8) ?_
      refine d_s (.imm [.lit (.int .i64 x7.n), .seq 1 (bytesD x7.b), .seq 4 (List.map V.cells x7.l)]) rfl (dg0 rfl) rfl rfl rfl rfl ?_
      refine d_s (.t (.d (.lit (.int .i64 x7.n)))) rfl (dg0 rfl) rfl rfl rfl rfl ?_
      refine d_s (.t (.d (.seq 4 (List.map V.cells x1.1)))) rfl (dg0 rfl) rfl rfl rfl rfl ?_
      obtain ⟨x9, h10, h⟩ := bind_some h
      refine d_c rfl (dg0 rfl) rfl rfl rfl rfl (idxE' V.cells_eq h10) (idxC h10) ?_
      refine d_s (.imm [.lit (.int .i64 x9.n), .seq 1 (bytesD x9.b), .seq 4 (List.map V.cells x9.l)]) rfl (dg0 rfl) rfl rfl rfl rfl ?_
      refine d_s (.t (.d (.lit (.int .i64 x9.n)))) rfl (dg0 rfl) rfl rfl rfl rfl ?_
      refine d_s (.t (.d (.seq 4 (List.map V.cells x1.1)))) rfl (dg0 rfl) rfl rfl rfl rfl ?_
      obtain ⟨x11, h12, h⟩ := bind_some h
      refine d_c rfl (dg0 rfl) rfl rfl rfl rfl (idxE' V.cells_eq h12) (idxC h12) ?_
      refine d_s (.imm [.lit (.int .i64 x11.n), .seq 1 (bytesD x11.b), .seq 4 (List.map V.cells x11.l)]) rfl (dg0 rfl) rfl rfl rfl rfl ?_
      refine d_s (.t (.d (.lit (.int .i64 x11.n)))) rfl (dg0 rfl) rfl rfl rfl rfl ?_
      refine d_s (.t (.d (.lit (.bool (x11.n == 1))))) rfl (dg0 rfl) rfl rfl rfl rfl ?_
      refine d_s (.t (.d (.seq 4 (List.map V.cells x1.1)))) rfl (dg0 rfl) rfl rfl rfl rfl ?_
      obtain ⟨x13, h14, h⟩ := bind_some h
      refine d_c rfl (dg0 rfl) rfl rfl rfl rfl (idxE' V.cells_eq h14) (idxC h14) ?_
      refine d_s (.imm [.seq 1 (bytesD x13.b), .seq 4 (List.map V.cells x13.l)]) rfl (dg0 rfl) rfl rfl rfl rfl ?_
      refine d_s (.t (.d (.seq 1 (bytesD x13.b)))) rfl (dg0 rfl) rfl rfl rfl rfl ?_
      refine d_c rfl (dg0 rfl) rfl rfl rfl rfl (strE _) (isB_bytes _) ?_
      refine d_s (.t (.agg [.lit (.int .i64 x7.n), .lit (.int .i64 x9.n), .lit (.bool (x11.n == 1)), .lit (.string ⟨⟨x13.b⟩⟩)])) rfl (dg0 rfl) rfl rfl rfl rfl ?_
      refine d_st (.box [.d (.lit (.int .i64 x7.n)), .d (.lit (.int .i64 x9.n)), .d (.lit (.bool (x11.n == 1))), .d (.lit (.string ⟨⟨x13.b⟩⟩))]) rfl (dg0 rfl) rfl rfl rfl rfl ?_
      refine d_s (.t (.d (.lit (.bool true)))) rfl (dg0 rfl) rfl rfl rfl rfl ?_
      refine d_nil (by kernel_rfl) ?_
      repeat (first | refine then_normal ?_ | refine then_exit ?_ | refine then_ret ?_ | refine block_normal ?_ | refine block_ret ?_ | refine block_exit ?_ | refine block_pass rfl ?_)
      refine c_ret ?_
      repeat (first | refine then_normal ?_ | refine then_exit ?_ | refine then_ret ?_ | refine block_normal ?_ | refine block_ret ?_ | refine block_exit ?_ | refine block_pass rfl ?_)
      obtain rfl := Option.some.inj h
      exact end0 rfl (.tup (.cons (.refl _) (.cons (.refl _) .nil)))

theorem fc_answer_Read (p0 : (List UInt8)) (r : (S_api_Answer × Int)) (h : m_answer_Read p0 = some r) : FC Try.prog 6 [.t (.d (.seq 1 (bytesD p0)))] [] (.tup [.agg [.lit (.int .i64 r.1.Err), .lit (.int .i64 r.1.Number), .lit (.string ⟨⟨r.1.By⟩⟩), .seq 1 (bytesD r.1.Data), .seq 1 (List.map cStr r.1.Names), .seq 2 (List.map cS_api_Member r.1.Members), .seq 4 (List.map cS_api_Past r.1.History)], .d (.lit (.int .i64 r.2))]) := by
  refine fc_mk (rs := [.cell 2 29, .tmp 3]) (n := 96) Try.func6 rfl rfl (Nat.le_of_ble_eq_true rfl) rfl (pins := []) rfl (L := [(0, .t (.d (.seq 1 (bytesD p0))))]) rfl ?_
  refine c_seq ?_
  refine c_region ?_
  refine o_s (.box [.d (.lit (.int .i64 0)), .d (.lit (.int .i64 0)), .d (.lit (.string ⟨⟨[]⟩⟩)), .d (.lit (.slice none 0 0)), .d (.lit (.slice none 0 0)), .d (.lit (.slice none 0 0)), .d (.lit (.slice none 0 0))]) (g0 rfl) rfl rfl rfl ?_
  refine o_s (.t (.d (.lit (.int .i64 0)))) (g0 rfl) rfl rfl rfl ?_
  refine o_nil ?_
  repeat (first | refine then_normal ?_ | refine then_exit ?_ | refine then_ret ?_ | refine block_normal ?_ | refine block_ret ?_ | refine block_exit ?_ | refine block_pass rfl ?_)
  refine c_seq ?_
  refine c_region ?_
  refine o_s (.t (.d (.seq 1 (bytesD p0)))) (g0 rfl) rfl rfl rfl ?_
  obtain ⟨x1, h2, h⟩ := bind_some h
  refine o_ca (fc_codec_Decode _ _ h2) (g0 rfl) rfl rfl rfl rfl rfl rfl rfl (.cons (.refl _) .nil) rfl rfl ?_
  refine o_s (.tup [.agg [.lit (.int .i64 x1.1.k), .lit (.int .i64 x1.1.n), .seq 1 (bytesD x1.1.b), .seq 4 (List.map V.cells x1.1.l)], .d (.lit (.int .i64 x1.2))]) (g0 rfl) rfl rfl rfl ?_
  refine o_s (.t (.agg [.lit (.int .i64 x1.1.k), .lit (.int .i64 x1.1.n), .seq 1 (bytesD x1.1.b), .seq 4 (List.map V.cells x1.1.l)])) (g0 rfl) rfl rfl rfl ?_
  refine o_s (.t (.d (.lit (.int .i64 x1.2)))) (g0 rfl) rfl rfl rfl ?_
  refine o_s (.box [.d (.lit (.int .i64 0)), .d (.lit (.int .i64 0)), .d (.lit (.slice none 0 0)), .d (.lit (.slice none 0 0))]) (g0 rfl) rfl rfl rfl ?_
  refine o_st (.box [.d (.lit (.int .i64 x1.1.k)), .d (.lit (.int .i64 x1.1.n)), .d (.seq 1 (bytesD x1.1.b)), .d (.seq 4 (List.map V.cells x1.1.l))]) (g0 rfl) rfl rfl rfl ?_
  refine o_s (.t (.d (.lit (.int .i64 x1.2)))) (g0 rfl) rfl rfl rfl ?_
  refine o_nil ?_
  repeat (first | refine then_normal ?_ | refine then_exit ?_ | refine then_ret ?_ | refine block_normal ?_ | refine block_ret ?_ | refine block_exit ?_ | refine block_pass rfl ?_)
  refine c_seq ?_
  refine c_seq ?_
  refine c_region ?_
  refine o_s (.t (.d (.lit (.int .i64 x1.2)))) (g0 rfl) rfl rfl rfl ?_
  refine o_s (.t (.d (.lit (.bool (x1.2 != 0))))) (g0 rfl) rfl rfl rfl ?_
  refine o_nil ?_
  repeat (first | refine then_normal ?_ | refine then_exit ?_ | refine then_ret ?_ | refine block_normal ?_ | refine block_ret ?_ | refine block_exit ?_ | refine block_pass rfl ?_)
  rcases bif_some h with ⟨h3, h⟩ | ⟨h3, h⟩
  · refine c_t h3 rfl ?_
    refine c_seq ?_
    refine c_region ?_
    refine o_s (.t (.agg [.lit (.int .i64 0), .lit (.int .i64 0), .lit (.string ⟨⟨[]⟩⟩), .lit (.slice none 0 0), .lit (.slice none 0 0), .lit (.slice none 0 0), .lit (.slice none 0 0)])) (g0 rfl) rfl rfl rfl ?_
    refine o_s (.t (.d (.lit (.int .i64 x1.2)))) (g0 rfl) rfl rfl rfl ?_
    refine o_st (.box [.d (.lit (.int .i64 0)), .d (.lit (.int .i64 0)), .d (.lit (.string ⟨⟨[]⟩⟩)), .d (.lit (.slice none 0 0)), .d (.lit (.slice none 0 0)), .d (.lit (.slice none 0 0)), .d (.lit (.slice none 0 0))]) (g0 rfl) rfl rfl rfl ?_
    refine o_s (.t (.d (.lit (.int .i64 x1.2)))) (g0 rfl) rfl rfl rfl ?_
    refine o_nil ?_
    repeat (first | refine then_normal ?_ | refine then_exit ?_ | refine then_ret ?_ | refine block_normal ?_ | refine block_ret ?_ | refine block_exit ?_ | refine block_pass rfl ?_)
    refine c_ret ?_
    repeat (first | refine then_normal ?_ | refine then_exit ?_ | refine then_ret ?_ | refine block_normal ?_ | refine block_ret ?_ | refine block_exit ?_ | refine block_pass rfl ?_)
    obtain rfl := Option.some.inj h
    exact end0 rfl (.tup (.cons (.agg (.cons (.refl _) (.cons (.refl _) (.cons (.refl _) (.cons (.nil _) (.cons (.nil _) (.cons (.nil _) (.cons (.nil _) .nil)))))))) (.cons (.refl _) .nil)))
  · refine c_f h3 rfl ?_
    refine c_skip ?_
    repeat (first | refine then_normal ?_ | refine then_exit ?_ | refine then_ret ?_ | refine block_normal ?_ | refine block_ret ?_ | refine block_exit ?_ | refine block_pass rfl ?_)
    refine c_seq ?_
    refine c_region ?_
    refine o_s (.t (.agg [.lit (.int .i64 x1.1.k), .lit (.int .i64 x1.1.n), .seq 1 (bytesD x1.1.b), .seq 4 (List.map V.cells x1.1.l)])) (g0 rfl) rfl rfl rfl ?_
    refine o_s (.t (.own 3 1 (List.map cI64 [1, 1, 2, 2, 3, 3, 3]))) (g0 rfl) rfl rfl rfl ?_
    obtain ⟨x4, h5, h⟩ := bind_some h
    refine o_ca (fc_codec_Fields _ _ _ h5) (g0 rfl) rfl rfl rfl rfl rfl rfl rfl (.cons (.refl _) (.cons (.refl _) .nil)) rfl rfl ?_
    refine o_s (.tup [.d (.seq 4 (List.map V.cells x4.1)), .d (.lit (.bool x4.2))]) (g0 rfl) rfl rfl rfl ?_
    refine o_s (.t (.d (.seq 4 (List.map V.cells x4.1)))) (g0 rfl) rfl rfl rfl ?_
    refine o_s (.t (.d (.lit (.bool x4.2)))) (g0 rfl) rfl rfl rfl ?_
    refine o_s (.t (.d (.seq 4 (List.map V.cells x4.1)))) (g0 rfl) rfl rfl rfl ?_
    refine o_s (.t (.d (.lit (.bool x4.2)))) (g0 rfl) rfl rfl rfl ?_
    refine o_nil ?_
    repeat (first | refine then_normal ?_ | refine then_exit ?_ | refine then_ret ?_ | refine block_normal ?_ | refine block_ret ?_ | refine block_exit ?_ | refine block_pass rfl ?_)
    refine c_seq ?_
    refine c_seq ?_
    refine c_region ?_
    refine o_s (.t (.d (.lit (.bool x4.2)))) (g0 rfl) rfl rfl rfl ?_
    refine o_s (.t (.d (.lit (.bool (!x4.2))))) (g0 rfl) rfl rfl rfl ?_
    refine o_s (.t (.d (.lit (.bool (!x4.2))))) (g0 rfl) rfl rfl rfl ?_
    rcases bif_some h with ⟨h6, h⟩ | ⟨h6, h⟩
    · refine o_skip rfl rfl rfl h6 rfl rfl ?_
      refine o_skip rfl rfl rfl h6 rfl rfl ?_
      refine o_skip rfl rfl rfl h6 rfl rfl ?_
      refine o_skip rfl rfl rfl h6 rfl rfl ?_
      refine o_skip rfl rfl rfl h6 rfl rfl ?_
      refine o_pk (.t (.d (.lit (.bool true)))) (b := true) h6 (g0 rfl) rfl rfl rfl rfl rfl ?_
      refine o_nil ?_
      repeat (first | refine then_normal ?_ | refine then_exit ?_ | refine then_ret ?_ | refine block_normal ?_ | refine block_ret ?_ | refine block_exit ?_ | refine block_pass rfl ?_)
      refine c_t rfl rfl ?_
      refine c_seq ?_
      refine c_region ?_
      refine o_s (.t (.agg [.lit (.int .i64 0), .lit (.int .i64 0), .lit (.string ⟨⟨[]⟩⟩), .lit (.slice none 0 0), .lit (.slice none 0 0), .lit (.slice none 0 0), .lit (.slice none 0 0)])) (g0 rfl) rfl rfl rfl ?_
      refine o_st (.box [.d (.lit (.int .i64 0)), .d (.lit (.int .i64 0)), .d (.lit (.string ⟨⟨[]⟩⟩)), .d (.lit (.slice none 0 0)), .d (.lit (.slice none 0 0)), .d (.lit (.slice none 0 0)), .d (.lit (.slice none 0 0))]) (g0 rfl) rfl rfl rfl ?_
      refine o_s (.t (.d (.lit (.int .i64 11)))) (g0 rfl) rfl rfl rfl ?_
      refine o_nil ?_
      repeat (first | refine then_normal ?_ | refine then_exit ?_ | refine then_ret ?_ | refine block_normal ?_ | refine block_ret ?_ | refine block_exit ?_ | refine block_pass rfl ?_)
      refine c_ret ?_
      repeat (first | refine then_normal ?_ | refine then_exit ?_ | refine then_ret ?_ | refine block_normal ?_ | refine block_ret ?_ | refine block_exit ?_ | refine block_pass rfl ?_)
      obtain rfl := Option.some.inj h
      exact end0 rfl (.tup (.cons (.agg (.cons (.refl _) (.cons (.refl _) (.cons (.refl _) (.cons (.nil _) (.cons (.nil _) (.cons (.nil _) (.cons (.nil _) .nil)))))))) (.cons (.refl _) .nil)))
    · refine o_s (.t (.d (.seq 4 (List.map V.cells x4.1)))) (gy rfl rfl rfl h6) rfl rfl rfl ?_
      obtain ⟨x7, h8, h⟩ := bind_some h
      refine o_c (gy rfl rfl rfl h6) rfl rfl rfl (idxE' V.cells_eq h8) (idxC h8) ?_
      refine o_s (.imm [.lit (.int .i64 x7.n), .seq 1 (bytesD x7.b), .seq 4 (List.map V.cells x7.l)]) (gy rfl rfl rfl h6) rfl rfl rfl ?_
      refine o_s (.t (.d (.lit (.int .i64 x7.n)))) (gy rfl rfl rfl h6) rfl rfl rfl ?_
      refine o_s (.t (.d (.lit (.bool (decide (x7.n > 255)))))) (gy rfl rfl rfl h6) rfl rfl rfl ?_
      refine o_pk (.t (.d (.lit (.bool (decide (x7.n > 255)))))) (b := false) h6 (g0 rfl) rfl rfl rfl rfl rfl ?_
      refine o_nil ?_
      repeat (first | refine then_normal ?_ | refine then_exit ?_ | refine then_ret ?_ | refine block_normal ?_ | refine block_ret ?_ | refine block_exit ?_ | refine block_pass rfl ?_)
      rcases bif_some h with ⟨h9, h⟩ | ⟨h9, h⟩
      · refine c_t h9 rfl ?_
        refine c_seq ?_
        refine c_region ?_
        refine o_s (.t (.agg [.lit (.int .i64 0), .lit (.int .i64 0), .lit (.string ⟨⟨[]⟩⟩), .lit (.slice none 0 0), .lit (.slice none 0 0), .lit (.slice none 0 0), .lit (.slice none 0 0)])) (g0 rfl) rfl rfl rfl ?_
        refine o_st (.box [.d (.lit (.int .i64 0)), .d (.lit (.int .i64 0)), .d (.lit (.string ⟨⟨[]⟩⟩)), .d (.lit (.slice none 0 0)), .d (.lit (.slice none 0 0)), .d (.lit (.slice none 0 0)), .d (.lit (.slice none 0 0))]) (g0 rfl) rfl rfl rfl ?_
        refine o_s (.t (.d (.lit (.int .i64 11)))) (g0 rfl) rfl rfl rfl ?_
        refine o_nil ?_
        repeat (first | refine then_normal ?_ | refine then_exit ?_ | refine then_ret ?_ | refine block_normal ?_ | refine block_ret ?_ | refine block_exit ?_ | refine block_pass rfl ?_)
        refine c_ret ?_
        repeat (first | refine then_normal ?_ | refine then_exit ?_ | refine then_ret ?_ | refine block_normal ?_ | refine block_ret ?_ | refine block_exit ?_ | refine block_pass rfl ?_)
        obtain rfl := Option.some.inj h
        exact end0 rfl (.tup (.cons (.agg (.cons (.refl _) (.cons (.refl _) (.cons (.refl _) (.cons (.nil _) (.cons (.nil _) (.cons (.nil _) (.cons (.nil _) .nil)))))))) (.cons (.refl _) .nil)))
      · refine c_f h9 rfl ?_
        refine c_skip ?_
        repeat (first | refine then_normal ?_ | refine then_exit ?_ | refine then_ret ?_ | refine block_normal ?_ | refine block_ret ?_ | refine block_exit ?_ | refine block_pass rfl ?_)
        refine c_seq ?_
        refine c_draw mixed (by kernel_rfl) ?_
        refine d_s (.t (.d (.seq 4 (List.map V.cells x4.1)))) rfl (dg0 rfl) rfl rfl rfl rfl ?_
        obtain ⟨x10, h11, h⟩ := bind_some h
        refine d_c rfl (dg0 rfl) rfl rfl rfl rfl (idxE' V.cells_eq h11) (idxC h11) ?_
        refine d_s (.imm [.lit (.int .i64 x10.n), .seq 1 (bytesD x10.b), .seq 4 (List.map V.cells x10.l)]) rfl (dg0 rfl) rfl rfl rfl rfl ?_
        refine d_s (.t (.d (.lit (.int .i64 x10.n)))) rfl (dg0 rfl) rfl rfl rfl rfl ?_
        refine d_s (.t (.d (.seq 4 (List.map V.cells x4.1)))) rfl (dg0 rfl) rfl rfl rfl rfl ?_
        obtain ⟨x12, h13, h⟩ := bind_some h
        refine d_c rfl (dg0 rfl) rfl rfl rfl rfl (idxE' V.cells_eq h13) (idxC h13) ?_
        refine d_s (.imm [.lit (.int .i64 x12.n), .seq 1 (bytesD x12.b), .seq 4 (List.map V.cells x12.l)]) rfl (dg0 rfl) rfl rfl rfl rfl ?_
        refine d_s (.t (.d (.lit (.int .i64 x12.n)))) rfl (dg0 rfl) rfl rfl rfl rfl ?_
        refine d_s (.t (.d (.seq 4 (List.map V.cells x4.1)))) rfl (dg0 rfl) rfl rfl rfl rfl ?_
        obtain ⟨x14, h15, h⟩ := bind_some h
        refine d_c rfl (dg0 rfl) rfl rfl rfl rfl (idxE' V.cells_eq h15) (idxC h15) ?_
        refine d_s (.imm [.seq 1 (bytesD x14.b), .seq 4 (List.map V.cells x14.l)]) rfl (dg0 rfl) rfl rfl rfl rfl ?_
        refine d_s (.t (.d (.seq 1 (bytesD x14.b)))) rfl (dg0 rfl) rfl rfl rfl rfl ?_
        refine d_c rfl (dg0 rfl) rfl rfl rfl rfl (strE _) (isB_bytes _) ?_
        refine d_s (.t (.d (.seq 4 (List.map V.cells x4.1)))) rfl (dg0 rfl) rfl rfl rfl rfl ?_
        obtain ⟨x16, h17, h⟩ := bind_some h
        refine d_c rfl (dg0 rfl) rfl rfl rfl rfl (idxE' V.cells_eq h17) (idxC h17) ?_
        refine d_s (.imm [.seq 1 (bytesD x16.b), .seq 4 (List.map V.cells x16.l)]) rfl (dg0 rfl) rfl rfl rfl rfl ?_
        refine d_s (.t (.d (.seq 1 (bytesD x16.b)))) rfl (dg0 rfl) rfl rfl rfl rfl ?_
        refine d_s (.t (.agg [.lit (.int .i64 x10.n), .lit (.int .i64 x12.n), .lit (.string ⟨⟨x14.b⟩⟩), .seq 1 (bytesD x16.b), .lit (.slice none 0 0), .lit (.slice none 0 0), .lit (.slice none 0 0)])) rfl (dg0 rfl) rfl rfl rfl rfl ?_
        refine d_s (.box [.d (.lit (.int .i64 0)), .d (.lit (.int .i64 0)), .d (.lit (.string ⟨⟨[]⟩⟩)), .d (.lit (.slice none 0 0)), .d (.lit (.slice none 0 0)), .d (.lit (.slice none 0 0)), .d (.lit (.slice none 0 0))]) rfl (dg0 rfl) rfl rfl rfl rfl ?_
        refine d_st (.box [.d (.lit (.int .i64 x10.n)), .d (.lit (.int .i64 x12.n)), .d (.lit (.string ⟨⟨x14.b⟩⟩)), .d (.seq 1 (bytesD x16.b)), .d (.lit (.slice none 0 0)), .d (.lit (.slice none 0 0)), .d (.lit (.slice none 0 0))]) rfl (dg0 rfl) rfl rfl rfl rfl ?_
        refine d_nil (by kernel_rfl) ?_
        repeat (first | refine then_normal ?_ | refine then_exit ?_ | refine then_ret ?_ | refine block_normal ?_ | refine block_ret ?_ | refine block_exit ?_ | refine block_pass rfl ?_)
        refine c_seq ?_
        refine c_region ?_
        refine o_s (.t (.d (.lit (.bool false)))) (g0 rfl) rfl rfl rfl ?_
        refine o_s (.t (.d (.lit (.bool false)))) (g0 rfl) rfl rfl rfl ?_
        refine o_s (.t (.d (.lit (.bool false)))) (g0 rfl) rfl rfl rfl ?_
        refine o_nil ?_
        repeat (first | refine then_normal ?_ | refine then_exit ?_ | refine then_ret ?_ | refine block_normal ?_ | refine block_ret ?_ | refine block_exit ?_ | refine block_pass rfl ?_)
        refine c_seq ?_
        refine c_region ?_
        refine o_s (.t (.d (.seq 4 (List.map V.cells x4.1)))) (g0 rfl) rfl rfl rfl ?_
        obtain ⟨x18, h19, h⟩ := bind_some h
        refine o_c (g0 rfl) rfl rfl rfl (idxE' V.cells_eq h19) (idxC h19) ?_
        refine o_s (.t (.agg [.lit (.int .i64 x18.k), .lit (.int .i64 x18.n), .seq 1 (bytesD x18.b), .seq 4 (List.map V.cells x18.l)])) (g0 rfl) rfl rfl rfl ?_
        obtain ⟨x20, h21, h⟩ := bind_some h
        refine o_ca (fc_answer_things_string _ 20 [] _ fc_answer_name ⟨_, Try.func20, rfl, rfl⟩ _ h21) (g0 rfl) rfl rfl rfl rfl rfl rfl rfl (.cons (.refl _) (.cons (.t (.d (.fn _))) .nil)) rfl rfl ?_
        refine o_s (.tup [.d (.seq 1 (List.map cStr x20.1)), .d (.lit (.bool x20.2))]) (g0 rfl) rfl rfl rfl ?_
        refine o_s (.t (.d (.seq 1 (List.map cStr x20.1)))) (g0 rfl) rfl rfl rfl ?_
        refine o_s (.t (.d (.lit (.bool x20.2)))) (g0 rfl) rfl rfl rfl ?_
        refine o_s (.ref 8 4) (g0 rfl) rfl rfl rfl ?_
        refine o_st (.box [.d (.lit (.int .i64 x10.n)), .d (.lit (.int .i64 x12.n)), .d (.lit (.string ⟨⟨x14.b⟩⟩)), .d (.seq 1 (bytesD x16.b)), .d (.seq 1 (List.map cStr x20.1)), .d (.lit (.slice none 0 0)), .d (.lit (.slice none 0 0))]) (g0 rfl) rfl rfl rfl ?_
        refine o_s (.t (.d (.lit (.bool x20.2)))) (g0 rfl) rfl rfl rfl ?_
        refine o_nil ?_
        repeat (first | refine then_normal ?_ | refine then_exit ?_ | refine then_ret ?_ | refine block_normal ?_ | refine block_ret ?_ | refine block_exit ?_ | refine block_pass rfl ?_)
        refine c_seq ?_
        refine c_region ?_
        refine o_s (.t (.d (.seq 4 (List.map V.cells x4.1)))) (g0 rfl) rfl rfl rfl ?_
        obtain ⟨x22, h23, h⟩ := bind_some h
        refine o_c (g0 rfl) rfl rfl rfl (idxE' V.cells_eq h23) (idxC h23) ?_
        refine o_s (.t (.agg [.lit (.int .i64 x22.k), .lit (.int .i64 x22.n), .seq 1 (bytesD x22.b), .seq 4 (List.map V.cells x22.l)])) (g0 rfl) rfl rfl rfl ?_
        obtain ⟨x24, h25, h⟩ := bind_some h
        refine o_ca (fc_answer_things_Member _ 22 [] _ fc_answer_Read_c1 ⟨_, Try.func22, rfl, rfl⟩ _ h25) (g0 rfl) rfl rfl rfl rfl rfl rfl rfl (.cons (.refl _) (.cons (.t (.d (.fn _))) .nil)) rfl rfl ?_
        refine o_s (.tup [.d (.seq 2 (List.map cS_api_Member x24.1)), .d (.lit (.bool x24.2))]) (g0 rfl) rfl rfl rfl ?_
        refine o_s (.t (.d (.seq 2 (List.map cS_api_Member x24.1)))) (g0 rfl) rfl rfl rfl ?_
        refine o_s (.t (.d (.lit (.bool x24.2)))) (g0 rfl) rfl rfl rfl ?_
        refine o_s (.ref 8 5) (g0 rfl) rfl rfl rfl ?_
        refine o_st (.box [.d (.lit (.int .i64 x10.n)), .d (.lit (.int .i64 x12.n)), .d (.lit (.string ⟨⟨x14.b⟩⟩)), .d (.seq 1 (bytesD x16.b)), .d (.seq 1 (List.map cStr x20.1)), .d (.seq 2 (List.map cS_api_Member x24.1)), .d (.lit (.slice none 0 0))]) (g0 rfl) rfl rfl rfl ?_
        refine o_s (.t (.d (.lit (.bool x24.2)))) (g0 rfl) rfl rfl rfl ?_
        refine o_nil ?_
        repeat (first | refine then_normal ?_ | refine then_exit ?_ | refine then_ret ?_ | refine block_normal ?_ | refine block_ret ?_ | refine block_exit ?_ | refine block_pass rfl ?_)
        refine c_seq ?_
        refine c_region ?_
        refine o_s (.t (.d (.seq 4 (List.map V.cells x4.1)))) (g0 rfl) rfl rfl rfl ?_
        obtain ⟨x26, h27, h⟩ := bind_some h
        refine o_c (g0 rfl) rfl rfl rfl (idxE' V.cells_eq h27) (idxC h27) ?_
        refine o_s (.t (.agg [.lit (.int .i64 x26.k), .lit (.int .i64 x26.n), .seq 1 (bytesD x26.b), .seq 4 (List.map V.cells x26.l)])) (g0 rfl) rfl rfl rfl ?_
        obtain ⟨x28, h29, h⟩ := bind_some h
        refine o_ca (fc_answer_things_Past _ 24 [] _ fc_answer_Read_c2 ⟨_, Try.func24, rfl, rfl⟩ _ h29) (g0 rfl) rfl rfl rfl rfl rfl rfl rfl (.cons (.refl _) (.cons (.t (.d (.fn _))) .nil)) rfl rfl ?_
        refine o_s (.tup [.d (.seq 4 (List.map cS_api_Past x28.1)), .d (.lit (.bool x28.2))]) (g0 rfl) rfl rfl rfl ?_
        refine o_s (.t (.d (.seq 4 (List.map cS_api_Past x28.1)))) (g0 rfl) rfl rfl rfl ?_
        refine o_s (.t (.d (.lit (.bool x28.2)))) (g0 rfl) rfl rfl rfl ?_
        refine o_s (.ref 8 6) (g0 rfl) rfl rfl rfl ?_
        refine o_st (.box [.d (.lit (.int .i64 x10.n)), .d (.lit (.int .i64 x12.n)), .d (.lit (.string ⟨⟨x14.b⟩⟩)), .d (.seq 1 (bytesD x16.b)), .d (.seq 1 (List.map cStr x20.1)), .d (.seq 2 (List.map cS_api_Member x24.1)), .d (.seq 4 (List.map cS_api_Past x28.1))]) (g0 rfl) rfl rfl rfl ?_
        refine o_s (.t (.d (.lit (.bool x28.2)))) (g0 rfl) rfl rfl rfl ?_
        refine o_nil ?_
        repeat (first | refine then_normal ?_ | refine then_exit ?_ | refine then_ret ?_ | refine block_normal ?_ | refine block_ret ?_ | refine block_exit ?_ | refine block_pass rfl ?_)
        refine c_seq ?_
        refine c_seq ?_
        refine c_region ?_
        refine o_s (.t (.d (.lit (.bool x20.2)))) (g0 rfl) rfl rfl rfl ?_
        refine o_s (.t (.d (.lit (.bool (!x20.2))))) (g0 rfl) rfl rfl rfl ?_
        refine o_s (.t (.d (.lit (.bool (!x20.2))))) (g0 rfl) rfl rfl rfl ?_
        rcases bif_some h with ⟨h30, h⟩ | ⟨h30, h⟩
        · refine o_skip rfl rfl rfl h30 rfl rfl ?_
          refine o_skip rfl rfl rfl h30 rfl rfl ?_
          refine o_pk (.t (.d (.lit (.bool true)))) (b := true) h30 (g0 rfl) rfl rfl rfl rfl rfl ?_
          refine o_s (.t (.d (.lit (.bool true)))) (g0 rfl) rfl rfl rfl ?_
          refine o_skip rfl rfl rfl rfl rfl rfl ?_
          refine o_skip rfl rfl rfl rfl rfl rfl ?_
          refine o_pk (.t (.d (.lit (.bool true)))) (b := true) rfl (g0 rfl) rfl rfl rfl rfl rfl ?_
          refine o_s (.t (.d (.lit (.bool true)))) (g0 rfl) rfl rfl rfl ?_
          refine o_skip rfl rfl rfl rfl rfl rfl ?_
          refine o_skip rfl rfl rfl rfl rfl rfl ?_
          refine o_skip rfl rfl rfl rfl rfl rfl ?_
          refine o_pk (.t (.d (.lit (.bool true)))) (b := true) rfl (g0 rfl) rfl rfl rfl rfl rfl ?_
          refine o_nil ?_
          repeat (first | refine then_normal ?_ | refine then_exit ?_ | refine then_ret ?_ | refine block_normal ?_ | refine block_ret ?_ | refine block_exit ?_ | refine block_pass rfl ?_)
          refine c_t rfl rfl ?_
          refine c_seq ?_
          refine c_region ?_
          refine o_s (.t (.agg [.lit (.int .i64 0), .lit (.int .i64 0), .lit (.string ⟨⟨[]⟩⟩), .lit (.slice none 0 0), .lit (.slice none 0 0), .lit (.slice none 0 0), .lit (.slice none 0 0)])) (g0 rfl) rfl rfl rfl ?_
          refine o_st (.box [.d (.lit (.int .i64 0)), .d (.lit (.int .i64 0)), .d (.lit (.string ⟨⟨[]⟩⟩)), .d (.lit (.slice none 0 0)), .d (.lit (.slice none 0 0)), .d (.lit (.slice none 0 0)), .d (.lit (.slice none 0 0))]) (g0 rfl) rfl rfl rfl ?_
          refine o_s (.t (.d (.lit (.int .i64 11)))) (g0 rfl) rfl rfl rfl ?_
          refine o_nil ?_
          repeat (first | refine then_normal ?_ | refine then_exit ?_ | refine then_ret ?_ | refine block_normal ?_ | refine block_ret ?_ | refine block_exit ?_ | refine block_pass rfl ?_)
          refine c_ret ?_
          repeat (first | refine then_normal ?_ | refine then_exit ?_ | refine then_ret ?_ | refine block_normal ?_ | refine block_ret ?_ | refine block_exit ?_ | refine block_pass rfl ?_)
          obtain rfl := Option.some.inj h
          exact end0 rfl (.tup (.cons (.agg (.cons (.refl _) (.cons (.refl _) (.cons (.refl _) (.cons (.nil _) (.cons (.nil _) (.cons (.nil _) (.cons (.nil _) .nil)))))))) (.cons (.refl _) .nil)))
        · refine o_s (.t (.d (.lit (.bool x24.2)))) (gy rfl rfl rfl h30) rfl rfl rfl ?_
          refine o_s (.t (.d (.lit (.bool (!x24.2))))) (gy rfl rfl rfl h30) rfl rfl rfl ?_
          refine o_pk (.t (.d (.lit (.bool (!x24.2))))) (b := false) h30 (g0 rfl) rfl rfl rfl rfl rfl ?_
          refine o_s (.t (.d (.lit (.bool (!x24.2))))) (g0 rfl) rfl rfl rfl ?_
          rcases bif_some h with ⟨h31, h⟩ | ⟨h31, h⟩
          · refine o_skip rfl rfl rfl h31 rfl rfl ?_
            refine o_skip rfl rfl rfl h31 rfl rfl ?_
            refine o_pk (.t (.d (.lit (.bool true)))) (b := true) h31 (g0 rfl) rfl rfl rfl rfl rfl ?_
            refine o_s (.t (.d (.lit (.bool true)))) (g0 rfl) rfl rfl rfl ?_
            refine o_skip rfl rfl rfl rfl rfl rfl ?_
            refine o_skip rfl rfl rfl rfl rfl rfl ?_
            refine o_skip rfl rfl rfl rfl rfl rfl ?_
            refine o_pk (.t (.d (.lit (.bool true)))) (b := true) rfl (g0 rfl) rfl rfl rfl rfl rfl ?_
            refine o_nil ?_
            repeat (first | refine then_normal ?_ | refine then_exit ?_ | refine then_ret ?_ | refine block_normal ?_ | refine block_ret ?_ | refine block_exit ?_ | refine block_pass rfl ?_)
            refine c_t rfl rfl ?_
            refine c_seq ?_
            refine c_region ?_
            refine o_s (.t (.agg [.lit (.int .i64 0), .lit (.int .i64 0), .lit (.string ⟨⟨[]⟩⟩), .lit (.slice none 0 0), .lit (.slice none 0 0), .lit (.slice none 0 0), .lit (.slice none 0 0)])) (g0 rfl) rfl rfl rfl ?_
            refine o_st (.box [.d (.lit (.int .i64 0)), .d (.lit (.int .i64 0)), .d (.lit (.string ⟨⟨[]⟩⟩)), .d (.lit (.slice none 0 0)), .d (.lit (.slice none 0 0)), .d (.lit (.slice none 0 0)), .d (.lit (.slice none 0 0))]) (g0 rfl) rfl rfl rfl ?_
            refine o_s (.t (.d (.lit (.int .i64 11)))) (g0 rfl) rfl rfl rfl ?_
            refine o_nil ?_
            repeat (first | refine then_normal ?_ | refine then_exit ?_ | refine then_ret ?_ | refine block_normal ?_ | refine block_ret ?_ | refine block_exit ?_ | refine block_pass rfl ?_)
            refine c_ret ?_
            repeat (first | refine then_normal ?_ | refine then_exit ?_ | refine then_ret ?_ | refine block_normal ?_ | refine block_ret ?_ | refine block_exit ?_ | refine block_pass rfl ?_)
            obtain rfl := Option.some.inj h
            exact end0 rfl (.tup (.cons (.agg (.cons (.refl _) (.cons (.refl _) (.cons (.refl _) (.cons (.nil _) (.cons (.nil _) (.cons (.nil _) (.cons (.nil _) .nil)))))))) (.cons (.refl _) .nil)))
          · refine o_s (.t (.d (.lit (.bool x28.2)))) (gy rfl rfl rfl h31) rfl rfl rfl ?_
            refine o_s (.t (.d (.lit (.bool (!x28.2))))) (gy rfl rfl rfl h31) rfl rfl rfl ?_
            refine o_pk (.t (.d (.lit (.bool (!x28.2))))) (b := false) h31 (g0 rfl) rfl rfl rfl rfl rfl ?_
            refine o_s (.t (.d (.lit (.bool (!x28.2))))) (g0 rfl) rfl rfl rfl ?_
            rcases bif_some h with ⟨h32, h⟩ | ⟨h32, h⟩
            · refine o_skip rfl rfl rfl h32 rfl rfl ?_
              refine o_skip rfl rfl rfl h32 rfl rfl ?_
              refine o_skip rfl rfl rfl h32 rfl rfl ?_
              refine o_pk (.t (.d (.lit (.bool true)))) (b := true) h32 (g0 rfl) rfl rfl rfl rfl rfl ?_
              refine o_nil ?_
              repeat (first | refine then_normal ?_ | refine then_exit ?_ | refine then_ret ?_ | refine block_normal ?_ | refine block_ret ?_ | refine block_exit ?_ | refine block_pass rfl ?_)
              refine c_t rfl rfl ?_
              refine c_seq ?_
              refine c_region ?_
              refine o_s (.t (.agg [.lit (.int .i64 0), .lit (.int .i64 0), .lit (.string ⟨⟨[]⟩⟩), .lit (.slice none 0 0), .lit (.slice none 0 0), .lit (.slice none 0 0), .lit (.slice none 0 0)])) (g0 rfl) rfl rfl rfl ?_
              refine o_st (.box [.d (.lit (.int .i64 0)), .d (.lit (.int .i64 0)), .d (.lit (.string ⟨⟨[]⟩⟩)), .d (.lit (.slice none 0 0)), .d (.lit (.slice none 0 0)), .d (.lit (.slice none 0 0)), .d (.lit (.slice none 0 0))]) (g0 rfl) rfl rfl rfl ?_
              refine o_s (.t (.d (.lit (.int .i64 11)))) (g0 rfl) rfl rfl rfl ?_
              refine o_nil ?_
              repeat (first | refine then_normal ?_ | refine then_exit ?_ | refine then_ret ?_ | refine block_normal ?_ | refine block_ret ?_ | refine block_exit ?_ | refine block_pass rfl ?_)
              refine c_ret ?_
              repeat (first | refine then_normal ?_ | refine then_exit ?_ | refine then_ret ?_ | refine block_normal ?_ | refine block_ret ?_ | refine block_exit ?_ | refine block_pass rfl ?_)
              obtain rfl := Option.some.inj h
              exact end0 rfl (.tup (.cons (.agg (.cons (.refl _) (.cons (.refl _) (.cons (.refl _) (.cons (.nil _) (.cons (.nil _) (.cons (.nil _) (.cons (.nil _) .nil)))))))) (.cons (.refl _) .nil)))
            · refine o_s (.t (.agg [.lit (.int .i64 x10.n), .lit (.int .i64 x12.n), .lit (.string ⟨⟨x14.b⟩⟩), .seq 1 (bytesD x16.b), .seq 1 (List.map cStr x20.1), .seq 2 (List.map cS_api_Member x24.1), .seq 4 (List.map cS_api_Past x28.1)])) (gy rfl rfl rfl h32) rfl rfl rfl ?_
              obtain ⟨x33, h34, h⟩ := bind_some h
              refine o_ca (fc_answer_May _ _ h34) (gy rfl rfl rfl h32) rfl rfl rfl rfl rfl rfl rfl (.cons (.refl _) .nil) rfl rfl ?_
              refine o_s (.t (.d (.lit (.bool (!x33))))) (gy rfl rfl rfl h32) rfl rfl rfl ?_
              refine o_pk (.t (.d (.lit (.bool (!x33))))) (b := false) h32 (g0 rfl) rfl rfl rfl rfl rfl ?_
              refine o_nil ?_
              repeat (first | refine then_normal ?_ | refine then_exit ?_ | refine then_ret ?_ | refine block_normal ?_ | refine block_ret ?_ | refine block_exit ?_ | refine block_pass rfl ?_)
              rcases bif_some h with ⟨h35, h⟩ | ⟨h35, h⟩
              · refine c_t h35 rfl ?_
                refine c_seq ?_
                refine c_region ?_
                refine o_s (.t (.agg [.lit (.int .i64 0), .lit (.int .i64 0), .lit (.string ⟨⟨[]⟩⟩), .lit (.slice none 0 0), .lit (.slice none 0 0), .lit (.slice none 0 0), .lit (.slice none 0 0)])) (g0 rfl) rfl rfl rfl ?_
                refine o_st (.box [.d (.lit (.int .i64 0)), .d (.lit (.int .i64 0)), .d (.lit (.string ⟨⟨[]⟩⟩)), .d (.lit (.slice none 0 0)), .d (.lit (.slice none 0 0)), .d (.lit (.slice none 0 0)), .d (.lit (.slice none 0 0))]) (g0 rfl) rfl rfl rfl ?_
                refine o_s (.t (.d (.lit (.int .i64 11)))) (g0 rfl) rfl rfl rfl ?_
                refine o_nil ?_
                repeat (first | refine then_normal ?_ | refine then_exit ?_ | refine then_ret ?_ | refine block_normal ?_ | refine block_ret ?_ | refine block_exit ?_ | refine block_pass rfl ?_)
                refine c_ret ?_
                repeat (first | refine then_normal ?_ | refine then_exit ?_ | refine then_ret ?_ | refine block_normal ?_ | refine block_ret ?_ | refine block_exit ?_ | refine block_pass rfl ?_)
                obtain rfl := Option.some.inj h
                exact end0 rfl (.tup (.cons (.agg (.cons (.refl _) (.cons (.refl _) (.cons (.refl _) (.cons (.nil _) (.cons (.nil _) (.cons (.nil _) (.cons (.nil _) .nil)))))))) (.cons (.refl _) .nil)))
              · refine c_f h35 rfl ?_
                refine c_skip ?_
                repeat (first | refine then_normal ?_ | refine then_exit ?_ | refine then_ret ?_ | refine block_normal ?_ | refine block_ret ?_ | refine block_exit ?_ | refine block_pass rfl ?_)
                refine c_seq ?_
                refine c_region ?_
                refine o_s (.t (.agg [.lit (.int .i64 x10.n), .lit (.int .i64 x12.n), .lit (.string ⟨⟨x14.b⟩⟩), .seq 1 (bytesD x16.b), .seq 1 (List.map cStr x20.1), .seq 2 (List.map cS_api_Member x24.1), .seq 4 (List.map cS_api_Past x28.1)])) (g0 rfl) rfl rfl rfl ?_
                refine o_st (.box [.d (.lit (.int .i64 x10.n)), .d (.lit (.int .i64 x12.n)), .d (.lit (.string ⟨⟨x14.b⟩⟩)), .d (.seq 1 (bytesD x16.b)), .d (.seq 1 (List.map cStr x20.1)), .d (.seq 2 (List.map cS_api_Member x24.1)), .d (.seq 4 (List.map cS_api_Past x28.1))]) (g0 rfl) rfl rfl rfl ?_
                refine o_s (.t (.d (.lit (.int .i64 0)))) (g0 rfl) rfl rfl rfl ?_
                refine o_nil ?_
                repeat (first | refine then_normal ?_ | refine then_exit ?_ | refine then_ret ?_ | refine block_normal ?_ | refine block_ret ?_ | refine block_exit ?_ | refine block_pass rfl ?_)
                refine c_ret ?_
                repeat (first | refine then_normal ?_ | refine then_exit ?_ | refine then_ret ?_ | refine block_normal ?_ | refine block_ret ?_ | refine block_exit ?_ | refine block_pass rfl ?_)
                obtain rfl := Option.some.inj h
                exact end0 rfl (.tup (.cons (.refl _) (.cons (.refl _) .nil)))

theorem fc_R28_Raw (p0 : (List UInt8)) (r : V) (h : m_R28_Raw p0 = some r) : FC Try.prog 54 [.t (.d (.seq 1 (bytesD p0)))] [] (.t (.agg [.lit (.int .i64 r.k), .lit (.int .i64 r.n), .seq 1 (bytesD r.b), .lit (.slice none 0 0)])) := by
  refine fc_mk (rs := [.cell 2 49]) (n := 5) Try.func54 rfl rfl (Nat.le_of_ble_eq_true rfl) rfl (pins := []) rfl (L := [(0, .t (.d (.seq 1 (bytesD p0))))]) rfl ?_
  refine c_seq ?_
  refine c_region ?_
  refine o_s (.box [.d (.lit (.int .i64 0)), .d (.lit (.int .i64 0)), .d (.lit (.slice none 0 0)), .d (.lit (.slice none 0 0))]) (g0 rfl) rfl rfl rfl ?_
  refine o_nil ?_
  repeat (first | refine then_normal ?_ | refine then_exit ?_ | refine then_ret ?_ | refine block_normal ?_ | refine block_ret ?_ | refine block_exit ?_ | refine block_pass rfl ?_)
  refine c_seq ?_
  refine c_region ?_
  refine o_s (.t (.d (.seq 1 (bytesD p0)))) (g0 rfl) rfl rfl rfl ?_
  refine o_s (.t (.agg [.lit (.int .i64 2), .lit (.int .i64 0), .seq 1 (bytesD p0), .lit (.slice none 0 0)])) (g0 rfl) rfl rfl rfl ?_
  refine o_st (.box [.d (.lit (.int .i64 2)), .d (.lit (.int .i64 0)), .d (.seq 1 (bytesD p0)), .d (.lit (.slice none 0 0))]) (g0 rfl) rfl rfl rfl ?_
  refine o_nil ?_
  repeat (first | refine then_normal ?_ | refine then_exit ?_ | refine then_ret ?_ | refine block_normal ?_ | refine block_ret ?_ | refine block_exit ?_ | refine block_pass rfl ?_)
  refine c_ret ?_
  repeat (first | refine then_normal ?_ | refine then_exit ?_ | refine then_ret ?_ | refine block_normal ?_ | refine block_ret ?_ | refine block_exit ?_ | refine block_pass rfl ?_)
  obtain rfl := Option.some.inj h
  exact end0 rfl (.refl _)

theorem fc_R28_Of (p0 : (List V)) (r : V) (h : m_R28_Of p0 = some r) : FC Try.prog 55 [.t (.d (.seq 4 (List.map V.cells p0)))] [] (.t (.agg [.lit (.int .i64 r.k), .lit (.int .i64 r.n), .lit (.slice none 0 0), .seq 4 (List.map V.cells r.l)])) := by
  refine fc_mk (rs := [.cell 2 49]) (n := 5) Try.func55 rfl rfl (Nat.le_of_ble_eq_true rfl) rfl (pins := []) rfl (L := [(0, .t (.d (.seq 4 (List.map V.cells p0))))]) rfl ?_
  refine c_seq ?_
  refine c_region ?_
  refine o_s (.box [.d (.lit (.int .i64 0)), .d (.lit (.int .i64 0)), .d (.lit (.slice none 0 0)), .d (.lit (.slice none 0 0))]) (g0 rfl) rfl rfl rfl ?_
  refine o_nil ?_
  repeat (first | refine then_normal ?_ | refine then_exit ?_ | refine then_ret ?_ | refine block_normal ?_ | refine block_ret ?_ | refine block_exit ?_ | refine block_pass rfl ?_)
  refine c_seq ?_
  refine c_region ?_
  refine o_s (.t (.d (.seq 4 (List.map V.cells p0)))) (g0 rfl) rfl rfl rfl ?_
  refine o_s (.t (.agg [.lit (.int .i64 3), .lit (.int .i64 0), .lit (.slice none 0 0), .seq 4 (List.map V.cells p0)])) (g0 rfl) rfl rfl rfl ?_
  refine o_st (.box [.d (.lit (.int .i64 3)), .d (.lit (.int .i64 0)), .d (.lit (.slice none 0 0)), .d (.seq 4 (List.map V.cells p0))]) (g0 rfl) rfl rfl rfl ?_
  refine o_nil ?_
  repeat (first | refine then_normal ?_ | refine then_exit ?_ | refine then_ret ?_ | refine block_normal ?_ | refine block_ret ?_ | refine block_exit ?_ | refine block_pass rfl ?_)
  refine c_ret ?_
  repeat (first | refine then_normal ?_ | refine then_exit ?_ | refine then_ret ?_ | refine block_normal ?_ | refine block_ret ?_ | refine block_exit ?_ | refine block_pass rfl ?_)
  obtain rfl := Option.some.inj h
  exact end0 rfl (.refl _)

theorem fc_R28_Num (p0 : Int) (r : V) (h : m_R28_Num p0 = some r) : FC Try.prog 56 [.t (.d (.lit (.int .i64 p0)))] [] (.t (.agg [.lit (.int .i64 r.k), .lit (.int .i64 r.n), .lit (.slice none 0 0), .lit (.slice none 0 0)])) := by
  refine fc_mk (rs := [.cell 2 49]) (n := 5) Try.func56 rfl rfl (Nat.le_of_ble_eq_true rfl) rfl (pins := []) rfl (L := [(0, .t (.d (.lit (.int .i64 p0))))]) rfl ?_
  refine c_seq ?_
  refine c_region ?_
  refine o_s (.box [.d (.lit (.int .i64 0)), .d (.lit (.int .i64 0)), .d (.lit (.slice none 0 0)), .d (.lit (.slice none 0 0))]) (g0 rfl) rfl rfl rfl ?_
  refine o_nil ?_
  repeat (first | refine then_normal ?_ | refine then_exit ?_ | refine then_ret ?_ | refine block_normal ?_ | refine block_ret ?_ | refine block_exit ?_ | refine block_pass rfl ?_)
  refine c_seq ?_
  refine c_region ?_
  refine o_s (.t (.d (.lit (.int .i64 p0)))) (g0 rfl) rfl rfl rfl ?_
  refine o_s (.t (.agg [.lit (.int .i64 1), .lit (.int .i64 p0), .lit (.slice none 0 0), .lit (.slice none 0 0)])) (g0 rfl) rfl rfl rfl ?_
  refine o_st (.box [.d (.lit (.int .i64 1)), .d (.lit (.int .i64 p0)), .d (.lit (.slice none 0 0)), .d (.lit (.slice none 0 0))]) (g0 rfl) rfl rfl rfl ?_
  refine o_nil ?_
  repeat (first | refine then_normal ?_ | refine then_exit ?_ | refine then_ret ?_ | refine block_normal ?_ | refine block_ret ?_ | refine block_exit ?_ | refine block_pass rfl ?_)
  refine c_ret ?_
  repeat (first | refine then_normal ?_ | refine then_exit ?_ | refine then_ret ?_ | refine block_normal ?_ | refine block_ret ?_ | refine block_exit ?_ | refine block_pass rfl ?_)
  obtain rfl := Option.some.inj h
  exact end0 rfl (.refl _)

end Go.Proofs.Yteopjhakjeknaaa
