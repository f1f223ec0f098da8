/-
  Walks of functions: each function does what its model tells. Printed by a program of this claim's own (gen.py) off the given translation.
-/
import Derived.Test.YteopjhakjeknaaaAkM
import Derived.Test.YteopjhakjeknaaaCbW
import Derived.Test.YteopjhakjeknaaaClo
import Derived.Test.YteopjhakjeknaaaAkWa
namespace Go.Proofs.Yteopjhakjeknaaa
open Go Go.RowKit
set_option linter.unusedVariables false
set_option maxHeartbeats 4000000
set_option maxRecDepth 20000
theorem fc_R31_Bytes (p0 : S_api_Answer) (r : (List UInt8)) (h : m_R31_Bytes p0 = some r) : FC Try.prog 29 [.t (.agg [.lit (.int .i64 p0.Err), .lit (.int .i64 p0.Number), .lit (.string ⟨⟨p0.By⟩⟩), .seq 1 (bytesD p0.Data), .seq 1 (List.map cStr p0.Names), .seq 2 (List.map cS_api_Member p0.Members), .seq 4 (List.map cS_api_Past p0.History)])] [] (.t (.own 5 1 (bytesD r))) := by
  refine fc_mk (rs := [.tmp 2]) (n := 108) Try.func29 rfl rfl (Nat.le_of_ble_eq_true rfl) rfl (pins := []) rfl (L := [(0, .t (.agg [.lit (.int .i64 p0.Err), .lit (.int .i64 p0.Number), .lit (.string ⟨⟨p0.By⟩⟩), .seq 1 (bytesD p0.Data), .seq 1 (List.map cStr p0.Names), .seq 2 (List.map cS_api_Member p0.Members), .seq 4 (List.map cS_api_Past p0.History)]))]) rfl ?_
  refine c_seq ?_
  refine c_region ?_
  refine o_s (.box [.d (.lit (.int .i64 p0.Err)), .d (.lit (.int .i64 p0.Number)), .d (.lit (.string ⟨⟨p0.By⟩⟩)), .d (.seq 1 (bytesD p0.Data)), .d (.seq 1 (List.map cStr p0.Names)), .d (.seq 2 (List.map cS_api_Member p0.Members)), .d (.seq 4 (List.map cS_api_Past p0.History))]) (g0 rfl) rfl rfl rfl ?_
  refine o_s (.t (.d (.lit (.slice none 0 0)))) (g0 rfl) rfl rfl rfl ?_
  refine o_nil ?_
  repeat (first | refine then_normal ?_ | refine then_exit ?_ | refine then_ret ?_ | refine block_normal ?_ | refine block_ret ?_ | refine block_exit ?_ | refine block_pass rfl ?_)
  refine c_seq ?_
  refine c_region ?_
  refine o_s (.t (.d (.lit (.slice none 0 0)))) (g0 rfl) rfl rfl rfl ?_
  refine o_nil ?_
  repeat (first | refine then_normal ?_ | refine then_exit ?_ | refine then_ret ?_ | refine block_normal ?_ | refine block_ret ?_ | refine block_exit ?_ | refine block_pass rfl ?_)
  refine c_cut (fun (y1 : (List V)) => [(1, .box [.d (.lit (.int .i64 p0.Err)), .d (.lit (.int .i64 p0.Number)), .d (.lit (.string ⟨⟨p0.By⟩⟩)), .d (.seq 1 (bytesD p0.Data)), .d (.seq 1 (List.map cStr p0.Names)), .d (.seq 2 (List.map cS_api_Member p0.Members)), .d (.seq 4 (List.map cS_api_Past p0.History))]), (3, .t (.own 49 4 (List.map V.cells y1)))]) (fun (y1 : (List V)) => m_R31_Bytes_j1 p0 y1 = some r) ?_ ?_
  · refine c_seq ?_
    refine c_region ?_
    refine o_s (.t (.d (.lit (.int .i64 0)))) (g0 rfl) rfl rfl rfl ?_
    refine o_nil ?_
    repeat (first | refine then_normal ?_ | refine then_exit ?_ | refine then_ret ?_ | refine block_normal ?_ | refine block_ret ?_ | refine block_exit ?_ | refine block_pass rfl ?_)
    refine c_block ?_
    refine c_fuel (fun (q : (List V) × Int) => [(1, .box [.d (.lit (.int .i64 p0.Err)), .d (.lit (.int .i64 p0.Number)), .d (.lit (.string ⟨⟨p0.By⟩⟩)), .d (.seq 1 (bytesD p0.Data)), .d (.seq 1 (List.map cStr p0.Names)), .d (.seq 2 (List.map cS_api_Member p0.Members)), .d (.seq 4 (List.map cS_api_Past p0.History))]), (3, .t (.own 49 4 (List.map V.cells q.1))), (4, .t (.d (.lit (.int .i64 q.2))))]) (fun nl7 => (fun (q : (List V) × Int) => m_R31_Bytes_l7 p0 nl7 q.1 q.2 = some r)) (p0.Names.length + 1) ([], 0) h ⟨(.refl _), ⟨(.t (.nilOwn _ _)), ⟨(.refl _), trivial⟩⟩⟩ rfl ?_
    rintro nl7 ⟨z62, z63⟩ h
    cases nl7 with
    | zero => exact none_ne h
    | succ nl7 =>
      refine c_seq ?_
      refine c_seq ?_
      refine c_region ?_
      refine o_s (.t (.d (.lit (.int .i64 z63)))) (g0 rfl) rfl rfl rfl ?_
      refine o_s (.ref 1 4) (g0 rfl) rfl rfl rfl ?_
      refine o_s (.t (.d (.seq 1 (List.map cStr p0.Names)))) (g0 rfl) rfl rfl rfl ?_
      refine o_c (g0 rfl) rfl rfl rfl (lenE _ _) trivial ?_
      refine o_s (.t (.d (.lit (.bool (decide (z63 < (p0.Names.length : Int))))))) (g0 rfl) rfl rfl rfl ?_
      refine o_nil ?_
      repeat (first | refine then_normal ?_ | refine then_exit ?_ | refine then_ret ?_ | refine block_normal ?_ | refine block_ret ?_ | refine block_exit ?_ | refine block_pass rfl ?_)
      rcases bif_some h with ⟨h64, h⟩ | ⟨h64, h⟩
      · refine c_t h64 rfl ?_
        refine c_skip ?_
        repeat (first | refine then_normal ?_ | refine then_exit ?_ | refine then_ret ?_ | refine block_normal ?_ | refine block_ret ?_ | refine block_exit ?_ | refine block_pass rfl ?_)
        refine c_seq ?_
        refine c_block ?_
        refine c_region ?_
        refine o_2 (.t (.d (.seq 4 (List.map V.cells z62)))) (.t (.own 49 4 (List.map V.cells z62))) (g0 rfl) rfl rfl rfl ?_
        refine o_s (.ref 1 4) (g0 rfl) rfl rfl rfl ?_
        refine o_s (.t (.d (.seq 1 (List.map cStr p0.Names)))) (g0 rfl) rfl rfl rfl ?_
        refine o_s (.t (.d (.lit (.int .i64 z63)))) (g0 rfl) rfl rfl rfl ?_
        obtain ⟨x65, h66, h⟩ := bind_some h
        refine o_c (g0 rfl) rfl rfl rfl (idxE h66) (idxC h66) ?_
        refine o_s (.t (.d (.lit (.string ⟨⟨x65⟩⟩)))) (g0 rfl) rfl rfl rfl ?_
        obtain ⟨x67, h68, h⟩ := bind_some h
        refine o_c (g0 rfl) rfl rfl rfl (strBE h68) (strBC h68) ?_
        obtain ⟨x69, h70, h⟩ := bind_some h
        refine o_ca (fc_R28_Raw _ _ h70) (g0 rfl) rfl rfl rfl rfl rfl rfl rfl (.cons (.refl _) .nil) rfl rfl ?_
        refine o_w (.t (.own 49 4 (List.map V.cells [(V.mk x69.k x69.n x69.b [])]))) (g0 rfl) rfl rfl rfl (.t (.rows _ _ (.cons (.cons (.refl _) (.cons (.refl _) (.cons (.refl _) (.cons (.nil _) .nil)))) .nil) (rowsE V.cells_eq [(V.mk x69.k x69.n x69.b [])]))) (fun e => nomatch e) ?_
        obtain ⟨x71, h72, h⟩ := bind_some h
        refine o_2c (g0 rfl) rfl rfl rfl (appE (c := V.cells) h72) (appC (c := V.cells) h72) ?_
        refine o_2 (.t (.d (.seq 4 (List.map V.cells x71)))) (.t (.own 49 4 (List.map V.cells x71))) (g0 rfl) rfl rfl rfl ?_
        refine o_nil ?_
        repeat (first | refine then_normal ?_ | refine then_exit ?_ | refine then_ret ?_ | refine block_normal ?_ | refine block_ret ?_ | refine block_exit ?_ | refine block_pass rfl ?_)
        refine c_region ?_
        refine o_s (.t (.d (.lit (.int .i64 z63)))) (g0 rfl) rfl rfl rfl ?_
        refine o_s (.t (.d (.lit (.int .i64 (wi (z63 + 1)))))) (g0 rfl) rfl rfl rfl ?_
        refine o_s (.t (.d (.lit (.int .i64 (wi (z63 + 1)))))) (g0 rfl) rfl rfl rfl ?_
        refine o_nil ?_
        repeat (first | refine then_normal ?_ | refine then_exit ?_ | refine then_ret ?_ | refine block_normal ?_ | refine block_ret ?_ | refine block_exit ?_ | refine block_pass rfl ?_)
        exact ⟨nl7, (x71, (wi (z63 + 1))), Nat.lt_succ_self nl7, h, ⟨(.refl _), ⟨(.refl _), ⟨(.refl _), trivial⟩⟩⟩, rfl⟩
      · refine c_f h64 rfl ?_
        refine c_exit ?_
        repeat (first | refine then_normal ?_ | refine then_exit ?_ | refine then_ret ?_ | refine block_normal ?_ | refine block_ret ?_ | refine block_exit ?_ | refine block_pass rfl ?_)
        exact ⟨z62, h, ⟨(.refl _), ⟨(.refl _), trivial⟩⟩, rfl⟩
  · rintro y1 h
    refine c_seq ?_
    refine c_region ?_
    refine o_s (.t (.d (.lit (.slice none 0 0)))) (g0 rfl) rfl rfl rfl ?_
    refine o_nil ?_
    repeat (first | refine then_normal ?_ | refine then_exit ?_ | refine then_ret ?_ | refine block_normal ?_ | refine block_ret ?_ | refine block_exit ?_ | refine block_pass rfl ?_)
    refine c_cut (fun (y2 : (List V)) => [(1, .box [.d (.lit (.int .i64 p0.Err)), .d (.lit (.int .i64 p0.Number)), .d (.lit (.string ⟨⟨p0.By⟩⟩)), .d (.seq 1 (bytesD p0.Data)), .d (.seq 1 (List.map cStr p0.Names)), .d (.seq 2 (List.map cS_api_Member p0.Members)), .d (.seq 4 (List.map cS_api_Past p0.History))]), (3, .t (.own 49 4 (List.map V.cells y1))), (5, .t (.own 49 4 (List.map V.cells y2)))]) (fun (y2 : (List V)) => m_R31_Bytes_j2 p0 y1 y2 = some r) ?_ ?_
    · refine c_seq ?_
      refine c_region ?_
      refine o_s (.t (.d (.lit (.int .i64 0)))) (g0 rfl) rfl rfl rfl ?_
      refine o_nil ?_
      repeat (first | refine then_normal ?_ | refine then_exit ?_ | refine then_ret ?_ | refine block_normal ?_ | refine block_ret ?_ | refine block_exit ?_ | refine block_pass rfl ?_)
      refine c_block ?_
      refine c_fuel (fun (q : (List V) × Int) => [(1, .box [.d (.lit (.int .i64 p0.Err)), .d (.lit (.int .i64 p0.Number)), .d (.lit (.string ⟨⟨p0.By⟩⟩)), .d (.seq 1 (bytesD p0.Data)), .d (.seq 1 (List.map cStr p0.Names)), .d (.seq 2 (List.map cS_api_Member p0.Members)), .d (.seq 4 (List.map cS_api_Past p0.History))]), (3, .t (.own 49 4 (List.map V.cells y1))), (5, .t (.own 49 4 (List.map V.cells q.1))), (6, .t (.d (.lit (.int .i64 q.2))))]) (fun nl6 => (fun (q : (List V) × Int) => m_R31_Bytes_l6 p0 y1 nl6 q.1 q.2 = some r)) (p0.Members.length + 1) ([], 0) h ⟨(.refl _), ⟨(.refl _), ⟨(.t (.nilOwn _ _)), ⟨(.refl _), trivial⟩⟩⟩⟩ rfl ?_
      rintro nl6 ⟨z45, z46⟩ h
      cases nl6 with
      | zero => exact none_ne h
      | succ nl6 =>
        refine c_seq ?_
        refine c_seq ?_
        refine c_region ?_
        refine o_s (.t (.d (.lit (.int .i64 z46)))) (g0 rfl) rfl rfl rfl ?_
        refine o_s (.ref 1 5) (g0 rfl) rfl rfl rfl ?_
        refine o_s (.t (.d (.seq 2 (List.map cS_api_Member p0.Members)))) (g0 rfl) rfl rfl rfl ?_
        refine o_c (g0 rfl) rfl rfl rfl (lenE _ _) trivial ?_
        refine o_s (.t (.d (.lit (.bool (decide (z46 < (p0.Members.length : Int))))))) (g0 rfl) rfl rfl rfl ?_
        refine o_nil ?_
        repeat (first | refine then_normal ?_ | refine then_exit ?_ | refine then_ret ?_ | refine block_normal ?_ | refine block_ret ?_ | refine block_exit ?_ | refine block_pass rfl ?_)
        rcases bif_some h with ⟨h47, h⟩ | ⟨h47, h⟩
        · refine c_t h47 rfl ?_
          refine c_skip ?_
          repeat (first | refine then_normal ?_ | refine then_exit ?_ | refine then_ret ?_ | refine block_normal ?_ | refine block_ret ?_ | refine block_exit ?_ | refine block_pass rfl ?_)
          refine c_seq ?_
          refine c_block ?_
          refine c_draw mixed (by kernel_rfl) ?_
          refine d_2 (.t (.d (.seq 4 (List.map V.cells z45)))) (.t (.own 49 4 (List.map V.cells z45))) rfl (dg0 rfl) rfl rfl rfl rfl rfl ?_
          refine d_s (.ref 1 5) rfl (dg0 rfl) rfl rfl rfl rfl ?_
          refine d_s (.t (.d (.seq 2 (List.map cS_api_Member p0.Members)))) rfl (dg0 rfl) rfl rfl rfl rfl ?_
          refine d_s (.t (.d (.lit (.int .i64 z46)))) rfl (dg0 rfl) rfl rfl rfl rfl ?_
          obtain ⟨x48, h49, h⟩ := bind_some h
          refine d_c rfl (dg0 rfl) rfl rfl rfl rfl (idxE h49) (idxC h49) ?_
          refine d_s (.imm [.lit (.string ⟨⟨x48.Name⟩⟩), .lit (.int .i64 x48.Role)]) rfl (dg0 rfl) rfl rfl rfl rfl ?_
          refine d_s (.t (.d (.lit (.string ⟨⟨x48.Name⟩⟩)))) rfl (dg0 rfl) rfl rfl rfl rfl ?_
          obtain ⟨x50, h51, h⟩ := bind_some h
          refine d_c rfl (dg0 rfl) rfl rfl rfl rfl (strBE h51) (strBC h51) ?_
          obtain ⟨x52, h53, h⟩ := bind_some h
          refine d_ca (fc_R28_Raw _ _ h53) rfl (dg0 rfl) rfl rfl rfl rfl rfl rfl rfl rfl (.cons (.refl _) .nil) rfl rfl ?_
          refine d_s (.ref 1 5) rfl (dg0 rfl) rfl rfl rfl rfl ?_
          refine d_s (.t (.d (.seq 2 (List.map cS_api_Member p0.Members)))) rfl (dg0 rfl) rfl rfl rfl rfl ?_
          refine d_s (.t (.d (.lit (.int .i64 z46)))) rfl (dg0 rfl) rfl rfl rfl rfl ?_
          obtain ⟨x54, h55, h⟩ := bind_some h
          refine d_c rfl (dg0 rfl) rfl rfl rfl rfl (idxE h55) (idxC h55) ?_
          refine d_s (.imm [.lit (.int .i64 x54.Role)]) rfl (dg0 rfl) rfl rfl rfl rfl ?_
          refine d_s (.t (.d (.lit (.int .i64 x54.Role)))) rfl (dg0 rfl) rfl rfl rfl rfl ?_
          obtain ⟨x56, h57, h⟩ := bind_some h
          refine d_ca (fc_R28_Num _ _ h57) rfl (dg0 rfl) rfl rfl rfl rfl rfl rfl rfl rfl (.cons (.refl _) .nil) rfl rfl ?_
          refine d_w (.t (.own 49 4 (List.map V.cells [(V.mk x52.k x52.n x52.b []), (V.mk x56.k x56.n [] [])]))) rfl (dg0 rfl) rfl rfl rfl rfl (.t (.rows _ _ (.cons (.cons (.refl _) (.cons (.refl _) (.cons (.refl _) (.cons (.nil _) .nil)))) (.cons (.cons (.refl _) (.cons (.refl _) (.cons (.nil _) (.cons (.nil _) .nil)))) .nil)) (rowsE V.cells_eq [(V.mk x52.k x52.n x52.b []), (V.mk x56.k x56.n [] [])]))) (fun e => nomatch e) ?_
          obtain ⟨x58, h59, h⟩ := bind_some h
          refine d_ca (fc_R28_Of _ _ h59) rfl (dg0 rfl) rfl rfl rfl rfl rfl rfl rfl rfl (.cons (.refl _) .nil) rfl rfl ?_
          refine d_w (.t (.own 49 4 (List.map V.cells [(V.mk x58.k x58.n [] x58.l)]))) rfl (dg0 rfl) rfl rfl rfl rfl (.t (.rows _ _ (.cons (.cons (.refl _) (.cons (.refl _) (.cons (.nil _) (.cons (.refl _) .nil)))) .nil) (rowsE V.cells_eq [(V.mk x58.k x58.n [] x58.l)]))) (fun e => nomatch e) ?_
          obtain ⟨x60, h61, h⟩ := bind_some h
          refine d_2c rfl (dg0 rfl) rfl rfl rfl rfl rfl (appE (c := V.cells) h61) (appC (c := V.cells) h61) ?_
          refine d_2 (.t (.d (.seq 4 (List.map V.cells x60)))) (.t (.own 49 4 (List.map V.cells x60))) rfl (dg0 rfl) rfl rfl rfl rfl rfl ?_
          refine d_nil (by kernel_rfl) ?_
          repeat (first | refine then_normal ?_ | refine then_exit ?_ | refine then_ret ?_ | refine block_normal ?_ | refine block_ret ?_ | refine block_exit ?_ | refine block_pass rfl ?_)
          refine c_region ?_
          refine o_s (.t (.d (.lit (.int .i64 z46)))) (g0 rfl) rfl rfl rfl ?_
          refine o_s (.t (.d (.lit (.int .i64 (wi (z46 + 1)))))) (g0 rfl) rfl rfl rfl ?_
          refine o_s (.t (.d (.lit (.int .i64 (wi (z46 + 1)))))) (g0 rfl) rfl rfl rfl ?_
          refine o_nil ?_
          repeat (first | refine then_normal ?_ | refine then_exit ?_ | refine then_ret ?_ | refine block_normal ?_ | refine block_ret ?_ | refine block_exit ?_ | refine block_pass rfl ?_)
          exact ⟨nl6, (x60, (wi (z46 + 1))), Nat.lt_succ_self nl6, h, ⟨(.refl _), ⟨(.refl _), ⟨(.refl _), ⟨(.refl _), trivial⟩⟩⟩⟩, rfl⟩
        · refine c_f h47 rfl ?_
          refine c_exit ?_
          repeat (first | refine then_normal ?_ | refine then_exit ?_ | refine then_ret ?_ | refine block_normal ?_ | refine block_ret ?_ | refine block_exit ?_ | refine block_pass rfl ?_)
          exact ⟨z45, h, ⟨(.refl _), ⟨(.refl _), ⟨(.refl _), trivial⟩⟩⟩, rfl⟩
    · rintro y2 h
      refine c_seq ?_
      refine c_region ?_
      refine o_s (.t (.d (.lit (.slice none 0 0)))) (g0 rfl) rfl rfl rfl ?_
      refine o_nil ?_
      repeat (first | refine then_normal ?_ | refine then_exit ?_ | refine then_ret ?_ | refine block_normal ?_ | refine block_ret ?_ | refine block_exit ?_ | refine block_pass rfl ?_)
      refine c_cut (fun (y3 : (List V)) => [(1, .box [.d (.lit (.int .i64 p0.Err)), .d (.lit (.int .i64 p0.Number)), .d (.lit (.string ⟨⟨p0.By⟩⟩)), .d (.seq 1 (bytesD p0.Data)), .d (.seq 1 (List.map cStr p0.Names)), .d (.seq 2 (List.map cS_api_Member p0.Members)), .d (.seq 4 (List.map cS_api_Past p0.History))]), (3, .t (.own 49 4 (List.map V.cells y1))), (5, .t (.own 49 4 (List.map V.cells y2))), (7, .t (.own 49 4 (List.map V.cells y3)))]) (fun (y3 : (List V)) => m_R31_Bytes_j3 p0 y1 y2 y3 = some r) ?_ ?_
      · refine c_seq ?_
        refine c_region ?_
        refine o_s (.t (.d (.lit (.int .i64 0)))) (g0 rfl) rfl rfl rfl ?_
        refine o_nil ?_
        repeat (first | refine then_normal ?_ | refine then_exit ?_ | refine then_ret ?_ | refine block_normal ?_ | refine block_ret ?_ | refine block_exit ?_ | refine block_pass rfl ?_)
        refine c_block ?_
        refine c_fuel (fun (q : (List V) × Int) => [(1, .box [.d (.lit (.int .i64 p0.Err)), .d (.lit (.int .i64 p0.Number)), .d (.lit (.string ⟨⟨p0.By⟩⟩)), .d (.seq 1 (bytesD p0.Data)), .d (.seq 1 (List.map cStr p0.Names)), .d (.seq 2 (List.map cS_api_Member p0.Members)), .d (.seq 4 (List.map cS_api_Past p0.History))]), (3, .t (.own 49 4 (List.map V.cells y1))), (5, .t (.own 49 4 (List.map V.cells y2))), (7, .t (.own 49 4 (List.map V.cells q.1))), (8, .t (.d (.lit (.int .i64 q.2))))]) (fun nl4 => (fun (q : (List V) × Int) => m_R31_Bytes_l4 p0 y1 y2 nl4 q.1 q.2 = some r)) (p0.History.length + 1) ([], 0) h ⟨(.refl _), ⟨(.refl _), ⟨(.refl _), ⟨(.t (.nilOwn _ _)), ⟨(.refl _), trivial⟩⟩⟩⟩⟩ rfl ?_
        rintro nl4 ⟨z24, z25⟩ h
        cases nl4 with
        | zero => exact none_ne h
        | succ nl4 =>
          refine c_seq ?_
          refine c_seq ?_
          refine c_region ?_
          refine o_s (.t (.d (.lit (.int .i64 z25)))) (g0 rfl) rfl rfl rfl ?_
          refine o_s (.ref 1 6) (g0 rfl) rfl rfl rfl ?_
          refine o_s (.t (.d (.seq 4 (List.map cS_api_Past p0.History)))) (g0 rfl) rfl rfl rfl ?_
          refine o_c (g0 rfl) rfl rfl rfl (lenE _ _) trivial ?_
          refine o_s (.t (.d (.lit (.bool (decide (z25 < (p0.History.length : Int))))))) (g0 rfl) rfl rfl rfl ?_
          refine o_nil ?_
          repeat (first | refine then_normal ?_ | refine then_exit ?_ | refine then_ret ?_ | refine block_normal ?_ | refine block_ret ?_ | refine block_exit ?_ | refine block_pass rfl ?_)
          rcases bif_some h with ⟨h26, h⟩ | ⟨h26, h⟩
          · refine c_t h26 rfl ?_
            refine c_skip ?_
            repeat (first | refine then_normal ?_ | refine then_exit ?_ | refine then_ret ?_ | refine block_normal ?_ | refine block_ret ?_ | refine block_exit ?_ | refine block_pass rfl ?_)
            refine c_seq ?_
            refine c_block ?_
            refine c_seq ?_
            refine c_region ?_
            refine o_s (.ref 1 6) (g0 rfl) rfl rfl rfl ?_
            refine o_s (.t (.d (.seq 4 (List.map cS_api_Past p0.History)))) (g0 rfl) rfl rfl rfl ?_
            refine o_s (.t (.d (.lit (.int .i64 z25)))) (g0 rfl) rfl rfl rfl ?_
            obtain ⟨x27, h28, h⟩ := bind_some h
            refine o_c (g0 rfl) rfl rfl rfl (idxE h28) (idxC h28) ?_
            refine o_s (.t (.agg [.lit (.int .i64 x27.Number), .lit (.int .i64 x27.Epoch), .lit (.bool x27.Gone), .lit (.string ⟨⟨x27.By⟩⟩)])) (g0 rfl) rfl rfl rfl ?_
            refine o_s (.box [.d (.lit (.int .i64 0)), .d (.lit (.int .i64 0)), .d (.lit (.bool false)), .d (.lit (.string ⟨⟨[]⟩⟩))]) (g0 rfl) rfl rfl rfl ?_
            refine o_st (.box [.d (.lit (.int .i64 x27.Number)), .d (.lit (.int .i64 x27.Epoch)), .d (.lit (.bool x27.Gone)), .d (.lit (.string ⟨⟨x27.By⟩⟩))]) (g0 rfl) rfl rfl rfl ?_
            refine o_nil ?_
            repeat (first | refine then_normal ?_ | refine then_exit ?_ | refine then_ret ?_ | refine block_normal ?_ | refine block_ret ?_ | refine block_exit ?_ | refine block_pass rfl ?_)
            refine c_seq ?_
            refine c_region ?_
            refine o_s (.t (.d (.lit (.int .i64 0)))) (g0 rfl) rfl rfl rfl ?_
            refine o_nil ?_
            repeat (first | refine then_normal ?_ | refine then_exit ?_ | refine then_ret ?_ | refine block_normal ?_ | refine block_ret ?_ | refine block_exit ?_ | refine block_pass rfl ?_)
            refine c_cut (fun (y29 : Int) => [(1, .box [.d (.lit (.int .i64 p0.Err)), .d (.lit (.int .i64 p0.Number)), .d (.lit (.string ⟨⟨p0.By⟩⟩)), .d (.seq 1 (bytesD p0.Data)), .d (.seq 1 (List.map cStr p0.Names)), .d (.seq 2 (List.map cS_api_Member p0.Members)), .d (.seq 4 (List.map cS_api_Past p0.History))]), (3, .t (.own 49 4 (List.map V.cells y1))), (5, .t (.own 49 4 (List.map V.cells y2))), (7, .t (.own 49 4 (List.map V.cells z24))), (8, .t (.d (.lit (.int .i64 z25)))), (9, .box [.d (.lit (.int .i64 x27.Number)), .d (.lit (.int .i64 x27.Epoch)), .d (.lit (.bool x27.Gone)), .d (.lit (.string ⟨⟨x27.By⟩⟩))]), (10, .t (.d (.lit (.int .i64 y29))))]) (fun (y29 : Int) => m_R31_Bytes_j5 (m_R31_Bytes_l4 p0 y1 y2 nl4) x27 z24 z25 y29 = some r) ?_ ?_
            · refine c_seq ?_
              refine c_region ?_
              refine o_s (.ref 9 2) (g0 rfl) rfl rfl rfl ?_
              refine o_s (.t (.d (.lit (.bool x27.Gone)))) (g0 rfl) rfl rfl rfl ?_
              refine o_nil ?_
              repeat (first | refine then_normal ?_ | refine then_exit ?_ | refine then_ret ?_ | refine block_normal ?_ | refine block_ret ?_ | refine block_exit ?_ | refine block_pass rfl ?_)
              rcases bif_some h with ⟨h44, h⟩ | ⟨h44, h⟩
              · refine c_t h44 rfl ?_
                refine c_region ?_
                refine o_s (.t (.d (.lit (.int .i64 1)))) (g0 rfl) rfl rfl rfl ?_
                refine o_nil ?_
                repeat (first | refine then_normal ?_ | refine then_exit ?_ | refine then_ret ?_ | refine block_normal ?_ | refine block_ret ?_ | refine block_exit ?_ | refine block_pass rfl ?_)
                exact ⟨1, h, ⟨(.refl _), ⟨(.refl _), ⟨(.refl _), ⟨(.refl _), ⟨(.refl _), ⟨(.refl _), ⟨(.refl _), trivial⟩⟩⟩⟩⟩⟩⟩, rfl⟩
              · refine c_f h44 rfl ?_
                refine c_skip ?_
                repeat (first | refine then_normal ?_ | refine then_exit ?_ | refine then_ret ?_ | refine block_normal ?_ | refine block_ret ?_ | refine block_exit ?_ | refine block_pass rfl ?_)
                exact ⟨0, h, ⟨(.refl _), ⟨(.refl _), ⟨(.refl _), ⟨(.refl _), ⟨(.refl _), ⟨(.refl _), ⟨(.refl _), trivial⟩⟩⟩⟩⟩⟩⟩, rfl⟩
            · rintro y29 h
              refine c_draw mixed (by kernel_rfl) ?_
              refine d_2 (.t (.d (.seq 4 (List.map V.cells z24)))) (.t (.own 49 4 (List.map V.cells z24))) rfl (dg0 rfl) rfl rfl rfl rfl rfl ?_
              refine d_s (.ref 9 0) rfl (dg0 rfl) rfl rfl rfl rfl ?_
              refine d_s (.t (.d (.lit (.int .i64 x27.Number)))) rfl (dg0 rfl) rfl rfl rfl rfl ?_
              obtain ⟨x30, h31, h⟩ := bind_some h
              refine d_ca (fc_R28_Num _ _ h31) rfl (dg0 rfl) rfl rfl rfl rfl rfl rfl rfl rfl (.cons (.refl _) .nil) rfl rfl ?_
              refine d_s (.ref 9 1) rfl (dg0 rfl) rfl rfl rfl rfl ?_
              refine d_s (.t (.d (.lit (.int .i64 x27.Epoch)))) rfl (dg0 rfl) rfl rfl rfl rfl ?_
              obtain ⟨x32, h33, h⟩ := bind_some h
              refine d_ca (fc_R28_Num _ _ h33) rfl (dg0 rfl) rfl rfl rfl rfl rfl rfl rfl rfl (.cons (.refl _) .nil) rfl rfl ?_
              refine d_s (.t (.d (.lit (.int .i64 y29)))) rfl (dg0 rfl) rfl rfl rfl rfl ?_
              obtain ⟨x34, h35, h⟩ := bind_some h
              refine d_ca (fc_R28_Num _ _ h35) rfl (dg0 rfl) rfl rfl rfl rfl rfl rfl rfl rfl (.cons (.refl _) .nil) rfl rfl ?_
              refine d_s (.ref 9 3) rfl (dg0 rfl) rfl rfl rfl rfl ?_
              refine d_s (.t (.d (.lit (.string ⟨⟨x27.By⟩⟩)))) rfl (dg0 rfl) rfl rfl rfl rfl ?_
              obtain ⟨x36, h37, h⟩ := bind_some h
              refine d_c rfl (dg0 rfl) rfl rfl rfl rfl (strBE h37) (strBC h37) ?_
              obtain ⟨x38, h39, h⟩ := bind_some h
              refine d_ca (fc_R28_Raw _ _ h39) rfl (dg0 rfl) rfl rfl rfl rfl rfl rfl rfl rfl (.cons (.refl _) .nil) rfl rfl ?_
              refine d_w (.t (.own 49 4 (List.map V.cells [(V.mk x30.k x30.n [] []), (V.mk x32.k x32.n [] []), (V.mk x34.k x34.n [] []), (V.mk x38.k x38.n x38.b [])]))) rfl (dg0 rfl) rfl rfl rfl rfl (.t (.rows _ _ (.cons (.cons (.refl _) (.cons (.refl _) (.cons (.nil _) (.cons (.nil _) .nil)))) (.cons (.cons (.refl _) (.cons (.refl _) (.cons (.nil _) (.cons (.nil _) .nil)))) (.cons (.cons (.refl _) (.cons (.refl _) (.cons (.nil _) (.cons (.nil _) .nil)))) (.cons (.cons (.refl _) (.cons (.refl _) (.cons (.refl _) (.cons (.nil _) .nil)))) .nil)))) (rowsE V.cells_eq [(V.mk x30.k x30.n [] []), (V.mk x32.k x32.n [] []), (V.mk x34.k x34.n [] []), (V.mk x38.k x38.n x38.b [])]))) (fun e => nomatch e) ?_
              obtain ⟨x40, h41, h⟩ := bind_some h
              refine d_ca (fc_R28_Of _ _ h41) rfl (dg0 rfl) rfl rfl rfl rfl rfl rfl rfl rfl (.cons (.refl _) .nil) rfl rfl ?_
              refine d_w (.t (.own 49 4 (List.map V.cells [(V.mk x40.k x40.n [] x40.l)]))) rfl (dg0 rfl) rfl rfl rfl rfl (.t (.rows _ _ (.cons (.cons (.refl _) (.cons (.refl _) (.cons (.nil _) (.cons (.refl _) .nil)))) .nil) (rowsE V.cells_eq [(V.mk x40.k x40.n [] x40.l)]))) (fun e => nomatch e) ?_
              obtain ⟨x42, h43, h⟩ := bind_some h
              refine d_2c rfl (dg0 rfl) rfl rfl rfl rfl rfl (appE (c := V.cells) h43) (appC (c := V.cells) h43) ?_
              refine d_2 (.t (.d (.seq 4 (List.map V.cells x42)))) (.t (.own 49 4 (List.map V.cells x42))) rfl (dg0 rfl) rfl rfl rfl rfl rfl ?_
              refine d_nil (by kernel_rfl) ?_
              repeat (first | refine then_normal ?_ | refine then_exit ?_ | refine then_ret ?_ | refine block_normal ?_ | refine block_ret ?_ | refine block_exit ?_ | refine block_pass rfl ?_)
              refine c_region ?_
              refine o_s (.t (.d (.lit (.int .i64 z25)))) (g0 rfl) rfl rfl rfl ?_
              refine o_s (.t (.d (.lit (.int .i64 (wi (z25 + 1)))))) (g0 rfl) rfl rfl rfl ?_
              refine o_s (.t (.d (.lit (.int .i64 (wi (z25 + 1)))))) (g0 rfl) rfl rfl rfl ?_
              refine o_nil ?_
              repeat (first | refine then_normal ?_ | refine then_exit ?_ | refine then_ret ?_ | refine block_normal ?_ | refine block_ret ?_ | refine block_exit ?_ | refine block_pass rfl ?_)
              exact ⟨nl4, (x42, (wi (z25 + 1))), Nat.lt_succ_self nl4, h, ⟨(.refl _), ⟨(.refl _), ⟨(.refl _), ⟨(.refl _), ⟨(.refl _), trivial⟩⟩⟩⟩⟩, rfl⟩
          · refine c_f h26 rfl ?_
            refine c_exit ?_
            repeat (first | refine then_normal ?_ | refine then_exit ?_ | refine then_ret ?_ | refine block_normal ?_ | refine block_ret ?_ | refine block_exit ?_ | refine block_pass rfl ?_)
            exact ⟨z24, h, ⟨(.refl _), ⟨(.refl _), ⟨(.refl _), ⟨(.refl _), trivial⟩⟩⟩⟩, rfl⟩
      · rintro y3 h
        refine c_seq ?_
        refine c_draw mixed (by kernel_rfl) ?_
        refine d_s (.ref 1 0) rfl (dg0 rfl) rfl rfl rfl rfl ?_
        refine d_s (.t (.d (.lit (.int .i64 p0.Err)))) rfl (dg0 rfl) rfl rfl rfl rfl ?_
        obtain ⟨x4, h5, h⟩ := bind_some h
        refine d_ca (fc_R28_Num _ _ h5) rfl (dg0 rfl) rfl rfl rfl rfl rfl rfl rfl rfl (.cons (.refl _) .nil) rfl rfl ?_
        refine d_s (.ref 1 1) rfl (dg0 rfl) rfl rfl rfl rfl ?_
        refine d_s (.t (.d (.lit (.int .i64 p0.Number)))) rfl (dg0 rfl) rfl rfl rfl rfl ?_
        obtain ⟨x6, h7, h⟩ := bind_some h
        refine d_ca (fc_R28_Num _ _ h7) rfl (dg0 rfl) rfl rfl rfl rfl rfl rfl rfl rfl (.cons (.refl _) .nil) rfl rfl ?_
        refine d_s (.ref 1 2) rfl (dg0 rfl) rfl rfl rfl rfl ?_
        refine d_s (.t (.d (.lit (.string ⟨⟨p0.By⟩⟩)))) rfl (dg0 rfl) rfl rfl rfl rfl ?_
        obtain ⟨x8, h9, h⟩ := bind_some h
        refine d_c rfl (dg0 rfl) rfl rfl rfl rfl (strBE h9) (strBC h9) ?_
        obtain ⟨x10, h11, h⟩ := bind_some h
        refine d_ca (fc_R28_Raw _ _ h11) rfl (dg0 rfl) rfl rfl rfl rfl rfl rfl rfl rfl (.cons (.refl _) .nil) rfl rfl ?_
        refine d_s (.ref 1 3) rfl (dg0 rfl) rfl rfl rfl rfl ?_
        refine d_s (.t (.d (.seq 1 (bytesD p0.Data)))) rfl (dg0 rfl) rfl rfl rfl rfl ?_
        obtain ⟨x12, h13, h⟩ := bind_some h
        refine d_ca (fc_R28_Raw _ _ h13) rfl (dg0 rfl) rfl rfl rfl rfl rfl rfl rfl rfl (.cons (.refl _) .nil) rfl rfl ?_
        refine d_2 (.t (.d (.seq 4 (List.map V.cells y1)))) (.t (.own 49 4 (List.map V.cells y1))) rfl (dg0 rfl) rfl rfl rfl rfl rfl ?_
        obtain ⟨x14, h15, h⟩ := bind_some h
        refine d_ca (fc_R28_Of _ _ h15) rfl (dg0 rfl) rfl rfl rfl rfl rfl rfl rfl rfl (.cons (.refl _) .nil) rfl rfl ?_
        refine d_2 (.t (.d (.seq 4 (List.map V.cells y2)))) (.t (.own 49 4 (List.map V.cells y2))) rfl (dg0 rfl) rfl rfl rfl rfl rfl ?_
        obtain ⟨x16, h17, h⟩ := bind_some h
        refine d_ca (fc_R28_Of _ _ h17) rfl (dg0 rfl) rfl rfl rfl rfl rfl rfl rfl rfl (.cons (.refl _) .nil) rfl rfl ?_
        refine d_2 (.t (.d (.seq 4 (List.map V.cells y3)))) (.t (.own 49 4 (List.map V.cells y3))) rfl (dg0 rfl) rfl rfl rfl rfl rfl ?_
        obtain ⟨x18, h19, h⟩ := bind_some h
        refine d_ca (fc_R28_Of _ _ h19) rfl (dg0 rfl) rfl rfl rfl rfl rfl rfl rfl rfl (.cons (.refl _) .nil) rfl rfl ?_
        refine d_w (.t (.own 49 4 (List.map V.cells [(V.mk x4.k x4.n [] []), (V.mk x6.k x6.n [] []), (V.mk x10.k x10.n x10.b []), (V.mk x12.k x12.n x12.b []), (V.mk x14.k x14.n [] x14.l), (V.mk x16.k x16.n [] x16.l), (V.mk x18.k x18.n [] x18.l)]))) rfl (dg0 rfl) rfl rfl rfl rfl (.t (.rows _ _ (.cons (.cons (.refl _) (.cons (.refl _) (.cons (.nil _) (.cons (.nil _) .nil)))) (.cons (.cons (.refl _) (.cons (.refl _) (.cons (.nil _) (.cons (.nil _) .nil)))) (.cons (.cons (.refl _) (.cons (.refl _) (.cons (.refl _) (.cons (.nil _) .nil)))) (.cons (.cons (.refl _) (.cons (.refl _) (.cons (.refl _) (.cons (.nil _) .nil)))) (.cons (.cons (.refl _) (.cons (.refl _) (.cons (.nil _) (.cons (.refl _) .nil)))) (.cons (.cons (.refl _) (.cons (.refl _) (.cons (.nil _) (.cons (.refl _) .nil)))) (.cons (.cons (.refl _) (.cons (.refl _) (.cons (.nil _) (.cons (.refl _) .nil)))) .nil))))))) (rowsE V.cells_eq [(V.mk x4.k x4.n [] []), (V.mk x6.k x6.n [] []), (V.mk x10.k x10.n x10.b []), (V.mk x12.k x12.n x12.b []), (V.mk x14.k x14.n [] x14.l), (V.mk x16.k x16.n [] x16.l), (V.mk x18.k x18.n [] x18.l)]))) (fun e => nomatch e) ?_
        obtain ⟨x20, h21, h⟩ := bind_some h
        refine d_ca (fc_R28_Of _ _ h21) rfl (dg0 rfl) rfl rfl rfl rfl rfl rfl rfl rfl (.cons (.refl _) .nil) rfl rfl ?_
        obtain ⟨x22, h23, h⟩ := bind_some h
        refine d_ca (fc_R02_Bytes _ _ _ h23) rfl (dg0 rfl) rfl rfl rfl rfl rfl rfl rfl rfl (.cons (.t (.agg (.cons (.refl _) (.cons (.refl _) (.cons (.nil _) (.cons (.refl _) .nil)))))) .nil) rfl rfl ?_
        refine d_2 (.t (.d (.seq 1 (bytesD x22)))) (.t (.own 5 1 (bytesD x22))) rfl (dg0 rfl) rfl rfl rfl rfl rfl ?_
        refine d_nil (by kernel_rfl) ?_
        repeat (first | refine then_normal ?_ | refine then_exit ?_ | refine then_ret ?_ | refine block_normal ?_ | refine block_ret ?_ | refine block_exit ?_ | refine block_pass rfl ?_)
        refine c_ret ?_
        repeat (first | refine then_normal ?_ | refine then_exit ?_ | refine then_ret ?_ | refine block_normal ?_ | refine block_ret ?_ | refine block_exit ?_ | refine block_pass rfl ?_)
        obtain rfl := Option.some.inj h
        exact end0 rfl (.refl _)

theorem fc_R31_May (p0 : S_api_Answer) (r : Bool) (h : m_R31_May p0 = some r) : FC Try.prog 28 [.t (.agg [.lit (.int .i64 p0.Err), .lit (.int .i64 p0.Number), .lit (.string ⟨⟨p0.By⟩⟩), .seq 1 (bytesD p0.Data), .seq 1 (List.map cStr p0.Names), .seq 2 (List.map cS_api_Member p0.Members), .seq 4 (List.map cS_api_Past p0.History)])] [] (.t (.d (.lit (.bool r)))) := by
  refine fc_mk (rs := [.tmp 2]) (n := 178) Try.func28 rfl rfl (Nat.le_of_ble_eq_true rfl) rfl (pins := []) rfl (L := [(0, .t (.agg [.lit (.int .i64 p0.Err), .lit (.int .i64 p0.Number), .lit (.string ⟨⟨p0.By⟩⟩), .seq 1 (bytesD p0.Data), .seq 1 (List.map cStr p0.Names), .seq 2 (List.map cS_api_Member p0.Members), .seq 4 (List.map cS_api_Past p0.History)]))]) rfl ?_
  refine c_seq ?_
  refine c_region ?_
  refine o_s (.box [.d (.lit (.int .i64 p0.Err)), .d (.lit (.int .i64 p0.Number)), .d (.lit (.string ⟨⟨p0.By⟩⟩)), .d (.seq 1 (bytesD p0.Data)), .d (.seq 1 (List.map cStr p0.Names)), .d (.seq 2 (List.map cS_api_Member p0.Members)), .d (.seq 4 (List.map cS_api_Past p0.History))]) (g0 rfl) rfl rfl rfl ?_
  refine o_s (.t (.d (.lit (.bool false)))) (g0 rfl) rfl rfl rfl ?_
  refine o_nil ?_
  repeat (first | refine then_normal ?_ | refine then_exit ?_ | refine then_ret ?_ | refine block_normal ?_ | refine block_ret ?_ | refine block_exit ?_ | refine block_pass rfl ?_)
  refine c_cut (fun (_ : Unit) => [(1, .box [.d (.lit (.int .i64 p0.Err)), .d (.lit (.int .i64 p0.Number)), .d (.lit (.string ⟨⟨p0.By⟩⟩)), .d (.seq 1 (bytesD p0.Data)), .d (.seq 1 (List.map cStr p0.Names)), .d (.seq 2 (List.map cS_api_Member p0.Members)), .d (.seq 4 (List.map cS_api_Past p0.History))])]) (fun (_ : Unit) => m_R31_May_j1 p0 = some r) ?_ ?_
  · refine c_seq ?_
    refine c_region ?_
    refine o_s (.ref 1 0) (g0 rfl) rfl rfl rfl ?_
    refine o_s (.t (.d (.lit (.int .i64 p0.Err)))) (g0 rfl) rfl rfl rfl ?_
    refine o_s (.t (.d (.lit (.bool (decide (p0.Err < 0)))))) (g0 rfl) rfl rfl rfl ?_
    refine o_s (.t (.d (.lit (.bool (decide (p0.Err < 0)))))) (g0 rfl) rfl rfl rfl ?_
    rcases bif_some h with ⟨h42, h⟩ | ⟨h42, h⟩
    · refine o_skip rfl rfl rfl h42 rfl rfl ?_
      refine o_skip rfl rfl rfl h42 rfl rfl ?_
      refine o_skip rfl rfl rfl h42 rfl rfl ?_
      refine o_pk (.t (.d (.lit (.bool true)))) (b := true) h42 (g0 rfl) rfl rfl rfl rfl rfl ?_
      refine o_s (.t (.d (.lit (.bool true)))) (g0 rfl) rfl rfl rfl ?_
      refine o_skip rfl rfl rfl rfl rfl rfl ?_
      refine o_skip rfl rfl rfl rfl rfl rfl ?_
      refine o_skip rfl rfl rfl rfl rfl rfl ?_
      refine o_pk (.t (.d (.lit (.bool true)))) (b := true) rfl (g0 rfl) rfl rfl rfl rfl rfl ?_
      refine o_s (.t (.d (.lit (.bool true)))) (g0 rfl) rfl rfl rfl ?_
      refine o_skip rfl rfl rfl rfl rfl rfl ?_
      refine o_skip rfl rfl rfl rfl rfl rfl ?_
      refine o_skip rfl rfl rfl rfl rfl rfl ?_
      refine o_pk (.t (.d (.lit (.bool true)))) (b := true) rfl (g0 rfl) rfl rfl rfl rfl rfl ?_
      refine o_s (.t (.d (.lit (.bool true)))) (g0 rfl) rfl rfl rfl ?_
      refine o_skip rfl rfl rfl rfl rfl rfl ?_
      refine o_skip rfl rfl rfl rfl rfl rfl ?_
      refine o_skip rfl rfl rfl rfl rfl rfl ?_
      refine o_skip rfl rfl rfl rfl rfl rfl ?_
      refine o_un rfl rfl rfl rfl rfl ?_
      refine o_un rfl rfl rfl rfl rfl ?_
      refine o_un rfl rfl rfl rfl rfl ?_
      refine o_un rfl rfl rfl rfl rfl ?_
      refine o_skip rfl rfl rfl rfl rfl rfl ?_
      refine o_pk (.t (.d (.lit (.bool true)))) (b := true) rfl (g0 rfl) rfl rfl rfl rfl rfl ?_
      refine o_nil ?_
      repeat (first | refine then_normal ?_ | refine then_exit ?_ | refine then_ret ?_ | refine block_normal ?_ | refine block_ret ?_ | refine block_exit ?_ | refine block_pass rfl ?_)
      refine c_t rfl rfl ?_
      refine c_seq ?_
      refine c_region ?_
      refine o_s (.t (.d (.lit (.bool false)))) (g0 rfl) rfl rfl rfl ?_
      refine o_nil ?_
      repeat (first | refine then_normal ?_ | refine then_exit ?_ | refine then_ret ?_ | refine block_normal ?_ | refine block_ret ?_ | refine block_exit ?_ | refine block_pass rfl ?_)
      refine c_ret ?_
      repeat (first | refine then_normal ?_ | refine then_exit ?_ | refine then_ret ?_ | refine block_normal ?_ | refine block_ret ?_ | refine block_exit ?_ | refine block_pass rfl ?_)
      obtain rfl := Option.some.inj h
      exact end0 rfl (.refl _)
    · refine o_s (.ref 1 0) (gy rfl rfl rfl h42) rfl rfl rfl ?_
      refine o_s (.t (.d (.lit (.int .i64 p0.Err)))) (gy rfl rfl rfl h42) rfl rfl rfl ?_
      refine o_s (.t (.d (.lit (.bool (decide (p0.Err > 255)))))) (gy rfl rfl rfl h42) rfl rfl rfl ?_
      refine o_pk (.t (.d (.lit (.bool (decide (p0.Err > 255)))))) (b := false) h42 (g0 rfl) rfl rfl rfl rfl rfl ?_
      refine o_s (.t (.d (.lit (.bool (decide (p0.Err > 255)))))) (g0 rfl) rfl rfl rfl ?_
      rcases bif_some h with ⟨h43, h⟩ | ⟨h43, h⟩
      · refine o_skip rfl rfl rfl h43 rfl rfl ?_
        refine o_skip rfl rfl rfl h43 rfl rfl ?_
        refine o_skip rfl rfl rfl h43 rfl rfl ?_
        refine o_pk (.t (.d (.lit (.bool true)))) (b := true) h43 (g0 rfl) rfl rfl rfl rfl rfl ?_
        refine o_s (.t (.d (.lit (.bool true)))) (g0 rfl) rfl rfl rfl ?_
        refine o_skip rfl rfl rfl rfl rfl rfl ?_
        refine o_skip rfl rfl rfl rfl rfl rfl ?_
        refine o_skip rfl rfl rfl rfl rfl rfl ?_
        refine o_pk (.t (.d (.lit (.bool true)))) (b := true) rfl (g0 rfl) rfl rfl rfl rfl rfl ?_
        refine o_s (.t (.d (.lit (.bool true)))) (g0 rfl) rfl rfl rfl ?_
        refine o_skip rfl rfl rfl rfl rfl rfl ?_
        refine o_skip rfl rfl rfl rfl rfl rfl ?_
        refine o_skip rfl rfl rfl rfl rfl rfl ?_
        refine o_skip rfl rfl rfl rfl rfl rfl ?_
        refine o_un rfl rfl rfl rfl rfl ?_
        refine o_un rfl rfl rfl rfl rfl ?_
        refine o_un rfl rfl rfl rfl rfl ?_
        refine o_un rfl rfl rfl rfl rfl ?_
        refine o_skip rfl rfl rfl rfl rfl rfl ?_
        refine o_pk (.t (.d (.lit (.bool true)))) (b := true) rfl (g0 rfl) rfl rfl rfl rfl rfl ?_
        refine o_nil ?_
        repeat (first | refine then_normal ?_ | refine then_exit ?_ | refine then_ret ?_ | refine block_normal ?_ | refine block_ret ?_ | refine block_exit ?_ | refine block_pass rfl ?_)
        refine c_t rfl rfl ?_
        refine c_seq ?_
        refine c_region ?_
        refine o_s (.t (.d (.lit (.bool false)))) (g0 rfl) rfl rfl rfl ?_
        refine o_nil ?_
        repeat (first | refine then_normal ?_ | refine then_exit ?_ | refine then_ret ?_ | refine block_normal ?_ | refine block_ret ?_ | refine block_exit ?_ | refine block_pass rfl ?_)
        refine c_ret ?_
        repeat (first | refine then_normal ?_ | refine then_exit ?_ | refine then_ret ?_ | refine block_normal ?_ | refine block_ret ?_ | refine block_exit ?_ | refine block_pass rfl ?_)
        obtain rfl := Option.some.inj h
        exact end0 rfl (.refl _)
      · refine o_s (.ref 1 1) (gy rfl rfl rfl h43) rfl rfl rfl ?_
        refine o_s (.t (.d (.lit (.int .i64 p0.Number)))) (gy rfl rfl rfl h43) rfl rfl rfl ?_
        refine o_s (.t (.d (.lit (.bool (decide (p0.Number < 0)))))) (gy rfl rfl rfl h43) rfl rfl rfl ?_
        refine o_pk (.t (.d (.lit (.bool (decide (p0.Number < 0)))))) (b := false) h43 (g0 rfl) rfl rfl rfl rfl rfl ?_
        refine o_s (.t (.d (.lit (.bool (decide (p0.Number < 0)))))) (g0 rfl) rfl rfl rfl ?_
        rcases bif_some h with ⟨h44, h⟩ | ⟨h44, h⟩
        · refine o_skip rfl rfl rfl h44 rfl rfl ?_
          refine o_skip rfl rfl rfl h44 rfl rfl ?_
          refine o_skip rfl rfl rfl h44 rfl rfl ?_
          refine o_pk (.t (.d (.lit (.bool true)))) (b := true) h44 (g0 rfl) rfl rfl rfl rfl rfl ?_
          refine o_s (.t (.d (.lit (.bool true)))) (g0 rfl) rfl rfl rfl ?_
          refine o_skip rfl rfl rfl rfl rfl rfl ?_
          refine o_skip rfl rfl rfl rfl rfl rfl ?_
          refine o_skip rfl rfl rfl rfl rfl rfl ?_
          refine o_skip rfl rfl rfl rfl rfl rfl ?_
          refine o_un rfl rfl rfl rfl rfl ?_
          refine o_un rfl rfl rfl rfl rfl ?_
          refine o_un rfl rfl rfl rfl rfl ?_
          refine o_un rfl rfl rfl rfl rfl ?_
          refine o_skip rfl rfl rfl rfl rfl rfl ?_
          refine o_pk (.t (.d (.lit (.bool true)))) (b := true) rfl (g0 rfl) rfl rfl rfl rfl rfl ?_
          refine o_nil ?_
          repeat (first | refine then_normal ?_ | refine then_exit ?_ | refine then_ret ?_ | refine block_normal ?_ | refine block_ret ?_ | refine block_exit ?_ | refine block_pass rfl ?_)
          refine c_t rfl rfl ?_
          refine c_seq ?_
          refine c_region ?_
          refine o_s (.t (.d (.lit (.bool false)))) (g0 rfl) rfl rfl rfl ?_
          refine o_nil ?_
          repeat (first | refine then_normal ?_ | refine then_exit ?_ | refine then_ret ?_ | refine block_normal ?_ | refine block_ret ?_ | refine block_exit ?_ | refine block_pass rfl ?_)
          refine c_ret ?_
          repeat (first | refine then_normal ?_ | refine then_exit ?_ | refine then_ret ?_ | refine block_normal ?_ | refine block_ret ?_ | refine block_exit ?_ | refine block_pass rfl ?_)
          obtain rfl := Option.some.inj h
          exact end0 rfl (.refl _)
        · refine o_s (.ref 1 1) (gy rfl rfl rfl h44) rfl rfl rfl ?_
          refine o_s (.t (.d (.lit (.int .i64 p0.Number)))) (gy rfl rfl rfl h44) rfl rfl rfl ?_
          refine o_s (.t (.d (.lit (.bool (decide (p0.Number > 1099511627776)))))) (gy rfl rfl rfl h44) rfl rfl rfl ?_
          refine o_pk (.t (.d (.lit (.bool (decide (p0.Number > 1099511627776)))))) (b := false) h44 (g0 rfl) rfl rfl rfl rfl rfl ?_
          refine o_s (.t (.d (.lit (.bool (decide (p0.Number > 1099511627776)))))) (g0 rfl) rfl rfl rfl ?_
          rcases bif_some h with ⟨h45, h⟩ | ⟨h45, h⟩
          · refine o_skip rfl rfl rfl h45 rfl rfl ?_
            refine o_skip rfl rfl rfl h45 rfl rfl ?_
            refine o_skip rfl rfl rfl h45 rfl rfl ?_
            refine o_skip rfl rfl rfl h45 rfl rfl ?_
            refine o_un rfl rfl rfl rfl rfl ?_
            refine o_un rfl rfl rfl rfl rfl ?_
            refine o_un rfl rfl rfl rfl rfl ?_
            refine o_un rfl rfl rfl rfl rfl ?_
            refine o_skip rfl rfl rfl h45 rfl rfl ?_
            refine o_pk (.t (.d (.lit (.bool true)))) (b := true) h45 (g0 rfl) rfl rfl rfl rfl rfl ?_
            refine o_nil ?_
            repeat (first | refine then_normal ?_ | refine then_exit ?_ | refine then_ret ?_ | refine block_normal ?_ | refine block_ret ?_ | refine block_exit ?_ | refine block_pass rfl ?_)
            refine c_t rfl rfl ?_
            refine c_seq ?_
            refine c_region ?_
            refine o_s (.t (.d (.lit (.bool false)))) (g0 rfl) rfl rfl rfl ?_
            refine o_nil ?_
            repeat (first | refine then_normal ?_ | refine then_exit ?_ | refine then_ret ?_ | refine block_normal ?_ | refine block_ret ?_ | refine block_exit ?_ | refine block_pass rfl ?_)
            refine c_ret ?_
            repeat (first | refine then_normal ?_ | refine then_exit ?_ | refine then_ret ?_ | refine block_normal ?_ | refine block_ret ?_ | refine block_exit ?_ | refine block_pass rfl ?_)
            obtain rfl := Option.some.inj h
            exact end0 rfl (.refl _)
          · refine o_s (.ref 1 2) (gy rfl rfl rfl h45) rfl rfl rfl ?_
            refine o_s (.t (.d (.lit (.string ⟨⟨p0.By⟩⟩)))) (gy rfl rfl rfl h45) rfl rfl rfl ?_
            refine o_c (gy rfl rfl rfl h45) rfl rfl rfl (congrArg (fun z => A.t (.d (.lit (.bool (!z))))) (str_beqL _ _)) trivial ?_
            refine o_s (.t (.d (.lit (.bool (!(p0.By == [])))))) (gy rfl rfl rfl h45) rfl rfl rfl ?_
            rcases bif_some h with ⟨h46, h⟩ | ⟨h46, h⟩
            · refine o_s (.ref 1 2) (gy rfl rfl rfl h46) rfl rfl rfl ?_
              refine o_s (.t (.d (.lit (.string ⟨⟨p0.By⟩⟩)))) (gy rfl rfl rfl h46) rfl rfl rfl ?_
              obtain ⟨x47, h48, h⟩ := bind_some h
              refine o_ca (fc_R25_Name _ _ h48) (gy rfl rfl rfl h46) rfl rfl rfl rfl rfl rfl rfl (.cons (.refl _) .nil) rfl rfl ?_
              refine o_s (.t (.d (.lit (.bool (!x47))))) (gy rfl rfl rfl h46) rfl rfl rfl ?_
              refine o_pk (.t (.d (.lit (.bool (!x47))))) (b := true) h46 (gy rfl rfl rfl h45) rfl rfl rfl rfl rfl ?_
              refine o_pk (.t (.d (.lit (.bool (!x47))))) (b := false) h45 (g0 rfl) rfl rfl rfl rfl rfl ?_
              refine o_nil ?_
              repeat (first | refine then_normal ?_ | refine then_exit ?_ | refine then_ret ?_ | refine block_normal ?_ | refine block_ret ?_ | refine block_exit ?_ | refine block_pass rfl ?_)
              rcases bif_some h with ⟨h49, h⟩ | ⟨h49, h⟩
              · refine c_t h49 rfl ?_
                refine c_seq ?_
                refine c_region ?_
                refine o_s (.t (.d (.lit (.bool false)))) (g0 rfl) rfl rfl rfl ?_
                refine o_nil ?_
                repeat (first | refine then_normal ?_ | refine then_exit ?_ | refine then_ret ?_ | refine block_normal ?_ | refine block_ret ?_ | refine block_exit ?_ | refine block_pass rfl ?_)
                refine c_ret ?_
                repeat (first | refine then_normal ?_ | refine then_exit ?_ | refine then_ret ?_ | refine block_normal ?_ | refine block_ret ?_ | refine block_exit ?_ | refine block_pass rfl ?_)
                obtain rfl := Option.some.inj h
                exact end0 rfl (.refl _)
              · refine c_f h49 rfl ?_
                refine c_skip ?_
                repeat (first | refine then_normal ?_ | refine then_exit ?_ | refine then_ret ?_ | refine block_normal ?_ | refine block_ret ?_ | refine block_exit ?_ | refine block_pass rfl ?_)
                exact ⟨(), h, ⟨(.refl _), trivial⟩, rfl⟩
            · refine o_skip rfl rfl rfl h46 rfl rfl ?_
              refine o_skip rfl rfl rfl h46 rfl rfl ?_
              refine o_skip rfl rfl rfl h46 rfl rfl ?_
              refine o_skip rfl rfl rfl h46 rfl rfl ?_
              refine o_pk (.t (.d (.lit (.bool false)))) (b := false) h46 (gy rfl rfl rfl h45) rfl rfl rfl rfl rfl ?_
              refine o_pk (.t (.d (.lit (.bool false)))) (b := false) h45 (g0 rfl) rfl rfl rfl rfl rfl ?_
              refine o_nil ?_
              repeat (first | refine then_normal ?_ | refine then_exit ?_ | refine then_ret ?_ | refine block_normal ?_ | refine block_ret ?_ | refine block_exit ?_ | refine block_pass rfl ?_)
              refine c_f rfl rfl ?_
              refine c_skip ?_
              repeat (first | refine then_normal ?_ | refine then_exit ?_ | refine then_ret ?_ | refine block_normal ?_ | refine block_ret ?_ | refine block_exit ?_ | refine block_pass rfl ?_)
              exact ⟨(), h, ⟨(.refl _), trivial⟩, rfl⟩
  · rintro ⟨⟩ h
    refine c_seq ?_
    refine c_region ?_
    refine o_s (.ref 1 4) (g0 rfl) rfl rfl rfl ?_
    refine o_s (.t (.d (.seq 1 (List.map cStr p0.Names)))) (g0 rfl) rfl rfl rfl ?_
    refine o_c (g0 rfl) rfl rfl rfl (lenE _ _) trivial ?_
    refine o_s (.ref 1 5) (g0 rfl) rfl rfl rfl ?_
    refine o_s (.t (.d (.seq 2 (List.map cS_api_Member p0.Members)))) (g0 rfl) rfl rfl rfl ?_
    refine o_c (g0 rfl) rfl rfl rfl (lenE _ _) trivial ?_
    refine o_s (.t (.d (.lit (.int .i64 (wi ((p0.Names.length : Int) + (p0.Members.length : Int))))))) (g0 rfl) rfl rfl rfl ?_
    refine o_s (.ref 1 6) (g0 rfl) rfl rfl rfl ?_
    refine o_s (.t (.d (.seq 4 (List.map cS_api_Past p0.History)))) (g0 rfl) rfl rfl rfl ?_
    refine o_c (g0 rfl) rfl rfl rfl (lenE _ _) trivial ?_
    refine o_s (.t (.d (.lit (.int .i64 (wi ((wi ((p0.Names.length : Int) + (p0.Members.length : Int))) + (p0.History.length : Int))))))) (g0 rfl) rfl rfl rfl ?_
    refine o_s (.t (.d (.lit (.int .i64 (wi ((wi ((p0.Names.length : Int) + (p0.Members.length : Int))) + (p0.History.length : Int))))))) (g0 rfl) rfl rfl rfl ?_
    refine o_nil ?_
    repeat (first | refine then_normal ?_ | refine then_exit ?_ | refine then_ret ?_ | refine block_normal ?_ | refine block_ret ?_ | refine block_exit ?_ | refine block_pass rfl ?_)
    refine c_seq ?_
    refine c_seq ?_
    refine c_region ?_
    refine o_s (.ref 1 0) (g0 rfl) rfl rfl rfl ?_
    refine o_s (.t (.d (.lit (.int .i64 p0.Err)))) (g0 rfl) rfl rfl rfl ?_
    refine o_s (.t (.d (.lit (.bool (p0.Err != 0))))) (g0 rfl) rfl rfl rfl ?_
    refine o_nil ?_
    repeat (first | refine then_normal ?_ | refine then_exit ?_ | refine then_ret ?_ | refine block_normal ?_ | refine block_ret ?_ | refine block_exit ?_ | refine block_pass rfl ?_)
    rcases bif_some h with ⟨h1, h⟩ | ⟨h1, h⟩
    · refine c_t h1 rfl ?_
      refine c_seq ?_
      refine c_region ?_
      refine o_s (.ref 1 1) (g0 rfl) rfl rfl rfl ?_
      refine o_s (.t (.d (.lit (.int .i64 p0.Number)))) (g0 rfl) rfl rfl rfl ?_
      refine o_s (.t (.d (.lit (.bool (p0.Number == 0))))) (g0 rfl) rfl rfl rfl ?_
      refine o_s (.t (.d (.lit (.bool (p0.Number == 0))))) (g0 rfl) rfl rfl rfl ?_
      rcases bif_some h with ⟨h2, h⟩ | ⟨h2, h⟩
      · refine o_s (.ref 1 2) (gy rfl rfl rfl h2) rfl rfl rfl ?_
        refine o_s (.t (.d (.lit (.string ⟨⟨p0.By⟩⟩)))) (gy rfl rfl rfl h2) rfl rfl rfl ?_
        refine o_c (gy rfl rfl rfl h2) rfl rfl rfl (congrArg (fun z => A.t (.d (.lit (.bool z)))) (str_beqL _ _)) trivial ?_
        refine o_pk (.t (.d (.lit (.bool (p0.By == []))))) (b := true) h2 (g0 rfl) rfl rfl rfl rfl rfl ?_
        refine o_s (.t (.d (.lit (.bool (p0.By == []))))) (g0 rfl) rfl rfl rfl ?_
        rcases bif_some h with ⟨h3, h⟩ | ⟨h3, h⟩
        · refine o_s (.ref 1 3) (gy rfl rfl rfl h3) rfl rfl rfl ?_
          refine o_s (.t (.d (.seq 1 (bytesD p0.Data)))) (gy rfl rfl rfl h3) rfl rfl rfl ?_
          refine o_c (gy rfl rfl rfl h3) rfl rfl rfl (lenE _ _) trivial ?_
          refine o_s (.t (.d (.lit (.bool ((p0.Data.length : Int) == 0))))) (gy rfl rfl rfl h3) rfl rfl rfl ?_
          refine o_pk (.t (.d (.lit (.bool ((p0.Data.length : Int) == 0))))) (b := true) h3 (g0 rfl) rfl rfl rfl rfl rfl ?_
          refine o_s (.t (.d (.lit (.bool ((p0.Data.length : Int) == 0))))) (g0 rfl) rfl rfl rfl ?_
          rcases bif_some h with ⟨h4, h⟩ | ⟨h4, h⟩
          · refine o_s (.t (.d (.lit (.int .i64 (wi ((wi ((p0.Names.length : Int) + (p0.Members.length : Int))) + (p0.History.length : Int))))))) (gy rfl rfl rfl h4) rfl rfl rfl ?_
            refine o_s (.t (.d (.lit (.bool ((wi ((wi ((p0.Names.length : Int) + (p0.Members.length : Int))) + (p0.History.length : Int))) == 0))))) (gy rfl rfl rfl h4) rfl rfl rfl ?_
            refine o_pk (.t (.d (.lit (.bool ((wi ((wi ((p0.Names.length : Int) + (p0.Members.length : Int))) + (p0.History.length : Int))) == 0))))) (b := true) h4 (g0 rfl) rfl rfl rfl rfl rfl ?_
            refine o_s (.t (.d (.lit (.bool ((wi ((wi ((p0.Names.length : Int) + (p0.Members.length : Int))) + (p0.History.length : Int))) == 0))))) (g0 rfl) rfl rfl rfl ?_
            refine o_nil ?_
            repeat (first | refine then_normal ?_ | refine then_exit ?_ | refine then_ret ?_ | refine block_normal ?_ | refine block_ret ?_ | refine block_exit ?_ | refine block_pass rfl ?_)
            refine c_ret ?_
            repeat (first | refine then_normal ?_ | refine then_exit ?_ | refine then_ret ?_ | refine block_normal ?_ | refine block_ret ?_ | refine block_exit ?_ | refine block_pass rfl ?_)
            obtain rfl := Option.some.inj h
            exact end0 rfl (.refl _)
          · refine o_skip rfl rfl rfl h4 rfl rfl ?_
            refine o_skip rfl rfl rfl h4 rfl rfl ?_
            refine o_pk (.t (.d (.lit (.bool false)))) (b := false) h4 (g0 rfl) rfl rfl rfl rfl rfl ?_
            refine o_s (.t (.d (.lit (.bool false)))) (g0 rfl) rfl rfl rfl ?_
            refine o_nil ?_
            repeat (first | refine then_normal ?_ | refine then_exit ?_ | refine then_ret ?_ | refine block_normal ?_ | refine block_ret ?_ | refine block_exit ?_ | refine block_pass rfl ?_)
            refine c_ret ?_
            repeat (first | refine then_normal ?_ | refine then_exit ?_ | refine then_ret ?_ | refine block_normal ?_ | refine block_ret ?_ | refine block_exit ?_ | refine block_pass rfl ?_)
            obtain rfl := Option.some.inj h
            exact end0 rfl (.refl _)
        · refine o_skip rfl rfl rfl h3 rfl rfl ?_
          refine o_skip rfl rfl rfl h3 rfl rfl ?_
          refine o_skip rfl rfl rfl h3 rfl rfl ?_
          refine o_skip rfl rfl rfl h3 rfl rfl ?_
          refine o_pk (.t (.d (.lit (.bool false)))) (b := false) h3 (g0 rfl) rfl rfl rfl rfl rfl ?_
          refine o_s (.t (.d (.lit (.bool false)))) (g0 rfl) rfl rfl rfl ?_
          refine o_skip rfl rfl rfl rfl rfl rfl ?_
          refine o_skip rfl rfl rfl rfl rfl rfl ?_
          refine o_pk (.t (.d (.lit (.bool false)))) (b := false) rfl (g0 rfl) rfl rfl rfl rfl rfl ?_
          refine o_s (.t (.d (.lit (.bool false)))) (g0 rfl) rfl rfl rfl ?_
          refine o_nil ?_
          repeat (first | refine then_normal ?_ | refine then_exit ?_ | refine then_ret ?_ | refine block_normal ?_ | refine block_ret ?_ | refine block_exit ?_ | refine block_pass rfl ?_)
          refine c_ret ?_
          repeat (first | refine then_normal ?_ | refine then_exit ?_ | refine then_ret ?_ | refine block_normal ?_ | refine block_ret ?_ | refine block_exit ?_ | refine block_pass rfl ?_)
          obtain rfl := Option.some.inj h
          exact end0 rfl (.refl _)
      · refine o_skip rfl rfl rfl h2 rfl rfl ?_
        refine o_skip rfl rfl rfl h2 rfl rfl ?_
        refine o_skip rfl rfl rfl h2 rfl rfl ?_
        refine o_pk (.t (.d (.lit (.bool false)))) (b := false) h2 (g0 rfl) rfl rfl rfl rfl rfl ?_
        refine o_s (.t (.d (.lit (.bool false)))) (g0 rfl) rfl rfl rfl ?_
        refine o_skip rfl rfl rfl rfl rfl rfl ?_
        refine o_skip rfl rfl rfl rfl rfl rfl ?_
        refine o_skip rfl rfl rfl rfl rfl rfl ?_
        refine o_skip rfl rfl rfl rfl rfl rfl ?_
        refine o_pk (.t (.d (.lit (.bool false)))) (b := false) rfl (g0 rfl) rfl rfl rfl rfl rfl ?_
        refine o_s (.t (.d (.lit (.bool false)))) (g0 rfl) rfl rfl rfl ?_
        refine o_skip rfl rfl rfl rfl rfl rfl ?_
        refine o_skip rfl rfl rfl rfl rfl rfl ?_
        refine o_pk (.t (.d (.lit (.bool false)))) (b := false) rfl (g0 rfl) rfl rfl rfl rfl rfl ?_
        refine o_s (.t (.d (.lit (.bool false)))) (g0 rfl) rfl rfl rfl ?_
        refine o_nil ?_
        repeat (first | refine then_normal ?_ | refine then_exit ?_ | refine then_ret ?_ | refine block_normal ?_ | refine block_ret ?_ | refine block_exit ?_ | refine block_pass rfl ?_)
        refine c_ret ?_
        repeat (first | refine then_normal ?_ | refine then_exit ?_ | refine then_ret ?_ | refine block_normal ?_ | refine block_ret ?_ | refine block_exit ?_ | refine block_pass rfl ?_)
        obtain rfl := Option.some.inj h
        exact end0 rfl (.refl _)
    · refine c_f h1 rfl ?_
      refine c_skip ?_
      repeat (first | refine then_normal ?_ | refine then_exit ?_ | refine then_ret ?_ | refine block_normal ?_ | refine block_ret ?_ | refine block_exit ?_ | refine block_pass rfl ?_)
      refine c_seq ?_
      refine c_seq ?_
      refine c_region ?_
      refine o_s (.ref 1 4) (g0 rfl) rfl rfl rfl ?_
      refine o_s (.t (.d (.seq 1 (List.map cStr p0.Names)))) (g0 rfl) rfl rfl rfl ?_
      refine o_c (g0 rfl) rfl rfl rfl (lenE _ _) trivial ?_
      refine o_s (.t (.d (.lit (.bool (decide ((p0.Names.length : Int) > 4096)))))) (g0 rfl) rfl rfl rfl ?_
      refine o_s (.t (.d (.lit (.bool (decide ((p0.Names.length : Int) > 4096)))))) (g0 rfl) rfl rfl rfl ?_
      rcases bif_some h with ⟨h5, h⟩ | ⟨h5, h⟩
      · refine o_skip rfl rfl rfl h5 rfl rfl ?_
        refine o_skip rfl rfl rfl h5 rfl rfl ?_
        refine o_skip rfl rfl rfl h5 rfl rfl ?_
        refine o_skip rfl rfl rfl h5 rfl rfl ?_
        refine o_pk (.t (.d (.lit (.bool true)))) (b := true) h5 (g0 rfl) rfl rfl rfl rfl rfl ?_
        refine o_s (.t (.d (.lit (.bool true)))) (g0 rfl) rfl rfl rfl ?_
        refine o_skip rfl rfl rfl rfl rfl rfl ?_
        refine o_skip rfl rfl rfl rfl rfl rfl ?_
        refine o_skip rfl rfl rfl rfl rfl rfl ?_
        refine o_skip rfl rfl rfl rfl rfl rfl ?_
        refine o_pk (.t (.d (.lit (.bool true)))) (b := true) rfl (g0 rfl) rfl rfl rfl rfl rfl ?_
        refine o_s (.t (.d (.lit (.bool true)))) (g0 rfl) rfl rfl rfl ?_
        refine o_skip rfl rfl rfl rfl rfl rfl ?_
        refine o_skip rfl rfl rfl rfl rfl rfl ?_
        refine o_skip rfl rfl rfl rfl rfl rfl ?_
        refine o_skip rfl rfl rfl rfl rfl rfl ?_
        refine o_pk (.t (.d (.lit (.bool true)))) (b := true) rfl (g0 rfl) rfl rfl rfl rfl rfl ?_
        refine o_nil ?_
        repeat (first | refine then_normal ?_ | refine then_exit ?_ | refine then_ret ?_ | refine block_normal ?_ | refine block_ret ?_ | refine block_exit ?_ | refine block_pass rfl ?_)
        refine c_t rfl rfl ?_
        refine c_seq ?_
        refine c_region ?_
        refine o_s (.t (.d (.lit (.bool false)))) (g0 rfl) rfl rfl rfl ?_
        refine o_nil ?_
        repeat (first | refine then_normal ?_ | refine then_exit ?_ | refine then_ret ?_ | refine block_normal ?_ | refine block_ret ?_ | refine block_exit ?_ | refine block_pass rfl ?_)
        refine c_ret ?_
        repeat (first | refine then_normal ?_ | refine then_exit ?_ | refine then_ret ?_ | refine block_normal ?_ | refine block_ret ?_ | refine block_exit ?_ | refine block_pass rfl ?_)
        obtain rfl := Option.some.inj h
        exact end0 rfl (.refl _)
      · refine o_s (.ref 1 5) (gy rfl rfl rfl h5) rfl rfl rfl ?_
        refine o_s (.t (.d (.seq 2 (List.map cS_api_Member p0.Members)))) (gy rfl rfl rfl h5) rfl rfl rfl ?_
        refine o_c (gy rfl rfl rfl h5) rfl rfl rfl (lenE _ _) trivial ?_
        refine o_s (.t (.d (.lit (.bool (decide ((p0.Members.length : Int) > 4096)))))) (gy rfl rfl rfl h5) rfl rfl rfl ?_
        refine o_pk (.t (.d (.lit (.bool (decide ((p0.Members.length : Int) > 4096)))))) (b := false) h5 (g0 rfl) rfl rfl rfl rfl rfl ?_
        refine o_s (.t (.d (.lit (.bool (decide ((p0.Members.length : Int) > 4096)))))) (g0 rfl) rfl rfl rfl ?_
        rcases bif_some h with ⟨h6, h⟩ | ⟨h6, h⟩
        · refine o_skip rfl rfl rfl h6 rfl rfl ?_
          refine o_skip rfl rfl rfl h6 rfl rfl ?_
          refine o_skip rfl rfl rfl h6 rfl rfl ?_
          refine o_skip rfl rfl rfl h6 rfl rfl ?_
          refine o_pk (.t (.d (.lit (.bool true)))) (b := true) h6 (g0 rfl) rfl rfl rfl rfl rfl ?_
          refine o_s (.t (.d (.lit (.bool true)))) (g0 rfl) rfl rfl rfl ?_
          refine o_skip rfl rfl rfl rfl rfl rfl ?_
          refine o_skip rfl rfl rfl rfl rfl rfl ?_
          refine o_skip rfl rfl rfl rfl rfl rfl ?_
          refine o_skip rfl rfl rfl rfl rfl rfl ?_
          refine o_pk (.t (.d (.lit (.bool true)))) (b := true) rfl (g0 rfl) rfl rfl rfl rfl rfl ?_
          refine o_nil ?_
          repeat (first | refine then_normal ?_ | refine then_exit ?_ | refine then_ret ?_ | refine block_normal ?_ | refine block_ret ?_ | refine block_exit ?_ | refine block_pass rfl ?_)
          refine c_t rfl rfl ?_
          refine c_seq ?_
          refine c_region ?_
          refine o_s (.t (.d (.lit (.bool false)))) (g0 rfl) rfl rfl rfl ?_
          refine o_nil ?_
          repeat (first | refine then_normal ?_ | refine then_exit ?_ | refine then_ret ?_ | refine block_normal ?_ | refine block_ret ?_ | refine block_exit ?_ | refine block_pass rfl ?_)
          refine c_ret ?_
          repeat (first | refine then_normal ?_ | refine then_exit ?_ | refine then_ret ?_ | refine block_normal ?_ | refine block_ret ?_ | refine block_exit ?_ | refine block_pass rfl ?_)
          obtain rfl := Option.some.inj h
          exact end0 rfl (.refl _)
        · refine o_s (.ref 1 6) (gy rfl rfl rfl h6) rfl rfl rfl ?_
          refine o_s (.t (.d (.seq 4 (List.map cS_api_Past p0.History)))) (gy rfl rfl rfl h6) rfl rfl rfl ?_
          refine o_c (gy rfl rfl rfl h6) rfl rfl rfl (lenE _ _) trivial ?_
          refine o_s (.t (.d (.lit (.bool (decide ((p0.History.length : Int) > 4096)))))) (gy rfl rfl rfl h6) rfl rfl rfl ?_
          refine o_pk (.t (.d (.lit (.bool (decide ((p0.History.length : Int) > 4096)))))) (b := false) h6 (g0 rfl) rfl rfl rfl rfl rfl ?_
          refine o_s (.t (.d (.lit (.bool (decide ((p0.History.length : Int) > 4096)))))) (g0 rfl) rfl rfl rfl ?_
          rcases bif_some h with ⟨h7, h⟩ | ⟨h7, h⟩
          · refine o_skip rfl rfl rfl h7 rfl rfl ?_
            refine o_skip rfl rfl rfl h7 rfl rfl ?_
            refine o_skip rfl rfl rfl h7 rfl rfl ?_
            refine o_skip rfl rfl rfl h7 rfl rfl ?_
            refine o_pk (.t (.d (.lit (.bool true)))) (b := true) h7 (g0 rfl) rfl rfl rfl rfl rfl ?_
            refine o_nil ?_
            repeat (first | refine then_normal ?_ | refine then_exit ?_ | refine then_ret ?_ | refine block_normal ?_ | refine block_ret ?_ | refine block_exit ?_ | refine block_pass rfl ?_)
            refine c_t rfl rfl ?_
            refine c_seq ?_
            refine c_region ?_
            refine o_s (.t (.d (.lit (.bool false)))) (g0 rfl) rfl rfl rfl ?_
            refine o_nil ?_
            repeat (first | refine then_normal ?_ | refine then_exit ?_ | refine then_ret ?_ | refine block_normal ?_ | refine block_ret ?_ | refine block_exit ?_ | refine block_pass rfl ?_)
            refine c_ret ?_
            repeat (first | refine then_normal ?_ | refine then_exit ?_ | refine then_ret ?_ | refine block_normal ?_ | refine block_ret ?_ | refine block_exit ?_ | refine block_pass rfl ?_)
            obtain rfl := Option.some.inj h
            exact end0 rfl (.refl _)
          · refine o_s (.ref 1 3) (gy rfl rfl rfl h7) rfl rfl rfl ?_
            refine o_s (.t (.d (.seq 1 (bytesD p0.Data)))) (gy rfl rfl rfl h7) rfl rfl rfl ?_
            refine o_c (gy rfl rfl rfl h7) rfl rfl rfl (lenE _ _) trivial ?_
            refine o_s (.t (.d (.lit (.bool (decide ((p0.Data.length : Int) > 1048576)))))) (gy rfl rfl rfl h7) rfl rfl rfl ?_
            refine o_pk (.t (.d (.lit (.bool (decide ((p0.Data.length : Int) > 1048576)))))) (b := false) h7 (g0 rfl) rfl rfl rfl rfl rfl ?_
            refine o_nil ?_
            repeat (first | refine then_normal ?_ | refine then_exit ?_ | refine then_ret ?_ | refine block_normal ?_ | refine block_ret ?_ | refine block_exit ?_ | refine block_pass rfl ?_)
            rcases bif_some h with ⟨h8, h⟩ | ⟨h8, h⟩
            · refine c_t h8 rfl ?_
              refine c_seq ?_
              refine c_region ?_
              refine o_s (.t (.d (.lit (.bool false)))) (g0 rfl) rfl rfl rfl ?_
              refine o_nil ?_
              repeat (first | refine then_normal ?_ | refine then_exit ?_ | refine then_ret ?_ | refine block_normal ?_ | refine block_ret ?_ | refine block_exit ?_ | refine block_pass rfl ?_)
              refine c_ret ?_
              repeat (first | refine then_normal ?_ | refine then_exit ?_ | refine then_ret ?_ | refine block_normal ?_ | refine block_ret ?_ | refine block_exit ?_ | refine block_pass rfl ?_)
              obtain rfl := Option.some.inj h
              exact end0 rfl (.refl _)
            · refine c_f h8 rfl ?_
              refine c_skip ?_
              repeat (first | refine then_normal ?_ | refine then_exit ?_ | refine then_ret ?_ | refine block_normal ?_ | refine block_ret ?_ | refine block_exit ?_ | refine block_pass rfl ?_)
              refine c_cut (fun (_ : Unit) => [(1, .box [.d (.lit (.int .i64 p0.Err)), .d (.lit (.int .i64 p0.Number)), .d (.lit (.string ⟨⟨p0.By⟩⟩)), .d (.seq 1 (bytesD p0.Data)), .d (.seq 1 (List.map cStr p0.Names)), .d (.seq 2 (List.map cS_api_Member p0.Members)), .d (.seq 4 (List.map cS_api_Past p0.History))])]) (fun (_ : Unit) => m_R31_May_j2 p0 = some r) ?_ ?_
              · refine c_seq ?_
                refine c_region ?_
                refine o_s (.t (.d (.lit (.int .i64 0)))) (g0 rfl) rfl rfl rfl ?_
                refine o_nil ?_
                repeat (first | refine then_normal ?_ | refine then_exit ?_ | refine then_ret ?_ | refine block_normal ?_ | refine block_ret ?_ | refine block_exit ?_ | refine block_pass rfl ?_)
                refine c_block ?_
                refine c_fuel (fun (z35 : Int) => [(1, .box [.d (.lit (.int .i64 p0.Err)), .d (.lit (.int .i64 p0.Number)), .d (.lit (.string ⟨⟨p0.By⟩⟩)), .d (.seq 1 (bytesD p0.Data)), .d (.seq 1 (List.map cStr p0.Names)), .d (.seq 2 (List.map cS_api_Member p0.Members)), .d (.seq 4 (List.map cS_api_Past p0.History))]), (4, .t (.d (.lit (.int .i64 z35))))]) (fun nl7 => (fun (z35 : Int) => m_R31_May_l7 p0 nl7 z35 = some r)) (p0.Names.length + 1) 0 h ⟨(.refl _), ⟨(.refl _), trivial⟩⟩ rfl ?_
                rintro nl7 z35 h
                cases nl7 with
                | zero => exact none_ne h
                | succ nl7 =>
                  refine c_seq ?_
                  refine c_seq ?_
                  refine c_region ?_
                  refine o_s (.t (.d (.lit (.int .i64 z35)))) (g0 rfl) rfl rfl rfl ?_
                  refine o_s (.ref 1 4) (g0 rfl) rfl rfl rfl ?_
                  refine o_s (.t (.d (.seq 1 (List.map cStr p0.Names)))) (g0 rfl) rfl rfl rfl ?_
                  refine o_c (g0 rfl) rfl rfl rfl (lenE _ _) trivial ?_
                  refine o_s (.t (.d (.lit (.bool (decide (z35 < (p0.Names.length : Int))))))) (g0 rfl) rfl rfl rfl ?_
                  refine o_nil ?_
                  repeat (first | refine then_normal ?_ | refine then_exit ?_ | refine then_ret ?_ | refine block_normal ?_ | refine block_ret ?_ | refine block_exit ?_ | refine block_pass rfl ?_)
                  rcases bif_some h with ⟨h36, h⟩ | ⟨h36, h⟩
                  · refine c_t h36 rfl ?_
                    refine c_skip ?_
                    repeat (first | refine then_normal ?_ | refine then_exit ?_ | refine then_ret ?_ | refine block_normal ?_ | refine block_ret ?_ | refine block_exit ?_ | refine block_pass rfl ?_)
                    refine c_seq ?_
                    refine c_block ?_
                    refine c_seq ?_
                    refine c_region ?_
                    refine o_s (.ref 1 4) (g0 rfl) rfl rfl rfl ?_
                    refine o_s (.t (.d (.seq 1 (List.map cStr p0.Names)))) (g0 rfl) rfl rfl rfl ?_
                    refine o_s (.t (.d (.lit (.int .i64 z35)))) (g0 rfl) rfl rfl rfl ?_
                    obtain ⟨x37, h38, h⟩ := bind_some h
                    refine o_c (g0 rfl) rfl rfl rfl (idxE h38) (idxC h38) ?_
                    refine o_s (.t (.d (.lit (.string ⟨⟨x37⟩⟩)))) (g0 rfl) rfl rfl rfl ?_
                    obtain ⟨x39, h40, h⟩ := bind_some h
                    refine o_ca (fc_R25_Name _ _ h40) (g0 rfl) rfl rfl rfl rfl rfl rfl rfl (.cons (.refl _) .nil) rfl rfl ?_
                    refine o_s (.t (.d (.lit (.bool (!x39))))) (g0 rfl) rfl rfl rfl ?_
                    refine o_nil ?_
                    repeat (first | refine then_normal ?_ | refine then_exit ?_ | refine then_ret ?_ | refine block_normal ?_ | refine block_ret ?_ | refine block_exit ?_ | refine block_pass rfl ?_)
                    rcases bif_some h with ⟨h41, h⟩ | ⟨h41, h⟩
                    · refine c_t h41 rfl ?_
                      refine c_seq ?_
                      refine c_region ?_
                      refine o_s (.t (.d (.lit (.bool false)))) (g0 rfl) rfl rfl rfl ?_
                      refine o_nil ?_
                      repeat (first | refine then_normal ?_ | refine then_exit ?_ | refine then_ret ?_ | refine block_normal ?_ | refine block_ret ?_ | refine block_exit ?_ | refine block_pass rfl ?_)
                      refine c_ret ?_
                      repeat (first | refine then_normal ?_ | refine then_exit ?_ | refine then_ret ?_ | refine block_normal ?_ | refine block_ret ?_ | refine block_exit ?_ | refine block_pass rfl ?_)
                      obtain rfl := Option.some.inj h
                      exact end0 rfl (.refl _)
                    · refine c_f h41 rfl ?_
                      refine c_skip ?_
                      repeat (first | refine then_normal ?_ | refine then_exit ?_ | refine then_ret ?_ | refine block_normal ?_ | refine block_ret ?_ | refine block_exit ?_ | refine block_pass rfl ?_)
                      refine c_region ?_
                      refine o_s (.t (.d (.lit (.int .i64 z35)))) (g0 rfl) rfl rfl rfl ?_
                      refine o_s (.t (.d (.lit (.int .i64 (wi (z35 + 1)))))) (g0 rfl) rfl rfl rfl ?_
                      refine o_s (.t (.d (.lit (.int .i64 (wi (z35 + 1)))))) (g0 rfl) rfl rfl rfl ?_
                      refine o_nil ?_
                      repeat (first | refine then_normal ?_ | refine then_exit ?_ | refine then_ret ?_ | refine block_normal ?_ | refine block_ret ?_ | refine block_exit ?_ | refine block_pass rfl ?_)
                      exact ⟨nl7, (wi (z35 + 1)), Nat.lt_succ_self nl7, h, ⟨(.refl _), ⟨(.refl _), trivial⟩⟩, rfl⟩
                  · refine c_f h36 rfl ?_
                    refine c_exit ?_
                    repeat (first | refine then_normal ?_ | refine then_exit ?_ | refine then_ret ?_ | refine block_normal ?_ | refine block_ret ?_ | refine block_exit ?_ | refine block_pass rfl ?_)
                    exact ⟨(), h, ⟨(.refl _), trivial⟩, rfl⟩
              · rintro ⟨⟩ h
                refine c_cut (fun (_ : Unit) => [(1, .box [.d (.lit (.int .i64 p0.Err)), .d (.lit (.int .i64 p0.Number)), .d (.lit (.string ⟨⟨p0.By⟩⟩)), .d (.seq 1 (bytesD p0.Data)), .d (.seq 1 (List.map cStr p0.Names)), .d (.seq 2 (List.map cS_api_Member p0.Members)), .d (.seq 4 (List.map cS_api_Past p0.History))])]) (fun (_ : Unit) => m_R31_May_j3 p0 = some r) ?_ ?_
                · refine c_seq ?_
                  refine c_region ?_
                  refine o_s (.t (.d (.lit (.int .i64 0)))) (g0 rfl) rfl rfl rfl ?_
                  refine o_nil ?_
                  repeat (first | refine then_normal ?_ | refine then_exit ?_ | refine then_ret ?_ | refine block_normal ?_ | refine block_ret ?_ | refine block_exit ?_ | refine block_pass rfl ?_)
                  refine c_block ?_
                  refine c_fuel (fun (z22 : Int) => [(1, .box [.d (.lit (.int .i64 p0.Err)), .d (.lit (.int .i64 p0.Number)), .d (.lit (.string ⟨⟨p0.By⟩⟩)), .d (.seq 1 (bytesD p0.Data)), .d (.seq 1 (List.map cStr p0.Names)), .d (.seq 2 (List.map cS_api_Member p0.Members)), .d (.seq 4 (List.map cS_api_Past p0.History))]), (5, .t (.d (.lit (.int .i64 z22))))]) (fun nl6 => (fun (z22 : Int) => m_R31_May_l6 p0 nl6 z22 = some r)) (p0.Members.length + 1) 0 h ⟨(.refl _), ⟨(.refl _), trivial⟩⟩ rfl ?_
                  rintro nl6 z22 h
                  cases nl6 with
                  | zero => exact none_ne h
                  | succ nl6 =>
                    refine c_seq ?_
                    refine c_seq ?_
                    refine c_region ?_
                    refine o_s (.t (.d (.lit (.int .i64 z22)))) (g0 rfl) rfl rfl rfl ?_
                    refine o_s (.ref 1 5) (g0 rfl) rfl rfl rfl ?_
                    refine o_s (.t (.d (.seq 2 (List.map cS_api_Member p0.Members)))) (g0 rfl) rfl rfl rfl ?_
                    refine o_c (g0 rfl) rfl rfl rfl (lenE _ _) trivial ?_
                    refine o_s (.t (.d (.lit (.bool (decide (z22 < (p0.Members.length : Int))))))) (g0 rfl) rfl rfl rfl ?_
                    refine o_nil ?_
                    repeat (first | refine then_normal ?_ | refine then_exit ?_ | refine then_ret ?_ | refine block_normal ?_ | refine block_ret ?_ | refine block_exit ?_ | refine block_pass rfl ?_)
                    rcases bif_some h with ⟨h23, h⟩ | ⟨h23, h⟩
                    · refine c_t h23 rfl ?_
                      refine c_skip ?_
                      repeat (first | refine then_normal ?_ | refine then_exit ?_ | refine then_ret ?_ | refine block_normal ?_ | refine block_ret ?_ | refine block_exit ?_ | refine block_pass rfl ?_)
                      refine c_seq ?_
                      refine c_block ?_
                      refine c_seq ?_
                      refine c_region ?_
                      refine o_s (.ref 1 5) (g0 rfl) rfl rfl rfl ?_
                      refine o_s (.t (.d (.seq 2 (List.map cS_api_Member p0.Members)))) (g0 rfl) rfl rfl rfl ?_
                      refine o_s (.t (.d (.lit (.int .i64 z22)))) (g0 rfl) rfl rfl rfl ?_
                      obtain ⟨x24, h25, h⟩ := bind_some h
                      refine o_c (g0 rfl) rfl rfl rfl (idxE h25) (idxC h25) ?_
                      refine o_s (.imm [.lit (.string ⟨⟨x24.Name⟩⟩), .lit (.int .i64 x24.Role)]) (g0 rfl) rfl rfl rfl ?_
                      refine o_s (.t (.d (.lit (.string ⟨⟨x24.Name⟩⟩)))) (g0 rfl) rfl rfl rfl ?_
                      obtain ⟨x26, h27, h⟩ := bind_some h
                      refine o_ca (fc_R25_Name _ _ h27) (g0 rfl) rfl rfl rfl rfl rfl rfl rfl (.cons (.refl _) .nil) rfl rfl ?_
                      refine o_s (.t (.d (.lit (.bool (!x26))))) (g0 rfl) rfl rfl rfl ?_
                      refine o_s (.t (.d (.lit (.bool (!x26))))) (g0 rfl) rfl rfl rfl ?_
                      rcases bif_some h with ⟨h28, h⟩ | ⟨h28, h⟩
                      · refine o_skip rfl rfl rfl h28 rfl rfl ?_
                        refine o_skip rfl rfl rfl h28 rfl rfl ?_
                        refine o_skip rfl rfl rfl h28 rfl rfl ?_
                        refine o_skip rfl rfl rfl h28 rfl rfl ?_
                        refine o_skip rfl rfl rfl h28 rfl rfl ?_
                        refine o_skip rfl rfl rfl h28 rfl rfl ?_
                        refine o_skip rfl rfl rfl h28 rfl rfl ?_
                        refine o_pk (.t (.d (.lit (.bool true)))) (b := true) h28 (g0 rfl) rfl rfl rfl rfl rfl ?_
                        refine o_s (.t (.d (.lit (.bool true)))) (g0 rfl) rfl rfl rfl ?_
                        refine o_skip rfl rfl rfl rfl rfl rfl ?_
                        refine o_skip rfl rfl rfl rfl rfl rfl ?_
                        refine o_skip rfl rfl rfl rfl rfl rfl ?_
                        refine o_skip rfl rfl rfl rfl rfl rfl ?_
                        refine o_skip rfl rfl rfl rfl rfl rfl ?_
                        refine o_skip rfl rfl rfl rfl rfl rfl ?_
                        refine o_skip rfl rfl rfl rfl rfl rfl ?_
                        refine o_pk (.t (.d (.lit (.bool true)))) (b := true) rfl (g0 rfl) rfl rfl rfl rfl rfl ?_
                        refine o_nil ?_
                        repeat (first | refine then_normal ?_ | refine then_exit ?_ | refine then_ret ?_ | refine block_normal ?_ | refine block_ret ?_ | refine block_exit ?_ | refine block_pass rfl ?_)
                        refine c_t rfl rfl ?_
                        refine c_seq ?_
                        refine c_region ?_
                        refine o_s (.t (.d (.lit (.bool false)))) (g0 rfl) rfl rfl rfl ?_
                        refine o_nil ?_
                        repeat (first | refine then_normal ?_ | refine then_exit ?_ | refine then_ret ?_ | refine block_normal ?_ | refine block_ret ?_ | refine block_exit ?_ | refine block_pass rfl ?_)
                        refine c_ret ?_
                        repeat (first | refine then_normal ?_ | refine then_exit ?_ | refine then_ret ?_ | refine block_normal ?_ | refine block_ret ?_ | refine block_exit ?_ | refine block_pass rfl ?_)
                        obtain rfl := Option.some.inj h
                        exact end0 rfl (.refl _)
                      · refine o_s (.ref 1 5) (gy rfl rfl rfl h28) rfl rfl rfl ?_
                        refine o_s (.t (.d (.seq 2 (List.map cS_api_Member p0.Members)))) (gy rfl rfl rfl h28) rfl rfl rfl ?_
                        refine o_s (.t (.d (.lit (.int .i64 z22)))) (gy rfl rfl rfl h28) rfl rfl rfl ?_
                        obtain ⟨x29, h30, h⟩ := bind_some h
                        refine o_c (gy rfl rfl rfl h28) rfl rfl rfl (idxE h30) (idxC h30) ?_
                        refine o_s (.imm [.lit (.int .i64 x29.Role)]) (gy rfl rfl rfl h28) rfl rfl rfl ?_
                        refine o_s (.t (.d (.lit (.int .i64 x29.Role)))) (gy rfl rfl rfl h28) rfl rfl rfl ?_
                        refine o_s (.t (.d (.lit (.bool (decide (x29.Role < 1)))))) (gy rfl rfl rfl h28) rfl rfl rfl ?_
                        refine o_pk (.t (.d (.lit (.bool (decide (x29.Role < 1)))))) (b := false) h28 (g0 rfl) rfl rfl rfl rfl rfl ?_
                        refine o_s (.t (.d (.lit (.bool (decide (x29.Role < 1)))))) (g0 rfl) rfl rfl rfl ?_
                        rcases bif_some h with ⟨h31, h⟩ | ⟨h31, h⟩
                        · refine o_skip rfl rfl rfl h31 rfl rfl ?_
                          refine o_skip rfl rfl rfl h31 rfl rfl ?_
                          refine o_skip rfl rfl rfl h31 rfl rfl ?_
                          refine o_skip rfl rfl rfl h31 rfl rfl ?_
                          refine o_skip rfl rfl rfl h31 rfl rfl ?_
                          refine o_skip rfl rfl rfl h31 rfl rfl ?_
                          refine o_skip rfl rfl rfl h31 rfl rfl ?_
                          refine o_pk (.t (.d (.lit (.bool true)))) (b := true) h31 (g0 rfl) rfl rfl rfl rfl rfl ?_
                          refine o_nil ?_
                          repeat (first | refine then_normal ?_ | refine then_exit ?_ | refine then_ret ?_ | refine block_normal ?_ | refine block_ret ?_ | refine block_exit ?_ | refine block_pass rfl ?_)
                          refine c_t rfl rfl ?_
                          refine c_seq ?_
                          refine c_region ?_
                          refine o_s (.t (.d (.lit (.bool false)))) (g0 rfl) rfl rfl rfl ?_
                          refine o_nil ?_
                          repeat (first | refine then_normal ?_ | refine then_exit ?_ | refine then_ret ?_ | refine block_normal ?_ | refine block_ret ?_ | refine block_exit ?_ | refine block_pass rfl ?_)
                          refine c_ret ?_
                          repeat (first | refine then_normal ?_ | refine then_exit ?_ | refine then_ret ?_ | refine block_normal ?_ | refine block_ret ?_ | refine block_exit ?_ | refine block_pass rfl ?_)
                          obtain rfl := Option.some.inj h
                          exact end0 rfl (.refl _)
                        · refine o_s (.ref 1 5) (gy rfl rfl rfl h31) rfl rfl rfl ?_
                          refine o_s (.t (.d (.seq 2 (List.map cS_api_Member p0.Members)))) (gy rfl rfl rfl h31) rfl rfl rfl ?_
                          refine o_s (.t (.d (.lit (.int .i64 z22)))) (gy rfl rfl rfl h31) rfl rfl rfl ?_
                          obtain ⟨x32, h33, h⟩ := bind_some h
                          refine o_c (gy rfl rfl rfl h31) rfl rfl rfl (idxE h33) (idxC h33) ?_
                          refine o_s (.imm [.lit (.int .i64 x32.Role)]) (gy rfl rfl rfl h31) rfl rfl rfl ?_
                          refine o_s (.t (.d (.lit (.int .i64 x32.Role)))) (gy rfl rfl rfl h31) rfl rfl rfl ?_
                          refine o_s (.t (.d (.lit (.bool (decide (x32.Role > 4)))))) (gy rfl rfl rfl h31) rfl rfl rfl ?_
                          refine o_pk (.t (.d (.lit (.bool (decide (x32.Role > 4)))))) (b := false) h31 (g0 rfl) rfl rfl rfl rfl rfl ?_
                          refine o_nil ?_
                          repeat (first | refine then_normal ?_ | refine then_exit ?_ | refine then_ret ?_ | refine block_normal ?_ | refine block_ret ?_ | refine block_exit ?_ | refine block_pass rfl ?_)
                          rcases bif_some h with ⟨h34, h⟩ | ⟨h34, h⟩
                          · refine c_t h34 rfl ?_
                            refine c_seq ?_
                            refine c_region ?_
                            refine o_s (.t (.d (.lit (.bool false)))) (g0 rfl) rfl rfl rfl ?_
                            refine o_nil ?_
                            repeat (first | refine then_normal ?_ | refine then_exit ?_ | refine then_ret ?_ | refine block_normal ?_ | refine block_ret ?_ | refine block_exit ?_ | refine block_pass rfl ?_)
                            refine c_ret ?_
                            repeat (first | refine then_normal ?_ | refine then_exit ?_ | refine then_ret ?_ | refine block_normal ?_ | refine block_ret ?_ | refine block_exit ?_ | refine block_pass rfl ?_)
                            obtain rfl := Option.some.inj h
                            exact end0 rfl (.refl _)
                          · refine c_f h34 rfl ?_
                            refine c_skip ?_
                            repeat (first | refine then_normal ?_ | refine then_exit ?_ | refine then_ret ?_ | refine block_normal ?_ | refine block_ret ?_ | refine block_exit ?_ | refine block_pass rfl ?_)
                            refine c_region ?_
                            refine o_s (.t (.d (.lit (.int .i64 z22)))) (g0 rfl) rfl rfl rfl ?_
                            refine o_s (.t (.d (.lit (.int .i64 (wi (z22 + 1)))))) (g0 rfl) rfl rfl rfl ?_
                            refine o_s (.t (.d (.lit (.int .i64 (wi (z22 + 1)))))) (g0 rfl) rfl rfl rfl ?_
                            refine o_nil ?_
                            repeat (first | refine then_normal ?_ | refine then_exit ?_ | refine then_ret ?_ | refine block_normal ?_ | refine block_ret ?_ | refine block_exit ?_ | refine block_pass rfl ?_)
                            exact ⟨nl6, (wi (z22 + 1)), Nat.lt_succ_self nl6, h, ⟨(.refl _), ⟨(.refl _), trivial⟩⟩, rfl⟩
                    · refine c_f h23 rfl ?_
                      refine c_exit ?_
                      repeat (first | refine then_normal ?_ | refine then_exit ?_ | refine then_ret ?_ | refine block_normal ?_ | refine block_ret ?_ | refine block_exit ?_ | refine block_pass rfl ?_)
                      exact ⟨(), h, ⟨(.refl _), trivial⟩, rfl⟩
                · rintro ⟨⟩ h
                  refine c_cut (fun (_ : Unit) => [(1, .box [.d (.lit (.int .i64 p0.Err)), .d (.lit (.int .i64 p0.Number)), .d (.lit (.string ⟨⟨p0.By⟩⟩)), .d (.seq 1 (bytesD p0.Data)), .d (.seq 1 (List.map cStr p0.Names)), .d (.seq 2 (List.map cS_api_Member p0.Members)), .d (.seq 4 (List.map cS_api_Past p0.History))])]) (fun (_ : Unit) => m_R31_May_j4 p0 = some r) ?_ ?_
                  · refine c_seq ?_
                    refine c_region ?_
                    refine o_s (.t (.d (.lit (.int .i64 0)))) (g0 rfl) rfl rfl rfl ?_
                    refine o_nil ?_
                    repeat (first | refine then_normal ?_ | refine then_exit ?_ | refine then_ret ?_ | refine block_normal ?_ | refine block_ret ?_ | refine block_exit ?_ | refine block_pass rfl ?_)
                    refine c_block ?_
                    refine c_fuel (fun (z11 : Int) => [(1, .box [.d (.lit (.int .i64 p0.Err)), .d (.lit (.int .i64 p0.Number)), .d (.lit (.string ⟨⟨p0.By⟩⟩)), .d (.seq 1 (bytesD p0.Data)), .d (.seq 1 (List.map cStr p0.Names)), .d (.seq 2 (List.map cS_api_Member p0.Members)), .d (.seq 4 (List.map cS_api_Past p0.History))]), (6, .t (.d (.lit (.int .i64 z11))))]) (fun nl5 => (fun (z11 : Int) => m_R31_May_l5 p0 nl5 z11 = some r)) (p0.History.length + 1) 0 h ⟨(.refl _), ⟨(.refl _), trivial⟩⟩ rfl ?_
                    rintro nl5 z11 h
                    cases nl5 with
                    | zero => exact none_ne h
                    | succ nl5 =>
                      refine c_seq ?_
                      refine c_seq ?_
                      refine c_region ?_
                      refine o_s (.t (.d (.lit (.int .i64 z11)))) (g0 rfl) rfl rfl rfl ?_
                      refine o_s (.ref 1 6) (g0 rfl) rfl rfl rfl ?_
                      refine o_s (.t (.d (.seq 4 (List.map cS_api_Past p0.History)))) (g0 rfl) rfl rfl rfl ?_
                      refine o_c (g0 rfl) rfl rfl rfl (lenE _ _) trivial ?_
                      refine o_s (.t (.d (.lit (.bool (decide (z11 < (p0.History.length : Int))))))) (g0 rfl) rfl rfl rfl ?_
                      refine o_nil ?_
                      repeat (first | refine then_normal ?_ | refine then_exit ?_ | refine then_ret ?_ | refine block_normal ?_ | refine block_ret ?_ | refine block_exit ?_ | refine block_pass rfl ?_)
                      rcases bif_some h with ⟨h12, h⟩ | ⟨h12, h⟩
                      · refine c_t h12 rfl ?_
                        refine c_skip ?_
                        repeat (first | refine then_normal ?_ | refine then_exit ?_ | refine then_ret ?_ | refine block_normal ?_ | refine block_ret ?_ | refine block_exit ?_ | refine block_pass rfl ?_)
                        refine c_seq ?_
                        refine c_block ?_
                        refine c_seq ?_
                        refine c_region ?_
                        refine o_s (.ref 1 6) (g0 rfl) rfl rfl rfl ?_
                        refine o_s (.t (.d (.seq 4 (List.map cS_api_Past p0.History)))) (g0 rfl) rfl rfl rfl ?_
                        refine o_s (.t (.d (.lit (.int .i64 z11)))) (g0 rfl) rfl rfl rfl ?_
                        obtain ⟨x13, h14, h⟩ := bind_some h
                        refine o_c (g0 rfl) rfl rfl rfl (idxE h14) (idxC h14) ?_
                        refine o_s (.t (.agg [.lit (.int .i64 x13.Number), .lit (.int .i64 x13.Epoch), .lit (.bool x13.Gone), .lit (.string ⟨⟨x13.By⟩⟩)])) (g0 rfl) rfl rfl rfl ?_
                        refine o_s (.box [.d (.lit (.int .i64 0)), .d (.lit (.int .i64 0)), .d (.lit (.bool false)), .d (.lit (.string ⟨⟨[]⟩⟩))]) (g0 rfl) rfl rfl rfl ?_
                        refine o_st (.box [.d (.lit (.int .i64 x13.Number)), .d (.lit (.int .i64 x13.Epoch)), .d (.lit (.bool x13.Gone)), .d (.lit (.string ⟨⟨x13.By⟩⟩))]) (g0 rfl) rfl rfl rfl ?_
                        refine o_nil ?_
                        repeat (first | refine then_normal ?_ | refine then_exit ?_ | refine then_ret ?_ | refine block_normal ?_ | refine block_ret ?_ | refine block_exit ?_ | refine block_pass rfl ?_)
                        refine c_seq ?_
                        refine c_region ?_
                        refine o_s (.ref 7 0) (g0 rfl) rfl rfl rfl ?_
                        refine o_s (.t (.d (.lit (.int .i64 x13.Number)))) (g0 rfl) rfl rfl rfl ?_
                        refine o_s (.t (.d (.lit (.bool (decide (x13.Number < 1)))))) (g0 rfl) rfl rfl rfl ?_
                        refine o_s (.t (.d (.lit (.bool (decide (x13.Number < 1)))))) (g0 rfl) rfl rfl rfl ?_
                        rcases bif_some h with ⟨h15, h⟩ | ⟨h15, h⟩
                        · refine o_skip rfl rfl rfl h15 rfl rfl ?_
                          refine o_skip rfl rfl rfl h15 rfl rfl ?_
                          refine o_skip rfl rfl rfl h15 rfl rfl ?_
                          refine o_pk (.t (.d (.lit (.bool true)))) (b := true) h15 (g0 rfl) rfl rfl rfl rfl rfl ?_
                          refine o_s (.t (.d (.lit (.bool true)))) (g0 rfl) rfl rfl rfl ?_
                          refine o_skip rfl rfl rfl rfl rfl rfl ?_
                          refine o_skip rfl rfl rfl rfl rfl rfl ?_
                          refine o_skip rfl rfl rfl rfl rfl rfl ?_
                          refine o_pk (.t (.d (.lit (.bool true)))) (b := true) rfl (g0 rfl) rfl rfl rfl rfl rfl ?_
                          refine o_s (.t (.d (.lit (.bool true)))) (g0 rfl) rfl rfl rfl ?_
                          refine o_skip rfl rfl rfl rfl rfl rfl ?_
                          refine o_skip rfl rfl rfl rfl rfl rfl ?_
                          refine o_skip rfl rfl rfl rfl rfl rfl ?_
                          refine o_pk (.t (.d (.lit (.bool true)))) (b := true) rfl (g0 rfl) rfl rfl rfl rfl rfl ?_
                          refine o_s (.t (.d (.lit (.bool true)))) (g0 rfl) rfl rfl rfl ?_
                          refine o_skip rfl rfl rfl rfl rfl rfl ?_
                          refine o_skip rfl rfl rfl rfl rfl rfl ?_
                          refine o_skip rfl rfl rfl rfl rfl rfl ?_
                          refine o_skip rfl rfl rfl rfl rfl rfl ?_
                          refine o_pk (.t (.d (.lit (.bool true)))) (b := true) rfl (g0 rfl) rfl rfl rfl rfl rfl ?_
                          refine o_nil ?_
                          repeat (first | refine then_normal ?_ | refine then_exit ?_ | refine then_ret ?_ | refine block_normal ?_ | refine block_ret ?_ | refine block_exit ?_ | refine block_pass rfl ?_)
                          refine c_t rfl rfl ?_
                          refine c_seq ?_
                          refine c_region ?_
                          refine o_s (.t (.d (.lit (.bool false)))) (g0 rfl) rfl rfl rfl ?_
                          refine o_nil ?_
                          repeat (first | refine then_normal ?_ | refine then_exit ?_ | refine then_ret ?_ | refine block_normal ?_ | refine block_ret ?_ | refine block_exit ?_ | refine block_pass rfl ?_)
                          refine c_ret ?_
                          repeat (first | refine then_normal ?_ | refine then_exit ?_ | refine then_ret ?_ | refine block_normal ?_ | refine block_ret ?_ | refine block_exit ?_ | refine block_pass rfl ?_)
                          obtain rfl := Option.some.inj h
                          exact end0 rfl (.refl _)
                        · refine o_s (.ref 7 0) (gy rfl rfl rfl h15) rfl rfl rfl ?_
                          refine o_s (.t (.d (.lit (.int .i64 x13.Number)))) (gy rfl rfl rfl h15) rfl rfl rfl ?_
                          refine o_s (.t (.d (.lit (.bool (decide (x13.Number > 1099511627776)))))) (gy rfl rfl rfl h15) rfl rfl rfl ?_
                          refine o_pk (.t (.d (.lit (.bool (decide (x13.Number > 1099511627776)))))) (b := false) h15 (g0 rfl) rfl rfl rfl rfl rfl ?_
                          refine o_s (.t (.d (.lit (.bool (decide (x13.Number > 1099511627776)))))) (g0 rfl) rfl rfl rfl ?_
                          rcases bif_some h with ⟨h16, h⟩ | ⟨h16, h⟩
                          · refine o_skip rfl rfl rfl h16 rfl rfl ?_
                            refine o_skip rfl rfl rfl h16 rfl rfl ?_
                            refine o_skip rfl rfl rfl h16 rfl rfl ?_
                            refine o_pk (.t (.d (.lit (.bool true)))) (b := true) h16 (g0 rfl) rfl rfl rfl rfl rfl ?_
                            refine o_s (.t (.d (.lit (.bool true)))) (g0 rfl) rfl rfl rfl ?_
                            refine o_skip rfl rfl rfl rfl rfl rfl ?_
                            refine o_skip rfl rfl rfl rfl rfl rfl ?_
                            refine o_skip rfl rfl rfl rfl rfl rfl ?_
                            refine o_pk (.t (.d (.lit (.bool true)))) (b := true) rfl (g0 rfl) rfl rfl rfl rfl rfl ?_
                            refine o_s (.t (.d (.lit (.bool true)))) (g0 rfl) rfl rfl rfl ?_
                            refine o_skip rfl rfl rfl rfl rfl rfl ?_
                            refine o_skip rfl rfl rfl rfl rfl rfl ?_
                            refine o_skip rfl rfl rfl rfl rfl rfl ?_
                            refine o_skip rfl rfl rfl rfl rfl rfl ?_
                            refine o_pk (.t (.d (.lit (.bool true)))) (b := true) rfl (g0 rfl) rfl rfl rfl rfl rfl ?_
                            refine o_nil ?_
                            repeat (first | refine then_normal ?_ | refine then_exit ?_ | refine then_ret ?_ | refine block_normal ?_ | refine block_ret ?_ | refine block_exit ?_ | refine block_pass rfl ?_)
                            refine c_t rfl rfl ?_
                            refine c_seq ?_
                            refine c_region ?_
                            refine o_s (.t (.d (.lit (.bool false)))) (g0 rfl) rfl rfl rfl ?_
                            refine o_nil ?_
                            repeat (first | refine then_normal ?_ | refine then_exit ?_ | refine then_ret ?_ | refine block_normal ?_ | refine block_ret ?_ | refine block_exit ?_ | refine block_pass rfl ?_)
                            refine c_ret ?_
                            repeat (first | refine then_normal ?_ | refine then_exit ?_ | refine then_ret ?_ | refine block_normal ?_ | refine block_ret ?_ | refine block_exit ?_ | refine block_pass rfl ?_)
                            obtain rfl := Option.some.inj h
                            exact end0 rfl (.refl _)
                          · refine o_s (.ref 7 1) (gy rfl rfl rfl h16) rfl rfl rfl ?_
                            refine o_s (.t (.d (.lit (.int .i64 x13.Epoch)))) (gy rfl rfl rfl h16) rfl rfl rfl ?_
                            refine o_s (.t (.d (.lit (.bool (decide (x13.Epoch < 1)))))) (gy rfl rfl rfl h16) rfl rfl rfl ?_
                            refine o_pk (.t (.d (.lit (.bool (decide (x13.Epoch < 1)))))) (b := false) h16 (g0 rfl) rfl rfl rfl rfl rfl ?_
                            refine o_s (.t (.d (.lit (.bool (decide (x13.Epoch < 1)))))) (g0 rfl) rfl rfl rfl ?_
                            rcases bif_some h with ⟨h17, h⟩ | ⟨h17, h⟩
                            · refine o_skip rfl rfl rfl h17 rfl rfl ?_
                              refine o_skip rfl rfl rfl h17 rfl rfl ?_
                              refine o_skip rfl rfl rfl h17 rfl rfl ?_
                              refine o_pk (.t (.d (.lit (.bool true)))) (b := true) h17 (g0 rfl) rfl rfl rfl rfl rfl ?_
                              refine o_s (.t (.d (.lit (.bool true)))) (g0 rfl) rfl rfl rfl ?_
                              refine o_skip rfl rfl rfl rfl rfl rfl ?_
                              refine o_skip rfl rfl rfl rfl rfl rfl ?_
                              refine o_skip rfl rfl rfl rfl rfl rfl ?_
                              refine o_skip rfl rfl rfl rfl rfl rfl ?_
                              refine o_pk (.t (.d (.lit (.bool true)))) (b := true) rfl (g0 rfl) rfl rfl rfl rfl rfl ?_
                              refine o_nil ?_
                              repeat (first | refine then_normal ?_ | refine then_exit ?_ | refine then_ret ?_ | refine block_normal ?_ | refine block_ret ?_ | refine block_exit ?_ | refine block_pass rfl ?_)
                              refine c_t rfl rfl ?_
                              refine c_seq ?_
                              refine c_region ?_
                              refine o_s (.t (.d (.lit (.bool false)))) (g0 rfl) rfl rfl rfl ?_
                              refine o_nil ?_
                              repeat (first | refine then_normal ?_ | refine then_exit ?_ | refine then_ret ?_ | refine block_normal ?_ | refine block_ret ?_ | refine block_exit ?_ | refine block_pass rfl ?_)
                              refine c_ret ?_
                              repeat (first | refine then_normal ?_ | refine then_exit ?_ | refine then_ret ?_ | refine block_normal ?_ | refine block_ret ?_ | refine block_exit ?_ | refine block_pass rfl ?_)
                              obtain rfl := Option.some.inj h
                              exact end0 rfl (.refl _)
                            · refine o_s (.ref 7 1) (gy rfl rfl rfl h17) rfl rfl rfl ?_
                              refine o_s (.t (.d (.lit (.int .i64 x13.Epoch)))) (gy rfl rfl rfl h17) rfl rfl rfl ?_
                              refine o_s (.t (.d (.lit (.bool (decide (x13.Epoch > 1099511627776)))))) (gy rfl rfl rfl h17) rfl rfl rfl ?_
                              refine o_pk (.t (.d (.lit (.bool (decide (x13.Epoch > 1099511627776)))))) (b := false) h17 (g0 rfl) rfl rfl rfl rfl rfl ?_
                              refine o_s (.t (.d (.lit (.bool (decide (x13.Epoch > 1099511627776)))))) (g0 rfl) rfl rfl rfl ?_
                              rcases bif_some h with ⟨h18, h⟩ | ⟨h18, h⟩
                              · refine o_skip rfl rfl rfl h18 rfl rfl ?_
                                refine o_skip rfl rfl rfl h18 rfl rfl ?_
                                refine o_skip rfl rfl rfl h18 rfl rfl ?_
                                refine o_skip rfl rfl rfl h18 rfl rfl ?_
                                refine o_pk (.t (.d (.lit (.bool true)))) (b := true) h18 (g0 rfl) rfl rfl rfl rfl rfl ?_
                                refine o_nil ?_
                                repeat (first | refine then_normal ?_ | refine then_exit ?_ | refine then_ret ?_ | refine block_normal ?_ | refine block_ret ?_ | refine block_exit ?_ | refine block_pass rfl ?_)
                                refine c_t rfl rfl ?_
                                refine c_seq ?_
                                refine c_region ?_
                                refine o_s (.t (.d (.lit (.bool false)))) (g0 rfl) rfl rfl rfl ?_
                                refine o_nil ?_
                                repeat (first | refine then_normal ?_ | refine then_exit ?_ | refine then_ret ?_ | refine block_normal ?_ | refine block_ret ?_ | refine block_exit ?_ | refine block_pass rfl ?_)
                                refine c_ret ?_
                                repeat (first | refine then_normal ?_ | refine then_exit ?_ | refine then_ret ?_ | refine block_normal ?_ | refine block_ret ?_ | refine block_exit ?_ | refine block_pass rfl ?_)
                                obtain rfl := Option.some.inj h
                                exact end0 rfl (.refl _)
                              · refine o_s (.ref 7 3) (gy rfl rfl rfl h18) rfl rfl rfl ?_
                                refine o_s (.t (.d (.lit (.string ⟨⟨x13.By⟩⟩)))) (gy rfl rfl rfl h18) rfl rfl rfl ?_
                                obtain ⟨x19, h20, h⟩ := bind_some h
                                refine o_ca (fc_R25_Name _ _ h20) (gy rfl rfl rfl h18) rfl rfl rfl rfl rfl rfl rfl (.cons (.refl _) .nil) rfl rfl ?_
                                refine o_s (.t (.d (.lit (.bool (!x19))))) (gy rfl rfl rfl h18) rfl rfl rfl ?_
                                refine o_pk (.t (.d (.lit (.bool (!x19))))) (b := false) h18 (g0 rfl) rfl rfl rfl rfl rfl ?_
                                refine o_nil ?_
                                repeat (first | refine then_normal ?_ | refine then_exit ?_ | refine then_ret ?_ | refine block_normal ?_ | refine block_ret ?_ | refine block_exit ?_ | refine block_pass rfl ?_)
                                rcases bif_some h with ⟨h21, h⟩ | ⟨h21, h⟩
                                · refine c_t h21 rfl ?_
                                  refine c_seq ?_
                                  refine c_region ?_
                                  refine o_s (.t (.d (.lit (.bool false)))) (g0 rfl) rfl rfl rfl ?_
                                  refine o_nil ?_
                                  repeat (first | refine then_normal ?_ | refine then_exit ?_ | refine then_ret ?_ | refine block_normal ?_ | refine block_ret ?_ | refine block_exit ?_ | refine block_pass rfl ?_)
                                  refine c_ret ?_
                                  repeat (first | refine then_normal ?_ | refine then_exit ?_ | refine then_ret ?_ | refine block_normal ?_ | refine block_ret ?_ | refine block_exit ?_ | refine block_pass rfl ?_)
                                  obtain rfl := Option.some.inj h
                                  exact end0 rfl (.refl _)
                                · refine c_f h21 rfl ?_
                                  refine c_skip ?_
                                  repeat (first | refine then_normal ?_ | refine then_exit ?_ | refine then_ret ?_ | refine block_normal ?_ | refine block_ret ?_ | refine block_exit ?_ | refine block_pass rfl ?_)
                                  refine c_region ?_
                                  refine o_s (.t (.d (.lit (.int .i64 z11)))) (g0 rfl) rfl rfl rfl ?_
                                  refine o_s (.t (.d (.lit (.int .i64 (wi (z11 + 1)))))) (g0 rfl) rfl rfl rfl ?_
                                  refine o_s (.t (.d (.lit (.int .i64 (wi (z11 + 1)))))) (g0 rfl) rfl rfl rfl ?_
                                  refine o_nil ?_
                                  repeat (first | refine then_normal ?_ | refine then_exit ?_ | refine then_ret ?_ | refine block_normal ?_ | refine block_ret ?_ | refine block_exit ?_ | refine block_pass rfl ?_)
                                  exact ⟨nl5, (wi (z11 + 1)), Nat.lt_succ_self nl5, h, ⟨(.refl _), ⟨(.refl _), trivial⟩⟩, rfl⟩
                      · refine c_f h12 rfl ?_
                        refine c_exit ?_
                        repeat (first | refine then_normal ?_ | refine then_exit ?_ | refine then_ret ?_ | refine block_normal ?_ | refine block_ret ?_ | refine block_exit ?_ | refine block_pass rfl ?_)
                        exact ⟨(), h, ⟨(.refl _), trivial⟩, rfl⟩
                  · rintro ⟨⟩ h
                    refine c_seq ?_
                    refine c_region ?_
                    refine o_s (.t (.agg [.lit (.int .i64 p0.Err), .lit (.int .i64 p0.Number), .lit (.string ⟨⟨p0.By⟩⟩), .seq 1 (bytesD p0.Data), .seq 1 (List.map cStr p0.Names), .seq 2 (List.map cS_api_Member p0.Members), .seq 4 (List.map cS_api_Past p0.History)])) (g0 rfl) rfl rfl rfl ?_
                    obtain ⟨x9, h10, h⟩ := bind_some h
                    refine o_ca (fc_R31_Bytes _ _ h10) (g0 rfl) rfl rfl rfl rfl rfl rfl rfl (.cons (.refl _) .nil) rfl rfl ?_
                    refine o_c (g0 rfl) rfl rfl rfl (lenE _ _) trivial ?_
                    refine o_s (.t (.d (.lit (.bool (decide ((x9.length : Int) ≤ 1048576)))))) (g0 rfl) rfl rfl rfl ?_
                    refine o_s (.t (.d (.lit (.bool (decide ((x9.length : Int) ≤ 1048576)))))) (g0 rfl) rfl rfl rfl ?_
                    refine o_nil ?_
                    repeat (first | refine then_normal ?_ | refine then_exit ?_ | refine then_ret ?_ | refine block_normal ?_ | refine block_ret ?_ | refine block_exit ?_ | refine block_pass rfl ?_)
                    refine c_ret ?_
                    repeat (first | refine then_normal ?_ | refine then_exit ?_ | refine then_ret ?_ | refine block_normal ?_ | refine block_ret ?_ | refine block_exit ?_ | refine block_pass rfl ?_)
                    obtain rfl := Option.some.inj h
                    exact end0 rfl (.refl _)

theorem fc_R31_Read (p0 : (List UInt8)) (r : (S_api_Answer × Int)) (h : m_R31_Read p0 = some r) : FC Try.prog 7 [.t (.d (.seq 1 (bytesD p0)))] [] (.tup [.agg [.lit (.int .i64 r.1.Err), .lit (.int .i64 r.1.Number), .lit (.string ⟨⟨r.1.By⟩⟩), .seq 1 (bytesD r.1.Data), .seq 1 (List.map cStr r.1.Names), .seq 2 (List.map cS_api_Member r.1.Members), .seq 4 (List.map cS_api_Past r.1.History)], .d (.lit (.int .i64 r.2))]) := by
  refine fc_mk (rs := [.cell 2 29, .tmp 3]) (n := 177) Try.func7 rfl rfl (Nat.le_of_ble_eq_true rfl) rfl (pins := []) rfl (L := [(0, .t (.d (.seq 1 (bytesD p0))))]) rfl ?_
  refine c_seq ?_
  refine c_region ?_
  refine o_s (.box [.d (.lit (.int .i64 0)), .d (.lit (.int .i64 0)), .d (.lit (.string ⟨⟨[]⟩⟩)), .d (.lit (.slice none 0 0)), .d (.lit (.slice none 0 0)), .d (.lit (.slice none 0 0)), .d (.lit (.slice none 0 0))]) (g0 rfl) rfl rfl rfl ?_
  refine o_s (.t (.d (.lit (.int .i64 0)))) (g0 rfl) rfl rfl rfl ?_
  refine o_nil ?_
  repeat (first | refine then_normal ?_ | refine then_exit ?_ | refine then_ret ?_ | refine block_normal ?_ | refine block_ret ?_ | refine block_exit ?_ | refine block_pass rfl ?_)
  refine c_seq ?_
  refine c_region ?_
  refine o_s (.t (.d (.seq 1 (bytesD p0)))) (g0 rfl) rfl rfl rfl ?_
  obtain ⟨x1, h2, h⟩ := bind_some h
  refine o_ca (fc_R02_Decode _ _ h2) (g0 rfl) rfl rfl rfl rfl rfl rfl rfl (.cons (.refl _) .nil) rfl rfl ?_
  refine o_s (.tup [.agg [.lit (.int .i64 x1.1.k), .lit (.int .i64 x1.1.n), .seq 1 (bytesD x1.1.b), .seq 4 (List.map V.cells x1.1.l)], .d (.lit (.int .i64 x1.2))]) (g0 rfl) rfl rfl rfl ?_
  refine o_s (.t (.agg [.lit (.int .i64 x1.1.k), .lit (.int .i64 x1.1.n), .seq 1 (bytesD x1.1.b), .seq 4 (List.map V.cells x1.1.l)])) (g0 rfl) rfl rfl rfl ?_
  refine o_s (.t (.d (.lit (.int .i64 x1.2)))) (g0 rfl) rfl rfl rfl ?_
  refine o_s (.box [.d (.lit (.int .i64 0)), .d (.lit (.int .i64 0)), .d (.lit (.slice none 0 0)), .d (.lit (.slice none 0 0))]) (g0 rfl) rfl rfl rfl ?_
  refine o_st (.box [.d (.lit (.int .i64 x1.1.k)), .d (.lit (.int .i64 x1.1.n)), .d (.seq 1 (bytesD x1.1.b)), .d (.seq 4 (List.map V.cells x1.1.l))]) (g0 rfl) rfl rfl rfl ?_
  refine o_s (.t (.d (.lit (.int .i64 x1.2)))) (g0 rfl) rfl rfl rfl ?_
  refine o_nil ?_
  repeat (first | refine then_normal ?_ | refine then_exit ?_ | refine then_ret ?_ | refine block_normal ?_ | refine block_ret ?_ | refine block_exit ?_ | refine block_pass rfl ?_)
  refine c_seq ?_
  refine c_seq ?_
  refine c_region ?_
  refine o_s (.t (.d (.lit (.int .i64 x1.2)))) (g0 rfl) rfl rfl rfl ?_
  refine o_s (.t (.d (.lit (.bool (x1.2 != 0))))) (g0 rfl) rfl rfl rfl ?_
  refine o_nil ?_
  repeat (first | refine then_normal ?_ | refine then_exit ?_ | refine then_ret ?_ | refine block_normal ?_ | refine block_ret ?_ | refine block_exit ?_ | refine block_pass rfl ?_)
  rcases bif_some h with ⟨h3, h⟩ | ⟨h3, h⟩
  · refine c_t h3 rfl ?_
    refine c_seq ?_
    refine c_region ?_
    refine o_s (.t (.agg [.lit (.int .i64 0), .lit (.int .i64 0), .lit (.string ⟨⟨[]⟩⟩), .lit (.slice none 0 0), .lit (.slice none 0 0), .lit (.slice none 0 0), .lit (.slice none 0 0)])) (g0 rfl) rfl rfl rfl ?_
    refine o_s (.t (.d (.lit (.int .i64 x1.2)))) (g0 rfl) rfl rfl rfl ?_
    refine o_st (.box [.d (.lit (.int .i64 0)), .d (.lit (.int .i64 0)), .d (.lit (.string ⟨⟨[]⟩⟩)), .d (.lit (.slice none 0 0)), .d (.lit (.slice none 0 0)), .d (.lit (.slice none 0 0)), .d (.lit (.slice none 0 0))]) (g0 rfl) rfl rfl rfl ?_
    refine o_s (.t (.d (.lit (.int .i64 x1.2)))) (g0 rfl) rfl rfl rfl ?_
    refine o_nil ?_
    repeat (first | refine then_normal ?_ | refine then_exit ?_ | refine then_ret ?_ | refine block_normal ?_ | refine block_ret ?_ | refine block_exit ?_ | refine block_pass rfl ?_)
    refine c_ret ?_
    repeat (first | refine then_normal ?_ | refine then_exit ?_ | refine then_ret ?_ | refine block_normal ?_ | refine block_ret ?_ | refine block_exit ?_ | refine block_pass rfl ?_)
    obtain rfl := Option.some.inj h
    exact end0 rfl (.tup (.cons (.agg (.cons (.refl _) (.cons (.refl _) (.cons (.refl _) (.cons (.nil _) (.cons (.nil _) (.cons (.nil _) (.cons (.nil _) .nil)))))))) (.cons (.refl _) .nil)))
  · refine c_f h3 rfl ?_
    refine c_skip ?_
    repeat (first | refine then_normal ?_ | refine then_exit ?_ | refine then_ret ?_ | refine block_normal ?_ | refine block_ret ?_ | refine block_exit ?_ | refine block_pass rfl ?_)
    refine c_seq ?_
    refine c_seq ?_
    refine c_region ?_
    refine o_s (.t (.agg [.lit (.int .i64 x1.1.k), .lit (.int .i64 x1.1.n), .seq 1 (bytesD x1.1.b), .seq 4 (List.map V.cells x1.1.l)])) (g0 rfl) rfl rfl rfl ?_
    refine o_s (.t (.own 3 1 (List.map cI64 [1, 1, 2, 2, 3, 3, 3]))) (g0 rfl) rfl rfl rfl ?_
    obtain ⟨x4, h5, h⟩ := bind_some h
    refine o_ca (fc_R28_Kinds _ _ _ h5) (g0 rfl) rfl rfl rfl rfl rfl rfl rfl (.cons (.refl _) (.cons (.refl _) .nil)) rfl rfl ?_
    refine o_s (.t (.d (.lit (.bool (!x4))))) (g0 rfl) rfl rfl rfl ?_
    refine o_s (.t (.d (.lit (.bool (!x4))))) (g0 rfl) rfl rfl rfl ?_
    rcases bif_some h with ⟨h6, h⟩ | ⟨h6, h⟩
    · refine o_skip rfl rfl rfl h6 rfl rfl ?_
      refine o_skip rfl rfl rfl h6 rfl rfl ?_
      refine o_skip rfl rfl rfl h6 rfl rfl ?_
      refine o_skip rfl rfl rfl h6 rfl rfl ?_
      refine o_skip rfl rfl rfl h6 rfl rfl ?_
      refine o_skip rfl rfl rfl h6 rfl rfl ?_
      refine o_pk (.t (.d (.lit (.bool true)))) (b := true) h6 (g0 rfl) rfl rfl rfl rfl rfl ?_
      refine o_nil ?_
      repeat (first | refine then_normal ?_ | refine then_exit ?_ | refine then_ret ?_ | refine block_normal ?_ | refine block_ret ?_ | refine block_exit ?_ | refine block_pass rfl ?_)
      refine c_t rfl rfl ?_
      refine c_seq ?_
      refine c_region ?_
      refine o_s (.t (.agg [.lit (.int .i64 0), .lit (.int .i64 0), .lit (.string ⟨⟨[]⟩⟩), .lit (.slice none 0 0), .lit (.slice none 0 0), .lit (.slice none 0 0), .lit (.slice none 0 0)])) (g0 rfl) rfl rfl rfl ?_
      refine o_st (.box [.d (.lit (.int .i64 0)), .d (.lit (.int .i64 0)), .d (.lit (.string ⟨⟨[]⟩⟩)), .d (.lit (.slice none 0 0)), .d (.lit (.slice none 0 0)), .d (.lit (.slice none 0 0)), .d (.lit (.slice none 0 0))]) (g0 rfl) rfl rfl rfl ?_
      refine o_s (.t (.d (.lit (.int .i64 11)))) (g0 rfl) rfl rfl rfl ?_
      refine o_nil ?_
      repeat (first | refine then_normal ?_ | refine then_exit ?_ | refine then_ret ?_ | refine block_normal ?_ | refine block_ret ?_ | refine block_exit ?_ | refine block_pass rfl ?_)
      refine c_ret ?_
      repeat (first | refine then_normal ?_ | refine then_exit ?_ | refine then_ret ?_ | refine block_normal ?_ | refine block_ret ?_ | refine block_exit ?_ | refine block_pass rfl ?_)
      obtain rfl := Option.some.inj h
      exact end0 rfl (.tup (.cons (.agg (.cons (.refl _) (.cons (.refl _) (.cons (.refl _) (.cons (.nil _) (.cons (.nil _) (.cons (.nil _) (.cons (.nil _) .nil)))))))) (.cons (.refl _) .nil)))
    · refine o_s (.ref 4 3) (gy rfl rfl rfl h6) rfl rfl rfl ?_
      refine o_s (.t (.d (.seq 4 (List.map V.cells x1.1.l)))) (gy rfl rfl rfl h6) rfl rfl rfl ?_
      obtain ⟨x7, h8, h⟩ := bind_some h
      refine o_c (gy rfl rfl rfl h6) rfl rfl rfl (idxE' V.cells_eq h8) (idxC h8) ?_
      refine o_s (.imm [.lit (.int .i64 x7.n), .seq 1 (bytesD x7.b), .seq 4 (List.map V.cells x7.l)]) (gy rfl rfl rfl h6) rfl rfl rfl ?_
      refine o_s (.t (.d (.lit (.int .i64 x7.n)))) (gy rfl rfl rfl h6) rfl rfl rfl ?_
      refine o_s (.t (.d (.lit (.bool (decide (x7.n > 255)))))) (gy rfl rfl rfl h6) rfl rfl rfl ?_
      refine o_pk (.t (.d (.lit (.bool (decide (x7.n > 255)))))) (b := false) h6 (g0 rfl) rfl rfl rfl rfl rfl ?_
      refine o_nil ?_
      repeat (first | refine then_normal ?_ | refine then_exit ?_ | refine then_ret ?_ | refine block_normal ?_ | refine block_ret ?_ | refine block_exit ?_ | refine block_pass rfl ?_)
      rcases bif_some h with ⟨h9, h⟩ | ⟨h9, h⟩
      · refine c_t h9 rfl ?_
        refine c_seq ?_
        refine c_region ?_
        refine o_s (.t (.agg [.lit (.int .i64 0), .lit (.int .i64 0), .lit (.string ⟨⟨[]⟩⟩), .lit (.slice none 0 0), .lit (.slice none 0 0), .lit (.slice none 0 0), .lit (.slice none 0 0)])) (g0 rfl) rfl rfl rfl ?_
        refine o_st (.box [.d (.lit (.int .i64 0)), .d (.lit (.int .i64 0)), .d (.lit (.string ⟨⟨[]⟩⟩)), .d (.lit (.slice none 0 0)), .d (.lit (.slice none 0 0)), .d (.lit (.slice none 0 0)), .d (.lit (.slice none 0 0))]) (g0 rfl) rfl rfl rfl ?_
        refine o_s (.t (.d (.lit (.int .i64 11)))) (g0 rfl) rfl rfl rfl ?_
        refine o_nil ?_
        repeat (first | refine then_normal ?_ | refine then_exit ?_ | refine then_ret ?_ | refine block_normal ?_ | refine block_ret ?_ | refine block_exit ?_ | refine block_pass rfl ?_)
        refine c_ret ?_
        repeat (first | refine then_normal ?_ | refine then_exit ?_ | refine then_ret ?_ | refine block_normal ?_ | refine block_ret ?_ | refine block_exit ?_ | refine block_pass rfl ?_)
        obtain rfl := Option.some.inj h
        exact end0 rfl (.tup (.cons (.agg (.cons (.refl _) (.cons (.refl _) (.cons (.refl _) (.cons (.nil _) (.cons (.nil _) (.cons (.nil _) (.cons (.nil _) .nil)))))))) (.cons (.refl _) .nil)))
      · refine c_f h9 rfl ?_
        refine c_skip ?_
        repeat (first | refine then_normal ?_ | refine then_exit ?_ | refine then_ret ?_ | refine block_normal ?_ | refine block_ret ?_ | refine block_exit ?_ | refine block_pass rfl ?_)
        refine c_seq ?_
        refine c_region ?_
        refine o_s (.ref 4 3) (g0 rfl) rfl rfl rfl ?_
        refine o_s (.t (.d (.seq 4 (List.map V.cells x1.1.l)))) (g0 rfl) rfl rfl rfl ?_
        refine o_s (.t (.d (.seq 4 (List.map V.cells x1.1.l)))) (g0 rfl) rfl rfl rfl ?_
        refine o_nil ?_
        repeat (first | refine then_normal ?_ | refine then_exit ?_ | refine then_ret ?_ | refine block_normal ?_ | refine block_ret ?_ | refine block_exit ?_ | refine block_pass rfl ?_)
        refine c_seq ?_
        refine c_draw mixed (by kernel_rfl) ?_
        refine d_s (.t (.d (.seq 4 (List.map V.cells x1.1.l)))) rfl (dg0 rfl) rfl rfl rfl rfl ?_
        obtain ⟨x10, h11, h⟩ := bind_some h
        refine d_c rfl (dg0 rfl) rfl rfl rfl rfl (idxE' V.cells_eq h11) (idxC h11) ?_
        refine d_s (.imm [.lit (.int .i64 x10.n), .seq 1 (bytesD x10.b), .seq 4 (List.map V.cells x10.l)]) rfl (dg0 rfl) rfl rfl rfl rfl ?_
        refine d_s (.t (.d (.lit (.int .i64 x10.n)))) rfl (dg0 rfl) rfl rfl rfl rfl ?_
        refine d_s (.t (.d (.seq 4 (List.map V.cells x1.1.l)))) rfl (dg0 rfl) rfl rfl rfl rfl ?_
        obtain ⟨x12, h13, h⟩ := bind_some h
        refine d_c rfl (dg0 rfl) rfl rfl rfl rfl (idxE' V.cells_eq h13) (idxC h13) ?_
        refine d_s (.imm [.lit (.int .i64 x12.n), .seq 1 (bytesD x12.b), .seq 4 (List.map V.cells x12.l)]) rfl (dg0 rfl) rfl rfl rfl rfl ?_
        refine d_s (.t (.d (.lit (.int .i64 x12.n)))) rfl (dg0 rfl) rfl rfl rfl rfl ?_
        refine d_s (.t (.d (.seq 4 (List.map V.cells x1.1.l)))) rfl (dg0 rfl) rfl rfl rfl rfl ?_
        obtain ⟨x14, h15, h⟩ := bind_some h
        refine d_c rfl (dg0 rfl) rfl rfl rfl rfl (idxE' V.cells_eq h15) (idxC h15) ?_
        refine d_s (.imm [.seq 1 (bytesD x14.b), .seq 4 (List.map V.cells x14.l)]) rfl (dg0 rfl) rfl rfl rfl rfl ?_
        refine d_s (.t (.d (.seq 1 (bytesD x14.b)))) rfl (dg0 rfl) rfl rfl rfl rfl ?_
        refine d_c rfl (dg0 rfl) rfl rfl rfl rfl (strE _) (isB_bytes _) ?_
        refine d_s (.t (.d (.seq 4 (List.map V.cells x1.1.l)))) rfl (dg0 rfl) rfl rfl rfl rfl ?_
        obtain ⟨x16, h17, h⟩ := bind_some h
        refine d_c rfl (dg0 rfl) rfl rfl rfl rfl (idxE' V.cells_eq h17) (idxC h17) ?_
        refine d_s (.imm [.seq 1 (bytesD x16.b), .seq 4 (List.map V.cells x16.l)]) rfl (dg0 rfl) rfl rfl rfl rfl ?_
        refine d_s (.t (.d (.seq 1 (bytesD x16.b)))) rfl (dg0 rfl) rfl rfl rfl rfl ?_
        refine d_s (.t (.agg [.lit (.int .i64 x10.n), .lit (.int .i64 x12.n), .lit (.string ⟨⟨x14.b⟩⟩), .seq 1 (bytesD x16.b), .lit (.slice none 0 0), .lit (.slice none 0 0), .lit (.slice none 0 0)])) rfl (dg0 rfl) rfl rfl rfl rfl ?_
        refine d_s (.box [.d (.lit (.int .i64 0)), .d (.lit (.int .i64 0)), .d (.lit (.string ⟨⟨[]⟩⟩)), .d (.lit (.slice none 0 0)), .d (.lit (.slice none 0 0)), .d (.lit (.slice none 0 0)), .d (.lit (.slice none 0 0))]) rfl (dg0 rfl) rfl rfl rfl rfl ?_
        refine d_st (.box [.d (.lit (.int .i64 x10.n)), .d (.lit (.int .i64 x12.n)), .d (.lit (.string ⟨⟨x14.b⟩⟩)), .d (.seq 1 (bytesD x16.b)), .d (.lit (.slice none 0 0)), .d (.lit (.slice none 0 0)), .d (.lit (.slice none 0 0))]) rfl (dg0 rfl) rfl rfl rfl rfl ?_
        refine d_nil (by kernel_rfl) ?_
        repeat (first | refine then_normal ?_ | refine then_exit ?_ | refine then_ret ?_ | refine block_normal ?_ | refine block_ret ?_ | refine block_exit ?_ | refine block_pass rfl ?_)
        refine c_cut (fun (y18 : (List (List UInt8))) => [(0, .t (.d (.seq 1 (bytesD p0)))), (2, .box [.d (.lit (.int .i64 0)), .d (.lit (.int .i64 0)), .d (.lit (.string ⟨⟨[]⟩⟩)), .d (.lit (.slice none 0 0)), .d (.lit (.slice none 0 0)), .d (.lit (.slice none 0 0)), .d (.lit (.slice none 0 0))]), (6, .t (.d (.seq 4 (List.map V.cells x1.1.l)))), (7, .box [.d (.lit (.int .i64 x10.n)), .d (.lit (.int .i64 x12.n)), .d (.lit (.string ⟨⟨x14.b⟩⟩)), .d (.seq 1 (bytesD x16.b)), .own 9 1 (List.map cStr y18), .d (.lit (.slice none 0 0)), .d (.lit (.slice none 0 0))])]) (fun (y18 : (List (List UInt8))) => m_R31_Read_j1 x1 x10 x12 x14 x16 p0 y18 = some r) ?_ ?_
        · refine c_seq ?_
          refine c_region ?_
          refine o_s (.t (.d (.lit (.int .i64 0)))) (g0 rfl) rfl rfl rfl ?_
          refine o_nil ?_
          repeat (first | refine then_normal ?_ | refine then_exit ?_ | refine then_ret ?_ | refine block_normal ?_ | refine block_ret ?_ | refine block_exit ?_ | refine block_pass rfl ?_)
          refine c_block ?_
          refine c_fuel (fun (q : (List (List UInt8)) × Int) => [(0, .t (.d (.seq 1 (bytesD p0)))), (2, .box [.d (.lit (.int .i64 0)), .d (.lit (.int .i64 0)), .d (.lit (.string ⟨⟨[]⟩⟩)), .d (.lit (.slice none 0 0)), .d (.lit (.slice none 0 0)), .d (.lit (.slice none 0 0)), .d (.lit (.slice none 0 0))]), (6, .t (.d (.seq 4 (List.map V.cells x1.1.l)))), (7, .box [.d (.lit (.int .i64 x10.n)), .d (.lit (.int .i64 x12.n)), .d (.lit (.string ⟨⟨x14.b⟩⟩)), .d (.seq 1 (bytesD x16.b)), .own 9 1 (List.map cStr q.1), .d (.lit (.slice none 0 0)), .d (.lit (.slice none 0 0))]), (8, .t (.d (.lit (.int .i64 q.2))))]) (fun nl6 => (fun (q : (List (List UInt8)) × Int) => m_R31_Read_l6 x1 x10 x12 x14 x16 p0 nl6 q.1 q.2 = some r)) (4098) ([], 0) h ⟨(.refl _), ⟨(.refl _), ⟨(.refl _), ⟨(.box (.cons (.refl _) (.cons (.refl _) (.cons (.refl _) (.cons (.refl _) (.cons (.nilOwn _ _) (.cons (.refl _) (.cons (.refl _) .nil))))))) rfl), ⟨(.refl _), trivial⟩⟩⟩⟩⟩ rfl ?_
          rintro nl6 ⟨z69, z70⟩ h
          cases nl6 with
          | zero => exact none_ne h
          | succ nl6 =>
            refine c_seq ?_
            refine c_seq ?_
            refine c_region ?_
            refine o_s (.t (.d (.lit (.int .i64 z70)))) (g0 rfl) rfl rfl rfl ?_
            refine o_s (.t (.d (.seq 4 (List.map V.cells x1.1.l)))) (g0 rfl) rfl rfl rfl ?_
            obtain ⟨x71, h72, h⟩ := bind_some h
            refine o_c (g0 rfl) rfl rfl rfl (idxE' V.cells_eq h72) (idxC h72) ?_
            refine o_s (.imm [.seq 4 (List.map V.cells x71.l)]) (g0 rfl) rfl rfl rfl ?_
            refine o_s (.t (.d (.seq 4 (List.map V.cells x71.l)))) (g0 rfl) rfl rfl rfl ?_
            refine o_c (g0 rfl) rfl rfl rfl (lenE _ _) trivial ?_
            refine o_s (.t (.d (.lit (.bool (decide (z70 < (x71.l.length : Int))))))) (g0 rfl) rfl rfl rfl ?_
            refine o_nil ?_
            repeat (first | refine then_normal ?_ | refine then_exit ?_ | refine then_ret ?_ | refine block_normal ?_ | refine block_ret ?_ | refine block_exit ?_ | refine block_pass rfl ?_)
            rcases bif_some h with ⟨h73, h⟩ | ⟨h73, h⟩
            · refine c_t h73 rfl ?_
              refine c_skip ?_
              repeat (first | refine then_normal ?_ | refine then_exit ?_ | refine then_ret ?_ | refine block_normal ?_ | refine block_ret ?_ | refine block_exit ?_ | refine block_pass rfl ?_)
              refine c_seq ?_
              refine c_block ?_
              refine c_draw mixed (by kernel_rfl) ?_
              refine d_s (.ref 7 4) rfl (dg0 rfl) rfl rfl rfl rfl ?_
              refine d_2 (.box [.d (.lit (.int .i64 x10.n)), .d (.lit (.int .i64 x12.n)), .d (.lit (.string ⟨⟨x14.b⟩⟩)), .d (.seq 1 (bytesD x16.b)), .d (.seq 1 (List.map cStr z69)), .d (.lit (.slice none 0 0)), .d (.lit (.slice none 0 0))]) (.t (.own 9 1 (List.map cStr z69))) rfl (dg0 rfl) rfl rfl rfl rfl rfl ?_
              refine d_s (.t (.d (.seq 4 (List.map V.cells x1.1.l)))) rfl (dg0 rfl) rfl rfl rfl rfl ?_
              obtain ⟨x74, h75, h⟩ := bind_some h
              refine d_c rfl (dg0 rfl) rfl rfl rfl rfl (idxE' V.cells_eq h75) (idxC h75) ?_
              refine d_s (.imm [.seq 4 (List.map V.cells x74.l)]) rfl (dg0 rfl) rfl rfl rfl rfl ?_
              refine d_s (.t (.d (.seq 4 (List.map V.cells x74.l)))) rfl (dg0 rfl) rfl rfl rfl rfl ?_
              refine d_s (.t (.d (.lit (.int .i64 z70)))) rfl (dg0 rfl) rfl rfl rfl rfl ?_
              obtain ⟨x76, h77, h⟩ := bind_some h
              refine d_c rfl (dg0 rfl) rfl rfl rfl rfl (idxE' V.cells_eq h77) (idxC h77) ?_
              refine d_s (.imm [.seq 1 (bytesD x76.b), .seq 4 (List.map V.cells x76.l)]) rfl (dg0 rfl) rfl rfl rfl rfl ?_
              refine d_s (.t (.d (.seq 1 (bytesD x76.b)))) rfl (dg0 rfl) rfl rfl rfl rfl ?_
              refine d_c rfl (dg0 rfl) rfl rfl rfl rfl (strE _) (isB_bytes _) ?_
              refine d_s (.t (.own 9 1 (List.map cStr [x76.b]))) rfl (dg0 rfl) rfl rfl rfl rfl ?_
              obtain ⟨x78, h79, h⟩ := bind_some h
              refine d_2c rfl (dg0 rfl) rfl rfl rfl rfl rfl (appE (c := cStr) h79) (appC (c := cStr) h79) ?_
              refine d_s (.ref 7 4) rfl (dg0 rfl) rfl rfl rfl rfl ?_
              refine d_st2 (.t (.d (.seq 1 (List.map cStr x78)))) (.box [.d (.lit (.int .i64 x10.n)), .d (.lit (.int .i64 x12.n)), .d (.lit (.string ⟨⟨x14.b⟩⟩)), .d (.seq 1 (bytesD x16.b)), .own 9 1 (List.map cStr x78), .d (.lit (.slice none 0 0)), .d (.lit (.slice none 0 0))]) rfl (dg0 rfl) rfl rfl rfl rfl rfl ?_
              refine d_nil (by kernel_rfl) ?_
              repeat (first | refine then_normal ?_ | refine then_exit ?_ | refine then_ret ?_ | refine block_normal ?_ | refine block_ret ?_ | refine block_exit ?_ | refine block_pass rfl ?_)
              refine c_region ?_
              refine o_s (.t (.d (.lit (.int .i64 z70)))) (g0 rfl) rfl rfl rfl ?_
              refine o_s (.t (.d (.lit (.int .i64 (wi (z70 + 1)))))) (g0 rfl) rfl rfl rfl ?_
              refine o_s (.t (.d (.lit (.int .i64 (wi (z70 + 1)))))) (g0 rfl) rfl rfl rfl ?_
              refine o_nil ?_
              repeat (first | refine then_normal ?_ | refine then_exit ?_ | refine then_ret ?_ | refine block_normal ?_ | refine block_ret ?_ | refine block_exit ?_ | refine block_pass rfl ?_)
              exact ⟨nl6, (x78, (wi (z70 + 1))), Nat.lt_succ_self nl6, h, ⟨(.refl _), ⟨(.refl _), ⟨(.refl _), ⟨(.refl _), ⟨(.refl _), trivial⟩⟩⟩⟩⟩, rfl⟩
            · refine c_f h73 rfl ?_
              refine c_exit ?_
              repeat (first | refine then_normal ?_ | refine then_exit ?_ | refine then_ret ?_ | refine block_normal ?_ | refine block_ret ?_ | refine block_exit ?_ | refine block_pass rfl ?_)
              exact ⟨z69, h, ⟨(.refl _), ⟨(.refl _), ⟨(.refl _), ⟨(.refl _), trivial⟩⟩⟩⟩, rfl⟩
        · rintro y18 h
          refine c_cut (fun (y19 : (List S_api_Member)) => [(0, .t (.d (.seq 1 (bytesD p0)))), (2, .box [.d (.lit (.int .i64 0)), .d (.lit (.int .i64 0)), .d (.lit (.string ⟨⟨[]⟩⟩)), .d (.lit (.slice none 0 0)), .d (.lit (.slice none 0 0)), .d (.lit (.slice none 0 0)), .d (.lit (.slice none 0 0))]), (6, .t (.d (.seq 4 (List.map V.cells x1.1.l)))), (7, .box [.d (.lit (.int .i64 x10.n)), .d (.lit (.int .i64 x12.n)), .d (.lit (.string ⟨⟨x14.b⟩⟩)), .d (.seq 1 (bytesD x16.b)), .own 9 1 (List.map cStr y18), .own 60 2 (List.map cS_api_Member y19), .d (.lit (.slice none 0 0))])]) (fun (y19 : (List S_api_Member)) => m_R31_Read_j2 x1 x10 x12 x14 x16 y18 p0 y19 = some r) ?_ ?_
          · refine c_seq ?_
            refine c_region ?_
            refine o_s (.t (.d (.lit (.int .i64 0)))) (g0 rfl) rfl rfl rfl ?_
            refine o_nil ?_
            repeat (first | refine then_normal ?_ | refine then_exit ?_ | refine then_ret ?_ | refine block_normal ?_ | refine block_ret ?_ | refine block_exit ?_ | refine block_pass rfl ?_)
            refine c_block ?_
            refine c_fuel (fun (q : (List S_api_Member) × Int) => [(0, .t (.d (.seq 1 (bytesD p0)))), (2, .box [.d (.lit (.int .i64 0)), .d (.lit (.int .i64 0)), .d (.lit (.string ⟨⟨[]⟩⟩)), .d (.lit (.slice none 0 0)), .d (.lit (.slice none 0 0)), .d (.lit (.slice none 0 0)), .d (.lit (.slice none 0 0))]), (6, .t (.d (.seq 4 (List.map V.cells x1.1.l)))), (7, .box [.d (.lit (.int .i64 x10.n)), .d (.lit (.int .i64 x12.n)), .d (.lit (.string ⟨⟨x14.b⟩⟩)), .d (.seq 1 (bytesD x16.b)), .own 9 1 (List.map cStr y18), .own 60 2 (List.map cS_api_Member q.1), .d (.lit (.slice none 0 0))]), (9, .t (.d (.lit (.int .i64 q.2))))]) (fun nl5 => (fun (q : (List S_api_Member) × Int) => m_R31_Read_l5 x1 x10 x12 x14 x16 y18 p0 nl5 q.1 q.2 = some r)) (4098) ([], 0) h ⟨(.refl _), ⟨(.refl _), ⟨(.refl _), ⟨(.box (.cons (.refl _) (.cons (.refl _) (.cons (.refl _) (.cons (.refl _) (.cons (.refl _) (.cons (.nilOwn _ _) (.cons (.refl _) .nil))))))) rfl), ⟨(.refl _), trivial⟩⟩⟩⟩⟩ rfl ?_
            rintro nl5 ⟨z51, z52⟩ h
            cases nl5 with
            | zero => exact none_ne h
            | succ nl5 =>
              refine c_seq ?_
              refine c_seq ?_
              refine c_region ?_
              refine o_s (.t (.d (.lit (.int .i64 z52)))) (g0 rfl) rfl rfl rfl ?_
              refine o_s (.t (.d (.seq 4 (List.map V.cells x1.1.l)))) (g0 rfl) rfl rfl rfl ?_
              obtain ⟨x53, h54, h⟩ := bind_some h
              refine o_c (g0 rfl) rfl rfl rfl (idxE' V.cells_eq h54) (idxC h54) ?_
              refine o_s (.imm [.seq 4 (List.map V.cells x53.l)]) (g0 rfl) rfl rfl rfl ?_
              refine o_s (.t (.d (.seq 4 (List.map V.cells x53.l)))) (g0 rfl) rfl rfl rfl ?_
              refine o_c (g0 rfl) rfl rfl rfl (lenE _ _) trivial ?_
              refine o_s (.t (.d (.lit (.bool (decide (z52 < (x53.l.length : Int))))))) (g0 rfl) rfl rfl rfl ?_
              refine o_nil ?_
              repeat (first | refine then_normal ?_ | refine then_exit ?_ | refine then_ret ?_ | refine block_normal ?_ | refine block_ret ?_ | refine block_exit ?_ | refine block_pass rfl ?_)
              rcases bif_some h with ⟨h55, h⟩ | ⟨h55, h⟩
              · refine c_t h55 rfl ?_
                refine c_skip ?_
                repeat (first | refine then_normal ?_ | refine then_exit ?_ | refine then_ret ?_ | refine block_normal ?_ | refine block_ret ?_ | refine block_exit ?_ | refine block_pass rfl ?_)
                refine c_seq ?_
                refine c_block ?_
                refine c_seq ?_
                refine c_region ?_
                refine o_s (.t (.d (.seq 4 (List.map V.cells x1.1.l)))) (g0 rfl) rfl rfl rfl ?_
                obtain ⟨x56, h57, h⟩ := bind_some h
                refine o_c (g0 rfl) rfl rfl rfl (idxE' V.cells_eq h57) (idxC h57) ?_
                refine o_s (.imm [.seq 4 (List.map V.cells x56.l)]) (g0 rfl) rfl rfl rfl ?_
                refine o_s (.t (.d (.seq 4 (List.map V.cells x56.l)))) (g0 rfl) rfl rfl rfl ?_
                refine o_s (.t (.d (.lit (.int .i64 z52)))) (g0 rfl) rfl rfl rfl ?_
                obtain ⟨x58, h59, h⟩ := bind_some h
                refine o_c (g0 rfl) rfl rfl rfl (idxE' V.cells_eq h59) (idxC h59) ?_
                refine o_s (.t (.agg [.lit (.int .i64 x58.k), .lit (.int .i64 x58.n), .seq 1 (bytesD x58.b), .seq 4 (List.map V.cells x58.l)])) (g0 rfl) rfl rfl rfl ?_
                refine o_s (.box [.d (.lit (.int .i64 0)), .d (.lit (.int .i64 0)), .d (.lit (.slice none 0 0)), .d (.lit (.slice none 0 0))]) (g0 rfl) rfl rfl rfl ?_
                refine o_st (.box [.d (.lit (.int .i64 x58.k)), .d (.lit (.int .i64 x58.n)), .d (.seq 1 (bytesD x58.b)), .d (.seq 4 (List.map V.cells x58.l))]) (g0 rfl) rfl rfl rfl ?_
                refine o_nil ?_
                repeat (first | refine then_normal ?_ | refine then_exit ?_ | refine then_ret ?_ | refine block_normal ?_ | refine block_ret ?_ | refine block_exit ?_ | refine block_pass rfl ?_)
                refine c_seq ?_
                refine c_seq ?_
                refine c_region ?_
                refine o_s (.t (.agg [.lit (.int .i64 x58.k), .lit (.int .i64 x58.n), .seq 1 (bytesD x58.b), .seq 4 (List.map V.cells x58.l)])) (g0 rfl) rfl rfl rfl ?_
                refine o_s (.t (.own 3 1 (List.map cI64 [2, 1]))) (g0 rfl) rfl rfl rfl ?_
                obtain ⟨x60, h61, h⟩ := bind_some h
                refine o_ca (fc_R28_Kinds _ _ _ h61) (g0 rfl) rfl rfl rfl rfl rfl rfl rfl (.cons (.refl _) (.cons (.refl _) .nil)) rfl rfl ?_
                refine o_s (.t (.d (.lit (.bool (!x60))))) (g0 rfl) rfl rfl rfl ?_
                refine o_nil ?_
                repeat (first | refine then_normal ?_ | refine then_exit ?_ | refine then_ret ?_ | refine block_normal ?_ | refine block_ret ?_ | refine block_exit ?_ | refine block_pass rfl ?_)
                rcases bif_some h with ⟨h62, h⟩ | ⟨h62, h⟩
                · refine c_t h62 rfl ?_
                  refine c_seq ?_
                  refine c_region ?_
                  refine o_s (.t (.agg [.lit (.int .i64 0), .lit (.int .i64 0), .lit (.string ⟨⟨[]⟩⟩), .lit (.slice none 0 0), .lit (.slice none 0 0), .lit (.slice none 0 0), .lit (.slice none 0 0)])) (g0 rfl) rfl rfl rfl ?_
                  refine o_st (.box [.d (.lit (.int .i64 0)), .d (.lit (.int .i64 0)), .d (.lit (.string ⟨⟨[]⟩⟩)), .d (.lit (.slice none 0 0)), .d (.lit (.slice none 0 0)), .d (.lit (.slice none 0 0)), .d (.lit (.slice none 0 0))]) (g0 rfl) rfl rfl rfl ?_
                  refine o_s (.t (.d (.lit (.int .i64 11)))) (g0 rfl) rfl rfl rfl ?_
                  refine o_nil ?_
                  repeat (first | refine then_normal ?_ | refine then_exit ?_ | refine then_ret ?_ | refine block_normal ?_ | refine block_ret ?_ | refine block_exit ?_ | refine block_pass rfl ?_)
                  refine c_ret ?_
                  repeat (first | refine then_normal ?_ | refine then_exit ?_ | refine then_ret ?_ | refine block_normal ?_ | refine block_ret ?_ | refine block_exit ?_ | refine block_pass rfl ?_)
                  obtain rfl := Option.some.inj h
                  exact end0 rfl (.tup (.cons (.agg (.cons (.refl _) (.cons (.refl _) (.cons (.refl _) (.cons (.nil _) (.cons (.nil _) (.cons (.nil _) (.cons (.nil _) .nil)))))))) (.cons (.refl _) .nil)))
                · refine c_f h62 rfl ?_
                  refine c_skip ?_
                  repeat (first | refine then_normal ?_ | refine then_exit ?_ | refine then_ret ?_ | refine block_normal ?_ | refine block_ret ?_ | refine block_exit ?_ | refine block_pass rfl ?_)
                  refine c_draw mixed (by kernel_rfl) ?_
                  refine d_s (.ref 7 5) rfl (dg0 rfl) rfl rfl rfl rfl ?_
                  refine d_2 (.box [.d (.lit (.int .i64 x10.n)), .d (.lit (.int .i64 x12.n)), .d (.lit (.string ⟨⟨x14.b⟩⟩)), .d (.seq 1 (bytesD x16.b)), .own 9 1 (List.map cStr y18), .d (.seq 2 (List.map cS_api_Member z51)), .d (.lit (.slice none 0 0))]) (.t (.own 60 2 (List.map cS_api_Member z51))) rfl (dg0 rfl) rfl rfl rfl rfl rfl ?_
                  refine d_s (.ref 10 3) rfl (dg0 rfl) rfl rfl rfl rfl ?_
                  refine d_s (.t (.d (.seq 4 (List.map V.cells x58.l)))) rfl (dg0 rfl) rfl rfl rfl rfl ?_
                  obtain ⟨x63, h64, h⟩ := bind_some h
                  refine d_c rfl (dg0 rfl) rfl rfl rfl rfl (idxE' V.cells_eq h64) (idxC h64) ?_
                  refine d_s (.imm [.seq 1 (bytesD x63.b), .seq 4 (List.map V.cells x63.l)]) rfl (dg0 rfl) rfl rfl rfl rfl ?_
                  refine d_s (.t (.d (.seq 1 (bytesD x63.b)))) rfl (dg0 rfl) rfl rfl rfl rfl ?_
                  refine d_c rfl (dg0 rfl) rfl rfl rfl rfl (strE _) (isB_bytes _) ?_
                  refine d_s (.ref 10 3) rfl (dg0 rfl) rfl rfl rfl rfl ?_
                  refine d_s (.t (.d (.seq 4 (List.map V.cells x58.l)))) rfl (dg0 rfl) rfl rfl rfl rfl ?_
                  obtain ⟨x65, h66, h⟩ := bind_some h
                  refine d_c rfl (dg0 rfl) rfl rfl rfl rfl (idxE' V.cells_eq h66) (idxC h66) ?_
                  refine d_s (.imm [.lit (.int .i64 x65.n), .seq 1 (bytesD x65.b), .seq 4 (List.map V.cells x65.l)]) rfl (dg0 rfl) rfl rfl rfl rfl ?_
                  refine d_s (.t (.d (.lit (.int .i64 x65.n)))) rfl (dg0 rfl) rfl rfl rfl rfl ?_
                  refine d_s (.t (.agg [.lit (.string ⟨⟨x63.b⟩⟩), .lit (.int .i64 x65.n)])) rfl (dg0 rfl) rfl rfl rfl rfl ?_
                  refine d_s (.t (.own 60 2 (List.map cS_api_Member [(S_api_Member.mk x63.b x65.n)]))) rfl (dg0 rfl) rfl rfl rfl rfl ?_
                  obtain ⟨x67, h68, h⟩ := bind_some h
                  refine d_2c rfl (dg0 rfl) rfl rfl rfl rfl rfl (appE (c := cS_api_Member) h68) (appC (c := cS_api_Member) h68) ?_
                  refine d_s (.ref 7 5) rfl (dg0 rfl) rfl rfl rfl rfl ?_
                  refine d_st2 (.t (.d (.seq 2 (List.map cS_api_Member x67)))) (.box [.d (.lit (.int .i64 x10.n)), .d (.lit (.int .i64 x12.n)), .d (.lit (.string ⟨⟨x14.b⟩⟩)), .d (.seq 1 (bytesD x16.b)), .own 9 1 (List.map cStr y18), .own 60 2 (List.map cS_api_Member x67), .d (.lit (.slice none 0 0))]) rfl (dg0 rfl) rfl rfl rfl rfl rfl ?_
                  refine d_nil (by kernel_rfl) ?_
                  repeat (first | refine then_normal ?_ | refine then_exit ?_ | refine then_ret ?_ | refine block_normal ?_ | refine block_ret ?_ | refine block_exit ?_ | refine block_pass rfl ?_)
                  refine c_region ?_
                  refine o_s (.t (.d (.lit (.int .i64 z52)))) (g0 rfl) rfl rfl rfl ?_
                  refine o_s (.t (.d (.lit (.int .i64 (wi (z52 + 1)))))) (g0 rfl) rfl rfl rfl ?_
                  refine o_s (.t (.d (.lit (.int .i64 (wi (z52 + 1)))))) (g0 rfl) rfl rfl rfl ?_
                  refine o_nil ?_
                  repeat (first | refine then_normal ?_ | refine then_exit ?_ | refine then_ret ?_ | refine block_normal ?_ | refine block_ret ?_ | refine block_exit ?_ | refine block_pass rfl ?_)
                  exact ⟨nl5, (x67, (wi (z52 + 1))), Nat.lt_succ_self nl5, h, ⟨(.refl _), ⟨(.refl _), ⟨(.refl _), ⟨(.refl _), ⟨(.refl _), trivial⟩⟩⟩⟩⟩, rfl⟩
              · refine c_f h55 rfl ?_
                refine c_exit ?_
                repeat (first | refine then_normal ?_ | refine then_exit ?_ | refine then_ret ?_ | refine block_normal ?_ | refine block_ret ?_ | refine block_exit ?_ | refine block_pass rfl ?_)
                exact ⟨z51, h, ⟨(.refl _), ⟨(.refl _), ⟨(.refl _), ⟨(.refl _), trivial⟩⟩⟩⟩, rfl⟩
          · rintro y19 h
            refine c_cut (fun (y20 : (List S_api_Past)) => [(0, .t (.d (.seq 1 (bytesD p0)))), (2, .box [.d (.lit (.int .i64 0)), .d (.lit (.int .i64 0)), .d (.lit (.string ⟨⟨[]⟩⟩)), .d (.lit (.slice none 0 0)), .d (.lit (.slice none 0 0)), .d (.lit (.slice none 0 0)), .d (.lit (.slice none 0 0))]), (7, .box [.d (.lit (.int .i64 x10.n)), .d (.lit (.int .i64 x12.n)), .d (.lit (.string ⟨⟨x14.b⟩⟩)), .d (.seq 1 (bytesD x16.b)), .own 9 1 (List.map cStr y18), .own 60 2 (List.map cS_api_Member y19), .own 65 4 (List.map cS_api_Past y20)])]) (fun (y20 : (List S_api_Past)) => m_R31_Read_j3 x10 x12 x14 x16 y18 y19 p0 y20 = some r) ?_ ?_
            · refine c_seq ?_
              refine c_region ?_
              refine o_s (.t (.d (.lit (.int .i64 0)))) (g0 rfl) rfl rfl rfl ?_
              refine o_nil ?_
              repeat (first | refine then_normal ?_ | refine then_exit ?_ | refine then_ret ?_ | refine block_normal ?_ | refine block_ret ?_ | refine block_exit ?_ | refine block_pass rfl ?_)
              refine c_block ?_
              refine c_fuel (fun (q : (List S_api_Past) × Int) => [(0, .t (.d (.seq 1 (bytesD p0)))), (2, .box [.d (.lit (.int .i64 0)), .d (.lit (.int .i64 0)), .d (.lit (.string ⟨⟨[]⟩⟩)), .d (.lit (.slice none 0 0)), .d (.lit (.slice none 0 0)), .d (.lit (.slice none 0 0)), .d (.lit (.slice none 0 0))]), (6, .t (.d (.seq 4 (List.map V.cells x1.1.l)))), (7, .box [.d (.lit (.int .i64 x10.n)), .d (.lit (.int .i64 x12.n)), .d (.lit (.string ⟨⟨x14.b⟩⟩)), .d (.seq 1 (bytesD x16.b)), .own 9 1 (List.map cStr y18), .own 60 2 (List.map cS_api_Member y19), .own 65 4 (List.map cS_api_Past q.1)]), (11, .t (.d (.lit (.int .i64 q.2))))]) (fun nl4 => (fun (q : (List S_api_Past) × Int) => m_R31_Read_l4 x1 x10 x12 x14 x16 y18 y19 p0 nl4 q.1 q.2 = some r)) (4098) ([], 0) h ⟨(.refl _), ⟨(.refl _), ⟨(.refl _), ⟨(.box (.cons (.refl _) (.cons (.refl _) (.cons (.refl _) (.cons (.refl _) (.cons (.refl _) (.cons (.refl _) (.cons (.nilOwn _ _) .nil))))))) rfl), ⟨(.refl _), trivial⟩⟩⟩⟩⟩ rfl ?_
              rintro nl4 ⟨z29, z30⟩ h
              cases nl4 with
              | zero => exact none_ne h
              | succ nl4 =>
                refine c_seq ?_
                refine c_seq ?_
                refine c_region ?_
                refine o_s (.t (.d (.lit (.int .i64 z30)))) (g0 rfl) rfl rfl rfl ?_
                refine o_s (.t (.d (.seq 4 (List.map V.cells x1.1.l)))) (g0 rfl) rfl rfl rfl ?_
                obtain ⟨x31, h32, h⟩ := bind_some h
                refine o_c (g0 rfl) rfl rfl rfl (idxE' V.cells_eq h32) (idxC h32) ?_
                refine o_s (.imm [.seq 4 (List.map V.cells x31.l)]) (g0 rfl) rfl rfl rfl ?_
                refine o_s (.t (.d (.seq 4 (List.map V.cells x31.l)))) (g0 rfl) rfl rfl rfl ?_
                refine o_c (g0 rfl) rfl rfl rfl (lenE _ _) trivial ?_
                refine o_s (.t (.d (.lit (.bool (decide (z30 < (x31.l.length : Int))))))) (g0 rfl) rfl rfl rfl ?_
                refine o_nil ?_
                repeat (first | refine then_normal ?_ | refine then_exit ?_ | refine then_ret ?_ | refine block_normal ?_ | refine block_ret ?_ | refine block_exit ?_ | refine block_pass rfl ?_)
                rcases bif_some h with ⟨h33, h⟩ | ⟨h33, h⟩
                · refine c_t h33 rfl ?_
                  refine c_skip ?_
                  repeat (first | refine then_normal ?_ | refine then_exit ?_ | refine then_ret ?_ | refine block_normal ?_ | refine block_ret ?_ | refine block_exit ?_ | refine block_pass rfl ?_)
                  refine c_seq ?_
                  refine c_block ?_
                  refine c_seq ?_
                  refine c_region ?_
                  refine o_s (.t (.d (.seq 4 (List.map V.cells x1.1.l)))) (g0 rfl) rfl rfl rfl ?_
                  obtain ⟨x34, h35, h⟩ := bind_some h
                  refine o_c (g0 rfl) rfl rfl rfl (idxE' V.cells_eq h35) (idxC h35) ?_
                  refine o_s (.imm [.seq 4 (List.map V.cells x34.l)]) (g0 rfl) rfl rfl rfl ?_
                  refine o_s (.t (.d (.seq 4 (List.map V.cells x34.l)))) (g0 rfl) rfl rfl rfl ?_
                  refine o_s (.t (.d (.lit (.int .i64 z30)))) (g0 rfl) rfl rfl rfl ?_
                  obtain ⟨x36, h37, h⟩ := bind_some h
                  refine o_c (g0 rfl) rfl rfl rfl (idxE' V.cells_eq h37) (idxC h37) ?_
                  refine o_s (.t (.agg [.lit (.int .i64 x36.k), .lit (.int .i64 x36.n), .seq 1 (bytesD x36.b), .seq 4 (List.map V.cells x36.l)])) (g0 rfl) rfl rfl rfl ?_
                  refine o_s (.box [.d (.lit (.int .i64 0)), .d (.lit (.int .i64 0)), .d (.lit (.slice none 0 0)), .d (.lit (.slice none 0 0))]) (g0 rfl) rfl rfl rfl ?_
                  refine o_st (.box [.d (.lit (.int .i64 x36.k)), .d (.lit (.int .i64 x36.n)), .d (.seq 1 (bytesD x36.b)), .d (.seq 4 (List.map V.cells x36.l))]) (g0 rfl) rfl rfl rfl ?_
                  refine o_nil ?_
                  repeat (first | refine then_normal ?_ | refine then_exit ?_ | refine then_ret ?_ | refine block_normal ?_ | refine block_ret ?_ | refine block_exit ?_ | refine block_pass rfl ?_)
                  refine c_seq ?_
                  refine c_seq ?_
                  refine c_region ?_
                  refine o_s (.t (.agg [.lit (.int .i64 x36.k), .lit (.int .i64 x36.n), .seq 1 (bytesD x36.b), .seq 4 (List.map V.cells x36.l)])) (g0 rfl) rfl rfl rfl ?_
                  refine o_s (.t (.own 3 1 (List.map cI64 [1, 1, 1, 2]))) (g0 rfl) rfl rfl rfl ?_
                  obtain ⟨x38, h39, h⟩ := bind_some h
                  refine o_ca (fc_R28_Kinds _ _ _ h39) (g0 rfl) rfl rfl rfl rfl rfl rfl rfl (.cons (.refl _) (.cons (.refl _) .nil)) rfl rfl ?_
                  refine o_s (.t (.d (.lit (.bool (!x38))))) (g0 rfl) rfl rfl rfl ?_
                  refine o_nil ?_
                  repeat (first | refine then_normal ?_ | refine then_exit ?_ | refine then_ret ?_ | refine block_normal ?_ | refine block_ret ?_ | refine block_exit ?_ | refine block_pass rfl ?_)
                  rcases bif_some h with ⟨h40, h⟩ | ⟨h40, h⟩
                  · refine c_t h40 rfl ?_
                    refine c_seq ?_
                    refine c_region ?_
                    refine o_s (.t (.agg [.lit (.int .i64 0), .lit (.int .i64 0), .lit (.string ⟨⟨[]⟩⟩), .lit (.slice none 0 0), .lit (.slice none 0 0), .lit (.slice none 0 0), .lit (.slice none 0 0)])) (g0 rfl) rfl rfl rfl ?_
                    refine o_st (.box [.d (.lit (.int .i64 0)), .d (.lit (.int .i64 0)), .d (.lit (.string ⟨⟨[]⟩⟩)), .d (.lit (.slice none 0 0)), .d (.lit (.slice none 0 0)), .d (.lit (.slice none 0 0)), .d (.lit (.slice none 0 0))]) (g0 rfl) rfl rfl rfl ?_
                    refine o_s (.t (.d (.lit (.int .i64 11)))) (g0 rfl) rfl rfl rfl ?_
                    refine o_nil ?_
                    repeat (first | refine then_normal ?_ | refine then_exit ?_ | refine then_ret ?_ | refine block_normal ?_ | refine block_ret ?_ | refine block_exit ?_ | refine block_pass rfl ?_)
                    refine c_ret ?_
                    repeat (first | refine then_normal ?_ | refine then_exit ?_ | refine then_ret ?_ | refine block_normal ?_ | refine block_ret ?_ | refine block_exit ?_ | refine block_pass rfl ?_)
                    obtain rfl := Option.some.inj h
                    exact end0 rfl (.tup (.cons (.agg (.cons (.refl _) (.cons (.refl _) (.cons (.refl _) (.cons (.nil _) (.cons (.nil _) (.cons (.nil _) (.cons (.nil _) .nil)))))))) (.cons (.refl _) .nil)))
                  · refine c_f h40 rfl ?_
                    refine c_skip ?_
                    repeat (first | refine then_normal ?_ | refine then_exit ?_ | refine then_ret ?_ | refine block_normal ?_ | refine block_ret ?_ | refine block_exit ?_ | refine block_pass rfl ?_)
                    refine c_draw mixed (by kernel_rfl) ?_
                    refine d_s (.ref 7 6) rfl (dg0 rfl) rfl rfl rfl rfl ?_
                    refine d_2 (.box [.d (.lit (.int .i64 x10.n)), .d (.lit (.int .i64 x12.n)), .d (.lit (.string ⟨⟨x14.b⟩⟩)), .d (.seq 1 (bytesD x16.b)), .own 9 1 (List.map cStr y18), .own 60 2 (List.map cS_api_Member y19), .d (.seq 4 (List.map cS_api_Past z29))]) (.t (.own 65 4 (List.map cS_api_Past z29))) rfl (dg0 rfl) rfl rfl rfl rfl rfl ?_
                    refine d_s (.ref 12 3) rfl (dg0 rfl) rfl rfl rfl rfl ?_
                    refine d_s (.t (.d (.seq 4 (List.map V.cells x36.l)))) rfl (dg0 rfl) rfl rfl rfl rfl ?_
                    obtain ⟨x41, h42, h⟩ := bind_some h
                    refine d_c rfl (dg0 rfl) rfl rfl rfl rfl (idxE' V.cells_eq h42) (idxC h42) ?_
                    refine d_s (.imm [.lit (.int .i64 x41.n), .seq 1 (bytesD x41.b), .seq 4 (List.map V.cells x41.l)]) rfl (dg0 rfl) rfl rfl rfl rfl ?_
                    refine d_s (.t (.d (.lit (.int .i64 x41.n)))) rfl (dg0 rfl) rfl rfl rfl rfl ?_
                    refine d_s (.ref 12 3) rfl (dg0 rfl) rfl rfl rfl rfl ?_
                    refine d_s (.t (.d (.seq 4 (List.map V.cells x36.l)))) rfl (dg0 rfl) rfl rfl rfl rfl ?_
                    obtain ⟨x43, h44, h⟩ := bind_some h
                    refine d_c rfl (dg0 rfl) rfl rfl rfl rfl (idxE' V.cells_eq h44) (idxC h44) ?_
                    refine d_s (.imm [.lit (.int .i64 x43.n), .seq 1 (bytesD x43.b), .seq 4 (List.map V.cells x43.l)]) rfl (dg0 rfl) rfl rfl rfl rfl ?_
                    refine d_s (.t (.d (.lit (.int .i64 x43.n)))) rfl (dg0 rfl) rfl rfl rfl rfl ?_
                    refine d_s (.ref 12 3) rfl (dg0 rfl) rfl rfl rfl rfl ?_
                    refine d_s (.t (.d (.seq 4 (List.map V.cells x36.l)))) rfl (dg0 rfl) rfl rfl rfl rfl ?_
                    obtain ⟨x45, h46, h⟩ := bind_some h
                    refine d_c rfl (dg0 rfl) rfl rfl rfl rfl (idxE' V.cells_eq h46) (idxC h46) ?_
                    refine d_s (.imm [.lit (.int .i64 x45.n), .seq 1 (bytesD x45.b), .seq 4 (List.map V.cells x45.l)]) rfl (dg0 rfl) rfl rfl rfl rfl ?_
                    refine d_s (.t (.d (.lit (.int .i64 x45.n)))) rfl (dg0 rfl) rfl rfl rfl rfl ?_
                    refine d_s (.t (.d (.lit (.bool (x45.n == 1))))) rfl (dg0 rfl) rfl rfl rfl rfl ?_
                    refine d_s (.ref 12 3) rfl (dg0 rfl) rfl rfl rfl rfl ?_
                    refine d_s (.t (.d (.seq 4 (List.map V.cells x36.l)))) rfl (dg0 rfl) rfl rfl rfl rfl ?_
                    obtain ⟨x47, h48, h⟩ := bind_some h
                    refine d_c rfl (dg0 rfl) rfl rfl rfl rfl (idxE' V.cells_eq h48) (idxC h48) ?_
                    refine d_s (.imm [.seq 1 (bytesD x47.b), .seq 4 (List.map V.cells x47.l)]) rfl (dg0 rfl) rfl rfl rfl rfl ?_
                    refine d_s (.t (.d (.seq 1 (bytesD x47.b)))) rfl (dg0 rfl) rfl rfl rfl rfl ?_
                    refine d_c rfl (dg0 rfl) rfl rfl rfl rfl (strE _) (isB_bytes _) ?_
                    refine d_s (.t (.agg [.lit (.int .i64 x41.n), .lit (.int .i64 x43.n), .lit (.bool (x45.n == 1)), .lit (.string ⟨⟨x47.b⟩⟩)])) rfl (dg0 rfl) rfl rfl rfl rfl ?_
                    refine d_s (.t (.own 65 4 (List.map cS_api_Past [(S_api_Past.mk x41.n x43.n (x45.n == 1) x47.b)]))) rfl (dg0 rfl) rfl rfl rfl rfl ?_
                    obtain ⟨x49, h50, h⟩ := bind_some h
                    refine d_2c rfl (dg0 rfl) rfl rfl rfl rfl rfl (appE (c := cS_api_Past) h50) (appC (c := cS_api_Past) h50) ?_
                    refine d_s (.ref 7 6) rfl (dg0 rfl) rfl rfl rfl rfl ?_
                    refine d_st2 (.t (.d (.seq 4 (List.map cS_api_Past x49)))) (.box [.d (.lit (.int .i64 x10.n)), .d (.lit (.int .i64 x12.n)), .d (.lit (.string ⟨⟨x14.b⟩⟩)), .d (.seq 1 (bytesD x16.b)), .own 9 1 (List.map cStr y18), .own 60 2 (List.map cS_api_Member y19), .own 65 4 (List.map cS_api_Past x49)]) rfl (dg0 rfl) rfl rfl rfl rfl rfl ?_
                    refine d_nil (by kernel_rfl) ?_
                    repeat (first | refine then_normal ?_ | refine then_exit ?_ | refine then_ret ?_ | refine block_normal ?_ | refine block_ret ?_ | refine block_exit ?_ | refine block_pass rfl ?_)
                    refine c_region ?_
                    refine o_s (.t (.d (.lit (.int .i64 z30)))) (g0 rfl) rfl rfl rfl ?_
                    refine o_s (.t (.d (.lit (.int .i64 (wi (z30 + 1)))))) (g0 rfl) rfl rfl rfl ?_
                    refine o_s (.t (.d (.lit (.int .i64 (wi (z30 + 1)))))) (g0 rfl) rfl rfl rfl ?_
                    refine o_nil ?_
                    repeat (first | refine then_normal ?_ | refine then_exit ?_ | refine then_ret ?_ | refine block_normal ?_ | refine block_ret ?_ | refine block_exit ?_ | refine block_pass rfl ?_)
                    exact ⟨nl4, (x49, (wi (z30 + 1))), Nat.lt_succ_self nl4, h, ⟨(.refl _), ⟨(.refl _), ⟨(.refl _), ⟨(.refl _), ⟨(.refl _), trivial⟩⟩⟩⟩⟩, rfl⟩
                · refine c_f h33 rfl ?_
                  refine c_exit ?_
                  repeat (first | refine then_normal ?_ | refine then_exit ?_ | refine then_ret ?_ | refine block_normal ?_ | refine block_ret ?_ | refine block_exit ?_ | refine block_pass rfl ?_)
                  exact ⟨z29, h, ⟨(.refl _), ⟨(.refl _), ⟨(.refl _), trivial⟩⟩⟩, rfl⟩
            · rintro y20 h
              refine c_seq ?_
              refine c_seq ?_
              refine c_region ?_
              refine o_s (.t (.agg [.lit (.int .i64 x10.n), .lit (.int .i64 x12.n), .lit (.string ⟨⟨x14.b⟩⟩), .seq 1 (bytesD x16.b), .seq 1 (List.map cStr y18), .seq 2 (List.map cS_api_Member y19), .seq 4 (List.map cS_api_Past y20)])) (g0 rfl) rfl rfl rfl ?_
              obtain ⟨x21, h22, h⟩ := bind_some h
              refine o_ca (fc_R31_May _ _ h22) (g0 rfl) rfl rfl rfl rfl rfl rfl rfl (.cons (.refl _) .nil) rfl rfl ?_
              refine o_s (.t (.d (.lit (.bool (!x21))))) (g0 rfl) rfl rfl rfl ?_
              refine o_s (.t (.d (.lit (.bool (!x21))))) (g0 rfl) rfl rfl rfl ?_
              rcases bif_some h with ⟨h23, h⟩ | ⟨h23, h⟩
              · refine o_skip rfl rfl rfl h23 rfl rfl ?_
                refine o_skip rfl rfl rfl h23 rfl rfl ?_
                refine o_skip rfl rfl rfl h23 rfl rfl ?_
                refine o_skip rfl rfl rfl h23 rfl rfl ?_
                refine o_skip rfl rfl rfl h23 rfl rfl ?_
                refine o_pk (.t (.d (.lit (.bool true)))) (b := true) h23 (g0 rfl) rfl rfl rfl rfl rfl ?_
                refine o_nil ?_
                repeat (first | refine then_normal ?_ | refine then_exit ?_ | refine then_ret ?_ | refine block_normal ?_ | refine block_ret ?_ | refine block_exit ?_ | refine block_pass rfl ?_)
                refine c_t rfl rfl ?_
                refine c_seq ?_
                refine c_region ?_
                refine o_s (.t (.agg [.lit (.int .i64 0), .lit (.int .i64 0), .lit (.string ⟨⟨[]⟩⟩), .lit (.slice none 0 0), .lit (.slice none 0 0), .lit (.slice none 0 0), .lit (.slice none 0 0)])) (g0 rfl) rfl rfl rfl ?_
                refine o_st (.box [.d (.lit (.int .i64 0)), .d (.lit (.int .i64 0)), .d (.lit (.string ⟨⟨[]⟩⟩)), .d (.lit (.slice none 0 0)), .d (.lit (.slice none 0 0)), .d (.lit (.slice none 0 0)), .d (.lit (.slice none 0 0))]) (g0 rfl) rfl rfl rfl ?_
                refine o_s (.t (.d (.lit (.int .i64 11)))) (g0 rfl) rfl rfl rfl ?_
                refine o_nil ?_
                repeat (first | refine then_normal ?_ | refine then_exit ?_ | refine then_ret ?_ | refine block_normal ?_ | refine block_ret ?_ | refine block_exit ?_ | refine block_pass rfl ?_)
                refine c_ret ?_
                repeat (first | refine then_normal ?_ | refine then_exit ?_ | refine then_ret ?_ | refine block_normal ?_ | refine block_ret ?_ | refine block_exit ?_ | refine block_pass rfl ?_)
                obtain rfl := Option.some.inj h
                exact end0 rfl (.tup (.cons (.agg (.cons (.refl _) (.cons (.refl _) (.cons (.refl _) (.cons (.nil _) (.cons (.nil _) (.cons (.nil _) (.cons (.nil _) .nil)))))))) (.cons (.refl _) .nil)))
              · refine o_s (.t (.agg [.lit (.int .i64 x10.n), .lit (.int .i64 x12.n), .lit (.string ⟨⟨x14.b⟩⟩), .seq 1 (bytesD x16.b), .seq 1 (List.map cStr y18), .seq 2 (List.map cS_api_Member y19), .seq 4 (List.map cS_api_Past y20)])) (gy rfl rfl rfl h23) rfl rfl rfl ?_
                obtain ⟨x24, h25, h⟩ := bind_some h
                refine o_ca (fc_R31_Bytes _ _ h25) (gy rfl rfl rfl h23) rfl rfl rfl rfl rfl rfl rfl (.cons (.refl _) .nil) rfl rfl ?_
                refine o_s (.t (.d (.seq 1 (bytesD p0)))) (gy rfl rfl rfl h23) rfl rfl rfl ?_
                obtain ⟨x26, h27, h⟩ := bind_some h
                refine o_ca (fc_R01_Same _ _ _ h27) (gy rfl rfl rfl h23) rfl rfl rfl rfl rfl rfl rfl (.cons (.refl _) (.cons (.refl _) .nil)) rfl rfl ?_
                refine o_s (.t (.d (.lit (.bool (!x26))))) (gy rfl rfl rfl h23) rfl rfl rfl ?_
                refine o_pk (.t (.d (.lit (.bool (!x26))))) (b := false) h23 (g0 rfl) rfl rfl rfl rfl rfl ?_
                refine o_nil ?_
                repeat (first | refine then_normal ?_ | refine then_exit ?_ | refine then_ret ?_ | refine block_normal ?_ | refine block_ret ?_ | refine block_exit ?_ | refine block_pass rfl ?_)
                rcases bif_some h with ⟨h28, h⟩ | ⟨h28, h⟩
                · refine c_t h28 rfl ?_
                  refine c_seq ?_
                  refine c_region ?_
                  refine o_s (.t (.agg [.lit (.int .i64 0), .lit (.int .i64 0), .lit (.string ⟨⟨[]⟩⟩), .lit (.slice none 0 0), .lit (.slice none 0 0), .lit (.slice none 0 0), .lit (.slice none 0 0)])) (g0 rfl) rfl rfl rfl ?_
                  refine o_st (.box [.d (.lit (.int .i64 0)), .d (.lit (.int .i64 0)), .d (.lit (.string ⟨⟨[]⟩⟩)), .d (.lit (.slice none 0 0)), .d (.lit (.slice none 0 0)), .d (.lit (.slice none 0 0)), .d (.lit (.slice none 0 0))]) (g0 rfl) rfl rfl rfl ?_
                  refine o_s (.t (.d (.lit (.int .i64 11)))) (g0 rfl) rfl rfl rfl ?_
                  refine o_nil ?_
                  repeat (first | refine then_normal ?_ | refine then_exit ?_ | refine then_ret ?_ | refine block_normal ?_ | refine block_ret ?_ | refine block_exit ?_ | refine block_pass rfl ?_)
                  refine c_ret ?_
                  repeat (first | refine then_normal ?_ | refine then_exit ?_ | refine then_ret ?_ | refine block_normal ?_ | refine block_ret ?_ | refine block_exit ?_ | refine block_pass rfl ?_)
                  obtain rfl := Option.some.inj h
                  exact end0 rfl (.tup (.cons (.agg (.cons (.refl _) (.cons (.refl _) (.cons (.refl _) (.cons (.nil _) (.cons (.nil _) (.cons (.nil _) (.cons (.nil _) .nil)))))))) (.cons (.refl _) .nil)))
                · refine c_f h28 rfl ?_
                  refine c_skip ?_
                  repeat (first | refine then_normal ?_ | refine then_exit ?_ | refine then_ret ?_ | refine block_normal ?_ | refine block_ret ?_ | refine block_exit ?_ | refine block_pass rfl ?_)
                  refine c_seq ?_
                  refine c_region ?_
                  refine o_s (.t (.agg [.lit (.int .i64 x10.n), .lit (.int .i64 x12.n), .lit (.string ⟨⟨x14.b⟩⟩), .seq 1 (bytesD x16.b), .seq 1 (List.map cStr y18), .seq 2 (List.map cS_api_Member y19), .seq 4 (List.map cS_api_Past y20)])) (g0 rfl) rfl rfl rfl ?_
                  refine o_st (.box [.d (.lit (.int .i64 x10.n)), .d (.lit (.int .i64 x12.n)), .d (.lit (.string ⟨⟨x14.b⟩⟩)), .d (.seq 1 (bytesD x16.b)), .d (.seq 1 (List.map cStr y18)), .d (.seq 2 (List.map cS_api_Member y19)), .d (.seq 4 (List.map cS_api_Past y20))]) (g0 rfl) rfl rfl rfl ?_
                  refine o_s (.t (.d (.lit (.int .i64 0)))) (g0 rfl) rfl rfl rfl ?_
                  refine o_nil ?_
                  repeat (first | refine then_normal ?_ | refine then_exit ?_ | refine then_ret ?_ | refine block_normal ?_ | refine block_ret ?_ | refine block_exit ?_ | refine block_pass rfl ?_)
                  refine c_ret ?_
                  repeat (first | refine then_normal ?_ | refine then_exit ?_ | refine then_ret ?_ | refine block_normal ?_ | refine block_ret ?_ | refine block_exit ?_ | refine block_pass rfl ?_)
                  obtain rfl := Option.some.inj h
                  exact end0 rfl (.tup (.cons (.refl _) (.cons (.refl _) .nil)))

theorem fc_R27_Same (p0 : (List S_api_Member)) (p1 : (List S_api_Member)) (r : Bool) (h : m_R27_Same p0 p1 = some r) : FC Try.prog 30 [.t (.d (.seq 2 (List.map cS_api_Member p0))), .t (.d (.seq 2 (List.map cS_api_Member p1)))] [] (.t (.d (.lit (.bool r)))) := by
  refine fc_mk (rs := [.tmp 4]) (n := 26) Try.func30 rfl rfl (Nat.le_of_ble_eq_true rfl) rfl (pins := []) rfl (L := [(0, .t (.d (.seq 2 (List.map cS_api_Member p0)))), (1, .t (.d (.seq 2 (List.map cS_api_Member p1))))]) rfl ?_
  refine c_seq ?_
  refine c_region ?_
  refine o_s (.t (.d (.lit (.bool false)))) (g0 rfl) rfl rfl rfl ?_
  refine o_nil ?_
  repeat (first | refine then_normal ?_ | refine then_exit ?_ | refine then_ret ?_ | refine block_normal ?_ | refine block_ret ?_ | refine block_exit ?_ | refine block_pass rfl ?_)
  refine c_seq ?_
  refine c_seq ?_
  refine c_region ?_
  refine o_s (.t (.d (.seq 2 (List.map cS_api_Member p0)))) (g0 rfl) rfl rfl rfl ?_
  refine o_c (g0 rfl) rfl rfl rfl (lenE _ _) trivial ?_
  refine o_s (.t (.d (.seq 2 (List.map cS_api_Member p1)))) (g0 rfl) rfl rfl rfl ?_
  refine o_c (g0 rfl) rfl rfl rfl (lenE _ _) trivial ?_
  refine o_s (.t (.d (.lit (.bool ((p0.length : Int) != (p1.length : Int)))))) (g0 rfl) rfl rfl rfl ?_
  refine o_nil ?_
  repeat (first | refine then_normal ?_ | refine then_exit ?_ | refine then_ret ?_ | refine block_normal ?_ | refine block_ret ?_ | refine block_exit ?_ | refine block_pass rfl ?_)
  rcases bif_some h with ⟨h1, h⟩ | ⟨h1, h⟩
  · refine c_t h1 rfl ?_
    refine c_seq ?_
    refine c_region ?_
    refine o_s (.t (.d (.lit (.bool false)))) (g0 rfl) rfl rfl rfl ?_
    refine o_nil ?_
    repeat (first | refine then_normal ?_ | refine then_exit ?_ | refine then_ret ?_ | refine block_normal ?_ | refine block_ret ?_ | refine block_exit ?_ | refine block_pass rfl ?_)
    refine c_ret ?_
    repeat (first | refine then_normal ?_ | refine then_exit ?_ | refine then_ret ?_ | refine block_normal ?_ | refine block_ret ?_ | refine block_exit ?_ | refine block_pass rfl ?_)
    obtain rfl := Option.some.inj h
    exact end0 rfl (.refl _)
  · refine c_f h1 rfl ?_
    refine c_skip ?_
    repeat (first | refine then_normal ?_ | refine then_exit ?_ | refine then_ret ?_ | refine block_normal ?_ | refine block_ret ?_ | refine block_exit ?_ | refine block_pass rfl ?_)
    refine c_seq ?_
    refine c_seq ?_
    refine c_region ?_
    refine o_s (.t (.d (.lit (.int .i64 0)))) (g0 rfl) rfl rfl rfl ?_
    refine o_nil ?_
    repeat (first | refine then_normal ?_ | refine then_exit ?_ | refine then_ret ?_ | refine block_normal ?_ | refine block_ret ?_ | refine block_exit ?_ | refine block_pass rfl ?_)
    refine c_block ?_
    refine c_fuel (fun (z2 : Int) => [(0, .t (.d (.seq 2 (List.map cS_api_Member p0)))), (1, .t (.d (.seq 2 (List.map cS_api_Member p1)))), (5, .t (.d (.lit (.int .i64 z2))))]) (fun nl1 => (fun (z2 : Int) => m_R27_Same_l1 p0 p1 nl1 z2 = some r)) (p0.length + 1) 0 h ⟨(.refl _), ⟨(.refl _), ⟨(.refl _), trivial⟩⟩⟩ rfl ?_
    rintro nl1 z2 h
    cases nl1 with
    | zero => exact none_ne h
    | succ nl1 =>
      refine c_seq ?_
      refine c_seq ?_
      refine c_region ?_
      refine o_s (.t (.d (.lit (.int .i64 z2)))) (g0 rfl) rfl rfl rfl ?_
      refine o_s (.t (.d (.seq 2 (List.map cS_api_Member p0)))) (g0 rfl) rfl rfl rfl ?_
      refine o_c (g0 rfl) rfl rfl rfl (lenE _ _) trivial ?_
      refine o_s (.t (.d (.lit (.bool (decide (z2 < (p0.length : Int))))))) (g0 rfl) rfl rfl rfl ?_
      refine o_nil ?_
      repeat (first | refine then_normal ?_ | refine then_exit ?_ | refine then_ret ?_ | refine block_normal ?_ | refine block_ret ?_ | refine block_exit ?_ | refine block_pass rfl ?_)
      rcases bif_some h with ⟨h3, h⟩ | ⟨h3, h⟩
      · refine c_t h3 rfl ?_
        refine c_skip ?_
        repeat (first | refine then_normal ?_ | refine then_exit ?_ | refine then_ret ?_ | refine block_normal ?_ | refine block_ret ?_ | refine block_exit ?_ | refine block_pass rfl ?_)
        refine c_seq ?_
        refine c_block ?_
        refine c_seq ?_
        refine c_draw mixed (by kernel_rfl) ?_
        refine d_s (.t (.d (.seq 2 (List.map cS_api_Member p0)))) rfl (dg0 rfl) rfl rfl rfl rfl ?_
        refine d_s (.t (.d (.lit (.int .i64 z2)))) rfl (dg0 rfl) rfl rfl rfl rfl ?_
        obtain ⟨x4, h5, h⟩ := bind_some h
        refine d_c rfl (dg0 rfl) rfl rfl rfl rfl (idxE h5) (idxC h5) ?_
        refine d_s (.t (.agg [.lit (.string ⟨⟨x4.Name⟩⟩), .lit (.int .i64 x4.Role)])) rfl (dg0 rfl) rfl rfl rfl rfl ?_
        refine d_s (.t (.d (.seq 2 (List.map cS_api_Member p1)))) rfl (dg0 rfl) rfl rfl rfl rfl ?_
        refine d_s (.t (.d (.lit (.int .i64 z2)))) rfl (dg0 rfl) rfl rfl rfl rfl ?_
        obtain ⟨x6, h7, h⟩ := bind_some h
        refine d_c rfl (dg0 rfl) rfl rfl rfl rfl (idxE h7) (idxC h7) ?_
        refine d_s (.t (.agg [.lit (.string ⟨⟨x6.Name⟩⟩), .lit (.int .i64 x6.Role)])) rfl (dg0 rfl) rfl rfl rfl rfl ?_
        refine d_eqs true (b' := ((x4.Name == x6.Name) && ((x4.Role == x6.Role) && true))) (andE (str_beqL _ _) (andE rfl rfl)) rfl (dg0 rfl) rfl rfl rfl rfl rfl (by kernel_rfl) ((!((x4.Name == x6.Name) && ((x4.Role == x6.Role) && true)))) (by cases ((x4.Name == x6.Name) && ((x4.Role == x6.Role) && true)) <;> rfl) ?_
        refine d_nil (by kernel_rfl) ?_
        repeat (first | refine then_normal ?_ | refine then_exit ?_ | refine then_ret ?_ | refine block_normal ?_ | refine block_ret ?_ | refine block_exit ?_ | refine block_pass rfl ?_)
        rcases bif_some h with ⟨h8, h⟩ | ⟨h8, h⟩
        · refine c_t h8 rfl ?_
          refine c_seq ?_
          refine c_region ?_
          refine o_s (.t (.d (.lit (.bool false)))) (g0 rfl) rfl rfl rfl ?_
          refine o_nil ?_
          repeat (first | refine then_normal ?_ | refine then_exit ?_ | refine then_ret ?_ | refine block_normal ?_ | refine block_ret ?_ | refine block_exit ?_ | refine block_pass rfl ?_)
          refine c_ret ?_
          repeat (first | refine then_normal ?_ | refine then_exit ?_ | refine then_ret ?_ | refine block_normal ?_ | refine block_ret ?_ | refine block_exit ?_ | refine block_pass rfl ?_)
          obtain rfl := Option.some.inj h
          exact end0 rfl (.refl _)
        · refine c_f h8 rfl ?_
          refine c_skip ?_
          repeat (first | refine then_normal ?_ | refine then_exit ?_ | refine then_ret ?_ | refine block_normal ?_ | refine block_ret ?_ | refine block_exit ?_ | refine block_pass rfl ?_)
          refine c_region ?_
          refine o_s (.t (.d (.lit (.int .i64 z2)))) (g0 rfl) rfl rfl rfl ?_
          refine o_s (.t (.d (.lit (.int .i64 (wi (z2 + 1)))))) (g0 rfl) rfl rfl rfl ?_
          refine o_s (.t (.d (.lit (.int .i64 (wi (z2 + 1)))))) (g0 rfl) rfl rfl rfl ?_
          refine o_nil ?_
          repeat (first | refine then_normal ?_ | refine then_exit ?_ | refine then_ret ?_ | refine block_normal ?_ | refine block_ret ?_ | refine block_exit ?_ | refine block_pass rfl ?_)
          exact ⟨nl1, (wi (z2 + 1)), Nat.lt_succ_self nl1, h, ⟨(.refl _), ⟨(.refl _), ⟨(.refl _), trivial⟩⟩⟩, rfl⟩
      · refine c_f h3 rfl ?_
        refine c_exit ?_
        repeat (first | refine then_normal ?_ | refine then_exit ?_ | refine then_ret ?_ | refine block_normal ?_ | refine block_ret ?_ | refine block_exit ?_ | refine block_pass rfl ?_)
        refine c_seq ?_
        refine c_region ?_
        refine o_s (.t (.d (.lit (.bool true)))) (g0 rfl) rfl rfl rfl ?_
        refine o_nil ?_
        repeat (first | refine then_normal ?_ | refine then_exit ?_ | refine then_ret ?_ | refine block_normal ?_ | refine block_ret ?_ | refine block_exit ?_ | refine block_pass rfl ?_)
        refine c_ret ?_
        repeat (first | refine then_normal ?_ | refine then_exit ?_ | refine then_ret ?_ | refine block_normal ?_ | refine block_ret ?_ | refine block_exit ?_ | refine block_pass rfl ?_)
        obtain rfl := Option.some.inj h
        exact end0 rfl (.refl _)

theorem fc_R31_Same (p0 : S_api_Answer) (p1 : S_api_Answer) (r : Bool) (h : m_R31_Same p0 p1 = some r) : FC Try.prog 8 [.t (.agg [.lit (.int .i64 p0.Err), .lit (.int .i64 p0.Number), .lit (.string ⟨⟨p0.By⟩⟩), .seq 1 (bytesD p0.Data), .seq 1 (List.map cStr p0.Names), .seq 2 (List.map cS_api_Member p0.Members), .seq 4 (List.map cS_api_Past p0.History)]), .t (.agg [.lit (.int .i64 p1.Err), .lit (.int .i64 p1.Number), .lit (.string ⟨⟨p1.By⟩⟩), .seq 1 (bytesD p1.Data), .seq 1 (List.map cStr p1.Names), .seq 2 (List.map cS_api_Member p1.Members), .seq 4 (List.map cS_api_Past p1.History)])] [] (.t (.d (.lit (.bool r)))) := by
  refine fc_mk (rs := [.tmp 4]) (n := 96) Try.func8 rfl rfl (Nat.le_of_ble_eq_true rfl) rfl (pins := []) rfl (L := [(0, .t (.agg [.lit (.int .i64 p0.Err), .lit (.int .i64 p0.Number), .lit (.string ⟨⟨p0.By⟩⟩), .seq 1 (bytesD p0.Data), .seq 1 (List.map cStr p0.Names), .seq 2 (List.map cS_api_Member p0.Members), .seq 4 (List.map cS_api_Past p0.History)])), (1, .t (.agg [.lit (.int .i64 p1.Err), .lit (.int .i64 p1.Number), .lit (.string ⟨⟨p1.By⟩⟩), .seq 1 (bytesD p1.Data), .seq 1 (List.map cStr p1.Names), .seq 2 (List.map cS_api_Member p1.Members), .seq 4 (List.map cS_api_Past p1.History)]))]) rfl ?_
  refine c_seq ?_
  refine c_region ?_
  refine o_s (.box [.d (.lit (.int .i64 p0.Err)), .d (.lit (.int .i64 p0.Number)), .d (.lit (.string ⟨⟨p0.By⟩⟩)), .d (.seq 1 (bytesD p0.Data)), .d (.seq 1 (List.map cStr p0.Names)), .d (.seq 2 (List.map cS_api_Member p0.Members)), .d (.seq 4 (List.map cS_api_Past p0.History))]) (g0 rfl) rfl rfl rfl ?_
  refine o_s (.box [.d (.lit (.int .i64 p1.Err)), .d (.lit (.int .i64 p1.Number)), .d (.lit (.string ⟨⟨p1.By⟩⟩)), .d (.seq 1 (bytesD p1.Data)), .d (.seq 1 (List.map cStr p1.Names)), .d (.seq 2 (List.map cS_api_Member p1.Members)), .d (.seq 4 (List.map cS_api_Past p1.History))]) (g0 rfl) rfl rfl rfl ?_
  refine o_s (.t (.d (.lit (.bool false)))) (g0 rfl) rfl rfl rfl ?_
  refine o_nil ?_
  repeat (first | refine then_normal ?_ | refine then_exit ?_ | refine then_ret ?_ | refine block_normal ?_ | refine block_ret ?_ | refine block_exit ?_ | refine block_pass rfl ?_)
  refine c_seq ?_
  refine c_seq ?_
  refine c_region ?_
  refine o_s (.ref 2 0) (g0 rfl) rfl rfl rfl ?_
  refine o_s (.t (.d (.lit (.int .i64 p0.Err)))) (g0 rfl) rfl rfl rfl ?_
  refine o_s (.ref 3 0) (g0 rfl) rfl rfl rfl ?_
  refine o_s (.t (.d (.lit (.int .i64 p1.Err)))) (g0 rfl) rfl rfl rfl ?_
  refine o_s (.t (.d (.lit (.bool (p0.Err != p1.Err))))) (g0 rfl) rfl rfl rfl ?_
  refine o_s (.t (.d (.lit (.bool (p0.Err != p1.Err))))) (g0 rfl) rfl rfl rfl ?_
  rcases bif_some h with ⟨h1, h⟩ | ⟨h1, h⟩
  · refine o_skip rfl rfl rfl h1 rfl rfl ?_
    refine o_skip rfl rfl rfl h1 rfl rfl ?_
    refine o_skip rfl rfl rfl h1 rfl rfl ?_
    refine o_skip rfl rfl rfl h1 rfl rfl ?_
    refine o_skip rfl rfl rfl h1 rfl rfl ?_
    refine o_pk (.t (.d (.lit (.bool true)))) (b := true) h1 (g0 rfl) rfl rfl rfl rfl rfl ?_
    refine o_s (.t (.d (.lit (.bool true)))) (g0 rfl) rfl rfl rfl ?_
    refine o_skip rfl rfl rfl rfl rfl rfl ?_
    refine o_skip rfl rfl rfl rfl rfl rfl ?_
    refine o_skip rfl rfl rfl rfl rfl rfl ?_
    refine o_skip rfl rfl rfl rfl rfl rfl ?_
    refine o_skip rfl rfl rfl rfl rfl rfl ?_
    refine o_pk (.t (.d (.lit (.bool true)))) (b := true) rfl (g0 rfl) rfl rfl rfl rfl rfl ?_
    refine o_s (.t (.d (.lit (.bool true)))) (g0 rfl) rfl rfl rfl ?_
    refine o_skip rfl rfl rfl rfl rfl rfl ?_
    refine o_skip rfl rfl rfl rfl rfl rfl ?_
    refine o_skip rfl rfl rfl rfl rfl rfl ?_
    refine o_skip rfl rfl rfl rfl rfl rfl ?_
    refine o_skip rfl rfl rfl rfl rfl rfl ?_
    refine o_skip rfl rfl rfl rfl rfl rfl ?_
    refine o_pk (.t (.d (.lit (.bool true)))) (b := true) rfl (g0 rfl) rfl rfl rfl rfl rfl ?_
    refine o_s (.t (.d (.lit (.bool true)))) (g0 rfl) rfl rfl rfl ?_
    refine o_skip rfl rfl rfl rfl rfl rfl ?_
    refine o_skip rfl rfl rfl rfl rfl rfl ?_
    refine o_skip rfl rfl rfl rfl rfl rfl ?_
    refine o_skip rfl rfl rfl rfl rfl rfl ?_
    refine o_skip rfl rfl rfl rfl rfl rfl ?_
    refine o_skip rfl rfl rfl rfl rfl rfl ?_
    refine o_skip rfl rfl rfl rfl rfl rfl ?_
    refine o_pk (.t (.d (.lit (.bool true)))) (b := true) rfl (g0 rfl) rfl rfl rfl rfl rfl ?_
    refine o_s (.t (.d (.lit (.bool true)))) (g0 rfl) rfl rfl rfl ?_
    refine o_skip rfl rfl rfl rfl rfl rfl ?_
    refine o_skip rfl rfl rfl rfl rfl rfl ?_
    refine o_skip rfl rfl rfl rfl rfl rfl ?_
    refine o_skip rfl rfl rfl rfl rfl rfl ?_
    refine o_skip rfl rfl rfl rfl rfl rfl ?_
    refine o_skip rfl rfl rfl rfl rfl rfl ?_
    refine o_pk (.t (.d (.lit (.bool true)))) (b := true) rfl (g0 rfl) rfl rfl rfl rfl rfl ?_
    refine o_s (.t (.d (.lit (.bool true)))) (g0 rfl) rfl rfl rfl ?_
    refine o_skip rfl rfl rfl rfl rfl rfl ?_
    refine o_skip rfl rfl rfl rfl rfl rfl ?_
    refine o_skip rfl rfl rfl rfl rfl rfl ?_
    refine o_skip rfl rfl rfl rfl rfl rfl ?_
    refine o_skip rfl rfl rfl rfl rfl rfl ?_
    refine o_skip rfl rfl rfl rfl rfl rfl ?_
    refine o_skip rfl rfl rfl rfl rfl rfl ?_
    refine o_pk (.t (.d (.lit (.bool true)))) (b := true) rfl (g0 rfl) rfl rfl rfl rfl rfl ?_
    refine o_nil ?_
    repeat (first | refine then_normal ?_ | refine then_exit ?_ | refine then_ret ?_ | refine block_normal ?_ | refine block_ret ?_ | refine block_exit ?_ | refine block_pass rfl ?_)
    refine c_t rfl rfl ?_
    refine c_seq ?_
    refine c_region ?_
    refine o_s (.t (.d (.lit (.bool false)))) (g0 rfl) rfl rfl rfl ?_
    refine o_nil ?_
    repeat (first | refine then_normal ?_ | refine then_exit ?_ | refine then_ret ?_ | refine block_normal ?_ | refine block_ret ?_ | refine block_exit ?_ | refine block_pass rfl ?_)
    refine c_ret ?_
    repeat (first | refine then_normal ?_ | refine then_exit ?_ | refine then_ret ?_ | refine block_normal ?_ | refine block_ret ?_ | refine block_exit ?_ | refine block_pass rfl ?_)
    obtain rfl := Option.some.inj h
    exact end0 rfl (.refl _)
  · refine o_s (.ref 2 1) (gy rfl rfl rfl h1) rfl rfl rfl ?_
    refine o_s (.t (.d (.lit (.int .i64 p0.Number)))) (gy rfl rfl rfl h1) rfl rfl rfl ?_
    refine o_s (.ref 3 1) (gy rfl rfl rfl h1) rfl rfl rfl ?_
    refine o_s (.t (.d (.lit (.int .i64 p1.Number)))) (gy rfl rfl rfl h1) rfl rfl rfl ?_
    refine o_s (.t (.d (.lit (.bool (p0.Number != p1.Number))))) (gy rfl rfl rfl h1) rfl rfl rfl ?_
    refine o_pk (.t (.d (.lit (.bool (p0.Number != p1.Number))))) (b := false) h1 (g0 rfl) rfl rfl rfl rfl rfl ?_
    refine o_s (.t (.d (.lit (.bool (p0.Number != p1.Number))))) (g0 rfl) rfl rfl rfl ?_
    rcases bif_some h with ⟨h2, h⟩ | ⟨h2, h⟩
    · refine o_skip rfl rfl rfl h2 rfl rfl ?_
      refine o_skip rfl rfl rfl h2 rfl rfl ?_
      refine o_skip rfl rfl rfl h2 rfl rfl ?_
      refine o_skip rfl rfl rfl h2 rfl rfl ?_
      refine o_skip rfl rfl rfl h2 rfl rfl ?_
      refine o_pk (.t (.d (.lit (.bool true)))) (b := true) h2 (g0 rfl) rfl rfl rfl rfl rfl ?_
      refine o_s (.t (.d (.lit (.bool true)))) (g0 rfl) rfl rfl rfl ?_
      refine o_skip rfl rfl rfl rfl rfl rfl ?_
      refine o_skip rfl rfl rfl rfl rfl rfl ?_
      refine o_skip rfl rfl rfl rfl rfl rfl ?_
      refine o_skip rfl rfl rfl rfl rfl rfl ?_
      refine o_skip rfl rfl rfl rfl rfl rfl ?_
      refine o_skip rfl rfl rfl rfl rfl rfl ?_
      refine o_pk (.t (.d (.lit (.bool true)))) (b := true) rfl (g0 rfl) rfl rfl rfl rfl rfl ?_
      refine o_s (.t (.d (.lit (.bool true)))) (g0 rfl) rfl rfl rfl ?_
      refine o_skip rfl rfl rfl rfl rfl rfl ?_
      refine o_skip rfl rfl rfl rfl rfl rfl ?_
      refine o_skip rfl rfl rfl rfl rfl rfl ?_
      refine o_skip rfl rfl rfl rfl rfl rfl ?_
      refine o_skip rfl rfl rfl rfl rfl rfl ?_
      refine o_skip rfl rfl rfl rfl rfl rfl ?_
      refine o_skip rfl rfl rfl rfl rfl rfl ?_
      refine o_pk (.t (.d (.lit (.bool true)))) (b := true) rfl (g0 rfl) rfl rfl rfl rfl rfl ?_
      refine o_s (.t (.d (.lit (.bool true)))) (g0 rfl) rfl rfl rfl ?_
      refine o_skip rfl rfl rfl rfl rfl rfl ?_
      refine o_skip rfl rfl rfl rfl rfl rfl ?_
      refine o_skip rfl rfl rfl rfl rfl rfl ?_
      refine o_skip rfl rfl rfl rfl rfl rfl ?_
      refine o_skip rfl rfl rfl rfl rfl rfl ?_
      refine o_skip rfl rfl rfl rfl rfl rfl ?_
      refine o_pk (.t (.d (.lit (.bool true)))) (b := true) rfl (g0 rfl) rfl rfl rfl rfl rfl ?_
      refine o_s (.t (.d (.lit (.bool true)))) (g0 rfl) rfl rfl rfl ?_
      refine o_skip rfl rfl rfl rfl rfl rfl ?_
      refine o_skip rfl rfl rfl rfl rfl rfl ?_
      refine o_skip rfl rfl rfl rfl rfl rfl ?_
      refine o_skip rfl rfl rfl rfl rfl rfl ?_
      refine o_skip rfl rfl rfl rfl rfl rfl ?_
      refine o_skip rfl rfl rfl rfl rfl rfl ?_
      refine o_skip rfl rfl rfl rfl rfl rfl ?_
      refine o_pk (.t (.d (.lit (.bool true)))) (b := true) rfl (g0 rfl) rfl rfl rfl rfl rfl ?_
      refine o_nil ?_
      repeat (first | refine then_normal ?_ | refine then_exit ?_ | refine then_ret ?_ | refine block_normal ?_ | refine block_ret ?_ | refine block_exit ?_ | refine block_pass rfl ?_)
      refine c_t rfl rfl ?_
      refine c_seq ?_
      refine c_region ?_
      refine o_s (.t (.d (.lit (.bool false)))) (g0 rfl) rfl rfl rfl ?_
      refine o_nil ?_
      repeat (first | refine then_normal ?_ | refine then_exit ?_ | refine then_ret ?_ | refine block_normal ?_ | refine block_ret ?_ | refine block_exit ?_ | refine block_pass rfl ?_)
      refine c_ret ?_
      repeat (first | refine then_normal ?_ | refine then_exit ?_ | refine then_ret ?_ | refine block_normal ?_ | refine block_ret ?_ | refine block_exit ?_ | refine block_pass rfl ?_)
      obtain rfl := Option.some.inj h
      exact end0 rfl (.refl _)
    · refine o_s (.ref 2 2) (gy rfl rfl rfl h2) rfl rfl rfl ?_
      refine o_s (.t (.d (.lit (.string ⟨⟨p0.By⟩⟩)))) (gy rfl rfl rfl h2) rfl rfl rfl ?_
      refine o_s (.ref 3 2) (gy rfl rfl rfl h2) rfl rfl rfl ?_
      refine o_s (.t (.d (.lit (.string ⟨⟨p1.By⟩⟩)))) (gy rfl rfl rfl h2) rfl rfl rfl ?_
      refine o_c (gy rfl rfl rfl h2) rfl rfl rfl (congrArg (fun z => A.t (.d (.lit (.bool (!z))))) (str_beqL _ _)) trivial ?_
      refine o_pk (.t (.d (.lit (.bool (!(p0.By == p1.By)))))) (b := false) h2 (g0 rfl) rfl rfl rfl rfl rfl ?_
      refine o_s (.t (.d (.lit (.bool (!(p0.By == p1.By)))))) (g0 rfl) rfl rfl rfl ?_
      rcases bif_some h with ⟨h3, h⟩ | ⟨h3, h⟩
      · refine o_skip rfl rfl rfl h3 rfl rfl ?_
        refine o_skip rfl rfl rfl h3 rfl rfl ?_
        refine o_skip rfl rfl rfl h3 rfl rfl ?_
        refine o_skip rfl rfl rfl h3 rfl rfl ?_
        refine o_skip rfl rfl rfl h3 rfl rfl ?_
        refine o_skip rfl rfl rfl h3 rfl rfl ?_
        refine o_pk (.t (.d (.lit (.bool true)))) (b := true) h3 (g0 rfl) rfl rfl rfl rfl rfl ?_
        refine o_s (.t (.d (.lit (.bool true)))) (g0 rfl) rfl rfl rfl ?_
        refine o_skip rfl rfl rfl rfl rfl rfl ?_
        refine o_skip rfl rfl rfl rfl rfl rfl ?_
        refine o_skip rfl rfl rfl rfl rfl rfl ?_
        refine o_skip rfl rfl rfl rfl rfl rfl ?_
        refine o_skip rfl rfl rfl rfl rfl rfl ?_
        refine o_skip rfl rfl rfl rfl rfl rfl ?_
        refine o_skip rfl rfl rfl rfl rfl rfl ?_
        refine o_pk (.t (.d (.lit (.bool true)))) (b := true) rfl (g0 rfl) rfl rfl rfl rfl rfl ?_
        refine o_s (.t (.d (.lit (.bool true)))) (g0 rfl) rfl rfl rfl ?_
        refine o_skip rfl rfl rfl rfl rfl rfl ?_
        refine o_skip rfl rfl rfl rfl rfl rfl ?_
        refine o_skip rfl rfl rfl rfl rfl rfl ?_
        refine o_skip rfl rfl rfl rfl rfl rfl ?_
        refine o_skip rfl rfl rfl rfl rfl rfl ?_
        refine o_skip rfl rfl rfl rfl rfl rfl ?_
        refine o_pk (.t (.d (.lit (.bool true)))) (b := true) rfl (g0 rfl) rfl rfl rfl rfl rfl ?_
        refine o_s (.t (.d (.lit (.bool true)))) (g0 rfl) rfl rfl rfl ?_
        refine o_skip rfl rfl rfl rfl rfl rfl ?_
        refine o_skip rfl rfl rfl rfl rfl rfl ?_
        refine o_skip rfl rfl rfl rfl rfl rfl ?_
        refine o_skip rfl rfl rfl rfl rfl rfl ?_
        refine o_skip rfl rfl rfl rfl rfl rfl ?_
        refine o_skip rfl rfl rfl rfl rfl rfl ?_
        refine o_skip rfl rfl rfl rfl rfl rfl ?_
        refine o_pk (.t (.d (.lit (.bool true)))) (b := true) rfl (g0 rfl) rfl rfl rfl rfl rfl ?_
        refine o_nil ?_
        repeat (first | refine then_normal ?_ | refine then_exit ?_ | refine then_ret ?_ | refine block_normal ?_ | refine block_ret ?_ | refine block_exit ?_ | refine block_pass rfl ?_)
        refine c_t rfl rfl ?_
        refine c_seq ?_
        refine c_region ?_
        refine o_s (.t (.d (.lit (.bool false)))) (g0 rfl) rfl rfl rfl ?_
        refine o_nil ?_
        repeat (first | refine then_normal ?_ | refine then_exit ?_ | refine then_ret ?_ | refine block_normal ?_ | refine block_ret ?_ | refine block_exit ?_ | refine block_pass rfl ?_)
        refine c_ret ?_
        repeat (first | refine then_normal ?_ | refine then_exit ?_ | refine then_ret ?_ | refine block_normal ?_ | refine block_ret ?_ | refine block_exit ?_ | refine block_pass rfl ?_)
        obtain rfl := Option.some.inj h
        exact end0 rfl (.refl _)
      · refine o_s (.ref 2 3) (gy rfl rfl rfl h3) rfl rfl rfl ?_
        refine o_s (.t (.d (.seq 1 (bytesD p0.Data)))) (gy rfl rfl rfl h3) rfl rfl rfl ?_
        refine o_s (.ref 3 3) (gy rfl rfl rfl h3) rfl rfl rfl ?_
        refine o_s (.t (.d (.seq 1 (bytesD p1.Data)))) (gy rfl rfl rfl h3) rfl rfl rfl ?_
        obtain ⟨x4, h5, h⟩ := bind_some h
        refine o_ca (fc_R01_Same _ _ _ h5) (gy rfl rfl rfl h3) rfl rfl rfl rfl rfl rfl rfl (.cons (.refl _) (.cons (.refl _) .nil)) rfl rfl ?_
        refine o_s (.t (.d (.lit (.bool (!x4))))) (gy rfl rfl rfl h3) rfl rfl rfl ?_
        refine o_pk (.t (.d (.lit (.bool (!x4))))) (b := false) h3 (g0 rfl) rfl rfl rfl rfl rfl ?_
        refine o_s (.t (.d (.lit (.bool (!x4))))) (g0 rfl) rfl rfl rfl ?_
        rcases bif_some h with ⟨h6, h⟩ | ⟨h6, h⟩
        · refine o_skip rfl rfl rfl h6 rfl rfl ?_
          refine o_skip rfl rfl rfl h6 rfl rfl ?_
          refine o_skip rfl rfl rfl h6 rfl rfl ?_
          refine o_skip rfl rfl rfl h6 rfl rfl ?_
          refine o_skip rfl rfl rfl h6 rfl rfl ?_
          refine o_skip rfl rfl rfl h6 rfl rfl ?_
          refine o_skip rfl rfl rfl h6 rfl rfl ?_
          refine o_pk (.t (.d (.lit (.bool true)))) (b := true) h6 (g0 rfl) rfl rfl rfl rfl rfl ?_
          refine o_s (.t (.d (.lit (.bool true)))) (g0 rfl) rfl rfl rfl ?_
          refine o_skip rfl rfl rfl rfl rfl rfl ?_
          refine o_skip rfl rfl rfl rfl rfl rfl ?_
          refine o_skip rfl rfl rfl rfl rfl rfl ?_
          refine o_skip rfl rfl rfl rfl rfl rfl ?_
          refine o_skip rfl rfl rfl rfl rfl rfl ?_
          refine o_skip rfl rfl rfl rfl rfl rfl ?_
          refine o_pk (.t (.d (.lit (.bool true)))) (b := true) rfl (g0 rfl) rfl rfl rfl rfl rfl ?_
          refine o_s (.t (.d (.lit (.bool true)))) (g0 rfl) rfl rfl rfl ?_
          refine o_skip rfl rfl rfl rfl rfl rfl ?_
          refine o_skip rfl rfl rfl rfl rfl rfl ?_
          refine o_skip rfl rfl rfl rfl rfl rfl ?_
          refine o_skip rfl rfl rfl rfl rfl rfl ?_
          refine o_skip rfl rfl rfl rfl rfl rfl ?_
          refine o_skip rfl rfl rfl rfl rfl rfl ?_
          refine o_skip rfl rfl rfl rfl rfl rfl ?_
          refine o_pk (.t (.d (.lit (.bool true)))) (b := true) rfl (g0 rfl) rfl rfl rfl rfl rfl ?_
          refine o_nil ?_
          repeat (first | refine then_normal ?_ | refine then_exit ?_ | refine then_ret ?_ | refine block_normal ?_ | refine block_ret ?_ | refine block_exit ?_ | refine block_pass rfl ?_)
          refine c_t rfl rfl ?_
          refine c_seq ?_
          refine c_region ?_
          refine o_s (.t (.d (.lit (.bool false)))) (g0 rfl) rfl rfl rfl ?_
          refine o_nil ?_
          repeat (first | refine then_normal ?_ | refine then_exit ?_ | refine then_ret ?_ | refine block_normal ?_ | refine block_ret ?_ | refine block_exit ?_ | refine block_pass rfl ?_)
          refine c_ret ?_
          repeat (first | refine then_normal ?_ | refine then_exit ?_ | refine then_ret ?_ | refine block_normal ?_ | refine block_ret ?_ | refine block_exit ?_ | refine block_pass rfl ?_)
          obtain rfl := Option.some.inj h
          exact end0 rfl (.refl _)
        · refine o_s (.ref 2 4) (gy rfl rfl rfl h6) rfl rfl rfl ?_
          refine o_s (.t (.d (.seq 1 (List.map cStr p0.Names)))) (gy rfl rfl rfl h6) rfl rfl rfl ?_
          refine o_c (gy rfl rfl rfl h6) rfl rfl rfl (lenE _ _) trivial ?_
          refine o_s (.ref 3 4) (gy rfl rfl rfl h6) rfl rfl rfl ?_
          refine o_s (.t (.d (.seq 1 (List.map cStr p1.Names)))) (gy rfl rfl rfl h6) rfl rfl rfl ?_
          refine o_c (gy rfl rfl rfl h6) rfl rfl rfl (lenE _ _) trivial ?_
          refine o_s (.t (.d (.lit (.bool ((p0.Names.length : Int) != (p1.Names.length : Int)))))) (gy rfl rfl rfl h6) rfl rfl rfl ?_
          refine o_pk (.t (.d (.lit (.bool ((p0.Names.length : Int) != (p1.Names.length : Int)))))) (b := false) h6 (g0 rfl) rfl rfl rfl rfl rfl ?_
          refine o_s (.t (.d (.lit (.bool ((p0.Names.length : Int) != (p1.Names.length : Int)))))) (g0 rfl) rfl rfl rfl ?_
          rcases bif_some h with ⟨h7, h⟩ | ⟨h7, h⟩
          · refine o_skip rfl rfl rfl h7 rfl rfl ?_
            refine o_skip rfl rfl rfl h7 rfl rfl ?_
            refine o_skip rfl rfl rfl h7 rfl rfl ?_
            refine o_skip rfl rfl rfl h7 rfl rfl ?_
            refine o_skip rfl rfl rfl h7 rfl rfl ?_
            refine o_skip rfl rfl rfl h7 rfl rfl ?_
            refine o_pk (.t (.d (.lit (.bool true)))) (b := true) h7 (g0 rfl) rfl rfl rfl rfl rfl ?_
            refine o_s (.t (.d (.lit (.bool true)))) (g0 rfl) rfl rfl rfl ?_
            refine o_skip rfl rfl rfl rfl rfl rfl ?_
            refine o_skip rfl rfl rfl rfl rfl rfl ?_
            refine o_skip rfl rfl rfl rfl rfl rfl ?_
            refine o_skip rfl rfl rfl rfl rfl rfl ?_
            refine o_skip rfl rfl rfl rfl rfl rfl ?_
            refine o_skip rfl rfl rfl rfl rfl rfl ?_
            refine o_skip rfl rfl rfl rfl rfl rfl ?_
            refine o_pk (.t (.d (.lit (.bool true)))) (b := true) rfl (g0 rfl) rfl rfl rfl rfl rfl ?_
            refine o_nil ?_
            repeat (first | refine then_normal ?_ | refine then_exit ?_ | refine then_ret ?_ | refine block_normal ?_ | refine block_ret ?_ | refine block_exit ?_ | refine block_pass rfl ?_)
            refine c_t rfl rfl ?_
            refine c_seq ?_
            refine c_region ?_
            refine o_s (.t (.d (.lit (.bool false)))) (g0 rfl) rfl rfl rfl ?_
            refine o_nil ?_
            repeat (first | refine then_normal ?_ | refine then_exit ?_ | refine then_ret ?_ | refine block_normal ?_ | refine block_ret ?_ | refine block_exit ?_ | refine block_pass rfl ?_)
            refine c_ret ?_
            repeat (first | refine then_normal ?_ | refine then_exit ?_ | refine then_ret ?_ | refine block_normal ?_ | refine block_ret ?_ | refine block_exit ?_ | refine block_pass rfl ?_)
            obtain rfl := Option.some.inj h
            exact end0 rfl (.refl _)
          · refine o_s (.ref 2 5) (gy rfl rfl rfl h7) rfl rfl rfl ?_
            refine o_s (.t (.d (.seq 2 (List.map cS_api_Member p0.Members)))) (gy rfl rfl rfl h7) rfl rfl rfl ?_
            refine o_s (.ref 3 5) (gy rfl rfl rfl h7) rfl rfl rfl ?_
            refine o_s (.t (.d (.seq 2 (List.map cS_api_Member p1.Members)))) (gy rfl rfl rfl h7) rfl rfl rfl ?_
            obtain ⟨x8, h9, h⟩ := bind_some h
            refine o_ca (fc_R27_Same _ _ _ h9) (gy rfl rfl rfl h7) rfl rfl rfl rfl rfl rfl rfl (.cons (.refl _) (.cons (.refl _) .nil)) rfl rfl ?_
            refine o_s (.t (.d (.lit (.bool (!x8))))) (gy rfl rfl rfl h7) rfl rfl rfl ?_
            refine o_pk (.t (.d (.lit (.bool (!x8))))) (b := false) h7 (g0 rfl) rfl rfl rfl rfl rfl ?_
            refine o_s (.t (.d (.lit (.bool (!x8))))) (g0 rfl) rfl rfl rfl ?_
            rcases bif_some h with ⟨h10, h⟩ | ⟨h10, h⟩
            · refine o_skip rfl rfl rfl h10 rfl rfl ?_
              refine o_skip rfl rfl rfl h10 rfl rfl ?_
              refine o_skip rfl rfl rfl h10 rfl rfl ?_
              refine o_skip rfl rfl rfl h10 rfl rfl ?_
              refine o_skip rfl rfl rfl h10 rfl rfl ?_
              refine o_skip rfl rfl rfl h10 rfl rfl ?_
              refine o_skip rfl rfl rfl h10 rfl rfl ?_
              refine o_pk (.t (.d (.lit (.bool true)))) (b := true) h10 (g0 rfl) rfl rfl rfl rfl rfl ?_
              refine o_nil ?_
              repeat (first | refine then_normal ?_ | refine then_exit ?_ | refine then_ret ?_ | refine block_normal ?_ | refine block_ret ?_ | refine block_exit ?_ | refine block_pass rfl ?_)
              refine c_t rfl rfl ?_
              refine c_seq ?_
              refine c_region ?_
              refine o_s (.t (.d (.lit (.bool false)))) (g0 rfl) rfl rfl rfl ?_
              refine o_nil ?_
              repeat (first | refine then_normal ?_ | refine then_exit ?_ | refine then_ret ?_ | refine block_normal ?_ | refine block_ret ?_ | refine block_exit ?_ | refine block_pass rfl ?_)
              refine c_ret ?_
              repeat (first | refine then_normal ?_ | refine then_exit ?_ | refine then_ret ?_ | refine block_normal ?_ | refine block_ret ?_ | refine block_exit ?_ | refine block_pass rfl ?_)
              obtain rfl := Option.some.inj h
              exact end0 rfl (.refl _)
            · refine o_s (.ref 2 6) (gy rfl rfl rfl h10) rfl rfl rfl ?_
              refine o_s (.t (.d (.seq 4 (List.map cS_api_Past p0.History)))) (gy rfl rfl rfl h10) rfl rfl rfl ?_
              refine o_c (gy rfl rfl rfl h10) rfl rfl rfl (lenE _ _) trivial ?_
              refine o_s (.ref 3 6) (gy rfl rfl rfl h10) rfl rfl rfl ?_
              refine o_s (.t (.d (.seq 4 (List.map cS_api_Past p1.History)))) (gy rfl rfl rfl h10) rfl rfl rfl ?_
              refine o_c (gy rfl rfl rfl h10) rfl rfl rfl (lenE _ _) trivial ?_
              refine o_s (.t (.d (.lit (.bool ((p0.History.length : Int) != (p1.History.length : Int)))))) (gy rfl rfl rfl h10) rfl rfl rfl ?_
              refine o_pk (.t (.d (.lit (.bool ((p0.History.length : Int) != (p1.History.length : Int)))))) (b := false) h10 (g0 rfl) rfl rfl rfl rfl rfl ?_
              refine o_nil ?_
              repeat (first | refine then_normal ?_ | refine then_exit ?_ | refine then_ret ?_ | refine block_normal ?_ | refine block_ret ?_ | refine block_exit ?_ | refine block_pass rfl ?_)
              rcases bif_some h with ⟨h11, h⟩ | ⟨h11, h⟩
              · refine c_t h11 rfl ?_
                refine c_seq ?_
                refine c_region ?_
                refine o_s (.t (.d (.lit (.bool false)))) (g0 rfl) rfl rfl rfl ?_
                refine o_nil ?_
                repeat (first | refine then_normal ?_ | refine then_exit ?_ | refine then_ret ?_ | refine block_normal ?_ | refine block_ret ?_ | refine block_exit ?_ | refine block_pass rfl ?_)
                refine c_ret ?_
                repeat (first | refine then_normal ?_ | refine then_exit ?_ | refine then_ret ?_ | refine block_normal ?_ | refine block_ret ?_ | refine block_exit ?_ | refine block_pass rfl ?_)
                obtain rfl := Option.some.inj h
                exact end0 rfl (.refl _)
              · refine c_f h11 rfl ?_
                refine c_skip ?_
                repeat (first | refine then_normal ?_ | refine then_exit ?_ | refine then_ret ?_ | refine block_normal ?_ | refine block_ret ?_ | refine block_exit ?_ | refine block_pass rfl ?_)
                refine c_cut (fun (_ : Unit) => [(2, .box [.d (.lit (.int .i64 p0.Err)), .d (.lit (.int .i64 p0.Number)), .d (.lit (.string ⟨⟨p0.By⟩⟩)), .d (.seq 1 (bytesD p0.Data)), .d (.seq 1 (List.map cStr p0.Names)), .d (.seq 2 (List.map cS_api_Member p0.Members)), .d (.seq 4 (List.map cS_api_Past p0.History))]), (3, .box [.d (.lit (.int .i64 p1.Err)), .d (.lit (.int .i64 p1.Number)), .d (.lit (.string ⟨⟨p1.By⟩⟩)), .d (.seq 1 (bytesD p1.Data)), .d (.seq 1 (List.map cStr p1.Names)), .d (.seq 2 (List.map cS_api_Member p1.Members)), .d (.seq 4 (List.map cS_api_Past p1.History))])]) (fun (_ : Unit) => m_R31_Same_j1 p0 p1 = some r) ?_ ?_
                · refine c_seq ?_
                  refine c_region ?_
                  refine o_s (.t (.d (.lit (.int .i64 0)))) (g0 rfl) rfl rfl rfl ?_
                  refine o_nil ?_
                  repeat (first | refine then_normal ?_ | refine then_exit ?_ | refine then_ret ?_ | refine block_normal ?_ | refine block_ret ?_ | refine block_exit ?_ | refine block_pass rfl ?_)
                  refine c_block ?_
                  refine c_fuel (fun (z19 : Int) => [(2, .box [.d (.lit (.int .i64 p0.Err)), .d (.lit (.int .i64 p0.Number)), .d (.lit (.string ⟨⟨p0.By⟩⟩)), .d (.seq 1 (bytesD p0.Data)), .d (.seq 1 (List.map cStr p0.Names)), .d (.seq 2 (List.map cS_api_Member p0.Members)), .d (.seq 4 (List.map cS_api_Past p0.History))]), (3, .box [.d (.lit (.int .i64 p1.Err)), .d (.lit (.int .i64 p1.Number)), .d (.lit (.string ⟨⟨p1.By⟩⟩)), .d (.seq 1 (bytesD p1.Data)), .d (.seq 1 (List.map cStr p1.Names)), .d (.seq 2 (List.map cS_api_Member p1.Members)), .d (.seq 4 (List.map cS_api_Past p1.History))]), (5, .t (.d (.lit (.int .i64 z19))))]) (fun nl3 => (fun (z19 : Int) => m_R31_Same_l3 p0 p1 nl3 z19 = some r)) (p0.Names.length + 1) 0 h ⟨(.refl _), ⟨(.refl _), ⟨(.refl _), trivial⟩⟩⟩ rfl ?_
                  rintro nl3 z19 h
                  cases nl3 with
                  | zero => exact none_ne h
                  | succ nl3 =>
                    refine c_seq ?_
                    refine c_seq ?_
                    refine c_region ?_
                    refine o_s (.t (.d (.lit (.int .i64 z19)))) (g0 rfl) rfl rfl rfl ?_
                    refine o_s (.ref 2 4) (g0 rfl) rfl rfl rfl ?_
                    refine o_s (.t (.d (.seq 1 (List.map cStr p0.Names)))) (g0 rfl) rfl rfl rfl ?_
                    refine o_c (g0 rfl) rfl rfl rfl (lenE _ _) trivial ?_
                    refine o_s (.t (.d (.lit (.bool (decide (z19 < (p0.Names.length : Int))))))) (g0 rfl) rfl rfl rfl ?_
                    refine o_nil ?_
                    repeat (first | refine then_normal ?_ | refine then_exit ?_ | refine then_ret ?_ | refine block_normal ?_ | refine block_ret ?_ | refine block_exit ?_ | refine block_pass rfl ?_)
                    rcases bif_some h with ⟨h20, h⟩ | ⟨h20, h⟩
                    · refine c_t h20 rfl ?_
                      refine c_skip ?_
                      repeat (first | refine then_normal ?_ | refine then_exit ?_ | refine then_ret ?_ | refine block_normal ?_ | refine block_ret ?_ | refine block_exit ?_ | refine block_pass rfl ?_)
                      refine c_seq ?_
                      refine c_block ?_
                      refine c_seq ?_
                      refine c_draw mixed (by kernel_rfl) ?_
                      refine d_s (.ref 2 4) rfl (dg0 rfl) rfl rfl rfl rfl ?_
                      refine d_s (.t (.d (.seq 1 (List.map cStr p0.Names)))) rfl (dg0 rfl) rfl rfl rfl rfl ?_
                      refine d_s (.t (.d (.lit (.int .i64 z19)))) rfl (dg0 rfl) rfl rfl rfl rfl ?_
                      obtain ⟨x21, h22, h⟩ := bind_some h
                      refine d_c rfl (dg0 rfl) rfl rfl rfl rfl (idxE h22) (idxC h22) ?_
                      refine d_s (.t (.d (.lit (.string ⟨⟨x21⟩⟩)))) rfl (dg0 rfl) rfl rfl rfl rfl ?_
                      refine d_s (.ref 3 4) rfl (dg0 rfl) rfl rfl rfl rfl ?_
                      refine d_s (.t (.d (.seq 1 (List.map cStr p1.Names)))) rfl (dg0 rfl) rfl rfl rfl rfl ?_
                      refine d_s (.t (.d (.lit (.int .i64 z19)))) rfl (dg0 rfl) rfl rfl rfl rfl ?_
                      obtain ⟨x23, h24, h⟩ := bind_some h
                      refine d_c rfl (dg0 rfl) rfl rfl rfl rfl (idxE h24) (idxC h24) ?_
                      refine d_s (.t (.d (.lit (.string ⟨⟨x23⟩⟩)))) rfl (dg0 rfl) rfl rfl rfl rfl ?_
                      refine d_c rfl (dg0 rfl) rfl rfl rfl rfl (congrArg (fun z => A.t (.d (.lit (.bool (!z))))) (str_beqL _ _)) trivial ?_
                      refine d_nil (by kernel_rfl) ?_
                      repeat (first | refine then_normal ?_ | refine then_exit ?_ | refine then_ret ?_ | refine block_normal ?_ | refine block_ret ?_ | refine block_exit ?_ | refine block_pass rfl ?_)
                      rcases bif_some h with ⟨h25, h⟩ | ⟨h25, h⟩
                      · refine c_t h25 rfl ?_
                        refine c_seq ?_
                        refine c_region ?_
                        refine o_s (.t (.d (.lit (.bool false)))) (g0 rfl) rfl rfl rfl ?_
                        refine o_nil ?_
                        repeat (first | refine then_normal ?_ | refine then_exit ?_ | refine then_ret ?_ | refine block_normal ?_ | refine block_ret ?_ | refine block_exit ?_ | refine block_pass rfl ?_)
                        refine c_ret ?_
                        repeat (first | refine then_normal ?_ | refine then_exit ?_ | refine then_ret ?_ | refine block_normal ?_ | refine block_ret ?_ | refine block_exit ?_ | refine block_pass rfl ?_)
                        obtain rfl := Option.some.inj h
                        exact end0 rfl (.refl _)
                      · refine c_f h25 rfl ?_
                        refine c_skip ?_
                        repeat (first | refine then_normal ?_ | refine then_exit ?_ | refine then_ret ?_ | refine block_normal ?_ | refine block_ret ?_ | refine block_exit ?_ | refine block_pass rfl ?_)
                        refine c_region ?_
                        refine o_s (.t (.d (.lit (.int .i64 z19)))) (g0 rfl) rfl rfl rfl ?_
                        refine o_s (.t (.d (.lit (.int .i64 (wi (z19 + 1)))))) (g0 rfl) rfl rfl rfl ?_
                        refine o_s (.t (.d (.lit (.int .i64 (wi (z19 + 1)))))) (g0 rfl) rfl rfl rfl ?_
                        refine o_nil ?_
                        repeat (first | refine then_normal ?_ | refine then_exit ?_ | refine then_ret ?_ | refine block_normal ?_ | refine block_ret ?_ | refine block_exit ?_ | refine block_pass rfl ?_)
                        exact ⟨nl3, (wi (z19 + 1)), Nat.lt_succ_self nl3, h, ⟨(.refl _), ⟨(.refl _), ⟨(.refl _), trivial⟩⟩⟩, rfl⟩
                    · refine c_f h20 rfl ?_
                      refine c_exit ?_
                      repeat (first | refine then_normal ?_ | refine then_exit ?_ | refine then_ret ?_ | refine block_normal ?_ | refine block_ret ?_ | refine block_exit ?_ | refine block_pass rfl ?_)
                      exact ⟨(), h, ⟨(.refl _), ⟨(.refl _), trivial⟩⟩, rfl⟩
                · rintro ⟨⟩ h
                  refine c_seq ?_
                  refine c_seq ?_
                  refine c_region ?_
                  refine o_s (.t (.d (.lit (.int .i64 0)))) (g0 rfl) rfl rfl rfl ?_
                  refine o_nil ?_
                  repeat (first | refine then_normal ?_ | refine then_exit ?_ | refine then_ret ?_ | refine block_normal ?_ | refine block_ret ?_ | refine block_exit ?_ | refine block_pass rfl ?_)
                  refine c_block ?_
                  refine c_fuel (fun (z12 : Int) => [(2, .box [.d (.lit (.int .i64 p0.Err)), .d (.lit (.int .i64 p0.Number)), .d (.lit (.string ⟨⟨p0.By⟩⟩)), .d (.seq 1 (bytesD p0.Data)), .d (.seq 1 (List.map cStr p0.Names)), .d (.seq 2 (List.map cS_api_Member p0.Members)), .d (.seq 4 (List.map cS_api_Past p0.History))]), (3, .box [.d (.lit (.int .i64 p1.Err)), .d (.lit (.int .i64 p1.Number)), .d (.lit (.string ⟨⟨p1.By⟩⟩)), .d (.seq 1 (bytesD p1.Data)), .d (.seq 1 (List.map cStr p1.Names)), .d (.seq 2 (List.map cS_api_Member p1.Members)), .d (.seq 4 (List.map cS_api_Past p1.History))]), (6, .t (.d (.lit (.int .i64 z12))))]) (fun nl2 => (fun (z12 : Int) => m_R31_Same_l2 p0 p1 nl2 z12 = some r)) (p0.History.length + 1) 0 h ⟨(.refl _), ⟨(.refl _), ⟨(.refl _), trivial⟩⟩⟩ rfl ?_
                  rintro nl2 z12 h
                  cases nl2 with
                  | zero => exact none_ne h
                  | succ nl2 =>
                    refine c_seq ?_
                    refine c_seq ?_
                    refine c_region ?_
                    refine o_s (.t (.d (.lit (.int .i64 z12)))) (g0 rfl) rfl rfl rfl ?_
                    refine o_s (.ref 2 6) (g0 rfl) rfl rfl rfl ?_
                    refine o_s (.t (.d (.seq 4 (List.map cS_api_Past p0.History)))) (g0 rfl) rfl rfl rfl ?_
                    refine o_c (g0 rfl) rfl rfl rfl (lenE _ _) trivial ?_
                    refine o_s (.t (.d (.lit (.bool (decide (z12 < (p0.History.length : Int))))))) (g0 rfl) rfl rfl rfl ?_
                    refine o_nil ?_
                    repeat (first | refine then_normal ?_ | refine then_exit ?_ | refine then_ret ?_ | refine block_normal ?_ | refine block_ret ?_ | refine block_exit ?_ | refine block_pass rfl ?_)
                    rcases bif_some h with ⟨h13, h⟩ | ⟨h13, h⟩
                    · refine c_t h13 rfl ?_
                      refine c_skip ?_
                      repeat (first | refine then_normal ?_ | refine then_exit ?_ | refine then_ret ?_ | refine block_normal ?_ | refine block_ret ?_ | refine block_exit ?_ | refine block_pass rfl ?_)
                      refine c_seq ?_
                      refine c_block ?_
                      refine c_seq ?_
                      refine c_draw mixed (by kernel_rfl) ?_
                      refine d_s (.ref 2 6) rfl (dg0 rfl) rfl rfl rfl rfl ?_
                      refine d_s (.t (.d (.seq 4 (List.map cS_api_Past p0.History)))) rfl (dg0 rfl) rfl rfl rfl rfl ?_
                      refine d_s (.t (.d (.lit (.int .i64 z12)))) rfl (dg0 rfl) rfl rfl rfl rfl ?_
                      obtain ⟨x14, h15, h⟩ := bind_some h
                      refine d_c rfl (dg0 rfl) rfl rfl rfl rfl (idxE h15) (idxC h15) ?_
                      refine d_s (.t (.agg [.lit (.int .i64 x14.Number), .lit (.int .i64 x14.Epoch), .lit (.bool x14.Gone), .lit (.string ⟨⟨x14.By⟩⟩)])) rfl (dg0 rfl) rfl rfl rfl rfl ?_
                      refine d_s (.ref 3 6) rfl (dg0 rfl) rfl rfl rfl rfl ?_
                      refine d_s (.t (.d (.seq 4 (List.map cS_api_Past p1.History)))) rfl (dg0 rfl) rfl rfl rfl rfl ?_
                      refine d_s (.t (.d (.lit (.int .i64 z12)))) rfl (dg0 rfl) rfl rfl rfl rfl ?_
                      obtain ⟨x16, h17, h⟩ := bind_some h
                      refine d_c rfl (dg0 rfl) rfl rfl rfl rfl (idxE h17) (idxC h17) ?_
                      refine d_s (.t (.agg [.lit (.int .i64 x16.Number), .lit (.int .i64 x16.Epoch), .lit (.bool x16.Gone), .lit (.string ⟨⟨x16.By⟩⟩)])) rfl (dg0 rfl) rfl rfl rfl rfl ?_
                      refine d_eqs true (b' := ((x14.Number == x16.Number) && ((x14.Epoch == x16.Epoch) && ((x14.Gone == x16.Gone) && ((x14.By == x16.By) && true))))) (andE rfl (andE rfl (andE rfl (andE (str_beqL _ _) rfl)))) rfl (dg0 rfl) rfl rfl rfl rfl rfl (by kernel_rfl) ((!((x14.Number == x16.Number) && ((x14.Epoch == x16.Epoch) && ((x14.Gone == x16.Gone) && ((x14.By == x16.By) && true)))))) (by cases ((x14.Number == x16.Number) && ((x14.Epoch == x16.Epoch) && ((x14.Gone == x16.Gone) && ((x14.By == x16.By) && true)))) <;> rfl) ?_
                      refine d_nil (by kernel_rfl) ?_
                      repeat (first | refine then_normal ?_ | refine then_exit ?_ | refine then_ret ?_ | refine block_normal ?_ | refine block_ret ?_ | refine block_exit ?_ | refine block_pass rfl ?_)
                      rcases bif_some h with ⟨h18, h⟩ | ⟨h18, h⟩
                      · refine c_t h18 rfl ?_
                        refine c_seq ?_
                        refine c_region ?_
                        refine o_s (.t (.d (.lit (.bool false)))) (g0 rfl) rfl rfl rfl ?_
                        refine o_nil ?_
                        repeat (first | refine then_normal ?_ | refine then_exit ?_ | refine then_ret ?_ | refine block_normal ?_ | refine block_ret ?_ | refine block_exit ?_ | refine block_pass rfl ?_)
                        refine c_ret ?_
                        repeat (first | refine then_normal ?_ | refine then_exit ?_ | refine then_ret ?_ | refine block_normal ?_ | refine block_ret ?_ | refine block_exit ?_ | refine block_pass rfl ?_)
                        obtain rfl := Option.some.inj h
                        exact end0 rfl (.refl _)
                      · refine c_f h18 rfl ?_
                        refine c_skip ?_
                        repeat (first | refine then_normal ?_ | refine then_exit ?_ | refine then_ret ?_ | refine block_normal ?_ | refine block_ret ?_ | refine block_exit ?_ | refine block_pass rfl ?_)
                        refine c_region ?_
                        refine o_s (.t (.d (.lit (.int .i64 z12)))) (g0 rfl) rfl rfl rfl ?_
                        refine o_s (.t (.d (.lit (.int .i64 (wi (z12 + 1)))))) (g0 rfl) rfl rfl rfl ?_
                        refine o_s (.t (.d (.lit (.int .i64 (wi (z12 + 1)))))) (g0 rfl) rfl rfl rfl ?_
                        refine o_nil ?_
                        repeat (first | refine then_normal ?_ | refine then_exit ?_ | refine then_ret ?_ | refine block_normal ?_ | refine block_ret ?_ | refine block_exit ?_ | refine block_pass rfl ?_)
                        exact ⟨nl2, (wi (z12 + 1)), Nat.lt_succ_self nl2, h, ⟨(.refl _), ⟨(.refl _), ⟨(.refl _), trivial⟩⟩⟩, rfl⟩
                    · refine c_f h13 rfl ?_
                      refine c_exit ?_
                      repeat (first | refine then_normal ?_ | refine then_exit ?_ | refine then_ret ?_ | refine block_normal ?_ | refine block_ret ?_ | refine block_exit ?_ | refine block_pass rfl ?_)
                      refine c_seq ?_
                      refine c_region ?_
                      refine o_s (.t (.d (.lit (.bool true)))) (g0 rfl) rfl rfl rfl ?_
                      refine o_nil ?_
                      repeat (first | refine then_normal ?_ | refine then_exit ?_ | refine then_ret ?_ | refine block_normal ?_ | refine block_ret ?_ | refine block_exit ?_ | refine block_pass rfl ?_)
                      refine c_ret ?_
                      repeat (first | refine then_normal ?_ | refine then_exit ?_ | refine then_ret ?_ | refine block_normal ?_ | refine block_ret ?_ | refine block_exit ?_ | refine block_pass rfl ?_)
                      obtain rfl := Option.some.inj h
                      exact end0 rfl (.refl _)

theorem fc_L31_AnswerReads (p0 : (List UInt8)) (r : Bool) (h : m_L31_AnswerReads p0 = some r) : FC Try.prog 3 [.t (.d (.seq 1 (bytesD p0)))] [] (.t (.d (.lit (.bool r)))) := by
  refine fc_mk (rs := [.tmp 2]) (n := 49) Try.func3 rfl rfl (Nat.le_of_ble_eq_true rfl) rfl (pins := []) rfl (L := [(0, .t (.d (.seq 1 (bytesD p0))))]) rfl ?_
  refine c_seq ?_
  refine c_region ?_
  refine o_s (.t (.d (.lit (.bool false)))) (g0 rfl) rfl rfl rfl ?_
  refine o_nil ?_
  repeat (first | refine then_normal ?_ | refine then_exit ?_ | refine then_ret ?_ | refine block_normal ?_ | refine block_ret ?_ | refine block_exit ?_ | refine block_pass rfl ?_)
  refine c_seq ?_
  refine c_seq ?_
  refine c_region ?_
  obtain ⟨x1, h2, h⟩ := bind_some h
  refine o_ca (fc_L31_awake _ h2) (g0 rfl) rfl rfl rfl rfl rfl rfl rfl .nil rfl rfl ?_
  refine o_s (.t (.d (.lit (.bool (!x1))))) (g0 rfl) rfl rfl rfl ?_
  refine o_nil ?_
  repeat (first | refine then_normal ?_ | refine then_exit ?_ | refine then_ret ?_ | refine block_normal ?_ | refine block_ret ?_ | refine block_exit ?_ | refine block_pass rfl ?_)
  rcases bif_some h with ⟨h3, h⟩ | ⟨h3, h⟩
  · refine c_t h3 rfl ?_
    refine c_seq ?_
    refine c_region ?_
    refine o_s (.t (.d (.lit (.bool false)))) (g0 rfl) rfl rfl rfl ?_
    refine o_nil ?_
    repeat (first | refine then_normal ?_ | refine then_exit ?_ | refine then_ret ?_ | refine block_normal ?_ | refine block_ret ?_ | refine block_exit ?_ | refine block_pass rfl ?_)
    refine c_ret ?_
    repeat (first | refine then_normal ?_ | refine then_exit ?_ | refine then_ret ?_ | refine block_normal ?_ | refine block_ret ?_ | refine block_exit ?_ | refine block_pass rfl ?_)
    obtain rfl := Option.some.inj h
    exact end0 rfl (.refl _)
  · refine c_f h3 rfl ?_
    refine c_skip ?_
    repeat (first | refine then_normal ?_ | refine then_exit ?_ | refine then_ret ?_ | refine block_normal ?_ | refine block_ret ?_ | refine block_exit ?_ | refine block_pass rfl ?_)
    refine c_seq ?_
    refine c_seq ?_
    refine c_region ?_
    refine o_s (.t (.d (.seq 1 (bytesD p0)))) (g0 rfl) rfl rfl rfl ?_
    refine o_c (g0 rfl) rfl rfl rfl (lenE _ _) trivial ?_
    refine o_s (.t (.d (.lit (.bool (decide ((p0.length : Int) > 2000)))))) (g0 rfl) rfl rfl rfl ?_
    refine o_nil ?_
    repeat (first | refine then_normal ?_ | refine then_exit ?_ | refine then_ret ?_ | refine block_normal ?_ | refine block_ret ?_ | refine block_exit ?_ | refine block_pass rfl ?_)
    rcases bif_some h with ⟨h4, h⟩ | ⟨h4, h⟩
    · refine c_t h4 rfl ?_
      refine c_seq ?_
      refine c_region ?_
      refine o_s (.t (.d (.lit (.bool true)))) (g0 rfl) rfl rfl rfl ?_
      refine o_nil ?_
      repeat (first | refine then_normal ?_ | refine then_exit ?_ | refine then_ret ?_ | refine block_normal ?_ | refine block_ret ?_ | refine block_exit ?_ | refine block_pass rfl ?_)
      refine c_ret ?_
      repeat (first | refine then_normal ?_ | refine then_exit ?_ | refine then_ret ?_ | refine block_normal ?_ | refine block_ret ?_ | refine block_exit ?_ | refine block_pass rfl ?_)
      obtain rfl := Option.some.inj h
      exact end0 rfl (.refl _)
    · refine c_f h4 rfl ?_
      refine c_skip ?_
      repeat (first | refine then_normal ?_ | refine then_exit ?_ | refine then_ret ?_ | refine block_normal ?_ | refine block_ret ?_ | refine block_exit ?_ | refine block_pass rfl ?_)
      refine c_seq ?_
      refine c_region ?_
      refine o_s (.t (.d (.seq 1 (bytesD p0)))) (g0 rfl) rfl rfl rfl ?_
      obtain ⟨x5, h6, h⟩ := bind_some h
      refine o_ca (fc_answer_Read _ _ h6) (g0 rfl) rfl rfl rfl rfl rfl rfl rfl (.cons (.refl _) .nil) rfl rfl ?_
      refine o_s (.tup [.agg [.lit (.int .i64 x5.1.Err), .lit (.int .i64 x5.1.Number), .lit (.string ⟨⟨x5.1.By⟩⟩), .seq 1 (bytesD x5.1.Data), .seq 1 (List.map cStr x5.1.Names), .seq 2 (List.map cS_api_Member x5.1.Members), .seq 4 (List.map cS_api_Past x5.1.History)], .d (.lit (.int .i64 x5.2))]) (g0 rfl) rfl rfl rfl ?_
      refine o_s (.t (.agg [.lit (.int .i64 x5.1.Err), .lit (.int .i64 x5.1.Number), .lit (.string ⟨⟨x5.1.By⟩⟩), .seq 1 (bytesD x5.1.Data), .seq 1 (List.map cStr x5.1.Names), .seq 2 (List.map cS_api_Member x5.1.Members), .seq 4 (List.map cS_api_Past x5.1.History)])) (g0 rfl) rfl rfl rfl ?_
      refine o_s (.t (.d (.lit (.int .i64 x5.2)))) (g0 rfl) rfl rfl rfl ?_
      refine o_s (.box [.d (.lit (.int .i64 0)), .d (.lit (.int .i64 0)), .d (.lit (.string ⟨⟨[]⟩⟩)), .d (.lit (.slice none 0 0)), .d (.lit (.slice none 0 0)), .d (.lit (.slice none 0 0)), .d (.lit (.slice none 0 0))]) (g0 rfl) rfl rfl rfl ?_
      refine o_st (.box [.d (.lit (.int .i64 x5.1.Err)), .d (.lit (.int .i64 x5.1.Number)), .d (.lit (.string ⟨⟨x5.1.By⟩⟩)), .d (.seq 1 (bytesD x5.1.Data)), .d (.seq 1 (List.map cStr x5.1.Names)), .d (.seq 2 (List.map cS_api_Member x5.1.Members)), .d (.seq 4 (List.map cS_api_Past x5.1.History))]) (g0 rfl) rfl rfl rfl ?_
      refine o_s (.t (.d (.lit (.int .i64 x5.2)))) (g0 rfl) rfl rfl rfl ?_
      refine o_nil ?_
      repeat (first | refine then_normal ?_ | refine then_exit ?_ | refine then_ret ?_ | refine block_normal ?_ | refine block_ret ?_ | refine block_exit ?_ | refine block_pass rfl ?_)
      refine c_seq ?_
      refine c_region ?_
      refine o_s (.t (.d (.seq 1 (bytesD p0)))) (g0 rfl) rfl rfl rfl ?_
      obtain ⟨x7, h8, h⟩ := bind_some h
      refine o_ca (fc_R31_Read _ _ h8) (g0 rfl) rfl rfl rfl rfl rfl rfl rfl (.cons (.refl _) .nil) rfl rfl ?_
      refine o_s (.tup [.agg [.lit (.int .i64 x7.1.Err), .lit (.int .i64 x7.1.Number), .lit (.string ⟨⟨x7.1.By⟩⟩), .seq 1 (bytesD x7.1.Data), .seq 1 (List.map cStr x7.1.Names), .seq 2 (List.map cS_api_Member x7.1.Members), .seq 4 (List.map cS_api_Past x7.1.History)], .d (.lit (.int .i64 x7.2))]) (g0 rfl) rfl rfl rfl ?_
      refine o_s (.t (.agg [.lit (.int .i64 x7.1.Err), .lit (.int .i64 x7.1.Number), .lit (.string ⟨⟨x7.1.By⟩⟩), .seq 1 (bytesD x7.1.Data), .seq 1 (List.map cStr x7.1.Names), .seq 2 (List.map cS_api_Member x7.1.Members), .seq 4 (List.map cS_api_Past x7.1.History)])) (g0 rfl) rfl rfl rfl ?_
      refine o_s (.t (.d (.lit (.int .i64 x7.2)))) (g0 rfl) rfl rfl rfl ?_
      refine o_s (.box [.d (.lit (.int .i64 0)), .d (.lit (.int .i64 0)), .d (.lit (.string ⟨⟨[]⟩⟩)), .d (.lit (.slice none 0 0)), .d (.lit (.slice none 0 0)), .d (.lit (.slice none 0 0)), .d (.lit (.slice none 0 0))]) (g0 rfl) rfl rfl rfl ?_
      refine o_st (.box [.d (.lit (.int .i64 x7.1.Err)), .d (.lit (.int .i64 x7.1.Number)), .d (.lit (.string ⟨⟨x7.1.By⟩⟩)), .d (.seq 1 (bytesD x7.1.Data)), .d (.seq 1 (List.map cStr x7.1.Names)), .d (.seq 2 (List.map cS_api_Member x7.1.Members)), .d (.seq 4 (List.map cS_api_Past x7.1.History))]) (g0 rfl) rfl rfl rfl ?_
      refine o_s (.t (.d (.lit (.int .i64 x7.2)))) (g0 rfl) rfl rfl rfl ?_
      refine o_nil ?_
      repeat (first | refine then_normal ?_ | refine then_exit ?_ | refine then_ret ?_ | refine block_normal ?_ | refine block_ret ?_ | refine block_exit ?_ | refine block_pass rfl ?_)
      refine c_seq ?_
      refine c_seq ?_
      refine c_region ?_
      refine o_s (.t (.d (.lit (.int .i64 x5.2)))) (g0 rfl) rfl rfl rfl ?_
      refine o_s (.t (.d (.lit (.int .i64 x7.2)))) (g0 rfl) rfl rfl rfl ?_
      refine o_s (.t (.d (.lit (.bool (x5.2 != x7.2))))) (g0 rfl) rfl rfl rfl ?_
      refine o_s (.t (.d (.lit (.bool (x5.2 != x7.2))))) (g0 rfl) rfl rfl rfl ?_
      rcases bif_some h with ⟨h9, h⟩ | ⟨h9, h⟩
      · refine o_skip rfl rfl rfl h9 rfl rfl ?_
        refine o_skip rfl rfl rfl h9 rfl rfl ?_
        refine o_skip rfl rfl rfl h9 rfl rfl ?_
        refine o_skip rfl rfl rfl h9 rfl rfl ?_
        refine o_pk (.t (.d (.lit (.bool true)))) (b := true) h9 (g0 rfl) rfl rfl rfl rfl rfl ?_
        refine o_nil ?_
        repeat (first | refine then_normal ?_ | refine then_exit ?_ | refine then_ret ?_ | refine block_normal ?_ | refine block_ret ?_ | refine block_exit ?_ | refine block_pass rfl ?_)
        refine c_t rfl rfl ?_
        refine c_seq ?_
        refine c_region ?_
        refine o_s (.t (.d (.lit (.bool false)))) (g0 rfl) rfl rfl rfl ?_
        refine o_nil ?_
        repeat (first | refine then_normal ?_ | refine then_exit ?_ | refine then_ret ?_ | refine block_normal ?_ | refine block_ret ?_ | refine block_exit ?_ | refine block_pass rfl ?_)
        refine c_ret ?_
        repeat (first | refine then_normal ?_ | refine then_exit ?_ | refine then_ret ?_ | refine block_normal ?_ | refine block_ret ?_ | refine block_exit ?_ | refine block_pass rfl ?_)
        obtain rfl := Option.some.inj h
        exact end0 rfl (.refl _)
      · refine o_s (.t (.agg [.lit (.int .i64 x5.1.Err), .lit (.int .i64 x5.1.Number), .lit (.string ⟨⟨x5.1.By⟩⟩), .seq 1 (bytesD x5.1.Data), .seq 1 (List.map cStr x5.1.Names), .seq 2 (List.map cS_api_Member x5.1.Members), .seq 4 (List.map cS_api_Past x5.1.History)])) (gy rfl rfl rfl h9) rfl rfl rfl ?_
        refine o_s (.t (.agg [.lit (.int .i64 x7.1.Err), .lit (.int .i64 x7.1.Number), .lit (.string ⟨⟨x7.1.By⟩⟩), .seq 1 (bytesD x7.1.Data), .seq 1 (List.map cStr x7.1.Names), .seq 2 (List.map cS_api_Member x7.1.Members), .seq 4 (List.map cS_api_Past x7.1.History)])) (gy rfl rfl rfl h9) rfl rfl rfl ?_
        obtain ⟨x10, h11, h⟩ := bind_some h
        refine o_ca (fc_R31_Same _ _ _ h11) (gy rfl rfl rfl h9) rfl rfl rfl rfl rfl rfl rfl (.cons (.refl _) (.cons (.refl _) .nil)) rfl rfl ?_
        refine o_s (.t (.d (.lit (.bool (!x10))))) (gy rfl rfl rfl h9) rfl rfl rfl ?_
        refine o_pk (.t (.d (.lit (.bool (!x10))))) (b := false) h9 (g0 rfl) rfl rfl rfl rfl rfl ?_
        refine o_nil ?_
        repeat (first | refine then_normal ?_ | refine then_exit ?_ | refine then_ret ?_ | refine block_normal ?_ | refine block_ret ?_ | refine block_exit ?_ | refine block_pass rfl ?_)
        rcases bif_some h with ⟨h12, h⟩ | ⟨h12, h⟩
        · refine c_t h12 rfl ?_
          refine c_seq ?_
          refine c_region ?_
          refine o_s (.t (.d (.lit (.bool false)))) (g0 rfl) rfl rfl rfl ?_
          refine o_nil ?_
          repeat (first | refine then_normal ?_ | refine then_exit ?_ | refine then_ret ?_ | refine block_normal ?_ | refine block_ret ?_ | refine block_exit ?_ | refine block_pass rfl ?_)
          refine c_ret ?_
          repeat (first | refine then_normal ?_ | refine then_exit ?_ | refine then_ret ?_ | refine block_normal ?_ | refine block_ret ?_ | refine block_exit ?_ | refine block_pass rfl ?_)
          obtain rfl := Option.some.inj h
          exact end0 rfl (.refl _)
        · refine c_f h12 rfl ?_
          refine c_skip ?_
          repeat (first | refine then_normal ?_ | refine then_exit ?_ | refine then_ret ?_ | refine block_normal ?_ | refine block_ret ?_ | refine block_exit ?_ | refine block_pass rfl ?_)
          refine c_seq ?_
          refine c_region ?_
          refine o_s (.t (.agg [.lit (.int .i64 x5.1.Err), .lit (.int .i64 x5.1.Number), .lit (.string ⟨⟨x5.1.By⟩⟩), .seq 1 (bytesD x5.1.Data), .seq 1 (List.map cStr x5.1.Names), .seq 2 (List.map cS_api_Member x5.1.Members), .seq 4 (List.map cS_api_Past x5.1.History)])) (g0 rfl) rfl rfl rfl ?_
          obtain ⟨x13, h14, h⟩ := bind_some h
          refine o_ca (fc_answer_Write _ _ h14) (g0 rfl) rfl rfl rfl rfl rfl rfl rfl (.cons (.refl _) .nil) rfl rfl ?_
          refine o_s (.tup [.d (.seq 1 (bytesD x13.1)), .d (.lit (.int .i64 x13.2))]) (g0 rfl) rfl rfl rfl ?_
          refine o_s (.t (.d (.seq 1 (bytesD x13.1)))) (g0 rfl) rfl rfl rfl ?_
          refine o_s (.t (.d (.lit (.int .i64 x13.2)))) (g0 rfl) rfl rfl rfl ?_
          refine o_s (.t (.d (.seq 1 (bytesD x13.1)))) (g0 rfl) rfl rfl rfl ?_
          refine o_s (.t (.d (.lit (.int .i64 x13.2)))) (g0 rfl) rfl rfl rfl ?_
          refine o_nil ?_
          repeat (first | refine then_normal ?_ | refine then_exit ?_ | refine then_ret ?_ | refine block_normal ?_ | refine block_ret ?_ | refine block_exit ?_ | refine block_pass rfl ?_)
          refine c_seq ?_
          refine c_region ?_
          refine o_s (.t (.d (.lit (.int .i64 x5.2)))) (g0 rfl) rfl rfl rfl ?_
          refine o_s (.t (.d (.lit (.bool (x5.2 != 0))))) (g0 rfl) rfl rfl rfl ?_
          refine o_s (.t (.d (.lit (.bool (x5.2 != 0))))) (g0 rfl) rfl rfl rfl ?_
          rcases bif_some h with ⟨h15, h⟩ | ⟨h15, h⟩
          · refine o_skip rfl rfl rfl h15 rfl rfl ?_
            refine o_skip rfl rfl rfl h15 rfl rfl ?_
            refine o_skip rfl rfl rfl h15 rfl rfl ?_
            refine o_un rfl rfl rfl rfl rfl ?_
            refine o_un rfl rfl rfl rfl rfl ?_
            refine o_un rfl rfl rfl rfl rfl ?_
            refine o_skip rfl rfl rfl h15 rfl rfl ?_
            refine o_pk (.t (.d (.lit (.bool true)))) (b := true) h15 (g0 rfl) rfl rfl rfl rfl rfl ?_
            refine o_s (.t (.d (.lit (.bool true)))) (g0 rfl) rfl rfl rfl ?_
            refine o_nil ?_
            repeat (first | refine then_normal ?_ | refine then_exit ?_ | refine then_ret ?_ | refine block_normal ?_ | refine block_ret ?_ | refine block_exit ?_ | refine block_pass rfl ?_)
            refine c_ret ?_
            repeat (first | refine then_normal ?_ | refine then_exit ?_ | refine then_ret ?_ | refine block_normal ?_ | refine block_ret ?_ | refine block_exit ?_ | refine block_pass rfl ?_)
            obtain rfl := Option.some.inj h
            exact end0 rfl (.refl _)
          · refine o_s (.t (.d (.lit (.int .i64 x13.2)))) (gy rfl rfl rfl h15) rfl rfl rfl ?_
            refine o_s (.t (.d (.lit (.bool (x13.2 == 0))))) (gy rfl rfl rfl h15) rfl rfl rfl ?_
            refine o_s (.t (.d (.lit (.bool (x13.2 == 0))))) (gy rfl rfl rfl h15) rfl rfl rfl ?_
            rcases bif_some h with ⟨h16, h⟩ | ⟨h16, h⟩
            · refine o_s (.t (.d (.seq 1 (bytesD x13.1)))) (gy rfl rfl rfl h16) rfl rfl rfl ?_
              refine o_s (.t (.d (.seq 1 (bytesD p0)))) (gy rfl rfl rfl h16) rfl rfl rfl ?_
              obtain ⟨x17, h18, h⟩ := bind_some h
              refine o_ca (fc_R01_Same _ _ _ h18) (gy rfl rfl rfl h16) rfl rfl rfl rfl rfl rfl rfl (.cons (.refl _) (.cons (.refl _) .nil)) rfl rfl ?_
              refine o_pk (.t (.d (.lit (.bool x17)))) (b := true) h16 (gy rfl rfl rfl h15) rfl rfl rfl rfl rfl ?_
              refine o_pk (.t (.d (.lit (.bool x17)))) (b := false) h15 (g0 rfl) rfl rfl rfl rfl rfl ?_
              refine o_s (.t (.d (.lit (.bool x17)))) (g0 rfl) rfl rfl rfl ?_
              refine o_nil ?_
              repeat (first | refine then_normal ?_ | refine then_exit ?_ | refine then_ret ?_ | refine block_normal ?_ | refine block_ret ?_ | refine block_exit ?_ | refine block_pass rfl ?_)
              refine c_ret ?_
              repeat (first | refine then_normal ?_ | refine then_exit ?_ | refine then_ret ?_ | refine block_normal ?_ | refine block_ret ?_ | refine block_exit ?_ | refine block_pass rfl ?_)
              obtain rfl := Option.some.inj h
              exact end0 rfl (.refl _)
            · refine o_skip rfl rfl rfl h16 rfl rfl ?_
              refine o_skip rfl rfl rfl h16 rfl rfl ?_
              refine o_skip rfl rfl rfl h16 rfl rfl ?_
              refine o_pk (.t (.d (.lit (.bool false)))) (b := false) h16 (gy rfl rfl rfl h15) rfl rfl rfl rfl rfl ?_
              refine o_pk (.t (.d (.lit (.bool false)))) (b := false) h15 (g0 rfl) rfl rfl rfl rfl rfl ?_
              refine o_s (.t (.d (.lit (.bool false)))) (g0 rfl) rfl rfl rfl ?_
              refine o_nil ?_
              repeat (first | refine then_normal ?_ | refine then_exit ?_ | refine then_ret ?_ | refine block_normal ?_ | refine block_ret ?_ | refine block_exit ?_ | refine block_pass rfl ?_)
              refine c_ret ?_
              repeat (first | refine then_normal ?_ | refine then_exit ?_ | refine then_ret ?_ | refine block_normal ?_ | refine block_ret ?_ | refine block_exit ?_ | refine block_pass rfl ?_)
              obtain rfl := Option.some.inj h
              exact end0 rfl (.refl _)

end Go.Proofs.Yteopjhakjeknaaa
