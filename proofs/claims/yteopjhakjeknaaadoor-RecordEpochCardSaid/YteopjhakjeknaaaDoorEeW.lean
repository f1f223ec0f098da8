/-
  Walks of functions: each function does what its model tells. Printed by a program of this claim's own (gen.py) off the given translation.
-/
import Derived.Test.YteopjhakjeknaaaDoorEpM
import Derived.Test.YteopjhakjeknaaaDoorEbW
import Derived.Test.YteopjhakjeknaaaDoorEeWa
namespace Go.Proofs.YteopjhakjeknaaaDoor
open Go Go.RowKit
set_option linter.unusedVariables false
set_option maxHeartbeats 4000000
set_option maxRecDepth 20000
theorem fc_R35_ReadEpoch (p0 : (List UInt8)) (r : (S_api_EpochRecord × Int)) (h : m_R35_ReadEpoch p0 = some r) : FC Tryd.prog 31 [.t (.d (.seq 1 (bytesD p0)))] [] (.tup [.agg [.lit (.string ⟨⟨r.1.Folder⟩⟩), .lit (.int .i64 r.1.Number), .lit (.int .i64 r.1.Place), .lit (.int .i64 r.1.From), .lit (.int .i64 r.1.Seq), .seq 1 (bytesD r.1.Digest), .seq 2 (List.map cS_api_At r.1.Chain), .seq 1 (bytesD r.1.Public), .seq 1 (bytesD r.1.Link), .lit (.string ⟨⟨r.1.By⟩⟩)], .d (.lit (.int .i64 r.2))]) := by
  refine fc_mk (rs := [.cell 2 58, .tmp 3]) (n := 115) Tryd.func31 rfl rfl (Nat.le_of_ble_eq_true rfl) rfl (pins := []) rfl (L := [(0, .t (.d (.seq 1 (bytesD p0))))]) rfl ?_
  refine c_seq ?_
  refine c_region ?_
  refine o_s (.box [.d (.lit (.string ⟨⟨[]⟩⟩)), .d (.lit (.int .i64 0)), .d (.lit (.int .i64 0)), .d (.lit (.int .i64 0)), .d (.lit (.int .i64 0)), .d (.lit (.slice none 0 0)), .d (.lit (.slice none 0 0)), .d (.lit (.slice none 0 0)), .d (.lit (.slice none 0 0)), .d (.lit (.string ⟨⟨[]⟩⟩))]) (g0 rfl) rfl rfl rfl ?_
  refine o_s (.t (.d (.lit (.int .i64 0)))) (g0 rfl) rfl rfl rfl ?_
  refine o_nil ?_
  repeat (first | refine then_normal ?_ | refine then_exit ?_ | refine then_ret ?_ | refine block_normal ?_ | refine block_ret ?_ | refine block_exit ?_ | refine block_pass rfl ?_)
  refine c_seq ?_
  refine c_region ?_
  refine o_s (.t (.d (.seq 1 (bytesD p0)))) (g0 rfl) rfl rfl rfl ?_
  obtain ⟨x1, h2, h⟩ := bind_some h
  refine o_ca (fc_R02_Decode _ _ h2) (g0 rfl) rfl rfl rfl rfl rfl rfl rfl (.cons (.refl _) .nil) rfl rfl ?_
  refine o_s (.tup [.agg [.lit (.int .i64 x1.1.k), .lit (.int .i64 x1.1.n), .seq 1 (bytesD x1.1.b), .seq 4 (List.map V.cells x1.1.l)], .d (.lit (.int .i64 x1.2))]) (g0 rfl) rfl rfl rfl ?_
  refine o_s (.t (.agg [.lit (.int .i64 x1.1.k), .lit (.int .i64 x1.1.n), .seq 1 (bytesD x1.1.b), .seq 4 (List.map V.cells x1.1.l)])) (g0 rfl) rfl rfl rfl ?_
  refine o_s (.t (.d (.lit (.int .i64 x1.2)))) (g0 rfl) rfl rfl rfl ?_
  refine o_s (.box [.d (.lit (.int .i64 0)), .d (.lit (.int .i64 0)), .d (.lit (.slice none 0 0)), .d (.lit (.slice none 0 0))]) (g0 rfl) rfl rfl rfl ?_
  refine o_st (.box [.d (.lit (.int .i64 x1.1.k)), .d (.lit (.int .i64 x1.1.n)), .d (.seq 1 (bytesD x1.1.b)), .d (.seq 4 (List.map V.cells x1.1.l))]) (g0 rfl) rfl rfl rfl ?_
  refine o_s (.t (.d (.lit (.int .i64 x1.2)))) (g0 rfl) rfl rfl rfl ?_
  refine o_nil ?_
  repeat (first | refine then_normal ?_ | refine then_exit ?_ | refine then_ret ?_ | refine block_normal ?_ | refine block_ret ?_ | refine block_exit ?_ | refine block_pass rfl ?_)
  refine c_seq ?_
  refine c_seq ?_
  refine c_region ?_
  refine o_s (.t (.d (.lit (.int .i64 x1.2)))) (g0 rfl) rfl rfl rfl ?_
  refine o_s (.t (.d (.lit (.bool (x1.2 != 0))))) (g0 rfl) rfl rfl rfl ?_
  refine o_nil ?_
  repeat (first | refine then_normal ?_ | refine then_exit ?_ | refine then_ret ?_ | refine block_normal ?_ | refine block_ret ?_ | refine block_exit ?_ | refine block_pass rfl ?_)
  rcases bif_some h with ⟨h3, h⟩ | ⟨h3, h⟩
  · refine c_t h3 rfl ?_
    refine c_seq ?_
    refine c_region ?_
    refine o_s (.t (.agg [.lit (.string ⟨⟨[]⟩⟩), .lit (.int .i64 0), .lit (.int .i64 0), .lit (.int .i64 0), .lit (.int .i64 0), .lit (.slice none 0 0), .lit (.slice none 0 0), .lit (.slice none 0 0), .lit (.slice none 0 0), .lit (.string ⟨⟨[]⟩⟩)])) (g0 rfl) rfl rfl (by kernel_rfl) ?_
    refine o_s (.t (.d (.lit (.int .i64 x1.2)))) (g0 rfl) rfl rfl rfl ?_
    refine o_st (.box [.d (.lit (.string ⟨⟨[]⟩⟩)), .d (.lit (.int .i64 0)), .d (.lit (.int .i64 0)), .d (.lit (.int .i64 0)), .d (.lit (.int .i64 0)), .d (.lit (.slice none 0 0)), .d (.lit (.slice none 0 0)), .d (.lit (.slice none 0 0)), .d (.lit (.slice none 0 0)), .d (.lit (.string ⟨⟨[]⟩⟩))]) (g0 rfl) rfl rfl rfl ?_
    refine o_s (.t (.d (.lit (.int .i64 x1.2)))) (g0 rfl) rfl rfl rfl ?_
    refine o_nil ?_
    repeat (first | refine then_normal ?_ | refine then_exit ?_ | refine then_ret ?_ | refine block_normal ?_ | refine block_ret ?_ | refine block_exit ?_ | refine block_pass rfl ?_)
    refine c_ret ?_
    repeat (first | refine then_normal ?_ | refine then_exit ?_ | refine then_ret ?_ | refine block_normal ?_ | refine block_ret ?_ | refine block_exit ?_ | refine block_pass rfl ?_)
    obtain rfl := Option.some.inj h
    exact end0 rfl (.tup (.cons (.agg (.cons (.refl _) (.cons (.refl _) (.cons (.refl _) (.cons (.refl _) (.cons (.refl _) (.cons (.nil _) (.cons (.nil _) (.cons (.nil _) (.cons (.nil _) (.cons (.refl _) .nil))))))))))) (.cons (.refl _) .nil)))
  · refine c_f h3 rfl ?_
    refine c_skip ?_
    repeat (first | refine then_normal ?_ | refine then_exit ?_ | refine then_ret ?_ | refine block_normal ?_ | refine block_ret ?_ | refine block_exit ?_ | refine block_pass rfl ?_)
    refine c_seq ?_
    refine c_seq ?_
    refine c_region ?_
    refine o_s (.t (.agg [.lit (.int .i64 x1.1.k), .lit (.int .i64 x1.1.n), .seq 1 (bytesD x1.1.b), .seq 4 (List.map V.cells x1.1.l)])) (g0 rfl) rfl rfl rfl ?_
    refine o_s (.t (.own 3 1 (List.map cI64 [2, 2, 1, 1, 1, 1, 2, 3, 2, 2, 2]))) (g0 rfl) rfl rfl rfl ?_
    obtain ⟨x4, h5, h⟩ := bind_some h
    refine o_ca (fc_R28_Kinds _ _ _ h5) (g0 rfl) rfl rfl rfl rfl rfl rfl rfl (.cons (.refl _) (.cons (.refl _) .nil)) rfl rfl ?_
    refine o_s (.t (.d (.lit (.bool (!x4))))) (g0 rfl) rfl rfl rfl ?_
    refine o_nil ?_
    repeat (first | refine then_normal ?_ | refine then_exit ?_ | refine then_ret ?_ | refine block_normal ?_ | refine block_ret ?_ | refine block_exit ?_ | refine block_pass rfl ?_)
    rcases bif_some h with ⟨h6, h⟩ | ⟨h6, h⟩
    · refine c_t h6 rfl ?_
      refine c_seq ?_
      refine c_region ?_
      refine o_s (.t (.agg [.lit (.string ⟨⟨[]⟩⟩), .lit (.int .i64 0), .lit (.int .i64 0), .lit (.int .i64 0), .lit (.int .i64 0), .lit (.slice none 0 0), .lit (.slice none 0 0), .lit (.slice none 0 0), .lit (.slice none 0 0), .lit (.string ⟨⟨[]⟩⟩)])) (g0 rfl) rfl rfl (by kernel_rfl) ?_
      refine o_st (.box [.d (.lit (.string ⟨⟨[]⟩⟩)), .d (.lit (.int .i64 0)), .d (.lit (.int .i64 0)), .d (.lit (.int .i64 0)), .d (.lit (.int .i64 0)), .d (.lit (.slice none 0 0)), .d (.lit (.slice none 0 0)), .d (.lit (.slice none 0 0)), .d (.lit (.slice none 0 0)), .d (.lit (.string ⟨⟨[]⟩⟩))]) (g0 rfl) rfl rfl rfl ?_
      refine o_s (.t (.d (.lit (.int .i64 11)))) (g0 rfl) rfl rfl rfl ?_
      refine o_nil ?_
      repeat (first | refine then_normal ?_ | refine then_exit ?_ | refine then_ret ?_ | refine block_normal ?_ | refine block_ret ?_ | refine block_exit ?_ | refine block_pass rfl ?_)
      refine c_ret ?_
      repeat (first | refine then_normal ?_ | refine then_exit ?_ | refine then_ret ?_ | refine block_normal ?_ | refine block_ret ?_ | refine block_exit ?_ | refine block_pass rfl ?_)
      obtain rfl := Option.some.inj h
      exact end0 rfl (.tup (.cons (.agg (.cons (.refl _) (.cons (.refl _) (.cons (.refl _) (.cons (.refl _) (.cons (.refl _) (.cons (.nil _) (.cons (.nil _) (.cons (.nil _) (.cons (.nil _) (.cons (.refl _) .nil))))))))))) (.cons (.refl _) .nil)))
    · refine c_f h6 rfl ?_
      refine c_skip ?_
      repeat (first | refine then_normal ?_ | refine then_exit ?_ | refine then_ret ?_ | refine block_normal ?_ | refine block_ret ?_ | refine block_exit ?_ | refine block_pass rfl ?_)
      refine c_seq ?_
      refine c_region ?_
      refine o_s (.ref 4 3) (g0 rfl) rfl rfl rfl ?_
      refine o_s (.t (.d (.seq 4 (List.map V.cells x1.1.l)))) (g0 rfl) rfl rfl rfl ?_
      refine o_s (.t (.d (.seq 4 (List.map V.cells x1.1.l)))) (g0 rfl) rfl rfl rfl ?_
      refine o_nil ?_
      repeat (first | refine then_normal ?_ | refine then_exit ?_ | refine then_ret ?_ | refine block_normal ?_ | refine block_ret ?_ | refine block_exit ?_ | refine block_pass rfl ?_)
      refine c_seq ?_
      refine c_draw mixed (by kernel_rfl) ?_
      refine d_s (.t (.d (.seq 4 (List.map V.cells x1.1.l)))) rfl (dg0 rfl) rfl rfl rfl rfl ?_
      obtain ⟨x7, h8, h⟩ := bind_some h
      refine d_c rfl (dg0 rfl) rfl rfl rfl rfl (idxE' V.cells_eq h8) (idxC h8) ?_
      refine d_s (.imm [.seq 1 (bytesD x7.b), .seq 4 (List.map V.cells x7.l)]) rfl (dg0 rfl) rfl rfl rfl rfl ?_
      refine d_s (.t (.d (.seq 1 (bytesD x7.b)))) rfl (dg0 rfl) rfl rfl rfl rfl ?_
      refine d_c rfl (dg0 rfl) rfl rfl rfl rfl (strE _) (isB_bytes _) ?_
      refine d_s (.t (.d (.seq 4 (List.map V.cells x1.1.l)))) rfl (dg0 rfl) rfl rfl rfl rfl ?_
      obtain ⟨x9, h10, h⟩ := bind_some h
      refine d_c rfl (dg0 rfl) rfl rfl rfl rfl (idxE' V.cells_eq h10) (idxC h10) ?_
      refine d_s (.imm [.lit (.int .i64 x9.n), .seq 1 (bytesD x9.b), .seq 4 (List.map V.cells x9.l)]) rfl (dg0 rfl) rfl rfl rfl rfl ?_
      refine d_s (.t (.d (.lit (.int .i64 x9.n)))) rfl (dg0 rfl) rfl rfl rfl rfl ?_
      refine d_s (.t (.d (.seq 4 (List.map V.cells x1.1.l)))) rfl (dg0 rfl) rfl rfl rfl rfl ?_
      obtain ⟨x11, h12, h⟩ := bind_some h
      refine d_c rfl (dg0 rfl) rfl rfl rfl rfl (idxE' V.cells_eq h12) (idxC h12) ?_
      refine d_s (.imm [.lit (.int .i64 x11.n), .seq 1 (bytesD x11.b), .seq 4 (List.map V.cells x11.l)]) rfl (dg0 rfl) rfl rfl rfl rfl ?_
      refine d_s (.t (.d (.lit (.int .i64 x11.n)))) rfl (dg0 rfl) rfl rfl rfl rfl ?_
      refine d_s (.t (.d (.seq 4 (List.map V.cells x1.1.l)))) rfl (dg0 rfl) rfl rfl rfl rfl ?_
      obtain ⟨x13, h14, h⟩ := bind_some h
      refine d_c rfl (dg0 rfl) rfl rfl rfl rfl (idxE' V.cells_eq h14) (idxC h14) ?_
      refine d_s (.imm [.lit (.int .i64 x13.n), .seq 1 (bytesD x13.b), .seq 4 (List.map V.cells x13.l)]) rfl (dg0 rfl) rfl rfl rfl rfl ?_
      refine d_s (.t (.d (.lit (.int .i64 x13.n)))) rfl (dg0 rfl) rfl rfl rfl rfl ?_
      refine d_s (.t (.d (.seq 4 (List.map V.cells x1.1.l)))) rfl (dg0 rfl) rfl rfl rfl rfl ?_
      obtain ⟨x15, h16, h⟩ := bind_some h
      refine d_c rfl (dg0 rfl) rfl rfl rfl rfl (idxE' V.cells_eq h16) (idxC h16) ?_
      refine d_s (.imm [.lit (.int .i64 x15.n), .seq 1 (bytesD x15.b), .seq 4 (List.map V.cells x15.l)]) rfl (dg0 rfl) rfl rfl rfl rfl ?_
      refine d_s (.t (.d (.lit (.int .i64 x15.n)))) rfl (dg0 rfl) rfl rfl rfl rfl ?_
      refine d_s (.t (.d (.seq 4 (List.map V.cells x1.1.l)))) rfl (dg0 rfl) rfl rfl rfl rfl ?_
      obtain ⟨x17, h18, h⟩ := bind_some h
      refine d_c rfl (dg0 rfl) rfl rfl rfl rfl (idxE' V.cells_eq h18) (idxC h18) ?_
      refine d_s (.imm [.seq 1 (bytesD x17.b), .seq 4 (List.map V.cells x17.l)]) rfl (dg0 rfl) rfl rfl rfl rfl ?_
      refine d_s (.t (.d (.seq 1 (bytesD x17.b)))) rfl (dg0 rfl) rfl rfl rfl rfl ?_
      refine d_s (.t (.d (.seq 4 (List.map V.cells x1.1.l)))) rfl (dg0 rfl) rfl rfl rfl rfl ?_
      obtain ⟨x19, h20, h⟩ := bind_some h
      refine d_c rfl (dg0 rfl) rfl rfl rfl rfl (idxE' V.cells_eq h20) (idxC h20) ?_
      refine d_s (.imm [.seq 1 (bytesD x19.b), .seq 4 (List.map V.cells x19.l)]) rfl (dg0 rfl) rfl rfl rfl rfl ?_
      refine d_s (.t (.d (.seq 1 (bytesD x19.b)))) rfl (dg0 rfl) rfl rfl rfl rfl ?_
      refine d_s (.t (.d (.seq 4 (List.map V.cells x1.1.l)))) rfl (dg0 rfl) rfl rfl rfl rfl ?_
      obtain ⟨x21, h22, h⟩ := bind_some h
      refine d_c rfl (dg0 rfl) rfl rfl rfl rfl (idxE' V.cells_eq h22) (idxC h22) ?_
      refine d_s (.imm [.seq 1 (bytesD x21.b), .seq 4 (List.map V.cells x21.l)]) rfl (dg0 rfl) rfl rfl rfl rfl ?_
      refine d_s (.t (.d (.seq 1 (bytesD x21.b)))) rfl (dg0 rfl) rfl rfl rfl rfl ?_
      refine d_s (.t (.d (.seq 4 (List.map V.cells x1.1.l)))) rfl (dg0 rfl) rfl rfl rfl rfl ?_
      obtain ⟨x23, h24, h⟩ := bind_some h
      refine d_c rfl (dg0 rfl) rfl rfl rfl rfl (idxE' V.cells_eq h24) (idxC h24) ?_
      refine d_s (.imm [.seq 1 (bytesD x23.b), .seq 4 (List.map V.cells x23.l)]) rfl (dg0 rfl) rfl rfl rfl rfl ?_
      refine d_s (.t (.d (.seq 1 (bytesD x23.b)))) rfl (dg0 rfl) rfl rfl rfl rfl ?_
      refine d_c rfl (dg0 rfl) rfl rfl rfl rfl (strE _) (isB_bytes _) ?_
      refine d_s (.t (.agg [.lit (.string ⟨⟨x7.b⟩⟩), .lit (.int .i64 x9.n), .lit (.int .i64 x11.n), .lit (.int .i64 x13.n), .lit (.int .i64 x15.n), .seq 1 (bytesD x17.b), .lit (.slice none 0 0), .seq 1 (bytesD x19.b), .seq 1 (bytesD x21.b), .lit (.string ⟨⟨x23.b⟩⟩)])) rfl (dg0 rfl) rfl rfl rfl (by kernel_rfl) ?_
      refine d_s (.box [.d (.lit (.string ⟨⟨[]⟩⟩)), .d (.lit (.int .i64 0)), .d (.lit (.int .i64 0)), .d (.lit (.int .i64 0)), .d (.lit (.int .i64 0)), .d (.lit (.slice none 0 0)), .d (.lit (.slice none 0 0)), .d (.lit (.slice none 0 0)), .d (.lit (.slice none 0 0)), .d (.lit (.string ⟨⟨[]⟩⟩))]) rfl (dg0 rfl) rfl rfl rfl rfl ?_
      refine d_st (.box [.d (.lit (.string ⟨⟨x7.b⟩⟩)), .d (.lit (.int .i64 x9.n)), .d (.lit (.int .i64 x11.n)), .d (.lit (.int .i64 x13.n)), .d (.lit (.int .i64 x15.n)), .d (.seq 1 (bytesD x17.b)), .d (.lit (.slice none 0 0)), .d (.seq 1 (bytesD x19.b)), .d (.seq 1 (bytesD x21.b)), .d (.lit (.string ⟨⟨x23.b⟩⟩))]) rfl (dg0 rfl) rfl rfl rfl rfl ?_
      refine d_nil (by kernel_rfl) ?_
      repeat (first | refine then_normal ?_ | refine then_exit ?_ | refine then_ret ?_ | refine block_normal ?_ | refine block_ret ?_ | refine block_exit ?_ | refine block_pass rfl ?_)
      refine c_cut (fun (y25 : (List S_api_At)) => [(0, .t (.d (.seq 1 (bytesD p0)))), (2, .box [.d (.lit (.string ⟨⟨[]⟩⟩)), .d (.lit (.int .i64 0)), .d (.lit (.int .i64 0)), .d (.lit (.int .i64 0)), .d (.lit (.int .i64 0)), .d (.lit (.slice none 0 0)), .d (.lit (.slice none 0 0)), .d (.lit (.slice none 0 0)), .d (.lit (.slice none 0 0)), .d (.lit (.string ⟨⟨[]⟩⟩))]), (7, .box [.d (.lit (.string ⟨⟨x7.b⟩⟩)), .d (.lit (.int .i64 x9.n)), .d (.lit (.int .i64 x11.n)), .d (.lit (.int .i64 x13.n)), .d (.lit (.int .i64 x15.n)), .d (.seq 1 (bytesD x17.b)), .own 97 2 (List.map cS_api_At y25), .d (.seq 1 (bytesD x19.b)), .d (.seq 1 (bytesD x21.b)), .d (.lit (.string ⟨⟨x23.b⟩⟩))])]) (fun (y25 : (List S_api_At)) => m_R35_ReadEpoch_j1 x7 x9 x11 x13 x15 x17 x19 x21 x23 p0 y25 = some r) ?_ ?_
      · refine c_seq ?_
        refine c_region ?_
        refine o_s (.t (.d (.lit (.int .i64 0)))) (g0 rfl) rfl rfl rfl ?_
        refine o_nil ?_
        repeat (first | refine then_normal ?_ | refine then_exit ?_ | refine then_ret ?_ | refine block_normal ?_ | refine block_ret ?_ | refine block_exit ?_ | refine block_pass rfl ?_)
        refine c_block ?_
        refine c_fuel (fun (q : (List S_api_At) × Int) => [(0, .t (.d (.seq 1 (bytesD p0)))), (2, .box [.d (.lit (.string ⟨⟨[]⟩⟩)), .d (.lit (.int .i64 0)), .d (.lit (.int .i64 0)), .d (.lit (.int .i64 0)), .d (.lit (.int .i64 0)), .d (.lit (.slice none 0 0)), .d (.lit (.slice none 0 0)), .d (.lit (.slice none 0 0)), .d (.lit (.slice none 0 0)), .d (.lit (.string ⟨⟨[]⟩⟩))]), (6, .t (.d (.seq 4 (List.map V.cells x1.1.l)))), (7, .box [.d (.lit (.string ⟨⟨x7.b⟩⟩)), .d (.lit (.int .i64 x9.n)), .d (.lit (.int .i64 x11.n)), .d (.lit (.int .i64 x13.n)), .d (.lit (.int .i64 x15.n)), .d (.seq 1 (bytesD x17.b)), .own 97 2 (List.map cS_api_At q.1), .d (.seq 1 (bytesD x19.b)), .d (.seq 1 (bytesD x21.b)), .d (.lit (.string ⟨⟨x23.b⟩⟩))]), (8, .t (.d (.lit (.int .i64 q.2))))]) (fun nl2 => (fun (q : (List S_api_At) × Int) => m_R35_ReadEpoch_l2 x1 x7 x9 x11 x13 x15 x17 x19 x21 x23 p0 nl2 q.1 q.2 = some r)) (4098) ([], 0) h ⟨(.refl _), ⟨(.refl _), ⟨(.refl _), ⟨(.box (.cons (.refl _) (.cons (.refl _) (.cons (.refl _) (.cons (.refl _) (.cons (.refl _) (.cons (.refl _) (.cons (.nilOwn _ _) (.cons (.refl _) (.cons (.refl _) (.cons (.refl _) .nil)))))))))) rfl), ⟨(.refl _), trivial⟩⟩⟩⟩⟩ rfl ?_
        rintro nl2 ⟨z34, z35⟩ h
        cases nl2 with
        | zero => exact none_ne h
        | succ nl2 =>
          refine c_seq ?_
          refine c_seq ?_
          refine c_region ?_
          refine o_s (.t (.d (.lit (.int .i64 z35)))) (g0 rfl) rfl rfl rfl ?_
          refine o_s (.t (.d (.seq 4 (List.map V.cells x1.1.l)))) (g0 rfl) rfl rfl rfl ?_
          obtain ⟨x36, h37, h⟩ := bind_some h
          refine o_c (g0 rfl) rfl rfl rfl (idxE' V.cells_eq h37) (idxC h37) ?_
          refine o_s (.imm [.seq 4 (List.map V.cells x36.l)]) (g0 rfl) rfl rfl rfl ?_
          refine o_s (.t (.d (.seq 4 (List.map V.cells x36.l)))) (g0 rfl) rfl rfl rfl ?_
          refine o_c (g0 rfl) rfl rfl rfl (lenE _ _) trivial ?_
          refine o_s (.t (.d (.lit (.bool (decide (z35 < (x36.l.length : Int))))))) (g0 rfl) rfl rfl rfl ?_
          refine o_nil ?_
          repeat (first | refine then_normal ?_ | refine then_exit ?_ | refine then_ret ?_ | refine block_normal ?_ | refine block_ret ?_ | refine block_exit ?_ | refine block_pass rfl ?_)
          rcases bif_some h with ⟨h38, h⟩ | ⟨h38, h⟩
          · refine c_t h38 rfl ?_
            refine c_skip ?_
            repeat (first | refine then_normal ?_ | refine then_exit ?_ | refine then_ret ?_ | refine block_normal ?_ | refine block_ret ?_ | refine block_exit ?_ | refine block_pass rfl ?_)
            refine c_seq ?_
            refine c_block ?_
            refine c_seq ?_
            refine c_region ?_
            refine o_s (.t (.d (.seq 4 (List.map V.cells x1.1.l)))) (g0 rfl) rfl rfl rfl ?_
            obtain ⟨x39, h40, h⟩ := bind_some h
            refine o_c (g0 rfl) rfl rfl rfl (idxE' V.cells_eq h40) (idxC h40) ?_
            refine o_s (.imm [.seq 4 (List.map V.cells x39.l)]) (g0 rfl) rfl rfl rfl ?_
            refine o_s (.t (.d (.seq 4 (List.map V.cells x39.l)))) (g0 rfl) rfl rfl rfl ?_
            refine o_s (.t (.d (.lit (.int .i64 z35)))) (g0 rfl) rfl rfl rfl ?_
            obtain ⟨x41, h42, h⟩ := bind_some h
            refine o_c (g0 rfl) rfl rfl rfl (idxE' V.cells_eq h42) (idxC h42) ?_
            refine o_s (.t (.agg [.lit (.int .i64 x41.k), .lit (.int .i64 x41.n), .seq 1 (bytesD x41.b), .seq 4 (List.map V.cells x41.l)])) (g0 rfl) rfl rfl rfl ?_
            refine o_s (.box [.d (.lit (.int .i64 0)), .d (.lit (.int .i64 0)), .d (.lit (.slice none 0 0)), .d (.lit (.slice none 0 0))]) (g0 rfl) rfl rfl rfl ?_
            refine o_st (.box [.d (.lit (.int .i64 x41.k)), .d (.lit (.int .i64 x41.n)), .d (.seq 1 (bytesD x41.b)), .d (.seq 4 (List.map V.cells x41.l))]) (g0 rfl) rfl rfl rfl ?_
            refine o_nil ?_
            repeat (first | refine then_normal ?_ | refine then_exit ?_ | refine then_ret ?_ | refine block_normal ?_ | refine block_ret ?_ | refine block_exit ?_ | refine block_pass rfl ?_)
            refine c_seq ?_
            refine c_seq ?_
            refine c_region ?_
            refine o_s (.t (.agg [.lit (.int .i64 x41.k), .lit (.int .i64 x41.n), .seq 1 (bytesD x41.b), .seq 4 (List.map V.cells x41.l)])) (g0 rfl) rfl rfl rfl ?_
            refine o_s (.t (.own 3 1 (List.map cI64 [2, 1]))) (g0 rfl) rfl rfl rfl ?_
            obtain ⟨x43, h44, h⟩ := bind_some h
            refine o_ca (fc_R28_Kinds _ _ _ h44) (g0 rfl) rfl rfl rfl rfl rfl rfl rfl (.cons (.refl _) (.cons (.refl _) .nil)) rfl rfl ?_
            refine o_s (.t (.d (.lit (.bool (!x43))))) (g0 rfl) rfl rfl rfl ?_
            refine o_nil ?_
            repeat (first | refine then_normal ?_ | refine then_exit ?_ | refine then_ret ?_ | refine block_normal ?_ | refine block_ret ?_ | refine block_exit ?_ | refine block_pass rfl ?_)
            rcases bif_some h with ⟨h45, h⟩ | ⟨h45, h⟩
            · refine c_t h45 rfl ?_
              refine c_seq ?_
              refine c_region ?_
              refine o_s (.t (.agg [.lit (.string ⟨⟨[]⟩⟩), .lit (.int .i64 0), .lit (.int .i64 0), .lit (.int .i64 0), .lit (.int .i64 0), .lit (.slice none 0 0), .lit (.slice none 0 0), .lit (.slice none 0 0), .lit (.slice none 0 0), .lit (.string ⟨⟨[]⟩⟩)])) (g0 rfl) rfl rfl (by kernel_rfl) ?_
              refine o_st (.box [.d (.lit (.string ⟨⟨[]⟩⟩)), .d (.lit (.int .i64 0)), .d (.lit (.int .i64 0)), .d (.lit (.int .i64 0)), .d (.lit (.int .i64 0)), .d (.lit (.slice none 0 0)), .d (.lit (.slice none 0 0)), .d (.lit (.slice none 0 0)), .d (.lit (.slice none 0 0)), .d (.lit (.string ⟨⟨[]⟩⟩))]) (g0 rfl) rfl rfl rfl ?_
              refine o_s (.t (.d (.lit (.int .i64 11)))) (g0 rfl) rfl rfl rfl ?_
              refine o_nil ?_
              repeat (first | refine then_normal ?_ | refine then_exit ?_ | refine then_ret ?_ | refine block_normal ?_ | refine block_ret ?_ | refine block_exit ?_ | refine block_pass rfl ?_)
              refine c_ret ?_
              repeat (first | refine then_normal ?_ | refine then_exit ?_ | refine then_ret ?_ | refine block_normal ?_ | refine block_ret ?_ | refine block_exit ?_ | refine block_pass rfl ?_)
              obtain rfl := Option.some.inj h
              exact end0 rfl (.tup (.cons (.agg (.cons (.refl _) (.cons (.refl _) (.cons (.refl _) (.cons (.refl _) (.cons (.refl _) (.cons (.nil _) (.cons (.nil _) (.cons (.nil _) (.cons (.nil _) (.cons (.refl _) .nil))))))))))) (.cons (.refl _) .nil)))
            · refine c_f h45 rfl ?_
              refine c_skip ?_
              repeat (first | refine then_normal ?_ | refine then_exit ?_ | refine then_ret ?_ | refine block_normal ?_ | refine block_ret ?_ | refine block_exit ?_ | refine block_pass rfl ?_)
              refine c_draw mixed (by kernel_rfl) ?_
              refine d_s (.ref 7 6) rfl (dg0 rfl) rfl rfl rfl rfl ?_
              refine d_2 (.box [.d (.lit (.string ⟨⟨x7.b⟩⟩)), .d (.lit (.int .i64 x9.n)), .d (.lit (.int .i64 x11.n)), .d (.lit (.int .i64 x13.n)), .d (.lit (.int .i64 x15.n)), .d (.seq 1 (bytesD x17.b)), .d (.seq 2 (List.map cS_api_At z34)), .d (.seq 1 (bytesD x19.b)), .d (.seq 1 (bytesD x21.b)), .d (.lit (.string ⟨⟨x23.b⟩⟩))]) (.t (.own 97 2 (List.map cS_api_At z34))) rfl (dg0 rfl) rfl rfl rfl rfl rfl ?_
              refine d_s (.ref 9 3) rfl (dg0 rfl) rfl rfl rfl rfl ?_
              refine d_s (.t (.d (.seq 4 (List.map V.cells x41.l)))) rfl (dg0 rfl) rfl rfl rfl rfl ?_
              obtain ⟨x46, h47, h⟩ := bind_some h
              refine d_c rfl (dg0 rfl) rfl rfl rfl rfl (idxE' V.cells_eq h47) (idxC h47) ?_
              refine d_s (.imm [.seq 1 (bytesD x46.b), .seq 4 (List.map V.cells x46.l)]) rfl (dg0 rfl) rfl rfl rfl rfl ?_
              refine d_s (.t (.d (.seq 1 (bytesD x46.b)))) rfl (dg0 rfl) rfl rfl rfl rfl ?_
              refine d_c rfl (dg0 rfl) rfl rfl rfl rfl (strE _) (isB_bytes _) ?_
              refine d_s (.ref 9 3) rfl (dg0 rfl) rfl rfl rfl rfl ?_
              refine d_s (.t (.d (.seq 4 (List.map V.cells x41.l)))) rfl (dg0 rfl) rfl rfl rfl rfl ?_
              obtain ⟨x48, h49, h⟩ := bind_some h
              refine d_c rfl (dg0 rfl) rfl rfl rfl rfl (idxE' V.cells_eq h49) (idxC h49) ?_
              refine d_s (.imm [.lit (.int .i64 x48.n), .seq 1 (bytesD x48.b), .seq 4 (List.map V.cells x48.l)]) rfl (dg0 rfl) rfl rfl rfl rfl ?_
              refine d_s (.t (.d (.lit (.int .i64 x48.n)))) rfl (dg0 rfl) rfl rfl rfl rfl ?_
              refine d_s (.t (.agg [.lit (.string ⟨⟨x46.b⟩⟩), .lit (.int .i64 x48.n)])) rfl (dg0 rfl) rfl rfl rfl rfl ?_
              refine d_s (.t (.own 97 2 (List.map cS_api_At [(S_api_At.mk x46.b x48.n)]))) rfl (dg0 rfl) rfl rfl rfl rfl ?_
              obtain ⟨x50, h51, h⟩ := bind_some h
              refine d_2c rfl (dg0 rfl) rfl rfl rfl rfl rfl (appE (c := cS_api_At) h51) (appC (c := cS_api_At) h51) ?_
              refine d_s (.ref 7 6) rfl (dg0 rfl) rfl rfl rfl rfl ?_
              refine d_st2 (.t (.d (.seq 2 (List.map cS_api_At x50)))) (.box [.d (.lit (.string ⟨⟨x7.b⟩⟩)), .d (.lit (.int .i64 x9.n)), .d (.lit (.int .i64 x11.n)), .d (.lit (.int .i64 x13.n)), .d (.lit (.int .i64 x15.n)), .d (.seq 1 (bytesD x17.b)), .own 97 2 (List.map cS_api_At x50), .d (.seq 1 (bytesD x19.b)), .d (.seq 1 (bytesD x21.b)), .d (.lit (.string ⟨⟨x23.b⟩⟩))]) rfl (dg0 rfl) rfl rfl rfl rfl rfl ?_
              refine d_nil (by kernel_rfl) ?_
              repeat (first | refine then_normal ?_ | refine then_exit ?_ | refine then_ret ?_ | refine block_normal ?_ | refine block_ret ?_ | refine block_exit ?_ | refine block_pass rfl ?_)
              refine c_region ?_
              refine o_s (.t (.d (.lit (.int .i64 z35)))) (g0 rfl) rfl rfl rfl ?_
              refine o_s (.t (.d (.lit (.int .i64 (wi (z35 + 1)))))) (g0 rfl) rfl rfl rfl ?_
              refine o_s (.t (.d (.lit (.int .i64 (wi (z35 + 1)))))) (g0 rfl) rfl rfl rfl ?_
              refine o_nil ?_
              repeat (first | refine then_normal ?_ | refine then_exit ?_ | refine then_ret ?_ | refine block_normal ?_ | refine block_ret ?_ | refine block_exit ?_ | refine block_pass rfl ?_)
              exact ⟨nl2, (x50, (wi (z35 + 1))), Nat.lt_succ_self nl2, h, ⟨(.refl _), ⟨(.refl _), ⟨(.refl _), ⟨(.refl _), ⟨(.refl _), trivial⟩⟩⟩⟩⟩, rfl⟩
          · refine c_f h38 rfl ?_
            refine c_exit ?_
            repeat (first | refine then_normal ?_ | refine then_exit ?_ | refine then_ret ?_ | refine block_normal ?_ | refine block_ret ?_ | refine block_exit ?_ | refine block_pass rfl ?_)
            exact ⟨z34, h, ⟨(.refl _), ⟨(.refl _), ⟨(.refl _), trivial⟩⟩⟩, rfl⟩
      · rintro y25 h
        refine c_seq ?_
        refine c_seq ?_
        refine c_region ?_
        refine o_s (.t (.agg [.lit (.string ⟨⟨x7.b⟩⟩), .lit (.int .i64 x9.n), .lit (.int .i64 x11.n), .lit (.int .i64 x13.n), .lit (.int .i64 x15.n), .seq 1 (bytesD x17.b), .seq 2 (List.map cS_api_At y25), .seq 1 (bytesD x19.b), .seq 1 (bytesD x21.b), .lit (.string ⟨⟨x23.b⟩⟩)])) (g0 rfl) rfl rfl rfl ?_
        obtain ⟨x26, h27, h⟩ := bind_some h
        refine o_ca (fc_R35_MayEpoch _ _ h27) (g0 rfl) rfl rfl rfl rfl rfl rfl rfl (.cons (.refl _) .nil) rfl rfl ?_
        refine o_s (.t (.d (.lit (.bool (!x26))))) (g0 rfl) rfl rfl rfl ?_
        refine o_s (.t (.d (.lit (.bool (!x26))))) (g0 rfl) rfl rfl rfl ?_
        rcases bif_some h with ⟨h28, h⟩ | ⟨h28, h⟩
        · refine o_skip rfl rfl rfl h28 rfl rfl ?_
          refine o_skip rfl rfl rfl h28 rfl rfl ?_
          refine o_skip rfl rfl rfl h28 rfl rfl ?_
          refine o_skip rfl rfl rfl h28 rfl rfl ?_
          refine o_skip rfl rfl rfl h28 rfl rfl ?_
          refine o_pk (.t (.d (.lit (.bool true)))) (b := true) h28 (g0 rfl) rfl rfl rfl rfl rfl ?_
          refine o_nil ?_
          repeat (first | refine then_normal ?_ | refine then_exit ?_ | refine then_ret ?_ | refine block_normal ?_ | refine block_ret ?_ | refine block_exit ?_ | refine block_pass rfl ?_)
          refine c_t rfl rfl ?_
          refine c_seq ?_
          refine c_region ?_
          refine o_s (.t (.agg [.lit (.string ⟨⟨[]⟩⟩), .lit (.int .i64 0), .lit (.int .i64 0), .lit (.int .i64 0), .lit (.int .i64 0), .lit (.slice none 0 0), .lit (.slice none 0 0), .lit (.slice none 0 0), .lit (.slice none 0 0), .lit (.string ⟨⟨[]⟩⟩)])) (g0 rfl) rfl rfl (by kernel_rfl) ?_
          refine o_st (.box [.d (.lit (.string ⟨⟨[]⟩⟩)), .d (.lit (.int .i64 0)), .d (.lit (.int .i64 0)), .d (.lit (.int .i64 0)), .d (.lit (.int .i64 0)), .d (.lit (.slice none 0 0)), .d (.lit (.slice none 0 0)), .d (.lit (.slice none 0 0)), .d (.lit (.slice none 0 0)), .d (.lit (.string ⟨⟨[]⟩⟩))]) (g0 rfl) rfl rfl rfl ?_
          refine o_s (.t (.d (.lit (.int .i64 11)))) (g0 rfl) rfl rfl rfl ?_
          refine o_nil ?_
          repeat (first | refine then_normal ?_ | refine then_exit ?_ | refine then_ret ?_ | refine block_normal ?_ | refine block_ret ?_ | refine block_exit ?_ | refine block_pass rfl ?_)
          refine c_ret ?_
          repeat (first | refine then_normal ?_ | refine then_exit ?_ | refine then_ret ?_ | refine block_normal ?_ | refine block_ret ?_ | refine block_exit ?_ | refine block_pass rfl ?_)
          obtain rfl := Option.some.inj h
          exact end0 rfl (.tup (.cons (.agg (.cons (.refl _) (.cons (.refl _) (.cons (.refl _) (.cons (.refl _) (.cons (.refl _) (.cons (.nil _) (.cons (.nil _) (.cons (.nil _) (.cons (.nil _) (.cons (.refl _) .nil))))))))))) (.cons (.refl _) .nil)))
        · refine o_s (.t (.agg [.lit (.string ⟨⟨x7.b⟩⟩), .lit (.int .i64 x9.n), .lit (.int .i64 x11.n), .lit (.int .i64 x13.n), .lit (.int .i64 x15.n), .seq 1 (bytesD x17.b), .seq 2 (List.map cS_api_At y25), .seq 1 (bytesD x19.b), .seq 1 (bytesD x21.b), .lit (.string ⟨⟨x23.b⟩⟩)])) (gy rfl rfl rfl h28) rfl rfl rfl ?_
          obtain ⟨x29, h30, h⟩ := bind_some h
          refine o_ca (fc_R35_EpochText _ _ h30) (gy rfl rfl rfl h28) rfl rfl rfl rfl rfl rfl rfl (.cons (.refl _) .nil) rfl rfl ?_
          refine o_s (.t (.d (.seq 1 (bytesD p0)))) (gy rfl rfl rfl h28) rfl rfl rfl ?_
          obtain ⟨x31, h32, h⟩ := bind_some h
          refine o_ca (fc_R01_Same _ _ _ h32) (gy rfl rfl rfl h28) rfl rfl rfl rfl rfl rfl rfl (.cons (.refl _) (.cons (.refl _) .nil)) rfl rfl ?_
          refine o_s (.t (.d (.lit (.bool (!x31))))) (gy rfl rfl rfl h28) rfl rfl rfl ?_
          refine o_pk (.t (.d (.lit (.bool (!x31))))) (b := false) h28 (g0 rfl) rfl rfl rfl rfl rfl ?_
          refine o_nil ?_
          repeat (first | refine then_normal ?_ | refine then_exit ?_ | refine then_ret ?_ | refine block_normal ?_ | refine block_ret ?_ | refine block_exit ?_ | refine block_pass rfl ?_)
          rcases bif_some h with ⟨h33, h⟩ | ⟨h33, h⟩
          · refine c_t h33 rfl ?_
            refine c_seq ?_
            refine c_region ?_
            refine o_s (.t (.agg [.lit (.string ⟨⟨[]⟩⟩), .lit (.int .i64 0), .lit (.int .i64 0), .lit (.int .i64 0), .lit (.int .i64 0), .lit (.slice none 0 0), .lit (.slice none 0 0), .lit (.slice none 0 0), .lit (.slice none 0 0), .lit (.string ⟨⟨[]⟩⟩)])) (g0 rfl) rfl rfl (by kernel_rfl) ?_
            refine o_st (.box [.d (.lit (.string ⟨⟨[]⟩⟩)), .d (.lit (.int .i64 0)), .d (.lit (.int .i64 0)), .d (.lit (.int .i64 0)), .d (.lit (.int .i64 0)), .d (.lit (.slice none 0 0)), .d (.lit (.slice none 0 0)), .d (.lit (.slice none 0 0)), .d (.lit (.slice none 0 0)), .d (.lit (.string ⟨⟨[]⟩⟩))]) (g0 rfl) rfl rfl rfl ?_
            refine o_s (.t (.d (.lit (.int .i64 11)))) (g0 rfl) rfl rfl rfl ?_
            refine o_nil ?_
            repeat (first | refine then_normal ?_ | refine then_exit ?_ | refine then_ret ?_ | refine block_normal ?_ | refine block_ret ?_ | refine block_exit ?_ | refine block_pass rfl ?_)
            refine c_ret ?_
            repeat (first | refine then_normal ?_ | refine then_exit ?_ | refine then_ret ?_ | refine block_normal ?_ | refine block_ret ?_ | refine block_exit ?_ | refine block_pass rfl ?_)
            obtain rfl := Option.some.inj h
            exact end0 rfl (.tup (.cons (.agg (.cons (.refl _) (.cons (.refl _) (.cons (.refl _) (.cons (.refl _) (.cons (.refl _) (.cons (.nil _) (.cons (.nil _) (.cons (.nil _) (.cons (.nil _) (.cons (.refl _) .nil))))))))))) (.cons (.refl _) .nil)))
          · refine c_f h33 rfl ?_
            refine c_skip ?_
            repeat (first | refine then_normal ?_ | refine then_exit ?_ | refine then_ret ?_ | refine block_normal ?_ | refine block_ret ?_ | refine block_exit ?_ | refine block_pass rfl ?_)
            refine c_seq ?_
            refine c_region ?_
            refine o_s (.t (.agg [.lit (.string ⟨⟨x7.b⟩⟩), .lit (.int .i64 x9.n), .lit (.int .i64 x11.n), .lit (.int .i64 x13.n), .lit (.int .i64 x15.n), .seq 1 (bytesD x17.b), .seq 2 (List.map cS_api_At y25), .seq 1 (bytesD x19.b), .seq 1 (bytesD x21.b), .lit (.string ⟨⟨x23.b⟩⟩)])) (g0 rfl) rfl rfl rfl ?_
            refine o_st (.box [.d (.lit (.string ⟨⟨x7.b⟩⟩)), .d (.lit (.int .i64 x9.n)), .d (.lit (.int .i64 x11.n)), .d (.lit (.int .i64 x13.n)), .d (.lit (.int .i64 x15.n)), .d (.seq 1 (bytesD x17.b)), .d (.seq 2 (List.map cS_api_At y25)), .d (.seq 1 (bytesD x19.b)), .d (.seq 1 (bytesD x21.b)), .d (.lit (.string ⟨⟨x23.b⟩⟩))]) (g0 rfl) rfl rfl rfl ?_
            refine o_s (.t (.d (.lit (.int .i64 0)))) (g0 rfl) rfl rfl rfl ?_
            refine o_nil ?_
            repeat (first | refine then_normal ?_ | refine then_exit ?_ | refine then_ret ?_ | refine block_normal ?_ | refine block_ret ?_ | refine block_exit ?_ | refine block_pass rfl ?_)
            refine c_ret ?_
            repeat (first | refine then_normal ?_ | refine then_exit ?_ | refine then_ret ?_ | refine block_normal ?_ | refine block_ret ?_ | refine block_exit ?_ | refine block_pass rfl ?_)
            obtain rfl := Option.some.inj h
            exact end0 rfl (.tup (.cons (.refl _) (.cons (.refl _) .nil)))

theorem fc_L35_RecordEpoch (p0 : S_api_EpochRecord) (p1 : (List UInt8)) (r : Bool) (h : m_L35_RecordEpoch p0 p1 = some r) : FC Tryd.prog 6 [.t (.agg [.lit (.string ⟨⟨p0.Folder⟩⟩), .lit (.int .i64 p0.Number), .lit (.int .i64 p0.Place), .lit (.int .i64 p0.From), .lit (.int .i64 p0.Seq), .seq 1 (bytesD p0.Digest), .seq 2 (List.map cS_api_At p0.Chain), .seq 1 (bytesD p0.Public), .seq 1 (bytesD p0.Link), .lit (.string ⟨⟨p0.By⟩⟩)]), .t (.d (.seq 1 (bytesD p1)))] [] (.t (.d (.lit (.bool r)))) := by
  refine fc_mk (rs := [.tmp 4]) (n := 127) Tryd.func6 rfl rfl (Nat.le_of_ble_eq_true rfl) rfl (pins := []) rfl (L := [(0, .t (.agg [.lit (.string ⟨⟨p0.Folder⟩⟩), .lit (.int .i64 p0.Number), .lit (.int .i64 p0.Place), .lit (.int .i64 p0.From), .lit (.int .i64 p0.Seq), .seq 1 (bytesD p0.Digest), .seq 2 (List.map cS_api_At p0.Chain), .seq 1 (bytesD p0.Public), .seq 1 (bytesD p0.Link), .lit (.string ⟨⟨p0.By⟩⟩)])), (1, .t (.d (.seq 1 (bytesD p1))))]) rfl ?_
  refine c_seq ?_
  refine c_region ?_
  refine o_s (.box [.d (.lit (.string ⟨⟨p0.Folder⟩⟩)), .d (.lit (.int .i64 p0.Number)), .d (.lit (.int .i64 p0.Place)), .d (.lit (.int .i64 p0.From)), .d (.lit (.int .i64 p0.Seq)), .d (.seq 1 (bytesD p0.Digest)), .d (.seq 2 (List.map cS_api_At p0.Chain)), .d (.seq 1 (bytesD p0.Public)), .d (.seq 1 (bytesD p0.Link)), .d (.lit (.string ⟨⟨p0.By⟩⟩))]) (g0 rfl) rfl rfl rfl ?_
  refine o_s (.t (.d (.lit (.bool false)))) (g0 rfl) rfl rfl rfl ?_
  refine o_nil ?_
  repeat (first | refine then_normal ?_ | refine then_exit ?_ | refine then_ret ?_ | refine block_normal ?_ | refine block_ret ?_ | refine block_exit ?_ | refine block_pass rfl ?_)
  refine c_seq ?_
  refine c_seq ?_
  refine c_region ?_
  obtain ⟨x1, h2, h⟩ := bind_some h
  refine o_ca (fc_L35_awake _ h2) (g0 rfl) rfl rfl rfl rfl rfl rfl rfl .nil rfl rfl ?_
  refine o_s (.t (.d (.lit (.bool (!x1))))) (g0 rfl) rfl rfl rfl ?_
  refine o_nil ?_
  repeat (first | refine then_normal ?_ | refine then_exit ?_ | refine then_ret ?_ | refine block_normal ?_ | refine block_ret ?_ | refine block_exit ?_ | refine block_pass rfl ?_)
  rcases bif_some h with ⟨h3, h⟩ | ⟨h3, h⟩
  · refine c_t h3 rfl ?_
    refine c_seq ?_
    refine c_region ?_
    refine o_s (.t (.d (.lit (.bool false)))) (g0 rfl) rfl rfl rfl ?_
    refine o_nil ?_
    repeat (first | refine then_normal ?_ | refine then_exit ?_ | refine then_ret ?_ | refine block_normal ?_ | refine block_ret ?_ | refine block_exit ?_ | refine block_pass rfl ?_)
    refine c_ret ?_
    repeat (first | refine then_normal ?_ | refine then_exit ?_ | refine then_ret ?_ | refine block_normal ?_ | refine block_ret ?_ | refine block_exit ?_ | refine block_pass rfl ?_)
    obtain rfl := Option.some.inj h
    exact end0 rfl (.refl _)
  · refine c_f h3 rfl ?_
    refine c_skip ?_
    repeat (first | refine then_normal ?_ | refine then_exit ?_ | refine then_ret ?_ | refine block_normal ?_ | refine block_ret ?_ | refine block_exit ?_ | refine block_pass rfl ?_)
    refine c_seq ?_
    refine c_seq ?_
    refine c_region ?_
    refine o_s (.ref 2 0) (g0 rfl) rfl rfl rfl ?_
    refine o_s (.t (.d (.lit (.string ⟨⟨p0.Folder⟩⟩)))) (g0 rfl) rfl rfl rfl ?_
    refine o_s (.t (.d (.lit (.int .i64 (p0.Folder.length : Int))))) (g0 rfl) rfl rfl rfl ?_
    refine o_s (.t (.d (.lit (.bool (decide ((p0.Folder.length : Int) > 20)))))) (g0 rfl) rfl rfl rfl ?_
    refine o_s (.t (.d (.lit (.bool (decide ((p0.Folder.length : Int) > 20)))))) (g0 rfl) rfl rfl rfl ?_
    rcases bif_some h with ⟨h4, h⟩ | ⟨h4, h⟩
    · refine o_skip rfl rfl rfl h4 rfl rfl ?_
      refine o_skip rfl rfl rfl h4 rfl rfl ?_
      refine o_skip rfl rfl rfl h4 rfl rfl ?_
      refine o_skip rfl rfl rfl h4 rfl rfl ?_
      refine o_pk (.t (.d (.lit (.bool true)))) (b := true) h4 (g0 rfl) rfl rfl rfl rfl rfl ?_
      refine o_s (.t (.d (.lit (.bool true)))) (g0 rfl) rfl rfl rfl ?_
      refine o_skip rfl rfl rfl rfl rfl rfl ?_
      refine o_skip rfl rfl rfl rfl rfl rfl ?_
      refine o_skip rfl rfl rfl rfl rfl rfl ?_
      refine o_skip rfl rfl rfl rfl rfl rfl ?_
      refine o_pk (.t (.d (.lit (.bool true)))) (b := true) rfl (g0 rfl) rfl rfl rfl rfl rfl ?_
      refine o_s (.t (.d (.lit (.bool true)))) (g0 rfl) rfl rfl rfl ?_
      refine o_skip rfl rfl rfl rfl rfl rfl ?_
      refine o_skip rfl rfl rfl rfl rfl rfl ?_
      refine o_skip rfl rfl rfl rfl rfl rfl ?_
      refine o_skip rfl rfl rfl rfl rfl rfl ?_
      refine o_pk (.t (.d (.lit (.bool true)))) (b := true) rfl (g0 rfl) rfl rfl rfl rfl rfl ?_
      refine o_s (.t (.d (.lit (.bool true)))) (g0 rfl) rfl rfl rfl ?_
      refine o_skip rfl rfl rfl rfl rfl rfl ?_
      refine o_skip rfl rfl rfl rfl rfl rfl ?_
      refine o_skip rfl rfl rfl rfl rfl rfl ?_
      refine o_skip rfl rfl rfl rfl rfl rfl ?_
      refine o_pk (.t (.d (.lit (.bool true)))) (b := true) rfl (g0 rfl) rfl rfl rfl rfl rfl ?_
      refine o_s (.t (.d (.lit (.bool true)))) (g0 rfl) rfl rfl rfl ?_
      refine o_skip rfl rfl rfl rfl rfl rfl ?_
      refine o_skip rfl rfl rfl rfl rfl rfl ?_
      refine o_skip rfl rfl rfl rfl rfl rfl ?_
      refine o_skip rfl rfl rfl rfl rfl rfl ?_
      refine o_pk (.t (.d (.lit (.bool true)))) (b := true) rfl (g0 rfl) rfl rfl rfl rfl rfl ?_
      refine o_s (.t (.d (.lit (.bool true)))) (g0 rfl) rfl rfl rfl ?_
      refine o_skip rfl rfl rfl rfl rfl rfl ?_
      refine o_skip rfl rfl rfl rfl rfl rfl ?_
      refine o_skip rfl rfl rfl rfl rfl rfl ?_
      refine o_pk (.t (.d (.lit (.bool true)))) (b := true) rfl (g0 rfl) rfl rfl rfl rfl rfl ?_
      refine o_nil ?_
      repeat (first | refine then_normal ?_ | refine then_exit ?_ | refine then_ret ?_ | refine block_normal ?_ | refine block_ret ?_ | refine block_exit ?_ | refine block_pass rfl ?_)
      refine c_t rfl rfl ?_
      refine c_seq ?_
      refine c_region ?_
      refine o_s (.t (.d (.lit (.bool true)))) (g0 rfl) rfl rfl rfl ?_
      refine o_nil ?_
      repeat (first | refine then_normal ?_ | refine then_exit ?_ | refine then_ret ?_ | refine block_normal ?_ | refine block_ret ?_ | refine block_exit ?_ | refine block_pass rfl ?_)
      refine c_ret ?_
      repeat (first | refine then_normal ?_ | refine then_exit ?_ | refine then_ret ?_ | refine block_normal ?_ | refine block_ret ?_ | refine block_exit ?_ | refine block_pass rfl ?_)
      obtain rfl := Option.some.inj h
      exact end0 rfl (.refl _)
    · refine o_s (.ref 2 9) (gy rfl rfl rfl h4) rfl rfl rfl ?_
      refine o_s (.t (.d (.lit (.string ⟨⟨p0.By⟩⟩)))) (gy rfl rfl rfl h4) rfl rfl rfl ?_
      refine o_s (.t (.d (.lit (.int .i64 (p0.By.length : Int))))) (gy rfl rfl rfl h4) rfl rfl rfl ?_
      refine o_s (.t (.d (.lit (.bool (decide ((p0.By.length : Int) > 20)))))) (gy rfl rfl rfl h4) rfl rfl rfl ?_
      refine o_pk (.t (.d (.lit (.bool (decide ((p0.By.length : Int) > 20)))))) (b := false) h4 (g0 rfl) rfl rfl rfl rfl rfl ?_
      refine o_s (.t (.d (.lit (.bool (decide ((p0.By.length : Int) > 20)))))) (g0 rfl) rfl rfl rfl ?_
      rcases bif_some h with ⟨h5, h⟩ | ⟨h5, h⟩
      · refine o_skip rfl rfl rfl h5 rfl rfl ?_
        refine o_skip rfl rfl rfl h5 rfl rfl ?_
        refine o_skip rfl rfl rfl h5 rfl rfl ?_
        refine o_skip rfl rfl rfl h5 rfl rfl ?_
        refine o_pk (.t (.d (.lit (.bool true)))) (b := true) h5 (g0 rfl) rfl rfl rfl rfl rfl ?_
        refine o_s (.t (.d (.lit (.bool true)))) (g0 rfl) rfl rfl rfl ?_
        refine o_skip rfl rfl rfl rfl rfl rfl ?_
        refine o_skip rfl rfl rfl rfl rfl rfl ?_
        refine o_skip rfl rfl rfl rfl rfl rfl ?_
        refine o_skip rfl rfl rfl rfl rfl rfl ?_
        refine o_pk (.t (.d (.lit (.bool true)))) (b := true) rfl (g0 rfl) rfl rfl rfl rfl rfl ?_
        refine o_s (.t (.d (.lit (.bool true)))) (g0 rfl) rfl rfl rfl ?_
        refine o_skip rfl rfl rfl rfl rfl rfl ?_
        refine o_skip rfl rfl rfl rfl rfl rfl ?_
        refine o_skip rfl rfl rfl rfl rfl rfl ?_
        refine o_skip rfl rfl rfl rfl rfl rfl ?_
        refine o_pk (.t (.d (.lit (.bool true)))) (b := true) rfl (g0 rfl) rfl rfl rfl rfl rfl ?_
        refine o_s (.t (.d (.lit (.bool true)))) (g0 rfl) rfl rfl rfl ?_
        refine o_skip rfl rfl rfl rfl rfl rfl ?_
        refine o_skip rfl rfl rfl rfl rfl rfl ?_
        refine o_skip rfl rfl rfl rfl rfl rfl ?_
        refine o_skip rfl rfl rfl rfl rfl rfl ?_
        refine o_pk (.t (.d (.lit (.bool true)))) (b := true) rfl (g0 rfl) rfl rfl rfl rfl rfl ?_
        refine o_s (.t (.d (.lit (.bool true)))) (g0 rfl) rfl rfl rfl ?_
        refine o_skip rfl rfl rfl rfl rfl rfl ?_
        refine o_skip rfl rfl rfl rfl rfl rfl ?_
        refine o_skip rfl rfl rfl rfl rfl rfl ?_
        refine o_pk (.t (.d (.lit (.bool true)))) (b := true) rfl (g0 rfl) rfl rfl rfl rfl rfl ?_
        refine o_nil ?_
        repeat (first | refine then_normal ?_ | refine then_exit ?_ | refine then_ret ?_ | refine block_normal ?_ | refine block_ret ?_ | refine block_exit ?_ | refine block_pass rfl ?_)
        refine c_t rfl rfl ?_
        refine c_seq ?_
        refine c_region ?_
        refine o_s (.t (.d (.lit (.bool true)))) (g0 rfl) rfl rfl rfl ?_
        refine o_nil ?_
        repeat (first | refine then_normal ?_ | refine then_exit ?_ | refine then_ret ?_ | refine block_normal ?_ | refine block_ret ?_ | refine block_exit ?_ | refine block_pass rfl ?_)
        refine c_ret ?_
        repeat (first | refine then_normal ?_ | refine then_exit ?_ | refine then_ret ?_ | refine block_normal ?_ | refine block_ret ?_ | refine block_exit ?_ | refine block_pass rfl ?_)
        obtain rfl := Option.some.inj h
        exact end0 rfl (.refl _)
      · refine o_s (.ref 2 6) (gy rfl rfl rfl h5) rfl rfl rfl ?_
        refine o_s (.t (.d (.seq 2 (List.map cS_api_At p0.Chain)))) (gy rfl rfl rfl h5) rfl rfl rfl ?_
        refine o_c (gy rfl rfl rfl h5) rfl rfl rfl (lenE _ _) trivial ?_
        refine o_s (.t (.d (.lit (.bool (decide ((p0.Chain.length : Int) > 10)))))) (gy rfl rfl rfl h5) rfl rfl rfl ?_
        refine o_pk (.t (.d (.lit (.bool (decide ((p0.Chain.length : Int) > 10)))))) (b := false) h5 (g0 rfl) rfl rfl rfl rfl rfl ?_
        refine o_s (.t (.d (.lit (.bool (decide ((p0.Chain.length : Int) > 10)))))) (g0 rfl) rfl rfl rfl ?_
        rcases bif_some h with ⟨h6, h⟩ | ⟨h6, h⟩
        · refine o_skip rfl rfl rfl h6 rfl rfl ?_
          refine o_skip rfl rfl rfl h6 rfl rfl ?_
          refine o_skip rfl rfl rfl h6 rfl rfl ?_
          refine o_skip rfl rfl rfl h6 rfl rfl ?_
          refine o_pk (.t (.d (.lit (.bool true)))) (b := true) h6 (g0 rfl) rfl rfl rfl rfl rfl ?_
          refine o_s (.t (.d (.lit (.bool true)))) (g0 rfl) rfl rfl rfl ?_
          refine o_skip rfl rfl rfl rfl rfl rfl ?_
          refine o_skip rfl rfl rfl rfl rfl rfl ?_
          refine o_skip rfl rfl rfl rfl rfl rfl ?_
          refine o_skip rfl rfl rfl rfl rfl rfl ?_
          refine o_pk (.t (.d (.lit (.bool true)))) (b := true) rfl (g0 rfl) rfl rfl rfl rfl rfl ?_
          refine o_s (.t (.d (.lit (.bool true)))) (g0 rfl) rfl rfl rfl ?_
          refine o_skip rfl rfl rfl rfl rfl rfl ?_
          refine o_skip rfl rfl rfl rfl rfl rfl ?_
          refine o_skip rfl rfl rfl rfl rfl rfl ?_
          refine o_skip rfl rfl rfl rfl rfl rfl ?_
          refine o_pk (.t (.d (.lit (.bool true)))) (b := true) rfl (g0 rfl) rfl rfl rfl rfl rfl ?_
          refine o_s (.t (.d (.lit (.bool true)))) (g0 rfl) rfl rfl rfl ?_
          refine o_skip rfl rfl rfl rfl rfl rfl ?_
          refine o_skip rfl rfl rfl rfl rfl rfl ?_
          refine o_skip rfl rfl rfl rfl rfl rfl ?_
          refine o_pk (.t (.d (.lit (.bool true)))) (b := true) rfl (g0 rfl) rfl rfl rfl rfl rfl ?_
          refine o_nil ?_
          repeat (first | refine then_normal ?_ | refine then_exit ?_ | refine then_ret ?_ | refine block_normal ?_ | refine block_ret ?_ | refine block_exit ?_ | refine block_pass rfl ?_)
          refine c_t rfl rfl ?_
          refine c_seq ?_
          refine c_region ?_
          refine o_s (.t (.d (.lit (.bool true)))) (g0 rfl) rfl rfl rfl ?_
          refine o_nil ?_
          repeat (first | refine then_normal ?_ | refine then_exit ?_ | refine then_ret ?_ | refine block_normal ?_ | refine block_ret ?_ | refine block_exit ?_ | refine block_pass rfl ?_)
          refine c_ret ?_
          repeat (first | refine then_normal ?_ | refine then_exit ?_ | refine then_ret ?_ | refine block_normal ?_ | refine block_ret ?_ | refine block_exit ?_ | refine block_pass rfl ?_)
          obtain rfl := Option.some.inj h
          exact end0 rfl (.refl _)
        · refine o_s (.ref 2 5) (gy rfl rfl rfl h6) rfl rfl rfl ?_
          refine o_s (.t (.d (.seq 1 (bytesD p0.Digest)))) (gy rfl rfl rfl h6) rfl rfl rfl ?_
          refine o_c (gy rfl rfl rfl h6) rfl rfl rfl (lenE _ _) trivial ?_
          refine o_s (.t (.d (.lit (.bool (decide ((p0.Digest.length : Int) > 100)))))) (gy rfl rfl rfl h6) rfl rfl rfl ?_
          refine o_pk (.t (.d (.lit (.bool (decide ((p0.Digest.length : Int) > 100)))))) (b := false) h6 (g0 rfl) rfl rfl rfl rfl rfl ?_
          refine o_s (.t (.d (.lit (.bool (decide ((p0.Digest.length : Int) > 100)))))) (g0 rfl) rfl rfl rfl ?_
          rcases bif_some h with ⟨h7, h⟩ | ⟨h7, h⟩
          · refine o_skip rfl rfl rfl h7 rfl rfl ?_
            refine o_skip rfl rfl rfl h7 rfl rfl ?_
            refine o_skip rfl rfl rfl h7 rfl rfl ?_
            refine o_skip rfl rfl rfl h7 rfl rfl ?_
            refine o_pk (.t (.d (.lit (.bool true)))) (b := true) h7 (g0 rfl) rfl rfl rfl rfl rfl ?_
            refine o_s (.t (.d (.lit (.bool true)))) (g0 rfl) rfl rfl rfl ?_
            refine o_skip rfl rfl rfl rfl rfl rfl ?_
            refine o_skip rfl rfl rfl rfl rfl rfl ?_
            refine o_skip rfl rfl rfl rfl rfl rfl ?_
            refine o_skip rfl rfl rfl rfl rfl rfl ?_
            refine o_pk (.t (.d (.lit (.bool true)))) (b := true) rfl (g0 rfl) rfl rfl rfl rfl rfl ?_
            refine o_s (.t (.d (.lit (.bool true)))) (g0 rfl) rfl rfl rfl ?_
            refine o_skip rfl rfl rfl rfl rfl rfl ?_
            refine o_skip rfl rfl rfl rfl rfl rfl ?_
            refine o_skip rfl rfl rfl rfl rfl rfl ?_
            refine o_pk (.t (.d (.lit (.bool true)))) (b := true) rfl (g0 rfl) rfl rfl rfl rfl rfl ?_
            refine o_nil ?_
            repeat (first | refine then_normal ?_ | refine then_exit ?_ | refine then_ret ?_ | refine block_normal ?_ | refine block_ret ?_ | refine block_exit ?_ | refine block_pass rfl ?_)
            refine c_t rfl rfl ?_
            refine c_seq ?_
            refine c_region ?_
            refine o_s (.t (.d (.lit (.bool true)))) (g0 rfl) rfl rfl rfl ?_
            refine o_nil ?_
            repeat (first | refine then_normal ?_ | refine then_exit ?_ | refine then_ret ?_ | refine block_normal ?_ | refine block_ret ?_ | refine block_exit ?_ | refine block_pass rfl ?_)
            refine c_ret ?_
            repeat (first | refine then_normal ?_ | refine then_exit ?_ | refine then_ret ?_ | refine block_normal ?_ | refine block_ret ?_ | refine block_exit ?_ | refine block_pass rfl ?_)
            obtain rfl := Option.some.inj h
            exact end0 rfl (.refl _)
          · refine o_s (.ref 2 7) (gy rfl rfl rfl h7) rfl rfl rfl ?_
            refine o_s (.t (.d (.seq 1 (bytesD p0.Public)))) (gy rfl rfl rfl h7) rfl rfl rfl ?_
            refine o_c (gy rfl rfl rfl h7) rfl rfl rfl (lenE _ _) trivial ?_
            refine o_s (.t (.d (.lit (.bool (decide ((p0.Public.length : Int) > 100)))))) (gy rfl rfl rfl h7) rfl rfl rfl ?_
            refine o_pk (.t (.d (.lit (.bool (decide ((p0.Public.length : Int) > 100)))))) (b := false) h7 (g0 rfl) rfl rfl rfl rfl rfl ?_
            refine o_s (.t (.d (.lit (.bool (decide ((p0.Public.length : Int) > 100)))))) (g0 rfl) rfl rfl rfl ?_
            rcases bif_some h with ⟨h8, h⟩ | ⟨h8, h⟩
            · refine o_skip rfl rfl rfl h8 rfl rfl ?_
              refine o_skip rfl rfl rfl h8 rfl rfl ?_
              refine o_skip rfl rfl rfl h8 rfl rfl ?_
              refine o_skip rfl rfl rfl h8 rfl rfl ?_
              refine o_pk (.t (.d (.lit (.bool true)))) (b := true) h8 (g0 rfl) rfl rfl rfl rfl rfl ?_
              refine o_s (.t (.d (.lit (.bool true)))) (g0 rfl) rfl rfl rfl ?_
              refine o_skip rfl rfl rfl rfl rfl rfl ?_
              refine o_skip rfl rfl rfl rfl rfl rfl ?_
              refine o_skip rfl rfl rfl rfl rfl rfl ?_
              refine o_pk (.t (.d (.lit (.bool true)))) (b := true) rfl (g0 rfl) rfl rfl rfl rfl rfl ?_
              refine o_nil ?_
              repeat (first | refine then_normal ?_ | refine then_exit ?_ | refine then_ret ?_ | refine block_normal ?_ | refine block_ret ?_ | refine block_exit ?_ | refine block_pass rfl ?_)
              refine c_t rfl rfl ?_
              refine c_seq ?_
              refine c_region ?_
              refine o_s (.t (.d (.lit (.bool true)))) (g0 rfl) rfl rfl rfl ?_
              refine o_nil ?_
              repeat (first | refine then_normal ?_ | refine then_exit ?_ | refine then_ret ?_ | refine block_normal ?_ | refine block_ret ?_ | refine block_exit ?_ | refine block_pass rfl ?_)
              refine c_ret ?_
              repeat (first | refine then_normal ?_ | refine then_exit ?_ | refine then_ret ?_ | refine block_normal ?_ | refine block_ret ?_ | refine block_exit ?_ | refine block_pass rfl ?_)
              obtain rfl := Option.some.inj h
              exact end0 rfl (.refl _)
            · refine o_s (.ref 2 8) (gy rfl rfl rfl h8) rfl rfl rfl ?_
              refine o_s (.t (.d (.seq 1 (bytesD p0.Link)))) (gy rfl rfl rfl h8) rfl rfl rfl ?_
              refine o_c (gy rfl rfl rfl h8) rfl rfl rfl (lenE _ _) trivial ?_
              refine o_s (.t (.d (.lit (.bool (decide ((p0.Link.length : Int) > 200)))))) (gy rfl rfl rfl h8) rfl rfl rfl ?_
              refine o_pk (.t (.d (.lit (.bool (decide ((p0.Link.length : Int) > 200)))))) (b := false) h8 (g0 rfl) rfl rfl rfl rfl rfl ?_
              refine o_s (.t (.d (.lit (.bool (decide ((p0.Link.length : Int) > 200)))))) (g0 rfl) rfl rfl rfl ?_
              rcases bif_some h with ⟨h9, h⟩ | ⟨h9, h⟩
              · refine o_skip rfl rfl rfl h9 rfl rfl ?_
                refine o_skip rfl rfl rfl h9 rfl rfl ?_
                refine o_skip rfl rfl rfl h9 rfl rfl ?_
                refine o_pk (.t (.d (.lit (.bool true)))) (b := true) h9 (g0 rfl) rfl rfl rfl rfl rfl ?_
                refine o_nil ?_
                repeat (first | refine then_normal ?_ | refine then_exit ?_ | refine then_ret ?_ | refine block_normal ?_ | refine block_ret ?_ | refine block_exit ?_ | refine block_pass rfl ?_)
                refine c_t rfl rfl ?_
                refine c_seq ?_
                refine c_region ?_
                refine o_s (.t (.d (.lit (.bool true)))) (g0 rfl) rfl rfl rfl ?_
                refine o_nil ?_
                repeat (first | refine then_normal ?_ | refine then_exit ?_ | refine then_ret ?_ | refine block_normal ?_ | refine block_ret ?_ | refine block_exit ?_ | refine block_pass rfl ?_)
                refine c_ret ?_
                repeat (first | refine then_normal ?_ | refine then_exit ?_ | refine then_ret ?_ | refine block_normal ?_ | refine block_ret ?_ | refine block_exit ?_ | refine block_pass rfl ?_)
                obtain rfl := Option.some.inj h
                exact end0 rfl (.refl _)
              · refine o_s (.t (.d (.seq 1 (bytesD p1)))) (gy rfl rfl rfl h9) rfl rfl rfl ?_
                refine o_c (gy rfl rfl rfl h9) rfl rfl rfl (lenE _ _) trivial ?_
                refine o_s (.t (.d (.lit (.bool (decide ((p1.length : Int) > 1500)))))) (gy rfl rfl rfl h9) rfl rfl rfl ?_
                refine o_pk (.t (.d (.lit (.bool (decide ((p1.length : Int) > 1500)))))) (b := false) h9 (g0 rfl) rfl rfl rfl rfl rfl ?_
                refine o_nil ?_
                repeat (first | refine then_normal ?_ | refine then_exit ?_ | refine then_ret ?_ | refine block_normal ?_ | refine block_ret ?_ | refine block_exit ?_ | refine block_pass rfl ?_)
                rcases bif_some h with ⟨h10, h⟩ | ⟨h10, h⟩
                · refine c_t h10 rfl ?_
                  refine c_seq ?_
                  refine c_region ?_
                  refine o_s (.t (.d (.lit (.bool true)))) (g0 rfl) rfl rfl rfl ?_
                  refine o_nil ?_
                  repeat (first | refine then_normal ?_ | refine then_exit ?_ | refine then_ret ?_ | refine block_normal ?_ | refine block_ret ?_ | refine block_exit ?_ | refine block_pass rfl ?_)
                  refine c_ret ?_
                  repeat (first | refine then_normal ?_ | refine then_exit ?_ | refine then_ret ?_ | refine block_normal ?_ | refine block_ret ?_ | refine block_exit ?_ | refine block_pass rfl ?_)
                  obtain rfl := Option.some.inj h
                  exact end0 rfl (.refl _)
                · refine c_f h10 rfl ?_
                  refine c_skip ?_
                  repeat (first | refine then_normal ?_ | refine then_exit ?_ | refine then_ret ?_ | refine block_normal ?_ | refine block_ret ?_ | refine block_exit ?_ | refine block_pass rfl ?_)
                  refine c_seq ?_
                  refine c_region ?_
                  refine o_s (.t (.agg [.lit (.string ⟨⟨p0.Folder⟩⟩), .lit (.int .i64 p0.Number), .lit (.int .i64 p0.Place), .lit (.int .i64 p0.From), .lit (.int .i64 p0.Seq), .seq 1 (bytesD p0.Digest), .seq 2 (List.map cS_api_At p0.Chain), .seq 1 (bytesD p0.Public), .seq 1 (bytesD p0.Link), .lit (.string ⟨⟨p0.By⟩⟩)])) (g0 rfl) rfl rfl rfl ?_
                  obtain ⟨x11, h12, h⟩ := bind_some h
                  refine o_ca (fc_record_EpochText _ _ h12) (g0 rfl) rfl rfl rfl rfl rfl rfl rfl (.cons (.refl _) .nil) rfl rfl ?_
                  refine o_s (.tup [.d (.seq 1 (bytesD x11.1)), .d (.lit (.int .i64 x11.2))]) (g0 rfl) rfl rfl rfl ?_
                  refine o_s (.t (.d (.seq 1 (bytesD x11.1)))) (g0 rfl) rfl rfl rfl ?_
                  refine o_s (.t (.d (.lit (.int .i64 x11.2)))) (g0 rfl) rfl rfl rfl ?_
                  refine o_s (.t (.d (.seq 1 (bytesD x11.1)))) (g0 rfl) rfl rfl rfl ?_
                  refine o_s (.t (.d (.lit (.int .i64 x11.2)))) (g0 rfl) rfl rfl rfl ?_
                  refine o_nil ?_
                  repeat (first | refine then_normal ?_ | refine then_exit ?_ | refine then_ret ?_ | refine block_normal ?_ | refine block_ret ?_ | refine block_exit ?_ | refine block_pass rfl ?_)
                  refine c_cut (fun (_ : Unit) => [(1, .t (.d (.seq 1 (bytesD p1))))]) (fun (_ : Unit) => m_L35_RecordEpoch_j1 p1 = some r) ?_ ?_
                  · refine c_seq ?_
                    refine c_region ?_
                    refine o_s (.t (.agg [.lit (.string ⟨⟨p0.Folder⟩⟩), .lit (.int .i64 p0.Number), .lit (.int .i64 p0.Place), .lit (.int .i64 p0.From), .lit (.int .i64 p0.Seq), .seq 1 (bytesD p0.Digest), .seq 2 (List.map cS_api_At p0.Chain), .seq 1 (bytesD p0.Public), .seq 1 (bytesD p0.Link), .lit (.string ⟨⟨p0.By⟩⟩)])) (g0 rfl) rfl rfl rfl ?_
                    obtain ⟨x27, h28, h⟩ := bind_some h
                    refine o_ca (fc_R35_MayEpoch _ _ h28) (g0 rfl) rfl rfl rfl rfl rfl rfl rfl (.cons (.refl _) .nil) rfl rfl ?_
                    refine o_nil ?_
                    repeat (first | refine then_normal ?_ | refine then_exit ?_ | refine then_ret ?_ | refine block_normal ?_ | refine block_ret ?_ | refine block_exit ?_ | refine block_pass rfl ?_)
                    rcases bif_some h with ⟨h29, h⟩ | ⟨h29, h⟩
                    · refine c_t h29 rfl ?_
                      refine c_seq ?_
                      refine c_region ?_
                      refine o_s (.t (.d (.seq 1 (bytesD x11.1)))) (g0 rfl) rfl rfl rfl ?_
                      obtain ⟨x30, h31, h⟩ := bind_some h
                      refine o_ca (fc_record_ReadEpoch _ _ h31) (g0 rfl) rfl rfl rfl rfl rfl rfl rfl (.cons (.refl _) .nil) rfl rfl ?_
                      refine o_s (.tup [.agg [.lit (.string ⟨⟨x30.1.Folder⟩⟩), .lit (.int .i64 x30.1.Number), .lit (.int .i64 x30.1.Place), .lit (.int .i64 x30.1.From), .lit (.int .i64 x30.1.Seq), .seq 1 (bytesD x30.1.Digest), .seq 2 (List.map cS_api_At x30.1.Chain), .seq 1 (bytesD x30.1.Public), .seq 1 (bytesD x30.1.Link), .lit (.string ⟨⟨x30.1.By⟩⟩)], .d (.lit (.int .i64 x30.2))]) (g0 rfl) rfl rfl rfl ?_
                      refine o_s (.t (.agg [.lit (.string ⟨⟨x30.1.Folder⟩⟩), .lit (.int .i64 x30.1.Number), .lit (.int .i64 x30.1.Place), .lit (.int .i64 x30.1.From), .lit (.int .i64 x30.1.Seq), .seq 1 (bytesD x30.1.Digest), .seq 2 (List.map cS_api_At x30.1.Chain), .seq 1 (bytesD x30.1.Public), .seq 1 (bytesD x30.1.Link), .lit (.string ⟨⟨x30.1.By⟩⟩)])) (g0 rfl) rfl rfl rfl ?_
                      refine o_s (.t (.d (.lit (.int .i64 x30.2)))) (g0 rfl) rfl rfl rfl ?_
                      refine o_s (.box [.d (.lit (.string ⟨⟨[]⟩⟩)), .d (.lit (.int .i64 0)), .d (.lit (.int .i64 0)), .d (.lit (.int .i64 0)), .d (.lit (.int .i64 0)), .d (.lit (.slice none 0 0)), .d (.lit (.slice none 0 0)), .d (.lit (.slice none 0 0)), .d (.lit (.slice none 0 0)), .d (.lit (.string ⟨⟨[]⟩⟩))]) (g0 rfl) rfl rfl rfl ?_
                      refine o_st (.box [.d (.lit (.string ⟨⟨x30.1.Folder⟩⟩)), .d (.lit (.int .i64 x30.1.Number)), .d (.lit (.int .i64 x30.1.Place)), .d (.lit (.int .i64 x30.1.From)), .d (.lit (.int .i64 x30.1.Seq)), .d (.seq 1 (bytesD x30.1.Digest)), .d (.seq 2 (List.map cS_api_At x30.1.Chain)), .d (.seq 1 (bytesD x30.1.Public)), .d (.seq 1 (bytesD x30.1.Link)), .d (.lit (.string ⟨⟨x30.1.By⟩⟩))]) (g0 rfl) rfl rfl rfl ?_
                      refine o_s (.t (.d (.lit (.int .i64 x30.2)))) (g0 rfl) rfl rfl rfl ?_
                      refine o_nil ?_
                      repeat (first | refine then_normal ?_ | refine then_exit ?_ | refine then_ret ?_ | refine block_normal ?_ | refine block_ret ?_ | refine block_exit ?_ | refine block_pass rfl ?_)
                      refine c_seq ?_
                      refine c_region ?_
                      refine o_s (.t (.d (.lit (.int .i64 x11.2)))) (g0 rfl) rfl rfl rfl ?_
                      refine o_s (.t (.d (.lit (.bool (x11.2 != 0))))) (g0 rfl) rfl rfl rfl ?_
                      refine o_s (.t (.d (.lit (.bool (x11.2 != 0))))) (g0 rfl) rfl rfl rfl ?_
                      rcases bif_some h with ⟨h32, h⟩ | ⟨h32, h⟩
                      · refine o_skip rfl rfl rfl h32 rfl rfl ?_
                        refine o_skip rfl rfl rfl h32 rfl rfl ?_
                        refine o_skip rfl rfl rfl h32 rfl rfl ?_
                        refine o_skip rfl rfl rfl h32 rfl rfl ?_
                        refine o_skip rfl rfl rfl h32 rfl rfl ?_
                        refine o_pk (.t (.d (.lit (.bool true)))) (b := true) h32 (g0 rfl) rfl rfl rfl rfl rfl ?_
                        refine o_s (.t (.d (.lit (.bool true)))) (g0 rfl) rfl rfl rfl ?_
                        refine o_skip rfl rfl rfl rfl rfl rfl ?_
                        refine o_skip rfl rfl rfl rfl rfl rfl ?_
                        refine o_pk (.t (.d (.lit (.bool true)))) (b := true) rfl (g0 rfl) rfl rfl rfl rfl rfl ?_
                        refine o_s (.t (.d (.lit (.bool true)))) (g0 rfl) rfl rfl rfl ?_
                        refine o_skip rfl rfl rfl rfl rfl rfl ?_
                        refine o_skip rfl rfl rfl rfl rfl rfl ?_
                        refine o_skip rfl rfl rfl rfl rfl rfl ?_
                        refine o_skip rfl rfl rfl rfl rfl rfl ?_
                        refine o_pk (.t (.d (.lit (.bool true)))) (b := true) rfl (g0 rfl) rfl rfl rfl rfl rfl ?_
                        refine o_nil ?_
                        repeat (first | refine then_normal ?_ | refine then_exit ?_ | refine then_ret ?_ | refine block_normal ?_ | refine block_ret ?_ | refine block_exit ?_ | refine block_pass rfl ?_)
                        refine c_t rfl rfl ?_
                        refine c_seq ?_
                        refine c_region ?_
                        refine o_s (.t (.d (.lit (.bool false)))) (g0 rfl) rfl rfl rfl ?_
                        refine o_nil ?_
                        repeat (first | refine then_normal ?_ | refine then_exit ?_ | refine then_ret ?_ | refine block_normal ?_ | refine block_ret ?_ | refine block_exit ?_ | refine block_pass rfl ?_)
                        refine c_ret ?_
                        repeat (first | refine then_normal ?_ | refine then_exit ?_ | refine then_ret ?_ | refine block_normal ?_ | refine block_ret ?_ | refine block_exit ?_ | refine block_pass rfl ?_)
                        obtain rfl := Option.some.inj h
                        exact end0 rfl (.refl _)
                      · refine o_s (.t (.d (.seq 1 (bytesD x11.1)))) (gy rfl rfl rfl h32) rfl rfl rfl ?_
                        refine o_s (.t (.agg [.lit (.string ⟨⟨p0.Folder⟩⟩), .lit (.int .i64 p0.Number), .lit (.int .i64 p0.Place), .lit (.int .i64 p0.From), .lit (.int .i64 p0.Seq), .seq 1 (bytesD p0.Digest), .seq 2 (List.map cS_api_At p0.Chain), .seq 1 (bytesD p0.Public), .seq 1 (bytesD p0.Link), .lit (.string ⟨⟨p0.By⟩⟩)])) (gy rfl rfl rfl h32) rfl rfl rfl ?_
                        obtain ⟨x33, h34, h⟩ := bind_some h
                        refine o_ca (fc_R35_EpochText _ _ h34) (gy rfl rfl rfl h32) rfl rfl rfl rfl rfl rfl rfl (.cons (.refl _) .nil) rfl rfl ?_
                        obtain ⟨x35, h36, h⟩ := bind_some h
                        refine o_ca (fc_R01_Same _ _ _ h36) (gy rfl rfl rfl h32) rfl rfl rfl rfl rfl rfl rfl (.cons (.refl _) (.cons (.refl _) .nil)) rfl rfl ?_
                        refine o_s (.t (.d (.lit (.bool (!x35))))) (gy rfl rfl rfl h32) rfl rfl rfl ?_
                        refine o_pk (.t (.d (.lit (.bool (!x35))))) (b := false) h32 (g0 rfl) rfl rfl rfl rfl rfl ?_
                        refine o_s (.t (.d (.lit (.bool (!x35))))) (g0 rfl) rfl rfl rfl ?_
                        rcases bif_some h with ⟨h37, h⟩ | ⟨h37, h⟩
                        · refine o_skip rfl rfl rfl h37 rfl rfl ?_
                          refine o_skip rfl rfl rfl h37 rfl rfl ?_
                          refine o_pk (.t (.d (.lit (.bool true)))) (b := true) h37 (g0 rfl) rfl rfl rfl rfl rfl ?_
                          refine o_s (.t (.d (.lit (.bool true)))) (g0 rfl) rfl rfl rfl ?_
                          refine o_skip rfl rfl rfl rfl rfl rfl ?_
                          refine o_skip rfl rfl rfl rfl rfl rfl ?_
                          refine o_skip rfl rfl rfl rfl rfl rfl ?_
                          refine o_skip rfl rfl rfl rfl rfl rfl ?_
                          refine o_pk (.t (.d (.lit (.bool true)))) (b := true) rfl (g0 rfl) rfl rfl rfl rfl rfl ?_
                          refine o_nil ?_
                          repeat (first | refine then_normal ?_ | refine then_exit ?_ | refine then_ret ?_ | refine block_normal ?_ | refine block_ret ?_ | refine block_exit ?_ | refine block_pass rfl ?_)
                          refine c_t rfl rfl ?_
                          refine c_seq ?_
                          refine c_region ?_
                          refine o_s (.t (.d (.lit (.bool false)))) (g0 rfl) rfl rfl rfl ?_
                          refine o_nil ?_
                          repeat (first | refine then_normal ?_ | refine then_exit ?_ | refine then_ret ?_ | refine block_normal ?_ | refine block_ret ?_ | refine block_exit ?_ | refine block_pass rfl ?_)
                          refine c_ret ?_
                          repeat (first | refine then_normal ?_ | refine then_exit ?_ | refine then_ret ?_ | refine block_normal ?_ | refine block_ret ?_ | refine block_exit ?_ | refine block_pass rfl ?_)
                          obtain rfl := Option.some.inj h
                          exact end0 rfl (.refl _)
                        · refine o_s (.t (.d (.lit (.int .i64 x30.2)))) (gy rfl rfl rfl h37) rfl rfl rfl ?_
                          refine o_s (.t (.d (.lit (.bool (x30.2 != 0))))) (gy rfl rfl rfl h37) rfl rfl rfl ?_
                          refine o_pk (.t (.d (.lit (.bool (x30.2 != 0))))) (b := false) h37 (g0 rfl) rfl rfl rfl rfl rfl ?_
                          refine o_s (.t (.d (.lit (.bool (x30.2 != 0))))) (g0 rfl) rfl rfl rfl ?_
                          rcases bif_some h with ⟨h38, h⟩ | ⟨h38, h⟩
                          · refine o_skip rfl rfl rfl h38 rfl rfl ?_
                            refine o_skip rfl rfl rfl h38 rfl rfl ?_
                            refine o_skip rfl rfl rfl h38 rfl rfl ?_
                            refine o_skip rfl rfl rfl h38 rfl rfl ?_
                            refine o_pk (.t (.d (.lit (.bool true)))) (b := true) h38 (g0 rfl) rfl rfl rfl rfl rfl ?_
                            refine o_nil ?_
                            repeat (first | refine then_normal ?_ | refine then_exit ?_ | refine then_ret ?_ | refine block_normal ?_ | refine block_ret ?_ | refine block_exit ?_ | refine block_pass rfl ?_)
                            refine c_t rfl rfl ?_
                            refine c_seq ?_
                            refine c_region ?_
                            refine o_s (.t (.d (.lit (.bool false)))) (g0 rfl) rfl rfl rfl ?_
                            refine o_nil ?_
                            repeat (first | refine then_normal ?_ | refine then_exit ?_ | refine then_ret ?_ | refine block_normal ?_ | refine block_ret ?_ | refine block_exit ?_ | refine block_pass rfl ?_)
                            refine c_ret ?_
                            repeat (first | refine then_normal ?_ | refine then_exit ?_ | refine then_ret ?_ | refine block_normal ?_ | refine block_ret ?_ | refine block_exit ?_ | refine block_pass rfl ?_)
                            obtain rfl := Option.some.inj h
                            exact end0 rfl (.refl _)
                          · refine o_s (.t (.agg [.lit (.string ⟨⟨x30.1.Folder⟩⟩), .lit (.int .i64 x30.1.Number), .lit (.int .i64 x30.1.Place), .lit (.int .i64 x30.1.From), .lit (.int .i64 x30.1.Seq), .seq 1 (bytesD x30.1.Digest), .seq 2 (List.map cS_api_At x30.1.Chain), .seq 1 (bytesD x30.1.Public), .seq 1 (bytesD x30.1.Link), .lit (.string ⟨⟨x30.1.By⟩⟩)])) (gy rfl rfl rfl h38) rfl rfl rfl ?_
                            refine o_s (.t (.agg [.lit (.string ⟨⟨p0.Folder⟩⟩), .lit (.int .i64 p0.Number), .lit (.int .i64 p0.Place), .lit (.int .i64 p0.From), .lit (.int .i64 p0.Seq), .seq 1 (bytesD p0.Digest), .seq 2 (List.map cS_api_At p0.Chain), .seq 1 (bytesD p0.Public), .seq 1 (bytesD p0.Link), .lit (.string ⟨⟨p0.By⟩⟩)])) (gy rfl rfl rfl h38) rfl rfl rfl ?_
                            obtain ⟨x39, h40, h⟩ := bind_some h
                            refine o_ca (fc_R35_SameEpoch _ _ _ h40) (gy rfl rfl rfl h38) rfl rfl rfl rfl rfl rfl rfl (.cons (.refl _) (.cons (.refl _) .nil)) rfl rfl ?_
                            refine o_s (.t (.d (.lit (.bool (!x39))))) (gy rfl rfl rfl h38) rfl rfl rfl ?_
                            refine o_pk (.t (.d (.lit (.bool (!x39))))) (b := false) h38 (g0 rfl) rfl rfl rfl rfl rfl ?_
                            refine o_nil ?_
                            repeat (first | refine then_normal ?_ | refine then_exit ?_ | refine then_ret ?_ | refine block_normal ?_ | refine block_ret ?_ | refine block_exit ?_ | refine block_pass rfl ?_)
                            rcases bif_some h with ⟨h41, h⟩ | ⟨h41, h⟩
                            · refine c_t h41 rfl ?_
                              refine c_seq ?_
                              refine c_region ?_
                              refine o_s (.t (.d (.lit (.bool false)))) (g0 rfl) rfl rfl rfl ?_
                              refine o_nil ?_
                              repeat (first | refine then_normal ?_ | refine then_exit ?_ | refine then_ret ?_ | refine block_normal ?_ | refine block_ret ?_ | refine block_exit ?_ | refine block_pass rfl ?_)
                              refine c_ret ?_
                              repeat (first | refine then_normal ?_ | refine then_exit ?_ | refine then_ret ?_ | refine block_normal ?_ | refine block_ret ?_ | refine block_exit ?_ | refine block_pass rfl ?_)
                              obtain rfl := Option.some.inj h
                              exact end0 rfl (.refl _)
                            · refine c_f h41 rfl ?_
                              refine c_skip ?_
                              repeat (first | refine then_normal ?_ | refine then_exit ?_ | refine then_ret ?_ | refine block_normal ?_ | refine block_ret ?_ | refine block_exit ?_ | refine block_pass rfl ?_)
                              exact ⟨(), h, ⟨(.refl _), trivial⟩, rfl⟩
                    · refine c_f h29 rfl ?_
                      refine c_seq ?_
                      refine c_region ?_
                      refine o_s (.t (.d (.lit (.int .i64 x11.2)))) (g0 rfl) rfl rfl rfl ?_
                      refine o_s (.t (.d (.lit (.bool (x11.2 != 2))))) (g0 rfl) rfl rfl rfl ?_
                      refine o_s (.t (.d (.lit (.bool (x11.2 != 2))))) (g0 rfl) rfl rfl rfl ?_
                      rcases bif_some h with ⟨h42, h⟩ | ⟨h42, h⟩
                      · refine o_skip rfl rfl rfl h42 rfl rfl ?_
                        refine o_skip rfl rfl rfl h42 rfl rfl ?_
                        refine o_skip rfl rfl rfl h42 rfl rfl ?_
                        refine o_pk (.t (.d (.lit (.bool true)))) (b := true) h42 (g0 rfl) rfl rfl rfl rfl rfl ?_
                        refine o_nil ?_
                        repeat (first | refine then_normal ?_ | refine then_exit ?_ | refine then_ret ?_ | refine block_normal ?_ | refine block_ret ?_ | refine block_exit ?_ | refine block_pass rfl ?_)
                        refine c_t rfl rfl ?_
                        refine c_seq ?_
                        refine c_region ?_
                        refine o_s (.t (.d (.lit (.bool false)))) (g0 rfl) rfl rfl rfl ?_
                        refine o_nil ?_
                        repeat (first | refine then_normal ?_ | refine then_exit ?_ | refine then_ret ?_ | refine block_normal ?_ | refine block_ret ?_ | refine block_exit ?_ | refine block_pass rfl ?_)
                        refine c_ret ?_
                        repeat (first | refine then_normal ?_ | refine then_exit ?_ | refine then_ret ?_ | refine block_normal ?_ | refine block_ret ?_ | refine block_exit ?_ | refine block_pass rfl ?_)
                        obtain rfl := Option.some.inj h
                        exact end0 rfl (.refl _)
                      · refine o_s (.t (.d (.seq 1 (bytesD x11.1)))) (gy rfl rfl rfl h42) rfl rfl rfl ?_
                        refine o_c (gy rfl rfl rfl h42) rfl rfl rfl (lenE _ _) trivial ?_
                        refine o_s (.t (.d (.lit (.bool (decide ((x11.1.length : Int) > 0)))))) (gy rfl rfl rfl h42) rfl rfl rfl ?_
                        refine o_pk (.t (.d (.lit (.bool (decide ((x11.1.length : Int) > 0)))))) (b := false) h42 (g0 rfl) rfl rfl rfl rfl rfl ?_
                        refine o_nil ?_
                        repeat (first | refine then_normal ?_ | refine then_exit ?_ | refine then_ret ?_ | refine block_normal ?_ | refine block_ret ?_ | refine block_exit ?_ | refine block_pass rfl ?_)
                        rcases bif_some h with ⟨h43, h⟩ | ⟨h43, h⟩
                        · refine c_t h43 rfl ?_
                          refine c_seq ?_
                          refine c_region ?_
                          refine o_s (.t (.d (.lit (.bool false)))) (g0 rfl) rfl rfl rfl ?_
                          refine o_nil ?_
                          repeat (first | refine then_normal ?_ | refine then_exit ?_ | refine then_ret ?_ | refine block_normal ?_ | refine block_ret ?_ | refine block_exit ?_ | refine block_pass rfl ?_)
                          refine c_ret ?_
                          repeat (first | refine then_normal ?_ | refine then_exit ?_ | refine then_ret ?_ | refine block_normal ?_ | refine block_ret ?_ | refine block_exit ?_ | refine block_pass rfl ?_)
                          obtain rfl := Option.some.inj h
                          exact end0 rfl (.refl _)
                        · refine c_f h43 rfl ?_
                          refine c_skip ?_
                          repeat (first | refine then_normal ?_ | refine then_exit ?_ | refine then_ret ?_ | refine block_normal ?_ | refine block_ret ?_ | refine block_exit ?_ | refine block_pass rfl ?_)
                          exact ⟨(), h, ⟨(.refl _), trivial⟩, rfl⟩
                  · rintro ⟨⟩ h
                    refine c_seq ?_
                    refine c_region ?_
                    refine o_s (.t (.d (.seq 1 (bytesD p1)))) (g0 rfl) rfl rfl rfl ?_
                    obtain ⟨x13, h14, h⟩ := bind_some h
                    refine o_ca (fc_record_ReadEpoch _ _ h14) (g0 rfl) rfl rfl rfl rfl rfl rfl rfl (.cons (.refl _) .nil) rfl rfl ?_
                    refine o_s (.tup [.agg [.lit (.string ⟨⟨x13.1.Folder⟩⟩), .lit (.int .i64 x13.1.Number), .lit (.int .i64 x13.1.Place), .lit (.int .i64 x13.1.From), .lit (.int .i64 x13.1.Seq), .seq 1 (bytesD x13.1.Digest), .seq 2 (List.map cS_api_At x13.1.Chain), .seq 1 (bytesD x13.1.Public), .seq 1 (bytesD x13.1.Link), .lit (.string ⟨⟨x13.1.By⟩⟩)], .d (.lit (.int .i64 x13.2))]) (g0 rfl) rfl rfl rfl ?_
                    refine o_s (.t (.agg [.lit (.string ⟨⟨x13.1.Folder⟩⟩), .lit (.int .i64 x13.1.Number), .lit (.int .i64 x13.1.Place), .lit (.int .i64 x13.1.From), .lit (.int .i64 x13.1.Seq), .seq 1 (bytesD x13.1.Digest), .seq 2 (List.map cS_api_At x13.1.Chain), .seq 1 (bytesD x13.1.Public), .seq 1 (bytesD x13.1.Link), .lit (.string ⟨⟨x13.1.By⟩⟩)])) (g0 rfl) rfl rfl rfl ?_
                    refine o_s (.t (.d (.lit (.int .i64 x13.2)))) (g0 rfl) rfl rfl rfl ?_
                    refine o_s (.box [.d (.lit (.string ⟨⟨[]⟩⟩)), .d (.lit (.int .i64 0)), .d (.lit (.int .i64 0)), .d (.lit (.int .i64 0)), .d (.lit (.int .i64 0)), .d (.lit (.slice none 0 0)), .d (.lit (.slice none 0 0)), .d (.lit (.slice none 0 0)), .d (.lit (.slice none 0 0)), .d (.lit (.string ⟨⟨[]⟩⟩))]) (g0 rfl) rfl rfl rfl ?_
                    refine o_st (.box [.d (.lit (.string ⟨⟨x13.1.Folder⟩⟩)), .d (.lit (.int .i64 x13.1.Number)), .d (.lit (.int .i64 x13.1.Place)), .d (.lit (.int .i64 x13.1.From)), .d (.lit (.int .i64 x13.1.Seq)), .d (.seq 1 (bytesD x13.1.Digest)), .d (.seq 2 (List.map cS_api_At x13.1.Chain)), .d (.seq 1 (bytesD x13.1.Public)), .d (.seq 1 (bytesD x13.1.Link)), .d (.lit (.string ⟨⟨x13.1.By⟩⟩))]) (g0 rfl) rfl rfl rfl ?_
                    refine o_s (.t (.d (.lit (.int .i64 x13.2)))) (g0 rfl) rfl rfl rfl ?_
                    refine o_nil ?_
                    repeat (first | refine then_normal ?_ | refine then_exit ?_ | refine then_ret ?_ | refine block_normal ?_ | refine block_ret ?_ | refine block_exit ?_ | refine block_pass rfl ?_)
                    refine c_seq ?_
                    refine c_region ?_
                    refine o_s (.t (.d (.seq 1 (bytesD p1)))) (g0 rfl) rfl rfl rfl ?_
                    obtain ⟨x15, h16, h⟩ := bind_some h
                    refine o_ca (fc_R35_ReadEpoch _ _ h16) (g0 rfl) rfl rfl rfl rfl rfl rfl rfl (.cons (.refl _) .nil) rfl rfl ?_
                    refine o_s (.tup [.agg [.lit (.string ⟨⟨x15.1.Folder⟩⟩), .lit (.int .i64 x15.1.Number), .lit (.int .i64 x15.1.Place), .lit (.int .i64 x15.1.From), .lit (.int .i64 x15.1.Seq), .seq 1 (bytesD x15.1.Digest), .seq 2 (List.map cS_api_At x15.1.Chain), .seq 1 (bytesD x15.1.Public), .seq 1 (bytesD x15.1.Link), .lit (.string ⟨⟨x15.1.By⟩⟩)], .d (.lit (.int .i64 x15.2))]) (g0 rfl) rfl rfl rfl ?_
                    refine o_s (.t (.agg [.lit (.string ⟨⟨x15.1.Folder⟩⟩), .lit (.int .i64 x15.1.Number), .lit (.int .i64 x15.1.Place), .lit (.int .i64 x15.1.From), .lit (.int .i64 x15.1.Seq), .seq 1 (bytesD x15.1.Digest), .seq 2 (List.map cS_api_At x15.1.Chain), .seq 1 (bytesD x15.1.Public), .seq 1 (bytesD x15.1.Link), .lit (.string ⟨⟨x15.1.By⟩⟩)])) (g0 rfl) rfl rfl rfl ?_
                    refine o_s (.t (.d (.lit (.int .i64 x15.2)))) (g0 rfl) rfl rfl rfl ?_
                    refine o_s (.box [.d (.lit (.string ⟨⟨[]⟩⟩)), .d (.lit (.int .i64 0)), .d (.lit (.int .i64 0)), .d (.lit (.int .i64 0)), .d (.lit (.int .i64 0)), .d (.lit (.slice none 0 0)), .d (.lit (.slice none 0 0)), .d (.lit (.slice none 0 0)), .d (.lit (.slice none 0 0)), .d (.lit (.string ⟨⟨[]⟩⟩))]) (g0 rfl) rfl rfl rfl ?_
                    refine o_st (.box [.d (.lit (.string ⟨⟨x15.1.Folder⟩⟩)), .d (.lit (.int .i64 x15.1.Number)), .d (.lit (.int .i64 x15.1.Place)), .d (.lit (.int .i64 x15.1.From)), .d (.lit (.int .i64 x15.1.Seq)), .d (.seq 1 (bytesD x15.1.Digest)), .d (.seq 2 (List.map cS_api_At x15.1.Chain)), .d (.seq 1 (bytesD x15.1.Public)), .d (.seq 1 (bytesD x15.1.Link)), .d (.lit (.string ⟨⟨x15.1.By⟩⟩))]) (g0 rfl) rfl rfl rfl ?_
                    refine o_s (.t (.d (.lit (.int .i64 x15.2)))) (g0 rfl) rfl rfl rfl ?_
                    refine o_nil ?_
                    repeat (first | refine then_normal ?_ | refine then_exit ?_ | refine then_ret ?_ | refine block_normal ?_ | refine block_ret ?_ | refine block_exit ?_ | refine block_pass rfl ?_)
                    refine c_seq ?_
                    refine c_seq ?_
                    refine c_region ?_
                    refine o_s (.t (.d (.lit (.int .i64 x13.2)))) (g0 rfl) rfl rfl rfl ?_
                    refine o_s (.t (.d (.lit (.int .i64 x15.2)))) (g0 rfl) rfl rfl rfl ?_
                    refine o_s (.t (.d (.lit (.bool (x13.2 != x15.2))))) (g0 rfl) rfl rfl rfl ?_
                    refine o_s (.t (.d (.lit (.bool (x13.2 != x15.2))))) (g0 rfl) rfl rfl rfl ?_
                    rcases bif_some h with ⟨h17, h⟩ | ⟨h17, h⟩
                    · refine o_skip rfl rfl rfl h17 rfl rfl ?_
                      refine o_skip rfl rfl rfl h17 rfl rfl ?_
                      refine o_skip rfl rfl rfl h17 rfl rfl ?_
                      refine o_skip rfl rfl rfl h17 rfl rfl ?_
                      refine o_pk (.t (.d (.lit (.bool true)))) (b := true) h17 (g0 rfl) rfl rfl rfl rfl rfl ?_
                      refine o_nil ?_
                      repeat (first | refine then_normal ?_ | refine then_exit ?_ | refine then_ret ?_ | refine block_normal ?_ | refine block_ret ?_ | refine block_exit ?_ | refine block_pass rfl ?_)
                      refine c_t rfl rfl ?_
                      refine c_seq ?_
                      refine c_region ?_
                      refine o_s (.t (.d (.lit (.bool false)))) (g0 rfl) rfl rfl rfl ?_
                      refine o_nil ?_
                      repeat (first | refine then_normal ?_ | refine then_exit ?_ | refine then_ret ?_ | refine block_normal ?_ | refine block_ret ?_ | refine block_exit ?_ | refine block_pass rfl ?_)
                      refine c_ret ?_
                      repeat (first | refine then_normal ?_ | refine then_exit ?_ | refine then_ret ?_ | refine block_normal ?_ | refine block_ret ?_ | refine block_exit ?_ | refine block_pass rfl ?_)
                      obtain rfl := Option.some.inj h
                      exact end0 rfl (.refl _)
                    · refine o_s (.t (.agg [.lit (.string ⟨⟨x13.1.Folder⟩⟩), .lit (.int .i64 x13.1.Number), .lit (.int .i64 x13.1.Place), .lit (.int .i64 x13.1.From), .lit (.int .i64 x13.1.Seq), .seq 1 (bytesD x13.1.Digest), .seq 2 (List.map cS_api_At x13.1.Chain), .seq 1 (bytesD x13.1.Public), .seq 1 (bytesD x13.1.Link), .lit (.string ⟨⟨x13.1.By⟩⟩)])) (gy rfl rfl rfl h17) rfl rfl rfl ?_
                      refine o_s (.t (.agg [.lit (.string ⟨⟨x15.1.Folder⟩⟩), .lit (.int .i64 x15.1.Number), .lit (.int .i64 x15.1.Place), .lit (.int .i64 x15.1.From), .lit (.int .i64 x15.1.Seq), .seq 1 (bytesD x15.1.Digest), .seq 2 (List.map cS_api_At x15.1.Chain), .seq 1 (bytesD x15.1.Public), .seq 1 (bytesD x15.1.Link), .lit (.string ⟨⟨x15.1.By⟩⟩)])) (gy rfl rfl rfl h17) rfl rfl rfl ?_
                      obtain ⟨x18, h19, h⟩ := bind_some h
                      refine o_ca (fc_R35_SameEpoch _ _ _ h19) (gy rfl rfl rfl h17) rfl rfl rfl rfl rfl rfl rfl (.cons (.refl _) (.cons (.refl _) .nil)) rfl rfl ?_
                      refine o_s (.t (.d (.lit (.bool (!x18))))) (gy rfl rfl rfl h17) rfl rfl rfl ?_
                      refine o_pk (.t (.d (.lit (.bool (!x18))))) (b := false) h17 (g0 rfl) rfl rfl rfl rfl rfl ?_
                      refine o_nil ?_
                      repeat (first | refine then_normal ?_ | refine then_exit ?_ | refine then_ret ?_ | refine block_normal ?_ | refine block_ret ?_ | refine block_exit ?_ | refine block_pass rfl ?_)
                      rcases bif_some h with ⟨h20, h⟩ | ⟨h20, h⟩
                      · refine c_t h20 rfl ?_
                        refine c_seq ?_
                        refine c_region ?_
                        refine o_s (.t (.d (.lit (.bool false)))) (g0 rfl) rfl rfl rfl ?_
                        refine o_nil ?_
                        repeat (first | refine then_normal ?_ | refine then_exit ?_ | refine then_ret ?_ | refine block_normal ?_ | refine block_ret ?_ | refine block_exit ?_ | refine block_pass rfl ?_)
                        refine c_ret ?_
                        repeat (first | refine then_normal ?_ | refine then_exit ?_ | refine then_ret ?_ | refine block_normal ?_ | refine block_ret ?_ | refine block_exit ?_ | refine block_pass rfl ?_)
                        obtain rfl := Option.some.inj h
                        exact end0 rfl (.refl _)
                      · refine c_f h20 rfl ?_
                        refine c_skip ?_
                        repeat (first | refine then_normal ?_ | refine then_exit ?_ | refine then_ret ?_ | refine block_normal ?_ | refine block_ret ?_ | refine block_exit ?_ | refine block_pass rfl ?_)
                        refine c_seq ?_
                        refine c_region ?_
                        refine o_s (.t (.agg [.lit (.string ⟨⟨x13.1.Folder⟩⟩), .lit (.int .i64 x13.1.Number), .lit (.int .i64 x13.1.Place), .lit (.int .i64 x13.1.From), .lit (.int .i64 x13.1.Seq), .seq 1 (bytesD x13.1.Digest), .seq 2 (List.map cS_api_At x13.1.Chain), .seq 1 (bytesD x13.1.Public), .seq 1 (bytesD x13.1.Link), .lit (.string ⟨⟨x13.1.By⟩⟩)])) (g0 rfl) rfl rfl rfl ?_
                        obtain ⟨x21, h22, h⟩ := bind_some h
                        refine o_ca (fc_record_EpochText _ _ h22) (g0 rfl) rfl rfl rfl rfl rfl rfl rfl (.cons (.refl _) .nil) rfl rfl ?_
                        refine o_s (.tup [.d (.seq 1 (bytesD x21.1)), .d (.lit (.int .i64 x21.2))]) (g0 rfl) rfl rfl rfl ?_
                        refine o_s (.t (.d (.seq 1 (bytesD x21.1)))) (g0 rfl) rfl rfl rfl ?_
                        refine o_s (.t (.d (.lit (.int .i64 x21.2)))) (g0 rfl) rfl rfl rfl ?_
                        refine o_s (.t (.d (.seq 1 (bytesD x21.1)))) (g0 rfl) rfl rfl rfl ?_
                        refine o_s (.t (.d (.lit (.int .i64 x21.2)))) (g0 rfl) rfl rfl rfl ?_
                        refine o_nil ?_
                        repeat (first | refine then_normal ?_ | refine then_exit ?_ | refine then_ret ?_ | refine block_normal ?_ | refine block_ret ?_ | refine block_exit ?_ | refine block_pass rfl ?_)
                        refine c_seq ?_
                        refine c_region ?_
                        refine o_s (.t (.d (.lit (.int .i64 x13.2)))) (g0 rfl) rfl rfl rfl ?_
                        refine o_s (.t (.d (.lit (.bool (x13.2 != 0))))) (g0 rfl) rfl rfl rfl ?_
                        refine o_s (.t (.d (.lit (.bool (x13.2 != 0))))) (g0 rfl) rfl rfl rfl ?_
                        rcases bif_some h with ⟨h23, h⟩ | ⟨h23, h⟩
                        · refine o_skip rfl rfl rfl h23 rfl rfl ?_
                          refine o_skip rfl rfl rfl h23 rfl rfl ?_
                          refine o_skip rfl rfl rfl h23 rfl rfl ?_
                          refine o_un rfl rfl rfl rfl rfl ?_
                          refine o_un rfl rfl rfl rfl rfl ?_
                          refine o_un rfl rfl rfl rfl rfl ?_
                          refine o_skip rfl rfl rfl h23 rfl rfl ?_
                          refine o_pk (.t (.d (.lit (.bool true)))) (b := true) h23 (g0 rfl) rfl rfl rfl rfl rfl ?_
                          refine o_s (.t (.d (.lit (.bool true)))) (g0 rfl) rfl rfl rfl ?_
                          refine o_nil ?_
                          repeat (first | refine then_normal ?_ | refine then_exit ?_ | refine then_ret ?_ | refine block_normal ?_ | refine block_ret ?_ | refine block_exit ?_ | refine block_pass rfl ?_)
                          refine c_ret ?_
                          repeat (first | refine then_normal ?_ | refine then_exit ?_ | refine then_ret ?_ | refine block_normal ?_ | refine block_ret ?_ | refine block_exit ?_ | refine block_pass rfl ?_)
                          obtain rfl := Option.some.inj h
                          exact end0 rfl (.refl _)
                        · refine o_s (.t (.d (.lit (.int .i64 x21.2)))) (gy rfl rfl rfl h23) rfl rfl rfl ?_
                          refine o_s (.t (.d (.lit (.bool (x21.2 == 0))))) (gy rfl rfl rfl h23) rfl rfl rfl ?_
                          refine o_s (.t (.d (.lit (.bool (x21.2 == 0))))) (gy rfl rfl rfl h23) rfl rfl rfl ?_
                          rcases bif_some h with ⟨h24, h⟩ | ⟨h24, h⟩
                          · refine o_s (.t (.d (.seq 1 (bytesD x21.1)))) (gy rfl rfl rfl h24) rfl rfl rfl ?_
                            refine o_s (.t (.d (.seq 1 (bytesD p1)))) (gy rfl rfl rfl h24) rfl rfl rfl ?_
                            obtain ⟨x25, h26, h⟩ := bind_some h
                            refine o_ca (fc_R01_Same _ _ _ h26) (gy rfl rfl rfl h24) rfl rfl rfl rfl rfl rfl rfl (.cons (.refl _) (.cons (.refl _) .nil)) rfl rfl ?_
                            refine o_pk (.t (.d (.lit (.bool x25)))) (b := true) h24 (gy rfl rfl rfl h23) rfl rfl rfl rfl rfl ?_
                            refine o_pk (.t (.d (.lit (.bool x25)))) (b := false) h23 (g0 rfl) rfl rfl rfl rfl rfl ?_
                            refine o_s (.t (.d (.lit (.bool x25)))) (g0 rfl) rfl rfl rfl ?_
                            refine o_nil ?_
                            repeat (first | refine then_normal ?_ | refine then_exit ?_ | refine then_ret ?_ | refine block_normal ?_ | refine block_ret ?_ | refine block_exit ?_ | refine block_pass rfl ?_)
                            refine c_ret ?_
                            repeat (first | refine then_normal ?_ | refine then_exit ?_ | refine then_ret ?_ | refine block_normal ?_ | refine block_ret ?_ | refine block_exit ?_ | refine block_pass rfl ?_)
                            obtain rfl := Option.some.inj h
                            exact end0 rfl (.refl _)
                          · refine o_skip rfl rfl rfl h24 rfl rfl ?_
                            refine o_skip rfl rfl rfl h24 rfl rfl ?_
                            refine o_skip rfl rfl rfl h24 rfl rfl ?_
                            refine o_pk (.t (.d (.lit (.bool false)))) (b := false) h24 (gy rfl rfl rfl h23) rfl rfl rfl rfl rfl ?_
                            refine o_pk (.t (.d (.lit (.bool false)))) (b := false) h23 (g0 rfl) rfl rfl rfl rfl rfl ?_
                            refine o_s (.t (.d (.lit (.bool false)))) (g0 rfl) rfl rfl rfl ?_
                            refine o_nil ?_
                            repeat (first | refine then_normal ?_ | refine then_exit ?_ | refine then_ret ?_ | refine block_normal ?_ | refine block_ret ?_ | refine block_exit ?_ | refine block_pass rfl ?_)
                            refine c_ret ?_
                            repeat (first | refine then_normal ?_ | refine then_exit ?_ | refine then_ret ?_ | refine block_normal ?_ | refine block_ret ?_ | refine block_exit ?_ | refine block_pass rfl ?_)
                            obtain rfl := Option.some.inj h
                            exact end0 rfl (.refl _)

end Go.Proofs.YteopjhakjeknaaaDoor
