/-
  Walks of functions: each function does what its model tells. Printed by a program of this claim's own (gen.py) off the given translation.
-/
import Derived.Test.YteopjhakjeknaaaDoorEpM
import Derived.Test.YteopjhakjeknaaaDoorEbW
namespace Go.Proofs.YteopjhakjeknaaaDoor
open Go Go.RowKit
set_option linter.unusedVariables false
set_option maxHeartbeats 4000000
set_option maxRecDepth 20000
theorem fc_record_text (p0 : (List UInt8)) (r : V) (h : m_record_text p0 = some r) : FC Tryd.prog 51 [.t (.d (.lit (.string ⟨⟨p0⟩⟩)))] [] (.t (.agg [.lit (.int .i64 r.k), .lit (.int .i64 r.n), .seq 1 (bytesD r.b), .lit (.slice none 0 0)])) := by
  refine fc_mk (rs := [.cell 2 79]) (n := 6) Tryd.func51 rfl rfl (Nat.le_of_ble_eq_true rfl) rfl (pins := []) rfl (L := [(0, .t (.d (.lit (.string ⟨⟨p0⟩⟩))))]) rfl ?_
  refine c_seq ?_
  refine c_region ?_
  refine o_s (.box [.d (.lit (.int .i64 0)), .d (.lit (.int .i64 0)), .d (.lit (.slice none 0 0)), .d (.lit (.slice none 0 0))]) (g0 rfl) rfl rfl rfl ?_
  refine o_nil ?_
  repeat (first | refine then_normal ?_ | refine then_exit ?_ | refine then_ret ?_ | refine block_normal ?_ | refine block_ret ?_ | refine block_exit ?_ | refine block_pass rfl ?_)
  refine c_seq ?_
  refine c_region ?_
  refine o_s (.t (.d (.lit (.string ⟨⟨p0⟩⟩)))) (g0 rfl) rfl rfl rfl ?_
  obtain ⟨x1, h2, h⟩ := bind_some h
  refine o_c (g0 rfl) rfl rfl rfl (strBE h2) (strBC h2) ?_
  obtain ⟨x3, h4, h⟩ := bind_some h
  refine o_ca (fc_codec_Raw _ _ h4) (g0 rfl) rfl rfl rfl rfl rfl rfl rfl (.cons (.refl _) .nil) rfl rfl ?_
  refine o_st (.box [.d (.lit (.int .i64 x3.k)), .d (.lit (.int .i64 x3.n)), .d (.seq 1 (bytesD x3.b)), .d (.lit (.slice none 0 0))]) (g0 rfl) rfl rfl rfl ?_
  refine o_nil ?_
  repeat (first | refine then_normal ?_ | refine then_exit ?_ | refine then_ret ?_ | refine block_normal ?_ | refine block_ret ?_ | refine block_exit ?_ | refine block_pass rfl ?_)
  refine c_ret ?_
  repeat (first | refine then_normal ?_ | refine then_exit ?_ | refine then_ret ?_ | refine block_normal ?_ | refine block_ret ?_ | refine block_exit ?_ | refine block_pass rfl ?_)
  obtain rfl := Option.some.inj h
  exact end0 rfl (.refl _)

theorem fc_record_seq (p0 : Int) (r : Bool) (h : m_record_seq p0 = some r) : FC Tryd.prog 69 [.t (.d (.lit (.int .i64 p0)))] [] (.t (.d (.lit (.bool r)))) := by
  refine fc_mk (rs := [.tmp 2]) (n := 9) Tryd.func69 rfl rfl (Nat.le_of_ble_eq_true rfl) rfl (pins := []) rfl (L := [(0, .t (.d (.lit (.int .i64 p0))))]) rfl ?_
  refine c_seq ?_
  refine c_region ?_
  refine o_s (.t (.d (.lit (.bool false)))) (g0 rfl) rfl rfl rfl ?_
  refine o_nil ?_
  repeat (first | refine then_normal ?_ | refine then_exit ?_ | refine then_ret ?_ | refine block_normal ?_ | refine block_ret ?_ | refine block_exit ?_ | refine block_pass rfl ?_)
  refine c_seq ?_
  refine c_region ?_
  refine o_s (.t (.d (.lit (.int .i64 p0)))) (g0 rfl) rfl rfl rfl ?_
  refine o_s (.t (.d (.lit (.bool (decide (p0 ≥ 1)))))) (g0 rfl) rfl rfl rfl ?_
  refine o_s (.t (.d (.lit (.bool (decide (p0 ≥ 1)))))) (g0 rfl) rfl rfl rfl ?_
  rcases bif_some h with ⟨h1, h⟩ | ⟨h1, h⟩
  · refine o_s (.t (.d (.lit (.int .i64 p0)))) (gy rfl rfl rfl h1) rfl rfl rfl ?_
    refine o_s (.t (.d (.lit (.bool (decide (p0 ≤ 1099511627776)))))) (gy rfl rfl rfl h1) rfl rfl rfl ?_
    refine o_pk (.t (.d (.lit (.bool (decide (p0 ≤ 1099511627776)))))) (b := true) h1 (g0 rfl) rfl rfl rfl rfl rfl ?_
    refine o_s (.t (.d (.lit (.bool (decide (p0 ≤ 1099511627776)))))) (g0 rfl) rfl rfl rfl ?_
    refine o_nil ?_
    repeat (first | refine then_normal ?_ | refine then_exit ?_ | refine then_ret ?_ | refine block_normal ?_ | refine block_ret ?_ | refine block_exit ?_ | refine block_pass rfl ?_)
    refine c_ret ?_
    repeat (first | refine then_normal ?_ | refine then_exit ?_ | refine then_ret ?_ | refine block_normal ?_ | refine block_ret ?_ | refine block_exit ?_ | refine block_pass rfl ?_)
    obtain rfl := Option.some.inj h
    exact end0 rfl (.refl _)
  · refine o_skip rfl rfl rfl h1 rfl rfl ?_
    refine o_skip rfl rfl rfl h1 rfl rfl ?_
    refine o_pk (.t (.d (.lit (.bool false)))) (b := false) h1 (g0 rfl) rfl rfl rfl rfl rfl ?_
    refine o_s (.t (.d (.lit (.bool false)))) (g0 rfl) rfl rfl rfl ?_
    refine o_nil ?_
    repeat (first | refine then_normal ?_ | refine then_exit ?_ | refine then_ret ?_ | refine block_normal ?_ | refine block_ret ?_ | refine block_exit ?_ | refine block_pass rfl ?_)
    refine c_ret ?_
    repeat (first | refine then_normal ?_ | refine then_exit ?_ | refine then_ret ?_ | refine block_normal ?_ | refine block_ret ?_ | refine block_exit ?_ | refine block_pass rfl ?_)
    obtain rfl := Option.some.inj h
    exact end0 rfl (.refl _)

theorem fc_record_long (p0 : (List UInt8)) (p1 : Int) (r : Bool) (h : m_record_long p0 p1 = some r) : FC Tryd.prog 70 [.t (.d (.seq 1 (bytesD p0))), .t (.d (.lit (.int .i64 p1)))] [] (.t (.d (.lit (.bool r)))) := by
  refine fc_mk (rs := [.tmp 4]) (n := 14) Tryd.func70 rfl rfl (Nat.le_of_ble_eq_true rfl) rfl (pins := []) rfl (L := [(0, .t (.d (.seq 1 (bytesD p0)))), (1, .t (.d (.lit (.int .i64 p1))))]) rfl ?_
  refine c_seq ?_
  refine c_region ?_
  refine o_s (.t (.d (.lit (.bool false)))) (g0 rfl) rfl rfl rfl ?_
  refine o_nil ?_
  repeat (first | refine then_normal ?_ | refine then_exit ?_ | refine then_ret ?_ | refine block_normal ?_ | refine block_ret ?_ | refine block_exit ?_ | refine block_pass rfl ?_)
  refine c_seq ?_
  refine c_region ?_
  refine o_s (.t (.d (.seq 1 (bytesD p0)))) (g0 rfl) rfl rfl rfl ?_
  refine o_c (g0 rfl) rfl rfl rfl (lenE _ _) trivial ?_
  refine o_s (.t (.d (.lit (.bool (decide ((p0.length : Int) ≥ 1)))))) (g0 rfl) rfl rfl rfl ?_
  refine o_s (.t (.d (.lit (.bool (decide ((p0.length : Int) ≥ 1)))))) (g0 rfl) rfl rfl rfl ?_
  rcases bif_some h with ⟨h1, h⟩ | ⟨h1, h⟩
  · refine o_s (.t (.d (.seq 1 (bytesD p0)))) (gy rfl rfl rfl h1) rfl rfl rfl ?_
    refine o_c (gy rfl rfl rfl h1) rfl rfl rfl (lenE _ _) trivial ?_
    refine o_s (.t (.d (.lit (.int .i64 p1)))) (gy rfl rfl rfl h1) rfl rfl rfl ?_
    refine o_s (.t (.d (.lit (.bool (decide ((p0.length : Int) ≤ p1)))))) (gy rfl rfl rfl h1) rfl rfl rfl ?_
    refine o_pk (.t (.d (.lit (.bool (decide ((p0.length : Int) ≤ p1)))))) (b := true) h1 (g0 rfl) rfl rfl rfl rfl rfl ?_
    refine o_s (.t (.d (.lit (.bool (decide ((p0.length : Int) ≤ p1)))))) (g0 rfl) rfl rfl rfl ?_
    refine o_nil ?_
    repeat (first | refine then_normal ?_ | refine then_exit ?_ | refine then_ret ?_ | refine block_normal ?_ | refine block_ret ?_ | refine block_exit ?_ | refine block_pass rfl ?_)
    refine c_ret ?_
    repeat (first | refine then_normal ?_ | refine then_exit ?_ | refine then_ret ?_ | refine block_normal ?_ | refine block_ret ?_ | refine block_exit ?_ | refine block_pass rfl ?_)
    obtain rfl := Option.some.inj h
    exact end0 rfl (.refl _)
  · refine o_skip rfl rfl rfl h1 rfl rfl ?_
    refine o_skip rfl rfl rfl h1 rfl rfl ?_
    refine o_skip rfl rfl rfl h1 rfl rfl ?_
    refine o_skip rfl rfl rfl h1 rfl rfl ?_
    refine o_pk (.t (.d (.lit (.bool false)))) (b := false) h1 (g0 rfl) rfl rfl rfl rfl rfl ?_
    refine o_s (.t (.d (.lit (.bool false)))) (g0 rfl) rfl rfl rfl ?_
    refine o_nil ?_
    repeat (first | refine then_normal ?_ | refine then_exit ?_ | refine then_ret ?_ | refine block_normal ?_ | refine block_ret ?_ | refine block_exit ?_ | refine block_pass rfl ?_)
    refine c_ret ?_
    repeat (first | refine then_normal ?_ | refine then_exit ?_ | refine then_ret ?_ | refine block_normal ?_ | refine block_ret ?_ | refine block_exit ?_ | refine block_pass rfl ?_)
    obtain rfl := Option.some.inj h
    exact end0 rfl (.refl _)

theorem fc_record_chain (p0 : (List S_api_At)) (p1 : (List UInt8)) (p2 : Int) (r : Bool) (h : m_record_chain p0 p1 p2 = some r) : FC Tryd.prog 71 [.t (.d (.seq 2 (List.map cS_api_At p0))), .t (.d (.lit (.string ⟨⟨p1⟩⟩))), .t (.d (.lit (.int .i64 p2)))] [] (.t (.d (.lit (.bool r)))) := by
  refine fc_mk (rs := [.tmp 6]) (n := 43) Tryd.func71 rfl rfl (Nat.le_of_ble_eq_true rfl) rfl (pins := []) rfl (L := [(0, .t (.d (.seq 2 (List.map cS_api_At p0)))), (1, .t (.d (.lit (.string ⟨⟨p1⟩⟩)))), (2, .t (.d (.lit (.int .i64 p2))))]) rfl ?_
  refine c_seq ?_
  refine c_region ?_
  refine o_s (.t (.d (.lit (.bool false)))) (g0 rfl) rfl rfl rfl ?_
  refine o_nil ?_
  repeat (first | refine then_normal ?_ | refine then_exit ?_ | refine then_ret ?_ | refine block_normal ?_ | refine block_ret ?_ | refine block_exit ?_ | refine block_pass rfl ?_)
  refine c_seq ?_
  refine c_seq ?_
  refine c_region ?_
  refine o_s (.t (.d (.seq 2 (List.map cS_api_At p0)))) (g0 rfl) rfl rfl rfl ?_
  refine o_c (g0 rfl) rfl rfl rfl (lenE _ _) trivial ?_
  refine o_s (.t (.d (.lit (.bool (decide ((p0.length : Int) < 1)))))) (g0 rfl) rfl rfl rfl ?_
  refine o_s (.t (.d (.lit (.bool (decide ((p0.length : Int) < 1)))))) (g0 rfl) rfl rfl rfl ?_
  rcases bif_some h with ⟨h1, h⟩ | ⟨h1, h⟩
  · refine o_skip rfl rfl rfl h1 rfl rfl ?_
    refine o_skip rfl rfl rfl h1 rfl rfl ?_
    refine o_skip rfl rfl rfl h1 rfl rfl ?_
    refine o_pk (.t (.d (.lit (.bool true)))) (b := true) h1 (g0 rfl) rfl rfl rfl rfl rfl ?_
    refine o_s (.t (.d (.lit (.bool true)))) (g0 rfl) rfl rfl rfl ?_
    refine o_skip rfl rfl rfl rfl rfl rfl ?_
    refine o_skip rfl rfl rfl rfl rfl rfl ?_
    refine o_skip rfl rfl rfl rfl rfl rfl ?_
    refine o_skip rfl rfl rfl rfl rfl rfl ?_
    refine o_skip rfl rfl rfl rfl rfl rfl ?_
    refine o_skip rfl rfl rfl rfl rfl rfl ?_
    refine o_skip rfl rfl rfl rfl rfl rfl ?_
    refine o_pk (.t (.d (.lit (.bool true)))) (b := true) rfl (g0 rfl) rfl rfl rfl rfl rfl ?_
    refine o_nil ?_
    repeat (first | refine then_normal ?_ | refine then_exit ?_ | refine then_ret ?_ | refine block_normal ?_ | refine block_ret ?_ | refine block_exit ?_ | refine block_pass rfl ?_)
    refine c_t rfl rfl ?_
    refine c_seq ?_
    refine c_region ?_
    refine o_s (.t (.d (.lit (.bool false)))) (g0 rfl) rfl rfl rfl ?_
    refine o_nil ?_
    repeat (first | refine then_normal ?_ | refine then_exit ?_ | refine then_ret ?_ | refine block_normal ?_ | refine block_ret ?_ | refine block_exit ?_ | refine block_pass rfl ?_)
    refine c_ret ?_
    repeat (first | refine then_normal ?_ | refine then_exit ?_ | refine then_ret ?_ | refine block_normal ?_ | refine block_ret ?_ | refine block_exit ?_ | refine block_pass rfl ?_)
    obtain rfl := Option.some.inj h
    exact end0 rfl (.refl _)
  · refine o_s (.t (.d (.seq 2 (List.map cS_api_At p0)))) (gy rfl rfl rfl h1) rfl rfl rfl ?_
    refine o_c (gy rfl rfl rfl h1) rfl rfl rfl (lenE _ _) trivial ?_
    refine o_s (.t (.d (.lit (.bool (decide ((p0.length : Int) > 4)))))) (gy rfl rfl rfl h1) rfl rfl rfl ?_
    refine o_pk (.t (.d (.lit (.bool (decide ((p0.length : Int) > 4)))))) (b := false) h1 (g0 rfl) rfl rfl rfl rfl rfl ?_
    refine o_s (.t (.d (.lit (.bool (decide ((p0.length : Int) > 4)))))) (g0 rfl) rfl rfl rfl ?_
    rcases bif_some h with ⟨h2, h⟩ | ⟨h2, h⟩
    · refine o_skip rfl rfl rfl h2 rfl rfl ?_
      refine o_skip rfl rfl rfl h2 rfl rfl ?_
      refine o_skip rfl rfl rfl h2 rfl rfl ?_
      refine o_skip rfl rfl rfl h2 rfl rfl ?_
      refine o_skip rfl rfl rfl h2 rfl rfl ?_
      refine o_skip rfl rfl rfl h2 rfl rfl ?_
      refine o_skip rfl rfl rfl h2 rfl rfl ?_
      refine o_pk (.t (.d (.lit (.bool true)))) (b := true) h2 (g0 rfl) rfl rfl rfl rfl rfl ?_
      refine o_nil ?_
      repeat (first | refine then_normal ?_ | refine then_exit ?_ | refine then_ret ?_ | refine block_normal ?_ | refine block_ret ?_ | refine block_exit ?_ | refine block_pass rfl ?_)
      refine c_t rfl rfl ?_
      refine c_seq ?_
      refine c_region ?_
      refine o_s (.t (.d (.lit (.bool false)))) (g0 rfl) rfl rfl rfl ?_
      refine o_nil ?_
      repeat (first | refine then_normal ?_ | refine then_exit ?_ | refine then_ret ?_ | refine block_normal ?_ | refine block_ret ?_ | refine block_exit ?_ | refine block_pass rfl ?_)
      refine c_ret ?_
      repeat (first | refine then_normal ?_ | refine then_exit ?_ | refine then_ret ?_ | refine block_normal ?_ | refine block_ret ?_ | refine block_exit ?_ | refine block_pass rfl ?_)
      obtain rfl := Option.some.inj h
      exact end0 rfl (.refl _)
    · refine o_s (.t (.d (.seq 2 (List.map cS_api_At p0)))) (gy rfl rfl rfl h2) rfl rfl rfl ?_
      obtain ⟨x3, h4, h⟩ := bind_some h
      refine o_c (gy rfl rfl rfl h2) rfl rfl rfl (idxE h4) (idxC h4) ?_
      refine o_s (.t (.agg [.lit (.string ⟨⟨x3.Name⟩⟩), .lit (.int .i64 x3.Seq)])) (gy rfl rfl rfl h2) rfl rfl rfl ?_
      refine o_s (.t (.d (.lit (.string ⟨⟨p1⟩⟩)))) (gy rfl rfl rfl h2) rfl rfl rfl ?_
      refine o_s (.t (.d (.lit (.int .i64 p2)))) (gy rfl rfl rfl h2) rfl rfl rfl ?_
      refine o_s (.t (.agg [.lit (.string ⟨⟨p1⟩⟩), .lit (.int .i64 p2)])) (gy rfl rfl rfl h2) rfl rfl rfl ?_
      refine o_eqs true (b' := ((x3.Name == p1) && ((x3.Seq == p2) && true))) (andE (str_beqL _ _) (andE rfl rfl)) (gy rfl rfl rfl h2) rfl rfl rfl rfl (by kernel_rfl) ((!((x3.Name == p1) && ((x3.Seq == p2) && true)))) (by cases ((x3.Name == p1) && ((x3.Seq == p2) && true)) <;> rfl) ?_
      refine o_pk (.t (.d (.lit (.bool (!((x3.Name == p1) && ((x3.Seq == p2) && true))))))) (b := false) h2 (g0 rfl) rfl rfl rfl rfl rfl ?_
      refine o_nil ?_
      repeat (first | refine then_normal ?_ | refine then_exit ?_ | refine then_ret ?_ | refine block_normal ?_ | refine block_ret ?_ | refine block_exit ?_ | refine block_pass rfl ?_)
      rcases bif_some h with ⟨h5, h⟩ | ⟨h5, h⟩
      · refine c_t h5 rfl ?_
        refine c_seq ?_
        refine c_region ?_
        refine o_s (.t (.d (.lit (.bool false)))) (g0 rfl) rfl rfl rfl ?_
        refine o_nil ?_
        repeat (first | refine then_normal ?_ | refine then_exit ?_ | refine then_ret ?_ | refine block_normal ?_ | refine block_ret ?_ | refine block_exit ?_ | refine block_pass rfl ?_)
        refine c_ret ?_
        repeat (first | refine then_normal ?_ | refine then_exit ?_ | refine then_ret ?_ | refine block_normal ?_ | refine block_ret ?_ | refine block_exit ?_ | refine block_pass rfl ?_)
        obtain rfl := Option.some.inj h
        exact end0 rfl (.refl _)
      · refine c_f h5 rfl ?_
        refine c_skip ?_
        repeat (first | refine then_normal ?_ | refine then_exit ?_ | refine then_ret ?_ | refine block_normal ?_ | refine block_ret ?_ | refine block_exit ?_ | refine block_pass rfl ?_)
        refine c_seq ?_
        refine c_seq ?_
        refine c_region ?_
        refine o_s (.t (.d (.seq 2 (List.map cS_api_At p0)))) (g0 rfl) rfl rfl rfl ?_
        refine o_c (g0 rfl) rfl rfl rfl (lenE _ _) trivial ?_
        refine o_s (.t (.d (.lit (.int .i64 0)))) (g0 rfl) rfl rfl rfl ?_
        refine o_nil ?_
        repeat (first | refine then_normal ?_ | refine then_exit ?_ | refine then_ret ?_ | refine block_normal ?_ | refine block_ret ?_ | refine block_exit ?_ | refine block_pass rfl ?_)
        refine c_block ?_
        refine c_fuel (fun (z6 : Int) => [(26, .t (.d (.seq 2 (List.map cS_api_At p0)))), (27, .t (.d (.lit (.int .i64 (p0.length : Int))))), (28, .t (.d (.lit (.int .i64 z6))))]) (fun nl1 => (fun (z6 : Int) => m_record_chain_l1 p0 nl1 z6 = some r)) (p0.length + 1) 0 h ⟨(.refl _), ⟨(.refl _), ⟨(.refl _), trivial⟩⟩⟩ rfl ?_
        rintro nl1 z6 h
        cases nl1 with
        | zero => exact none_ne h
        | succ nl1 =>
          refine c_seq ?_
          refine c_region ?_
          refine o_s (.t (.d (.lit (.bool (decide (z6 < (p0.length : Int))))))) (g0 rfl) rfl rfl rfl ?_
          refine o_nil ?_
          repeat (first | refine then_normal ?_ | refine then_exit ?_ | refine then_ret ?_ | refine block_normal ?_ | refine block_ret ?_ | refine block_exit ?_ | refine block_pass rfl ?_)
          refine c_seq ?_
          rcases bif_some h with ⟨h7, h⟩ | ⟨h7, h⟩
          · refine c_t h7 rfl ?_
            refine c_skip ?_
            repeat (first | refine then_normal ?_ | refine then_exit ?_ | refine then_ret ?_ | refine block_normal ?_ | refine block_ret ?_ | refine block_exit ?_ | refine block_pass rfl ?_)
            refine c_seq ?_
            refine c_block ?_
            refine c_seq ?_
            refine c_region ?_
            obtain ⟨x8, h9, h⟩ := bind_some h
            refine o_c (g0 rfl) rfl rfl rfl (idxE h9) (idxC h9) ?_
            refine o_s (.t (.agg [.lit (.string ⟨⟨x8.Name⟩⟩), .lit (.int .i64 x8.Seq)])) (g0 rfl) rfl rfl rfl ?_
            refine o_s (.box [.d (.lit (.string ⟨⟨[]⟩⟩)), .d (.lit (.int .i64 0))]) (g0 rfl) rfl rfl rfl ?_
            refine o_st (.box [.d (.lit (.string ⟨⟨x8.Name⟩⟩)), .d (.lit (.int .i64 x8.Seq))]) (g0 rfl) rfl rfl rfl ?_
            refine o_nil ?_
            repeat (first | refine then_normal ?_ | refine then_exit ?_ | refine then_ret ?_ | refine block_normal ?_ | refine block_ret ?_ | refine block_exit ?_ | refine block_pass rfl ?_)
            refine c_seq ?_
            refine c_region ?_
            refine o_s (.ref 8 0) (g0 rfl) rfl rfl rfl ?_
            refine o_s (.t (.d (.lit (.string ⟨⟨x8.Name⟩⟩)))) (g0 rfl) rfl rfl rfl ?_
            obtain ⟨x10, h11, h⟩ := bind_some h
            refine o_ca (fc_tree_Name _ _ h11) (g0 rfl) rfl rfl rfl rfl rfl rfl rfl (.cons (.refl _) .nil) rfl rfl ?_
            refine o_s (.t (.d (.lit (.bool (!x10))))) (g0 rfl) rfl rfl rfl ?_
            refine o_s (.t (.d (.lit (.bool (!x10))))) (g0 rfl) rfl rfl rfl ?_
            rcases bif_some h with ⟨h12, h⟩ | ⟨h12, h⟩
            · refine o_skip rfl rfl rfl h12 rfl rfl ?_
              refine o_skip rfl rfl rfl h12 rfl rfl ?_
              refine o_skip rfl rfl rfl h12 rfl rfl ?_
              refine o_skip rfl rfl rfl h12 rfl rfl ?_
              refine o_pk (.t (.d (.lit (.bool true)))) (b := true) h12 (g0 rfl) rfl rfl rfl rfl rfl ?_
              refine o_nil ?_
              repeat (first | refine then_normal ?_ | refine then_exit ?_ | refine then_ret ?_ | refine block_normal ?_ | refine block_ret ?_ | refine block_exit ?_ | refine block_pass rfl ?_)
              refine c_t rfl rfl ?_
              refine c_seq ?_
              refine c_region ?_
              refine o_s (.t (.d (.lit (.bool false)))) (g0 rfl) rfl rfl rfl ?_
              refine o_nil ?_
              repeat (first | refine then_normal ?_ | refine then_exit ?_ | refine then_ret ?_ | refine block_normal ?_ | refine block_ret ?_ | refine block_exit ?_ | refine block_pass rfl ?_)
              refine c_ret ?_
              repeat (first | refine then_normal ?_ | refine then_exit ?_ | refine then_ret ?_ | refine block_normal ?_ | refine block_ret ?_ | refine block_exit ?_ | refine block_pass rfl ?_)
              obtain rfl := Option.some.inj h
              exact end0 rfl (.refl _)
            · refine o_s (.ref 8 1) (gy rfl rfl rfl h12) rfl rfl rfl ?_
              refine o_s (.t (.d (.lit (.int .i64 x8.Seq)))) (gy rfl rfl rfl h12) rfl rfl rfl ?_
              obtain ⟨x13, h14, h⟩ := bind_some h
              refine o_ca (fc_record_seq _ _ h14) (gy rfl rfl rfl h12) rfl rfl rfl rfl rfl rfl rfl (.cons (.refl _) .nil) rfl rfl ?_
              refine o_s (.t (.d (.lit (.bool (!x13))))) (gy rfl rfl rfl h12) rfl rfl rfl ?_
              refine o_pk (.t (.d (.lit (.bool (!x13))))) (b := false) h12 (g0 rfl) rfl rfl rfl rfl rfl ?_
              refine o_nil ?_
              repeat (first | refine then_normal ?_ | refine then_exit ?_ | refine then_ret ?_ | refine block_normal ?_ | refine block_ret ?_ | refine block_exit ?_ | refine block_pass rfl ?_)
              rcases bif_some h with ⟨h15, h⟩ | ⟨h15, h⟩
              · refine c_t h15 rfl ?_
                refine c_seq ?_
                refine c_region ?_
                refine o_s (.t (.d (.lit (.bool false)))) (g0 rfl) rfl rfl rfl ?_
                refine o_nil ?_
                repeat (first | refine then_normal ?_ | refine then_exit ?_ | refine then_ret ?_ | refine block_normal ?_ | refine block_ret ?_ | refine block_exit ?_ | refine block_pass rfl ?_)
                refine c_ret ?_
                repeat (first | refine then_normal ?_ | refine then_exit ?_ | refine then_ret ?_ | refine block_normal ?_ | refine block_ret ?_ | refine block_exit ?_ | refine block_pass rfl ?_)
                obtain rfl := Option.some.inj h
                exact end0 rfl (.refl _)
              · refine c_f h15 rfl ?_
                refine c_skip ?_
                repeat (first | refine then_normal ?_ | refine then_exit ?_ | refine then_ret ?_ | refine block_normal ?_ | refine block_ret ?_ | refine block_exit ?_ | refine block_pass rfl ?_)
                refine c_region ?_
                refine o_s (.t (.d (.lit (.int .i64 (wi (z6 + 1)))))) (g0 rfl) rfl rfl rfl ?_
                refine o_s (.t (.d (.lit (.int .i64 (wi (z6 + 1)))))) (g0 rfl) rfl rfl rfl ?_
                refine o_nil ?_
                repeat (first | refine then_normal ?_ | refine then_exit ?_ | refine then_ret ?_ | refine block_normal ?_ | refine block_ret ?_ | refine block_exit ?_ | refine block_pass rfl ?_)
                exact ⟨nl1, (wi (z6 + 1)), Nat.lt_succ_self nl1, h, ⟨(.refl _), ⟨(.refl _), ⟨(.refl _), trivial⟩⟩⟩, rfl⟩
          · refine c_f h7 rfl ?_
            refine c_exit ?_
            repeat (first | refine then_normal ?_ | refine then_exit ?_ | refine then_ret ?_ | refine block_normal ?_ | refine block_ret ?_ | refine block_exit ?_ | refine block_pass rfl ?_)
            refine c_seq ?_
            refine c_region ?_
            refine o_s (.t (.d (.lit (.bool true)))) (g0 rfl) rfl rfl rfl ?_
            refine o_nil ?_
            repeat (first | refine then_normal ?_ | refine then_exit ?_ | refine then_ret ?_ | refine block_normal ?_ | refine block_ret ?_ | refine block_exit ?_ | refine block_pass rfl ?_)
            refine c_ret ?_
            repeat (first | refine then_normal ?_ | refine then_exit ?_ | refine then_ret ?_ | refine block_normal ?_ | refine block_ret ?_ | refine block_exit ?_ | refine block_pass rfl ?_)
            obtain rfl := Option.some.inj h
            exact end0 rfl (.refl _)

theorem fc_record_mayEpoch (p0 : S_api_EpochRecord) (r : Bool) (h : m_record_mayEpoch p0 = some r) : FC Tryd.prog 57 [.t (.agg [.lit (.string ⟨⟨p0.Folder⟩⟩), .lit (.int .i64 p0.Number), .lit (.int .i64 p0.Place), .lit (.int .i64 p0.From), .lit (.int .i64 p0.Seq), .seq 1 (bytesD p0.Digest), .seq 2 (List.map cS_api_At p0.Chain), .seq 1 (bytesD p0.Public), .seq 1 (bytesD p0.Link), .lit (.string ⟨⟨p0.By⟩⟩)])] [] (.t (.d (.lit (.bool r)))) := by
  refine fc_mk (rs := [.tmp 2]) (n := 84) Tryd.func57 rfl rfl (Nat.le_of_ble_eq_true rfl) rfl (pins := []) rfl (L := [(0, .t (.agg [.lit (.string ⟨⟨p0.Folder⟩⟩), .lit (.int .i64 p0.Number), .lit (.int .i64 p0.Place), .lit (.int .i64 p0.From), .lit (.int .i64 p0.Seq), .seq 1 (bytesD p0.Digest), .seq 2 (List.map cS_api_At p0.Chain), .seq 1 (bytesD p0.Public), .seq 1 (bytesD p0.Link), .lit (.string ⟨⟨p0.By⟩⟩)]))]) rfl ?_
  refine c_seq ?_
  refine c_region ?_
  refine o_s (.box [.d (.lit (.string ⟨⟨p0.Folder⟩⟩)), .d (.lit (.int .i64 p0.Number)), .d (.lit (.int .i64 p0.Place)), .d (.lit (.int .i64 p0.From)), .d (.lit (.int .i64 p0.Seq)), .d (.seq 1 (bytesD p0.Digest)), .d (.seq 2 (List.map cS_api_At p0.Chain)), .d (.seq 1 (bytesD p0.Public)), .d (.seq 1 (bytesD p0.Link)), .d (.lit (.string ⟨⟨p0.By⟩⟩))]) (g0 rfl) rfl rfl rfl ?_
  refine o_s (.t (.d (.lit (.bool false)))) (g0 rfl) rfl rfl rfl ?_
  refine o_nil ?_
  repeat (first | refine then_normal ?_ | refine then_exit ?_ | refine then_ret ?_ | refine block_normal ?_ | refine block_ret ?_ | refine block_exit ?_ | refine block_pass rfl ?_)
  refine c_cut (fun (_ : Unit) => [(1, .box [.d (.lit (.string ⟨⟨p0.Folder⟩⟩)), .d (.lit (.int .i64 p0.Number)), .d (.lit (.int .i64 p0.Place)), .d (.lit (.int .i64 p0.From)), .d (.lit (.int .i64 p0.Seq)), .d (.seq 1 (bytesD p0.Digest)), .d (.seq 2 (List.map cS_api_At p0.Chain)), .d (.seq 1 (bytesD p0.Public)), .d (.seq 1 (bytesD p0.Link)), .d (.lit (.string ⟨⟨p0.By⟩⟩))])]) (fun (_ : Unit) => m_record_mayEpoch_j1 p0 = some r) ?_ ?_
  · refine c_block ?_
    refine c_cut (fun (y1 : Bool) => [(1, .box [.d (.lit (.string ⟨⟨p0.Folder⟩⟩)), .d (.lit (.int .i64 p0.Number)), .d (.lit (.int .i64 p0.Place)), .d (.lit (.int .i64 p0.From)), .d (.lit (.int .i64 p0.Seq)), .d (.seq 1 (bytesD p0.Digest)), .d (.seq 2 (List.map cS_api_At p0.Chain)), .d (.seq 1 (bytesD p0.Public)), .d (.seq 1 (bytesD p0.Link)), .d (.lit (.string ⟨⟨p0.By⟩⟩))]), (3, .t (.d (.lit (.bool y1))))]) (fun (y1 : Bool) => m_record_mayEpoch_j2 p0 y1 = some r) ?_ ?_
    · refine c_region ?_
      refine o_s (.ref 1 0) (g0 rfl) rfl rfl rfl ?_
      refine o_s (.t (.d (.lit (.string ⟨⟨p0.Folder⟩⟩)))) (g0 rfl) rfl rfl rfl ?_
      obtain ⟨x22, h23, h⟩ := bind_some h
      refine o_ca (fc_tree_Name _ _ h23) (g0 rfl) rfl rfl rfl rfl rfl rfl rfl (.cons (.refl _) .nil) rfl rfl ?_
      refine o_s (.t (.d (.lit (.bool (!x22))))) (g0 rfl) rfl rfl rfl ?_
      refine o_s (.t (.d (.lit (.bool (!x22))))) (g0 rfl) rfl rfl rfl ?_
      rcases bif_some h with ⟨h24, h⟩ | ⟨h24, h⟩
      · refine o_skip rfl rfl rfl h24 rfl rfl ?_
        refine o_skip rfl rfl rfl h24 rfl rfl ?_
        refine o_skip rfl rfl rfl h24 rfl rfl ?_
        refine o_skip rfl rfl rfl h24 rfl rfl ?_
        refine o_pk (.t (.d (.lit (.bool true)))) (b := true) h24 (g0 rfl) rfl rfl rfl rfl rfl ?_
        refine o_s (.t (.d (.lit (.bool true)))) (g0 rfl) rfl rfl rfl ?_
        refine o_skip rfl rfl rfl rfl rfl rfl ?_
        refine o_skip rfl rfl rfl rfl rfl rfl ?_
        refine o_skip rfl rfl rfl rfl rfl rfl ?_
        refine o_skip rfl rfl rfl rfl rfl rfl ?_
        refine o_pk (.t (.d (.lit (.bool true)))) (b := true) rfl (g0 rfl) rfl rfl rfl rfl rfl ?_
        refine o_s (.t (.d (.lit (.bool true)))) (g0 rfl) rfl rfl rfl ?_
        refine o_skip rfl rfl rfl rfl rfl rfl ?_
        refine o_skip rfl rfl rfl rfl rfl rfl ?_
        refine o_skip rfl rfl rfl rfl rfl rfl ?_
        refine o_skip rfl rfl rfl rfl rfl rfl ?_
        refine o_pk (.t (.d (.lit (.bool true)))) (b := true) rfl (g0 rfl) rfl rfl rfl rfl rfl ?_
        refine o_s (.t (.d (.lit (.bool true)))) (g0 rfl) rfl rfl rfl ?_
        refine o_nil ?_
        repeat (first | refine then_normal ?_ | refine then_exit ?_ | refine then_ret ?_ | refine block_normal ?_ | refine block_ret ?_ | refine block_exit ?_ | refine block_pass rfl ?_)
        exact ⟨true, h, ⟨(.refl _), ⟨(.refl _), trivial⟩⟩, rfl⟩
      · refine o_s (.ref 1 9) (gy rfl rfl rfl h24) rfl rfl rfl ?_
        refine o_s (.t (.d (.lit (.string ⟨⟨p0.By⟩⟩)))) (gy rfl rfl rfl h24) rfl rfl rfl ?_
        obtain ⟨x25, h26, h⟩ := bind_some h
        refine o_ca (fc_tree_Name _ _ h26) (gy rfl rfl rfl h24) rfl rfl rfl rfl rfl rfl rfl (.cons (.refl _) .nil) rfl rfl ?_
        refine o_s (.t (.d (.lit (.bool (!x25))))) (gy rfl rfl rfl h24) rfl rfl rfl ?_
        refine o_pk (.t (.d (.lit (.bool (!x25))))) (b := false) h24 (g0 rfl) rfl rfl rfl rfl rfl ?_
        refine o_s (.t (.d (.lit (.bool (!x25))))) (g0 rfl) rfl rfl rfl ?_
        rcases bif_some h with ⟨h27, h⟩ | ⟨h27, h⟩
        · refine o_skip rfl rfl rfl h27 rfl rfl ?_
          refine o_skip rfl rfl rfl h27 rfl rfl ?_
          refine o_skip rfl rfl rfl h27 rfl rfl ?_
          refine o_skip rfl rfl rfl h27 rfl rfl ?_
          refine o_pk (.t (.d (.lit (.bool true)))) (b := true) h27 (g0 rfl) rfl rfl rfl rfl rfl ?_
          refine o_s (.t (.d (.lit (.bool true)))) (g0 rfl) rfl rfl rfl ?_
          refine o_skip rfl rfl rfl rfl rfl rfl ?_
          refine o_skip rfl rfl rfl rfl rfl rfl ?_
          refine o_skip rfl rfl rfl rfl rfl rfl ?_
          refine o_skip rfl rfl rfl rfl rfl rfl ?_
          refine o_pk (.t (.d (.lit (.bool true)))) (b := true) rfl (g0 rfl) rfl rfl rfl rfl rfl ?_
          refine o_s (.t (.d (.lit (.bool true)))) (g0 rfl) rfl rfl rfl ?_
          refine o_nil ?_
          repeat (first | refine then_normal ?_ | refine then_exit ?_ | refine then_ret ?_ | refine block_normal ?_ | refine block_ret ?_ | refine block_exit ?_ | refine block_pass rfl ?_)
          exact ⟨true, h, ⟨(.refl _), ⟨(.refl _), trivial⟩⟩, rfl⟩
        · refine o_s (.ref 1 1) (gy rfl rfl rfl h27) rfl rfl rfl ?_
          refine o_s (.t (.d (.lit (.int .i64 p0.Number)))) (gy rfl rfl rfl h27) rfl rfl rfl ?_
          obtain ⟨x28, h29, h⟩ := bind_some h
          refine o_ca (fc_record_seq _ _ h29) (gy rfl rfl rfl h27) rfl rfl rfl rfl rfl rfl rfl (.cons (.refl _) .nil) rfl rfl ?_
          refine o_s (.t (.d (.lit (.bool (!x28))))) (gy rfl rfl rfl h27) rfl rfl rfl ?_
          refine o_pk (.t (.d (.lit (.bool (!x28))))) (b := false) h27 (g0 rfl) rfl rfl rfl rfl rfl ?_
          refine o_s (.t (.d (.lit (.bool (!x28))))) (g0 rfl) rfl rfl rfl ?_
          rcases bif_some h with ⟨h30, h⟩ | ⟨h30, h⟩
          · refine o_skip rfl rfl rfl h30 rfl rfl ?_
            refine o_skip rfl rfl rfl h30 rfl rfl ?_
            refine o_skip rfl rfl rfl h30 rfl rfl ?_
            refine o_skip rfl rfl rfl h30 rfl rfl ?_
            refine o_pk (.t (.d (.lit (.bool true)))) (b := true) h30 (g0 rfl) rfl rfl rfl rfl rfl ?_
            refine o_s (.t (.d (.lit (.bool true)))) (g0 rfl) rfl rfl rfl ?_
            refine o_nil ?_
            repeat (first | refine then_normal ?_ | refine then_exit ?_ | refine then_ret ?_ | refine block_normal ?_ | refine block_ret ?_ | refine block_exit ?_ | refine block_pass rfl ?_)
            exact ⟨true, h, ⟨(.refl _), ⟨(.refl _), trivial⟩⟩, rfl⟩
          · refine o_s (.ref 1 4) (gy rfl rfl rfl h30) rfl rfl rfl ?_
            refine o_s (.t (.d (.lit (.int .i64 p0.Seq)))) (gy rfl rfl rfl h30) rfl rfl rfl ?_
            obtain ⟨x31, h32, h⟩ := bind_some h
            refine o_ca (fc_record_seq _ _ h32) (gy rfl rfl rfl h30) rfl rfl rfl rfl rfl rfl rfl (.cons (.refl _) .nil) rfl rfl ?_
            refine o_s (.t (.d (.lit (.bool (!x31))))) (gy rfl rfl rfl h30) rfl rfl rfl ?_
            refine o_pk (.t (.d (.lit (.bool (!x31))))) (b := false) h30 (g0 rfl) rfl rfl rfl rfl rfl ?_
            refine o_s (.t (.d (.lit (.bool (!x31))))) (g0 rfl) rfl rfl rfl ?_
            refine o_nil ?_
            repeat (first | refine then_normal ?_ | refine then_exit ?_ | refine then_ret ?_ | refine block_normal ?_ | refine block_ret ?_ | refine block_exit ?_ | refine block_pass rfl ?_)
            exact ⟨(!x31), h, ⟨(.refl _), ⟨(.refl _), trivial⟩⟩, rfl⟩
    · rintro y1 h
      rcases bif_some h with ⟨h2, h⟩ | ⟨h2, h⟩
      · refine c_t h2 rfl ?_
        refine c_seq ?_
        refine c_region ?_
        refine o_s (.t (.d (.lit (.bool false)))) (g0 rfl) rfl rfl rfl ?_
        refine o_nil ?_
        repeat (first | refine then_normal ?_ | refine then_exit ?_ | refine then_ret ?_ | refine block_normal ?_ | refine block_ret ?_ | refine block_exit ?_ | refine block_pass rfl ?_)
        refine c_ret ?_
        repeat (first | refine then_normal ?_ | refine then_exit ?_ | refine then_ret ?_ | refine block_normal ?_ | refine block_ret ?_ | refine block_exit ?_ | refine block_pass rfl ?_)
        obtain rfl := Option.some.inj h
        exact end0 rfl (.refl _)
      · refine c_f h2 rfl ?_
        refine c_cut (fun (y3 : Bool) => [(1, .box [.d (.lit (.string ⟨⟨p0.Folder⟩⟩)), .d (.lit (.int .i64 p0.Number)), .d (.lit (.int .i64 p0.Place)), .d (.lit (.int .i64 p0.From)), .d (.lit (.int .i64 p0.Seq)), .d (.seq 1 (bytesD p0.Digest)), .d (.seq 2 (List.map cS_api_At p0.Chain)), .d (.seq 1 (bytesD p0.Public)), .d (.seq 1 (bytesD p0.Link)), .d (.lit (.string ⟨⟨p0.By⟩⟩))]), (26, .t (.d (.lit (.bool y3))))]) (fun (y3 : Bool) => m_record_mayEpoch_j3 p0 y3 = some r) ?_ ?_
        · refine c_region ?_
          refine o_s (.ref 1 2) (g0 rfl) rfl rfl rfl ?_
          refine o_s (.t (.d (.lit (.int .i64 p0.Place)))) (g0 rfl) rfl rfl rfl ?_
          refine o_s (.t (.d (.lit (.bool (decide (p0.Place < 1)))))) (g0 rfl) rfl rfl rfl ?_
          refine o_s (.t (.d (.lit (.bool (decide (p0.Place < 1)))))) (g0 rfl) rfl rfl rfl ?_
          rcases bif_some h with ⟨h19, h⟩ | ⟨h19, h⟩
          · refine o_skip rfl rfl rfl h19 rfl rfl ?_
            refine o_skip rfl rfl rfl h19 rfl rfl ?_
            refine o_skip rfl rfl rfl h19 rfl rfl ?_
            refine o_pk (.t (.d (.lit (.bool true)))) (b := true) h19 (g0 rfl) rfl rfl rfl rfl rfl ?_
            refine o_s (.t (.d (.lit (.bool true)))) (g0 rfl) rfl rfl rfl ?_
            refine o_skip rfl rfl rfl rfl rfl rfl ?_
            refine o_skip rfl rfl rfl rfl rfl rfl ?_
            refine o_skip rfl rfl rfl rfl rfl rfl ?_
            refine o_pk (.t (.d (.lit (.bool true)))) (b := true) rfl (g0 rfl) rfl rfl rfl rfl rfl ?_
            refine o_s (.t (.d (.lit (.bool true)))) (g0 rfl) rfl rfl rfl ?_
            refine o_skip rfl rfl rfl rfl rfl rfl ?_
            refine o_skip rfl rfl rfl rfl rfl rfl ?_
            refine o_skip rfl rfl rfl rfl rfl rfl ?_
            refine o_skip rfl rfl rfl rfl rfl rfl ?_
            refine o_skip rfl rfl rfl rfl rfl rfl ?_
            refine o_pk (.t (.d (.lit (.bool true)))) (b := true) rfl (g0 rfl) rfl rfl rfl rfl rfl ?_
            refine o_s (.t (.d (.lit (.bool true)))) (g0 rfl) rfl rfl rfl ?_
            refine o_nil ?_
            repeat (first | refine then_normal ?_ | refine then_exit ?_ | refine then_ret ?_ | refine block_normal ?_ | refine block_ret ?_ | refine block_exit ?_ | refine block_pass rfl ?_)
            exact ⟨true, h, ⟨(.refl _), ⟨(.refl _), trivial⟩⟩, rfl⟩
          · refine o_s (.ref 1 2) (gy rfl rfl rfl h19) rfl rfl rfl ?_
            refine o_s (.t (.d (.lit (.int .i64 p0.Place)))) (gy rfl rfl rfl h19) rfl rfl rfl ?_
            refine o_s (.t (.d (.lit (.bool (decide (p0.Place > 4)))))) (gy rfl rfl rfl h19) rfl rfl rfl ?_
            refine o_pk (.t (.d (.lit (.bool (decide (p0.Place > 4)))))) (b := false) h19 (g0 rfl) rfl rfl rfl rfl rfl ?_
            refine o_s (.t (.d (.lit (.bool (decide (p0.Place > 4)))))) (g0 rfl) rfl rfl rfl ?_
            rcases bif_some h with ⟨h20, h⟩ | ⟨h20, h⟩
            · refine o_skip rfl rfl rfl h20 rfl rfl ?_
              refine o_skip rfl rfl rfl h20 rfl rfl ?_
              refine o_skip rfl rfl rfl h20 rfl rfl ?_
              refine o_pk (.t (.d (.lit (.bool true)))) (b := true) h20 (g0 rfl) rfl rfl rfl rfl rfl ?_
              refine o_s (.t (.d (.lit (.bool true)))) (g0 rfl) rfl rfl rfl ?_
              refine o_skip rfl rfl rfl rfl rfl rfl ?_
              refine o_skip rfl rfl rfl rfl rfl rfl ?_
              refine o_skip rfl rfl rfl rfl rfl rfl ?_
              refine o_skip rfl rfl rfl rfl rfl rfl ?_
              refine o_skip rfl rfl rfl rfl rfl rfl ?_
              refine o_pk (.t (.d (.lit (.bool true)))) (b := true) rfl (g0 rfl) rfl rfl rfl rfl rfl ?_
              refine o_s (.t (.d (.lit (.bool true)))) (g0 rfl) rfl rfl rfl ?_
              refine o_nil ?_
              repeat (first | refine then_normal ?_ | refine then_exit ?_ | refine then_ret ?_ | refine block_normal ?_ | refine block_ret ?_ | refine block_exit ?_ | refine block_pass rfl ?_)
              exact ⟨true, h, ⟨(.refl _), ⟨(.refl _), trivial⟩⟩, rfl⟩
            · refine o_s (.ref 1 3) (gy rfl rfl rfl h20) rfl rfl rfl ?_
              refine o_s (.t (.d (.lit (.int .i64 p0.From)))) (gy rfl rfl rfl h20) rfl rfl rfl ?_
              refine o_s (.t (.d (.lit (.bool (decide (p0.From < 1)))))) (gy rfl rfl rfl h20) rfl rfl rfl ?_
              refine o_pk (.t (.d (.lit (.bool (decide (p0.From < 1)))))) (b := false) h20 (g0 rfl) rfl rfl rfl rfl rfl ?_
              refine o_s (.t (.d (.lit (.bool (decide (p0.From < 1)))))) (g0 rfl) rfl rfl rfl ?_
              rcases bif_some h with ⟨h21, h⟩ | ⟨h21, h⟩
              · refine o_skip rfl rfl rfl h21 rfl rfl ?_
                refine o_skip rfl rfl rfl h21 rfl rfl ?_
                refine o_skip rfl rfl rfl h21 rfl rfl ?_
                refine o_skip rfl rfl rfl h21 rfl rfl ?_
                refine o_skip rfl rfl rfl h21 rfl rfl ?_
                refine o_pk (.t (.d (.lit (.bool true)))) (b := true) h21 (g0 rfl) rfl rfl rfl rfl rfl ?_
                refine o_s (.t (.d (.lit (.bool true)))) (g0 rfl) rfl rfl rfl ?_
                refine o_nil ?_
                repeat (first | refine then_normal ?_ | refine then_exit ?_ | refine then_ret ?_ | refine block_normal ?_ | refine block_ret ?_ | refine block_exit ?_ | refine block_pass rfl ?_)
                exact ⟨true, h, ⟨(.refl _), ⟨(.refl _), trivial⟩⟩, rfl⟩
              · refine o_s (.ref 1 3) (gy rfl rfl rfl h21) rfl rfl rfl ?_
                refine o_s (.t (.d (.lit (.int .i64 p0.From)))) (gy rfl rfl rfl h21) rfl rfl rfl ?_
                refine o_s (.ref 1 4) (gy rfl rfl rfl h21) rfl rfl rfl ?_
                refine o_s (.t (.d (.lit (.int .i64 p0.Seq)))) (gy rfl rfl rfl h21) rfl rfl rfl ?_
                refine o_s (.t (.d (.lit (.bool (decide (p0.From > p0.Seq)))))) (gy rfl rfl rfl h21) rfl rfl rfl ?_
                refine o_pk (.t (.d (.lit (.bool (decide (p0.From > p0.Seq)))))) (b := false) h21 (g0 rfl) rfl rfl rfl rfl rfl ?_
                refine o_s (.t (.d (.lit (.bool (decide (p0.From > p0.Seq)))))) (g0 rfl) rfl rfl rfl ?_
                refine o_nil ?_
                repeat (first | refine then_normal ?_ | refine then_exit ?_ | refine then_ret ?_ | refine block_normal ?_ | refine block_ret ?_ | refine block_exit ?_ | refine block_pass rfl ?_)
                exact ⟨(decide (p0.From > p0.Seq)), h, ⟨(.refl _), ⟨(.refl _), trivial⟩⟩, rfl⟩
        · rintro y3 h
          rcases bif_some h with ⟨h4, h⟩ | ⟨h4, h⟩
          · refine c_t h4 rfl ?_
            refine c_seq ?_
            refine c_region ?_
            refine o_s (.t (.d (.lit (.bool false)))) (g0 rfl) rfl rfl rfl ?_
            refine o_nil ?_
            repeat (first | refine then_normal ?_ | refine then_exit ?_ | refine then_ret ?_ | refine block_normal ?_ | refine block_ret ?_ | refine block_exit ?_ | refine block_pass rfl ?_)
            refine c_ret ?_
            repeat (first | refine then_normal ?_ | refine then_exit ?_ | refine then_ret ?_ | refine block_normal ?_ | refine block_ret ?_ | refine block_exit ?_ | refine block_pass rfl ?_)
            obtain rfl := Option.some.inj h
            exact end0 rfl (.refl _)
          · refine c_f h4 rfl ?_
            refine c_cut (fun (y5 : Bool) => [(1, .box [.d (.lit (.string ⟨⟨p0.Folder⟩⟩)), .d (.lit (.int .i64 p0.Number)), .d (.lit (.int .i64 p0.Place)), .d (.lit (.int .i64 p0.From)), .d (.lit (.int .i64 p0.Seq)), .d (.seq 1 (bytesD p0.Digest)), .d (.seq 2 (List.map cS_api_At p0.Chain)), .d (.seq 1 (bytesD p0.Public)), .d (.seq 1 (bytesD p0.Link)), .d (.lit (.string ⟨⟨p0.By⟩⟩))]), (47, .t (.d (.lit (.bool y5))))]) (fun (y5 : Bool) => m_record_mayEpoch_j4 p0 y5 = some r) ?_ ?_
            · refine c_region ?_
              refine o_s (.ref 1 5) (g0 rfl) rfl rfl rfl ?_
              refine o_s (.t (.d (.seq 1 (bytesD p0.Digest)))) (g0 rfl) rfl rfl rfl ?_
              obtain ⟨x11, h12, h⟩ := bind_some h
              refine o_ca (fc_record_long _ _ _ h12) (g0 rfl) rfl rfl rfl rfl rfl rfl rfl (.cons (.refl _) (.cons (.refl _) .nil)) rfl rfl ?_
              refine o_s (.t (.d (.lit (.bool (!x11))))) (g0 rfl) rfl rfl rfl ?_
              refine o_s (.t (.d (.lit (.bool (!x11))))) (g0 rfl) rfl rfl rfl ?_
              rcases bif_some h with ⟨h13, h⟩ | ⟨h13, h⟩
              · refine o_skip rfl rfl rfl h13 rfl rfl ?_
                refine o_skip rfl rfl rfl h13 rfl rfl ?_
                refine o_skip rfl rfl rfl h13 rfl rfl ?_
                refine o_skip rfl rfl rfl h13 rfl rfl ?_
                refine o_pk (.t (.d (.lit (.bool true)))) (b := true) h13 (g0 rfl) rfl rfl rfl rfl rfl ?_
                refine o_s (.t (.d (.lit (.bool true)))) (g0 rfl) rfl rfl rfl ?_
                refine o_skip rfl rfl rfl rfl rfl rfl ?_
                refine o_skip rfl rfl rfl rfl rfl rfl ?_
                refine o_skip rfl rfl rfl rfl rfl rfl ?_
                refine o_skip rfl rfl rfl rfl rfl rfl ?_
                refine o_skip rfl rfl rfl rfl rfl rfl ?_
                refine o_skip rfl rfl rfl rfl rfl rfl ?_
                refine o_skip rfl rfl rfl rfl rfl rfl ?_
                refine o_skip rfl rfl rfl rfl rfl rfl ?_
                refine o_pk (.t (.d (.lit (.bool true)))) (b := true) rfl (g0 rfl) rfl rfl rfl rfl rfl ?_
                refine o_s (.t (.d (.lit (.bool true)))) (g0 rfl) rfl rfl rfl ?_
                refine o_nil ?_
                repeat (first | refine then_normal ?_ | refine then_exit ?_ | refine then_ret ?_ | refine block_normal ?_ | refine block_ret ?_ | refine block_exit ?_ | refine block_pass rfl ?_)
                exact ⟨true, h, ⟨(.refl _), ⟨(.refl _), trivial⟩⟩, rfl⟩
              · refine o_s (.ref 1 7) (gy rfl rfl rfl h13) rfl rfl rfl ?_
                refine o_s (.t (.d (.seq 1 (bytesD p0.Public)))) (gy rfl rfl rfl h13) rfl rfl rfl ?_
                obtain ⟨x14, h15, h⟩ := bind_some h
                refine o_ca (fc_record_long _ _ _ h15) (gy rfl rfl rfl h13) rfl rfl rfl rfl rfl rfl rfl (.cons (.refl _) (.cons (.refl _) .nil)) rfl rfl ?_
                refine o_s (.t (.d (.lit (.bool (!x14))))) (gy rfl rfl rfl h13) rfl rfl rfl ?_
                refine o_pk (.t (.d (.lit (.bool (!x14))))) (b := false) h13 (g0 rfl) rfl rfl rfl rfl rfl ?_
                refine o_s (.t (.d (.lit (.bool (!x14))))) (g0 rfl) rfl rfl rfl ?_
                rcases bif_some h with ⟨h16, h⟩ | ⟨h16, h⟩
                · refine o_skip rfl rfl rfl h16 rfl rfl ?_
                  refine o_skip rfl rfl rfl h16 rfl rfl ?_
                  refine o_skip rfl rfl rfl h16 rfl rfl ?_
                  refine o_skip rfl rfl rfl h16 rfl rfl ?_
                  refine o_skip rfl rfl rfl h16 rfl rfl ?_
                  refine o_skip rfl rfl rfl h16 rfl rfl ?_
                  refine o_skip rfl rfl rfl h16 rfl rfl ?_
                  refine o_skip rfl rfl rfl h16 rfl rfl ?_
                  refine o_pk (.t (.d (.lit (.bool true)))) (b := true) h16 (g0 rfl) rfl rfl rfl rfl rfl ?_
                  refine o_s (.t (.d (.lit (.bool true)))) (g0 rfl) rfl rfl rfl ?_
                  refine o_nil ?_
                  repeat (first | refine then_normal ?_ | refine then_exit ?_ | refine then_ret ?_ | refine block_normal ?_ | refine block_ret ?_ | refine block_exit ?_ | refine block_pass rfl ?_)
                  exact ⟨true, h, ⟨(.refl _), ⟨(.refl _), trivial⟩⟩, rfl⟩
                · refine o_s (.ref 1 6) (gy rfl rfl rfl h16) rfl rfl rfl ?_
                  refine o_s (.t (.d (.seq 2 (List.map cS_api_At p0.Chain)))) (gy rfl rfl rfl h16) rfl rfl rfl ?_
                  refine o_s (.ref 1 0) (gy rfl rfl rfl h16) rfl rfl rfl ?_
                  refine o_s (.t (.d (.lit (.string ⟨⟨p0.Folder⟩⟩)))) (gy rfl rfl rfl h16) rfl rfl rfl ?_
                  refine o_s (.ref 1 4) (gy rfl rfl rfl h16) rfl rfl rfl ?_
                  refine o_s (.t (.d (.lit (.int .i64 p0.Seq)))) (gy rfl rfl rfl h16) rfl rfl rfl ?_
                  obtain ⟨x17, h18, h⟩ := bind_some h
                  refine o_ca (fc_record_chain _ _ _ _ h18) (gy rfl rfl rfl h16) rfl rfl rfl rfl rfl rfl rfl (.cons (.refl _) (.cons (.refl _) (.cons (.refl _) .nil))) rfl rfl ?_
                  refine o_s (.t (.d (.lit (.bool (!x17))))) (gy rfl rfl rfl h16) rfl rfl rfl ?_
                  refine o_pk (.t (.d (.lit (.bool (!x17))))) (b := false) h16 (g0 rfl) rfl rfl rfl rfl rfl ?_
                  refine o_s (.t (.d (.lit (.bool (!x17))))) (g0 rfl) rfl rfl rfl ?_
                  refine o_nil ?_
                  repeat (first | refine then_normal ?_ | refine then_exit ?_ | refine then_ret ?_ | refine block_normal ?_ | refine block_ret ?_ | refine block_exit ?_ | refine block_pass rfl ?_)
                  exact ⟨(!x17), h, ⟨(.refl _), ⟨(.refl _), trivial⟩⟩, rfl⟩
            · rintro y5 h
              rcases bif_some h with ⟨h6, h⟩ | ⟨h6, h⟩
              · refine c_t h6 rfl ?_
                refine c_seq ?_
                refine c_region ?_
                refine o_s (.t (.d (.lit (.bool false)))) (g0 rfl) rfl rfl rfl ?_
                refine o_nil ?_
                repeat (first | refine then_normal ?_ | refine then_exit ?_ | refine then_ret ?_ | refine block_normal ?_ | refine block_ret ?_ | refine block_exit ?_ | refine block_pass rfl ?_)
                refine c_ret ?_
                repeat (first | refine then_normal ?_ | refine then_exit ?_ | refine then_ret ?_ | refine block_normal ?_ | refine block_ret ?_ | refine block_exit ?_ | refine block_pass rfl ?_)
                obtain rfl := Option.some.inj h
                exact end0 rfl (.refl _)
              · refine c_f h6 rfl ?_
                refine c_seq ?_
                refine c_region ?_
                refine o_s (.ref 1 2) (g0 rfl) rfl rfl rfl ?_
                refine o_s (.t (.d (.lit (.int .i64 p0.Place)))) (g0 rfl) rfl rfl rfl ?_
                refine o_s (.t (.d (.lit (.bool (p0.Place == 1))))) (g0 rfl) rfl rfl rfl ?_
                refine o_s (.t (.d (.lit (.bool (p0.Place == 1))))) (g0 rfl) rfl rfl rfl ?_
                rcases bif_some h with ⟨h7, h⟩ | ⟨h7, h⟩
                · refine o_s (.ref 1 1) (gy rfl rfl rfl h7) rfl rfl rfl ?_
                  refine o_s (.t (.d (.lit (.int .i64 p0.Number)))) (gy rfl rfl rfl h7) rfl rfl rfl ?_
                  refine o_s (.t (.d (.lit (.bool (decide (p0.Number > 1)))))) (gy rfl rfl rfl h7) rfl rfl rfl ?_
                  refine o_pk (.t (.d (.lit (.bool (decide (p0.Number > 1)))))) (b := true) h7 (g0 rfl) rfl rfl rfl rfl rfl ?_
                  refine o_s (.t (.d (.lit (.bool (decide (p0.Number > 1)))))) (g0 rfl) rfl rfl rfl ?_
                  refine o_nil ?_
                  repeat (first | refine then_normal ?_ | refine then_exit ?_ | refine then_ret ?_ | refine block_normal ?_ | refine block_ret ?_ | refine block_exit ?_ | refine block_pass rfl ?_)
                  rcases bif_some h with ⟨h8, h⟩ | ⟨h8, h⟩
                  · refine c_t h8 rfl ?_
                    refine c_seq ?_
                    refine c_region ?_
                    refine o_s (.ref 1 8) (g0 rfl) rfl rfl rfl ?_
                    refine o_s (.t (.d (.seq 1 (bytesD p0.Link)))) (g0 rfl) rfl rfl rfl ?_
                    obtain ⟨x9, h10, h⟩ := bind_some h
                    refine o_ca (fc_record_long _ _ _ h10) (g0 rfl) rfl rfl rfl rfl rfl rfl rfl (.cons (.refl _) (.cons (.refl _) .nil)) rfl rfl ?_
                    refine o_s (.t (.d (.lit (.bool x9)))) (g0 rfl) rfl rfl rfl ?_
                    refine o_nil ?_
                    repeat (first | refine then_normal ?_ | refine then_exit ?_ | refine then_ret ?_ | refine block_normal ?_ | refine block_ret ?_ | refine block_exit ?_ | refine block_pass rfl ?_)
                    refine c_ret ?_
                    repeat (first | refine then_normal ?_ | refine then_exit ?_ | refine then_ret ?_ | refine block_normal ?_ | refine block_ret ?_ | refine block_exit ?_ | refine block_pass rfl ?_)
                    obtain rfl := Option.some.inj h
                    exact end0 rfl (.refl _)
                  · refine c_f h8 rfl ?_
                    refine c_skip ?_
                    repeat (first | refine then_normal ?_ | refine then_exit ?_ | refine then_ret ?_ | refine block_normal ?_ | refine block_ret ?_ | refine block_exit ?_ | refine block_pass rfl ?_)
                    exact ⟨(), h, ⟨(.refl _), trivial⟩, rfl⟩
                · refine o_skip rfl rfl rfl h7 rfl rfl ?_
                  refine o_skip rfl rfl rfl h7 rfl rfl ?_
                  refine o_skip rfl rfl rfl h7 rfl rfl ?_
                  refine o_pk (.t (.d (.lit (.bool false)))) (b := false) h7 (g0 rfl) rfl rfl rfl rfl rfl ?_
                  refine o_s (.t (.d (.lit (.bool false)))) (g0 rfl) rfl rfl rfl ?_
                  refine o_nil ?_
                  repeat (first | refine then_normal ?_ | refine then_exit ?_ | refine then_ret ?_ | refine block_normal ?_ | refine block_ret ?_ | refine block_exit ?_ | refine block_pass rfl ?_)
                  refine c_f rfl rfl ?_
                  refine c_skip ?_
                  repeat (first | refine then_normal ?_ | refine then_exit ?_ | refine then_ret ?_ | refine block_normal ?_ | refine block_ret ?_ | refine block_exit ?_ | refine block_pass rfl ?_)
                  exact ⟨(), h, ⟨(.refl _), trivial⟩, rfl⟩
  · rintro ⟨⟩ h
    refine c_seq ?_
    refine c_region ?_
    refine o_s (.ref 1 8) (g0 rfl) rfl rfl rfl ?_
    refine o_s (.t (.d (.seq 1 (bytesD p0.Link)))) (g0 rfl) rfl rfl rfl ?_
    refine o_c (g0 rfl) rfl rfl rfl (lenE _ _) trivial ?_
    refine o_s (.t (.d (.lit (.bool ((p0.Link.length : Int) == 0))))) (g0 rfl) rfl rfl rfl ?_
    refine o_s (.t (.d (.lit (.bool ((p0.Link.length : Int) == 0))))) (g0 rfl) rfl rfl rfl ?_
    refine o_nil ?_
    repeat (first | refine then_normal ?_ | refine then_exit ?_ | refine then_ret ?_ | refine block_normal ?_ | refine block_ret ?_ | refine block_exit ?_ | refine block_pass rfl ?_)
    refine c_ret ?_
    repeat (first | refine then_normal ?_ | refine then_exit ?_ | refine then_ret ?_ | refine block_normal ?_ | refine block_ret ?_ | refine block_exit ?_ | refine block_pass rfl ?_)
    obtain rfl := Option.some.inj h
    exact end0 rfl (.refl _)

theorem fc_record_EpochText (p0 : S_api_EpochRecord) (r : ((List UInt8) × Int)) (h : m_record_EpochText p0 = some r) : FC Tryd.prog 26 [.t (.agg [.lit (.string ⟨⟨p0.Folder⟩⟩), .lit (.int .i64 p0.Number), .lit (.int .i64 p0.Place), .lit (.int .i64 p0.From), .lit (.int .i64 p0.Seq), .seq 1 (bytesD p0.Digest), .seq 2 (List.map cS_api_At p0.Chain), .seq 1 (bytesD p0.Public), .seq 1 (bytesD p0.Link), .lit (.string ⟨⟨p0.By⟩⟩)])] [] (.tup [.d (.seq 1 (bytesD r.1)), .d (.lit (.int .i64 r.2))]) := by
  refine fc_mk (rs := [.tmp 2, .tmp 3]) (n := 66) Tryd.func26 rfl rfl (Nat.le_of_ble_eq_true rfl) rfl (pins := []) rfl (L := [(0, .t (.agg [.lit (.string ⟨⟨p0.Folder⟩⟩), .lit (.int .i64 p0.Number), .lit (.int .i64 p0.Place), .lit (.int .i64 p0.From), .lit (.int .i64 p0.Seq), .seq 1 (bytesD p0.Digest), .seq 2 (List.map cS_api_At p0.Chain), .seq 1 (bytesD p0.Public), .seq 1 (bytesD p0.Link), .lit (.string ⟨⟨p0.By⟩⟩)]))]) rfl ?_
  refine c_seq ?_
  refine c_region ?_
  refine o_s (.box [.d (.lit (.string ⟨⟨p0.Folder⟩⟩)), .d (.lit (.int .i64 p0.Number)), .d (.lit (.int .i64 p0.Place)), .d (.lit (.int .i64 p0.From)), .d (.lit (.int .i64 p0.Seq)), .d (.seq 1 (bytesD p0.Digest)), .d (.seq 2 (List.map cS_api_At p0.Chain)), .d (.seq 1 (bytesD p0.Public)), .d (.seq 1 (bytesD p0.Link)), .d (.lit (.string ⟨⟨p0.By⟩⟩))]) (g0 rfl) rfl rfl rfl ?_
  refine o_s (.t (.d (.lit (.slice none 0 0)))) (g0 rfl) rfl rfl rfl ?_
  refine o_s (.t (.d (.lit (.int .i64 0)))) (g0 rfl) rfl rfl rfl ?_
  refine o_nil ?_
  repeat (first | refine then_normal ?_ | refine then_exit ?_ | refine then_ret ?_ | refine block_normal ?_ | refine block_ret ?_ | refine block_exit ?_ | refine block_pass rfl ?_)
  refine c_seq ?_
  refine c_seq ?_
  refine c_region ?_
  refine o_s (.t (.agg [.lit (.string ⟨⟨p0.Folder⟩⟩), .lit (.int .i64 p0.Number), .lit (.int .i64 p0.Place), .lit (.int .i64 p0.From), .lit (.int .i64 p0.Seq), .seq 1 (bytesD p0.Digest), .seq 2 (List.map cS_api_At p0.Chain), .seq 1 (bytesD p0.Public), .seq 1 (bytesD p0.Link), .lit (.string ⟨⟨p0.By⟩⟩)])) (g0 rfl) rfl rfl rfl ?_
  obtain ⟨x1, h2, h⟩ := bind_some h
  refine o_ca (fc_record_mayEpoch _ _ h2) (g0 rfl) rfl rfl rfl rfl rfl rfl rfl (.cons (.refl _) .nil) rfl rfl ?_
  refine o_s (.t (.d (.lit (.bool (!x1))))) (g0 rfl) rfl rfl rfl ?_
  refine o_nil ?_
  repeat (first | refine then_normal ?_ | refine then_exit ?_ | refine then_ret ?_ | refine block_normal ?_ | refine block_ret ?_ | refine block_exit ?_ | refine block_pass rfl ?_)
  rcases bif_some h with ⟨h3, h⟩ | ⟨h3, h⟩
  · refine c_t h3 rfl ?_
    refine c_seq ?_
    refine c_region ?_
    refine o_s (.t (.d (.lit (.slice none 0 0)))) (g0 rfl) rfl rfl rfl ?_
    refine o_s (.t (.d (.lit (.int .i64 2)))) (g0 rfl) rfl rfl rfl ?_
    refine o_nil ?_
    repeat (first | refine then_normal ?_ | refine then_exit ?_ | refine then_ret ?_ | refine block_normal ?_ | refine block_ret ?_ | refine block_exit ?_ | refine block_pass rfl ?_)
    refine c_ret ?_
    repeat (first | refine then_normal ?_ | refine then_exit ?_ | refine then_ret ?_ | refine block_normal ?_ | refine block_ret ?_ | refine block_exit ?_ | refine block_pass rfl ?_)
    obtain rfl := Option.some.inj h
    exact end0 rfl (.tup (.cons (.d (.nil _)) (.cons (.refl _) .nil)))
  · refine c_f h3 rfl ?_
    refine c_skip ?_
    repeat (first | refine then_normal ?_ | refine then_exit ?_ | refine then_ret ?_ | refine block_normal ?_ | refine block_ret ?_ | refine block_exit ?_ | refine block_pass rfl ?_)
    refine c_seq ?_
    refine c_region ?_
    obtain ⟨x4, h5, h⟩ := bind_some h
    refine o_ca (fc_codec_Of_n0 _ h5) (g0 rfl) rfl rfl rfl rfl rfl rfl rfl (.cons (.refl _) .nil) rfl rfl ?_
    refine o_s (.box [.d (.lit (.int .i64 0)), .d (.lit (.int .i64 0)), .d (.lit (.slice none 0 0)), .d (.lit (.slice none 0 0))]) (g0 rfl) rfl rfl rfl ?_
    refine o_st (.box [.d (.lit (.int .i64 x4.k)), .d (.lit (.int .i64 x4.n)), .d (.lit (.slice none 0 0)), .d (.lit (.slice none 0 0))]) (g0 rfl) rfl rfl rfl ?_
    refine o_nil ?_
    repeat (first | refine then_normal ?_ | refine then_exit ?_ | refine then_ret ?_ | refine block_normal ?_ | refine block_ret ?_ | refine block_exit ?_ | refine block_pass rfl ?_)
    refine c_cut (fun (y6 : (List V)) => [(1, .box [.d (.lit (.string ⟨⟨p0.Folder⟩⟩)), .d (.lit (.int .i64 p0.Number)), .d (.lit (.int .i64 p0.Place)), .d (.lit (.int .i64 p0.From)), .d (.lit (.int .i64 p0.Seq)), .d (.seq 1 (bytesD p0.Digest)), .d (.seq 2 (List.map cS_api_At p0.Chain)), .d (.seq 1 (bytesD p0.Public)), .d (.seq 1 (bytesD p0.Link)), .d (.lit (.string ⟨⟨p0.By⟩⟩))]), (4, .box [.d (.lit (.int .i64 x4.k)), .d (.lit (.int .i64 x4.n)), .d (.lit (.slice none 0 0)), .own 79 4 (List.map V.cells y6)])]) (fun (y6 : (List V)) => m_record_EpochText_j1 p0 x4 y6 = some r) ?_ ?_
    · refine c_seq ?_
      refine c_region ?_
      refine o_s (.ref 1 6) (g0 rfl) rfl rfl rfl ?_
      refine o_s (.t (.d (.seq 2 (List.map cS_api_At p0.Chain)))) (g0 rfl) rfl rfl rfl ?_
      refine o_c (g0 rfl) rfl rfl rfl (lenE _ _) trivial ?_
      refine o_s (.t (.d (.lit (.int .i64 0)))) (g0 rfl) rfl rfl rfl ?_
      refine o_nil ?_
      repeat (first | refine then_normal ?_ | refine then_exit ?_ | refine then_ret ?_ | refine block_normal ?_ | refine block_ret ?_ | refine block_exit ?_ | refine block_pass rfl ?_)
      refine c_block ?_
      refine c_fuel (fun (q : (List V) × Int) => [(1, .box [.d (.lit (.string ⟨⟨p0.Folder⟩⟩)), .d (.lit (.int .i64 p0.Number)), .d (.lit (.int .i64 p0.Place)), .d (.lit (.int .i64 p0.From)), .d (.lit (.int .i64 p0.Seq)), .d (.seq 1 (bytesD p0.Digest)), .d (.seq 2 (List.map cS_api_At p0.Chain)), .d (.seq 1 (bytesD p0.Public)), .d (.seq 1 (bytesD p0.Link)), .d (.lit (.string ⟨⟨p0.By⟩⟩))]), (4, .box [.d (.lit (.int .i64 x4.k)), .d (.lit (.int .i64 x4.n)), .d (.lit (.slice none 0 0)), .own 79 4 (List.map V.cells q.1)]), (12, .t (.d (.seq 2 (List.map cS_api_At p0.Chain)))), (13, .t (.d (.lit (.int .i64 (p0.Chain.length : Int))))), (14, .t (.d (.lit (.int .i64 q.2))))]) (fun nl2 => (fun (q : (List V) × Int) => m_record_EpochText_l2 p0 x4 nl2 q.1 q.2 = some r)) (p0.Chain.length + 1) ([], 0) h ⟨(.refl _), ⟨(.box (.cons (.refl _) (.cons (.refl _) (.cons (.refl _) (.cons (.nilOwn _ _) .nil)))) rfl), ⟨(.refl _), ⟨(.refl _), ⟨(.refl _), trivial⟩⟩⟩⟩⟩ rfl ?_
      rintro nl2 ⟨z31, z32⟩ h
      cases nl2 with
      | zero => exact none_ne h
      | succ nl2 =>
        refine c_seq ?_
        refine c_region ?_
        refine o_s (.t (.d (.lit (.bool (decide (z32 < (p0.Chain.length : Int))))))) (g0 rfl) rfl rfl rfl ?_
        refine o_nil ?_
        repeat (first | refine then_normal ?_ | refine then_exit ?_ | refine then_ret ?_ | refine block_normal ?_ | refine block_ret ?_ | refine block_exit ?_ | refine block_pass rfl ?_)
        refine c_seq ?_
        rcases bif_some h with ⟨h33, h⟩ | ⟨h33, h⟩
        · refine c_t h33 rfl ?_
          refine c_skip ?_
          repeat (first | refine then_normal ?_ | refine then_exit ?_ | refine then_ret ?_ | refine block_normal ?_ | refine block_ret ?_ | refine block_exit ?_ | refine block_pass rfl ?_)
          refine c_seq ?_
          refine c_block ?_
          refine c_seq ?_
          refine c_region ?_
          obtain ⟨x34, h35, h⟩ := bind_some h
          refine o_c (g0 rfl) rfl rfl rfl (idxE h35) (idxC h35) ?_
          refine o_s (.t (.agg [.lit (.string ⟨⟨x34.Name⟩⟩), .lit (.int .i64 x34.Seq)])) (g0 rfl) rfl rfl rfl ?_
          refine o_s (.box [.d (.lit (.string ⟨⟨[]⟩⟩)), .d (.lit (.int .i64 0))]) (g0 rfl) rfl rfl rfl ?_
          refine o_st (.box [.d (.lit (.string ⟨⟨x34.Name⟩⟩)), .d (.lit (.int .i64 x34.Seq))]) (g0 rfl) rfl rfl rfl ?_
          refine o_nil ?_
          repeat (first | refine then_normal ?_ | refine then_exit ?_ | refine then_ret ?_ | refine block_normal ?_ | refine block_ret ?_ | refine block_exit ?_ | refine block_pass rfl ?_)
          refine c_draw mixed (by kernel_rfl) ?_
          refine d_s (.ref 4 3) rfl (dg0 rfl) rfl rfl rfl rfl ?_
          refine d_2 (.box [.d (.lit (.int .i64 x4.k)), .d (.lit (.int .i64 x4.n)), .d (.lit (.slice none 0 0)), .d (.seq 4 (List.map V.cells z31))]) (.t (.own 79 4 (List.map V.cells z31))) rfl (dg0 rfl) rfl rfl rfl rfl rfl ?_
          refine d_s (.ref 6 0) rfl (dg0 rfl) rfl rfl rfl rfl ?_
          refine d_s (.t (.d (.lit (.string ⟨⟨x34.Name⟩⟩)))) rfl (dg0 rfl) rfl rfl rfl rfl ?_
          obtain ⟨x36, h37, h⟩ := bind_some h
          refine d_ca (fc_record_text _ _ h37) rfl (dg0 rfl) rfl rfl rfl rfl rfl rfl rfl rfl (.cons (.refl _) .nil) rfl rfl ?_
          refine d_s (.ref 6 1) rfl (dg0 rfl) rfl rfl rfl rfl ?_
          refine d_s (.t (.d (.lit (.int .i64 x34.Seq)))) rfl (dg0 rfl) rfl rfl rfl rfl ?_
          obtain ⟨x38, h39, h⟩ := bind_some h
          refine d_ca (fc_codec_Num _ _ h39) rfl (dg0 rfl) rfl rfl rfl rfl rfl rfl rfl rfl (.cons (.refl _) .nil) rfl rfl ?_
          refine d_w (.t (.own 79 4 (List.map V.cells [(V.mk x36.k x36.n x36.b []), (V.mk x38.k x38.n [] [])]))) rfl (dg0 rfl) rfl rfl rfl rfl (.t (.rows _ _ (.cons (.cons (.refl _) (.cons (.refl _) (.cons (.refl _) (.cons (.nil _) .nil)))) (.cons (.cons (.refl _) (.cons (.refl _) (.cons (.nil _) (.cons (.nil _) .nil)))) .nil)) (rowsE V.cells_eq [(V.mk x36.k x36.n x36.b []), (V.mk x38.k x38.n [] [])]))) (fun e => nomatch e) ?_
          obtain ⟨x40, h41, h⟩ := bind_some h
          refine d_ca (fc_codec_Of _ _ h41) rfl (dg0 rfl) rfl rfl rfl rfl rfl rfl rfl rfl (.cons (.refl _) .nil) rfl rfl ?_
          refine d_w (.t (.own 79 4 (List.map V.cells [(V.mk x40.k x40.n [] x40.l)]))) rfl (dg0 rfl) rfl rfl rfl rfl (.t (.rows _ _ (.cons (.cons (.refl _) (.cons (.refl _) (.cons (.nil _) (.cons (.refl _) .nil)))) .nil) (rowsE V.cells_eq [(V.mk x40.k x40.n [] x40.l)]))) (fun e => nomatch e) ?_
          obtain ⟨x42, h43, h⟩ := bind_some h
          refine d_2c rfl (dg0 rfl) rfl rfl rfl rfl rfl (appE (c := V.cells) h43) (appC (c := V.cells) h43) ?_
          refine d_s (.ref 4 3) rfl (dg0 rfl) rfl rfl rfl rfl ?_
          refine d_st2 (.t (.d (.seq 4 (List.map V.cells x42)))) (.box [.d (.lit (.int .i64 x4.k)), .d (.lit (.int .i64 x4.n)), .d (.lit (.slice none 0 0)), .own 79 4 (List.map V.cells x42)]) rfl (dg0 rfl) rfl rfl rfl rfl rfl ?_
          refine d_nil (by kernel_rfl) ?_
          repeat (first | refine then_normal ?_ | refine then_exit ?_ | refine then_ret ?_ | refine block_normal ?_ | refine block_ret ?_ | refine block_exit ?_ | refine block_pass rfl ?_)
          refine c_region ?_
          refine o_s (.t (.d (.lit (.int .i64 (wi (z32 + 1)))))) (g0 rfl) rfl rfl rfl ?_
          refine o_s (.t (.d (.lit (.int .i64 (wi (z32 + 1)))))) (g0 rfl) rfl rfl rfl ?_
          refine o_nil ?_
          repeat (first | refine then_normal ?_ | refine then_exit ?_ | refine then_ret ?_ | refine block_normal ?_ | refine block_ret ?_ | refine block_exit ?_ | refine block_pass rfl ?_)
          exact ⟨nl2, (x42, (wi (z32 + 1))), Nat.lt_succ_self nl2, h, ⟨(.refl _), ⟨(.refl _), ⟨(.refl _), ⟨(.refl _), ⟨(.refl _), trivial⟩⟩⟩⟩⟩, rfl⟩
        · refine c_f h33 rfl ?_
          refine c_exit ?_
          repeat (first | refine then_normal ?_ | refine then_exit ?_ | refine then_ret ?_ | refine block_normal ?_ | refine block_ret ?_ | refine block_exit ?_ | refine block_pass rfl ?_)
          exact ⟨z31, h, ⟨(.refl _), ⟨(.refl _), trivial⟩⟩, rfl⟩
    · rintro y6 h
      refine c_seq ?_
      refine c_draw mixed (by kernel_rfl) ?_
      obtain ⟨x7, h8, h⟩ := bind_some h
      refine d_ca (fc_record_text _ _ h8) rfl (dg0 rfl) rfl rfl rfl rfl rfl rfl rfl rfl (.cons (.refl _) .nil) rfl rfl ?_
      refine d_s (.ref 1 0) rfl (dg0 rfl) rfl rfl rfl rfl ?_
      refine d_s (.t (.d (.lit (.string ⟨⟨p0.Folder⟩⟩)))) rfl (dg0 rfl) rfl rfl rfl rfl ?_
      obtain ⟨x9, h10, h⟩ := bind_some h
      refine d_ca (fc_record_text _ _ h10) rfl (dg0 rfl) rfl rfl rfl rfl rfl rfl rfl rfl (.cons (.refl _) .nil) rfl rfl ?_
      refine d_s (.ref 1 1) rfl (dg0 rfl) rfl rfl rfl rfl ?_
      refine d_s (.t (.d (.lit (.int .i64 p0.Number)))) rfl (dg0 rfl) rfl rfl rfl rfl ?_
      obtain ⟨x11, h12, h⟩ := bind_some h
      refine d_ca (fc_codec_Num _ _ h12) rfl (dg0 rfl) rfl rfl rfl rfl rfl rfl rfl rfl (.cons (.refl _) .nil) rfl rfl ?_
      refine d_s (.ref 1 2) rfl (dg0 rfl) rfl rfl rfl rfl ?_
      refine d_s (.t (.d (.lit (.int .i64 p0.Place)))) rfl (dg0 rfl) rfl rfl rfl rfl ?_
      obtain ⟨x13, h14, h⟩ := bind_some h
      refine d_ca (fc_codec_Num _ _ h14) rfl (dg0 rfl) rfl rfl rfl rfl rfl rfl rfl rfl (.cons (.refl _) .nil) rfl rfl ?_
      refine d_s (.ref 1 3) rfl (dg0 rfl) rfl rfl rfl rfl ?_
      refine d_s (.t (.d (.lit (.int .i64 p0.From)))) rfl (dg0 rfl) rfl rfl rfl rfl ?_
      obtain ⟨x15, h16, h⟩ := bind_some h
      refine d_ca (fc_codec_Num _ _ h16) rfl (dg0 rfl) rfl rfl rfl rfl rfl rfl rfl rfl (.cons (.refl _) .nil) rfl rfl ?_
      refine d_s (.ref 1 4) rfl (dg0 rfl) rfl rfl rfl rfl ?_
      refine d_s (.t (.d (.lit (.int .i64 p0.Seq)))) rfl (dg0 rfl) rfl rfl rfl rfl ?_
      obtain ⟨x17, h18, h⟩ := bind_some h
      refine d_ca (fc_codec_Num _ _ h18) rfl (dg0 rfl) rfl rfl rfl rfl rfl rfl rfl rfl (.cons (.refl _) .nil) rfl rfl ?_
      refine d_s (.ref 1 5) rfl (dg0 rfl) rfl rfl rfl rfl ?_
      refine d_s (.t (.d (.seq 1 (bytesD p0.Digest)))) rfl (dg0 rfl) rfl rfl rfl rfl ?_
      obtain ⟨x19, h20, h⟩ := bind_some h
      refine d_ca (fc_codec_Raw _ _ h20) rfl (dg0 rfl) rfl rfl rfl rfl rfl rfl rfl rfl (.cons (.refl _) .nil) rfl rfl ?_
      refine d_s (.t (.agg [.lit (.int .i64 x4.k), .lit (.int .i64 x4.n), .lit (.slice none 0 0), .seq 4 (List.map V.cells y6)])) rfl (dg0 rfl) rfl rfl rfl rfl ?_
      refine d_s (.ref 1 7) rfl (dg0 rfl) rfl rfl rfl rfl ?_
      refine d_s (.t (.d (.seq 1 (bytesD p0.Public)))) rfl (dg0 rfl) rfl rfl rfl rfl ?_
      obtain ⟨x21, h22, h⟩ := bind_some h
      refine d_ca (fc_codec_Raw _ _ h22) rfl (dg0 rfl) rfl rfl rfl rfl rfl rfl rfl rfl (.cons (.refl _) .nil) rfl rfl ?_
      refine d_s (.ref 1 8) rfl (dg0 rfl) rfl rfl rfl rfl ?_
      refine d_s (.t (.d (.seq 1 (bytesD p0.Link)))) rfl (dg0 rfl) rfl rfl rfl rfl ?_
      obtain ⟨x23, h24, h⟩ := bind_some h
      refine d_ca (fc_codec_Raw _ _ h24) rfl (dg0 rfl) rfl rfl rfl rfl rfl rfl rfl rfl (.cons (.refl _) .nil) rfl rfl ?_
      refine d_s (.ref 1 9) rfl (dg0 rfl) rfl rfl rfl rfl ?_
      refine d_s (.t (.d (.lit (.string ⟨⟨p0.By⟩⟩)))) rfl (dg0 rfl) rfl rfl rfl rfl ?_
      obtain ⟨x25, h26, h⟩ := bind_some h
      refine d_ca (fc_record_text _ _ h26) rfl (dg0 rfl) rfl rfl rfl rfl rfl rfl rfl rfl (.cons (.refl _) .nil) rfl rfl ?_
      refine d_w (.t (.own 79 4 (List.map V.cells [(V.mk x7.k x7.n x7.b []), (V.mk x9.k x9.n x9.b []), (V.mk x11.k x11.n [] []), (V.mk x13.k x13.n [] []), (V.mk x15.k x15.n [] []), (V.mk x17.k x17.n [] []), (V.mk x19.k x19.n x19.b []), (V.mk x4.k x4.n [] y6), (V.mk x21.k x21.n x21.b []), (V.mk x23.k x23.n x23.b []), (V.mk x25.k x25.n x25.b [])]))) rfl (dg0 rfl) rfl rfl rfl rfl (.t (.rows _ _ (.cons (.cons (.refl _) (.cons (.refl _) (.cons (.refl _) (.cons (.nil _) .nil)))) (.cons (.cons (.refl _) (.cons (.refl _) (.cons (.refl _) (.cons (.nil _) .nil)))) (.cons (.cons (.refl _) (.cons (.refl _) (.cons (.nil _) (.cons (.nil _) .nil)))) (.cons (.cons (.refl _) (.cons (.refl _) (.cons (.nil _) (.cons (.nil _) .nil)))) (.cons (.cons (.refl _) (.cons (.refl _) (.cons (.nil _) (.cons (.nil _) .nil)))) (.cons (.cons (.refl _) (.cons (.refl _) (.cons (.nil _) (.cons (.nil _) .nil)))) (.cons (.cons (.refl _) (.cons (.refl _) (.cons (.refl _) (.cons (.nil _) .nil)))) (.cons (.cons (.refl _) (.cons (.refl _) (.cons (.nil _) (.cons (.refl _) .nil)))) (.cons (.cons (.refl _) (.cons (.refl _) (.cons (.refl _) (.cons (.nil _) .nil)))) (.cons (.cons (.refl _) (.cons (.refl _) (.cons (.refl _) (.cons (.nil _) .nil)))) (.cons (.cons (.refl _) (.cons (.refl _) (.cons (.refl _) (.cons (.nil _) .nil)))) .nil))))))))))) (rowsE V.cells_eq [(V.mk x7.k x7.n x7.b []), (V.mk x9.k x9.n x9.b []), (V.mk x11.k x11.n [] []), (V.mk x13.k x13.n [] []), (V.mk x15.k x15.n [] []), (V.mk x17.k x17.n [] []), (V.mk x19.k x19.n x19.b []), (V.mk x4.k x4.n [] y6), (V.mk x21.k x21.n x21.b []), (V.mk x23.k x23.n x23.b []), (V.mk x25.k x25.n x25.b [])]))) (fun e => nomatch e) ?_
      obtain ⟨x27, h28, h⟩ := bind_some h
      refine d_ca (fc_codec_Of _ _ h28) rfl (dg0 rfl) rfl rfl rfl rfl rfl rfl rfl rfl (.cons (.refl _) .nil) rfl rfl ?_
      obtain ⟨x29, h30, h⟩ := bind_some h
      refine d_ca (fc_codec_Encode _ _ h30) rfl (dg0 rfl) rfl rfl rfl rfl rfl rfl rfl rfl (.cons (.t (.agg (.cons (.refl _) (.cons (.refl _) (.cons (.nil _) (.cons (.refl _) .nil)))))) .nil) rfl rfl ?_
      refine d_s (.t (.d (.seq 1 (bytesD x29.1)))) rfl (dg0 rfl) rfl rfl rfl rfl ?_
      refine d_s (.t (.d (.lit (.int .i64 x29.2)))) rfl (dg0 rfl) rfl rfl rfl rfl ?_
      refine d_s (.t (.d (.seq 1 (bytesD x29.1)))) rfl (dg0 rfl) rfl rfl rfl rfl ?_
      refine d_s (.t (.d (.lit (.int .i64 x29.2)))) rfl (dg0 rfl) rfl rfl rfl rfl ?_
      refine d_nil (by kernel_rfl) ?_
      repeat (first | refine then_normal ?_ | refine then_exit ?_ | refine then_ret ?_ | refine block_normal ?_ | refine block_ret ?_ | refine block_exit ?_ | refine block_pass rfl ?_)
      refine c_ret ?_
      repeat (first | refine then_normal ?_ | refine then_exit ?_ | refine then_ret ?_ | refine block_normal ?_ | refine block_ret ?_ | refine block_exit ?_ | refine block_pass rfl ?_)
      obtain rfl := Option.some.inj h
      exact end0 rfl (.tup (.cons (.refl _) (.cons (.refl _) .nil)))

theorem fc_R35_in (p0 : Int) (p1 : Int) (p2 : Int) (r : Bool) (h : m_R35_in p0 p1 p2 = some r) : FC Tryd.prog 53 [.t (.d (.lit (.int .i64 p0))), .t (.d (.lit (.int .i64 p1))), .t (.d (.lit (.int .i64 p2)))] [] (.t (.d (.lit (.bool r)))) := by
  refine fc_mk (rs := [.tmp 6]) (n := 15) Tryd.func53 rfl rfl (Nat.le_of_ble_eq_true rfl) rfl (pins := []) rfl (L := [(0, .t (.d (.lit (.int .i64 p0)))), (1, .t (.d (.lit (.int .i64 p1)))), (2, .t (.d (.lit (.int .i64 p2))))]) rfl ?_
  refine c_seq ?_
  refine c_region ?_
  refine o_s (.t (.d (.lit (.bool false)))) (g0 rfl) rfl rfl rfl ?_
  refine o_nil ?_
  repeat (first | refine then_normal ?_ | refine then_exit ?_ | refine then_ret ?_ | refine block_normal ?_ | refine block_ret ?_ | refine block_exit ?_ | refine block_pass rfl ?_)
  refine c_seq ?_
  refine c_region ?_
  refine o_s (.t (.d (.lit (.int .i64 p0)))) (g0 rfl) rfl rfl rfl ?_
  refine o_s (.t (.d (.lit (.int .i64 p1)))) (g0 rfl) rfl rfl rfl ?_
  refine o_s (.t (.d (.lit (.bool (decide (p0 ≥ p1)))))) (g0 rfl) rfl rfl rfl ?_
  refine o_s (.t (.d (.lit (.bool (decide (p0 ≥ p1)))))) (g0 rfl) rfl rfl rfl ?_
  rcases bif_some h with ⟨h1, h⟩ | ⟨h1, h⟩
  · refine o_s (.t (.d (.lit (.int .i64 p0)))) (gy rfl rfl rfl h1) rfl rfl rfl ?_
    refine o_s (.t (.d (.lit (.int .i64 p2)))) (gy rfl rfl rfl h1) rfl rfl rfl ?_
    refine o_s (.t (.d (.lit (.bool (decide (p0 ≤ p2)))))) (gy rfl rfl rfl h1) rfl rfl rfl ?_
    refine o_pk (.t (.d (.lit (.bool (decide (p0 ≤ p2)))))) (b := true) h1 (g0 rfl) rfl rfl rfl rfl rfl ?_
    refine o_s (.t (.d (.lit (.bool (decide (p0 ≤ p2)))))) (g0 rfl) rfl rfl rfl ?_
    refine o_nil ?_
    repeat (first | refine then_normal ?_ | refine then_exit ?_ | refine then_ret ?_ | refine block_normal ?_ | refine block_ret ?_ | refine block_exit ?_ | refine block_pass rfl ?_)
    refine c_ret ?_
    repeat (first | refine then_normal ?_ | refine then_exit ?_ | refine then_ret ?_ | refine block_normal ?_ | refine block_ret ?_ | refine block_exit ?_ | refine block_pass rfl ?_)
    obtain rfl := Option.some.inj h
    exact end0 rfl (.refl _)
  · refine o_skip rfl rfl rfl h1 rfl rfl ?_
    refine o_skip rfl rfl rfl h1 rfl rfl ?_
    refine o_skip rfl rfl rfl h1 rfl rfl ?_
    refine o_pk (.t (.d (.lit (.bool false)))) (b := false) h1 (g0 rfl) rfl rfl rfl rfl rfl ?_
    refine o_s (.t (.d (.lit (.bool false)))) (g0 rfl) rfl rfl rfl ?_
    refine o_nil ?_
    repeat (first | refine then_normal ?_ | refine then_exit ?_ | refine then_ret ?_ | refine block_normal ?_ | refine block_ret ?_ | refine block_exit ?_ | refine block_pass rfl ?_)
    refine c_ret ?_
    repeat (first | refine then_normal ?_ | refine then_exit ?_ | refine then_ret ?_ | refine block_normal ?_ | refine block_ret ?_ | refine block_exit ?_ | refine block_pass rfl ?_)
    obtain rfl := Option.some.inj h
    exact end0 rfl (.refl _)

theorem fc_R35_MayEpoch (p0 : S_api_EpochRecord) (r : Bool) (h : m_R35_MayEpoch p0 = some r) : FC Tryd.prog 27 [.t (.agg [.lit (.string ⟨⟨p0.Folder⟩⟩), .lit (.int .i64 p0.Number), .lit (.int .i64 p0.Place), .lit (.int .i64 p0.From), .lit (.int .i64 p0.Seq), .seq 1 (bytesD p0.Digest), .seq 2 (List.map cS_api_At p0.Chain), .seq 1 (bytesD p0.Public), .seq 1 (bytesD p0.Link), .lit (.string ⟨⟨p0.By⟩⟩)])] [] (.t (.d (.lit (.bool r)))) := by
  refine fc_mk (rs := [.tmp 2]) (n := 118) Tryd.func27 rfl rfl (Nat.le_of_ble_eq_true rfl) rfl (pins := []) rfl (L := [(0, .t (.agg [.lit (.string ⟨⟨p0.Folder⟩⟩), .lit (.int .i64 p0.Number), .lit (.int .i64 p0.Place), .lit (.int .i64 p0.From), .lit (.int .i64 p0.Seq), .seq 1 (bytesD p0.Digest), .seq 2 (List.map cS_api_At p0.Chain), .seq 1 (bytesD p0.Public), .seq 1 (bytesD p0.Link), .lit (.string ⟨⟨p0.By⟩⟩)]))]) rfl ?_
  refine c_seq ?_
  refine c_region ?_
  refine o_s (.box [.d (.lit (.string ⟨⟨p0.Folder⟩⟩)), .d (.lit (.int .i64 p0.Number)), .d (.lit (.int .i64 p0.Place)), .d (.lit (.int .i64 p0.From)), .d (.lit (.int .i64 p0.Seq)), .d (.seq 1 (bytesD p0.Digest)), .d (.seq 2 (List.map cS_api_At p0.Chain)), .d (.seq 1 (bytesD p0.Public)), .d (.seq 1 (bytesD p0.Link)), .d (.lit (.string ⟨⟨p0.By⟩⟩))]) (g0 rfl) rfl rfl rfl ?_
  refine o_s (.t (.d (.lit (.bool false)))) (g0 rfl) rfl rfl rfl ?_
  refine o_nil ?_
  repeat (first | refine then_normal ?_ | refine then_exit ?_ | refine then_ret ?_ | refine block_normal ?_ | refine block_ret ?_ | refine block_exit ?_ | refine block_pass rfl ?_)
  refine c_seq ?_
  refine c_seq ?_
  refine c_region ?_
  refine o_s (.ref 1 0) (g0 rfl) rfl rfl rfl ?_
  refine o_s (.t (.d (.lit (.string ⟨⟨p0.Folder⟩⟩)))) (g0 rfl) rfl rfl rfl ?_
  obtain ⟨x1, h2, h⟩ := bind_some h
  refine o_ca (fc_R25_Name _ _ h2) (g0 rfl) rfl rfl rfl rfl rfl rfl rfl (.cons (.refl _) .nil) rfl rfl ?_
  refine o_s (.t (.d (.lit (.bool (!x1))))) (g0 rfl) rfl rfl rfl ?_
  refine o_s (.t (.d (.lit (.bool (!x1))))) (g0 rfl) rfl rfl rfl ?_
  rcases bif_some h with ⟨h3, h⟩ | ⟨h3, h⟩
  · refine o_skip rfl rfl rfl h3 rfl rfl ?_
    refine o_skip rfl rfl rfl h3 rfl rfl ?_
    refine o_skip rfl rfl rfl h3 rfl rfl ?_
    refine o_skip rfl rfl rfl h3 rfl rfl ?_
    refine o_pk (.t (.d (.lit (.bool true)))) (b := true) h3 (g0 rfl) rfl rfl rfl rfl rfl ?_
    refine o_s (.t (.d (.lit (.bool true)))) (g0 rfl) rfl rfl rfl ?_
    refine o_skip rfl rfl rfl rfl rfl rfl ?_
    refine o_skip rfl rfl rfl rfl rfl rfl ?_
    refine o_skip rfl rfl rfl rfl rfl rfl ?_
    refine o_skip rfl rfl rfl rfl rfl rfl ?_
    refine o_pk (.t (.d (.lit (.bool true)))) (b := true) rfl (g0 rfl) rfl rfl rfl rfl rfl ?_
    refine o_s (.t (.d (.lit (.bool true)))) (g0 rfl) rfl rfl rfl ?_
    refine o_skip rfl rfl rfl rfl rfl rfl ?_
    refine o_skip rfl rfl rfl rfl rfl rfl ?_
    refine o_skip rfl rfl rfl rfl rfl rfl ?_
    refine o_skip rfl rfl rfl rfl rfl rfl ?_
    refine o_pk (.t (.d (.lit (.bool true)))) (b := true) rfl (g0 rfl) rfl rfl rfl rfl rfl ?_
    refine o_s (.t (.d (.lit (.bool true)))) (g0 rfl) rfl rfl rfl ?_
    refine o_skip rfl rfl rfl rfl rfl rfl ?_
    refine o_skip rfl rfl rfl rfl rfl rfl ?_
    refine o_skip rfl rfl rfl rfl rfl rfl ?_
    refine o_skip rfl rfl rfl rfl rfl rfl ?_
    refine o_pk (.t (.d (.lit (.bool true)))) (b := true) rfl (g0 rfl) rfl rfl rfl rfl rfl ?_
    refine o_s (.t (.d (.lit (.bool true)))) (g0 rfl) rfl rfl rfl ?_
    refine o_skip rfl rfl rfl rfl rfl rfl ?_
    refine o_skip rfl rfl rfl rfl rfl rfl ?_
    refine o_skip rfl rfl rfl rfl rfl rfl ?_
    refine o_skip rfl rfl rfl rfl rfl rfl ?_
    refine o_skip rfl rfl rfl rfl rfl rfl ?_
    refine o_skip rfl rfl rfl rfl rfl rfl ?_
    refine o_pk (.t (.d (.lit (.bool true)))) (b := true) rfl (g0 rfl) rfl rfl rfl rfl rfl ?_
    refine o_nil ?_
    repeat (first | refine then_normal ?_ | refine then_exit ?_ | refine then_ret ?_ | refine block_normal ?_ | refine block_ret ?_ | refine block_exit ?_ | refine block_pass rfl ?_)
    refine c_t rfl rfl ?_
    refine c_seq ?_
    refine c_region ?_
    refine o_s (.t (.d (.lit (.bool false)))) (g0 rfl) rfl rfl rfl ?_
    refine o_nil ?_
    repeat (first | refine then_normal ?_ | refine then_exit ?_ | refine then_ret ?_ | refine block_normal ?_ | refine block_ret ?_ | refine block_exit ?_ | refine block_pass rfl ?_)
    refine c_ret ?_
    repeat (first | refine then_normal ?_ | refine then_exit ?_ | refine then_ret ?_ | refine block_normal ?_ | refine block_ret ?_ | refine block_exit ?_ | refine block_pass rfl ?_)
    obtain rfl := Option.some.inj h
    exact end0 rfl (.refl _)
  · refine o_s (.ref 1 9) (gy rfl rfl rfl h3) rfl rfl rfl ?_
    refine o_s (.t (.d (.lit (.string ⟨⟨p0.By⟩⟩)))) (gy rfl rfl rfl h3) rfl rfl rfl ?_
    obtain ⟨x4, h5, h⟩ := bind_some h
    refine o_ca (fc_R25_Name _ _ h5) (gy rfl rfl rfl h3) rfl rfl rfl rfl rfl rfl rfl (.cons (.refl _) .nil) rfl rfl ?_
    refine o_s (.t (.d (.lit (.bool (!x4))))) (gy rfl rfl rfl h3) rfl rfl rfl ?_
    refine o_pk (.t (.d (.lit (.bool (!x4))))) (b := false) h3 (g0 rfl) rfl rfl rfl rfl rfl ?_
    refine o_s (.t (.d (.lit (.bool (!x4))))) (g0 rfl) rfl rfl rfl ?_
    rcases bif_some h with ⟨h6, h⟩ | ⟨h6, h⟩
    · refine o_skip rfl rfl rfl h6 rfl rfl ?_
      refine o_skip rfl rfl rfl h6 rfl rfl ?_
      refine o_skip rfl rfl rfl h6 rfl rfl ?_
      refine o_skip rfl rfl rfl h6 rfl rfl ?_
      refine o_pk (.t (.d (.lit (.bool true)))) (b := true) h6 (g0 rfl) rfl rfl rfl rfl rfl ?_
      refine o_s (.t (.d (.lit (.bool true)))) (g0 rfl) rfl rfl rfl ?_
      refine o_skip rfl rfl rfl rfl rfl rfl ?_
      refine o_skip rfl rfl rfl rfl rfl rfl ?_
      refine o_skip rfl rfl rfl rfl rfl rfl ?_
      refine o_skip rfl rfl rfl rfl rfl rfl ?_
      refine o_pk (.t (.d (.lit (.bool true)))) (b := true) rfl (g0 rfl) rfl rfl rfl rfl rfl ?_
      refine o_s (.t (.d (.lit (.bool true)))) (g0 rfl) rfl rfl rfl ?_
      refine o_skip rfl rfl rfl rfl rfl rfl ?_
      refine o_skip rfl rfl rfl rfl rfl rfl ?_
      refine o_skip rfl rfl rfl rfl rfl rfl ?_
      refine o_skip rfl rfl rfl rfl rfl rfl ?_
      refine o_pk (.t (.d (.lit (.bool true)))) (b := true) rfl (g0 rfl) rfl rfl rfl rfl rfl ?_
      refine o_s (.t (.d (.lit (.bool true)))) (g0 rfl) rfl rfl rfl ?_
      refine o_skip rfl rfl rfl rfl rfl rfl ?_
      refine o_skip rfl rfl rfl rfl rfl rfl ?_
      refine o_skip rfl rfl rfl rfl rfl rfl ?_
      refine o_skip rfl rfl rfl rfl rfl rfl ?_
      refine o_skip rfl rfl rfl rfl rfl rfl ?_
      refine o_skip rfl rfl rfl rfl rfl rfl ?_
      refine o_pk (.t (.d (.lit (.bool true)))) (b := true) rfl (g0 rfl) rfl rfl rfl rfl rfl ?_
      refine o_nil ?_
      repeat (first | refine then_normal ?_ | refine then_exit ?_ | refine then_ret ?_ | refine block_normal ?_ | refine block_ret ?_ | refine block_exit ?_ | refine block_pass rfl ?_)
      refine c_t rfl rfl ?_
      refine c_seq ?_
      refine c_region ?_
      refine o_s (.t (.d (.lit (.bool false)))) (g0 rfl) rfl rfl rfl ?_
      refine o_nil ?_
      repeat (first | refine then_normal ?_ | refine then_exit ?_ | refine then_ret ?_ | refine block_normal ?_ | refine block_ret ?_ | refine block_exit ?_ | refine block_pass rfl ?_)
      refine c_ret ?_
      repeat (first | refine then_normal ?_ | refine then_exit ?_ | refine then_ret ?_ | refine block_normal ?_ | refine block_ret ?_ | refine block_exit ?_ | refine block_pass rfl ?_)
      obtain rfl := Option.some.inj h
      exact end0 rfl (.refl _)
    · refine o_s (.ref 1 1) (gy rfl rfl rfl h6) rfl rfl rfl ?_
      refine o_s (.t (.d (.lit (.int .i64 p0.Number)))) (gy rfl rfl rfl h6) rfl rfl rfl ?_
      obtain ⟨x7, h8, h⟩ := bind_some h
      refine o_ca (fc_R35_in _ _ _ _ h8) (gy rfl rfl rfl h6) rfl rfl rfl rfl rfl rfl rfl (.cons (.refl _) (.cons (.refl _) (.cons (.refl _) .nil))) rfl rfl ?_
      refine o_s (.t (.d (.lit (.bool (!x7))))) (gy rfl rfl rfl h6) rfl rfl rfl ?_
      refine o_pk (.t (.d (.lit (.bool (!x7))))) (b := false) h6 (g0 rfl) rfl rfl rfl rfl rfl ?_
      refine o_s (.t (.d (.lit (.bool (!x7))))) (g0 rfl) rfl rfl rfl ?_
      rcases bif_some h with ⟨h9, h⟩ | ⟨h9, h⟩
      · refine o_skip rfl rfl rfl h9 rfl rfl ?_
        refine o_skip rfl rfl rfl h9 rfl rfl ?_
        refine o_skip rfl rfl rfl h9 rfl rfl ?_
        refine o_skip rfl rfl rfl h9 rfl rfl ?_
        refine o_pk (.t (.d (.lit (.bool true)))) (b := true) h9 (g0 rfl) rfl rfl rfl rfl rfl ?_
        refine o_s (.t (.d (.lit (.bool true)))) (g0 rfl) rfl rfl rfl ?_
        refine o_skip rfl rfl rfl rfl rfl rfl ?_
        refine o_skip rfl rfl rfl rfl rfl rfl ?_
        refine o_skip rfl rfl rfl rfl rfl rfl ?_
        refine o_skip rfl rfl rfl rfl rfl rfl ?_
        refine o_pk (.t (.d (.lit (.bool true)))) (b := true) rfl (g0 rfl) rfl rfl rfl rfl rfl ?_
        refine o_s (.t (.d (.lit (.bool true)))) (g0 rfl) rfl rfl rfl ?_
        refine o_skip rfl rfl rfl rfl rfl rfl ?_
        refine o_skip rfl rfl rfl rfl rfl rfl ?_
        refine o_skip rfl rfl rfl rfl rfl rfl ?_
        refine o_skip rfl rfl rfl rfl rfl rfl ?_
        refine o_skip rfl rfl rfl rfl rfl rfl ?_
        refine o_skip rfl rfl rfl rfl rfl rfl ?_
        refine o_pk (.t (.d (.lit (.bool true)))) (b := true) rfl (g0 rfl) rfl rfl rfl rfl rfl ?_
        refine o_nil ?_
        repeat (first | refine then_normal ?_ | refine then_exit ?_ | refine then_ret ?_ | refine block_normal ?_ | refine block_ret ?_ | refine block_exit ?_ | refine block_pass rfl ?_)
        refine c_t rfl rfl ?_
        refine c_seq ?_
        refine c_region ?_
        refine o_s (.t (.d (.lit (.bool false)))) (g0 rfl) rfl rfl rfl ?_
        refine o_nil ?_
        repeat (first | refine then_normal ?_ | refine then_exit ?_ | refine then_ret ?_ | refine block_normal ?_ | refine block_ret ?_ | refine block_exit ?_ | refine block_pass rfl ?_)
        refine c_ret ?_
        repeat (first | refine then_normal ?_ | refine then_exit ?_ | refine then_ret ?_ | refine block_normal ?_ | refine block_ret ?_ | refine block_exit ?_ | refine block_pass rfl ?_)
        obtain rfl := Option.some.inj h
        exact end0 rfl (.refl _)
      · refine o_s (.ref 1 4) (gy rfl rfl rfl h9) rfl rfl rfl ?_
        refine o_s (.t (.d (.lit (.int .i64 p0.Seq)))) (gy rfl rfl rfl h9) rfl rfl rfl ?_
        obtain ⟨x10, h11, h⟩ := bind_some h
        refine o_ca (fc_R35_in _ _ _ _ h11) (gy rfl rfl rfl h9) rfl rfl rfl rfl rfl rfl rfl (.cons (.refl _) (.cons (.refl _) (.cons (.refl _) .nil))) rfl rfl ?_
        refine o_s (.t (.d (.lit (.bool (!x10))))) (gy rfl rfl rfl h9) rfl rfl rfl ?_
        refine o_pk (.t (.d (.lit (.bool (!x10))))) (b := false) h9 (g0 rfl) rfl rfl rfl rfl rfl ?_
        refine o_s (.t (.d (.lit (.bool (!x10))))) (g0 rfl) rfl rfl rfl ?_
        rcases bif_some h with ⟨h12, h⟩ | ⟨h12, h⟩
        · refine o_skip rfl rfl rfl h12 rfl rfl ?_
          refine o_skip rfl rfl rfl h12 rfl rfl ?_
          refine o_skip rfl rfl rfl h12 rfl rfl ?_
          refine o_skip rfl rfl rfl h12 rfl rfl ?_
          refine o_pk (.t (.d (.lit (.bool true)))) (b := true) h12 (g0 rfl) rfl rfl rfl rfl rfl ?_
          refine o_s (.t (.d (.lit (.bool true)))) (g0 rfl) rfl rfl rfl ?_
          refine o_skip rfl rfl rfl rfl rfl rfl ?_
          refine o_skip rfl rfl rfl rfl rfl rfl ?_
          refine o_skip rfl rfl rfl rfl rfl rfl ?_
          refine o_skip rfl rfl rfl rfl rfl rfl ?_
          refine o_skip rfl rfl rfl rfl rfl rfl ?_
          refine o_skip rfl rfl rfl rfl rfl rfl ?_
          refine o_pk (.t (.d (.lit (.bool true)))) (b := true) rfl (g0 rfl) rfl rfl rfl rfl rfl ?_
          refine o_nil ?_
          repeat (first | refine then_normal ?_ | refine then_exit ?_ | refine then_ret ?_ | refine block_normal ?_ | refine block_ret ?_ | refine block_exit ?_ | refine block_pass rfl ?_)
          refine c_t rfl rfl ?_
          refine c_seq ?_
          refine c_region ?_
          refine o_s (.t (.d (.lit (.bool false)))) (g0 rfl) rfl rfl rfl ?_
          refine o_nil ?_
          repeat (first | refine then_normal ?_ | refine then_exit ?_ | refine then_ret ?_ | refine block_normal ?_ | refine block_ret ?_ | refine block_exit ?_ | refine block_pass rfl ?_)
          refine c_ret ?_
          repeat (first | refine then_normal ?_ | refine then_exit ?_ | refine then_ret ?_ | refine block_normal ?_ | refine block_ret ?_ | refine block_exit ?_ | refine block_pass rfl ?_)
          obtain rfl := Option.some.inj h
          exact end0 rfl (.refl _)
        · refine o_s (.ref 1 2) (gy rfl rfl rfl h12) rfl rfl rfl ?_
          refine o_s (.t (.d (.lit (.int .i64 p0.Place)))) (gy rfl rfl rfl h12) rfl rfl rfl ?_
          obtain ⟨x13, h14, h⟩ := bind_some h
          refine o_ca (fc_R35_in _ _ _ _ h14) (gy rfl rfl rfl h12) rfl rfl rfl rfl rfl rfl rfl (.cons (.refl _) (.cons (.refl _) (.cons (.refl _) .nil))) rfl rfl ?_
          refine o_s (.t (.d (.lit (.bool (!x13))))) (gy rfl rfl rfl h12) rfl rfl rfl ?_
          refine o_pk (.t (.d (.lit (.bool (!x13))))) (b := false) h12 (g0 rfl) rfl rfl rfl rfl rfl ?_
          refine o_s (.t (.d (.lit (.bool (!x13))))) (g0 rfl) rfl rfl rfl ?_
          rcases bif_some h with ⟨h15, h⟩ | ⟨h15, h⟩
          · refine o_skip rfl rfl rfl h15 rfl rfl ?_
            refine o_skip rfl rfl rfl h15 rfl rfl ?_
            refine o_skip rfl rfl rfl h15 rfl rfl ?_
            refine o_skip rfl rfl rfl h15 rfl rfl ?_
            refine o_skip rfl rfl rfl h15 rfl rfl ?_
            refine o_skip rfl rfl rfl h15 rfl rfl ?_
            refine o_pk (.t (.d (.lit (.bool true)))) (b := true) h15 (g0 rfl) rfl rfl rfl rfl rfl ?_
            refine o_nil ?_
            repeat (first | refine then_normal ?_ | refine then_exit ?_ | refine then_ret ?_ | refine block_normal ?_ | refine block_ret ?_ | refine block_exit ?_ | refine block_pass rfl ?_)
            refine c_t rfl rfl ?_
            refine c_seq ?_
            refine c_region ?_
            refine o_s (.t (.d (.lit (.bool false)))) (g0 rfl) rfl rfl rfl ?_
            refine o_nil ?_
            repeat (first | refine then_normal ?_ | refine then_exit ?_ | refine then_ret ?_ | refine block_normal ?_ | refine block_ret ?_ | refine block_exit ?_ | refine block_pass rfl ?_)
            refine c_ret ?_
            repeat (first | refine then_normal ?_ | refine then_exit ?_ | refine then_ret ?_ | refine block_normal ?_ | refine block_ret ?_ | refine block_exit ?_ | refine block_pass rfl ?_)
            obtain rfl := Option.some.inj h
            exact end0 rfl (.refl _)
          · refine o_s (.ref 1 3) (gy rfl rfl rfl h15) rfl rfl rfl ?_
            refine o_s (.t (.d (.lit (.int .i64 p0.From)))) (gy rfl rfl rfl h15) rfl rfl rfl ?_
            refine o_s (.ref 1 4) (gy rfl rfl rfl h15) rfl rfl rfl ?_
            refine o_s (.t (.d (.lit (.int .i64 p0.Seq)))) (gy rfl rfl rfl h15) rfl rfl rfl ?_
            obtain ⟨x16, h17, h⟩ := bind_some h
            refine o_ca (fc_R35_in _ _ _ _ h17) (gy rfl rfl rfl h15) rfl rfl rfl rfl rfl rfl rfl (.cons (.refl _) (.cons (.refl _) (.cons (.refl _) .nil))) rfl rfl ?_
            refine o_s (.t (.d (.lit (.bool (!x16))))) (gy rfl rfl rfl h15) rfl rfl rfl ?_
            refine o_pk (.t (.d (.lit (.bool (!x16))))) (b := false) h15 (g0 rfl) rfl rfl rfl rfl rfl ?_
            refine o_nil ?_
            repeat (first | refine then_normal ?_ | refine then_exit ?_ | refine then_ret ?_ | refine block_normal ?_ | refine block_ret ?_ | refine block_exit ?_ | refine block_pass rfl ?_)
            rcases bif_some h with ⟨h18, h⟩ | ⟨h18, h⟩
            · refine c_t h18 rfl ?_
              refine c_seq ?_
              refine c_region ?_
              refine o_s (.t (.d (.lit (.bool false)))) (g0 rfl) rfl rfl rfl ?_
              refine o_nil ?_
              repeat (first | refine then_normal ?_ | refine then_exit ?_ | refine then_ret ?_ | refine block_normal ?_ | refine block_ret ?_ | refine block_exit ?_ | refine block_pass rfl ?_)
              refine c_ret ?_
              repeat (first | refine then_normal ?_ | refine then_exit ?_ | refine then_ret ?_ | refine block_normal ?_ | refine block_ret ?_ | refine block_exit ?_ | refine block_pass rfl ?_)
              obtain rfl := Option.some.inj h
              exact end0 rfl (.refl _)
            · refine c_f h18 rfl ?_
              refine c_skip ?_
              repeat (first | refine then_normal ?_ | refine then_exit ?_ | refine then_ret ?_ | refine block_normal ?_ | refine block_ret ?_ | refine block_exit ?_ | refine block_pass rfl ?_)
              refine c_seq ?_
              refine c_seq ?_
              refine c_region ?_
              refine o_s (.ref 1 5) (g0 rfl) rfl rfl rfl ?_
              refine o_s (.t (.d (.seq 1 (bytesD p0.Digest)))) (g0 rfl) rfl rfl rfl ?_
              refine o_c (g0 rfl) rfl rfl rfl (lenE _ _) trivial ?_
              obtain ⟨x19, h20, h⟩ := bind_some h
              refine o_ca (fc_R35_in _ _ _ _ h20) (g0 rfl) rfl rfl rfl rfl rfl rfl rfl (.cons (.refl _) (.cons (.refl _) (.cons (.refl _) .nil))) rfl rfl ?_
              refine o_s (.t (.d (.lit (.bool (!x19))))) (g0 rfl) rfl rfl rfl ?_
              refine o_s (.t (.d (.lit (.bool (!x19))))) (g0 rfl) rfl rfl rfl ?_
              rcases bif_some h with ⟨h21, h⟩ | ⟨h21, h⟩
              · refine o_skip rfl rfl rfl h21 rfl rfl ?_
                refine o_skip rfl rfl rfl h21 rfl rfl ?_
                refine o_skip rfl rfl rfl h21 rfl rfl ?_
                refine o_skip rfl rfl rfl h21 rfl rfl ?_
                refine o_skip rfl rfl rfl h21 rfl rfl ?_
                refine o_pk (.t (.d (.lit (.bool true)))) (b := true) h21 (g0 rfl) rfl rfl rfl rfl rfl ?_
                refine o_s (.t (.d (.lit (.bool true)))) (g0 rfl) rfl rfl rfl ?_
                refine o_skip rfl rfl rfl rfl rfl rfl ?_
                refine o_skip rfl rfl rfl rfl rfl rfl ?_
                refine o_skip rfl rfl rfl rfl rfl rfl ?_
                refine o_skip rfl rfl rfl rfl rfl rfl ?_
                refine o_skip rfl rfl rfl rfl rfl rfl ?_
                refine o_pk (.t (.d (.lit (.bool true)))) (b := true) rfl (g0 rfl) rfl rfl rfl rfl rfl ?_
                refine o_nil ?_
                repeat (first | refine then_normal ?_ | refine then_exit ?_ | refine then_ret ?_ | refine block_normal ?_ | refine block_ret ?_ | refine block_exit ?_ | refine block_pass rfl ?_)
                refine c_t rfl rfl ?_
                refine c_seq ?_
                refine c_region ?_
                refine o_s (.t (.d (.lit (.bool false)))) (g0 rfl) rfl rfl rfl ?_
                refine o_nil ?_
                repeat (first | refine then_normal ?_ | refine then_exit ?_ | refine then_ret ?_ | refine block_normal ?_ | refine block_ret ?_ | refine block_exit ?_ | refine block_pass rfl ?_)
                refine c_ret ?_
                repeat (first | refine then_normal ?_ | refine then_exit ?_ | refine then_ret ?_ | refine block_normal ?_ | refine block_ret ?_ | refine block_exit ?_ | refine block_pass rfl ?_)
                obtain rfl := Option.some.inj h
                exact end0 rfl (.refl _)
              · refine o_s (.ref 1 7) (gy rfl rfl rfl h21) rfl rfl rfl ?_
                refine o_s (.t (.d (.seq 1 (bytesD p0.Public)))) (gy rfl rfl rfl h21) rfl rfl rfl ?_
                refine o_c (gy rfl rfl rfl h21) rfl rfl rfl (lenE _ _) trivial ?_
                obtain ⟨x22, h23, h⟩ := bind_some h
                refine o_ca (fc_R35_in _ _ _ _ h23) (gy rfl rfl rfl h21) rfl rfl rfl rfl rfl rfl rfl (.cons (.refl _) (.cons (.refl _) (.cons (.refl _) .nil))) rfl rfl ?_
                refine o_s (.t (.d (.lit (.bool (!x22))))) (gy rfl rfl rfl h21) rfl rfl rfl ?_
                refine o_pk (.t (.d (.lit (.bool (!x22))))) (b := false) h21 (g0 rfl) rfl rfl rfl rfl rfl ?_
                refine o_s (.t (.d (.lit (.bool (!x22))))) (g0 rfl) rfl rfl rfl ?_
                rcases bif_some h with ⟨h24, h⟩ | ⟨h24, h⟩
                · refine o_skip rfl rfl rfl h24 rfl rfl ?_
                  refine o_skip rfl rfl rfl h24 rfl rfl ?_
                  refine o_skip rfl rfl rfl h24 rfl rfl ?_
                  refine o_skip rfl rfl rfl h24 rfl rfl ?_
                  refine o_skip rfl rfl rfl h24 rfl rfl ?_
                  refine o_pk (.t (.d (.lit (.bool true)))) (b := true) h24 (g0 rfl) rfl rfl rfl rfl rfl ?_
                  refine o_nil ?_
                  repeat (first | refine then_normal ?_ | refine then_exit ?_ | refine then_ret ?_ | refine block_normal ?_ | refine block_ret ?_ | refine block_exit ?_ | refine block_pass rfl ?_)
                  refine c_t rfl rfl ?_
                  refine c_seq ?_
                  refine c_region ?_
                  refine o_s (.t (.d (.lit (.bool false)))) (g0 rfl) rfl rfl rfl ?_
                  refine o_nil ?_
                  repeat (first | refine then_normal ?_ | refine then_exit ?_ | refine then_ret ?_ | refine block_normal ?_ | refine block_ret ?_ | refine block_exit ?_ | refine block_pass rfl ?_)
                  refine c_ret ?_
                  repeat (first | refine then_normal ?_ | refine then_exit ?_ | refine then_ret ?_ | refine block_normal ?_ | refine block_ret ?_ | refine block_exit ?_ | refine block_pass rfl ?_)
                  obtain rfl := Option.some.inj h
                  exact end0 rfl (.refl _)
                · refine o_s (.ref 1 6) (gy rfl rfl rfl h24) rfl rfl rfl ?_
                  refine o_s (.t (.d (.seq 2 (List.map cS_api_At p0.Chain)))) (gy rfl rfl rfl h24) rfl rfl rfl ?_
                  refine o_c (gy rfl rfl rfl h24) rfl rfl rfl (lenE _ _) trivial ?_
                  obtain ⟨x25, h26, h⟩ := bind_some h
                  refine o_ca (fc_R35_in _ _ _ _ h26) (gy rfl rfl rfl h24) rfl rfl rfl rfl rfl rfl rfl (.cons (.refl _) (.cons (.refl _) (.cons (.refl _) .nil))) rfl rfl ?_
                  refine o_s (.t (.d (.lit (.bool (!x25))))) (gy rfl rfl rfl h24) rfl rfl rfl ?_
                  refine o_pk (.t (.d (.lit (.bool (!x25))))) (b := false) h24 (g0 rfl) rfl rfl rfl rfl rfl ?_
                  refine o_nil ?_
                  repeat (first | refine then_normal ?_ | refine then_exit ?_ | refine then_ret ?_ | refine block_normal ?_ | refine block_ret ?_ | refine block_exit ?_ | refine block_pass rfl ?_)
                  rcases bif_some h with ⟨h27, h⟩ | ⟨h27, h⟩
                  · refine c_t h27 rfl ?_
                    refine c_seq ?_
                    refine c_region ?_
                    refine o_s (.t (.d (.lit (.bool false)))) (g0 rfl) rfl rfl rfl ?_
                    refine o_nil ?_
                    repeat (first | refine then_normal ?_ | refine then_exit ?_ | refine then_ret ?_ | refine block_normal ?_ | refine block_ret ?_ | refine block_exit ?_ | refine block_pass rfl ?_)
                    refine c_ret ?_
                    repeat (first | refine then_normal ?_ | refine then_exit ?_ | refine then_ret ?_ | refine block_normal ?_ | refine block_ret ?_ | refine block_exit ?_ | refine block_pass rfl ?_)
                    obtain rfl := Option.some.inj h
                    exact end0 rfl (.refl _)
                  · refine c_f h27 rfl ?_
                    refine c_skip ?_
                    repeat (first | refine then_normal ?_ | refine then_exit ?_ | refine then_ret ?_ | refine block_normal ?_ | refine block_ret ?_ | refine block_exit ?_ | refine block_pass rfl ?_)
                    refine c_cut (fun (_ : Unit) => [(1, .box [.d (.lit (.string ⟨⟨p0.Folder⟩⟩)), .d (.lit (.int .i64 p0.Number)), .d (.lit (.int .i64 p0.Place)), .d (.lit (.int .i64 p0.From)), .d (.lit (.int .i64 p0.Seq)), .d (.seq 1 (bytesD p0.Digest)), .d (.seq 2 (List.map cS_api_At p0.Chain)), .d (.seq 1 (bytesD p0.Public)), .d (.seq 1 (bytesD p0.Link)), .d (.lit (.string ⟨⟨p0.By⟩⟩))])]) (fun (_ : Unit) => m_R35_MayEpoch_j1 p0 = some r) ?_ ?_
                    · refine c_seq ?_
                      refine c_region ?_
                      refine o_s (.t (.d (.lit (.int .i64 0)))) (g0 rfl) rfl rfl rfl ?_
                      refine o_nil ?_
                      repeat (first | refine then_normal ?_ | refine then_exit ?_ | refine then_ret ?_ | refine block_normal ?_ | refine block_ret ?_ | refine block_exit ?_ | refine block_pass rfl ?_)
                      refine c_block ?_
                      refine c_fuel (fun (z38 : Int) => [(1, .box [.d (.lit (.string ⟨⟨p0.Folder⟩⟩)), .d (.lit (.int .i64 p0.Number)), .d (.lit (.int .i64 p0.Place)), .d (.lit (.int .i64 p0.From)), .d (.lit (.int .i64 p0.Seq)), .d (.seq 1 (bytesD p0.Digest)), .d (.seq 2 (List.map cS_api_At p0.Chain)), .d (.seq 1 (bytesD p0.Public)), .d (.seq 1 (bytesD p0.Link)), .d (.lit (.string ⟨⟨p0.By⟩⟩))]), (3, .t (.d (.lit (.int .i64 z38))))]) (fun nl3 => (fun (z38 : Int) => m_R35_MayEpoch_l3 p0 nl3 z38 = some r)) (p0.Chain.length + 1) 0 h ⟨(.refl _), ⟨(.refl _), trivial⟩⟩ rfl ?_
                      rintro nl3 z38 h
                      cases nl3 with
                      | zero => exact none_ne h
                      | succ nl3 =>
                        refine c_seq ?_
                        refine c_seq ?_
                        refine c_region ?_
                        refine o_s (.t (.d (.lit (.int .i64 z38)))) (g0 rfl) rfl rfl rfl ?_
                        refine o_s (.ref 1 6) (g0 rfl) rfl rfl rfl ?_
                        refine o_s (.t (.d (.seq 2 (List.map cS_api_At p0.Chain)))) (g0 rfl) rfl rfl rfl ?_
                        refine o_c (g0 rfl) rfl rfl rfl (lenE _ _) trivial ?_
                        refine o_s (.t (.d (.lit (.bool (decide (z38 < (p0.Chain.length : Int))))))) (g0 rfl) rfl rfl rfl ?_
                        refine o_nil ?_
                        repeat (first | refine then_normal ?_ | refine then_exit ?_ | refine then_ret ?_ | refine block_normal ?_ | refine block_ret ?_ | refine block_exit ?_ | refine block_pass rfl ?_)
                        rcases bif_some h with ⟨h39, h⟩ | ⟨h39, h⟩
                        · refine c_t h39 rfl ?_
                          refine c_skip ?_
                          repeat (first | refine then_normal ?_ | refine then_exit ?_ | refine then_ret ?_ | refine block_normal ?_ | refine block_ret ?_ | refine block_exit ?_ | refine block_pass rfl ?_)
                          refine c_seq ?_
                          refine c_block ?_
                          refine c_seq ?_
                          refine c_region ?_
                          refine o_s (.ref 1 6) (g0 rfl) rfl rfl rfl ?_
                          refine o_s (.t (.d (.seq 2 (List.map cS_api_At p0.Chain)))) (g0 rfl) rfl rfl rfl ?_
                          refine o_s (.t (.d (.lit (.int .i64 z38)))) (g0 rfl) rfl rfl rfl ?_
                          obtain ⟨x40, h41, h⟩ := bind_some h
                          refine o_c (g0 rfl) rfl rfl rfl (idxE h41) (idxC h41) ?_
                          refine o_s (.imm [.lit (.string ⟨⟨x40.Name⟩⟩), .lit (.int .i64 x40.Seq)]) (g0 rfl) rfl rfl rfl ?_
                          refine o_s (.t (.d (.lit (.string ⟨⟨x40.Name⟩⟩)))) (g0 rfl) rfl rfl rfl ?_
                          obtain ⟨x42, h43, h⟩ := bind_some h
                          refine o_ca (fc_R25_Name _ _ h43) (g0 rfl) rfl rfl rfl rfl rfl rfl rfl (.cons (.refl _) .nil) rfl rfl ?_
                          refine o_s (.t (.d (.lit (.bool (!x42))))) (g0 rfl) rfl rfl rfl ?_
                          refine o_s (.t (.d (.lit (.bool (!x42))))) (g0 rfl) rfl rfl rfl ?_
                          rcases bif_some h with ⟨h44, h⟩ | ⟨h44, h⟩
                          · refine o_skip rfl rfl rfl h44 rfl rfl ?_
                            refine o_skip rfl rfl rfl h44 rfl rfl ?_
                            refine o_skip rfl rfl rfl h44 rfl rfl ?_
                            refine o_skip rfl rfl rfl h44 rfl rfl ?_
                            refine o_skip rfl rfl rfl h44 rfl rfl ?_
                            refine o_skip rfl rfl rfl h44 rfl rfl ?_
                            refine o_skip rfl rfl rfl h44 rfl rfl ?_
                            refine o_skip rfl rfl rfl h44 rfl rfl ?_
                            refine o_pk (.t (.d (.lit (.bool true)))) (b := true) h44 (g0 rfl) rfl rfl rfl rfl rfl ?_
                            refine o_nil ?_
                            repeat (first | refine then_normal ?_ | refine then_exit ?_ | refine then_ret ?_ | refine block_normal ?_ | refine block_ret ?_ | refine block_exit ?_ | refine block_pass rfl ?_)
                            refine c_t rfl rfl ?_
                            refine c_seq ?_
                            refine c_region ?_
                            refine o_s (.t (.d (.lit (.bool false)))) (g0 rfl) rfl rfl rfl ?_
                            refine o_nil ?_
                            repeat (first | refine then_normal ?_ | refine then_exit ?_ | refine then_ret ?_ | refine block_normal ?_ | refine block_ret ?_ | refine block_exit ?_ | refine block_pass rfl ?_)
                            refine c_ret ?_
                            repeat (first | refine then_normal ?_ | refine then_exit ?_ | refine then_ret ?_ | refine block_normal ?_ | refine block_ret ?_ | refine block_exit ?_ | refine block_pass rfl ?_)
                            obtain rfl := Option.some.inj h
                            exact end0 rfl (.refl _)
                          · refine o_s (.ref 1 6) (gy rfl rfl rfl h44) rfl rfl rfl ?_
                            refine o_s (.t (.d (.seq 2 (List.map cS_api_At p0.Chain)))) (gy rfl rfl rfl h44) rfl rfl rfl ?_
                            refine o_s (.t (.d (.lit (.int .i64 z38)))) (gy rfl rfl rfl h44) rfl rfl rfl ?_
                            obtain ⟨x45, h46, h⟩ := bind_some h
                            refine o_c (gy rfl rfl rfl h44) rfl rfl rfl (idxE h46) (idxC h46) ?_
                            refine o_s (.imm [.lit (.int .i64 x45.Seq)]) (gy rfl rfl rfl h44) rfl rfl rfl ?_
                            refine o_s (.t (.d (.lit (.int .i64 x45.Seq)))) (gy rfl rfl rfl h44) rfl rfl rfl ?_
                            obtain ⟨x47, h48, h⟩ := bind_some h
                            refine o_ca (fc_R35_in _ _ _ _ h48) (gy rfl rfl rfl h44) rfl rfl rfl rfl rfl rfl rfl (.cons (.refl _) (.cons (.refl _) (.cons (.refl _) .nil))) rfl rfl ?_
                            refine o_s (.t (.d (.lit (.bool (!x47))))) (gy rfl rfl rfl h44) rfl rfl rfl ?_
                            refine o_pk (.t (.d (.lit (.bool (!x47))))) (b := false) h44 (g0 rfl) rfl rfl rfl rfl rfl ?_
                            refine o_nil ?_
                            repeat (first | refine then_normal ?_ | refine then_exit ?_ | refine then_ret ?_ | refine block_normal ?_ | refine block_ret ?_ | refine block_exit ?_ | refine block_pass rfl ?_)
                            rcases bif_some h with ⟨h49, h⟩ | ⟨h49, h⟩
                            · refine c_t h49 rfl ?_
                              refine c_seq ?_
                              refine c_region ?_
                              refine o_s (.t (.d (.lit (.bool false)))) (g0 rfl) rfl rfl rfl ?_
                              refine o_nil ?_
                              repeat (first | refine then_normal ?_ | refine then_exit ?_ | refine then_ret ?_ | refine block_normal ?_ | refine block_ret ?_ | refine block_exit ?_ | refine block_pass rfl ?_)
                              refine c_ret ?_
                              repeat (first | refine then_normal ?_ | refine then_exit ?_ | refine then_ret ?_ | refine block_normal ?_ | refine block_ret ?_ | refine block_exit ?_ | refine block_pass rfl ?_)
                              obtain rfl := Option.some.inj h
                              exact end0 rfl (.refl _)
                            · refine c_f h49 rfl ?_
                              refine c_skip ?_
                              repeat (first | refine then_normal ?_ | refine then_exit ?_ | refine then_ret ?_ | refine block_normal ?_ | refine block_ret ?_ | refine block_exit ?_ | refine block_pass rfl ?_)
                              refine c_region ?_
                              refine o_s (.t (.d (.lit (.int .i64 z38)))) (g0 rfl) rfl rfl rfl ?_
                              refine o_s (.t (.d (.lit (.int .i64 (wi (z38 + 1)))))) (g0 rfl) rfl rfl rfl ?_
                              refine o_s (.t (.d (.lit (.int .i64 (wi (z38 + 1)))))) (g0 rfl) rfl rfl rfl ?_
                              refine o_nil ?_
                              repeat (first | refine then_normal ?_ | refine then_exit ?_ | refine then_ret ?_ | refine block_normal ?_ | refine block_ret ?_ | refine block_exit ?_ | refine block_pass rfl ?_)
                              exact ⟨nl3, (wi (z38 + 1)), Nat.lt_succ_self nl3, h, ⟨(.refl _), ⟨(.refl _), trivial⟩⟩, rfl⟩
                        · refine c_f h39 rfl ?_
                          refine c_exit ?_
                          repeat (first | refine then_normal ?_ | refine then_exit ?_ | refine then_ret ?_ | refine block_normal ?_ | refine block_ret ?_ | refine block_exit ?_ | refine block_pass rfl ?_)
                          exact ⟨(), h, ⟨(.refl _), trivial⟩, rfl⟩
                    · rintro ⟨⟩ h
                      refine c_seq ?_
                      refine c_seq ?_
                      refine c_draw mixed (by kernel_rfl) ?_
                      refine d_s (.ref 1 6) rfl (dg0 rfl) rfl rfl rfl rfl ?_
                      refine d_s (.t (.d (.seq 2 (List.map cS_api_At p0.Chain)))) rfl (dg0 rfl) rfl rfl rfl rfl ?_
                      obtain ⟨x28, h29, h⟩ := bind_some h
                      refine d_c rfl (dg0 rfl) rfl rfl rfl rfl (idxE h29) (idxC h29) ?_
                      refine d_s (.imm [.lit (.string ⟨⟨x28.Name⟩⟩), .lit (.int .i64 x28.Seq)]) rfl (dg0 rfl) rfl rfl rfl rfl ?_
                      refine d_s (.t (.d (.lit (.string ⟨⟨x28.Name⟩⟩)))) rfl (dg0 rfl) rfl rfl rfl rfl ?_
                      refine d_s (.ref 1 0) rfl (dg0 rfl) rfl rfl rfl rfl ?_
                      refine d_s (.t (.d (.lit (.string ⟨⟨p0.Folder⟩⟩)))) rfl (dg0 rfl) rfl rfl rfl rfl ?_
                      refine d_c rfl (dg0 rfl) rfl rfl rfl rfl (congrArg (fun z => A.t (.d (.lit (.bool (!z))))) (str_beqL _ _)) trivial ?_
                      refine d_s (.t (.d (.lit (.bool (!(x28.Name == p0.Folder)))))) rfl (dg0 rfl) rfl rfl rfl rfl ?_
                      rcases bif_some h with ⟨h30, h⟩ | ⟨h30, h⟩
                      · refine d_skip rfl rfl rfl rfl rfl h30 rfl rfl rfl ?_
                        refine d_skip rfl rfl rfl rfl rfl h30 rfl rfl rfl ?_
                        refine d_skip rfl rfl rfl rfl rfl h30 rfl rfl rfl ?_
                        refine d_skip rfl rfl rfl rfl rfl h30 rfl rfl rfl ?_
                        refine d_skip rfl rfl rfl rfl rfl h30 rfl rfl rfl ?_
                        refine d_skip rfl rfl rfl rfl rfl h30 rfl rfl rfl ?_
                        refine d_skip rfl rfl rfl rfl rfl h30 rfl rfl rfl ?_
                        refine d_skip rfl rfl rfl rfl rfl h30 rfl rfl rfl ?_
                        refine d_pk (.t (.d (.lit (.bool true)))) (b := true) h30 rfl (dg0 rfl) rfl rfl rfl rfl rfl rfl ?_
                        refine d_nil (by kernel_rfl) ?_
                        repeat (first | refine then_normal ?_ | refine then_exit ?_ | refine then_ret ?_ | refine block_normal ?_ | refine block_ret ?_ | refine block_exit ?_ | refine block_pass rfl ?_)
                        refine c_t rfl rfl ?_
                        refine c_seq ?_
                        refine c_region ?_
                        refine o_s (.t (.d (.lit (.bool false)))) (g0 rfl) rfl rfl rfl ?_
                        refine o_nil ?_
                        repeat (first | refine then_normal ?_ | refine then_exit ?_ | refine then_ret ?_ | refine block_normal ?_ | refine block_ret ?_ | refine block_exit ?_ | refine block_pass rfl ?_)
                        refine c_ret ?_
                        repeat (first | refine then_normal ?_ | refine then_exit ?_ | refine then_ret ?_ | refine block_normal ?_ | refine block_ret ?_ | refine block_exit ?_ | refine block_pass rfl ?_)
                        obtain rfl := Option.some.inj h
                        exact end0 rfl (.refl _)
                      · refine d_s (.ref 1 6) rfl (dgy rfl rfl rfl rfl h30) rfl rfl rfl rfl ?_
                        refine d_s (.t (.d (.seq 2 (List.map cS_api_At p0.Chain)))) rfl (dgy rfl rfl rfl rfl h30) rfl rfl rfl rfl ?_
                        obtain ⟨x31, h32, h⟩ := bind_some h
                        refine d_c rfl (dgy rfl rfl rfl rfl h30) rfl rfl rfl rfl (idxE h32) (idxC h32) ?_
                        refine d_s (.imm [.lit (.int .i64 x31.Seq)]) rfl (dgy rfl rfl rfl rfl h30) rfl rfl rfl rfl ?_
                        refine d_s (.t (.d (.lit (.int .i64 x31.Seq)))) rfl (dgy rfl rfl rfl rfl h30) rfl rfl rfl rfl ?_
                        refine d_s (.ref 1 4) rfl (dgy rfl rfl rfl rfl h30) rfl rfl rfl rfl ?_
                        refine d_s (.t (.d (.lit (.int .i64 p0.Seq)))) rfl (dgy rfl rfl rfl rfl h30) rfl rfl rfl rfl ?_
                        refine d_s (.t (.d (.lit (.bool (x31.Seq != p0.Seq))))) rfl (dgy rfl rfl rfl rfl h30) rfl rfl rfl rfl ?_
                        refine d_pk (.t (.d (.lit (.bool (x31.Seq != p0.Seq))))) (b := false) h30 rfl (dg0 rfl) rfl rfl rfl rfl rfl rfl ?_
                        refine d_nil (by kernel_rfl) ?_
                        repeat (first | refine then_normal ?_ | refine then_exit ?_ | refine then_ret ?_ | refine block_normal ?_ | refine block_ret ?_ | refine block_exit ?_ | refine block_pass rfl ?_)
                        rcases bif_some h with ⟨h33, h⟩ | ⟨h33, h⟩
                        · refine c_t h33 rfl ?_
                          refine c_seq ?_
                          refine c_region ?_
                          refine o_s (.t (.d (.lit (.bool false)))) (g0 rfl) rfl rfl rfl ?_
                          refine o_nil ?_
                          repeat (first | refine then_normal ?_ | refine then_exit ?_ | refine then_ret ?_ | refine block_normal ?_ | refine block_ret ?_ | refine block_exit ?_ | refine block_pass rfl ?_)
                          refine c_ret ?_
                          repeat (first | refine then_normal ?_ | refine then_exit ?_ | refine then_ret ?_ | refine block_normal ?_ | refine block_ret ?_ | refine block_exit ?_ | refine block_pass rfl ?_)
                          obtain rfl := Option.some.inj h
                          exact end0 rfl (.refl _)
                        · refine c_f h33 rfl ?_
                          refine c_skip ?_
                          repeat (first | refine then_normal ?_ | refine then_exit ?_ | refine then_ret ?_ | refine block_normal ?_ | refine block_ret ?_ | refine block_exit ?_ | refine block_pass rfl ?_)
                          refine c_cut (fun (_ : Unit) => [(1, .box [.d (.lit (.string ⟨⟨p0.Folder⟩⟩)), .d (.lit (.int .i64 p0.Number)), .d (.lit (.int .i64 p0.Place)), .d (.lit (.int .i64 p0.From)), .d (.lit (.int .i64 p0.Seq)), .d (.seq 1 (bytesD p0.Digest)), .d (.seq 2 (List.map cS_api_At p0.Chain)), .d (.seq 1 (bytesD p0.Public)), .d (.seq 1 (bytesD p0.Link)), .d (.lit (.string ⟨⟨p0.By⟩⟩))])]) (fun (_ : Unit) => m_R35_MayEpoch_j2 p0 = some r) ?_ ?_
                          · refine c_seq ?_
                            refine c_region ?_
                            refine o_s (.ref 1 2) (g0 rfl) rfl rfl rfl ?_
                            refine o_s (.t (.d (.lit (.int .i64 p0.Place)))) (g0 rfl) rfl rfl rfl ?_
                            refine o_s (.t (.d (.lit (.bool (p0.Place == 1))))) (g0 rfl) rfl rfl rfl ?_
                            refine o_s (.t (.d (.lit (.bool (p0.Place == 1))))) (g0 rfl) rfl rfl rfl ?_
                            rcases bif_some h with ⟨h34, h⟩ | ⟨h34, h⟩
                            · refine o_s (.ref 1 1) (gy rfl rfl rfl h34) rfl rfl rfl ?_
                              refine o_s (.t (.d (.lit (.int .i64 p0.Number)))) (gy rfl rfl rfl h34) rfl rfl rfl ?_
                              refine o_s (.t (.d (.lit (.bool (decide (p0.Number > 1)))))) (gy rfl rfl rfl h34) rfl rfl rfl ?_
                              refine o_pk (.t (.d (.lit (.bool (decide (p0.Number > 1)))))) (b := true) h34 (g0 rfl) rfl rfl rfl rfl rfl ?_
                              refine o_nil ?_
                              repeat (first | refine then_normal ?_ | refine then_exit ?_ | refine then_ret ?_ | refine block_normal ?_ | refine block_ret ?_ | refine block_exit ?_ | refine block_pass rfl ?_)
                              rcases bif_some h with ⟨h35, h⟩ | ⟨h35, h⟩
                              · refine c_t h35 rfl ?_
                                refine c_seq ?_
                                refine c_region ?_
                                refine o_s (.ref 1 8) (g0 rfl) rfl rfl rfl ?_
                                refine o_s (.t (.d (.seq 1 (bytesD p0.Link)))) (g0 rfl) rfl rfl rfl ?_
                                refine o_c (g0 rfl) rfl rfl rfl (lenE _ _) trivial ?_
                                obtain ⟨x36, h37, h⟩ := bind_some h
                                refine o_ca (fc_R35_in _ _ _ _ h37) (g0 rfl) rfl rfl rfl rfl rfl rfl rfl (.cons (.refl _) (.cons (.refl _) (.cons (.refl _) .nil))) rfl rfl ?_
                                refine o_s (.t (.d (.lit (.bool x36)))) (g0 rfl) rfl rfl rfl ?_
                                refine o_nil ?_
                                repeat (first | refine then_normal ?_ | refine then_exit ?_ | refine then_ret ?_ | refine block_normal ?_ | refine block_ret ?_ | refine block_exit ?_ | refine block_pass rfl ?_)
                                refine c_ret ?_
                                repeat (first | refine then_normal ?_ | refine then_exit ?_ | refine then_ret ?_ | refine block_normal ?_ | refine block_ret ?_ | refine block_exit ?_ | refine block_pass rfl ?_)
                                obtain rfl := Option.some.inj h
                                exact end0 rfl (.refl _)
                              · refine c_f h35 rfl ?_
                                refine c_skip ?_
                                repeat (first | refine then_normal ?_ | refine then_exit ?_ | refine then_ret ?_ | refine block_normal ?_ | refine block_ret ?_ | refine block_exit ?_ | refine block_pass rfl ?_)
                                exact ⟨(), h, ⟨(.refl _), trivial⟩, rfl⟩
                            · refine o_skip rfl rfl rfl h34 rfl rfl ?_
                              refine o_skip rfl rfl rfl h34 rfl rfl ?_
                              refine o_skip rfl rfl rfl h34 rfl rfl ?_
                              refine o_pk (.t (.d (.lit (.bool false)))) (b := false) h34 (g0 rfl) rfl rfl rfl rfl rfl ?_
                              refine o_nil ?_
                              repeat (first | refine then_normal ?_ | refine then_exit ?_ | refine then_ret ?_ | refine block_normal ?_ | refine block_ret ?_ | refine block_exit ?_ | refine block_pass rfl ?_)
                              refine c_f rfl rfl ?_
                              refine c_skip ?_
                              repeat (first | refine then_normal ?_ | refine then_exit ?_ | refine then_ret ?_ | refine block_normal ?_ | refine block_ret ?_ | refine block_exit ?_ | refine block_pass rfl ?_)
                              exact ⟨(), h, ⟨(.refl _), trivial⟩, rfl⟩
                          · rintro ⟨⟩ h
                            refine c_seq ?_
                            refine c_region ?_
                            refine o_s (.ref 1 8) (g0 rfl) rfl rfl rfl ?_
                            refine o_s (.t (.d (.seq 1 (bytesD p0.Link)))) (g0 rfl) rfl rfl rfl ?_
                            refine o_c (g0 rfl) rfl rfl rfl (lenE _ _) trivial ?_
                            refine o_s (.t (.d (.lit (.bool ((p0.Link.length : Int) == 0))))) (g0 rfl) rfl rfl rfl ?_
                            refine o_s (.t (.d (.lit (.bool ((p0.Link.length : Int) == 0))))) (g0 rfl) rfl rfl rfl ?_
                            refine o_nil ?_
                            repeat (first | refine then_normal ?_ | refine then_exit ?_ | refine then_ret ?_ | refine block_normal ?_ | refine block_ret ?_ | refine block_exit ?_ | refine block_pass rfl ?_)
                            refine c_ret ?_
                            repeat (first | refine then_normal ?_ | refine then_exit ?_ | refine then_ret ?_ | refine block_normal ?_ | refine block_ret ?_ | refine block_exit ?_ | refine block_pass rfl ?_)
                            obtain rfl := Option.some.inj h
                            exact end0 rfl (.refl _)

theorem fc_record_ReadEpoch (p0 : (List UInt8)) (r : (S_api_EpochRecord × Int)) (h : m_record_ReadEpoch p0 = some r) : FC Tryd.prog 28 [.t (.d (.seq 1 (bytesD p0)))] [] (.tup [.agg [.lit (.string ⟨⟨r.1.Folder⟩⟩), .lit (.int .i64 r.1.Number), .lit (.int .i64 r.1.Place), .lit (.int .i64 r.1.From), .lit (.int .i64 r.1.Seq), .seq 1 (bytesD r.1.Digest), .seq 2 (List.map cS_api_At r.1.Chain), .seq 1 (bytesD r.1.Public), .seq 1 (bytesD r.1.Link), .lit (.string ⟨⟨r.1.By⟩⟩)], .d (.lit (.int .i64 r.2))]) := by
  refine fc_mk (rs := [.cell 2 58, .tmp 3]) (n := 117) Tryd.func28 rfl rfl (Nat.le_of_ble_eq_true rfl) rfl (pins := []) rfl (L := [(0, .t (.d (.seq 1 (bytesD p0))))]) rfl ?_
  refine c_seq ?_
  refine c_region ?_
  refine o_s (.box [.d (.lit (.string ⟨⟨[]⟩⟩)), .d (.lit (.int .i64 0)), .d (.lit (.int .i64 0)), .d (.lit (.int .i64 0)), .d (.lit (.int .i64 0)), .d (.lit (.slice none 0 0)), .d (.lit (.slice none 0 0)), .d (.lit (.slice none 0 0)), .d (.lit (.slice none 0 0)), .d (.lit (.string ⟨⟨[]⟩⟩))]) (g0 rfl) rfl rfl rfl ?_
  refine o_s (.t (.d (.lit (.int .i64 0)))) (g0 rfl) rfl rfl rfl ?_
  refine o_nil ?_
  repeat (first | refine then_normal ?_ | refine then_exit ?_ | refine then_ret ?_ | refine block_normal ?_ | refine block_ret ?_ | refine block_exit ?_ | refine block_pass rfl ?_)
  refine c_seq ?_
  refine c_region ?_
  refine o_s (.t (.d (.seq 1 (bytesD p0)))) (g0 rfl) rfl rfl rfl ?_
  obtain ⟨x1, h2, h⟩ := bind_some h
  refine o_ca (fc_codec_Decode _ _ h2) (g0 rfl) rfl rfl rfl rfl rfl rfl rfl (.cons (.refl _) .nil) rfl rfl ?_
  refine o_s (.tup [.agg [.lit (.int .i64 x1.1.k), .lit (.int .i64 x1.1.n), .seq 1 (bytesD x1.1.b), .seq 4 (List.map V.cells x1.1.l)], .d (.lit (.int .i64 x1.2))]) (g0 rfl) rfl rfl rfl ?_
  refine o_s (.t (.agg [.lit (.int .i64 x1.1.k), .lit (.int .i64 x1.1.n), .seq 1 (bytesD x1.1.b), .seq 4 (List.map V.cells x1.1.l)])) (g0 rfl) rfl rfl rfl ?_
  refine o_s (.t (.d (.lit (.int .i64 x1.2)))) (g0 rfl) rfl rfl rfl ?_
  refine o_s (.box [.d (.lit (.int .i64 0)), .d (.lit (.int .i64 0)), .d (.lit (.slice none 0 0)), .d (.lit (.slice none 0 0))]) (g0 rfl) rfl rfl rfl ?_
  refine o_st (.box [.d (.lit (.int .i64 x1.1.k)), .d (.lit (.int .i64 x1.1.n)), .d (.seq 1 (bytesD x1.1.b)), .d (.seq 4 (List.map V.cells x1.1.l))]) (g0 rfl) rfl rfl rfl ?_
  refine o_s (.t (.d (.lit (.int .i64 x1.2)))) (g0 rfl) rfl rfl rfl ?_
  refine o_nil ?_
  repeat (first | refine then_normal ?_ | refine then_exit ?_ | refine then_ret ?_ | refine block_normal ?_ | refine block_ret ?_ | refine block_exit ?_ | refine block_pass rfl ?_)
  refine c_seq ?_
  refine c_seq ?_
  refine c_region ?_
  refine o_s (.t (.d (.lit (.int .i64 x1.2)))) (g0 rfl) rfl rfl rfl ?_
  refine o_s (.t (.d (.lit (.bool (x1.2 != 0))))) (g0 rfl) rfl rfl rfl ?_
  refine o_nil ?_
  repeat (first | refine then_normal ?_ | refine then_exit ?_ | refine then_ret ?_ | refine block_normal ?_ | refine block_ret ?_ | refine block_exit ?_ | refine block_pass rfl ?_)
  rcases bif_some h with ⟨h3, h⟩ | ⟨h3, h⟩
  · refine c_t h3 rfl ?_
    refine c_seq ?_
    refine c_region ?_
    refine o_s (.t (.agg [.lit (.string ⟨⟨[]⟩⟩), .lit (.int .i64 0), .lit (.int .i64 0), .lit (.int .i64 0), .lit (.int .i64 0), .lit (.slice none 0 0), .lit (.slice none 0 0), .lit (.slice none 0 0), .lit (.slice none 0 0), .lit (.string ⟨⟨[]⟩⟩)])) (g0 rfl) rfl rfl (by kernel_rfl) ?_
    refine o_s (.t (.d (.lit (.int .i64 x1.2)))) (g0 rfl) rfl rfl rfl ?_
    refine o_st (.box [.d (.lit (.string ⟨⟨[]⟩⟩)), .d (.lit (.int .i64 0)), .d (.lit (.int .i64 0)), .d (.lit (.int .i64 0)), .d (.lit (.int .i64 0)), .d (.lit (.slice none 0 0)), .d (.lit (.slice none 0 0)), .d (.lit (.slice none 0 0)), .d (.lit (.slice none 0 0)), .d (.lit (.string ⟨⟨[]⟩⟩))]) (g0 rfl) rfl rfl rfl ?_
    refine o_s (.t (.d (.lit (.int .i64 x1.2)))) (g0 rfl) rfl rfl rfl ?_
    refine o_nil ?_
    repeat (first | refine then_normal ?_ | refine then_exit ?_ | refine then_ret ?_ | refine block_normal ?_ | refine block_ret ?_ | refine block_exit ?_ | refine block_pass rfl ?_)
    refine c_ret ?_
    repeat (first | refine then_normal ?_ | refine then_exit ?_ | refine then_ret ?_ | refine block_normal ?_ | refine block_ret ?_ | refine block_exit ?_ | refine block_pass rfl ?_)
    obtain rfl := Option.some.inj h
    exact end0 rfl (.tup (.cons (.agg (.cons (.refl _) (.cons (.refl _) (.cons (.refl _) (.cons (.refl _) (.cons (.refl _) (.cons (.nil _) (.cons (.nil _) (.cons (.nil _) (.cons (.nil _) (.cons (.refl _) .nil))))))))))) (.cons (.refl _) .nil)))
  · refine c_f h3 rfl ?_
    refine c_skip ?_
    repeat (first | refine then_normal ?_ | refine then_exit ?_ | refine then_ret ?_ | refine block_normal ?_ | refine block_ret ?_ | refine block_exit ?_ | refine block_pass rfl ?_)
    refine c_seq ?_
    refine c_region ?_
    refine o_s (.t (.agg [.lit (.int .i64 x1.1.k), .lit (.int .i64 x1.1.n), .seq 1 (bytesD x1.1.b), .seq 4 (List.map V.cells x1.1.l)])) (g0 rfl) rfl rfl rfl ?_
    refine o_s (.t (.own 3 1 (List.map cI64 [2, 2, 1, 1, 1, 1, 2, 3, 2, 2, 2]))) (g0 rfl) rfl rfl rfl ?_
    obtain ⟨x4, h5, h⟩ := bind_some h
    refine o_ca (fc_codec_Fields _ _ _ h5) (g0 rfl) rfl rfl rfl rfl rfl rfl rfl (.cons (.refl _) (.cons (.refl _) .nil)) rfl rfl ?_
    refine o_s (.tup [.d (.seq 4 (List.map V.cells x4.1)), .d (.lit (.bool x4.2))]) (g0 rfl) rfl rfl rfl ?_
    refine o_s (.t (.d (.seq 4 (List.map V.cells x4.1)))) (g0 rfl) rfl rfl rfl ?_
    refine o_s (.t (.d (.lit (.bool x4.2)))) (g0 rfl) rfl rfl rfl ?_
    refine o_s (.t (.d (.seq 4 (List.map V.cells x4.1)))) (g0 rfl) rfl rfl rfl ?_
    refine o_s (.t (.d (.lit (.bool x4.2)))) (g0 rfl) rfl rfl rfl ?_
    refine o_nil ?_
    repeat (first | refine then_normal ?_ | refine then_exit ?_ | refine then_ret ?_ | refine block_normal ?_ | refine block_ret ?_ | refine block_exit ?_ | refine block_pass rfl ?_)
    refine c_seq ?_
    refine c_seq ?_
    refine c_region ?_
    refine o_s (.t (.d (.lit (.bool x4.2)))) (g0 rfl) rfl rfl rfl ?_
    refine o_s (.t (.d (.lit (.bool (!x4.2))))) (g0 rfl) rfl rfl rfl ?_
    refine o_s (.t (.d (.lit (.bool (!x4.2))))) (g0 rfl) rfl rfl rfl ?_
    rcases bif_some h with ⟨h6, h⟩ | ⟨h6, h⟩
    · refine o_skip rfl rfl rfl h6 rfl rfl ?_
      refine o_skip rfl rfl rfl h6 rfl rfl ?_
      refine o_skip rfl rfl rfl h6 rfl rfl ?_
      refine o_skip rfl rfl rfl h6 rfl rfl ?_
      refine o_skip rfl rfl rfl h6 rfl rfl ?_
      refine o_skip rfl rfl rfl h6 rfl rfl ?_
      refine o_pk (.t (.d (.lit (.bool true)))) (b := true) h6 (g0 rfl) rfl rfl rfl rfl rfl ?_
      refine o_nil ?_
      repeat (first | refine then_normal ?_ | refine then_exit ?_ | refine then_ret ?_ | refine block_normal ?_ | refine block_ret ?_ | refine block_exit ?_ | refine block_pass rfl ?_)
      refine c_t rfl rfl ?_
      refine c_seq ?_
      refine c_region ?_
      refine o_s (.t (.agg [.lit (.string ⟨⟨[]⟩⟩), .lit (.int .i64 0), .lit (.int .i64 0), .lit (.int .i64 0), .lit (.int .i64 0), .lit (.slice none 0 0), .lit (.slice none 0 0), .lit (.slice none 0 0), .lit (.slice none 0 0), .lit (.string ⟨⟨[]⟩⟩)])) (g0 rfl) rfl rfl (by kernel_rfl) ?_
      refine o_st (.box [.d (.lit (.string ⟨⟨[]⟩⟩)), .d (.lit (.int .i64 0)), .d (.lit (.int .i64 0)), .d (.lit (.int .i64 0)), .d (.lit (.int .i64 0)), .d (.lit (.slice none 0 0)), .d (.lit (.slice none 0 0)), .d (.lit (.slice none 0 0)), .d (.lit (.slice none 0 0)), .d (.lit (.string ⟨⟨[]⟩⟩))]) (g0 rfl) rfl rfl rfl ?_
      refine o_s (.t (.d (.lit (.int .i64 11)))) (g0 rfl) rfl rfl rfl ?_
      refine o_nil ?_
      repeat (first | refine then_normal ?_ | refine then_exit ?_ | refine then_ret ?_ | refine block_normal ?_ | refine block_ret ?_ | refine block_exit ?_ | refine block_pass rfl ?_)
      refine c_ret ?_
      repeat (first | refine then_normal ?_ | refine then_exit ?_ | refine then_ret ?_ | refine block_normal ?_ | refine block_ret ?_ | refine block_exit ?_ | refine block_pass rfl ?_)
      obtain rfl := Option.some.inj h
      exact end0 rfl (.tup (.cons (.agg (.cons (.refl _) (.cons (.refl _) (.cons (.refl _) (.cons (.refl _) (.cons (.refl _) (.cons (.nil _) (.cons (.nil _) (.cons (.nil _) (.cons (.nil _) (.cons (.refl _) .nil))))))))))) (.cons (.refl _) .nil)))
    · refine o_s (.t (.d (.seq 4 (List.map V.cells x4.1)))) (gy rfl rfl rfl h6) rfl rfl rfl ?_
      obtain ⟨x7, h8, h⟩ := bind_some h
      refine o_c (gy rfl rfl rfl h6) rfl rfl rfl (idxE' V.cells_eq h8) (idxC h8) ?_
      refine o_s (.imm [.seq 1 (bytesD x7.b), .seq 4 (List.map V.cells x7.l)]) (gy rfl rfl rfl h6) rfl rfl rfl ?_
      refine o_s (.t (.d (.seq 1 (bytesD x7.b)))) (gy rfl rfl rfl h6) rfl rfl rfl ?_
      refine o_c (gy rfl rfl rfl h6) rfl rfl rfl (strE _) (isB_bytes _) ?_
      refine o_c (gy rfl rfl rfl h6) rfl rfl rfl (congrArg (fun z => A.t (.d (.lit (.bool (!z))))) (str_beqL _ _)) trivial ?_
      refine o_pk (.t (.d (.lit (.bool (!(x7.b == [101, 112, 111, 99, 104])))))) (b := false) h6 (g0 rfl) rfl rfl rfl rfl rfl ?_
      refine o_nil ?_
      repeat (first | refine then_normal ?_ | refine then_exit ?_ | refine then_ret ?_ | refine block_normal ?_ | refine block_ret ?_ | refine block_exit ?_ | refine block_pass rfl ?_)
      rcases bif_some h with ⟨h9, h⟩ | ⟨h9, h⟩
      · refine c_t h9 rfl ?_
        refine c_seq ?_
        refine c_region ?_
        refine o_s (.t (.agg [.lit (.string ⟨⟨[]⟩⟩), .lit (.int .i64 0), .lit (.int .i64 0), .lit (.int .i64 0), .lit (.int .i64 0), .lit (.slice none 0 0), .lit (.slice none 0 0), .lit (.slice none 0 0), .lit (.slice none 0 0), .lit (.string ⟨⟨[]⟩⟩)])) (g0 rfl) rfl rfl (by kernel_rfl) ?_
        refine o_st (.box [.d (.lit (.string ⟨⟨[]⟩⟩)), .d (.lit (.int .i64 0)), .d (.lit (.int .i64 0)), .d (.lit (.int .i64 0)), .d (.lit (.int .i64 0)), .d (.lit (.slice none 0 0)), .d (.lit (.slice none 0 0)), .d (.lit (.slice none 0 0)), .d (.lit (.slice none 0 0)), .d (.lit (.string ⟨⟨[]⟩⟩))]) (g0 rfl) rfl rfl rfl ?_
        refine o_s (.t (.d (.lit (.int .i64 11)))) (g0 rfl) rfl rfl rfl ?_
        refine o_nil ?_
        repeat (first | refine then_normal ?_ | refine then_exit ?_ | refine then_ret ?_ | refine block_normal ?_ | refine block_ret ?_ | refine block_exit ?_ | refine block_pass rfl ?_)
        refine c_ret ?_
        repeat (first | refine then_normal ?_ | refine then_exit ?_ | refine then_ret ?_ | refine block_normal ?_ | refine block_ret ?_ | refine block_exit ?_ | refine block_pass rfl ?_)
        obtain rfl := Option.some.inj h
        exact end0 rfl (.tup (.cons (.agg (.cons (.refl _) (.cons (.refl _) (.cons (.refl _) (.cons (.refl _) (.cons (.refl _) (.cons (.nil _) (.cons (.nil _) (.cons (.nil _) (.cons (.nil _) (.cons (.refl _) .nil))))))))))) (.cons (.refl _) .nil)))
      · refine c_f h9 rfl ?_
        refine c_skip ?_
        repeat (first | refine then_normal ?_ | refine then_exit ?_ | refine then_ret ?_ | refine block_normal ?_ | refine block_ret ?_ | refine block_exit ?_ | refine block_pass rfl ?_)
        refine c_seq ?_
        refine c_draw mixed (by kernel_rfl) ?_
        refine d_s (.t (.d (.seq 4 (List.map V.cells x4.1)))) rfl (dg0 rfl) rfl rfl rfl rfl ?_
        obtain ⟨x10, h11, h⟩ := bind_some h
        refine d_c rfl (dg0 rfl) rfl rfl rfl rfl (idxE' V.cells_eq h11) (idxC h11) ?_
        refine d_s (.imm [.seq 1 (bytesD x10.b), .seq 4 (List.map V.cells x10.l)]) rfl (dg0 rfl) rfl rfl rfl rfl ?_
        refine d_s (.t (.d (.seq 1 (bytesD x10.b)))) rfl (dg0 rfl) rfl rfl rfl rfl ?_
        refine d_c rfl (dg0 rfl) rfl rfl rfl rfl (strE _) (isB_bytes _) ?_
        refine d_s (.t (.d (.seq 4 (List.map V.cells x4.1)))) rfl (dg0 rfl) rfl rfl rfl rfl ?_
        obtain ⟨x12, h13, h⟩ := bind_some h
        refine d_c rfl (dg0 rfl) rfl rfl rfl rfl (idxE' V.cells_eq h13) (idxC h13) ?_
        refine d_s (.imm [.lit (.int .i64 x12.n), .seq 1 (bytesD x12.b), .seq 4 (List.map V.cells x12.l)]) rfl (dg0 rfl) rfl rfl rfl rfl ?_
        refine d_s (.t (.d (.lit (.int .i64 x12.n)))) rfl (dg0 rfl) rfl rfl rfl rfl ?_
        refine d_s (.t (.d (.seq 4 (List.map V.cells x4.1)))) rfl (dg0 rfl) rfl rfl rfl rfl ?_
        obtain ⟨x14, h15, h⟩ := bind_some h
        refine d_c rfl (dg0 rfl) rfl rfl rfl rfl (idxE' V.cells_eq h15) (idxC h15) ?_
        refine d_s (.imm [.lit (.int .i64 x14.n), .seq 1 (bytesD x14.b), .seq 4 (List.map V.cells x14.l)]) rfl (dg0 rfl) rfl rfl rfl rfl ?_
        refine d_s (.t (.d (.lit (.int .i64 x14.n)))) rfl (dg0 rfl) rfl rfl rfl rfl ?_
        refine d_s (.t (.d (.seq 4 (List.map V.cells x4.1)))) rfl (dg0 rfl) rfl rfl rfl rfl ?_
        obtain ⟨x16, h17, h⟩ := bind_some h
        refine d_c rfl (dg0 rfl) rfl rfl rfl rfl (idxE' V.cells_eq h17) (idxC h17) ?_
        refine d_s (.imm [.lit (.int .i64 x16.n), .seq 1 (bytesD x16.b), .seq 4 (List.map V.cells x16.l)]) rfl (dg0 rfl) rfl rfl rfl rfl ?_
        refine d_s (.t (.d (.lit (.int .i64 x16.n)))) rfl (dg0 rfl) rfl rfl rfl rfl ?_
        refine d_s (.t (.d (.seq 4 (List.map V.cells x4.1)))) rfl (dg0 rfl) rfl rfl rfl rfl ?_
        obtain ⟨x18, h19, h⟩ := bind_some h
        refine d_c rfl (dg0 rfl) rfl rfl rfl rfl (idxE' V.cells_eq h19) (idxC h19) ?_
        refine d_s (.imm [.lit (.int .i64 x18.n), .seq 1 (bytesD x18.b), .seq 4 (List.map V.cells x18.l)]) rfl (dg0 rfl) rfl rfl rfl rfl ?_
        refine d_s (.t (.d (.lit (.int .i64 x18.n)))) rfl (dg0 rfl) rfl rfl rfl rfl ?_
        refine d_s (.t (.d (.seq 4 (List.map V.cells x4.1)))) rfl (dg0 rfl) rfl rfl rfl rfl ?_
        obtain ⟨x20, h21, h⟩ := bind_some h
        refine d_c rfl (dg0 rfl) rfl rfl rfl rfl (idxE' V.cells_eq h21) (idxC h21) ?_
        refine d_s (.imm [.seq 1 (bytesD x20.b), .seq 4 (List.map V.cells x20.l)]) rfl (dg0 rfl) rfl rfl rfl rfl ?_
        refine d_s (.t (.d (.seq 1 (bytesD x20.b)))) rfl (dg0 rfl) rfl rfl rfl rfl ?_
        refine d_s (.t (.d (.seq 4 (List.map V.cells x4.1)))) rfl (dg0 rfl) rfl rfl rfl rfl ?_
        obtain ⟨x22, h23, h⟩ := bind_some h
        refine d_c rfl (dg0 rfl) rfl rfl rfl rfl (idxE' V.cells_eq h23) (idxC h23) ?_
        refine d_s (.imm [.seq 1 (bytesD x22.b), .seq 4 (List.map V.cells x22.l)]) rfl (dg0 rfl) rfl rfl rfl rfl ?_
        refine d_s (.t (.d (.seq 1 (bytesD x22.b)))) rfl (dg0 rfl) rfl rfl rfl rfl ?_
        refine d_s (.t (.d (.seq 4 (List.map V.cells x4.1)))) rfl (dg0 rfl) rfl rfl rfl rfl ?_
        obtain ⟨x24, h25, h⟩ := bind_some h
        refine d_c rfl (dg0 rfl) rfl rfl rfl rfl (idxE' V.cells_eq h25) (idxC h25) ?_
        refine d_s (.imm [.seq 1 (bytesD x24.b), .seq 4 (List.map V.cells x24.l)]) rfl (dg0 rfl) rfl rfl rfl rfl ?_
        refine d_s (.t (.d (.seq 1 (bytesD x24.b)))) rfl (dg0 rfl) rfl rfl rfl rfl ?_
        refine d_s (.t (.d (.seq 4 (List.map V.cells x4.1)))) rfl (dg0 rfl) rfl rfl rfl rfl ?_
        obtain ⟨x26, h27, h⟩ := bind_some h
        refine d_c rfl (dg0 rfl) rfl rfl rfl rfl (idxE' V.cells_eq h27) (idxC h27) ?_
        refine d_s (.imm [.seq 1 (bytesD x26.b), .seq 4 (List.map V.cells x26.l)]) rfl (dg0 rfl) rfl rfl rfl rfl ?_
        refine d_s (.t (.d (.seq 1 (bytesD x26.b)))) rfl (dg0 rfl) rfl rfl rfl rfl ?_
        refine d_c rfl (dg0 rfl) rfl rfl rfl rfl (strE _) (isB_bytes _) ?_
        refine d_s (.t (.agg [.lit (.string ⟨⟨x10.b⟩⟩), .lit (.int .i64 x12.n), .lit (.int .i64 x14.n), .lit (.int .i64 x16.n), .lit (.int .i64 x18.n), .seq 1 (bytesD x20.b), .lit (.slice none 0 0), .seq 1 (bytesD x22.b), .seq 1 (bytesD x24.b), .lit (.string ⟨⟨x26.b⟩⟩)])) rfl (dg0 rfl) rfl rfl rfl (by kernel_rfl) ?_
        refine d_s (.box [.d (.lit (.string ⟨⟨[]⟩⟩)), .d (.lit (.int .i64 0)), .d (.lit (.int .i64 0)), .d (.lit (.int .i64 0)), .d (.lit (.int .i64 0)), .d (.lit (.slice none 0 0)), .d (.lit (.slice none 0 0)), .d (.lit (.slice none 0 0)), .d (.lit (.slice none 0 0)), .d (.lit (.string ⟨⟨[]⟩⟩))]) rfl (dg0 rfl) rfl rfl rfl rfl ?_
        refine d_st (.box [.d (.lit (.string ⟨⟨x10.b⟩⟩)), .d (.lit (.int .i64 x12.n)), .d (.lit (.int .i64 x14.n)), .d (.lit (.int .i64 x16.n)), .d (.lit (.int .i64 x18.n)), .d (.seq 1 (bytesD x20.b)), .d (.lit (.slice none 0 0)), .d (.seq 1 (bytesD x22.b)), .d (.seq 1 (bytesD x24.b)), .d (.lit (.string ⟨⟨x26.b⟩⟩))]) rfl (dg0 rfl) rfl rfl rfl rfl ?_
        refine d_nil (by kernel_rfl) ?_
        repeat (first | refine then_normal ?_ | refine then_exit ?_ | refine then_ret ?_ | refine block_normal ?_ | refine block_ret ?_ | refine block_exit ?_ | refine block_pass rfl ?_)
        refine c_cut (fun (y28 : (List S_api_At)) => [(2, .box [.d (.lit (.string ⟨⟨[]⟩⟩)), .d (.lit (.int .i64 0)), .d (.lit (.int .i64 0)), .d (.lit (.int .i64 0)), .d (.lit (.int .i64 0)), .d (.lit (.slice none 0 0)), .d (.lit (.slice none 0 0)), .d (.lit (.slice none 0 0)), .d (.lit (.slice none 0 0)), .d (.lit (.string ⟨⟨[]⟩⟩))]), (8, .box [.d (.lit (.string ⟨⟨x10.b⟩⟩)), .d (.lit (.int .i64 x12.n)), .d (.lit (.int .i64 x14.n)), .d (.lit (.int .i64 x16.n)), .d (.lit (.int .i64 x18.n)), .d (.seq 1 (bytesD x20.b)), .own 97 2 (List.map cS_api_At y28), .d (.seq 1 (bytesD x22.b)), .d (.seq 1 (bytesD x24.b)), .d (.lit (.string ⟨⟨x26.b⟩⟩))])]) (fun (y28 : (List S_api_At)) => m_record_ReadEpoch_j1 x10 x12 x14 x16 x18 x20 x22 x24 x26 y28 = some r) ?_ ?_
        · refine c_seq ?_
          refine c_region ?_
          refine o_s (.t (.d (.seq 4 (List.map V.cells x4.1)))) (g0 rfl) rfl rfl rfl ?_
          obtain ⟨x32, h33, h⟩ := bind_some h
          refine o_c (g0 rfl) rfl rfl rfl (idxE' V.cells_eq h33) (idxC h33) ?_
          refine o_s (.imm [.seq 4 (List.map V.cells x32.l)]) (g0 rfl) rfl rfl rfl ?_
          refine o_s (.t (.d (.seq 4 (List.map V.cells x32.l)))) (g0 rfl) rfl rfl rfl ?_
          refine o_c (g0 rfl) rfl rfl rfl (lenE _ _) trivial ?_
          refine o_s (.t (.d (.lit (.int .i64 0)))) (g0 rfl) rfl rfl rfl ?_
          refine o_nil ?_
          repeat (first | refine then_normal ?_ | refine then_exit ?_ | refine then_ret ?_ | refine block_normal ?_ | refine block_ret ?_ | refine block_exit ?_ | refine block_pass rfl ?_)
          refine c_block ?_
          refine c_fuel (fun (q : (List S_api_At) × Int) => [(2, .box [.d (.lit (.string ⟨⟨[]⟩⟩)), .d (.lit (.int .i64 0)), .d (.lit (.int .i64 0)), .d (.lit (.int .i64 0)), .d (.lit (.int .i64 0)), .d (.lit (.slice none 0 0)), .d (.lit (.slice none 0 0)), .d (.lit (.slice none 0 0)), .d (.lit (.slice none 0 0)), .d (.lit (.string ⟨⟨[]⟩⟩))]), (8, .box [.d (.lit (.string ⟨⟨x10.b⟩⟩)), .d (.lit (.int .i64 x12.n)), .d (.lit (.int .i64 x14.n)), .d (.lit (.int .i64 x16.n)), .d (.lit (.int .i64 x18.n)), .d (.seq 1 (bytesD x20.b)), .own 97 2 (List.map cS_api_At q.1), .d (.seq 1 (bytesD x22.b)), .d (.seq 1 (bytesD x24.b)), .d (.lit (.string ⟨⟨x26.b⟩⟩))]), (81, .t (.d (.seq 4 (List.map V.cells x32.l)))), (82, .t (.d (.lit (.int .i64 (x32.l.length : Int))))), (83, .t (.d (.lit (.int .i64 q.2))))]) (fun nl2 => (fun (q : (List S_api_At) × Int) => m_record_ReadEpoch_l2 x32 x10 x12 x14 x16 x18 x20 x22 x24 x26 nl2 q.1 q.2 = some r)) (x32.l.length + 1) ([], 0) h ⟨(.refl _), ⟨(.box (.cons (.refl _) (.cons (.refl _) (.cons (.refl _) (.cons (.refl _) (.cons (.refl _) (.cons (.refl _) (.cons (.nilOwn _ _) (.cons (.refl _) (.cons (.refl _) (.cons (.refl _) .nil)))))))))) rfl), ⟨(.refl _), ⟨(.refl _), ⟨(.refl _), trivial⟩⟩⟩⟩⟩ rfl ?_
          rintro nl2 ⟨z34, z35⟩ h
          cases nl2 with
          | zero => exact none_ne h
          | succ nl2 =>
            refine c_seq ?_
            refine c_region ?_
            refine o_s (.t (.d (.lit (.bool (decide (z35 < (x32.l.length : Int))))))) (g0 rfl) rfl rfl rfl ?_
            refine o_nil ?_
            repeat (first | refine then_normal ?_ | refine then_exit ?_ | refine then_ret ?_ | refine block_normal ?_ | refine block_ret ?_ | refine block_exit ?_ | refine block_pass rfl ?_)
            refine c_seq ?_
            rcases bif_some h with ⟨h36, h⟩ | ⟨h36, h⟩
            · refine c_t h36 rfl ?_
              refine c_skip ?_
              repeat (first | refine then_normal ?_ | refine then_exit ?_ | refine then_ret ?_ | refine block_normal ?_ | refine block_ret ?_ | refine block_exit ?_ | refine block_pass rfl ?_)
              refine c_seq ?_
              refine c_block ?_
              refine c_seq ?_
              refine c_region ?_
              obtain ⟨x37, h38, h⟩ := bind_some h
              refine o_c (g0 rfl) rfl rfl rfl (idxE' V.cells_eq h38) (idxC h38) ?_
              refine o_s (.t (.agg [.lit (.int .i64 x37.k), .lit (.int .i64 x37.n), .seq 1 (bytesD x37.b), .seq 4 (List.map V.cells x37.l)])) (g0 rfl) rfl rfl rfl ?_
              refine o_s (.box [.d (.lit (.int .i64 0)), .d (.lit (.int .i64 0)), .d (.lit (.slice none 0 0)), .d (.lit (.slice none 0 0))]) (g0 rfl) rfl rfl rfl ?_
              refine o_st (.box [.d (.lit (.int .i64 x37.k)), .d (.lit (.int .i64 x37.n)), .d (.seq 1 (bytesD x37.b)), .d (.seq 4 (List.map V.cells x37.l))]) (g0 rfl) rfl rfl rfl ?_
              refine o_nil ?_
              repeat (first | refine then_normal ?_ | refine then_exit ?_ | refine then_ret ?_ | refine block_normal ?_ | refine block_ret ?_ | refine block_exit ?_ | refine block_pass rfl ?_)
              refine c_seq ?_
              refine c_region ?_
              refine o_s (.t (.agg [.lit (.int .i64 x37.k), .lit (.int .i64 x37.n), .seq 1 (bytesD x37.b), .seq 4 (List.map V.cells x37.l)])) (g0 rfl) rfl rfl rfl ?_
              refine o_s (.t (.own 3 1 (List.map cI64 [2, 1]))) (g0 rfl) rfl rfl rfl ?_
              obtain ⟨x39, h40, h⟩ := bind_some h
              refine o_ca (fc_codec_Fields _ _ _ h40) (g0 rfl) rfl rfl rfl rfl rfl rfl rfl (.cons (.refl _) (.cons (.refl _) .nil)) rfl rfl ?_
              refine o_s (.tup [.d (.seq 4 (List.map V.cells x39.1)), .d (.lit (.bool x39.2))]) (g0 rfl) rfl rfl rfl ?_
              refine o_s (.t (.d (.seq 4 (List.map V.cells x39.1)))) (g0 rfl) rfl rfl rfl ?_
              refine o_s (.t (.d (.lit (.bool x39.2)))) (g0 rfl) rfl rfl rfl ?_
              refine o_s (.t (.d (.seq 4 (List.map V.cells x39.1)))) (g0 rfl) rfl rfl rfl ?_
              refine o_s (.t (.d (.lit (.bool x39.2)))) (g0 rfl) rfl rfl rfl ?_
              refine o_nil ?_
              repeat (first | refine then_normal ?_ | refine then_exit ?_ | refine then_ret ?_ | refine block_normal ?_ | refine block_ret ?_ | refine block_exit ?_ | refine block_pass rfl ?_)
              refine c_seq ?_
              refine c_seq ?_
              refine c_region ?_
              refine o_s (.t (.d (.lit (.bool x39.2)))) (g0 rfl) rfl rfl rfl ?_
              refine o_s (.t (.d (.lit (.bool (!x39.2))))) (g0 rfl) rfl rfl rfl ?_
              refine o_nil ?_
              repeat (first | refine then_normal ?_ | refine then_exit ?_ | refine then_ret ?_ | refine block_normal ?_ | refine block_ret ?_ | refine block_exit ?_ | refine block_pass rfl ?_)
              rcases bif_some h with ⟨h41, h⟩ | ⟨h41, h⟩
              · refine c_t h41 rfl ?_
                refine c_seq ?_
                refine c_region ?_
                refine o_s (.t (.agg [.lit (.string ⟨⟨[]⟩⟩), .lit (.int .i64 0), .lit (.int .i64 0), .lit (.int .i64 0), .lit (.int .i64 0), .lit (.slice none 0 0), .lit (.slice none 0 0), .lit (.slice none 0 0), .lit (.slice none 0 0), .lit (.string ⟨⟨[]⟩⟩)])) (g0 rfl) rfl rfl (by kernel_rfl) ?_
                refine o_st (.box [.d (.lit (.string ⟨⟨[]⟩⟩)), .d (.lit (.int .i64 0)), .d (.lit (.int .i64 0)), .d (.lit (.int .i64 0)), .d (.lit (.int .i64 0)), .d (.lit (.slice none 0 0)), .d (.lit (.slice none 0 0)), .d (.lit (.slice none 0 0)), .d (.lit (.slice none 0 0)), .d (.lit (.string ⟨⟨[]⟩⟩))]) (g0 rfl) rfl rfl rfl ?_
                refine o_s (.t (.d (.lit (.int .i64 11)))) (g0 rfl) rfl rfl rfl ?_
                refine o_nil ?_
                repeat (first | refine then_normal ?_ | refine then_exit ?_ | refine then_ret ?_ | refine block_normal ?_ | refine block_ret ?_ | refine block_exit ?_ | refine block_pass rfl ?_)
                refine c_ret ?_
                repeat (first | refine then_normal ?_ | refine then_exit ?_ | refine then_ret ?_ | refine block_normal ?_ | refine block_ret ?_ | refine block_exit ?_ | refine block_pass rfl ?_)
                obtain rfl := Option.some.inj h
                exact end0 rfl (.tup (.cons (.agg (.cons (.refl _) (.cons (.refl _) (.cons (.refl _) (.cons (.refl _) (.cons (.refl _) (.cons (.nil _) (.cons (.nil _) (.cons (.nil _) (.cons (.nil _) (.cons (.refl _) .nil))))))))))) (.cons (.refl _) .nil)))
              · refine c_f h41 rfl ?_
                refine c_skip ?_
                repeat (first | refine then_normal ?_ | refine then_exit ?_ | refine then_ret ?_ | refine block_normal ?_ | refine block_ret ?_ | refine block_exit ?_ | refine block_pass rfl ?_)
                refine c_draw mixed (by kernel_rfl) ?_
                refine d_s (.ref 8 6) rfl (dg0 rfl) rfl rfl rfl rfl ?_
                refine d_2 (.box [.d (.lit (.string ⟨⟨x10.b⟩⟩)), .d (.lit (.int .i64 x12.n)), .d (.lit (.int .i64 x14.n)), .d (.lit (.int .i64 x16.n)), .d (.lit (.int .i64 x18.n)), .d (.seq 1 (bytesD x20.b)), .d (.seq 2 (List.map cS_api_At z34)), .d (.seq 1 (bytesD x22.b)), .d (.seq 1 (bytesD x24.b)), .d (.lit (.string ⟨⟨x26.b⟩⟩))]) (.t (.own 97 2 (List.map cS_api_At z34))) rfl (dg0 rfl) rfl rfl rfl rfl rfl ?_
                refine d_s (.t (.d (.seq 4 (List.map V.cells x39.1)))) rfl (dg0 rfl) rfl rfl rfl rfl ?_
                obtain ⟨x42, h43, h⟩ := bind_some h
                refine d_c rfl (dg0 rfl) rfl rfl rfl rfl (idxE' V.cells_eq h43) (idxC h43) ?_
                refine d_s (.imm [.seq 1 (bytesD x42.b), .seq 4 (List.map V.cells x42.l)]) rfl (dg0 rfl) rfl rfl rfl rfl ?_
                refine d_s (.t (.d (.seq 1 (bytesD x42.b)))) rfl (dg0 rfl) rfl rfl rfl rfl ?_
                refine d_c rfl (dg0 rfl) rfl rfl rfl rfl (strE _) (isB_bytes _) ?_
                refine d_s (.t (.d (.seq 4 (List.map V.cells x39.1)))) rfl (dg0 rfl) rfl rfl rfl rfl ?_
                obtain ⟨x44, h45, h⟩ := bind_some h
                refine d_c rfl (dg0 rfl) rfl rfl rfl rfl (idxE' V.cells_eq h45) (idxC h45) ?_
                refine d_s (.imm [.lit (.int .i64 x44.n), .seq 1 (bytesD x44.b), .seq 4 (List.map V.cells x44.l)]) rfl (dg0 rfl) rfl rfl rfl rfl ?_
                refine d_s (.t (.d (.lit (.int .i64 x44.n)))) rfl (dg0 rfl) rfl rfl rfl rfl ?_
                refine d_s (.t (.agg [.lit (.string ⟨⟨x42.b⟩⟩), .lit (.int .i64 x44.n)])) rfl (dg0 rfl) rfl rfl rfl rfl ?_
                refine d_s (.t (.own 97 2 (List.map cS_api_At [(S_api_At.mk x42.b x44.n)]))) rfl (dg0 rfl) rfl rfl rfl rfl ?_
                obtain ⟨x46, h47, h⟩ := bind_some h
                refine d_2c rfl (dg0 rfl) rfl rfl rfl rfl rfl (appE (c := cS_api_At) h47) (appC (c := cS_api_At) h47) ?_
                refine d_s (.ref 8 6) rfl (dg0 rfl) rfl rfl rfl rfl ?_
                refine d_st2 (.t (.d (.seq 2 (List.map cS_api_At x46)))) (.box [.d (.lit (.string ⟨⟨x10.b⟩⟩)), .d (.lit (.int .i64 x12.n)), .d (.lit (.int .i64 x14.n)), .d (.lit (.int .i64 x16.n)), .d (.lit (.int .i64 x18.n)), .d (.seq 1 (bytesD x20.b)), .own 97 2 (List.map cS_api_At x46), .d (.seq 1 (bytesD x22.b)), .d (.seq 1 (bytesD x24.b)), .d (.lit (.string ⟨⟨x26.b⟩⟩))]) rfl (dg0 rfl) rfl rfl rfl rfl rfl ?_
                refine d_nil (by kernel_rfl) ?_
                repeat (first | refine then_normal ?_ | refine then_exit ?_ | refine then_ret ?_ | refine block_normal ?_ | refine block_ret ?_ | refine block_exit ?_ | refine block_pass rfl ?_)
                refine c_region ?_
                refine o_s (.t (.d (.lit (.int .i64 (wi (z35 + 1)))))) (g0 rfl) rfl rfl rfl ?_
                refine o_s (.t (.d (.lit (.int .i64 (wi (z35 + 1)))))) (g0 rfl) rfl rfl rfl ?_
                refine o_nil ?_
                repeat (first | refine then_normal ?_ | refine then_exit ?_ | refine then_ret ?_ | refine block_normal ?_ | refine block_ret ?_ | refine block_exit ?_ | refine block_pass rfl ?_)
                exact ⟨nl2, (x46, (wi (z35 + 1))), Nat.lt_succ_self nl2, h, ⟨(.refl _), ⟨(.refl _), ⟨(.refl _), ⟨(.refl _), ⟨(.refl _), trivial⟩⟩⟩⟩⟩, rfl⟩
            · refine c_f h36 rfl ?_
              refine c_exit ?_
              repeat (first | refine then_normal ?_ | refine then_exit ?_ | refine then_ret ?_ | refine block_normal ?_ | refine block_ret ?_ | refine block_exit ?_ | refine block_pass rfl ?_)
              exact ⟨z34, h, ⟨(.refl _), ⟨(.refl _), trivial⟩⟩, rfl⟩
        · rintro y28 h
          refine c_seq ?_
          refine c_seq ?_
          refine c_region ?_
          refine o_s (.t (.agg [.lit (.string ⟨⟨x10.b⟩⟩), .lit (.int .i64 x12.n), .lit (.int .i64 x14.n), .lit (.int .i64 x16.n), .lit (.int .i64 x18.n), .seq 1 (bytesD x20.b), .seq 2 (List.map cS_api_At y28), .seq 1 (bytesD x22.b), .seq 1 (bytesD x24.b), .lit (.string ⟨⟨x26.b⟩⟩)])) (g0 rfl) rfl rfl rfl ?_
          obtain ⟨x29, h30, h⟩ := bind_some h
          refine o_ca (fc_record_mayEpoch _ _ h30) (g0 rfl) rfl rfl rfl rfl rfl rfl rfl (.cons (.refl _) .nil) rfl rfl ?_
          refine o_s (.t (.d (.lit (.bool (!x29))))) (g0 rfl) rfl rfl rfl ?_
          refine o_nil ?_
          repeat (first | refine then_normal ?_ | refine then_exit ?_ | refine then_ret ?_ | refine block_normal ?_ | refine block_ret ?_ | refine block_exit ?_ | refine block_pass rfl ?_)
          rcases bif_some h with ⟨h31, h⟩ | ⟨h31, h⟩
          · refine c_t h31 rfl ?_
            refine c_seq ?_
            refine c_region ?_
            refine o_s (.t (.agg [.lit (.string ⟨⟨[]⟩⟩), .lit (.int .i64 0), .lit (.int .i64 0), .lit (.int .i64 0), .lit (.int .i64 0), .lit (.slice none 0 0), .lit (.slice none 0 0), .lit (.slice none 0 0), .lit (.slice none 0 0), .lit (.string ⟨⟨[]⟩⟩)])) (g0 rfl) rfl rfl (by kernel_rfl) ?_
            refine o_st (.box [.d (.lit (.string ⟨⟨[]⟩⟩)), .d (.lit (.int .i64 0)), .d (.lit (.int .i64 0)), .d (.lit (.int .i64 0)), .d (.lit (.int .i64 0)), .d (.lit (.slice none 0 0)), .d (.lit (.slice none 0 0)), .d (.lit (.slice none 0 0)), .d (.lit (.slice none 0 0)), .d (.lit (.string ⟨⟨[]⟩⟩))]) (g0 rfl) rfl rfl rfl ?_
            refine o_s (.t (.d (.lit (.int .i64 11)))) (g0 rfl) rfl rfl rfl ?_
            refine o_nil ?_
            repeat (first | refine then_normal ?_ | refine then_exit ?_ | refine then_ret ?_ | refine block_normal ?_ | refine block_ret ?_ | refine block_exit ?_ | refine block_pass rfl ?_)
            refine c_ret ?_
            repeat (first | refine then_normal ?_ | refine then_exit ?_ | refine then_ret ?_ | refine block_normal ?_ | refine block_ret ?_ | refine block_exit ?_ | refine block_pass rfl ?_)
            obtain rfl := Option.some.inj h
            exact end0 rfl (.tup (.cons (.agg (.cons (.refl _) (.cons (.refl _) (.cons (.refl _) (.cons (.refl _) (.cons (.refl _) (.cons (.nil _) (.cons (.nil _) (.cons (.nil _) (.cons (.nil _) (.cons (.refl _) .nil))))))))))) (.cons (.refl _) .nil)))
          · refine c_f h31 rfl ?_
            refine c_skip ?_
            repeat (first | refine then_normal ?_ | refine then_exit ?_ | refine then_ret ?_ | refine block_normal ?_ | refine block_ret ?_ | refine block_exit ?_ | refine block_pass rfl ?_)
            refine c_seq ?_
            refine c_region ?_
            refine o_s (.t (.agg [.lit (.string ⟨⟨x10.b⟩⟩), .lit (.int .i64 x12.n), .lit (.int .i64 x14.n), .lit (.int .i64 x16.n), .lit (.int .i64 x18.n), .seq 1 (bytesD x20.b), .seq 2 (List.map cS_api_At y28), .seq 1 (bytesD x22.b), .seq 1 (bytesD x24.b), .lit (.string ⟨⟨x26.b⟩⟩)])) (g0 rfl) rfl rfl rfl ?_
            refine o_st (.box [.d (.lit (.string ⟨⟨x10.b⟩⟩)), .d (.lit (.int .i64 x12.n)), .d (.lit (.int .i64 x14.n)), .d (.lit (.int .i64 x16.n)), .d (.lit (.int .i64 x18.n)), .d (.seq 1 (bytesD x20.b)), .d (.seq 2 (List.map cS_api_At y28)), .d (.seq 1 (bytesD x22.b)), .d (.seq 1 (bytesD x24.b)), .d (.lit (.string ⟨⟨x26.b⟩⟩))]) (g0 rfl) rfl rfl rfl ?_
            refine o_s (.t (.d (.lit (.int .i64 0)))) (g0 rfl) rfl rfl rfl ?_
            refine o_nil ?_
            repeat (first | refine then_normal ?_ | refine then_exit ?_ | refine then_ret ?_ | refine block_normal ?_ | refine block_ret ?_ | refine block_exit ?_ | refine block_pass rfl ?_)
            refine c_ret ?_
            repeat (first | refine then_normal ?_ | refine then_exit ?_ | refine then_ret ?_ | refine block_normal ?_ | refine block_ret ?_ | refine block_exit ?_ | refine block_pass rfl ?_)
            obtain rfl := Option.some.inj h
            exact end0 rfl (.tup (.cons (.refl _) (.cons (.refl _) .nil)))

theorem fc_R28_Num (p0 : Int) (r : V) (h : m_R28_Num p0 = some r) : FC Tryd.prog 44 [.t (.d (.lit (.int .i64 p0)))] [] (.t (.agg [.lit (.int .i64 r.k), .lit (.int .i64 r.n), .lit (.slice none 0 0), .lit (.slice none 0 0)])) := by
  refine fc_mk (rs := [.cell 2 79]) (n := 5) Tryd.func44 rfl rfl (Nat.le_of_ble_eq_true rfl) rfl (pins := []) rfl (L := [(0, .t (.d (.lit (.int .i64 p0))))]) rfl ?_
  refine c_seq ?_
  refine c_region ?_
  refine o_s (.box [.d (.lit (.int .i64 0)), .d (.lit (.int .i64 0)), .d (.lit (.slice none 0 0)), .d (.lit (.slice none 0 0))]) (g0 rfl) rfl rfl rfl ?_
  refine o_nil ?_
  repeat (first | refine then_normal ?_ | refine then_exit ?_ | refine then_ret ?_ | refine block_normal ?_ | refine block_ret ?_ | refine block_exit ?_ | refine block_pass rfl ?_)
  refine c_seq ?_
  refine c_region ?_
  refine o_s (.t (.d (.lit (.int .i64 p0)))) (g0 rfl) rfl rfl rfl ?_
  refine o_s (.t (.agg [.lit (.int .i64 1), .lit (.int .i64 p0), .lit (.slice none 0 0), .lit (.slice none 0 0)])) (g0 rfl) rfl rfl rfl ?_
  refine o_st (.box [.d (.lit (.int .i64 1)), .d (.lit (.int .i64 p0)), .d (.lit (.slice none 0 0)), .d (.lit (.slice none 0 0))]) (g0 rfl) rfl rfl rfl ?_
  refine o_nil ?_
  repeat (first | refine then_normal ?_ | refine then_exit ?_ | refine then_ret ?_ | refine block_normal ?_ | refine block_ret ?_ | refine block_exit ?_ | refine block_pass rfl ?_)
  refine c_ret ?_
  repeat (first | refine then_normal ?_ | refine then_exit ?_ | refine then_ret ?_ | refine block_normal ?_ | refine block_ret ?_ | refine block_exit ?_ | refine block_pass rfl ?_)
  obtain rfl := Option.some.inj h
  exact end0 rfl (.refl _)

theorem fc_R28_Raw (p0 : (List UInt8)) (r : V) (h : m_R28_Raw p0 = some r) : FC Tryd.prog 45 [.t (.d (.seq 1 (bytesD p0)))] [] (.t (.agg [.lit (.int .i64 r.k), .lit (.int .i64 r.n), .seq 1 (bytesD r.b), .lit (.slice none 0 0)])) := by
  refine fc_mk (rs := [.cell 2 79]) (n := 5) Tryd.func45 rfl rfl (Nat.le_of_ble_eq_true rfl) rfl (pins := []) rfl (L := [(0, .t (.d (.seq 1 (bytesD p0))))]) rfl ?_
  refine c_seq ?_
  refine c_region ?_
  refine o_s (.box [.d (.lit (.int .i64 0)), .d (.lit (.int .i64 0)), .d (.lit (.slice none 0 0)), .d (.lit (.slice none 0 0))]) (g0 rfl) rfl rfl rfl ?_
  refine o_nil ?_
  repeat (first | refine then_normal ?_ | refine then_exit ?_ | refine then_ret ?_ | refine block_normal ?_ | refine block_ret ?_ | refine block_exit ?_ | refine block_pass rfl ?_)
  refine c_seq ?_
  refine c_region ?_
  refine o_s (.t (.d (.seq 1 (bytesD p0)))) (g0 rfl) rfl rfl rfl ?_
  refine o_s (.t (.agg [.lit (.int .i64 2), .lit (.int .i64 0), .seq 1 (bytesD p0), .lit (.slice none 0 0)])) (g0 rfl) rfl rfl rfl ?_
  refine o_st (.box [.d (.lit (.int .i64 2)), .d (.lit (.int .i64 0)), .d (.seq 1 (bytesD p0)), .d (.lit (.slice none 0 0))]) (g0 rfl) rfl rfl rfl ?_
  refine o_nil ?_
  repeat (first | refine then_normal ?_ | refine then_exit ?_ | refine then_ret ?_ | refine block_normal ?_ | refine block_ret ?_ | refine block_exit ?_ | refine block_pass rfl ?_)
  refine c_ret ?_
  repeat (first | refine then_normal ?_ | refine then_exit ?_ | refine then_ret ?_ | refine block_normal ?_ | refine block_ret ?_ | refine block_exit ?_ | refine block_pass rfl ?_)
  obtain rfl := Option.some.inj h
  exact end0 rfl (.refl _)

theorem fc_R28_Of (p0 : (List V)) (r : V) (h : m_R28_Of p0 = some r) : FC Tryd.prog 47 [.t (.d (.seq 4 (List.map V.cells p0)))] [] (.t (.agg [.lit (.int .i64 r.k), .lit (.int .i64 r.n), .lit (.slice none 0 0), .seq 4 (List.map V.cells r.l)])) := by
  refine fc_mk (rs := [.cell 2 79]) (n := 5) Tryd.func47 rfl rfl (Nat.le_of_ble_eq_true rfl) rfl (pins := []) rfl (L := [(0, .t (.d (.seq 4 (List.map V.cells p0))))]) rfl ?_
  refine c_seq ?_
  refine c_region ?_
  refine o_s (.box [.d (.lit (.int .i64 0)), .d (.lit (.int .i64 0)), .d (.lit (.slice none 0 0)), .d (.lit (.slice none 0 0))]) (g0 rfl) rfl rfl rfl ?_
  refine o_nil ?_
  repeat (first | refine then_normal ?_ | refine then_exit ?_ | refine then_ret ?_ | refine block_normal ?_ | refine block_ret ?_ | refine block_exit ?_ | refine block_pass rfl ?_)
  refine c_seq ?_
  refine c_region ?_
  refine o_s (.t (.d (.seq 4 (List.map V.cells p0)))) (g0 rfl) rfl rfl rfl ?_
  refine o_s (.t (.agg [.lit (.int .i64 3), .lit (.int .i64 0), .lit (.slice none 0 0), .seq 4 (List.map V.cells p0)])) (g0 rfl) rfl rfl rfl ?_
  refine o_st (.box [.d (.lit (.int .i64 3)), .d (.lit (.int .i64 0)), .d (.lit (.slice none 0 0)), .d (.seq 4 (List.map V.cells p0))]) (g0 rfl) rfl rfl rfl ?_
  refine o_nil ?_
  repeat (first | refine then_normal ?_ | refine then_exit ?_ | refine then_ret ?_ | refine block_normal ?_ | refine block_ret ?_ | refine block_exit ?_ | refine block_pass rfl ?_)
  refine c_ret ?_
  repeat (first | refine then_normal ?_ | refine then_exit ?_ | refine then_ret ?_ | refine block_normal ?_ | refine block_ret ?_ | refine block_exit ?_ | refine block_pass rfl ?_)
  obtain rfl := Option.some.inj h
  exact end0 rfl (.refl _)

theorem fc_R35_text (p0 : (List UInt8)) (r : V) (h : m_R35_text p0 = some r) : FC Tryd.prog 55 [.t (.d (.lit (.string ⟨⟨p0⟩⟩)))] [] (.t (.agg [.lit (.int .i64 r.k), .lit (.int .i64 r.n), .seq 1 (bytesD r.b), .lit (.slice none 0 0)])) := by
  refine fc_mk (rs := [.cell 2 79]) (n := 6) Tryd.func55 rfl rfl (Nat.le_of_ble_eq_true rfl) rfl (pins := []) rfl (L := [(0, .t (.d (.lit (.string ⟨⟨p0⟩⟩))))]) rfl ?_
  refine c_seq ?_
  refine c_region ?_
  refine o_s (.box [.d (.lit (.int .i64 0)), .d (.lit (.int .i64 0)), .d (.lit (.slice none 0 0)), .d (.lit (.slice none 0 0))]) (g0 rfl) rfl rfl rfl ?_
  refine o_nil ?_
  repeat (first | refine then_normal ?_ | refine then_exit ?_ | refine then_ret ?_ | refine block_normal ?_ | refine block_ret ?_ | refine block_exit ?_ | refine block_pass rfl ?_)
  refine c_seq ?_
  refine c_region ?_
  refine o_s (.t (.d (.lit (.string ⟨⟨p0⟩⟩)))) (g0 rfl) rfl rfl rfl ?_
  obtain ⟨x1, h2, h⟩ := bind_some h
  refine o_c (g0 rfl) rfl rfl rfl (strBE h2) (strBC h2) ?_
  obtain ⟨x3, h4, h⟩ := bind_some h
  refine o_ca (fc_R28_Raw _ _ h4) (g0 rfl) rfl rfl rfl rfl rfl rfl rfl (.cons (.refl _) .nil) rfl rfl ?_
  refine o_st (.box [.d (.lit (.int .i64 x3.k)), .d (.lit (.int .i64 x3.n)), .d (.seq 1 (bytesD x3.b)), .d (.lit (.slice none 0 0))]) (g0 rfl) rfl rfl rfl ?_
  refine o_nil ?_
  repeat (first | refine then_normal ?_ | refine then_exit ?_ | refine then_ret ?_ | refine block_normal ?_ | refine block_ret ?_ | refine block_exit ?_ | refine block_pass rfl ?_)
  refine c_ret ?_
  repeat (first | refine then_normal ?_ | refine then_exit ?_ | refine then_ret ?_ | refine block_normal ?_ | refine block_ret ?_ | refine block_exit ?_ | refine block_pass rfl ?_)
  obtain rfl := Option.some.inj h
  exact end0 rfl (.refl _)

theorem fc_R35_EpochText (p0 : S_api_EpochRecord) (r : (List UInt8)) (h : m_R35_EpochText p0 = some r) : FC Tryd.prog 29 [.t (.agg [.lit (.string ⟨⟨p0.Folder⟩⟩), .lit (.int .i64 p0.Number), .lit (.int .i64 p0.Place), .lit (.int .i64 p0.From), .lit (.int .i64 p0.Seq), .seq 1 (bytesD p0.Digest), .seq 2 (List.map cS_api_At p0.Chain), .seq 1 (bytesD p0.Public), .seq 1 (bytesD p0.Link), .lit (.string ⟨⟨p0.By⟩⟩)])] [] (.t (.own 5 1 (bytesD r))) := by
  refine fc_mk (rs := [.tmp 2]) (n := 64) Tryd.func29 rfl rfl (Nat.le_of_ble_eq_true rfl) rfl (pins := []) rfl (L := [(0, .t (.agg [.lit (.string ⟨⟨p0.Folder⟩⟩), .lit (.int .i64 p0.Number), .lit (.int .i64 p0.Place), .lit (.int .i64 p0.From), .lit (.int .i64 p0.Seq), .seq 1 (bytesD p0.Digest), .seq 2 (List.map cS_api_At p0.Chain), .seq 1 (bytesD p0.Public), .seq 1 (bytesD p0.Link), .lit (.string ⟨⟨p0.By⟩⟩)]))]) rfl ?_
  refine c_seq ?_
  refine c_region ?_
  refine o_s (.box [.d (.lit (.string ⟨⟨p0.Folder⟩⟩)), .d (.lit (.int .i64 p0.Number)), .d (.lit (.int .i64 p0.Place)), .d (.lit (.int .i64 p0.From)), .d (.lit (.int .i64 p0.Seq)), .d (.seq 1 (bytesD p0.Digest)), .d (.seq 2 (List.map cS_api_At p0.Chain)), .d (.seq 1 (bytesD p0.Public)), .d (.seq 1 (bytesD p0.Link)), .d (.lit (.string ⟨⟨p0.By⟩⟩))]) (g0 rfl) rfl rfl rfl ?_
  refine o_s (.t (.d (.lit (.slice none 0 0)))) (g0 rfl) rfl rfl rfl ?_
  refine o_nil ?_
  repeat (first | refine then_normal ?_ | refine then_exit ?_ | refine then_ret ?_ | refine block_normal ?_ | refine block_ret ?_ | refine block_exit ?_ | refine block_pass rfl ?_)
  refine c_seq ?_
  refine c_region ?_
  refine o_s (.t (.d (.lit (.slice none 0 0)))) (g0 rfl) rfl rfl rfl ?_
  refine o_nil ?_
  repeat (first | refine then_normal ?_ | refine then_exit ?_ | refine then_ret ?_ | refine block_normal ?_ | refine block_ret ?_ | refine block_exit ?_ | refine block_pass rfl ?_)
  refine c_cut (fun (y1 : (List V)) => [(1, .box [.d (.lit (.string ⟨⟨p0.Folder⟩⟩)), .d (.lit (.int .i64 p0.Number)), .d (.lit (.int .i64 p0.Place)), .d (.lit (.int .i64 p0.From)), .d (.lit (.int .i64 p0.Seq)), .d (.seq 1 (bytesD p0.Digest)), .d (.seq 2 (List.map cS_api_At p0.Chain)), .d (.seq 1 (bytesD p0.Public)), .d (.seq 1 (bytesD p0.Link)), .d (.lit (.string ⟨⟨p0.By⟩⟩))]), (3, .t (.own 79 4 (List.map V.cells y1)))]) (fun (y1 : (List V)) => m_R35_EpochText_j1 p0 y1 = some r) ?_ ?_
  · refine c_seq ?_
    refine c_region ?_
    refine o_s (.t (.d (.lit (.int .i64 0)))) (g0 rfl) rfl rfl rfl ?_
    refine o_nil ?_
    repeat (first | refine then_normal ?_ | refine then_exit ?_ | refine then_ret ?_ | refine block_normal ?_ | refine block_ret ?_ | refine block_exit ?_ | refine block_pass rfl ?_)
    refine c_block ?_
    refine c_fuel (fun (q : (List V) × Int) => [(1, .box [.d (.lit (.string ⟨⟨p0.Folder⟩⟩)), .d (.lit (.int .i64 p0.Number)), .d (.lit (.int .i64 p0.Place)), .d (.lit (.int .i64 p0.From)), .d (.lit (.int .i64 p0.Seq)), .d (.seq 1 (bytesD p0.Digest)), .d (.seq 2 (List.map cS_api_At p0.Chain)), .d (.seq 1 (bytesD p0.Public)), .d (.seq 1 (bytesD p0.Link)), .d (.lit (.string ⟨⟨p0.By⟩⟩))]), (3, .t (.own 79 4 (List.map V.cells q.1))), (4, .t (.d (.lit (.int .i64 q.2))))]) (fun nl2 => (fun (q : (List V) × Int) => m_R35_EpochText_l2 p0 nl2 q.1 q.2 = some r)) (p0.Chain.length + 1) ([], 0) h ⟨(.refl _), ⟨(.t (.nilOwn _ _)), ⟨(.refl _), trivial⟩⟩⟩ rfl ?_
    rintro nl2 ⟨z28, z29⟩ h
    cases nl2 with
    | zero => exact none_ne h
    | succ nl2 =>
      refine c_seq ?_
      refine c_seq ?_
      refine c_region ?_
      refine o_s (.t (.d (.lit (.int .i64 z29)))) (g0 rfl) rfl rfl rfl ?_
      refine o_s (.ref 1 6) (g0 rfl) rfl rfl rfl ?_
      refine o_s (.t (.d (.seq 2 (List.map cS_api_At p0.Chain)))) (g0 rfl) rfl rfl rfl ?_
      refine o_c (g0 rfl) rfl rfl rfl (lenE _ _) trivial ?_
      refine o_s (.t (.d (.lit (.bool (decide (z29 < (p0.Chain.length : Int))))))) (g0 rfl) rfl rfl rfl ?_
      refine o_nil ?_
      repeat (first | refine then_normal ?_ | refine then_exit ?_ | refine then_ret ?_ | refine block_normal ?_ | refine block_ret ?_ | refine block_exit ?_ | refine block_pass rfl ?_)
      rcases bif_some h with ⟨h30, h⟩ | ⟨h30, h⟩
      · refine c_t h30 rfl ?_
        refine c_skip ?_
        repeat (first | refine then_normal ?_ | refine then_exit ?_ | refine then_ret ?_ | refine block_normal ?_ | refine block_ret ?_ | refine block_exit ?_ | refine block_pass rfl ?_)
        refine c_seq ?_
        refine c_block ?_
        refine c_draw mixed (by kernel_rfl) ?_
        refine d_2 (.t (.d (.seq 4 (List.map V.cells z28)))) (.t (.own 79 4 (List.map V.cells z28))) rfl (dg0 rfl) rfl rfl rfl rfl rfl ?_
        refine d_s (.ref 1 6) rfl (dg0 rfl) rfl rfl rfl rfl ?_
        refine d_s (.t (.d (.seq 2 (List.map cS_api_At p0.Chain)))) rfl (dg0 rfl) rfl rfl rfl rfl ?_
        refine d_s (.t (.d (.lit (.int .i64 z29)))) rfl (dg0 rfl) rfl rfl rfl rfl ?_
        obtain ⟨x31, h32, h⟩ := bind_some h
        refine d_c rfl (dg0 rfl) rfl rfl rfl rfl (idxE h32) (idxC h32) ?_
        refine d_s (.imm [.lit (.string ⟨⟨x31.Name⟩⟩), .lit (.int .i64 x31.Seq)]) rfl (dg0 rfl) rfl rfl rfl rfl ?_
        refine d_s (.t (.d (.lit (.string ⟨⟨x31.Name⟩⟩)))) rfl (dg0 rfl) rfl rfl rfl rfl ?_
        obtain ⟨x33, h34, h⟩ := bind_some h
        refine d_ca (fc_R35_text _ _ h34) rfl (dg0 rfl) rfl rfl rfl rfl rfl rfl rfl rfl (.cons (.refl _) .nil) rfl rfl ?_
        refine d_s (.ref 1 6) rfl (dg0 rfl) rfl rfl rfl rfl ?_
        refine d_s (.t (.d (.seq 2 (List.map cS_api_At p0.Chain)))) rfl (dg0 rfl) rfl rfl rfl rfl ?_
        refine d_s (.t (.d (.lit (.int .i64 z29)))) rfl (dg0 rfl) rfl rfl rfl rfl ?_
        obtain ⟨x35, h36, h⟩ := bind_some h
        refine d_c rfl (dg0 rfl) rfl rfl rfl rfl (idxE h36) (idxC h36) ?_
        refine d_s (.imm [.lit (.int .i64 x35.Seq)]) rfl (dg0 rfl) rfl rfl rfl rfl ?_
        refine d_s (.t (.d (.lit (.int .i64 x35.Seq)))) rfl (dg0 rfl) rfl rfl rfl rfl ?_
        obtain ⟨x37, h38, h⟩ := bind_some h
        refine d_ca (fc_R28_Num _ _ h38) rfl (dg0 rfl) rfl rfl rfl rfl rfl rfl rfl rfl (.cons (.refl _) .nil) rfl rfl ?_
        refine d_w (.t (.own 79 4 (List.map V.cells [(V.mk x33.k x33.n x33.b []), (V.mk x37.k x37.n [] [])]))) rfl (dg0 rfl) rfl rfl rfl rfl (.t (.rows _ _ (.cons (.cons (.refl _) (.cons (.refl _) (.cons (.refl _) (.cons (.nil _) .nil)))) (.cons (.cons (.refl _) (.cons (.refl _) (.cons (.nil _) (.cons (.nil _) .nil)))) .nil)) (rowsE V.cells_eq [(V.mk x33.k x33.n x33.b []), (V.mk x37.k x37.n [] [])]))) (fun e => nomatch e) ?_
        obtain ⟨x39, h40, h⟩ := bind_some h
        refine d_ca (fc_R28_Of _ _ h40) rfl (dg0 rfl) rfl rfl rfl rfl rfl rfl rfl rfl (.cons (.refl _) .nil) rfl rfl ?_
        refine d_w (.t (.own 79 4 (List.map V.cells [(V.mk x39.k x39.n [] x39.l)]))) rfl (dg0 rfl) rfl rfl rfl rfl (.t (.rows _ _ (.cons (.cons (.refl _) (.cons (.refl _) (.cons (.nil _) (.cons (.refl _) .nil)))) .nil) (rowsE V.cells_eq [(V.mk x39.k x39.n [] x39.l)]))) (fun e => nomatch e) ?_
        obtain ⟨x41, h42, h⟩ := bind_some h
        refine d_2c rfl (dg0 rfl) rfl rfl rfl rfl rfl (appE (c := V.cells) h42) (appC (c := V.cells) h42) ?_
        refine d_2 (.t (.d (.seq 4 (List.map V.cells x41)))) (.t (.own 79 4 (List.map V.cells x41))) rfl (dg0 rfl) rfl rfl rfl rfl rfl ?_
        refine d_nil (by kernel_rfl) ?_
        repeat (first | refine then_normal ?_ | refine then_exit ?_ | refine then_ret ?_ | refine block_normal ?_ | refine block_ret ?_ | refine block_exit ?_ | refine block_pass rfl ?_)
        refine c_region ?_
        refine o_s (.t (.d (.lit (.int .i64 z29)))) (g0 rfl) rfl rfl rfl ?_
        refine o_s (.t (.d (.lit (.int .i64 (wi (z29 + 1)))))) (g0 rfl) rfl rfl rfl ?_
        refine o_s (.t (.d (.lit (.int .i64 (wi (z29 + 1)))))) (g0 rfl) rfl rfl rfl ?_
        refine o_nil ?_
        repeat (first | refine then_normal ?_ | refine then_exit ?_ | refine then_ret ?_ | refine block_normal ?_ | refine block_ret ?_ | refine block_exit ?_ | refine block_pass rfl ?_)
        exact ⟨nl2, (x41, (wi (z29 + 1))), Nat.lt_succ_self nl2, h, ⟨(.refl _), ⟨(.refl _), ⟨(.refl _), trivial⟩⟩⟩, rfl⟩
      · refine c_f h30 rfl ?_
        refine c_exit ?_
        repeat (first | refine then_normal ?_ | refine then_exit ?_ | refine then_ret ?_ | refine block_normal ?_ | refine block_ret ?_ | refine block_exit ?_ | refine block_pass rfl ?_)
        exact ⟨z28, h, ⟨(.refl _), ⟨(.refl _), trivial⟩⟩, rfl⟩
  · rintro y1 h
    refine c_seq ?_
    refine c_draw mixed (by kernel_rfl) ?_
    obtain ⟨x2, h3, h⟩ := bind_some h
    refine d_ca (fc_R35_text _ _ h3) rfl (dg0 rfl) rfl rfl rfl rfl rfl rfl rfl rfl (.cons (.refl _) .nil) rfl rfl ?_
    refine d_s (.ref 1 0) rfl (dg0 rfl) rfl rfl rfl rfl ?_
    refine d_s (.t (.d (.lit (.string ⟨⟨p0.Folder⟩⟩)))) rfl (dg0 rfl) rfl rfl rfl rfl ?_
    obtain ⟨x4, h5, h⟩ := bind_some h
    refine d_ca (fc_R35_text _ _ h5) rfl (dg0 rfl) rfl rfl rfl rfl rfl rfl rfl rfl (.cons (.refl _) .nil) rfl rfl ?_
    refine d_s (.ref 1 1) rfl (dg0 rfl) rfl rfl rfl rfl ?_
    refine d_s (.t (.d (.lit (.int .i64 p0.Number)))) rfl (dg0 rfl) rfl rfl rfl rfl ?_
    obtain ⟨x6, h7, h⟩ := bind_some h
    refine d_ca (fc_R28_Num _ _ h7) rfl (dg0 rfl) rfl rfl rfl rfl rfl rfl rfl rfl (.cons (.refl _) .nil) rfl rfl ?_
    refine d_s (.ref 1 2) rfl (dg0 rfl) rfl rfl rfl rfl ?_
    refine d_s (.t (.d (.lit (.int .i64 p0.Place)))) rfl (dg0 rfl) rfl rfl rfl rfl ?_
    obtain ⟨x8, h9, h⟩ := bind_some h
    refine d_ca (fc_R28_Num _ _ h9) rfl (dg0 rfl) rfl rfl rfl rfl rfl rfl rfl rfl (.cons (.refl _) .nil) rfl rfl ?_
    refine d_s (.ref 1 3) rfl (dg0 rfl) rfl rfl rfl rfl ?_
    refine d_s (.t (.d (.lit (.int .i64 p0.From)))) rfl (dg0 rfl) rfl rfl rfl rfl ?_
    obtain ⟨x10, h11, h⟩ := bind_some h
    refine d_ca (fc_R28_Num _ _ h11) rfl (dg0 rfl) rfl rfl rfl rfl rfl rfl rfl rfl (.cons (.refl _) .nil) rfl rfl ?_
    refine d_s (.ref 1 4) rfl (dg0 rfl) rfl rfl rfl rfl ?_
    refine d_s (.t (.d (.lit (.int .i64 p0.Seq)))) rfl (dg0 rfl) rfl rfl rfl rfl ?_
    obtain ⟨x12, h13, h⟩ := bind_some h
    refine d_ca (fc_R28_Num _ _ h13) rfl (dg0 rfl) rfl rfl rfl rfl rfl rfl rfl rfl (.cons (.refl _) .nil) rfl rfl ?_
    refine d_s (.ref 1 5) rfl (dg0 rfl) rfl rfl rfl rfl ?_
    refine d_s (.t (.d (.seq 1 (bytesD p0.Digest)))) rfl (dg0 rfl) rfl rfl rfl rfl ?_
    obtain ⟨x14, h15, h⟩ := bind_some h
    refine d_ca (fc_R28_Raw _ _ h15) rfl (dg0 rfl) rfl rfl rfl rfl rfl rfl rfl rfl (.cons (.refl _) .nil) rfl rfl ?_
    refine d_2 (.t (.d (.seq 4 (List.map V.cells y1)))) (.t (.own 79 4 (List.map V.cells y1))) rfl (dg0 rfl) rfl rfl rfl rfl rfl ?_
    obtain ⟨x16, h17, h⟩ := bind_some h
    refine d_ca (fc_R28_Of _ _ h17) rfl (dg0 rfl) rfl rfl rfl rfl rfl rfl rfl rfl (.cons (.refl _) .nil) rfl rfl ?_
    refine d_s (.ref 1 7) rfl (dg0 rfl) rfl rfl rfl rfl ?_
    refine d_s (.t (.d (.seq 1 (bytesD p0.Public)))) rfl (dg0 rfl) rfl rfl rfl rfl ?_
    obtain ⟨x18, h19, h⟩ := bind_some h
    refine d_ca (fc_R28_Raw _ _ h19) rfl (dg0 rfl) rfl rfl rfl rfl rfl rfl rfl rfl (.cons (.refl _) .nil) rfl rfl ?_
    refine d_s (.ref 1 8) rfl (dg0 rfl) rfl rfl rfl rfl ?_
    refine d_s (.t (.d (.seq 1 (bytesD p0.Link)))) rfl (dg0 rfl) rfl rfl rfl rfl ?_
    obtain ⟨x20, h21, h⟩ := bind_some h
    refine d_ca (fc_R28_Raw _ _ h21) rfl (dg0 rfl) rfl rfl rfl rfl rfl rfl rfl rfl (.cons (.refl _) .nil) rfl rfl ?_
    refine d_s (.ref 1 9) rfl (dg0 rfl) rfl rfl rfl rfl ?_
    refine d_s (.t (.d (.lit (.string ⟨⟨p0.By⟩⟩)))) rfl (dg0 rfl) rfl rfl rfl rfl ?_
    obtain ⟨x22, h23, h⟩ := bind_some h
    refine d_ca (fc_R35_text _ _ h23) rfl (dg0 rfl) rfl rfl rfl rfl rfl rfl rfl rfl (.cons (.refl _) .nil) rfl rfl ?_
    refine d_w (.t (.own 79 4 (List.map V.cells [(V.mk x2.k x2.n x2.b []), (V.mk x4.k x4.n x4.b []), (V.mk x6.k x6.n [] []), (V.mk x8.k x8.n [] []), (V.mk x10.k x10.n [] []), (V.mk x12.k x12.n [] []), (V.mk x14.k x14.n x14.b []), (V.mk x16.k x16.n [] x16.l), (V.mk x18.k x18.n x18.b []), (V.mk x20.k x20.n x20.b []), (V.mk x22.k x22.n x22.b [])]))) rfl (dg0 rfl) rfl rfl rfl rfl (.t (.rows _ _ (.cons (.cons (.refl _) (.cons (.refl _) (.cons (.refl _) (.cons (.nil _) .nil)))) (.cons (.cons (.refl _) (.cons (.refl _) (.cons (.refl _) (.cons (.nil _) .nil)))) (.cons (.cons (.refl _) (.cons (.refl _) (.cons (.nil _) (.cons (.nil _) .nil)))) (.cons (.cons (.refl _) (.cons (.refl _) (.cons (.nil _) (.cons (.nil _) .nil)))) (.cons (.cons (.refl _) (.cons (.refl _) (.cons (.nil _) (.cons (.nil _) .nil)))) (.cons (.cons (.refl _) (.cons (.refl _) (.cons (.nil _) (.cons (.nil _) .nil)))) (.cons (.cons (.refl _) (.cons (.refl _) (.cons (.refl _) (.cons (.nil _) .nil)))) (.cons (.cons (.refl _) (.cons (.refl _) (.cons (.nil _) (.cons (.refl _) .nil)))) (.cons (.cons (.refl _) (.cons (.refl _) (.cons (.refl _) (.cons (.nil _) .nil)))) (.cons (.cons (.refl _) (.cons (.refl _) (.cons (.refl _) (.cons (.nil _) .nil)))) (.cons (.cons (.refl _) (.cons (.refl _) (.cons (.refl _) (.cons (.nil _) .nil)))) .nil))))))))))) (rowsE V.cells_eq [(V.mk x2.k x2.n x2.b []), (V.mk x4.k x4.n x4.b []), (V.mk x6.k x6.n [] []), (V.mk x8.k x8.n [] []), (V.mk x10.k x10.n [] []), (V.mk x12.k x12.n [] []), (V.mk x14.k x14.n x14.b []), (V.mk x16.k x16.n [] x16.l), (V.mk x18.k x18.n x18.b []), (V.mk x20.k x20.n x20.b []), (V.mk x22.k x22.n x22.b [])]))) (fun e => nomatch e) ?_
    obtain ⟨x24, h25, h⟩ := bind_some h
    refine d_ca (fc_R28_Of _ _ h25) rfl (dg0 rfl) rfl rfl rfl rfl rfl rfl rfl rfl (.cons (.refl _) .nil) rfl rfl ?_
    obtain ⟨x26, h27, h⟩ := bind_some h
    refine d_ca (fc_R02_Bytes _ _ _ h27) rfl (dg0 rfl) rfl rfl rfl rfl rfl rfl rfl rfl (.cons (.t (.agg (.cons (.refl _) (.cons (.refl _) (.cons (.nil _) (.cons (.refl _) .nil)))))) .nil) rfl rfl ?_
    refine d_2 (.t (.d (.seq 1 (bytesD x26)))) (.t (.own 5 1 (bytesD x26))) rfl (dg0 rfl) rfl rfl rfl rfl rfl ?_
    refine d_nil (by kernel_rfl) ?_
    repeat (first | refine then_normal ?_ | refine then_exit ?_ | refine then_ret ?_ | refine block_normal ?_ | refine block_ret ?_ | refine block_exit ?_ | refine block_pass rfl ?_)
    refine c_ret ?_
    repeat (first | refine then_normal ?_ | refine then_exit ?_ | refine then_ret ?_ | refine block_normal ?_ | refine block_ret ?_ | refine block_exit ?_ | refine block_pass rfl ?_)
    obtain rfl := Option.some.inj h
    exact end0 rfl (.refl _)

theorem fc_R35_SameEpoch (p0 : S_api_EpochRecord) (p1 : S_api_EpochRecord) (r : Bool) (h : m_R35_SameEpoch p0 p1 = some r) : FC Tryd.prog 30 [.t (.agg [.lit (.string ⟨⟨p0.Folder⟩⟩), .lit (.int .i64 p0.Number), .lit (.int .i64 p0.Place), .lit (.int .i64 p0.From), .lit (.int .i64 p0.Seq), .seq 1 (bytesD p0.Digest), .seq 2 (List.map cS_api_At p0.Chain), .seq 1 (bytesD p0.Public), .seq 1 (bytesD p0.Link), .lit (.string ⟨⟨p0.By⟩⟩)]), .t (.agg [.lit (.string ⟨⟨p1.Folder⟩⟩), .lit (.int .i64 p1.Number), .lit (.int .i64 p1.Place), .lit (.int .i64 p1.From), .lit (.int .i64 p1.Seq), .seq 1 (bytesD p1.Digest), .seq 2 (List.map cS_api_At p1.Chain), .seq 1 (bytesD p1.Public), .seq 1 (bytesD p1.Link), .lit (.string ⟨⟨p1.By⟩⟩)])] [] (.t (.d (.lit (.bool r)))) := by
  refine fc_mk (rs := [.tmp 4]) (n := 92) Tryd.func30 rfl rfl (Nat.le_of_ble_eq_true rfl) rfl (pins := []) rfl (L := [(0, .t (.agg [.lit (.string ⟨⟨p0.Folder⟩⟩), .lit (.int .i64 p0.Number), .lit (.int .i64 p0.Place), .lit (.int .i64 p0.From), .lit (.int .i64 p0.Seq), .seq 1 (bytesD p0.Digest), .seq 2 (List.map cS_api_At p0.Chain), .seq 1 (bytesD p0.Public), .seq 1 (bytesD p0.Link), .lit (.string ⟨⟨p0.By⟩⟩)])), (1, .t (.agg [.lit (.string ⟨⟨p1.Folder⟩⟩), .lit (.int .i64 p1.Number), .lit (.int .i64 p1.Place), .lit (.int .i64 p1.From), .lit (.int .i64 p1.Seq), .seq 1 (bytesD p1.Digest), .seq 2 (List.map cS_api_At p1.Chain), .seq 1 (bytesD p1.Public), .seq 1 (bytesD p1.Link), .lit (.string ⟨⟨p1.By⟩⟩)]))]) rfl ?_
  refine c_seq ?_
  refine c_region ?_
  refine o_s (.box [.d (.lit (.string ⟨⟨p0.Folder⟩⟩)), .d (.lit (.int .i64 p0.Number)), .d (.lit (.int .i64 p0.Place)), .d (.lit (.int .i64 p0.From)), .d (.lit (.int .i64 p0.Seq)), .d (.seq 1 (bytesD p0.Digest)), .d (.seq 2 (List.map cS_api_At p0.Chain)), .d (.seq 1 (bytesD p0.Public)), .d (.seq 1 (bytesD p0.Link)), .d (.lit (.string ⟨⟨p0.By⟩⟩))]) (g0 rfl) rfl rfl rfl ?_
  refine o_s (.box [.d (.lit (.string ⟨⟨p1.Folder⟩⟩)), .d (.lit (.int .i64 p1.Number)), .d (.lit (.int .i64 p1.Place)), .d (.lit (.int .i64 p1.From)), .d (.lit (.int .i64 p1.Seq)), .d (.seq 1 (bytesD p1.Digest)), .d (.seq 2 (List.map cS_api_At p1.Chain)), .d (.seq 1 (bytesD p1.Public)), .d (.seq 1 (bytesD p1.Link)), .d (.lit (.string ⟨⟨p1.By⟩⟩))]) (g0 rfl) rfl rfl rfl ?_
  refine o_s (.t (.d (.lit (.bool false)))) (g0 rfl) rfl rfl rfl ?_
  refine o_nil ?_
  repeat (first | refine then_normal ?_ | refine then_exit ?_ | refine then_ret ?_ | refine block_normal ?_ | refine block_ret ?_ | refine block_exit ?_ | refine block_pass rfl ?_)
  refine c_seq ?_
  refine c_seq ?_
  refine c_region ?_
  refine o_s (.ref 2 0) (g0 rfl) rfl rfl rfl ?_
  refine o_s (.t (.d (.lit (.string ⟨⟨p0.Folder⟩⟩)))) (g0 rfl) rfl rfl rfl ?_
  refine o_s (.ref 3 0) (g0 rfl) rfl rfl rfl ?_
  refine o_s (.t (.d (.lit (.string ⟨⟨p1.Folder⟩⟩)))) (g0 rfl) rfl rfl rfl ?_
  refine o_c (g0 rfl) rfl rfl rfl (congrArg (fun z => A.t (.d (.lit (.bool (!z))))) (str_beqL _ _)) trivial ?_
  refine o_s (.t (.d (.lit (.bool (!(p0.Folder == p1.Folder)))))) (g0 rfl) rfl rfl rfl ?_
  rcases bif_some h with ⟨h1, h⟩ | ⟨h1, h⟩
  · refine o_skip rfl rfl rfl h1 rfl rfl ?_
    refine o_skip rfl rfl rfl h1 rfl rfl ?_
    refine o_skip rfl rfl rfl h1 rfl rfl ?_
    refine o_skip rfl rfl rfl h1 rfl rfl ?_
    refine o_skip rfl rfl rfl h1 rfl rfl ?_
    refine o_pk (.t (.d (.lit (.bool true)))) (b := true) h1 (g0 rfl) rfl rfl rfl rfl rfl ?_
    refine o_s (.t (.d (.lit (.bool true)))) (g0 rfl) rfl rfl rfl ?_
    refine o_skip rfl rfl rfl rfl rfl rfl ?_
    refine o_skip rfl rfl rfl rfl rfl rfl ?_
    refine o_skip rfl rfl rfl rfl rfl rfl ?_
    refine o_skip rfl rfl rfl rfl rfl rfl ?_
    refine o_skip rfl rfl rfl rfl rfl rfl ?_
    refine o_pk (.t (.d (.lit (.bool true)))) (b := true) rfl (g0 rfl) rfl rfl rfl rfl rfl ?_
    refine o_s (.t (.d (.lit (.bool true)))) (g0 rfl) rfl rfl rfl ?_
    refine o_skip rfl rfl rfl rfl rfl rfl ?_
    refine o_skip rfl rfl rfl rfl rfl rfl ?_
    refine o_skip rfl rfl rfl rfl rfl rfl ?_
    refine o_skip rfl rfl rfl rfl rfl rfl ?_
    refine o_skip rfl rfl rfl rfl rfl rfl ?_
    refine o_pk (.t (.d (.lit (.bool true)))) (b := true) rfl (g0 rfl) rfl rfl rfl rfl rfl ?_
    refine o_s (.t (.d (.lit (.bool true)))) (g0 rfl) rfl rfl rfl ?_
    refine o_skip rfl rfl rfl rfl rfl rfl ?_
    refine o_skip rfl rfl rfl rfl rfl rfl ?_
    refine o_skip rfl rfl rfl rfl rfl rfl ?_
    refine o_skip rfl rfl rfl rfl rfl rfl ?_
    refine o_skip rfl rfl rfl rfl rfl rfl ?_
    refine o_pk (.t (.d (.lit (.bool true)))) (b := true) rfl (g0 rfl) rfl rfl rfl rfl rfl ?_
    refine o_s (.t (.d (.lit (.bool true)))) (g0 rfl) rfl rfl rfl ?_
    refine o_skip rfl rfl rfl rfl rfl rfl ?_
    refine o_skip rfl rfl rfl rfl rfl rfl ?_
    refine o_skip rfl rfl rfl rfl rfl rfl ?_
    refine o_skip rfl rfl rfl rfl rfl rfl ?_
    refine o_skip rfl rfl rfl rfl rfl rfl ?_
    refine o_pk (.t (.d (.lit (.bool true)))) (b := true) rfl (g0 rfl) rfl rfl rfl rfl rfl ?_
    refine o_s (.t (.d (.lit (.bool true)))) (g0 rfl) rfl rfl rfl ?_
    refine o_skip rfl rfl rfl rfl rfl rfl ?_
    refine o_skip rfl rfl rfl rfl rfl rfl ?_
    refine o_skip rfl rfl rfl rfl rfl rfl ?_
    refine o_skip rfl rfl rfl rfl rfl rfl ?_
    refine o_skip rfl rfl rfl rfl rfl rfl ?_
    refine o_skip rfl rfl rfl rfl rfl rfl ?_
    refine o_skip rfl rfl rfl rfl rfl rfl ?_
    refine o_pk (.t (.d (.lit (.bool true)))) (b := true) rfl (g0 rfl) rfl rfl rfl rfl rfl ?_
    refine o_nil ?_
    repeat (first | refine then_normal ?_ | refine then_exit ?_ | refine then_ret ?_ | refine block_normal ?_ | refine block_ret ?_ | refine block_exit ?_ | refine block_pass rfl ?_)
    refine c_t rfl rfl ?_
    refine c_seq ?_
    refine c_region ?_
    refine o_s (.t (.d (.lit (.bool false)))) (g0 rfl) rfl rfl rfl ?_
    refine o_nil ?_
    repeat (first | refine then_normal ?_ | refine then_exit ?_ | refine then_ret ?_ | refine block_normal ?_ | refine block_ret ?_ | refine block_exit ?_ | refine block_pass rfl ?_)
    refine c_ret ?_
    repeat (first | refine then_normal ?_ | refine then_exit ?_ | refine then_ret ?_ | refine block_normal ?_ | refine block_ret ?_ | refine block_exit ?_ | refine block_pass rfl ?_)
    obtain rfl := Option.some.inj h
    exact end0 rfl (.refl _)
  · refine o_s (.ref 2 1) (gy rfl rfl rfl h1) rfl rfl rfl ?_
    refine o_s (.t (.d (.lit (.int .i64 p0.Number)))) (gy rfl rfl rfl h1) rfl rfl rfl ?_
    refine o_s (.ref 3 1) (gy rfl rfl rfl h1) rfl rfl rfl ?_
    refine o_s (.t (.d (.lit (.int .i64 p1.Number)))) (gy rfl rfl rfl h1) rfl rfl rfl ?_
    refine o_s (.t (.d (.lit (.bool (p0.Number != p1.Number))))) (gy rfl rfl rfl h1) rfl rfl rfl ?_
    refine o_pk (.t (.d (.lit (.bool (p0.Number != p1.Number))))) (b := false) h1 (g0 rfl) rfl rfl rfl rfl rfl ?_
    refine o_s (.t (.d (.lit (.bool (p0.Number != p1.Number))))) (g0 rfl) rfl rfl rfl ?_
    rcases bif_some h with ⟨h2, h⟩ | ⟨h2, h⟩
    · refine o_skip rfl rfl rfl h2 rfl rfl ?_
      refine o_skip rfl rfl rfl h2 rfl rfl ?_
      refine o_skip rfl rfl rfl h2 rfl rfl ?_
      refine o_skip rfl rfl rfl h2 rfl rfl ?_
      refine o_skip rfl rfl rfl h2 rfl rfl ?_
      refine o_pk (.t (.d (.lit (.bool true)))) (b := true) h2 (g0 rfl) rfl rfl rfl rfl rfl ?_
      refine o_s (.t (.d (.lit (.bool true)))) (g0 rfl) rfl rfl rfl ?_
      refine o_skip rfl rfl rfl rfl rfl rfl ?_
      refine o_skip rfl rfl rfl rfl rfl rfl ?_
      refine o_skip rfl rfl rfl rfl rfl rfl ?_
      refine o_skip rfl rfl rfl rfl rfl rfl ?_
      refine o_skip rfl rfl rfl rfl rfl rfl ?_
      refine o_pk (.t (.d (.lit (.bool true)))) (b := true) rfl (g0 rfl) rfl rfl rfl rfl rfl ?_
      refine o_s (.t (.d (.lit (.bool true)))) (g0 rfl) rfl rfl rfl ?_
      refine o_skip rfl rfl rfl rfl rfl rfl ?_
      refine o_skip rfl rfl rfl rfl rfl rfl ?_
      refine o_skip rfl rfl rfl rfl rfl rfl ?_
      refine o_skip rfl rfl rfl rfl rfl rfl ?_
      refine o_skip rfl rfl rfl rfl rfl rfl ?_
      refine o_pk (.t (.d (.lit (.bool true)))) (b := true) rfl (g0 rfl) rfl rfl rfl rfl rfl ?_
      refine o_s (.t (.d (.lit (.bool true)))) (g0 rfl) rfl rfl rfl ?_
      refine o_skip rfl rfl rfl rfl rfl rfl ?_
      refine o_skip rfl rfl rfl rfl rfl rfl ?_
      refine o_skip rfl rfl rfl rfl rfl rfl ?_
      refine o_skip rfl rfl rfl rfl rfl rfl ?_
      refine o_skip rfl rfl rfl rfl rfl rfl ?_
      refine o_pk (.t (.d (.lit (.bool true)))) (b := true) rfl (g0 rfl) rfl rfl rfl rfl rfl ?_
      refine o_s (.t (.d (.lit (.bool true)))) (g0 rfl) rfl rfl rfl ?_
      refine o_skip rfl rfl rfl rfl rfl rfl ?_
      refine o_skip rfl rfl rfl rfl rfl rfl ?_
      refine o_skip rfl rfl rfl rfl rfl rfl ?_
      refine o_skip rfl rfl rfl rfl rfl rfl ?_
      refine o_skip rfl rfl rfl rfl rfl rfl ?_
      refine o_skip rfl rfl rfl rfl rfl rfl ?_
      refine o_skip rfl rfl rfl rfl rfl rfl ?_
      refine o_pk (.t (.d (.lit (.bool true)))) (b := true) rfl (g0 rfl) rfl rfl rfl rfl rfl ?_
      refine o_nil ?_
      repeat (first | refine then_normal ?_ | refine then_exit ?_ | refine then_ret ?_ | refine block_normal ?_ | refine block_ret ?_ | refine block_exit ?_ | refine block_pass rfl ?_)
      refine c_t rfl rfl ?_
      refine c_seq ?_
      refine c_region ?_
      refine o_s (.t (.d (.lit (.bool false)))) (g0 rfl) rfl rfl rfl ?_
      refine o_nil ?_
      repeat (first | refine then_normal ?_ | refine then_exit ?_ | refine then_ret ?_ | refine block_normal ?_ | refine block_ret ?_ | refine block_exit ?_ | refine block_pass rfl ?_)
      refine c_ret ?_
      repeat (first | refine then_normal ?_ | refine then_exit ?_ | refine then_ret ?_ | refine block_normal ?_ | refine block_ret ?_ | refine block_exit ?_ | refine block_pass rfl ?_)
      obtain rfl := Option.some.inj h
      exact end0 rfl (.refl _)
    · refine o_s (.ref 2 2) (gy rfl rfl rfl h2) rfl rfl rfl ?_
      refine o_s (.t (.d (.lit (.int .i64 p0.Place)))) (gy rfl rfl rfl h2) rfl rfl rfl ?_
      refine o_s (.ref 3 2) (gy rfl rfl rfl h2) rfl rfl rfl ?_
      refine o_s (.t (.d (.lit (.int .i64 p1.Place)))) (gy rfl rfl rfl h2) rfl rfl rfl ?_
      refine o_s (.t (.d (.lit (.bool (p0.Place != p1.Place))))) (gy rfl rfl rfl h2) rfl rfl rfl ?_
      refine o_pk (.t (.d (.lit (.bool (p0.Place != p1.Place))))) (b := false) h2 (g0 rfl) rfl rfl rfl rfl rfl ?_
      refine o_s (.t (.d (.lit (.bool (p0.Place != p1.Place))))) (g0 rfl) rfl rfl rfl ?_
      rcases bif_some h with ⟨h3, h⟩ | ⟨h3, h⟩
      · refine o_skip rfl rfl rfl h3 rfl rfl ?_
        refine o_skip rfl rfl rfl h3 rfl rfl ?_
        refine o_skip rfl rfl rfl h3 rfl rfl ?_
        refine o_skip rfl rfl rfl h3 rfl rfl ?_
        refine o_skip rfl rfl rfl h3 rfl rfl ?_
        refine o_pk (.t (.d (.lit (.bool true)))) (b := true) h3 (g0 rfl) rfl rfl rfl rfl rfl ?_
        refine o_s (.t (.d (.lit (.bool true)))) (g0 rfl) rfl rfl rfl ?_
        refine o_skip rfl rfl rfl rfl rfl rfl ?_
        refine o_skip rfl rfl rfl rfl rfl rfl ?_
        refine o_skip rfl rfl rfl rfl rfl rfl ?_
        refine o_skip rfl rfl rfl rfl rfl rfl ?_
        refine o_skip rfl rfl rfl rfl rfl rfl ?_
        refine o_pk (.t (.d (.lit (.bool true)))) (b := true) rfl (g0 rfl) rfl rfl rfl rfl rfl ?_
        refine o_s (.t (.d (.lit (.bool true)))) (g0 rfl) rfl rfl rfl ?_
        refine o_skip rfl rfl rfl rfl rfl rfl ?_
        refine o_skip rfl rfl rfl rfl rfl rfl ?_
        refine o_skip rfl rfl rfl rfl rfl rfl ?_
        refine o_skip rfl rfl rfl rfl rfl rfl ?_
        refine o_skip rfl rfl rfl rfl rfl rfl ?_
        refine o_pk (.t (.d (.lit (.bool true)))) (b := true) rfl (g0 rfl) rfl rfl rfl rfl rfl ?_
        refine o_s (.t (.d (.lit (.bool true)))) (g0 rfl) rfl rfl rfl ?_
        refine o_skip rfl rfl rfl rfl rfl rfl ?_
        refine o_skip rfl rfl rfl rfl rfl rfl ?_
        refine o_skip rfl rfl rfl rfl rfl rfl ?_
        refine o_skip rfl rfl rfl rfl rfl rfl ?_
        refine o_skip rfl rfl rfl rfl rfl rfl ?_
        refine o_skip rfl rfl rfl rfl rfl rfl ?_
        refine o_skip rfl rfl rfl rfl rfl rfl ?_
        refine o_pk (.t (.d (.lit (.bool true)))) (b := true) rfl (g0 rfl) rfl rfl rfl rfl rfl ?_
        refine o_nil ?_
        repeat (first | refine then_normal ?_ | refine then_exit ?_ | refine then_ret ?_ | refine block_normal ?_ | refine block_ret ?_ | refine block_exit ?_ | refine block_pass rfl ?_)
        refine c_t rfl rfl ?_
        refine c_seq ?_
        refine c_region ?_
        refine o_s (.t (.d (.lit (.bool false)))) (g0 rfl) rfl rfl rfl ?_
        refine o_nil ?_
        repeat (first | refine then_normal ?_ | refine then_exit ?_ | refine then_ret ?_ | refine block_normal ?_ | refine block_ret ?_ | refine block_exit ?_ | refine block_pass rfl ?_)
        refine c_ret ?_
        repeat (first | refine then_normal ?_ | refine then_exit ?_ | refine then_ret ?_ | refine block_normal ?_ | refine block_ret ?_ | refine block_exit ?_ | refine block_pass rfl ?_)
        obtain rfl := Option.some.inj h
        exact end0 rfl (.refl _)
      · refine o_s (.ref 2 3) (gy rfl rfl rfl h3) rfl rfl rfl ?_
        refine o_s (.t (.d (.lit (.int .i64 p0.From)))) (gy rfl rfl rfl h3) rfl rfl rfl ?_
        refine o_s (.ref 3 3) (gy rfl rfl rfl h3) rfl rfl rfl ?_
        refine o_s (.t (.d (.lit (.int .i64 p1.From)))) (gy rfl rfl rfl h3) rfl rfl rfl ?_
        refine o_s (.t (.d (.lit (.bool (p0.From != p1.From))))) (gy rfl rfl rfl h3) rfl rfl rfl ?_
        refine o_pk (.t (.d (.lit (.bool (p0.From != p1.From))))) (b := false) h3 (g0 rfl) rfl rfl rfl rfl rfl ?_
        refine o_s (.t (.d (.lit (.bool (p0.From != p1.From))))) (g0 rfl) rfl rfl rfl ?_
        rcases bif_some h with ⟨h4, h⟩ | ⟨h4, h⟩
        · refine o_skip rfl rfl rfl h4 rfl rfl ?_
          refine o_skip rfl rfl rfl h4 rfl rfl ?_
          refine o_skip rfl rfl rfl h4 rfl rfl ?_
          refine o_skip rfl rfl rfl h4 rfl rfl ?_
          refine o_skip rfl rfl rfl h4 rfl rfl ?_
          refine o_pk (.t (.d (.lit (.bool true)))) (b := true) h4 (g0 rfl) rfl rfl rfl rfl rfl ?_
          refine o_s (.t (.d (.lit (.bool true)))) (g0 rfl) rfl rfl rfl ?_
          refine o_skip rfl rfl rfl rfl rfl rfl ?_
          refine o_skip rfl rfl rfl rfl rfl rfl ?_
          refine o_skip rfl rfl rfl rfl rfl rfl ?_
          refine o_skip rfl rfl rfl rfl rfl rfl ?_
          refine o_skip rfl rfl rfl rfl rfl rfl ?_
          refine o_pk (.t (.d (.lit (.bool true)))) (b := true) rfl (g0 rfl) rfl rfl rfl rfl rfl ?_
          refine o_s (.t (.d (.lit (.bool true)))) (g0 rfl) rfl rfl rfl ?_
          refine o_skip rfl rfl rfl rfl rfl rfl ?_
          refine o_skip rfl rfl rfl rfl rfl rfl ?_
          refine o_skip rfl rfl rfl rfl rfl rfl ?_
          refine o_skip rfl rfl rfl rfl rfl rfl ?_
          refine o_skip rfl rfl rfl rfl rfl rfl ?_
          refine o_skip rfl rfl rfl rfl rfl rfl ?_
          refine o_skip rfl rfl rfl rfl rfl rfl ?_
          refine o_pk (.t (.d (.lit (.bool true)))) (b := true) rfl (g0 rfl) rfl rfl rfl rfl rfl ?_
          refine o_nil ?_
          repeat (first | refine then_normal ?_ | refine then_exit ?_ | refine then_ret ?_ | refine block_normal ?_ | refine block_ret ?_ | refine block_exit ?_ | refine block_pass rfl ?_)
          refine c_t rfl rfl ?_
          refine c_seq ?_
          refine c_region ?_
          refine o_s (.t (.d (.lit (.bool false)))) (g0 rfl) rfl rfl rfl ?_
          refine o_nil ?_
          repeat (first | refine then_normal ?_ | refine then_exit ?_ | refine then_ret ?_ | refine block_normal ?_ | refine block_ret ?_ | refine block_exit ?_ | refine block_pass rfl ?_)
          refine c_ret ?_
          repeat (first | refine then_normal ?_ | refine then_exit ?_ | refine then_ret ?_ | refine block_normal ?_ | refine block_ret ?_ | refine block_exit ?_ | refine block_pass rfl ?_)
          obtain rfl := Option.some.inj h
          exact end0 rfl (.refl _)
        · refine o_s (.ref 2 4) (gy rfl rfl rfl h4) rfl rfl rfl ?_
          refine o_s (.t (.d (.lit (.int .i64 p0.Seq)))) (gy rfl rfl rfl h4) rfl rfl rfl ?_
          refine o_s (.ref 3 4) (gy rfl rfl rfl h4) rfl rfl rfl ?_
          refine o_s (.t (.d (.lit (.int .i64 p1.Seq)))) (gy rfl rfl rfl h4) rfl rfl rfl ?_
          refine o_s (.t (.d (.lit (.bool (p0.Seq != p1.Seq))))) (gy rfl rfl rfl h4) rfl rfl rfl ?_
          refine o_pk (.t (.d (.lit (.bool (p0.Seq != p1.Seq))))) (b := false) h4 (g0 rfl) rfl rfl rfl rfl rfl ?_
          refine o_s (.t (.d (.lit (.bool (p0.Seq != p1.Seq))))) (g0 rfl) rfl rfl rfl ?_
          rcases bif_some h with ⟨h5, h⟩ | ⟨h5, h⟩
          · refine o_skip rfl rfl rfl h5 rfl rfl ?_
            refine o_skip rfl rfl rfl h5 rfl rfl ?_
            refine o_skip rfl rfl rfl h5 rfl rfl ?_
            refine o_skip rfl rfl rfl h5 rfl rfl ?_
            refine o_skip rfl rfl rfl h5 rfl rfl ?_
            refine o_pk (.t (.d (.lit (.bool true)))) (b := true) h5 (g0 rfl) rfl rfl rfl rfl rfl ?_
            refine o_s (.t (.d (.lit (.bool true)))) (g0 rfl) rfl rfl rfl ?_
            refine o_skip rfl rfl rfl rfl rfl rfl ?_
            refine o_skip rfl rfl rfl rfl rfl rfl ?_
            refine o_skip rfl rfl rfl rfl rfl rfl ?_
            refine o_skip rfl rfl rfl rfl rfl rfl ?_
            refine o_skip rfl rfl rfl rfl rfl rfl ?_
            refine o_skip rfl rfl rfl rfl rfl rfl ?_
            refine o_skip rfl rfl rfl rfl rfl rfl ?_
            refine o_pk (.t (.d (.lit (.bool true)))) (b := true) rfl (g0 rfl) rfl rfl rfl rfl rfl ?_
            refine o_nil ?_
            repeat (first | refine then_normal ?_ | refine then_exit ?_ | refine then_ret ?_ | refine block_normal ?_ | refine block_ret ?_ | refine block_exit ?_ | refine block_pass rfl ?_)
            refine c_t rfl rfl ?_
            refine c_seq ?_
            refine c_region ?_
            refine o_s (.t (.d (.lit (.bool false)))) (g0 rfl) rfl rfl rfl ?_
            refine o_nil ?_
            repeat (first | refine then_normal ?_ | refine then_exit ?_ | refine then_ret ?_ | refine block_normal ?_ | refine block_ret ?_ | refine block_exit ?_ | refine block_pass rfl ?_)
            refine c_ret ?_
            repeat (first | refine then_normal ?_ | refine then_exit ?_ | refine then_ret ?_ | refine block_normal ?_ | refine block_ret ?_ | refine block_exit ?_ | refine block_pass rfl ?_)
            obtain rfl := Option.some.inj h
            exact end0 rfl (.refl _)
          · refine o_s (.ref 2 9) (gy rfl rfl rfl h5) rfl rfl rfl ?_
            refine o_s (.t (.d (.lit (.string ⟨⟨p0.By⟩⟩)))) (gy rfl rfl rfl h5) rfl rfl rfl ?_
            refine o_s (.ref 3 9) (gy rfl rfl rfl h5) rfl rfl rfl ?_
            refine o_s (.t (.d (.lit (.string ⟨⟨p1.By⟩⟩)))) (gy rfl rfl rfl h5) rfl rfl rfl ?_
            refine o_c (gy rfl rfl rfl h5) rfl rfl rfl (congrArg (fun z => A.t (.d (.lit (.bool (!z))))) (str_beqL _ _)) trivial ?_
            refine o_pk (.t (.d (.lit (.bool (!(p0.By == p1.By)))))) (b := false) h5 (g0 rfl) rfl rfl rfl rfl rfl ?_
            refine o_s (.t (.d (.lit (.bool (!(p0.By == p1.By)))))) (g0 rfl) rfl rfl rfl ?_
            rcases bif_some h with ⟨h6, h⟩ | ⟨h6, h⟩
            · refine o_skip rfl rfl rfl h6 rfl rfl ?_
              refine o_skip rfl rfl rfl h6 rfl rfl ?_
              refine o_skip rfl rfl rfl h6 rfl rfl ?_
              refine o_skip rfl rfl rfl h6 rfl rfl ?_
              refine o_skip rfl rfl rfl h6 rfl rfl ?_
              refine o_skip rfl rfl rfl h6 rfl rfl ?_
              refine o_skip rfl rfl rfl h6 rfl rfl ?_
              refine o_pk (.t (.d (.lit (.bool true)))) (b := true) h6 (g0 rfl) rfl rfl rfl rfl rfl ?_
              refine o_nil ?_
              repeat (first | refine then_normal ?_ | refine then_exit ?_ | refine then_ret ?_ | refine block_normal ?_ | refine block_ret ?_ | refine block_exit ?_ | refine block_pass rfl ?_)
              refine c_t rfl rfl ?_
              refine c_seq ?_
              refine c_region ?_
              refine o_s (.t (.d (.lit (.bool false)))) (g0 rfl) rfl rfl rfl ?_
              refine o_nil ?_
              repeat (first | refine then_normal ?_ | refine then_exit ?_ | refine then_ret ?_ | refine block_normal ?_ | refine block_ret ?_ | refine block_exit ?_ | refine block_pass rfl ?_)
              refine c_ret ?_
              repeat (first | refine then_normal ?_ | refine then_exit ?_ | refine then_ret ?_ | refine block_normal ?_ | refine block_ret ?_ | refine block_exit ?_ | refine block_pass rfl ?_)
              obtain rfl := Option.some.inj h
              exact end0 rfl (.refl _)
            · refine o_s (.ref 2 6) (gy rfl rfl rfl h6) rfl rfl rfl ?_
              refine o_s (.t (.d (.seq 2 (List.map cS_api_At p0.Chain)))) (gy rfl rfl rfl h6) rfl rfl rfl ?_
              refine o_c (gy rfl rfl rfl h6) rfl rfl rfl (lenE _ _) trivial ?_
              refine o_s (.ref 3 6) (gy rfl rfl rfl h6) rfl rfl rfl ?_
              refine o_s (.t (.d (.seq 2 (List.map cS_api_At p1.Chain)))) (gy rfl rfl rfl h6) rfl rfl rfl ?_
              refine o_c (gy rfl rfl rfl h6) rfl rfl rfl (lenE _ _) trivial ?_
              refine o_s (.t (.d (.lit (.bool ((p0.Chain.length : Int) != (p1.Chain.length : Int)))))) (gy rfl rfl rfl h6) rfl rfl rfl ?_
              refine o_pk (.t (.d (.lit (.bool ((p0.Chain.length : Int) != (p1.Chain.length : Int)))))) (b := false) h6 (g0 rfl) rfl rfl rfl rfl rfl ?_
              refine o_nil ?_
              repeat (first | refine then_normal ?_ | refine then_exit ?_ | refine then_ret ?_ | refine block_normal ?_ | refine block_ret ?_ | refine block_exit ?_ | refine block_pass rfl ?_)
              rcases bif_some h with ⟨h7, h⟩ | ⟨h7, h⟩
              · refine c_t h7 rfl ?_
                refine c_seq ?_
                refine c_region ?_
                refine o_s (.t (.d (.lit (.bool false)))) (g0 rfl) rfl rfl rfl ?_
                refine o_nil ?_
                repeat (first | refine then_normal ?_ | refine then_exit ?_ | refine then_ret ?_ | refine block_normal ?_ | refine block_ret ?_ | refine block_exit ?_ | refine block_pass rfl ?_)
                refine c_ret ?_
                repeat (first | refine then_normal ?_ | refine then_exit ?_ | refine then_ret ?_ | refine block_normal ?_ | refine block_ret ?_ | refine block_exit ?_ | refine block_pass rfl ?_)
                obtain rfl := Option.some.inj h
                exact end0 rfl (.refl _)
              · refine c_f h7 rfl ?_
                refine c_skip ?_
                repeat (first | refine then_normal ?_ | refine then_exit ?_ | refine then_ret ?_ | refine block_normal ?_ | refine block_ret ?_ | refine block_exit ?_ | refine block_pass rfl ?_)
                refine c_cut (fun (_ : Unit) => [(2, .box [.d (.lit (.string ⟨⟨p0.Folder⟩⟩)), .d (.lit (.int .i64 p0.Number)), .d (.lit (.int .i64 p0.Place)), .d (.lit (.int .i64 p0.From)), .d (.lit (.int .i64 p0.Seq)), .d (.seq 1 (bytesD p0.Digest)), .d (.seq 2 (List.map cS_api_At p0.Chain)), .d (.seq 1 (bytesD p0.Public)), .d (.seq 1 (bytesD p0.Link)), .d (.lit (.string ⟨⟨p0.By⟩⟩))]), (3, .box [.d (.lit (.string ⟨⟨p1.Folder⟩⟩)), .d (.lit (.int .i64 p1.Number)), .d (.lit (.int .i64 p1.Place)), .d (.lit (.int .i64 p1.From)), .d (.lit (.int .i64 p1.Seq)), .d (.seq 1 (bytesD p1.Digest)), .d (.seq 2 (List.map cS_api_At p1.Chain)), .d (.seq 1 (bytesD p1.Public)), .d (.seq 1 (bytesD p1.Link)), .d (.lit (.string ⟨⟨p1.By⟩⟩))])]) (fun (_ : Unit) => m_R35_SameEpoch_j1 p0 p1 = some r) ?_ ?_
                · refine c_seq ?_
                  refine c_region ?_
                  refine o_s (.t (.d (.lit (.int .i64 0)))) (g0 rfl) rfl rfl rfl ?_
                  refine o_nil ?_
                  repeat (first | refine then_normal ?_ | refine then_exit ?_ | refine then_ret ?_ | refine block_normal ?_ | refine block_ret ?_ | refine block_exit ?_ | refine block_pass rfl ?_)
                  refine c_block ?_
                  refine c_fuel (fun (z16 : Int) => [(2, .box [.d (.lit (.string ⟨⟨p0.Folder⟩⟩)), .d (.lit (.int .i64 p0.Number)), .d (.lit (.int .i64 p0.Place)), .d (.lit (.int .i64 p0.From)), .d (.lit (.int .i64 p0.Seq)), .d (.seq 1 (bytesD p0.Digest)), .d (.seq 2 (List.map cS_api_At p0.Chain)), .d (.seq 1 (bytesD p0.Public)), .d (.seq 1 (bytesD p0.Link)), .d (.lit (.string ⟨⟨p0.By⟩⟩))]), (3, .box [.d (.lit (.string ⟨⟨p1.Folder⟩⟩)), .d (.lit (.int .i64 p1.Number)), .d (.lit (.int .i64 p1.Place)), .d (.lit (.int .i64 p1.From)), .d (.lit (.int .i64 p1.Seq)), .d (.seq 1 (bytesD p1.Digest)), .d (.seq 2 (List.map cS_api_At p1.Chain)), .d (.seq 1 (bytesD p1.Public)), .d (.seq 1 (bytesD p1.Link)), .d (.lit (.string ⟨⟨p1.By⟩⟩))]), (5, .t (.d (.lit (.int .i64 z16))))]) (fun nl2 => (fun (z16 : Int) => m_R35_SameEpoch_l2 p0 p1 nl2 z16 = some r)) (p0.Chain.length + 1) 0 h ⟨(.refl _), ⟨(.refl _), ⟨(.refl _), trivial⟩⟩⟩ rfl ?_
                  rintro nl2 z16 h
                  cases nl2 with
                  | zero => exact none_ne h
                  | succ nl2 =>
                    refine c_seq ?_
                    refine c_seq ?_
                    refine c_region ?_
                    refine o_s (.t (.d (.lit (.int .i64 z16)))) (g0 rfl) rfl rfl rfl ?_
                    refine o_s (.ref 2 6) (g0 rfl) rfl rfl rfl ?_
                    refine o_s (.t (.d (.seq 2 (List.map cS_api_At p0.Chain)))) (g0 rfl) rfl rfl rfl ?_
                    refine o_c (g0 rfl) rfl rfl rfl (lenE _ _) trivial ?_
                    refine o_s (.t (.d (.lit (.bool (decide (z16 < (p0.Chain.length : Int))))))) (g0 rfl) rfl rfl rfl ?_
                    refine o_nil ?_
                    repeat (first | refine then_normal ?_ | refine then_exit ?_ | refine then_ret ?_ | refine block_normal ?_ | refine block_ret ?_ | refine block_exit ?_ | refine block_pass rfl ?_)
                    rcases bif_some h with ⟨h17, h⟩ | ⟨h17, h⟩
                    · refine c_t h17 rfl ?_
                      refine c_skip ?_
                      repeat (first | refine then_normal ?_ | refine then_exit ?_ | refine then_ret ?_ | refine block_normal ?_ | refine block_ret ?_ | refine block_exit ?_ | refine block_pass rfl ?_)
                      refine c_seq ?_
                      refine c_block ?_
                      refine c_seq ?_
                      refine c_draw mixed (by kernel_rfl) ?_
                      refine d_s (.ref 2 6) rfl (dg0 rfl) rfl rfl rfl rfl ?_
                      refine d_s (.t (.d (.seq 2 (List.map cS_api_At p0.Chain)))) rfl (dg0 rfl) rfl rfl rfl rfl ?_
                      refine d_s (.t (.d (.lit (.int .i64 z16)))) rfl (dg0 rfl) rfl rfl rfl rfl ?_
                      obtain ⟨x18, h19, h⟩ := bind_some h
                      refine d_c rfl (dg0 rfl) rfl rfl rfl rfl (idxE h19) (idxC h19) ?_
                      refine d_s (.t (.agg [.lit (.string ⟨⟨x18.Name⟩⟩), .lit (.int .i64 x18.Seq)])) rfl (dg0 rfl) rfl rfl rfl rfl ?_
                      refine d_s (.ref 3 6) rfl (dg0 rfl) rfl rfl rfl rfl ?_
                      refine d_s (.t (.d (.seq 2 (List.map cS_api_At p1.Chain)))) rfl (dg0 rfl) rfl rfl rfl rfl ?_
                      refine d_s (.t (.d (.lit (.int .i64 z16)))) rfl (dg0 rfl) rfl rfl rfl rfl ?_
                      obtain ⟨x20, h21, h⟩ := bind_some h
                      refine d_c rfl (dg0 rfl) rfl rfl rfl rfl (idxE h21) (idxC h21) ?_
                      refine d_s (.t (.agg [.lit (.string ⟨⟨x20.Name⟩⟩), .lit (.int .i64 x20.Seq)])) rfl (dg0 rfl) rfl rfl rfl rfl ?_
                      refine d_eqs true (b' := ((x18.Name == x20.Name) && ((x18.Seq == x20.Seq) && true))) (andE (str_beqL _ _) (andE rfl rfl)) rfl (dg0 rfl) rfl rfl rfl rfl rfl (by kernel_rfl) ((!((x18.Name == x20.Name) && ((x18.Seq == x20.Seq) && true)))) (by cases ((x18.Name == x20.Name) && ((x18.Seq == x20.Seq) && true)) <;> rfl) ?_
                      refine d_nil (by kernel_rfl) ?_
                      repeat (first | refine then_normal ?_ | refine then_exit ?_ | refine then_ret ?_ | refine block_normal ?_ | refine block_ret ?_ | refine block_exit ?_ | refine block_pass rfl ?_)
                      rcases bif_some h with ⟨h22, h⟩ | ⟨h22, h⟩
                      · refine c_t h22 rfl ?_
                        refine c_seq ?_
                        refine c_region ?_
                        refine o_s (.t (.d (.lit (.bool false)))) (g0 rfl) rfl rfl rfl ?_
                        refine o_nil ?_
                        repeat (first | refine then_normal ?_ | refine then_exit ?_ | refine then_ret ?_ | refine block_normal ?_ | refine block_ret ?_ | refine block_exit ?_ | refine block_pass rfl ?_)
                        refine c_ret ?_
                        repeat (first | refine then_normal ?_ | refine then_exit ?_ | refine then_ret ?_ | refine block_normal ?_ | refine block_ret ?_ | refine block_exit ?_ | refine block_pass rfl ?_)
                        obtain rfl := Option.some.inj h
                        exact end0 rfl (.refl _)
                      · refine c_f h22 rfl ?_
                        refine c_skip ?_
                        repeat (first | refine then_normal ?_ | refine then_exit ?_ | refine then_ret ?_ | refine block_normal ?_ | refine block_ret ?_ | refine block_exit ?_ | refine block_pass rfl ?_)
                        refine c_region ?_
                        refine o_s (.t (.d (.lit (.int .i64 z16)))) (g0 rfl) rfl rfl rfl ?_
                        refine o_s (.t (.d (.lit (.int .i64 (wi (z16 + 1)))))) (g0 rfl) rfl rfl rfl ?_
                        refine o_s (.t (.d (.lit (.int .i64 (wi (z16 + 1)))))) (g0 rfl) rfl rfl rfl ?_
                        refine o_nil ?_
                        repeat (first | refine then_normal ?_ | refine then_exit ?_ | refine then_ret ?_ | refine block_normal ?_ | refine block_ret ?_ | refine block_exit ?_ | refine block_pass rfl ?_)
                        exact ⟨nl2, (wi (z16 + 1)), Nat.lt_succ_self nl2, h, ⟨(.refl _), ⟨(.refl _), ⟨(.refl _), trivial⟩⟩⟩, rfl⟩
                    · refine c_f h17 rfl ?_
                      refine c_exit ?_
                      repeat (first | refine then_normal ?_ | refine then_exit ?_ | refine then_ret ?_ | refine block_normal ?_ | refine block_ret ?_ | refine block_exit ?_ | refine block_pass rfl ?_)
                      exact ⟨(), h, ⟨(.refl _), ⟨(.refl _), trivial⟩⟩, rfl⟩
                · rintro ⟨⟩ h
                  refine c_seq ?_
                  refine c_region ?_
                  refine o_s (.ref 2 5) (g0 rfl) rfl rfl rfl ?_
                  refine o_s (.t (.d (.seq 1 (bytesD p0.Digest)))) (g0 rfl) rfl rfl rfl ?_
                  refine o_s (.ref 3 5) (g0 rfl) rfl rfl rfl ?_
                  refine o_s (.t (.d (.seq 1 (bytesD p1.Digest)))) (g0 rfl) rfl rfl rfl ?_
                  obtain ⟨x8, h9, h⟩ := bind_some h
                  refine o_ca (fc_R01_Same _ _ _ h9) (g0 rfl) rfl rfl rfl rfl rfl rfl rfl (.cons (.refl _) (.cons (.refl _) .nil)) rfl rfl ?_
                  refine o_s (.t (.d (.lit (.bool x8)))) (g0 rfl) rfl rfl rfl ?_
                  rcases bif_some h with ⟨h10, h⟩ | ⟨h10, h⟩
                  · refine o_s (.ref 2 7) (gy rfl rfl rfl h10) rfl rfl rfl ?_
                    refine o_s (.t (.d (.seq 1 (bytesD p0.Public)))) (gy rfl rfl rfl h10) rfl rfl rfl ?_
                    refine o_s (.ref 3 7) (gy rfl rfl rfl h10) rfl rfl rfl ?_
                    refine o_s (.t (.d (.seq 1 (bytesD p1.Public)))) (gy rfl rfl rfl h10) rfl rfl rfl ?_
                    obtain ⟨x11, h12, h⟩ := bind_some h
                    refine o_ca (fc_R01_Same _ _ _ h12) (gy rfl rfl rfl h10) rfl rfl rfl rfl rfl rfl rfl (.cons (.refl _) (.cons (.refl _) .nil)) rfl rfl ?_
                    refine o_pk (.t (.d (.lit (.bool x11)))) (b := true) h10 (g0 rfl) rfl rfl rfl rfl rfl ?_
                    refine o_s (.t (.d (.lit (.bool x11)))) (g0 rfl) rfl rfl rfl ?_
                    rcases bif_some h with ⟨h13, h⟩ | ⟨h13, h⟩
                    · refine o_s (.ref 2 8) (gy rfl rfl rfl h13) rfl rfl rfl ?_
                      refine o_s (.t (.d (.seq 1 (bytesD p0.Link)))) (gy rfl rfl rfl h13) rfl rfl rfl ?_
                      refine o_s (.ref 3 8) (gy rfl rfl rfl h13) rfl rfl rfl ?_
                      refine o_s (.t (.d (.seq 1 (bytesD p1.Link)))) (gy rfl rfl rfl h13) rfl rfl rfl ?_
                      obtain ⟨x14, h15, h⟩ := bind_some h
                      refine o_ca (fc_R01_Same _ _ _ h15) (gy rfl rfl rfl h13) rfl rfl rfl rfl rfl rfl rfl (.cons (.refl _) (.cons (.refl _) .nil)) rfl rfl ?_
                      refine o_pk (.t (.d (.lit (.bool x14)))) (b := true) h13 (g0 rfl) rfl rfl rfl rfl rfl ?_
                      refine o_s (.t (.d (.lit (.bool x14)))) (g0 rfl) rfl rfl rfl ?_
                      refine o_nil ?_
                      repeat (first | refine then_normal ?_ | refine then_exit ?_ | refine then_ret ?_ | refine block_normal ?_ | refine block_ret ?_ | refine block_exit ?_ | refine block_pass rfl ?_)
                      refine c_ret ?_
                      repeat (first | refine then_normal ?_ | refine then_exit ?_ | refine then_ret ?_ | refine block_normal ?_ | refine block_ret ?_ | refine block_exit ?_ | refine block_pass rfl ?_)
                      obtain rfl := Option.some.inj h
                      exact end0 rfl (.refl _)
                    · refine o_skip rfl rfl rfl h13 rfl rfl ?_
                      refine o_skip rfl rfl rfl h13 rfl rfl ?_
                      refine o_skip rfl rfl rfl h13 rfl rfl ?_
                      refine o_skip rfl rfl rfl h13 rfl rfl ?_
                      refine o_skip rfl rfl rfl h13 rfl rfl ?_
                      refine o_pk (.t (.d (.lit (.bool false)))) (b := false) h13 (g0 rfl) rfl rfl rfl rfl rfl ?_
                      refine o_s (.t (.d (.lit (.bool false)))) (g0 rfl) rfl rfl rfl ?_
                      refine o_nil ?_
                      repeat (first | refine then_normal ?_ | refine then_exit ?_ | refine then_ret ?_ | refine block_normal ?_ | refine block_ret ?_ | refine block_exit ?_ | refine block_pass rfl ?_)
                      refine c_ret ?_
                      repeat (first | refine then_normal ?_ | refine then_exit ?_ | refine then_ret ?_ | refine block_normal ?_ | refine block_ret ?_ | refine block_exit ?_ | refine block_pass rfl ?_)
                      obtain rfl := Option.some.inj h
                      exact end0 rfl (.refl _)
                  · refine o_skip rfl rfl rfl h10 rfl rfl ?_
                    refine o_skip rfl rfl rfl h10 rfl rfl ?_
                    refine o_skip rfl rfl rfl h10 rfl rfl ?_
                    refine o_skip rfl rfl rfl h10 rfl rfl ?_
                    refine o_skip rfl rfl rfl h10 rfl rfl ?_
                    refine o_pk (.t (.d (.lit (.bool false)))) (b := false) h10 (g0 rfl) rfl rfl rfl rfl rfl ?_
                    refine o_s (.t (.d (.lit (.bool false)))) (g0 rfl) rfl rfl rfl ?_
                    refine o_skip rfl rfl rfl rfl rfl rfl ?_
                    refine o_skip rfl rfl rfl rfl rfl rfl ?_
                    refine o_skip rfl rfl rfl rfl rfl rfl ?_
                    refine o_skip rfl rfl rfl rfl rfl rfl ?_
                    refine o_skip rfl rfl rfl rfl rfl rfl ?_
                    refine o_pk (.t (.d (.lit (.bool false)))) (b := false) rfl (g0 rfl) rfl rfl rfl rfl rfl ?_
                    refine o_s (.t (.d (.lit (.bool false)))) (g0 rfl) rfl rfl rfl ?_
                    refine o_nil ?_
                    repeat (first | refine then_normal ?_ | refine then_exit ?_ | refine then_ret ?_ | refine block_normal ?_ | refine block_ret ?_ | refine block_exit ?_ | refine block_pass rfl ?_)
                    refine c_ret ?_
                    repeat (first | refine then_normal ?_ | refine then_exit ?_ | refine then_ret ?_ | refine block_normal ?_ | refine block_ret ?_ | refine block_exit ?_ | refine block_pass rfl ?_)
                    obtain rfl := Option.some.inj h
                    exact end0 rfl (.refl _)

end Go.Proofs.YteopjhakjeknaaaDoor
