/-
  Walks of functions: each function does what its model tells. Printed by a program of this claim's own (gen.py) off the given translation.
-/
import Derived.Test.YteopjhakjeknaaaDoorCbM
import Derived.Test.YteopjhakjeknaaaDoorClo
import Derived.Test.YteopjhakjeknaaaDoorCbX
import Derived.Test.YteopjhakjeknaaaDoorCbWa
namespace Go.Proofs.YteopjhakjeknaaaDoor
open Go Go.RowKit
set_option linter.unusedVariables false
set_option maxHeartbeats 4000000
set_option maxRecDepth 20000
theorem fc_R01_Get (p0 : (List UInt8)) (r : (Int × Int)) (h : m_R01_Get p0 = some r) : FC Tryd.prog 85 [.t (.d (.seq 1 (bytesD p0)))] [] (.tup [.d (.lit (.int .i64 r.1)), .d (.lit (.int .i64 r.2))]) := by
  refine fc_mk (rs := [.tmp 2, .tmp 3]) (n := 39) Tryd.func85 rfl rfl (Nat.le_of_ble_eq_true rfl) rfl (pins := []) rfl (L := [(0, .t (.d (.seq 1 (bytesD p0))))]) rfl ?_
  refine c_seq ?_
  refine c_region ?_
  refine o_s (.t (.d (.lit (.int .i64 0)))) (g0 rfl) rfl rfl rfl ?_
  refine o_s (.t (.d (.lit (.int .i64 0)))) (g0 rfl) rfl rfl rfl ?_
  refine o_nil ?_
  repeat (first | refine then_normal ?_ | refine then_exit ?_ | refine then_ret ?_ | refine block_normal ?_ | refine block_ret ?_ | refine block_exit ?_ | refine block_pass rfl ?_)
  refine c_seq ?_
  refine c_seq ?_
  refine c_region ?_
  refine o_s (.t (.d (.seq 1 (bytesD p0)))) (g0 rfl) rfl rfl rfl ?_
  refine o_c (g0 rfl) rfl rfl rfl (lenE _ _) trivial ?_
  refine o_s (.t (.d (.lit (.bool ((p0.length : Int) == 0))))) (g0 rfl) rfl rfl rfl ?_
  refine o_nil ?_
  repeat (first | refine then_normal ?_ | refine then_exit ?_ | refine then_ret ?_ | refine block_normal ?_ | refine block_ret ?_ | refine block_exit ?_ | refine block_pass rfl ?_)
  rcases bif_some h with ⟨h1, h⟩ | ⟨h1, h⟩
  · refine c_t h1 rfl ?_
    refine c_seq ?_
    refine c_region ?_
    refine o_s (.t (.d (.lit (.int .i64 0)))) (g0 rfl) rfl rfl rfl ?_
    refine o_s (.t (.d (.lit (.int .i64 10)))) (g0 rfl) rfl rfl rfl ?_
    refine o_nil ?_
    repeat (first | refine then_normal ?_ | refine then_exit ?_ | refine then_ret ?_ | refine block_normal ?_ | refine block_ret ?_ | refine block_exit ?_ | refine block_pass rfl ?_)
    refine c_ret ?_
    repeat (first | refine then_normal ?_ | refine then_exit ?_ | refine then_ret ?_ | refine block_normal ?_ | refine block_ret ?_ | refine block_exit ?_ | refine block_pass rfl ?_)
    obtain rfl := Option.some.inj h
    exact end0 rfl (.tup (.cons (.refl _) (.cons (.refl _) .nil)))
  · refine c_f h1 rfl ?_
    refine c_skip ?_
    repeat (first | refine then_normal ?_ | refine then_exit ?_ | refine then_ret ?_ | refine block_normal ?_ | refine block_ret ?_ | refine block_exit ?_ | refine block_pass rfl ?_)
    refine c_seq ?_
    refine c_seq ?_
    refine c_region ?_
    refine o_s (.t (.d (.seq 1 (bytesD p0)))) (g0 rfl) rfl rfl rfl ?_
    refine o_c (g0 rfl) rfl rfl rfl (lenE _ _) trivial ?_
    refine o_s (.t (.d (.lit (.bool (decide ((p0.length : Int) > 8)))))) (g0 rfl) rfl rfl rfl ?_
    refine o_nil ?_
    repeat (first | refine then_normal ?_ | refine then_exit ?_ | refine then_ret ?_ | refine block_normal ?_ | refine block_ret ?_ | refine block_exit ?_ | refine block_pass rfl ?_)
    rcases bif_some h with ⟨h2, h⟩ | ⟨h2, h⟩
    · refine c_t h2 rfl ?_
      refine c_seq ?_
      refine c_region ?_
      refine o_s (.t (.d (.lit (.int .i64 0)))) (g0 rfl) rfl rfl rfl ?_
      refine o_s (.t (.d (.lit (.int .i64 2)))) (g0 rfl) rfl rfl rfl ?_
      refine o_nil ?_
      repeat (first | refine then_normal ?_ | refine then_exit ?_ | refine then_ret ?_ | refine block_normal ?_ | refine block_ret ?_ | refine block_exit ?_ | refine block_pass rfl ?_)
      refine c_ret ?_
      repeat (first | refine then_normal ?_ | refine then_exit ?_ | refine then_ret ?_ | refine block_normal ?_ | refine block_ret ?_ | refine block_exit ?_ | refine block_pass rfl ?_)
      obtain rfl := Option.some.inj h
      exact end0 rfl (.tup (.cons (.refl _) (.cons (.refl _) .nil)))
    · refine c_f h2 rfl ?_
      refine c_skip ?_
      repeat (first | refine then_normal ?_ | refine then_exit ?_ | refine then_ret ?_ | refine block_normal ?_ | refine block_ret ?_ | refine block_exit ?_ | refine block_pass rfl ?_)
      refine c_seq ?_
      refine c_region ?_
      refine o_s (.t (.d (.lit (.int .i64 0)))) (g0 rfl) rfl rfl rfl ?_
      refine o_nil ?_
      repeat (first | refine then_normal ?_ | refine then_exit ?_ | refine then_ret ?_ | refine block_normal ?_ | refine block_ret ?_ | refine block_exit ?_ | refine block_pass rfl ?_)
      refine c_cut (fun (y3 : Int) => [(4, .t (.d (.lit (.int .i64 y3))))]) (fun (y3 : Int) => m_R01_Get_j1 y3 = some r) ?_ ?_
      · refine c_seq ?_
        refine c_region ?_
        refine o_s (.t (.d (.lit (.int .i64 0)))) (g0 rfl) rfl rfl rfl ?_
        refine o_nil ?_
        repeat (first | refine then_normal ?_ | refine then_exit ?_ | refine then_ret ?_ | refine block_normal ?_ | refine block_ret ?_ | refine block_exit ?_ | refine block_pass rfl ?_)
        refine c_block ?_
        refine c_fuel (fun (q : Int × Int) => [(0, .t (.d (.seq 1 (bytesD p0)))), (4, .t (.d (.lit (.int .i64 q.1)))), (5, .t (.d (.lit (.int .i64 q.2))))]) (fun nl2 => (fun (q : Int × Int) => m_R01_Get_l2 p0 nl2 q.1 q.2 = some r)) (p0.length + 1) (0, 0) h ⟨(.refl _), ⟨(.refl _), ⟨(.refl _), trivial⟩⟩⟩ rfl ?_
        rintro nl2 ⟨z4, z5⟩ h
        cases nl2 with
        | zero => exact none_ne h
        | succ nl2 =>
          refine c_seq ?_
          refine c_seq ?_
          refine c_region ?_
          refine o_s (.t (.d (.lit (.int .i64 z5)))) (g0 rfl) rfl rfl rfl ?_
          refine o_s (.t (.d (.seq 1 (bytesD p0)))) (g0 rfl) rfl rfl rfl ?_
          refine o_c (g0 rfl) rfl rfl rfl (lenE _ _) trivial ?_
          refine o_s (.t (.d (.lit (.bool (decide (z5 < (p0.length : Int))))))) (g0 rfl) rfl rfl rfl ?_
          refine o_nil ?_
          repeat (first | refine then_normal ?_ | refine then_exit ?_ | refine then_ret ?_ | refine block_normal ?_ | refine block_ret ?_ | refine block_exit ?_ | refine block_pass rfl ?_)
          rcases bif_some h with ⟨h6, h⟩ | ⟨h6, h⟩
          · refine c_t h6 rfl ?_
            refine c_skip ?_
            repeat (first | refine then_normal ?_ | refine then_exit ?_ | refine then_ret ?_ | refine block_normal ?_ | refine block_ret ?_ | refine block_exit ?_ | refine block_pass rfl ?_)
            refine c_seq ?_
            refine c_block ?_
            refine c_seq ?_
            refine c_region ?_
            refine o_s (.t (.d (.seq 1 (bytesD p0)))) (g0 rfl) rfl rfl rfl ?_
            refine o_s (.t (.d (.lit (.int .i64 z5)))) (g0 rfl) rfl rfl rfl ?_
            obtain ⟨x7, h8, h⟩ := bind_some h
            refine o_c (g0 rfl) rfl rfl rfl (idxE h8) (idxC h8) ?_
            refine o_s (.t (.d (.lit (.int .u8 (x7.toNat : Int))))) (g0 rfl) rfl rfl rfl ?_
            refine o_c (g0 rfl) rfl rfl rfl (congrArg (fun z => A.t (.d (.lit (.int .i64 z)))) (i64_u8 _)) trivial ?_
            refine o_s (.t (.d (.lit (.int .i64 (x7.toNat : Int))))) (g0 rfl) rfl rfl rfl ?_
            refine o_nil ?_
            repeat (first | refine then_normal ?_ | refine then_exit ?_ | refine then_ret ?_ | refine block_normal ?_ | refine block_ret ?_ | refine block_exit ?_ | refine block_pass rfl ?_)
            refine c_cut (fun (y9 : Bool) => [(0, .t (.d (.seq 1 (bytesD p0)))), (4, .t (.d (.lit (.int .i64 z4)))), (5, .t (.d (.lit (.int .i64 z5)))), (6, .t (.d (.lit (.int .i64 (x7.toNat : Int))))), (27, .t (.d (.lit (.int .i64 z4)))), (28, .t (.d (.lit (.bool (z4 == 18014398509481984))))), (29, .t (.d (.lit (.bool (z4 == 18014398509481984))))), (32, .t (.d (.lit (.bool y9))))]) (fun (y9 : Bool) => m_R01_Get_j3 (m_R01_Get_l2 p0 nl2) z4 x7 z5 y9 = some r) ?_ ?_
            · refine c_seq ?_
              refine c_region ?_
              refine o_s (.t (.d (.lit (.int .i64 z4)))) (g0 rfl) rfl rfl rfl ?_
              refine o_s (.t (.d (.lit (.bool (decide (z4 > 18014398509481984)))))) (g0 rfl) rfl rfl rfl ?_
              refine o_s (.t (.d (.lit (.bool (decide (z4 > 18014398509481984)))))) (g0 rfl) rfl rfl rfl ?_
              rcases bif_some h with ⟨h10, h⟩ | ⟨h10, h⟩
              · refine o_skip rfl rfl rfl h10 rfl rfl ?_
                refine o_skip rfl rfl rfl h10 rfl rfl ?_
                refine o_skip rfl rfl rfl h10 rfl rfl ?_
                refine o_un rfl rfl rfl rfl rfl ?_
                refine o_un rfl rfl rfl rfl rfl ?_
                refine o_skip rfl rfl rfl h10 rfl rfl ?_
                refine o_pk (.t (.d (.lit (.bool true)))) (b := true) h10 (g0 rfl) rfl rfl rfl rfl rfl ?_
                refine o_nil ?_
                repeat (first | refine then_normal ?_ | refine then_exit ?_ | refine then_ret ?_ | refine block_normal ?_ | refine block_ret ?_ | refine block_exit ?_ | refine block_pass rfl ?_)
                refine c_t rfl rfl ?_
                refine c_seq ?_
                refine c_region ?_
                refine o_s (.t (.d (.lit (.int .i64 0)))) (g0 rfl) rfl rfl rfl ?_
                refine o_s (.t (.d (.lit (.int .i64 11)))) (g0 rfl) rfl rfl rfl ?_
                refine o_nil ?_
                repeat (first | refine then_normal ?_ | refine then_exit ?_ | refine then_ret ?_ | refine block_normal ?_ | refine block_ret ?_ | refine block_exit ?_ | refine block_pass rfl ?_)
                refine c_ret ?_
                repeat (first | refine then_normal ?_ | refine then_exit ?_ | refine then_ret ?_ | refine block_normal ?_ | refine block_ret ?_ | refine block_exit ?_ | refine block_pass rfl ?_)
                obtain rfl := Option.some.inj h
                exact end0 rfl (.tup (.cons (.refl _) (.cons (.refl _) .nil)))
              · refine o_s (.t (.d (.lit (.int .i64 z4)))) (gy rfl rfl rfl h10) rfl rfl rfl ?_
                refine o_s (.t (.d (.lit (.bool (z4 == 18014398509481984))))) (gy rfl rfl rfl h10) rfl rfl rfl ?_
                refine o_s (.t (.d (.lit (.bool (z4 == 18014398509481984))))) (gy rfl rfl rfl h10) rfl rfl rfl ?_
                rcases bif_some h with ⟨h11, h⟩ | ⟨h11, h⟩
                · refine o_s (.t (.d (.lit (.int .i64 (x7.toNat : Int))))) (gy rfl rfl rfl h11) rfl rfl rfl ?_
                  refine o_s (.t (.d (.lit (.bool (decide ((x7.toNat : Int) > 0)))))) (gy rfl rfl rfl h11) rfl rfl rfl ?_
                  refine o_pk (.t (.d (.lit (.bool (decide ((x7.toNat : Int) > 0)))))) (b := true) h11 (gy rfl rfl rfl h10) rfl rfl rfl rfl rfl ?_
                  refine o_pk (.t (.d (.lit (.bool (decide ((x7.toNat : Int) > 0)))))) (b := false) h10 (g0 rfl) rfl rfl rfl rfl rfl ?_
                  refine o_nil ?_
                  repeat (first | refine then_normal ?_ | refine then_exit ?_ | refine then_ret ?_ | refine block_normal ?_ | refine block_ret ?_ | refine block_exit ?_ | refine block_pass rfl ?_)
                  rcases bif_some h with ⟨h12, h⟩ | ⟨h12, h⟩
                  · refine c_t h12 rfl ?_
                    refine c_seq ?_
                    refine c_region ?_
                    refine o_s (.t (.d (.lit (.int .i64 0)))) (g0 rfl) rfl rfl rfl ?_
                    refine o_s (.t (.d (.lit (.int .i64 11)))) (g0 rfl) rfl rfl rfl ?_
                    refine o_nil ?_
                    repeat (first | refine then_normal ?_ | refine then_exit ?_ | refine then_ret ?_ | refine block_normal ?_ | refine block_ret ?_ | refine block_exit ?_ | refine block_pass rfl ?_)
                    refine c_ret ?_
                    repeat (first | refine then_normal ?_ | refine then_exit ?_ | refine then_ret ?_ | refine block_normal ?_ | refine block_ret ?_ | refine block_exit ?_ | refine block_pass rfl ?_)
                    obtain rfl := Option.some.inj h
                    exact end0 rfl (.tup (.cons (.refl _) (.cons (.refl _) .nil)))
                  · refine c_f h12 rfl ?_
                    refine c_skip ?_
                    repeat (first | refine then_normal ?_ | refine then_exit ?_ | refine then_ret ?_ | refine block_normal ?_ | refine block_ret ?_ | refine block_exit ?_ | refine block_pass rfl ?_)
                    exact ⟨(decide ((x7.toNat : Int) > 0)), h, ⟨(.refl _), ⟨(.refl _), ⟨(.refl _), ⟨(.refl _), ⟨(.refl _), ⟨(.refl _), ⟨(.refl _), ⟨(.refl _), trivial⟩⟩⟩⟩⟩⟩⟩⟩, rfl⟩
                · refine o_skip rfl rfl rfl h11 rfl rfl ?_
                  refine o_skip rfl rfl rfl h11 rfl rfl ?_
                  refine o_pk (.t (.d (.lit (.bool false)))) (b := false) h11 (gy rfl rfl rfl h10) rfl rfl rfl rfl rfl ?_
                  refine o_pk (.t (.d (.lit (.bool false)))) (b := false) h10 (g0 rfl) rfl rfl rfl rfl rfl ?_
                  refine o_nil ?_
                  repeat (first | refine then_normal ?_ | refine then_exit ?_ | refine then_ret ?_ | refine block_normal ?_ | refine block_ret ?_ | refine block_exit ?_ | refine block_pass rfl ?_)
                  refine c_f rfl rfl ?_
                  refine c_skip ?_
                  repeat (first | refine then_normal ?_ | refine then_exit ?_ | refine then_ret ?_ | refine block_normal ?_ | refine block_ret ?_ | refine block_exit ?_ | refine block_pass rfl ?_)
                  exact ⟨false, h, ⟨(.refl _), ⟨(.refl _), ⟨(.refl _), ⟨(.refl _), ⟨(.refl _), ⟨(.refl _), ⟨(.refl _), ⟨(.refl _), trivial⟩⟩⟩⟩⟩⟩⟩⟩, rfl⟩
            · rintro y9 h
              refine c_region ?_
              refine o_s (.t (.d (.lit (.int .i64 z4)))) (g0 rfl) rfl rfl rfl ?_
              refine o_s (.t (.d (.lit (.int .i64 (wi (256 * z4)))))) (g0 rfl) rfl rfl rfl ?_
              refine o_s (.t (.d (.lit (.int .i64 (x7.toNat : Int))))) (g0 rfl) rfl rfl rfl ?_
              refine o_s (.t (.d (.lit (.int .i64 (wi ((wi (256 * z4)) + (x7.toNat : Int))))))) (g0 rfl) rfl rfl rfl ?_
              refine o_s (.t (.d (.lit (.int .i64 (wi ((wi (256 * z4)) + (x7.toNat : Int))))))) (g0 rfl) rfl rfl rfl ?_
              refine o_nil ?_
              repeat (first | refine then_normal ?_ | refine then_exit ?_ | refine then_ret ?_ | refine block_normal ?_ | refine block_ret ?_ | refine block_exit ?_ | refine block_pass rfl ?_)
              refine c_region ?_
              refine o_s (.t (.d (.lit (.int .i64 z5)))) (g0 rfl) rfl rfl rfl ?_
              refine o_s (.t (.d (.lit (.int .i64 (wi (z5 + 1)))))) (g0 rfl) rfl rfl rfl ?_
              refine o_s (.t (.d (.lit (.int .i64 (wi (z5 + 1)))))) (g0 rfl) rfl rfl rfl ?_
              refine o_nil ?_
              repeat (first | refine then_normal ?_ | refine then_exit ?_ | refine then_ret ?_ | refine block_normal ?_ | refine block_ret ?_ | refine block_exit ?_ | refine block_pass rfl ?_)
              exact ⟨nl2, ((wi ((wi (256 * z4)) + (x7.toNat : Int))), (wi (z5 + 1))), Nat.lt_succ_self nl2, h, ⟨(.refl _), ⟨(.refl _), ⟨(.refl _), trivial⟩⟩⟩, rfl⟩
          · refine c_f h6 rfl ?_
            refine c_exit ?_
            repeat (first | refine then_normal ?_ | refine then_exit ?_ | refine then_ret ?_ | refine block_normal ?_ | refine block_ret ?_ | refine block_exit ?_ | refine block_pass rfl ?_)
            exact ⟨z4, h, ⟨(.refl _), trivial⟩, rfl⟩
      · rintro y3 h
        refine c_seq ?_
        refine c_region ?_
        refine o_s (.t (.d (.lit (.int .i64 y3)))) (g0 rfl) rfl rfl rfl ?_
        refine o_s (.t (.d (.lit (.int .i64 y3)))) (g0 rfl) rfl rfl rfl ?_
        refine o_s (.t (.d (.lit (.int .i64 0)))) (g0 rfl) rfl rfl rfl ?_
        refine o_nil ?_
        repeat (first | refine then_normal ?_ | refine then_exit ?_ | refine then_ret ?_ | refine block_normal ?_ | refine block_ret ?_ | refine block_exit ?_ | refine block_pass rfl ?_)
        refine c_ret ?_
        repeat (first | refine then_normal ?_ | refine then_exit ?_ | refine then_ret ?_ | refine block_normal ?_ | refine block_ret ?_ | refine block_exit ?_ | refine block_pass rfl ?_)
        obtain rfl := Option.some.inj h
        exact end0 rfl (.tup (.cons (.refl _) (.cons (.refl _) .nil)))

theorem fc_R02_Read : ∀ (k0 : Nat) (p0 : (List UInt8)) (p1 : Int) (p2 : Int) (r : (V × Int × Int)) (h : m_R02_Read k0 p0 p1 p2 = some r), FC Tryd.prog 67 [.t (.d (.seq 1 (bytesD p0))), .t (.d (.lit (.int .i64 p1))), .t (.d (.lit (.int .i64 p2)))] [] (.tup [.agg [.lit (.int .i64 r.1.k), .lit (.int .i64 r.1.n), .seq 1 (bytesD r.1.b), .seq 4 (List.map V.cells r.1.l)], .d (.lit (.int .i64 r.2.1)), .d (.lit (.int .i64 r.2.2))]) := by
  intro k0
  induction k0 with
  | zero => intro p0 p1 p2 r h; exact none_ne h
  | succ k0 ih =>
    intro p0 p1 p2 r h
    refine fc_mk (rs := [.cell 6 79, .tmp 7, .tmp 8]) (n := 178) Tryd.func67 rfl rfl (Nat.le_of_ble_eq_true rfl) rfl (pins := []) rfl (L := [(0, .t (.d (.seq 1 (bytesD p0)))), (1, .t (.d (.lit (.int .i64 p1)))), (2, .t (.d (.lit (.int .i64 p2))))]) rfl ?_
    refine c_seq ?_
    refine c_region ?_
    refine o_s (.box [.d (.lit (.int .i64 0)), .d (.lit (.int .i64 0)), .d (.lit (.slice none 0 0)), .d (.lit (.slice none 0 0))]) (g0 rfl) rfl rfl rfl ?_
    refine o_s (.t (.d (.lit (.int .i64 0)))) (g0 rfl) rfl rfl rfl ?_
    refine o_s (.t (.d (.lit (.int .i64 0)))) (g0 rfl) rfl rfl rfl ?_
    refine o_nil ?_
    repeat (first | refine then_normal ?_ | refine then_exit ?_ | refine then_ret ?_ | refine block_normal ?_ | refine block_ret ?_ | refine block_exit ?_ | refine block_pass rfl ?_)
    refine c_seq ?_
    refine c_seq ?_
    refine c_region ?_
    refine o_s (.t (.d (.lit (.int .i64 p1)))) (g0 rfl) rfl rfl rfl ?_
    refine o_s (.t (.d (.seq 1 (bytesD p0)))) (g0 rfl) rfl rfl rfl ?_
    refine o_c (g0 rfl) rfl rfl rfl (lenE _ _) trivial ?_
    refine o_s (.t (.d (.lit (.bool (decide (p1 ≥ (p0.length : Int))))))) (g0 rfl) rfl rfl rfl ?_
    refine o_nil ?_
    repeat (first | refine then_normal ?_ | refine then_exit ?_ | refine then_ret ?_ | refine block_normal ?_ | refine block_ret ?_ | refine block_exit ?_ | refine block_pass rfl ?_)
    rcases bif_some h with ⟨h1, h⟩ | ⟨h1, h⟩
    · refine c_t h1 rfl ?_
      refine c_seq ?_
      refine c_region ?_
      refine o_s (.t (.agg [.lit (.int .i64 0), .lit (.int .i64 0), .lit (.slice none 0 0), .lit (.slice none 0 0)])) (g0 rfl) rfl rfl rfl ?_
      refine o_st (.box [.d (.lit (.int .i64 0)), .d (.lit (.int .i64 0)), .d (.lit (.slice none 0 0)), .d (.lit (.slice none 0 0))]) (g0 rfl) rfl rfl rfl ?_
      refine o_s (.t (.d (.lit (.int .i64 0)))) (g0 rfl) rfl rfl rfl ?_
      refine o_s (.t (.d (.lit (.int .i64 10)))) (g0 rfl) rfl rfl rfl ?_
      refine o_nil ?_
      repeat (first | refine then_normal ?_ | refine then_exit ?_ | refine then_ret ?_ | refine block_normal ?_ | refine block_ret ?_ | refine block_exit ?_ | refine block_pass rfl ?_)
      refine c_ret ?_
      repeat (first | refine then_normal ?_ | refine then_exit ?_ | refine then_ret ?_ | refine block_normal ?_ | refine block_ret ?_ | refine block_exit ?_ | refine block_pass rfl ?_)
      obtain rfl := Option.some.inj h
      exact end0 rfl (.tup (.cons (.agg (.cons (.refl _) (.cons (.refl _) (.cons (.nil _) (.cons (.nil _) .nil))))) (.cons (.refl _) (.cons (.refl _) .nil))))
    · refine c_f h1 rfl ?_
      refine c_skip ?_
      repeat (first | refine then_normal ?_ | refine then_exit ?_ | refine then_ret ?_ | refine block_normal ?_ | refine block_ret ?_ | refine block_exit ?_ | refine block_pass rfl ?_)
      refine c_seq ?_
      refine c_region ?_
      refine o_s (.t (.d (.seq 1 (bytesD p0)))) (g0 rfl) rfl rfl rfl ?_
      refine o_s (.t (.d (.lit (.int .i64 p1)))) (g0 rfl) rfl rfl rfl ?_
      obtain ⟨x2, h3, h⟩ := bind_some h
      refine o_c (g0 rfl) rfl rfl rfl (idxE h3) (idxC h3) ?_
      refine o_s (.t (.d (.lit (.int .u8 (x2.toNat : Int))))) (g0 rfl) rfl rfl rfl ?_
      refine o_c (g0 rfl) rfl rfl rfl (congrArg (fun z => A.t (.d (.lit (.int .i64 z)))) (i64_u8 _)) trivial ?_
      refine o_s (.t (.d (.lit (.int .i64 (x2.toNat : Int))))) (g0 rfl) rfl rfl rfl ?_
      refine o_nil ?_
      repeat (first | refine then_normal ?_ | refine then_exit ?_ | refine then_ret ?_ | refine block_normal ?_ | refine block_ret ?_ | refine block_exit ?_ | refine block_pass rfl ?_)
      refine c_seq ?_
      refine c_region ?_
      refine o_s (.t (.d (.lit (.int .i64 p1)))) (g0 rfl) rfl rfl rfl ?_
      refine o_s (.t (.d (.lit (.int .i64 (wi (p1 + 1)))))) (g0 rfl) rfl rfl rfl ?_
      refine o_s (.t (.d (.lit (.int .i64 (wi (p1 + 1)))))) (g0 rfl) rfl rfl rfl ?_
      refine o_nil ?_
      repeat (first | refine then_normal ?_ | refine then_exit ?_ | refine then_ret ?_ | refine block_normal ?_ | refine block_ret ?_ | refine block_exit ?_ | refine block_pass rfl ?_)
      refine c_seq ?_
      refine c_seq ?_
      refine c_region ?_
      refine o_s (.t (.d (.lit (.int .i64 (x2.toNat : Int))))) (g0 rfl) rfl rfl rfl ?_
      refine o_s (.t (.d (.lit (.bool ((x2.toNat : Int) == 1))))) (g0 rfl) rfl rfl rfl ?_
      refine o_nil ?_
      repeat (first | refine then_normal ?_ | refine then_exit ?_ | refine then_ret ?_ | refine block_normal ?_ | refine block_ret ?_ | refine block_exit ?_ | refine block_pass rfl ?_)
      rcases bif_some h with ⟨h4, h⟩ | ⟨h4, h⟩
      · refine c_t h4 rfl ?_
        refine c_seq ?_
        refine c_seq ?_
        refine c_region ?_
        refine o_s (.t (.d (.lit (.int .i64 (wi (p1 + 1)))))) (g0 rfl) rfl rfl rfl ?_
        refine o_s (.t (.d (.seq 1 (bytesD p0)))) (g0 rfl) rfl rfl rfl ?_
        refine o_c (g0 rfl) rfl rfl rfl (lenE _ _) trivial ?_
        refine o_s (.t (.d (.lit (.bool (decide ((wi (p1 + 1)) ≥ (p0.length : Int))))))) (g0 rfl) rfl rfl rfl ?_
        refine o_nil ?_
        repeat (first | refine then_normal ?_ | refine then_exit ?_ | refine then_ret ?_ | refine block_normal ?_ | refine block_ret ?_ | refine block_exit ?_ | refine block_pass rfl ?_)
        rcases bif_some h with ⟨h5, h⟩ | ⟨h5, h⟩
        · refine c_t h5 rfl ?_
          refine c_seq ?_
          refine c_region ?_
          refine o_s (.t (.agg [.lit (.int .i64 0), .lit (.int .i64 0), .lit (.slice none 0 0), .lit (.slice none 0 0)])) (g0 rfl) rfl rfl rfl ?_
          refine o_st (.box [.d (.lit (.int .i64 0)), .d (.lit (.int .i64 0)), .d (.lit (.slice none 0 0)), .d (.lit (.slice none 0 0))]) (g0 rfl) rfl rfl rfl ?_
          refine o_s (.t (.d (.lit (.int .i64 0)))) (g0 rfl) rfl rfl rfl ?_
          refine o_s (.t (.d (.lit (.int .i64 10)))) (g0 rfl) rfl rfl rfl ?_
          refine o_nil ?_
          repeat (first | refine then_normal ?_ | refine then_exit ?_ | refine then_ret ?_ | refine block_normal ?_ | refine block_ret ?_ | refine block_exit ?_ | refine block_pass rfl ?_)
          refine c_ret ?_
          repeat (first | refine then_normal ?_ | refine then_exit ?_ | refine then_ret ?_ | refine block_normal ?_ | refine block_ret ?_ | refine block_exit ?_ | refine block_pass rfl ?_)
          obtain rfl := Option.some.inj h
          exact end0 rfl (.tup (.cons (.agg (.cons (.refl _) (.cons (.refl _) (.cons (.nil _) (.cons (.nil _) .nil))))) (.cons (.refl _) (.cons (.refl _) .nil))))
        · refine c_f h5 rfl ?_
          refine c_skip ?_
          repeat (first | refine then_normal ?_ | refine then_exit ?_ | refine then_ret ?_ | refine block_normal ?_ | refine block_ret ?_ | refine block_exit ?_ | refine block_pass rfl ?_)
          refine c_seq ?_
          refine c_region ?_
          refine o_s (.t (.d (.seq 1 (bytesD p0)))) (g0 rfl) rfl rfl rfl ?_
          refine o_s (.t (.d (.lit (.int .i64 (wi (p1 + 1)))))) (g0 rfl) rfl rfl rfl ?_
          obtain ⟨x6, h7, h⟩ := bind_some h
          refine o_c (g0 rfl) rfl rfl rfl (idxE h7) (idxC h7) ?_
          refine o_s (.t (.d (.lit (.int .u8 (x6.toNat : Int))))) (g0 rfl) rfl rfl rfl ?_
          refine o_c (g0 rfl) rfl rfl rfl (congrArg (fun z => A.t (.d (.lit (.int .i64 z)))) (i64_u8 _)) trivial ?_
          refine o_s (.t (.d (.lit (.int .i64 (x6.toNat : Int))))) (g0 rfl) rfl rfl rfl ?_
          refine o_nil ?_
          repeat (first | refine then_normal ?_ | refine then_exit ?_ | refine then_ret ?_ | refine block_normal ?_ | refine block_ret ?_ | refine block_exit ?_ | refine block_pass rfl ?_)
          refine c_seq ?_
          refine c_region ?_
          refine o_s (.t (.d (.lit (.int .i64 (wi (p1 + 1)))))) (g0 rfl) rfl rfl rfl ?_
          refine o_s (.t (.d (.lit (.int .i64 (wi ((wi (p1 + 1)) + 1)))))) (g0 rfl) rfl rfl rfl ?_
          refine o_s (.t (.d (.lit (.int .i64 (wi ((wi (p1 + 1)) + 1)))))) (g0 rfl) rfl rfl rfl ?_
          refine o_nil ?_
          repeat (first | refine then_normal ?_ | refine then_exit ?_ | refine then_ret ?_ | refine block_normal ?_ | refine block_ret ?_ | refine block_exit ?_ | refine block_pass rfl ?_)
          refine c_seq ?_
          refine c_seq ?_
          refine c_region ?_
          refine o_s (.t (.d (.lit (.int .i64 (x6.toNat : Int))))) (g0 rfl) rfl rfl rfl ?_
          refine o_s (.t (.d (.lit (.bool (decide ((x6.toNat : Int) > 8)))))) (g0 rfl) rfl rfl rfl ?_
          refine o_nil ?_
          repeat (first | refine then_normal ?_ | refine then_exit ?_ | refine then_ret ?_ | refine block_normal ?_ | refine block_ret ?_ | refine block_exit ?_ | refine block_pass rfl ?_)
          rcases bif_some h with ⟨h8, h⟩ | ⟨h8, h⟩
          · refine c_t h8 rfl ?_
            refine c_seq ?_
            refine c_region ?_
            refine o_s (.t (.agg [.lit (.int .i64 0), .lit (.int .i64 0), .lit (.slice none 0 0), .lit (.slice none 0 0)])) (g0 rfl) rfl rfl rfl ?_
            refine o_st (.box [.d (.lit (.int .i64 0)), .d (.lit (.int .i64 0)), .d (.lit (.slice none 0 0)), .d (.lit (.slice none 0 0))]) (g0 rfl) rfl rfl rfl ?_
            refine o_s (.t (.d (.lit (.int .i64 0)))) (g0 rfl) rfl rfl rfl ?_
            refine o_s (.t (.d (.lit (.int .i64 11)))) (g0 rfl) rfl rfl rfl ?_
            refine o_nil ?_
            repeat (first | refine then_normal ?_ | refine then_exit ?_ | refine then_ret ?_ | refine block_normal ?_ | refine block_ret ?_ | refine block_exit ?_ | refine block_pass rfl ?_)
            refine c_ret ?_
            repeat (first | refine then_normal ?_ | refine then_exit ?_ | refine then_ret ?_ | refine block_normal ?_ | refine block_ret ?_ | refine block_exit ?_ | refine block_pass rfl ?_)
            obtain rfl := Option.some.inj h
            exact end0 rfl (.tup (.cons (.agg (.cons (.refl _) (.cons (.refl _) (.cons (.nil _) (.cons (.nil _) .nil))))) (.cons (.refl _) (.cons (.refl _) .nil))))
          · refine c_f h8 rfl ?_
            refine c_skip ?_
            repeat (first | refine then_normal ?_ | refine then_exit ?_ | refine then_ret ?_ | refine block_normal ?_ | refine block_ret ?_ | refine block_exit ?_ | refine block_pass rfl ?_)
            refine c_seq ?_
            refine c_seq ?_
            refine c_region ?_
            refine o_s (.t (.d (.lit (.int .i64 (x6.toNat : Int))))) (g0 rfl) rfl rfl rfl ?_
            refine o_s (.t (.d (.seq 1 (bytesD p0)))) (g0 rfl) rfl rfl rfl ?_
            refine o_c (g0 rfl) rfl rfl rfl (lenE _ _) trivial ?_
            refine o_s (.t (.d (.lit (.int .i64 (wi ((wi (p1 + 1)) + 1)))))) (g0 rfl) rfl rfl rfl ?_
            refine o_s (.t (.d (.lit (.int .i64 (wi ((p0.length : Int) - (wi ((wi (p1 + 1)) + 1)))))))) (g0 rfl) rfl rfl rfl ?_
            refine o_s (.t (.d (.lit (.bool (decide ((x6.toNat : Int) > (wi ((p0.length : Int) - (wi ((wi (p1 + 1)) + 1)))))))))) (g0 rfl) rfl rfl rfl ?_
            refine o_nil ?_
            repeat (first | refine then_normal ?_ | refine then_exit ?_ | refine then_ret ?_ | refine block_normal ?_ | refine block_ret ?_ | refine block_exit ?_ | refine block_pass rfl ?_)
            rcases bif_some h with ⟨h9, h⟩ | ⟨h9, h⟩
            · refine c_t h9 rfl ?_
              refine c_seq ?_
              refine c_region ?_
              refine o_s (.t (.agg [.lit (.int .i64 0), .lit (.int .i64 0), .lit (.slice none 0 0), .lit (.slice none 0 0)])) (g0 rfl) rfl rfl rfl ?_
              refine o_st (.box [.d (.lit (.int .i64 0)), .d (.lit (.int .i64 0)), .d (.lit (.slice none 0 0)), .d (.lit (.slice none 0 0))]) (g0 rfl) rfl rfl rfl ?_
              refine o_s (.t (.d (.lit (.int .i64 0)))) (g0 rfl) rfl rfl rfl ?_
              refine o_s (.t (.d (.lit (.int .i64 10)))) (g0 rfl) rfl rfl rfl ?_
              refine o_nil ?_
              repeat (first | refine then_normal ?_ | refine then_exit ?_ | refine then_ret ?_ | refine block_normal ?_ | refine block_ret ?_ | refine block_exit ?_ | refine block_pass rfl ?_)
              refine c_ret ?_
              repeat (first | refine then_normal ?_ | refine then_exit ?_ | refine then_ret ?_ | refine block_normal ?_ | refine block_ret ?_ | refine block_exit ?_ | refine block_pass rfl ?_)
              obtain rfl := Option.some.inj h
              exact end0 rfl (.tup (.cons (.agg (.cons (.refl _) (.cons (.refl _) (.cons (.nil _) (.cons (.nil _) .nil))))) (.cons (.refl _) (.cons (.refl _) .nil))))
            · refine c_f h9 rfl ?_
              refine c_skip ?_
              repeat (first | refine then_normal ?_ | refine then_exit ?_ | refine then_ret ?_ | refine block_normal ?_ | refine block_ret ?_ | refine block_exit ?_ | refine block_pass rfl ?_)
              refine c_seq ?_
              refine c_seq ?_
              refine c_region ?_
              refine o_s (.t (.d (.lit (.int .i64 (x6.toNat : Int))))) (g0 rfl) rfl rfl rfl ?_
              refine o_s (.t (.d (.lit (.bool ((x6.toNat : Int) == 0))))) (g0 rfl) rfl rfl rfl ?_
              refine o_nil ?_
              repeat (first | refine then_normal ?_ | refine then_exit ?_ | refine then_ret ?_ | refine block_normal ?_ | refine block_ret ?_ | refine block_exit ?_ | refine block_pass rfl ?_)
              rcases bif_some h with ⟨h10, h⟩ | ⟨h10, h⟩
              · refine c_t h10 rfl ?_
                refine c_seq ?_
                refine c_region ?_
                refine o_s (.t (.agg [.lit (.int .i64 1), .lit (.int .i64 0), .lit (.slice none 0 0), .lit (.slice none 0 0)])) (g0 rfl) rfl rfl rfl ?_
                refine o_s (.t (.d (.lit (.int .i64 (wi ((wi (p1 + 1)) + 1)))))) (g0 rfl) rfl rfl rfl ?_
                refine o_st (.box [.d (.lit (.int .i64 1)), .d (.lit (.int .i64 0)), .d (.lit (.slice none 0 0)), .d (.lit (.slice none 0 0))]) (g0 rfl) rfl rfl rfl ?_
                refine o_s (.t (.d (.lit (.int .i64 (wi ((wi (p1 + 1)) + 1)))))) (g0 rfl) rfl rfl rfl ?_
                refine o_s (.t (.d (.lit (.int .i64 0)))) (g0 rfl) rfl rfl rfl ?_
                refine o_nil ?_
                repeat (first | refine then_normal ?_ | refine then_exit ?_ | refine then_ret ?_ | refine block_normal ?_ | refine block_ret ?_ | refine block_exit ?_ | refine block_pass rfl ?_)
                refine c_ret ?_
                repeat (first | refine then_normal ?_ | refine then_exit ?_ | refine then_ret ?_ | refine block_normal ?_ | refine block_ret ?_ | refine block_exit ?_ | refine block_pass rfl ?_)
                obtain rfl := Option.some.inj h
                exact end0 rfl (.tup (.cons (.agg (.cons (.refl _) (.cons (.refl _) (.cons (.nil _) (.cons (.nil _) .nil))))) (.cons (.refl _) (.cons (.refl _) .nil))))
              · refine c_f h10 rfl ?_
                refine c_skip ?_
                repeat (first | refine then_normal ?_ | refine then_exit ?_ | refine then_ret ?_ | refine block_normal ?_ | refine block_ret ?_ | refine block_exit ?_ | refine block_pass rfl ?_)
                refine c_seq ?_
                refine c_region ?_
                refine o_s (.t (.d (.seq 1 (bytesD p0)))) (g0 rfl) rfl rfl rfl ?_
                refine o_s (.t (.d (.lit (.int .i64 (wi ((wi (p1 + 1)) + 1)))))) (g0 rfl) rfl rfl rfl ?_
                refine o_s (.t (.d (.lit (.int .i64 (wi ((wi (p1 + 1)) + 1)))))) (g0 rfl) rfl rfl rfl ?_
                refine o_s (.t (.d (.lit (.int .i64 (x6.toNat : Int))))) (g0 rfl) rfl rfl rfl ?_
                refine o_s (.t (.d (.lit (.int .i64 (wi ((wi ((wi (p1 + 1)) + 1)) + (x6.toNat : Int))))))) (g0 rfl) rfl rfl rfl ?_
                obtain ⟨x11, h12, h⟩ := bind_some h
                refine o_c (g0 rfl) rfl rfl rfl (cutE (c := cU8) h12) (cutC (c := cU8) h12) ?_
                obtain ⟨x13, h14, h⟩ := bind_some h
                refine o_ca (fc_R01_Get _ _ h14) (g0 rfl) rfl rfl rfl rfl rfl rfl rfl (.cons (.refl _) .nil) rfl rfl ?_
                refine o_s (.tup [.d (.lit (.int .i64 x13.1)), .d (.lit (.int .i64 x13.2))]) (g0 rfl) rfl rfl rfl ?_
                refine o_s (.t (.d (.lit (.int .i64 x13.1)))) (g0 rfl) rfl rfl rfl ?_
                refine o_s (.t (.d (.lit (.int .i64 x13.2)))) (g0 rfl) rfl rfl rfl ?_
                refine o_s (.t (.d (.lit (.int .i64 x13.1)))) (g0 rfl) rfl rfl rfl ?_
                refine o_s (.t (.d (.lit (.int .i64 x13.2)))) (g0 rfl) rfl rfl rfl ?_
                refine o_nil ?_
                repeat (first | refine then_normal ?_ | refine then_exit ?_ | refine then_ret ?_ | refine block_normal ?_ | refine block_ret ?_ | refine block_exit ?_ | refine block_pass rfl ?_)
                refine c_seq ?_
                refine c_seq ?_
                refine c_region ?_
                refine o_s (.t (.d (.lit (.int .i64 x13.2)))) (g0 rfl) rfl rfl rfl ?_
                refine o_s (.t (.d (.lit (.bool (x13.2 != 0))))) (g0 rfl) rfl rfl rfl ?_
                refine o_s (.t (.d (.lit (.bool (x13.2 != 0))))) (g0 rfl) rfl rfl rfl ?_
                rcases bif_some h with ⟨h15, h⟩ | ⟨h15, h⟩
                · refine o_skip rfl rfl rfl h15 rfl rfl ?_
                  refine o_skip rfl rfl rfl h15 rfl rfl ?_
                  refine o_skip rfl rfl rfl h15 rfl rfl ?_
                  refine o_skip rfl rfl rfl h15 rfl rfl ?_
                  refine o_skip rfl rfl rfl h15 rfl rfl ?_
                  refine o_pk (.t (.d (.lit (.bool true)))) (b := true) h15 (g0 rfl) rfl rfl rfl rfl rfl ?_
                  refine o_nil ?_
                  repeat (first | refine then_normal ?_ | refine then_exit ?_ | refine then_ret ?_ | refine block_normal ?_ | refine block_ret ?_ | refine block_exit ?_ | refine block_pass rfl ?_)
                  refine c_t rfl rfl ?_
                  refine c_seq ?_
                  refine c_region ?_
                  refine o_s (.t (.agg [.lit (.int .i64 0), .lit (.int .i64 0), .lit (.slice none 0 0), .lit (.slice none 0 0)])) (g0 rfl) rfl rfl rfl ?_
                  refine o_st (.box [.d (.lit (.int .i64 0)), .d (.lit (.int .i64 0)), .d (.lit (.slice none 0 0)), .d (.lit (.slice none 0 0))]) (g0 rfl) rfl rfl rfl ?_
                  refine o_s (.t (.d (.lit (.int .i64 0)))) (g0 rfl) rfl rfl rfl ?_
                  refine o_s (.t (.d (.lit (.int .i64 11)))) (g0 rfl) rfl rfl rfl ?_
                  refine o_nil ?_
                  repeat (first | refine then_normal ?_ | refine then_exit ?_ | refine then_ret ?_ | refine block_normal ?_ | refine block_ret ?_ | refine block_exit ?_ | refine block_pass rfl ?_)
                  refine c_ret ?_
                  repeat (first | refine then_normal ?_ | refine then_exit ?_ | refine then_ret ?_ | refine block_normal ?_ | refine block_ret ?_ | refine block_exit ?_ | refine block_pass rfl ?_)
                  obtain rfl := Option.some.inj h
                  exact end0 rfl (.tup (.cons (.agg (.cons (.refl _) (.cons (.refl _) (.cons (.nil _) (.cons (.nil _) .nil))))) (.cons (.refl _) (.cons (.refl _) .nil))))
                · refine o_s (.t (.d (.seq 1 (bytesD p0)))) (gy rfl rfl rfl h15) rfl rfl rfl ?_
                  refine o_s (.t (.d (.lit (.int .i64 (wi ((wi (p1 + 1)) + 1)))))) (gy rfl rfl rfl h15) rfl rfl rfl ?_
                  obtain ⟨x16, h17, h⟩ := bind_some h
                  refine o_c (gy rfl rfl rfl h15) rfl rfl rfl (idxE h17) (idxC h17) ?_
                  refine o_s (.t (.d (.lit (.int .u8 (x16.toNat : Int))))) (gy rfl rfl rfl h15) rfl rfl rfl ?_
                  refine o_s (.t (.d (.lit (.bool ((x16.toNat : Int) == 0))))) (gy rfl rfl rfl h15) rfl rfl rfl ?_
                  refine o_pk (.t (.d (.lit (.bool ((x16.toNat : Int) == 0))))) (b := false) h15 (g0 rfl) rfl rfl rfl rfl rfl ?_
                  refine o_nil ?_
                  repeat (first | refine then_normal ?_ | refine then_exit ?_ | refine then_ret ?_ | refine block_normal ?_ | refine block_ret ?_ | refine block_exit ?_ | refine block_pass rfl ?_)
                  rcases bif_some h with ⟨h18, h⟩ | ⟨h18, h⟩
                  · refine c_t h18 rfl ?_
                    refine c_seq ?_
                    refine c_region ?_
                    refine o_s (.t (.agg [.lit (.int .i64 0), .lit (.int .i64 0), .lit (.slice none 0 0), .lit (.slice none 0 0)])) (g0 rfl) rfl rfl rfl ?_
                    refine o_st (.box [.d (.lit (.int .i64 0)), .d (.lit (.int .i64 0)), .d (.lit (.slice none 0 0)), .d (.lit (.slice none 0 0))]) (g0 rfl) rfl rfl rfl ?_
                    refine o_s (.t (.d (.lit (.int .i64 0)))) (g0 rfl) rfl rfl rfl ?_
                    refine o_s (.t (.d (.lit (.int .i64 11)))) (g0 rfl) rfl rfl rfl ?_
                    refine o_nil ?_
                    repeat (first | refine then_normal ?_ | refine then_exit ?_ | refine then_ret ?_ | refine block_normal ?_ | refine block_ret ?_ | refine block_exit ?_ | refine block_pass rfl ?_)
                    refine c_ret ?_
                    repeat (first | refine then_normal ?_ | refine then_exit ?_ | refine then_ret ?_ | refine block_normal ?_ | refine block_ret ?_ | refine block_exit ?_ | refine block_pass rfl ?_)
                    obtain rfl := Option.some.inj h
                    exact end0 rfl (.tup (.cons (.agg (.cons (.refl _) (.cons (.refl _) (.cons (.nil _) (.cons (.nil _) .nil))))) (.cons (.refl _) (.cons (.refl _) .nil))))
                  · refine c_f h18 rfl ?_
                    refine c_skip ?_
                    repeat (first | refine then_normal ?_ | refine then_exit ?_ | refine then_ret ?_ | refine block_normal ?_ | refine block_ret ?_ | refine block_exit ?_ | refine block_pass rfl ?_)
                    refine c_seq ?_
                    refine c_region ?_
                    refine o_s (.t (.d (.lit (.int .i64 x13.1)))) (g0 rfl) rfl rfl rfl ?_
                    refine o_s (.t (.agg [.lit (.int .i64 1), .lit (.int .i64 x13.1), .lit (.slice none 0 0), .lit (.slice none 0 0)])) (g0 rfl) rfl rfl rfl ?_
                    refine o_s (.t (.d (.lit (.int .i64 (wi ((wi (p1 + 1)) + 1)))))) (g0 rfl) rfl rfl rfl ?_
                    refine o_s (.t (.d (.lit (.int .i64 (x6.toNat : Int))))) (g0 rfl) rfl rfl rfl ?_
                    refine o_s (.t (.d (.lit (.int .i64 (wi ((wi ((wi (p1 + 1)) + 1)) + (x6.toNat : Int))))))) (g0 rfl) rfl rfl rfl ?_
                    refine o_st (.box [.d (.lit (.int .i64 1)), .d (.lit (.int .i64 x13.1)), .d (.lit (.slice none 0 0)), .d (.lit (.slice none 0 0))]) (g0 rfl) rfl rfl rfl ?_
                    refine o_s (.t (.d (.lit (.int .i64 (wi ((wi ((wi (p1 + 1)) + 1)) + (x6.toNat : Int))))))) (g0 rfl) rfl rfl rfl ?_
                    refine o_s (.t (.d (.lit (.int .i64 0)))) (g0 rfl) rfl rfl rfl ?_
                    refine o_nil ?_
                    repeat (first | refine then_normal ?_ | refine then_exit ?_ | refine then_ret ?_ | refine block_normal ?_ | refine block_ret ?_ | refine block_exit ?_ | refine block_pass rfl ?_)
                    refine c_ret ?_
                    repeat (first | refine then_normal ?_ | refine then_exit ?_ | refine then_ret ?_ | refine block_normal ?_ | refine block_ret ?_ | refine block_exit ?_ | refine block_pass rfl ?_)
                    obtain rfl := Option.some.inj h
                    exact end0 rfl (.tup (.cons (.agg (.cons (.refl _) (.cons (.refl _) (.cons (.nil _) (.cons (.nil _) .nil))))) (.cons (.refl _) (.cons (.refl _) .nil))))
      · refine c_f h4 rfl ?_
        refine c_skip ?_
        repeat (first | refine then_normal ?_ | refine then_exit ?_ | refine then_ret ?_ | refine block_normal ?_ | refine block_ret ?_ | refine block_exit ?_ | refine block_pass rfl ?_)
        refine c_seq ?_
        refine c_seq ?_
        refine c_region ?_
        refine o_s (.t (.d (.lit (.int .i64 (x2.toNat : Int))))) (g0 rfl) rfl rfl rfl ?_
        refine o_s (.t (.d (.lit (.bool ((x2.toNat : Int) == 2))))) (g0 rfl) rfl rfl rfl ?_
        refine o_nil ?_
        repeat (first | refine then_normal ?_ | refine then_exit ?_ | refine then_ret ?_ | refine block_normal ?_ | refine block_ret ?_ | refine block_exit ?_ | refine block_pass rfl ?_)
        rcases bif_some h with ⟨h19, h⟩ | ⟨h19, h⟩
        · refine c_t h19 rfl ?_
          refine c_seq ?_
          refine c_seq ?_
          refine c_region ?_
          refine o_s (.t (.d (.seq 1 (bytesD p0)))) (g0 rfl) rfl rfl rfl ?_
          refine o_c (g0 rfl) rfl rfl rfl (lenE _ _) trivial ?_
          refine o_s (.t (.d (.lit (.int .i64 (wi (p1 + 1)))))) (g0 rfl) rfl rfl rfl ?_
          refine o_s (.t (.d (.lit (.int .i64 (wi ((p0.length : Int) - (wi (p1 + 1)))))))) (g0 rfl) rfl rfl rfl ?_
          refine o_s (.t (.d (.lit (.bool (decide ((wi ((p0.length : Int) - (wi (p1 + 1)))) < 3)))))) (g0 rfl) rfl rfl rfl ?_
          refine o_nil ?_
          repeat (first | refine then_normal ?_ | refine then_exit ?_ | refine then_ret ?_ | refine block_normal ?_ | refine block_ret ?_ | refine block_exit ?_ | refine block_pass rfl ?_)
          rcases bif_some h with ⟨h20, h⟩ | ⟨h20, h⟩
          · refine c_t h20 rfl ?_
            refine c_seq ?_
            refine c_region ?_
            refine o_s (.t (.agg [.lit (.int .i64 0), .lit (.int .i64 0), .lit (.slice none 0 0), .lit (.slice none 0 0)])) (g0 rfl) rfl rfl rfl ?_
            refine o_st (.box [.d (.lit (.int .i64 0)), .d (.lit (.int .i64 0)), .d (.lit (.slice none 0 0)), .d (.lit (.slice none 0 0))]) (g0 rfl) rfl rfl rfl ?_
            refine o_s (.t (.d (.lit (.int .i64 0)))) (g0 rfl) rfl rfl rfl ?_
            refine o_s (.t (.d (.lit (.int .i64 10)))) (g0 rfl) rfl rfl rfl ?_
            refine o_nil ?_
            repeat (first | refine then_normal ?_ | refine then_exit ?_ | refine then_ret ?_ | refine block_normal ?_ | refine block_ret ?_ | refine block_exit ?_ | refine block_pass rfl ?_)
            refine c_ret ?_
            repeat (first | refine then_normal ?_ | refine then_exit ?_ | refine then_ret ?_ | refine block_normal ?_ | refine block_ret ?_ | refine block_exit ?_ | refine block_pass rfl ?_)
            obtain rfl := Option.some.inj h
            exact end0 rfl (.tup (.cons (.agg (.cons (.refl _) (.cons (.refl _) (.cons (.nil _) (.cons (.nil _) .nil))))) (.cons (.refl _) (.cons (.refl _) .nil))))
          · refine c_f h20 rfl ?_
            refine c_skip ?_
            repeat (first | refine then_normal ?_ | refine then_exit ?_ | refine then_ret ?_ | refine block_normal ?_ | refine block_ret ?_ | refine block_exit ?_ | refine block_pass rfl ?_)
            refine c_seq ?_
            refine c_region ?_
            refine o_s (.t (.d (.seq 1 (bytesD p0)))) (g0 rfl) rfl rfl rfl ?_
            refine o_s (.t (.d (.lit (.int .i64 (wi (p1 + 1)))))) (g0 rfl) rfl rfl rfl ?_
            refine o_s (.t (.d (.lit (.int .i64 (wi (p1 + 1)))))) (g0 rfl) rfl rfl rfl ?_
            refine o_s (.t (.d (.lit (.int .i64 (wi ((wi (p1 + 1)) + 3)))))) (g0 rfl) rfl rfl rfl ?_
            obtain ⟨x21, h22, h⟩ := bind_some h
            refine o_c (g0 rfl) rfl rfl rfl (cutE (c := cU8) h22) (cutC (c := cU8) h22) ?_
            obtain ⟨x23, h24, h⟩ := bind_some h
            refine o_ca (fc_R01_Get _ _ h24) (g0 rfl) rfl rfl rfl rfl rfl rfl rfl (.cons (.refl _) .nil) rfl rfl ?_
            refine o_s (.tup [.d (.lit (.int .i64 x23.1)), .d (.lit (.int .i64 x23.2))]) (g0 rfl) rfl rfl rfl ?_
            refine o_s (.t (.d (.lit (.int .i64 x23.1)))) (g0 rfl) rfl rfl rfl ?_
            refine o_s (.t (.d (.lit (.int .i64 x23.2)))) (g0 rfl) rfl rfl rfl ?_
            refine o_s (.t (.d (.lit (.int .i64 x23.1)))) (g0 rfl) rfl rfl rfl ?_
            refine o_s (.t (.d (.lit (.int .i64 x23.2)))) (g0 rfl) rfl rfl rfl ?_
            refine o_nil ?_
            repeat (first | refine then_normal ?_ | refine then_exit ?_ | refine then_ret ?_ | refine block_normal ?_ | refine block_ret ?_ | refine block_exit ?_ | refine block_pass rfl ?_)
            refine c_seq ?_
            refine c_region ?_
            refine o_s (.t (.d (.lit (.int .i64 (wi (p1 + 1)))))) (g0 rfl) rfl rfl rfl ?_
            refine o_s (.t (.d (.lit (.int .i64 (wi ((wi (p1 + 1)) + 3)))))) (g0 rfl) rfl rfl rfl ?_
            refine o_s (.t (.d (.lit (.int .i64 (wi ((wi (p1 + 1)) + 3)))))) (g0 rfl) rfl rfl rfl ?_
            refine o_nil ?_
            repeat (first | refine then_normal ?_ | refine then_exit ?_ | refine then_ret ?_ | refine block_normal ?_ | refine block_ret ?_ | refine block_exit ?_ | refine block_pass rfl ?_)
            refine c_seq ?_
            refine c_seq ?_
            refine c_region ?_
            refine o_s (.t (.d (.lit (.int .i64 x23.1)))) (g0 rfl) rfl rfl rfl ?_
            refine o_s (.t (.d (.seq 1 (bytesD p0)))) (g0 rfl) rfl rfl rfl ?_
            refine o_c (g0 rfl) rfl rfl rfl (lenE _ _) trivial ?_
            refine o_s (.t (.d (.lit (.int .i64 (wi ((wi (p1 + 1)) + 3)))))) (g0 rfl) rfl rfl rfl ?_
            refine o_s (.t (.d (.lit (.int .i64 (wi ((p0.length : Int) - (wi ((wi (p1 + 1)) + 3)))))))) (g0 rfl) rfl rfl rfl ?_
            refine o_s (.t (.d (.lit (.bool (decide (x23.1 > (wi ((p0.length : Int) - (wi ((wi (p1 + 1)) + 3)))))))))) (g0 rfl) rfl rfl rfl ?_
            refine o_nil ?_
            repeat (first | refine then_normal ?_ | refine then_exit ?_ | refine then_ret ?_ | refine block_normal ?_ | refine block_ret ?_ | refine block_exit ?_ | refine block_pass rfl ?_)
            rcases bif_some h with ⟨h25, h⟩ | ⟨h25, h⟩
            · refine c_t h25 rfl ?_
              refine c_seq ?_
              refine c_region ?_
              refine o_s (.t (.agg [.lit (.int .i64 0), .lit (.int .i64 0), .lit (.slice none 0 0), .lit (.slice none 0 0)])) (g0 rfl) rfl rfl rfl ?_
              refine o_st (.box [.d (.lit (.int .i64 0)), .d (.lit (.int .i64 0)), .d (.lit (.slice none 0 0)), .d (.lit (.slice none 0 0))]) (g0 rfl) rfl rfl rfl ?_
              refine o_s (.t (.d (.lit (.int .i64 0)))) (g0 rfl) rfl rfl rfl ?_
              refine o_s (.t (.d (.lit (.int .i64 10)))) (g0 rfl) rfl rfl rfl ?_
              refine o_nil ?_
              repeat (first | refine then_normal ?_ | refine then_exit ?_ | refine then_ret ?_ | refine block_normal ?_ | refine block_ret ?_ | refine block_exit ?_ | refine block_pass rfl ?_)
              refine c_ret ?_
              repeat (first | refine then_normal ?_ | refine then_exit ?_ | refine then_ret ?_ | refine block_normal ?_ | refine block_ret ?_ | refine block_exit ?_ | refine block_pass rfl ?_)
              obtain rfl := Option.some.inj h
              exact end0 rfl (.tup (.cons (.agg (.cons (.refl _) (.cons (.refl _) (.cons (.nil _) (.cons (.nil _) .nil))))) (.cons (.refl _) (.cons (.refl _) .nil))))
            · refine c_f h25 rfl ?_
              refine c_skip ?_
              repeat (first | refine then_normal ?_ | refine then_exit ?_ | refine then_ret ?_ | refine block_normal ?_ | refine block_ret ?_ | refine block_exit ?_ | refine block_pass rfl ?_)
              refine c_seq ?_
              refine c_region ?_
              refine o_s (.t (.d (.seq 1 (bytesD p0)))) (g0 rfl) rfl rfl rfl ?_
              refine o_s (.t (.d (.lit (.int .i64 (wi ((wi (p1 + 1)) + 3)))))) (g0 rfl) rfl rfl rfl ?_
              refine o_s (.t (.d (.lit (.int .i64 (wi ((wi (p1 + 1)) + 3)))))) (g0 rfl) rfl rfl rfl ?_
              refine o_s (.t (.d (.lit (.int .i64 x23.1)))) (g0 rfl) rfl rfl rfl ?_
              refine o_s (.t (.d (.lit (.int .i64 (wi ((wi ((wi (p1 + 1)) + 3)) + x23.1)))))) (g0 rfl) rfl rfl rfl ?_
              obtain ⟨x26, h27, h⟩ := bind_some h
              refine o_c (g0 rfl) rfl rfl rfl (cutE (c := cU8) h27) (cutC (c := cU8) h27) ?_
              refine o_s (.t (.agg [.lit (.int .i64 2), .lit (.int .i64 0), .seq 1 (bytesD x26), .lit (.slice none 0 0)])) (g0 rfl) rfl rfl rfl ?_
              refine o_s (.t (.d (.lit (.int .i64 (wi ((wi (p1 + 1)) + 3)))))) (g0 rfl) rfl rfl rfl ?_
              refine o_s (.t (.d (.lit (.int .i64 x23.1)))) (g0 rfl) rfl rfl rfl ?_
              refine o_s (.t (.d (.lit (.int .i64 (wi ((wi ((wi (p1 + 1)) + 3)) + x23.1)))))) (g0 rfl) rfl rfl rfl ?_
              refine o_st (.box [.d (.lit (.int .i64 2)), .d (.lit (.int .i64 0)), .d (.seq 1 (bytesD x26)), .d (.lit (.slice none 0 0))]) (g0 rfl) rfl rfl rfl ?_
              refine o_s (.t (.d (.lit (.int .i64 (wi ((wi ((wi (p1 + 1)) + 3)) + x23.1)))))) (g0 rfl) rfl rfl rfl ?_
              refine o_s (.t (.d (.lit (.int .i64 0)))) (g0 rfl) rfl rfl rfl ?_
              refine o_nil ?_
              repeat (first | refine then_normal ?_ | refine then_exit ?_ | refine then_ret ?_ | refine block_normal ?_ | refine block_ret ?_ | refine block_exit ?_ | refine block_pass rfl ?_)
              refine c_ret ?_
              repeat (first | refine then_normal ?_ | refine then_exit ?_ | refine then_ret ?_ | refine block_normal ?_ | refine block_ret ?_ | refine block_exit ?_ | refine block_pass rfl ?_)
              obtain rfl := Option.some.inj h
              exact end0 rfl (.tup (.cons (.agg (.cons (.refl _) (.cons (.refl _) (.cons (.refl _) (.cons (.nil _) .nil))))) (.cons (.refl _) (.cons (.refl _) .nil))))
        · refine c_f h19 rfl ?_
          refine c_skip ?_
          repeat (first | refine then_normal ?_ | refine then_exit ?_ | refine then_ret ?_ | refine block_normal ?_ | refine block_ret ?_ | refine block_exit ?_ | refine block_pass rfl ?_)
          refine c_seq ?_
          refine c_seq ?_
          refine c_region ?_
          refine o_s (.t (.d (.lit (.int .i64 (x2.toNat : Int))))) (g0 rfl) rfl rfl rfl ?_
          refine o_s (.t (.d (.lit (.bool ((x2.toNat : Int) != 3))))) (g0 rfl) rfl rfl rfl ?_
          refine o_nil ?_
          repeat (first | refine then_normal ?_ | refine then_exit ?_ | refine then_ret ?_ | refine block_normal ?_ | refine block_ret ?_ | refine block_exit ?_ | refine block_pass rfl ?_)
          rcases bif_some h with ⟨h28, h⟩ | ⟨h28, h⟩
          · refine c_t h28 rfl ?_
            refine c_seq ?_
            refine c_region ?_
            refine o_s (.t (.agg [.lit (.int .i64 0), .lit (.int .i64 0), .lit (.slice none 0 0), .lit (.slice none 0 0)])) (g0 rfl) rfl rfl rfl ?_
            refine o_st (.box [.d (.lit (.int .i64 0)), .d (.lit (.int .i64 0)), .d (.lit (.slice none 0 0)), .d (.lit (.slice none 0 0))]) (g0 rfl) rfl rfl rfl ?_
            refine o_s (.t (.d (.lit (.int .i64 0)))) (g0 rfl) rfl rfl rfl ?_
            refine o_s (.t (.d (.lit (.int .i64 11)))) (g0 rfl) rfl rfl rfl ?_
            refine o_nil ?_
            repeat (first | refine then_normal ?_ | refine then_exit ?_ | refine then_ret ?_ | refine block_normal ?_ | refine block_ret ?_ | refine block_exit ?_ | refine block_pass rfl ?_)
            refine c_ret ?_
            repeat (first | refine then_normal ?_ | refine then_exit ?_ | refine then_ret ?_ | refine block_normal ?_ | refine block_ret ?_ | refine block_exit ?_ | refine block_pass rfl ?_)
            obtain rfl := Option.some.inj h
            exact end0 rfl (.tup (.cons (.agg (.cons (.refl _) (.cons (.refl _) (.cons (.nil _) (.cons (.nil _) .nil))))) (.cons (.refl _) (.cons (.refl _) .nil))))
          · refine c_f h28 rfl ?_
            refine c_skip ?_
            repeat (first | refine then_normal ?_ | refine then_exit ?_ | refine then_ret ?_ | refine block_normal ?_ | refine block_ret ?_ | refine block_exit ?_ | refine block_pass rfl ?_)
            refine c_seq ?_
            refine c_seq ?_
            refine c_region ?_
            refine o_s (.t (.d (.seq 1 (bytesD p0)))) (g0 rfl) rfl rfl rfl ?_
            refine o_c (g0 rfl) rfl rfl rfl (lenE _ _) trivial ?_
            refine o_s (.t (.d (.lit (.int .i64 (wi (p1 + 1)))))) (g0 rfl) rfl rfl rfl ?_
            refine o_s (.t (.d (.lit (.int .i64 (wi ((p0.length : Int) - (wi (p1 + 1)))))))) (g0 rfl) rfl rfl rfl ?_
            refine o_s (.t (.d (.lit (.bool (decide ((wi ((p0.length : Int) - (wi (p1 + 1)))) < 2)))))) (g0 rfl) rfl rfl rfl ?_
            refine o_nil ?_
            repeat (first | refine then_normal ?_ | refine then_exit ?_ | refine then_ret ?_ | refine block_normal ?_ | refine block_ret ?_ | refine block_exit ?_ | refine block_pass rfl ?_)
            rcases bif_some h with ⟨h29, h⟩ | ⟨h29, h⟩
            · refine c_t h29 rfl ?_
              refine c_seq ?_
              refine c_region ?_
              refine o_s (.t (.agg [.lit (.int .i64 0), .lit (.int .i64 0), .lit (.slice none 0 0), .lit (.slice none 0 0)])) (g0 rfl) rfl rfl rfl ?_
              refine o_st (.box [.d (.lit (.int .i64 0)), .d (.lit (.int .i64 0)), .d (.lit (.slice none 0 0)), .d (.lit (.slice none 0 0))]) (g0 rfl) rfl rfl rfl ?_
              refine o_s (.t (.d (.lit (.int .i64 0)))) (g0 rfl) rfl rfl rfl ?_
              refine o_s (.t (.d (.lit (.int .i64 10)))) (g0 rfl) rfl rfl rfl ?_
              refine o_nil ?_
              repeat (first | refine then_normal ?_ | refine then_exit ?_ | refine then_ret ?_ | refine block_normal ?_ | refine block_ret ?_ | refine block_exit ?_ | refine block_pass rfl ?_)
              refine c_ret ?_
              repeat (first | refine then_normal ?_ | refine then_exit ?_ | refine then_ret ?_ | refine block_normal ?_ | refine block_ret ?_ | refine block_exit ?_ | refine block_pass rfl ?_)
              obtain rfl := Option.some.inj h
              exact end0 rfl (.tup (.cons (.agg (.cons (.refl _) (.cons (.refl _) (.cons (.nil _) (.cons (.nil _) .nil))))) (.cons (.refl _) (.cons (.refl _) .nil))))
            · refine c_f h29 rfl ?_
              refine c_skip ?_
              repeat (first | refine then_normal ?_ | refine then_exit ?_ | refine then_ret ?_ | refine block_normal ?_ | refine block_ret ?_ | refine block_exit ?_ | refine block_pass rfl ?_)
              refine c_seq ?_
              refine c_region ?_
              refine o_s (.t (.d (.seq 1 (bytesD p0)))) (g0 rfl) rfl rfl rfl ?_
              refine o_s (.t (.d (.lit (.int .i64 (wi (p1 + 1)))))) (g0 rfl) rfl rfl rfl ?_
              refine o_s (.t (.d (.lit (.int .i64 (wi (p1 + 1)))))) (g0 rfl) rfl rfl rfl ?_
              refine o_s (.t (.d (.lit (.int .i64 (wi ((wi (p1 + 1)) + 2)))))) (g0 rfl) rfl rfl rfl ?_
              obtain ⟨x30, h31, h⟩ := bind_some h
              refine o_c (g0 rfl) rfl rfl rfl (cutE (c := cU8) h31) (cutC (c := cU8) h31) ?_
              obtain ⟨x32, h33, h⟩ := bind_some h
              refine o_ca (fc_R01_Get _ _ h33) (g0 rfl) rfl rfl rfl rfl rfl rfl rfl (.cons (.refl _) .nil) rfl rfl ?_
              refine o_s (.tup [.d (.lit (.int .i64 x32.1)), .d (.lit (.int .i64 x32.2))]) (g0 rfl) rfl rfl rfl ?_
              refine o_s (.t (.d (.lit (.int .i64 x32.1)))) (g0 rfl) rfl rfl rfl ?_
              refine o_s (.t (.d (.lit (.int .i64 x32.2)))) (g0 rfl) rfl rfl rfl ?_
              refine o_s (.t (.d (.lit (.int .i64 x32.1)))) (g0 rfl) rfl rfl rfl ?_
              refine o_s (.t (.d (.lit (.int .i64 x32.2)))) (g0 rfl) rfl rfl rfl ?_
              refine o_nil ?_
              repeat (first | refine then_normal ?_ | refine then_exit ?_ | refine then_ret ?_ | refine block_normal ?_ | refine block_ret ?_ | refine block_exit ?_ | refine block_pass rfl ?_)
              refine c_seq ?_
              refine c_region ?_
              refine o_s (.t (.d (.lit (.int .i64 (wi (p1 + 1)))))) (g0 rfl) rfl rfl rfl ?_
              refine o_s (.t (.d (.lit (.int .i64 (wi ((wi (p1 + 1)) + 2)))))) (g0 rfl) rfl rfl rfl ?_
              refine o_s (.t (.d (.lit (.int .i64 (wi ((wi (p1 + 1)) + 2)))))) (g0 rfl) rfl rfl rfl ?_
              refine o_nil ?_
              repeat (first | refine then_normal ?_ | refine then_exit ?_ | refine then_ret ?_ | refine block_normal ?_ | refine block_ret ?_ | refine block_exit ?_ | refine block_pass rfl ?_)
              refine c_seq ?_
              refine c_seq ?_
              refine c_region ?_
              refine o_s (.t (.d (.lit (.int .i64 x32.1)))) (g0 rfl) rfl rfl rfl ?_
              refine o_s (.t (.d (.lit (.bool (decide (x32.1 > 4096)))))) (g0 rfl) rfl rfl rfl ?_
              refine o_s (.t (.d (.lit (.bool (decide (x32.1 > 4096)))))) (g0 rfl) rfl rfl rfl ?_
              rcases bif_some h with ⟨h34, h⟩ | ⟨h34, h⟩
              · refine o_skip rfl rfl rfl h34 rfl rfl ?_
                refine o_skip rfl rfl rfl h34 rfl rfl ?_
                refine o_pk (.t (.d (.lit (.bool true)))) (b := true) h34 (g0 rfl) rfl rfl rfl rfl rfl ?_
                refine o_nil ?_
                repeat (first | refine then_normal ?_ | refine then_exit ?_ | refine then_ret ?_ | refine block_normal ?_ | refine block_ret ?_ | refine block_exit ?_ | refine block_pass rfl ?_)
                refine c_t rfl rfl ?_
                refine c_seq ?_
                refine c_region ?_
                refine o_s (.t (.agg [.lit (.int .i64 0), .lit (.int .i64 0), .lit (.slice none 0 0), .lit (.slice none 0 0)])) (g0 rfl) rfl rfl rfl ?_
                refine o_st (.box [.d (.lit (.int .i64 0)), .d (.lit (.int .i64 0)), .d (.lit (.slice none 0 0)), .d (.lit (.slice none 0 0))]) (g0 rfl) rfl rfl rfl ?_
                refine o_s (.t (.d (.lit (.int .i64 0)))) (g0 rfl) rfl rfl rfl ?_
                refine o_s (.t (.d (.lit (.int .i64 11)))) (g0 rfl) rfl rfl rfl ?_
                refine o_nil ?_
                repeat (first | refine then_normal ?_ | refine then_exit ?_ | refine then_ret ?_ | refine block_normal ?_ | refine block_ret ?_ | refine block_exit ?_ | refine block_pass rfl ?_)
                refine c_ret ?_
                repeat (first | refine then_normal ?_ | refine then_exit ?_ | refine then_ret ?_ | refine block_normal ?_ | refine block_ret ?_ | refine block_exit ?_ | refine block_pass rfl ?_)
                obtain rfl := Option.some.inj h
                exact end0 rfl (.tup (.cons (.agg (.cons (.refl _) (.cons (.refl _) (.cons (.nil _) (.cons (.nil _) .nil))))) (.cons (.refl _) (.cons (.refl _) .nil))))
              · refine o_s (.t (.d (.lit (.int .i64 p2)))) (gy rfl rfl rfl h34) rfl rfl rfl ?_
                refine o_s (.t (.d (.lit (.bool (p2 == 0))))) (gy rfl rfl rfl h34) rfl rfl rfl ?_
                refine o_pk (.t (.d (.lit (.bool (p2 == 0))))) (b := false) h34 (g0 rfl) rfl rfl rfl rfl rfl ?_
                refine o_nil ?_
                repeat (first | refine then_normal ?_ | refine then_exit ?_ | refine then_ret ?_ | refine block_normal ?_ | refine block_ret ?_ | refine block_exit ?_ | refine block_pass rfl ?_)
                rcases bif_some h with ⟨h35, h⟩ | ⟨h35, h⟩
                · refine c_t h35 rfl ?_
                  refine c_seq ?_
                  refine c_region ?_
                  refine o_s (.t (.agg [.lit (.int .i64 0), .lit (.int .i64 0), .lit (.slice none 0 0), .lit (.slice none 0 0)])) (g0 rfl) rfl rfl rfl ?_
                  refine o_st (.box [.d (.lit (.int .i64 0)), .d (.lit (.int .i64 0)), .d (.lit (.slice none 0 0)), .d (.lit (.slice none 0 0))]) (g0 rfl) rfl rfl rfl ?_
                  refine o_s (.t (.d (.lit (.int .i64 0)))) (g0 rfl) rfl rfl rfl ?_
                  refine o_s (.t (.d (.lit (.int .i64 11)))) (g0 rfl) rfl rfl rfl ?_
                  refine o_nil ?_
                  repeat (first | refine then_normal ?_ | refine then_exit ?_ | refine then_ret ?_ | refine block_normal ?_ | refine block_ret ?_ | refine block_exit ?_ | refine block_pass rfl ?_)
                  refine c_ret ?_
                  repeat (first | refine then_normal ?_ | refine then_exit ?_ | refine then_ret ?_ | refine block_normal ?_ | refine block_ret ?_ | refine block_exit ?_ | refine block_pass rfl ?_)
                  obtain rfl := Option.some.inj h
                  exact end0 rfl (.tup (.cons (.agg (.cons (.refl _) (.cons (.refl _) (.cons (.nil _) (.cons (.nil _) .nil))))) (.cons (.refl _) (.cons (.refl _) .nil))))
                · refine c_f h35 rfl ?_
                  refine c_skip ?_
                  repeat (first | refine then_normal ?_ | refine then_exit ?_ | refine then_ret ?_ | refine block_normal ?_ | refine block_ret ?_ | refine block_exit ?_ | refine block_pass rfl ?_)
                  refine c_seq ?_
                  refine c_region ?_
                  refine o_s (.t (.agg [.lit (.int .i64 3), .lit (.int .i64 0), .lit (.slice none 0 0), .lit (.slice none 0 0)])) (g0 rfl) rfl rfl rfl ?_
                  refine o_s (.box [.d (.lit (.int .i64 0)), .d (.lit (.int .i64 0)), .d (.lit (.slice none 0 0)), .d (.lit (.slice none 0 0))]) (g0 rfl) rfl rfl rfl ?_
                  refine o_st (.box [.d (.lit (.int .i64 3)), .d (.lit (.int .i64 0)), .d (.lit (.slice none 0 0)), .d (.lit (.slice none 0 0))]) (g0 rfl) rfl rfl rfl ?_
                  refine o_nil ?_
                  repeat (first | refine then_normal ?_ | refine then_exit ?_ | refine then_ret ?_ | refine block_normal ?_ | refine block_ret ?_ | refine block_exit ?_ | refine block_pass rfl ?_)
                  refine c_cut (fun (q : Int × (List V)) => [(1, .t (.d (.lit (.int .i64 q.1)))), (6, .box [.d (.lit (.int .i64 0)), .d (.lit (.int .i64 0)), .d (.lit (.slice none 0 0)), .d (.lit (.slice none 0 0))]), (17, .box [.d (.lit (.int .i64 3)), .d (.lit (.int .i64 0)), .d (.lit (.slice none 0 0)), .own 79 4 (List.map V.cells q.2)])]) (fun (q : Int × (List V)) => m_R02_Read_j1 q.1 q.2 = some r) ?_ ?_
                  · refine c_seq ?_
                    refine c_region ?_
                    refine o_s (.t (.d (.lit (.int .i64 0)))) (g0 rfl) rfl rfl rfl ?_
                    refine o_nil ?_
                    repeat (first | refine then_normal ?_ | refine then_exit ?_ | refine then_ret ?_ | refine block_normal ?_ | refine block_ret ?_ | refine block_exit ?_ | refine block_pass rfl ?_)
                    refine c_block ?_
                    refine c_fuel (fun (q : Int × (List V) × Int) => [(0, .t (.d (.seq 1 (bytesD p0)))), (1, .t (.d (.lit (.int .i64 q.1)))), (2, .t (.d (.lit (.int .i64 p2)))), (6, .box [.d (.lit (.int .i64 0)), .d (.lit (.int .i64 0)), .d (.lit (.slice none 0 0)), .d (.lit (.slice none 0 0))]), (15, .t (.d (.lit (.int .i64 x32.1)))), (17, .box [.d (.lit (.int .i64 3)), .d (.lit (.int .i64 0)), .d (.lit (.slice none 0 0)), .own 79 4 (List.map V.cells q.2.1)]), (18, .t (.d (.lit (.int .i64 q.2.2))))]) (fun nl2 => (fun (q : Int × (List V) × Int) => m_R02_Read_l2 x32 (m_R02_Read k0) p0 p2 nl2 q.1 q.2.1 q.2.2 = some r)) (Int.toNat x32.1 + 1) ((wi ((wi (p1 + 1)) + 2)), [], 0) h ⟨(.refl _), ⟨(.refl _), ⟨(.refl _), ⟨(.refl _), ⟨(.refl _), ⟨(.box (.cons (.refl _) (.cons (.refl _) (.cons (.refl _) (.cons (.nilOwn _ _) .nil)))) rfl), ⟨(.refl _), trivial⟩⟩⟩⟩⟩⟩⟩ rfl ?_
                    rintro nl2 ⟨z38, z39, z40⟩ h
                    cases nl2 with
                    | zero => exact none_ne h
                    | succ nl2 =>
                      refine c_seq ?_
                      refine c_seq ?_
                      refine c_region ?_
                      refine o_s (.t (.d (.lit (.int .i64 z40)))) (g0 rfl) rfl rfl rfl ?_
                      refine o_s (.t (.d (.lit (.int .i64 x32.1)))) (g0 rfl) rfl rfl rfl ?_
                      refine o_s (.t (.d (.lit (.bool (decide (z40 < x32.1)))))) (g0 rfl) rfl rfl rfl ?_
                      refine o_nil ?_
                      repeat (first | refine then_normal ?_ | refine then_exit ?_ | refine then_ret ?_ | refine block_normal ?_ | refine block_ret ?_ | refine block_exit ?_ | refine block_pass rfl ?_)
                      rcases bif_some h with ⟨h41, h⟩ | ⟨h41, h⟩
                      · refine c_t h41 rfl ?_
                        refine c_skip ?_
                        repeat (first | refine then_normal ?_ | refine then_exit ?_ | refine then_ret ?_ | refine block_normal ?_ | refine block_ret ?_ | refine block_exit ?_ | refine block_pass rfl ?_)
                        refine c_seq ?_
                        refine c_block ?_
                        refine c_seq ?_
                        refine c_region ?_
                        refine o_s (.t (.d (.seq 1 (bytesD p0)))) (g0 rfl) rfl rfl rfl ?_
                        refine o_s (.t (.d (.lit (.int .i64 z38)))) (g0 rfl) rfl rfl rfl ?_
                        refine o_s (.t (.d (.lit (.int .i64 p2)))) (g0 rfl) rfl rfl rfl ?_
                        refine o_s (.t (.d (.lit (.int .i64 (wi (p2 - 1)))))) (g0 rfl) rfl rfl rfl ?_
                        obtain ⟨x42, h43, h⟩ := bind_some h
                        refine o_ca (ih _ _ _ _ h43) (g0 rfl) rfl rfl rfl rfl rfl rfl rfl (.cons (.refl _) (.cons (.refl _) (.cons (.refl _) .nil))) rfl rfl ?_
                        refine o_s (.tup [.agg [.lit (.int .i64 x42.1.k), .lit (.int .i64 x42.1.n), .seq 1 (bytesD x42.1.b), .seq 4 (List.map V.cells x42.1.l)], .d (.lit (.int .i64 x42.2.1)), .d (.lit (.int .i64 x42.2.2))]) (g0 rfl) rfl rfl rfl ?_
                        refine o_s (.t (.agg [.lit (.int .i64 x42.1.k), .lit (.int .i64 x42.1.n), .seq 1 (bytesD x42.1.b), .seq 4 (List.map V.cells x42.1.l)])) (g0 rfl) rfl rfl rfl ?_
                        refine o_s (.t (.d (.lit (.int .i64 x42.2.1)))) (g0 rfl) rfl rfl rfl ?_
                        refine o_s (.t (.d (.lit (.int .i64 x42.2.2)))) (g0 rfl) rfl rfl rfl ?_
                        refine o_s (.box [.d (.lit (.int .i64 0)), .d (.lit (.int .i64 0)), .d (.lit (.slice none 0 0)), .d (.lit (.slice none 0 0))]) (g0 rfl) rfl rfl rfl ?_
                        refine o_st (.box [.d (.lit (.int .i64 x42.1.k)), .d (.lit (.int .i64 x42.1.n)), .d (.seq 1 (bytesD x42.1.b)), .d (.seq 4 (List.map V.cells x42.1.l))]) (g0 rfl) rfl rfl rfl ?_
                        refine o_s (.t (.d (.lit (.int .i64 x42.2.1)))) (g0 rfl) rfl rfl rfl ?_
                        refine o_s (.t (.d (.lit (.int .i64 x42.2.2)))) (g0 rfl) rfl rfl rfl ?_
                        refine o_nil ?_
                        repeat (first | refine then_normal ?_ | refine then_exit ?_ | refine then_ret ?_ | refine block_normal ?_ | refine block_ret ?_ | refine block_exit ?_ | refine block_pass rfl ?_)
                        refine c_seq ?_
                        refine c_seq ?_
                        refine c_region ?_
                        refine o_s (.t (.d (.lit (.int .i64 x42.2.2)))) (g0 rfl) rfl rfl rfl ?_
                        refine o_s (.t (.d (.lit (.bool (x42.2.2 != 0))))) (g0 rfl) rfl rfl rfl ?_
                        refine o_nil ?_
                        repeat (first | refine then_normal ?_ | refine then_exit ?_ | refine then_ret ?_ | refine block_normal ?_ | refine block_ret ?_ | refine block_exit ?_ | refine block_pass rfl ?_)
                        rcases bif_some h with ⟨h44, h⟩ | ⟨h44, h⟩
                        · refine c_t h44 rfl ?_
                          refine c_seq ?_
                          refine c_region ?_
                          refine o_s (.t (.agg [.lit (.int .i64 0), .lit (.int .i64 0), .lit (.slice none 0 0), .lit (.slice none 0 0)])) (g0 rfl) rfl rfl rfl ?_
                          refine o_s (.t (.d (.lit (.int .i64 x42.2.2)))) (g0 rfl) rfl rfl rfl ?_
                          refine o_st (.box [.d (.lit (.int .i64 0)), .d (.lit (.int .i64 0)), .d (.lit (.slice none 0 0)), .d (.lit (.slice none 0 0))]) (g0 rfl) rfl rfl rfl ?_
                          refine o_s (.t (.d (.lit (.int .i64 0)))) (g0 rfl) rfl rfl rfl ?_
                          refine o_s (.t (.d (.lit (.int .i64 x42.2.2)))) (g0 rfl) rfl rfl rfl ?_
                          refine o_nil ?_
                          repeat (first | refine then_normal ?_ | refine then_exit ?_ | refine then_ret ?_ | refine block_normal ?_ | refine block_ret ?_ | refine block_exit ?_ | refine block_pass rfl ?_)
                          refine c_ret ?_
                          repeat (first | refine then_normal ?_ | refine then_exit ?_ | refine then_ret ?_ | refine block_normal ?_ | refine block_ret ?_ | refine block_exit ?_ | refine block_pass rfl ?_)
                          obtain rfl := Option.some.inj h
                          exact end0 rfl (.tup (.cons (.agg (.cons (.refl _) (.cons (.refl _) (.cons (.nil _) (.cons (.nil _) .nil))))) (.cons (.refl _) (.cons (.refl _) .nil))))
                        · refine c_f h44 rfl ?_
                          refine c_skip ?_
                          repeat (first | refine then_normal ?_ | refine then_exit ?_ | refine then_ret ?_ | refine block_normal ?_ | refine block_ret ?_ | refine block_exit ?_ | refine block_pass rfl ?_)
                          refine c_seq ?_
                          refine c_region ?_
                          refine o_s (.ref 17 3) (g0 rfl) rfl rfl rfl ?_
                          refine o_2 (.box [.d (.lit (.int .i64 3)), .d (.lit (.int .i64 0)), .d (.lit (.slice none 0 0)), .d (.seq 4 (List.map V.cells z39))]) (.t (.own 79 4 (List.map V.cells z39))) (g0 rfl) rfl rfl rfl ?_
                          refine o_s (.t (.agg [.lit (.int .i64 x42.1.k), .lit (.int .i64 x42.1.n), .seq 1 (bytesD x42.1.b), .seq 4 (List.map V.cells x42.1.l)])) (g0 rfl) rfl rfl rfl ?_
                          refine o_c (g0 rfl) rfl rfl rfl (congrArg (fun z => A.t (.own 79 4 z)) (rowsE V.cells_eq [x42.1])) trivial ?_
                          obtain ⟨x45, h46, h⟩ := bind_some h
                          refine o_2c (g0 rfl) rfl rfl rfl (appE (c := V.cells) h46) (appC (c := V.cells) h46) ?_
                          refine o_s (.ref 17 3) (g0 rfl) rfl rfl rfl ?_
                          refine o_st2 (.t (.d (.seq 4 (List.map V.cells x45)))) (.box [.d (.lit (.int .i64 3)), .d (.lit (.int .i64 0)), .d (.lit (.slice none 0 0)), .own 79 4 (List.map V.cells x45)]) (g0 rfl) rfl rfl rfl ?_
                          refine o_nil ?_
                          repeat (first | refine then_normal ?_ | refine then_exit ?_ | refine then_ret ?_ | refine block_normal ?_ | refine block_ret ?_ | refine block_exit ?_ | refine block_pass rfl ?_)
                          refine c_region ?_
                          refine o_s (.t (.d (.lit (.int .i64 x42.2.1)))) (g0 rfl) rfl rfl rfl ?_
                          refine o_s (.t (.d (.lit (.int .i64 x42.2.1)))) (g0 rfl) rfl rfl rfl ?_
                          refine o_nil ?_
                          repeat (first | refine then_normal ?_ | refine then_exit ?_ | refine then_ret ?_ | refine block_normal ?_ | refine block_ret ?_ | refine block_exit ?_ | refine block_pass rfl ?_)
                          refine c_region ?_
                          refine o_s (.t (.d (.lit (.int .i64 z40)))) (g0 rfl) rfl rfl rfl ?_
                          refine o_s (.t (.d (.lit (.int .i64 (wi (z40 + 1)))))) (g0 rfl) rfl rfl rfl ?_
                          refine o_s (.t (.d (.lit (.int .i64 (wi (z40 + 1)))))) (g0 rfl) rfl rfl rfl ?_
                          refine o_nil ?_
                          repeat (first | refine then_normal ?_ | refine then_exit ?_ | refine then_ret ?_ | refine block_normal ?_ | refine block_ret ?_ | refine block_exit ?_ | refine block_pass rfl ?_)
                          exact ⟨nl2, (x42.2.1, x45, (wi (z40 + 1))), Nat.lt_succ_self nl2, h, ⟨(.refl _), ⟨(.refl _), ⟨(.refl _), ⟨(.refl _), ⟨(.refl _), ⟨(.refl _), ⟨(.refl _), trivial⟩⟩⟩⟩⟩⟩⟩, rfl⟩
                      · refine c_f h41 rfl ?_
                        refine c_exit ?_
                        repeat (first | refine then_normal ?_ | refine then_exit ?_ | refine then_ret ?_ | refine block_normal ?_ | refine block_ret ?_ | refine block_exit ?_ | refine block_pass rfl ?_)
                        exact ⟨(z38, z39), h, ⟨(.refl _), ⟨(.refl _), ⟨(.refl _), trivial⟩⟩⟩, rfl⟩
                  · rintro ⟨y36, y37⟩ h
                    refine c_seq ?_
                    refine c_region ?_
                    refine o_s (.t (.agg [.lit (.int .i64 3), .lit (.int .i64 0), .lit (.slice none 0 0), .seq 4 (List.map V.cells y37)])) (g0 rfl) rfl rfl rfl ?_
                    refine o_s (.t (.d (.lit (.int .i64 y36)))) (g0 rfl) rfl rfl rfl ?_
                    refine o_st (.box [.d (.lit (.int .i64 3)), .d (.lit (.int .i64 0)), .d (.lit (.slice none 0 0)), .d (.seq 4 (List.map V.cells y37))]) (g0 rfl) rfl rfl rfl ?_
                    refine o_s (.t (.d (.lit (.int .i64 y36)))) (g0 rfl) rfl rfl rfl ?_
                    refine o_s (.t (.d (.lit (.int .i64 0)))) (g0 rfl) rfl rfl rfl ?_
                    refine o_nil ?_
                    repeat (first | refine then_normal ?_ | refine then_exit ?_ | refine then_ret ?_ | refine block_normal ?_ | refine block_ret ?_ | refine block_exit ?_ | refine block_pass rfl ?_)
                    refine c_ret ?_
                    repeat (first | refine then_normal ?_ | refine then_exit ?_ | refine then_ret ?_ | refine block_normal ?_ | refine block_ret ?_ | refine block_exit ?_ | refine block_pass rfl ?_)
                    obtain rfl := Option.some.inj h
                    exact end0 rfl (.tup (.cons (.agg (.cons (.refl _) (.cons (.refl _) (.cons (.nil _) (.cons (.refl _) .nil))))) (.cons (.refl _) (.cons (.refl _) .nil))))

theorem fc_R02_Decode (p0 : (List UInt8)) (r : (V × Int)) (h : m_R02_Decode p0 = some r) : FC Tryd.prog 49 [.t (.d (.seq 1 (bytesD p0)))] [] (.tup [.agg [.lit (.int .i64 r.1.k), .lit (.int .i64 r.1.n), .seq 1 (bytesD r.1.b), .seq 4 (List.map V.cells r.1.l)], .d (.lit (.int .i64 r.2))]) := by
  refine fc_mk (rs := [.cell 2 79, .tmp 3]) (n := 27) Tryd.func49 rfl rfl (Nat.le_of_ble_eq_true rfl) rfl (pins := []) rfl (L := [(0, .t (.d (.seq 1 (bytesD p0))))]) rfl ?_
  refine c_seq ?_
  refine c_region ?_
  refine o_s (.box [.d (.lit (.int .i64 0)), .d (.lit (.int .i64 0)), .d (.lit (.slice none 0 0)), .d (.lit (.slice none 0 0))]) (g0 rfl) rfl rfl rfl ?_
  refine o_s (.t (.d (.lit (.int .i64 0)))) (g0 rfl) rfl rfl rfl ?_
  refine o_nil ?_
  repeat (first | refine then_normal ?_ | refine then_exit ?_ | refine then_ret ?_ | refine block_normal ?_ | refine block_ret ?_ | refine block_exit ?_ | refine block_pass rfl ?_)
  refine c_seq ?_
  refine c_seq ?_
  refine c_region ?_
  refine o_s (.t (.d (.seq 1 (bytesD p0)))) (g0 rfl) rfl rfl rfl ?_
  refine o_c (g0 rfl) rfl rfl rfl (lenE _ _) trivial ?_
  refine o_s (.t (.d (.lit (.bool (decide ((p0.length : Int) > 1048576)))))) (g0 rfl) rfl rfl rfl ?_
  refine o_nil ?_
  repeat (first | refine then_normal ?_ | refine then_exit ?_ | refine then_ret ?_ | refine block_normal ?_ | refine block_ret ?_ | refine block_exit ?_ | refine block_pass rfl ?_)
  rcases bif_some h with ⟨h1, h⟩ | ⟨h1, h⟩
  · refine c_t h1 rfl ?_
    refine c_seq ?_
    refine c_region ?_
    refine o_s (.t (.agg [.lit (.int .i64 0), .lit (.int .i64 0), .lit (.slice none 0 0), .lit (.slice none 0 0)])) (g0 rfl) rfl rfl rfl ?_
    refine o_st (.box [.d (.lit (.int .i64 0)), .d (.lit (.int .i64 0)), .d (.lit (.slice none 0 0)), .d (.lit (.slice none 0 0))]) (g0 rfl) rfl rfl rfl ?_
    refine o_s (.t (.d (.lit (.int .i64 3)))) (g0 rfl) rfl rfl rfl ?_
    refine o_nil ?_
    repeat (first | refine then_normal ?_ | refine then_exit ?_ | refine then_ret ?_ | refine block_normal ?_ | refine block_ret ?_ | refine block_exit ?_ | refine block_pass rfl ?_)
    refine c_ret ?_
    repeat (first | refine then_normal ?_ | refine then_exit ?_ | refine then_ret ?_ | refine block_normal ?_ | refine block_ret ?_ | refine block_exit ?_ | refine block_pass rfl ?_)
    obtain rfl := Option.some.inj h
    exact end0 rfl (.tup (.cons (.agg (.cons (.refl _) (.cons (.refl _) (.cons (.nil _) (.cons (.nil _) .nil))))) (.cons (.refl _) .nil)))
  · refine c_f h1 rfl ?_
    refine c_skip ?_
    repeat (first | refine then_normal ?_ | refine then_exit ?_ | refine then_ret ?_ | refine block_normal ?_ | refine block_ret ?_ | refine block_exit ?_ | refine block_pass rfl ?_)
    refine c_seq ?_
    refine c_region ?_
    refine o_s (.t (.d (.seq 1 (bytesD p0)))) (g0 rfl) rfl rfl rfl ?_
    obtain ⟨x2, h3, h⟩ := bind_some h
    refine o_ca (fc_R02_Read _ _ _ _ _ h3) (g0 rfl) rfl rfl rfl rfl rfl rfl rfl (.cons (.refl _) (.cons (.refl _) (.cons (.refl _) .nil))) rfl rfl ?_
    refine o_s (.tup [.agg [.lit (.int .i64 x2.1.k), .lit (.int .i64 x2.1.n), .seq 1 (bytesD x2.1.b), .seq 4 (List.map V.cells x2.1.l)], .d (.lit (.int .i64 x2.2.1)), .d (.lit (.int .i64 x2.2.2))]) (g0 rfl) rfl rfl rfl ?_
    refine o_s (.t (.agg [.lit (.int .i64 x2.1.k), .lit (.int .i64 x2.1.n), .seq 1 (bytesD x2.1.b), .seq 4 (List.map V.cells x2.1.l)])) (g0 rfl) rfl rfl rfl ?_
    refine o_s (.t (.d (.lit (.int .i64 x2.2.1)))) (g0 rfl) rfl rfl rfl ?_
    refine o_s (.t (.d (.lit (.int .i64 x2.2.2)))) (g0 rfl) rfl rfl rfl ?_
    refine o_s (.box [.d (.lit (.int .i64 0)), .d (.lit (.int .i64 0)), .d (.lit (.slice none 0 0)), .d (.lit (.slice none 0 0))]) (g0 rfl) rfl rfl rfl ?_
    refine o_st (.box [.d (.lit (.int .i64 x2.1.k)), .d (.lit (.int .i64 x2.1.n)), .d (.seq 1 (bytesD x2.1.b)), .d (.seq 4 (List.map V.cells x2.1.l))]) (g0 rfl) rfl rfl rfl ?_
    refine o_s (.t (.d (.lit (.int .i64 x2.2.1)))) (g0 rfl) rfl rfl rfl ?_
    refine o_s (.t (.d (.lit (.int .i64 x2.2.2)))) (g0 rfl) rfl rfl rfl ?_
    refine o_nil ?_
    repeat (first | refine then_normal ?_ | refine then_exit ?_ | refine then_ret ?_ | refine block_normal ?_ | refine block_ret ?_ | refine block_exit ?_ | refine block_pass rfl ?_)
    refine c_seq ?_
    refine c_seq ?_
    refine c_region ?_
    refine o_s (.t (.d (.lit (.int .i64 x2.2.2)))) (g0 rfl) rfl rfl rfl ?_
    refine o_s (.t (.d (.lit (.bool (x2.2.2 != 0))))) (g0 rfl) rfl rfl rfl ?_
    refine o_nil ?_
    repeat (first | refine then_normal ?_ | refine then_exit ?_ | refine then_ret ?_ | refine block_normal ?_ | refine block_ret ?_ | refine block_exit ?_ | refine block_pass rfl ?_)
    rcases bif_some h with ⟨h4, h⟩ | ⟨h4, h⟩
    · refine c_t h4 rfl ?_
      refine c_seq ?_
      refine c_region ?_
      refine o_s (.t (.agg [.lit (.int .i64 0), .lit (.int .i64 0), .lit (.slice none 0 0), .lit (.slice none 0 0)])) (g0 rfl) rfl rfl rfl ?_
      refine o_s (.t (.d (.lit (.int .i64 x2.2.2)))) (g0 rfl) rfl rfl rfl ?_
      refine o_st (.box [.d (.lit (.int .i64 0)), .d (.lit (.int .i64 0)), .d (.lit (.slice none 0 0)), .d (.lit (.slice none 0 0))]) (g0 rfl) rfl rfl rfl ?_
      refine o_s (.t (.d (.lit (.int .i64 x2.2.2)))) (g0 rfl) rfl rfl rfl ?_
      refine o_nil ?_
      repeat (first | refine then_normal ?_ | refine then_exit ?_ | refine then_ret ?_ | refine block_normal ?_ | refine block_ret ?_ | refine block_exit ?_ | refine block_pass rfl ?_)
      refine c_ret ?_
      repeat (first | refine then_normal ?_ | refine then_exit ?_ | refine then_ret ?_ | refine block_normal ?_ | refine block_ret ?_ | refine block_exit ?_ | refine block_pass rfl ?_)
      obtain rfl := Option.some.inj h
      exact end0 rfl (.tup (.cons (.agg (.cons (.refl _) (.cons (.refl _) (.cons (.nil _) (.cons (.nil _) .nil))))) (.cons (.refl _) .nil)))
    · refine c_f h4 rfl ?_
      refine c_skip ?_
      repeat (first | refine then_normal ?_ | refine then_exit ?_ | refine then_ret ?_ | refine block_normal ?_ | refine block_ret ?_ | refine block_exit ?_ | refine block_pass rfl ?_)
      refine c_seq ?_
      refine c_seq ?_
      refine c_region ?_
      refine o_s (.t (.d (.lit (.int .i64 x2.2.1)))) (g0 rfl) rfl rfl rfl ?_
      refine o_s (.t (.d (.seq 1 (bytesD p0)))) (g0 rfl) rfl rfl rfl ?_
      refine o_c (g0 rfl) rfl rfl rfl (lenE _ _) trivial ?_
      refine o_s (.t (.d (.lit (.bool (decide (x2.2.1 < (p0.length : Int))))))) (g0 rfl) rfl rfl rfl ?_
      refine o_nil ?_
      repeat (first | refine then_normal ?_ | refine then_exit ?_ | refine then_ret ?_ | refine block_normal ?_ | refine block_ret ?_ | refine block_exit ?_ | refine block_pass rfl ?_)
      rcases bif_some h with ⟨h5, h⟩ | ⟨h5, h⟩
      · refine c_t h5 rfl ?_
        refine c_seq ?_
        refine c_region ?_
        refine o_s (.t (.agg [.lit (.int .i64 0), .lit (.int .i64 0), .lit (.slice none 0 0), .lit (.slice none 0 0)])) (g0 rfl) rfl rfl rfl ?_
        refine o_st (.box [.d (.lit (.int .i64 0)), .d (.lit (.int .i64 0)), .d (.lit (.slice none 0 0)), .d (.lit (.slice none 0 0))]) (g0 rfl) rfl rfl rfl ?_
        refine o_s (.t (.d (.lit (.int .i64 12)))) (g0 rfl) rfl rfl rfl ?_
        refine o_nil ?_
        repeat (first | refine then_normal ?_ | refine then_exit ?_ | refine then_ret ?_ | refine block_normal ?_ | refine block_ret ?_ | refine block_exit ?_ | refine block_pass rfl ?_)
        refine c_ret ?_
        repeat (first | refine then_normal ?_ | refine then_exit ?_ | refine then_ret ?_ | refine block_normal ?_ | refine block_ret ?_ | refine block_exit ?_ | refine block_pass rfl ?_)
        obtain rfl := Option.some.inj h
        exact end0 rfl (.tup (.cons (.agg (.cons (.refl _) (.cons (.refl _) (.cons (.nil _) (.cons (.nil _) .nil))))) (.cons (.refl _) .nil)))
      · refine c_f h5 rfl ?_
        refine c_skip ?_
        repeat (first | refine then_normal ?_ | refine then_exit ?_ | refine then_ret ?_ | refine block_normal ?_ | refine block_ret ?_ | refine block_exit ?_ | refine block_pass rfl ?_)
        refine c_seq ?_
        refine c_region ?_
        refine o_s (.t (.agg [.lit (.int .i64 x2.1.k), .lit (.int .i64 x2.1.n), .seq 1 (bytesD x2.1.b), .seq 4 (List.map V.cells x2.1.l)])) (g0 rfl) rfl rfl rfl ?_
        refine o_st (.box [.d (.lit (.int .i64 x2.1.k)), .d (.lit (.int .i64 x2.1.n)), .d (.seq 1 (bytesD x2.1.b)), .d (.seq 4 (List.map V.cells x2.1.l))]) (g0 rfl) rfl rfl rfl ?_
        refine o_s (.t (.d (.lit (.int .i64 0)))) (g0 rfl) rfl rfl rfl ?_
        refine o_nil ?_
        repeat (first | refine then_normal ?_ | refine then_exit ?_ | refine then_ret ?_ | refine block_normal ?_ | refine block_ret ?_ | refine block_exit ?_ | refine block_pass rfl ?_)
        refine c_ret ?_
        repeat (first | refine then_normal ?_ | refine then_exit ?_ | refine then_ret ?_ | refine block_normal ?_ | refine block_ret ?_ | refine block_exit ?_ | refine block_pass rfl ?_)
        obtain rfl := Option.some.inj h
        exact end0 rfl (.tup (.cons (.refl _) (.cons (.refl _) .nil)))

theorem fc_codec_Fields (p0 : V) (p1 : (List Int)) (r : ((List V) × Bool)) (h : m_codec_Fields p0 p1 = some r) : FC Tryd.prog 54 [.t (.agg [.lit (.int .i64 p0.k), .lit (.int .i64 p0.n), .seq 1 (bytesD p0.b), .seq 4 (List.map V.cells p0.l)]), .t (.d (.seq 1 (List.map cI64 p1)))] [] (.tup [.d (.seq 4 (List.map V.cells r.1)), .d (.lit (.bool r.2))]) := by
  refine fc_mk (rs := [.tmp 4, .tmp 5]) (n := 42) Tryd.func54 rfl rfl (Nat.le_of_ble_eq_true rfl) rfl (pins := []) rfl (L := [(0, .t (.agg [.lit (.int .i64 p0.k), .lit (.int .i64 p0.n), .seq 1 (bytesD p0.b), .seq 4 (List.map V.cells p0.l)])), (1, .t (.d (.seq 1 (List.map cI64 p1))))]) rfl ?_
  refine c_seq ?_
  refine c_region ?_
  refine o_s (.box [.d (.lit (.int .i64 p0.k)), .d (.lit (.int .i64 p0.n)), .d (.seq 1 (bytesD p0.b)), .d (.seq 4 (List.map V.cells p0.l))]) (g0 rfl) rfl rfl rfl ?_
  refine o_s (.t (.d (.lit (.slice none 0 0)))) (g0 rfl) rfl rfl rfl ?_
  refine o_s (.t (.d (.lit (.bool false)))) (g0 rfl) rfl rfl rfl ?_
  refine o_nil ?_
  repeat (first | refine then_normal ?_ | refine then_exit ?_ | refine then_ret ?_ | refine block_normal ?_ | refine block_ret ?_ | refine block_exit ?_ | refine block_pass rfl ?_)
  refine c_seq ?_
  refine c_seq ?_
  refine c_region ?_
  refine o_s (.ref 2 0) (g0 rfl) rfl rfl rfl ?_
  refine o_s (.t (.d (.lit (.int .i64 p0.k)))) (g0 rfl) rfl rfl rfl ?_
  refine o_s (.t (.d (.lit (.bool (p0.k != 3))))) (g0 rfl) rfl rfl rfl ?_
  refine o_s (.t (.d (.lit (.bool (p0.k != 3))))) (g0 rfl) rfl rfl rfl ?_
  rcases bif_some h with ⟨h1, h⟩ | ⟨h1, h⟩
  · refine o_skip rfl rfl rfl h1 rfl rfl ?_
    refine o_skip rfl rfl rfl h1 rfl rfl ?_
    refine o_skip rfl rfl rfl h1 rfl rfl ?_
    refine o_skip rfl rfl rfl h1 rfl rfl ?_
    refine o_skip rfl rfl rfl h1 rfl rfl ?_
    refine o_skip rfl rfl rfl h1 rfl rfl ?_
    refine o_pk (.t (.d (.lit (.bool true)))) (b := true) h1 (g0 rfl) rfl rfl rfl rfl rfl ?_
    refine o_nil ?_
    repeat (first | refine then_normal ?_ | refine then_exit ?_ | refine then_ret ?_ | refine block_normal ?_ | refine block_ret ?_ | refine block_exit ?_ | refine block_pass rfl ?_)
    refine c_t rfl rfl ?_
    refine c_seq ?_
    refine c_region ?_
    refine o_s (.t (.d (.lit (.slice none 0 0)))) (g0 rfl) rfl rfl rfl ?_
    refine o_s (.t (.d (.lit (.bool false)))) (g0 rfl) rfl rfl rfl ?_
    refine o_nil ?_
    repeat (first | refine then_normal ?_ | refine then_exit ?_ | refine then_ret ?_ | refine block_normal ?_ | refine block_ret ?_ | refine block_exit ?_ | refine block_pass rfl ?_)
    refine c_ret ?_
    repeat (first | refine then_normal ?_ | refine then_exit ?_ | refine then_ret ?_ | refine block_normal ?_ | refine block_ret ?_ | refine block_exit ?_ | refine block_pass rfl ?_)
    obtain rfl := Option.some.inj h
    exact end0 rfl (.tup (.cons (.d (.nil _)) (.cons (.refl _) .nil)))
  · refine o_s (.ref 2 3) (gy rfl rfl rfl h1) rfl rfl rfl ?_
    refine o_s (.t (.d (.seq 4 (List.map V.cells p0.l)))) (gy rfl rfl rfl h1) rfl rfl rfl ?_
    refine o_c (gy rfl rfl rfl h1) rfl rfl rfl (lenE _ _) trivial ?_
    refine o_s (.t (.d (.seq 1 (List.map cI64 p1)))) (gy rfl rfl rfl h1) rfl rfl rfl ?_
    refine o_c (gy rfl rfl rfl h1) rfl rfl rfl (lenE _ _) trivial ?_
    refine o_s (.t (.d (.lit (.bool ((p0.l.length : Int) != (p1.length : Int)))))) (gy rfl rfl rfl h1) rfl rfl rfl ?_
    refine o_pk (.t (.d (.lit (.bool ((p0.l.length : Int) != (p1.length : Int)))))) (b := false) h1 (g0 rfl) rfl rfl rfl rfl rfl ?_
    refine o_nil ?_
    repeat (first | refine then_normal ?_ | refine then_exit ?_ | refine then_ret ?_ | refine block_normal ?_ | refine block_ret ?_ | refine block_exit ?_ | refine block_pass rfl ?_)
    rcases bif_some h with ⟨h2, h⟩ | ⟨h2, h⟩
    · refine c_t h2 rfl ?_
      refine c_seq ?_
      refine c_region ?_
      refine o_s (.t (.d (.lit (.slice none 0 0)))) (g0 rfl) rfl rfl rfl ?_
      refine o_s (.t (.d (.lit (.bool false)))) (g0 rfl) rfl rfl rfl ?_
      refine o_nil ?_
      repeat (first | refine then_normal ?_ | refine then_exit ?_ | refine then_ret ?_ | refine block_normal ?_ | refine block_ret ?_ | refine block_exit ?_ | refine block_pass rfl ?_)
      refine c_ret ?_
      repeat (first | refine then_normal ?_ | refine then_exit ?_ | refine then_ret ?_ | refine block_normal ?_ | refine block_ret ?_ | refine block_exit ?_ | refine block_pass rfl ?_)
      obtain rfl := Option.some.inj h
      exact end0 rfl (.tup (.cons (.d (.nil _)) (.cons (.refl _) .nil)))
    · refine c_f h2 rfl ?_
      refine c_skip ?_
      repeat (first | refine then_normal ?_ | refine then_exit ?_ | refine then_ret ?_ | refine block_normal ?_ | refine block_ret ?_ | refine block_exit ?_ | refine block_pass rfl ?_)
      refine c_cut (fun (_ : Unit) => [(2, .box [.d (.lit (.int .i64 p0.k)), .d (.lit (.int .i64 p0.n)), .d (.seq 1 (bytesD p0.b)), .d (.seq 4 (List.map V.cells p0.l))])]) (fun (_ : Unit) => m_codec_Fields_j1 p0 = some r) ?_ ?_
      · refine c_seq ?_
        refine c_region ?_
        refine o_s (.t (.d (.seq 1 (List.map cI64 p1)))) (g0 rfl) rfl rfl rfl ?_
        refine o_c (g0 rfl) rfl rfl rfl (lenE _ _) trivial ?_
        refine o_s (.t (.d (.lit (.int .i64 0)))) (g0 rfl) rfl rfl rfl ?_
        refine o_nil ?_
        repeat (first | refine then_normal ?_ | refine then_exit ?_ | refine then_ret ?_ | refine block_normal ?_ | refine block_ret ?_ | refine block_exit ?_ | refine block_pass rfl ?_)
        refine c_block ?_
        refine c_fuel (fun (z3 : Int) => [(2, .box [.d (.lit (.int .i64 p0.k)), .d (.lit (.int .i64 p0.n)), .d (.seq 1 (bytesD p0.b)), .d (.seq 4 (List.map V.cells p0.l))]), (19, .t (.d (.seq 1 (List.map cI64 p1)))), (20, .t (.d (.lit (.int .i64 (p1.length : Int))))), (21, .t (.d (.lit (.int .i64 z3))))]) (fun nl2 => (fun (z3 : Int) => m_codec_Fields_l2 p1 p0 nl2 z3 = some r)) (p1.length + 1) 0 h ⟨(.refl _), ⟨(.refl _), ⟨(.refl _), ⟨(.refl _), trivial⟩⟩⟩⟩ rfl ?_
        rintro nl2 z3 h
        cases nl2 with
        | zero => exact none_ne h
        | succ nl2 =>
          refine c_seq ?_
          refine c_region ?_
          refine o_s (.t (.d (.lit (.bool (decide (z3 < (p1.length : Int))))))) (g0 rfl) rfl rfl rfl ?_
          refine o_nil ?_
          repeat (first | refine then_normal ?_ | refine then_exit ?_ | refine then_ret ?_ | refine block_normal ?_ | refine block_ret ?_ | refine block_exit ?_ | refine block_pass rfl ?_)
          refine c_seq ?_
          rcases bif_some h with ⟨h4, h⟩ | ⟨h4, h⟩
          · refine c_t h4 rfl ?_
            refine c_skip ?_
            repeat (first | refine then_normal ?_ | refine then_exit ?_ | refine then_ret ?_ | refine block_normal ?_ | refine block_ret ?_ | refine block_exit ?_ | refine block_pass rfl ?_)
            refine c_seq ?_
            refine c_block ?_
            refine c_seq ?_
            refine c_region ?_
            refine o_s (.t (.d (.lit (.int .i64 z3)))) (g0 rfl) rfl rfl rfl ?_
            obtain ⟨x5, h6, h⟩ := bind_some h
            refine o_c (g0 rfl) rfl rfl rfl (idxE h6) (idxC h6) ?_
            refine o_s (.t (.d (.lit (.int .i64 x5)))) (g0 rfl) rfl rfl rfl ?_
            refine o_s (.t (.d (.lit (.int .i64 z3)))) (g0 rfl) rfl rfl rfl ?_
            refine o_s (.t (.d (.lit (.int .i64 x5)))) (g0 rfl) rfl rfl rfl ?_
            refine o_nil ?_
            repeat (first | refine then_normal ?_ | refine then_exit ?_ | refine then_ret ?_ | refine block_normal ?_ | refine block_ret ?_ | refine block_exit ?_ | refine block_pass rfl ?_)
            refine c_seq ?_
            refine c_region ?_
            refine o_s (.t (.d (.lit (.int .i64 x5)))) (g0 rfl) rfl rfl rfl ?_
            refine o_nil ?_
            repeat (first | refine then_normal ?_ | refine then_exit ?_ | refine then_ret ?_ | refine block_normal ?_ | refine block_ret ?_ | refine block_exit ?_ | refine block_pass rfl ?_)
            refine c_block ?_
            refine c_cut (fun (_ : Unit) => [(2, .box [.d (.lit (.int .i64 p0.k)), .d (.lit (.int .i64 p0.n)), .d (.seq 1 (bytesD p0.b)), .d (.seq 4 (List.map V.cells p0.l))]), (6, .t (.d (.lit (.int .i64 z3)))), (7, .t (.d (.lit (.int .i64 x5)))), (19, .t (.d (.seq 1 (List.map cI64 p1)))), (20, .t (.d (.lit (.int .i64 (p1.length : Int))))), (21, .t (.d (.lit (.int .i64 z3))))]) (fun (_ : Unit) => m_codec_Fields_j3 (m_codec_Fields_l2 p1 p0 nl2) p0 z3 x5 = some r) ?_ ?_
            · refine c_block ?_
              refine c_block ?_
              refine c_block ?_
              refine c_seq ?_
              refine c_seq ?_
              refine c_seq ?_
              refine c_region ?_
              refine o_s (.t (.d (.lit (.bool (x5 == 1))))) (g0 rfl) rfl rfl rfl ?_
              refine o_s (.t (.d (.lit (.bool (x5 == 1))))) (g0 rfl) rfl rfl rfl ?_
              refine o_nil ?_
              repeat (first | refine then_normal ?_ | refine then_exit ?_ | refine then_ret ?_ | refine block_normal ?_ | refine block_ret ?_ | refine block_exit ?_ | refine block_pass rfl ?_)
              rcases bif_some h with ⟨h10, h⟩ | ⟨h10, h⟩
              · refine c_t h10 rfl ?_
                refine c_exit ?_
                repeat (first | refine then_normal ?_ | refine then_exit ?_ | refine then_ret ?_ | refine block_normal ?_ | refine block_ret ?_ | refine block_exit ?_ | refine block_pass rfl ?_)
                exact ⟨(), h, ⟨(.refl _), ⟨(.refl _), ⟨(.refl _), ⟨(.refl _), ⟨(.refl _), ⟨(.refl _), trivial⟩⟩⟩⟩⟩⟩, rfl⟩
              · refine c_f h10 rfl ?_
                refine c_skip ?_
                repeat (first | refine then_normal ?_ | refine then_exit ?_ | refine then_ret ?_ | refine block_normal ?_ | refine block_ret ?_ | refine block_exit ?_ | refine block_pass rfl ?_)
                refine c_seq ?_
                refine c_region ?_
                refine o_s (.t (.d (.lit (.bool (x5 == 2))))) (g0 rfl) rfl rfl rfl ?_
                refine o_s (.t (.d (.lit (.bool (x5 == 2))))) (g0 rfl) rfl rfl rfl ?_
                refine o_nil ?_
                repeat (first | refine then_normal ?_ | refine then_exit ?_ | refine then_ret ?_ | refine block_normal ?_ | refine block_ret ?_ | refine block_exit ?_ | refine block_pass rfl ?_)
                rcases bif_some h with ⟨h11, h⟩ | ⟨h11, h⟩
                · refine c_t h11 rfl ?_
                  refine c_exit ?_
                  repeat (first | refine then_normal ?_ | refine then_exit ?_ | refine then_ret ?_ | refine block_normal ?_ | refine block_ret ?_ | refine block_exit ?_ | refine block_pass rfl ?_)
                  exact ⟨(), h, ⟨(.refl _), ⟨(.refl _), ⟨(.refl _), ⟨(.refl _), ⟨(.refl _), ⟨(.refl _), trivial⟩⟩⟩⟩⟩⟩, rfl⟩
                · refine c_f h11 rfl ?_
                  refine c_skip ?_
                  repeat (first | refine then_normal ?_ | refine then_exit ?_ | refine then_ret ?_ | refine block_normal ?_ | refine block_ret ?_ | refine block_exit ?_ | refine block_pass rfl ?_)
                  refine c_exit ?_
                  repeat (first | refine then_normal ?_ | refine then_exit ?_ | refine then_ret ?_ | refine block_normal ?_ | refine block_ret ?_ | refine block_exit ?_ | refine block_pass rfl ?_)
                  exact ⟨(), h, ⟨(.refl _), ⟨(.refl _), ⟨(.refl _), ⟨(.refl _), ⟨(.refl _), ⟨(.refl _), trivial⟩⟩⟩⟩⟩⟩, rfl⟩
            · rintro ⟨⟩ h
              refine c_seq ?_
              refine c_seq ?_
              refine c_region ?_
              refine o_s (.ref 2 3) (g0 rfl) rfl rfl rfl ?_
              refine o_s (.t (.d (.seq 4 (List.map V.cells p0.l)))) (g0 rfl) rfl rfl rfl ?_
              refine o_s (.t (.d (.lit (.int .i64 z3)))) (g0 rfl) rfl rfl rfl ?_
              obtain ⟨x7, h8, h⟩ := bind_some h
              refine o_c (g0 rfl) rfl rfl rfl (idxE' V.cells_eq h8) (idxC h8) ?_
              refine o_s (.imm [.lit (.int .i64 x7.k), .lit (.int .i64 x7.n), .seq 1 (bytesD x7.b), .seq 4 (List.map V.cells x7.l)]) (g0 rfl) rfl rfl rfl ?_
              refine o_s (.t (.d (.lit (.int .i64 x7.k)))) (g0 rfl) rfl rfl rfl ?_
              refine o_s (.t (.d (.lit (.int .i64 x5)))) (g0 rfl) rfl rfl rfl ?_
              refine o_s (.t (.d (.lit (.bool (x7.k != x5))))) (g0 rfl) rfl rfl rfl ?_
              refine o_nil ?_
              repeat (first | refine then_normal ?_ | refine then_exit ?_ | refine then_ret ?_ | refine block_normal ?_ | refine block_ret ?_ | refine block_exit ?_ | refine block_pass rfl ?_)
              rcases bif_some h with ⟨h9, h⟩ | ⟨h9, h⟩
              · refine c_t h9 rfl ?_
                refine c_seq ?_
                refine c_region ?_
                refine o_s (.t (.d (.lit (.slice none 0 0)))) (g0 rfl) rfl rfl rfl ?_
                refine o_s (.t (.d (.lit (.bool false)))) (g0 rfl) rfl rfl rfl ?_
                refine o_nil ?_
                repeat (first | refine then_normal ?_ | refine then_exit ?_ | refine then_ret ?_ | refine block_normal ?_ | refine block_ret ?_ | refine block_exit ?_ | refine block_pass rfl ?_)
                refine c_ret ?_
                repeat (first | refine then_normal ?_ | refine then_exit ?_ | refine then_ret ?_ | refine block_normal ?_ | refine block_ret ?_ | refine block_exit ?_ | refine block_pass rfl ?_)
                obtain rfl := Option.some.inj h
                exact end0 rfl (.tup (.cons (.d (.nil _)) (.cons (.refl _) .nil)))
              · refine c_f h9 rfl ?_
                refine c_skip ?_
                repeat (first | refine then_normal ?_ | refine then_exit ?_ | refine then_ret ?_ | refine block_normal ?_ | refine block_ret ?_ | refine block_exit ?_ | refine block_pass rfl ?_)
                refine c_exit ?_
                repeat (first | refine then_normal ?_ | refine then_exit ?_ | refine then_ret ?_ | refine block_normal ?_ | refine block_ret ?_ | refine block_exit ?_ | refine block_pass rfl ?_)
                refine c_region ?_
                refine o_s (.t (.d (.lit (.int .i64 (wi (z3 + 1)))))) (g0 rfl) rfl rfl rfl ?_
                refine o_s (.t (.d (.lit (.int .i64 (wi (z3 + 1)))))) (g0 rfl) rfl rfl rfl ?_
                refine o_nil ?_
                repeat (first | refine then_normal ?_ | refine then_exit ?_ | refine then_ret ?_ | refine block_normal ?_ | refine block_ret ?_ | refine block_exit ?_ | refine block_pass rfl ?_)
                exact ⟨nl2, (wi (z3 + 1)), Nat.lt_succ_self nl2, h, ⟨(.refl _), ⟨(.refl _), ⟨(.refl _), ⟨(.refl _), trivial⟩⟩⟩⟩, rfl⟩
          · refine c_f h4 rfl ?_
            refine c_exit ?_
            repeat (first | refine then_normal ?_ | refine then_exit ?_ | refine then_ret ?_ | refine block_normal ?_ | refine block_ret ?_ | refine block_exit ?_ | refine block_pass rfl ?_)
            exact ⟨(), h, ⟨(.refl _), trivial⟩, rfl⟩
      · rintro ⟨⟩ h
        refine c_seq ?_
        refine c_region ?_
        refine o_s (.ref 2 3) (g0 rfl) rfl rfl rfl ?_
        refine o_s (.t (.d (.seq 4 (List.map V.cells p0.l)))) (g0 rfl) rfl rfl rfl ?_
        refine o_s (.t (.d (.seq 4 (List.map V.cells p0.l)))) (g0 rfl) rfl rfl rfl ?_
        refine o_s (.t (.d (.lit (.bool true)))) (g0 rfl) rfl rfl rfl ?_
        refine o_nil ?_
        repeat (first | refine then_normal ?_ | refine then_exit ?_ | refine then_ret ?_ | refine block_normal ?_ | refine block_ret ?_ | refine block_exit ?_ | refine block_pass rfl ?_)
        refine c_ret ?_
        repeat (first | refine then_normal ?_ | refine then_exit ?_ | refine then_ret ?_ | refine block_normal ?_ | refine block_ret ?_ | refine block_exit ?_ | refine block_pass rfl ?_)
        obtain rfl := Option.some.inj h
        exact end0 rfl (.tup (.cons (.refl _) (.cons (.refl _) .nil)))

theorem fc_R28_Kinds (p0 : V) (p1 : (List Int)) (r : Bool) (h : m_R28_Kinds p0 p1 = some r) : FC Tryd.prog 56 [.t (.agg [.lit (.int .i64 p0.k), .lit (.int .i64 p0.n), .seq 1 (bytesD p0.b), .seq 4 (List.map V.cells p0.l)]), .t (.d (.seq 1 (List.map cI64 p1)))] [] (.t (.d (.lit (.bool r)))) := by
  refine fc_mk (rs := [.tmp 4]) (n := 34) Tryd.func56 rfl rfl (Nat.le_of_ble_eq_true rfl) rfl (pins := []) rfl (L := [(0, .t (.agg [.lit (.int .i64 p0.k), .lit (.int .i64 p0.n), .seq 1 (bytesD p0.b), .seq 4 (List.map V.cells p0.l)])), (1, .t (.d (.seq 1 (List.map cI64 p1))))]) rfl ?_
  refine c_seq ?_
  refine c_region ?_
  refine o_s (.box [.d (.lit (.int .i64 p0.k)), .d (.lit (.int .i64 p0.n)), .d (.seq 1 (bytesD p0.b)), .d (.seq 4 (List.map V.cells p0.l))]) (g0 rfl) rfl rfl rfl ?_
  refine o_s (.t (.d (.lit (.bool false)))) (g0 rfl) rfl rfl rfl ?_
  refine o_nil ?_
  repeat (first | refine then_normal ?_ | refine then_exit ?_ | refine then_ret ?_ | refine block_normal ?_ | refine block_ret ?_ | refine block_exit ?_ | refine block_pass rfl ?_)
  refine c_seq ?_
  refine c_seq ?_
  refine c_region ?_
  refine o_s (.ref 2 0) (g0 rfl) rfl rfl rfl ?_
  refine o_s (.t (.d (.lit (.int .i64 p0.k)))) (g0 rfl) rfl rfl rfl ?_
  refine o_s (.t (.d (.lit (.bool (p0.k != 3))))) (g0 rfl) rfl rfl rfl ?_
  refine o_s (.t (.d (.lit (.bool (p0.k != 3))))) (g0 rfl) rfl rfl rfl ?_
  rcases bif_some h with ⟨h1, h⟩ | ⟨h1, h⟩
  · refine o_skip rfl rfl rfl h1 rfl rfl ?_
    refine o_skip rfl rfl rfl h1 rfl rfl ?_
    refine o_skip rfl rfl rfl h1 rfl rfl ?_
    refine o_skip rfl rfl rfl h1 rfl rfl ?_
    refine o_skip rfl rfl rfl h1 rfl rfl ?_
    refine o_skip rfl rfl rfl h1 rfl rfl ?_
    refine o_pk (.t (.d (.lit (.bool true)))) (b := true) h1 (g0 rfl) rfl rfl rfl rfl rfl ?_
    refine o_nil ?_
    repeat (first | refine then_normal ?_ | refine then_exit ?_ | refine then_ret ?_ | refine block_normal ?_ | refine block_ret ?_ | refine block_exit ?_ | refine block_pass rfl ?_)
    refine c_t rfl rfl ?_
    refine c_seq ?_
    refine c_region ?_
    refine o_s (.t (.d (.lit (.bool false)))) (g0 rfl) rfl rfl rfl ?_
    refine o_nil ?_
    repeat (first | refine then_normal ?_ | refine then_exit ?_ | refine then_ret ?_ | refine block_normal ?_ | refine block_ret ?_ | refine block_exit ?_ | refine block_pass rfl ?_)
    refine c_ret ?_
    repeat (first | refine then_normal ?_ | refine then_exit ?_ | refine then_ret ?_ | refine block_normal ?_ | refine block_ret ?_ | refine block_exit ?_ | refine block_pass rfl ?_)
    obtain rfl := Option.some.inj h
    exact end0 rfl (.refl _)
  · refine o_s (.ref 2 3) (gy rfl rfl rfl h1) rfl rfl rfl ?_
    refine o_s (.t (.d (.seq 4 (List.map V.cells p0.l)))) (gy rfl rfl rfl h1) rfl rfl rfl ?_
    refine o_c (gy rfl rfl rfl h1) rfl rfl rfl (lenE _ _) trivial ?_
    refine o_s (.t (.d (.seq 1 (List.map cI64 p1)))) (gy rfl rfl rfl h1) rfl rfl rfl ?_
    refine o_c (gy rfl rfl rfl h1) rfl rfl rfl (lenE _ _) trivial ?_
    refine o_s (.t (.d (.lit (.bool ((p0.l.length : Int) != (p1.length : Int)))))) (gy rfl rfl rfl h1) rfl rfl rfl ?_
    refine o_pk (.t (.d (.lit (.bool ((p0.l.length : Int) != (p1.length : Int)))))) (b := false) h1 (g0 rfl) rfl rfl rfl rfl rfl ?_
    refine o_nil ?_
    repeat (first | refine then_normal ?_ | refine then_exit ?_ | refine then_ret ?_ | refine block_normal ?_ | refine block_ret ?_ | refine block_exit ?_ | refine block_pass rfl ?_)
    rcases bif_some h with ⟨h2, h⟩ | ⟨h2, h⟩
    · refine c_t h2 rfl ?_
      refine c_seq ?_
      refine c_region ?_
      refine o_s (.t (.d (.lit (.bool false)))) (g0 rfl) rfl rfl rfl ?_
      refine o_nil ?_
      repeat (first | refine then_normal ?_ | refine then_exit ?_ | refine then_ret ?_ | refine block_normal ?_ | refine block_ret ?_ | refine block_exit ?_ | refine block_pass rfl ?_)
      refine c_ret ?_
      repeat (first | refine then_normal ?_ | refine then_exit ?_ | refine then_ret ?_ | refine block_normal ?_ | refine block_ret ?_ | refine block_exit ?_ | refine block_pass rfl ?_)
      obtain rfl := Option.some.inj h
      exact end0 rfl (.refl _)
    · refine c_f h2 rfl ?_
      refine c_skip ?_
      repeat (first | refine then_normal ?_ | refine then_exit ?_ | refine then_ret ?_ | refine block_normal ?_ | refine block_ret ?_ | refine block_exit ?_ | refine block_pass rfl ?_)
      refine c_seq ?_
      refine c_seq ?_
      refine c_region ?_
      refine o_s (.t (.d (.lit (.int .i64 0)))) (g0 rfl) rfl rfl rfl ?_
      refine o_nil ?_
      repeat (first | refine then_normal ?_ | refine then_exit ?_ | refine then_ret ?_ | refine block_normal ?_ | refine block_ret ?_ | refine block_exit ?_ | refine block_pass rfl ?_)
      refine c_block ?_
      refine c_fuel (fun (z3 : Int) => [(1, .t (.d (.seq 1 (List.map cI64 p1)))), (2, .box [.d (.lit (.int .i64 p0.k)), .d (.lit (.int .i64 p0.n)), .d (.seq 1 (bytesD p0.b)), .d (.seq 4 (List.map V.cells p0.l))]), (5, .t (.d (.lit (.int .i64 z3))))]) (fun nl1 => (fun (z3 : Int) => m_R28_Kinds_l1 p1 p0 nl1 z3 = some r)) (p1.length + 1) 0 h ⟨(.refl _), ⟨(.refl _), ⟨(.refl _), trivial⟩⟩⟩ rfl ?_
      rintro nl1 z3 h
      cases nl1 with
      | zero => exact none_ne h
      | succ nl1 =>
        refine c_seq ?_
        refine c_seq ?_
        refine c_region ?_
        refine o_s (.t (.d (.lit (.int .i64 z3)))) (g0 rfl) rfl rfl rfl ?_
        refine o_s (.t (.d (.seq 1 (List.map cI64 p1)))) (g0 rfl) rfl rfl rfl ?_
        refine o_c (g0 rfl) rfl rfl rfl (lenE _ _) trivial ?_
        refine o_s (.t (.d (.lit (.bool (decide (z3 < (p1.length : Int))))))) (g0 rfl) rfl rfl rfl ?_
        refine o_nil ?_
        repeat (first | refine then_normal ?_ | refine then_exit ?_ | refine then_ret ?_ | refine block_normal ?_ | refine block_ret ?_ | refine block_exit ?_ | refine block_pass rfl ?_)
        rcases bif_some h with ⟨h4, h⟩ | ⟨h4, h⟩
        · refine c_t h4 rfl ?_
          refine c_skip ?_
          repeat (first | refine then_normal ?_ | refine then_exit ?_ | refine then_ret ?_ | refine block_normal ?_ | refine block_ret ?_ | refine block_exit ?_ | refine block_pass rfl ?_)
          refine c_seq ?_
          refine c_block ?_
          refine c_seq ?_
          refine c_draw mixed (by kernel_rfl) ?_
          refine d_s (.ref 2 3) rfl (dg0 rfl) rfl rfl rfl rfl ?_
          refine d_s (.t (.d (.seq 4 (List.map V.cells p0.l)))) rfl (dg0 rfl) rfl rfl rfl rfl ?_
          refine d_s (.t (.d (.lit (.int .i64 z3)))) rfl (dg0 rfl) rfl rfl rfl rfl ?_
          obtain ⟨x5, h6, h⟩ := bind_some h
          refine d_c rfl (dg0 rfl) rfl rfl rfl rfl (idxE' V.cells_eq h6) (idxC h6) ?_
          refine d_s (.imm [.lit (.int .i64 x5.k), .lit (.int .i64 x5.n), .seq 1 (bytesD x5.b), .seq 4 (List.map V.cells x5.l)]) rfl (dg0 rfl) rfl rfl rfl rfl ?_
          refine d_s (.t (.d (.lit (.int .i64 x5.k)))) rfl (dg0 rfl) rfl rfl rfl rfl ?_
          refine d_s (.t (.d (.seq 1 (List.map cI64 p1)))) rfl (dg0 rfl) rfl rfl rfl rfl ?_
          refine d_s (.t (.d (.lit (.int .i64 z3)))) rfl (dg0 rfl) rfl rfl rfl rfl ?_
          obtain ⟨x7, h8, h⟩ := bind_some h
          refine d_c rfl (dg0 rfl) rfl rfl rfl rfl (idxE h8) (idxC h8) ?_
          refine d_s (.t (.d (.lit (.int .i64 x7)))) rfl (dg0 rfl) rfl rfl rfl rfl ?_
          refine d_s (.t (.d (.lit (.bool (x5.k != x7))))) rfl (dg0 rfl) rfl rfl rfl rfl ?_
          refine d_nil (by kernel_rfl) ?_
          repeat (first | refine then_normal ?_ | refine then_exit ?_ | refine then_ret ?_ | refine block_normal ?_ | refine block_ret ?_ | refine block_exit ?_ | refine block_pass rfl ?_)
          rcases bif_some h with ⟨h9, h⟩ | ⟨h9, h⟩
          · refine c_t h9 rfl ?_
            refine c_seq ?_
            refine c_region ?_
            refine o_s (.t (.d (.lit (.bool false)))) (g0 rfl) rfl rfl rfl ?_
            refine o_nil ?_
            repeat (first | refine then_normal ?_ | refine then_exit ?_ | refine then_ret ?_ | refine block_normal ?_ | refine block_ret ?_ | refine block_exit ?_ | refine block_pass rfl ?_)
            refine c_ret ?_
            repeat (first | refine then_normal ?_ | refine then_exit ?_ | refine then_ret ?_ | refine block_normal ?_ | refine block_ret ?_ | refine block_exit ?_ | refine block_pass rfl ?_)
            obtain rfl := Option.some.inj h
            exact end0 rfl (.refl _)
          · refine c_f h9 rfl ?_
            refine c_skip ?_
            repeat (first | refine then_normal ?_ | refine then_exit ?_ | refine then_ret ?_ | refine block_normal ?_ | refine block_ret ?_ | refine block_exit ?_ | refine block_pass rfl ?_)
            refine c_region ?_
            refine o_s (.t (.d (.lit (.int .i64 z3)))) (g0 rfl) rfl rfl rfl ?_
            refine o_s (.t (.d (.lit (.int .i64 (wi (z3 + 1)))))) (g0 rfl) rfl rfl rfl ?_
            refine o_s (.t (.d (.lit (.int .i64 (wi (z3 + 1)))))) (g0 rfl) rfl rfl rfl ?_
            refine o_nil ?_
            repeat (first | refine then_normal ?_ | refine then_exit ?_ | refine then_ret ?_ | refine block_normal ?_ | refine block_ret ?_ | refine block_exit ?_ | refine block_pass rfl ?_)
            exact ⟨nl1, (wi (z3 + 1)), Nat.lt_succ_self nl1, h, ⟨(.refl _), ⟨(.refl _), ⟨(.refl _), trivial⟩⟩⟩, rfl⟩
        · refine c_f h4 rfl ?_
          refine c_exit ?_
          repeat (first | refine then_normal ?_ | refine then_exit ?_ | refine then_ret ?_ | refine block_normal ?_ | refine block_ret ?_ | refine block_exit ?_ | refine block_pass rfl ?_)
          refine c_seq ?_
          refine c_region ?_
          refine o_s (.t (.d (.lit (.bool true)))) (g0 rfl) rfl rfl rfl ?_
          refine o_nil ?_
          repeat (first | refine then_normal ?_ | refine then_exit ?_ | refine then_ret ?_ | refine block_normal ?_ | refine block_ret ?_ | refine block_exit ?_ | refine block_pass rfl ?_)
          refine c_ret ?_
          repeat (first | refine then_normal ?_ | refine then_exit ?_ | refine then_ret ?_ | refine block_normal ?_ | refine block_ret ?_ | refine block_exit ?_ | refine block_pass rfl ?_)
          obtain rfl := Option.some.inj h
          exact end0 rfl (.refl _)

theorem fc_tree_Name (p0 : (List UInt8)) (r : Bool) (h : m_tree_Name p0 = some r) : FC Tryd.prog 68 [.t (.d (.lit (.string ⟨⟨p0⟩⟩)))] [] (.t (.d (.lit (.bool r)))) := by
  refine fc_mk (rs := [.tmp 2]) (n := 36) Tryd.func68 rfl rfl (Nat.le_of_ble_eq_true rfl) rfl (pins := []) rfl (L := [(0, .t (.d (.lit (.string ⟨⟨p0⟩⟩))))]) rfl ?_
  refine c_seq ?_
  refine c_region ?_
  refine o_s (.t (.d (.lit (.bool false)))) (g0 rfl) rfl rfl rfl ?_
  refine o_nil ?_
  repeat (first | refine then_normal ?_ | refine then_exit ?_ | refine then_ret ?_ | refine block_normal ?_ | refine block_ret ?_ | refine block_exit ?_ | refine block_pass rfl ?_)
  refine c_cut (fun (_ : Unit) => [(0, .t (.d (.lit (.string ⟨⟨p0⟩⟩))))]) (fun (_ : Unit) => m_tree_Name_j1 p0 = some r) ?_ ?_
  · refine c_seq ?_
    refine c_region ?_
    refine o_s (.t (.d (.lit (.string ⟨⟨p0⟩⟩)))) (g0 rfl) rfl rfl rfl ?_
    refine o_s (.t (.d (.lit (.int .i64 (p0.length : Int))))) (g0 rfl) rfl rfl rfl ?_
    refine o_s (.t (.d (.lit (.int .i64 0)))) (g0 rfl) rfl rfl rfl ?_
    refine o_nil ?_
    repeat (first | refine then_normal ?_ | refine then_exit ?_ | refine then_ret ?_ | refine block_normal ?_ | refine block_ret ?_ | refine block_exit ?_ | refine block_pass rfl ?_)
    refine c_block ?_
    refine c_fuel (fun (z2 : Int) => [(0, .t (.d (.lit (.string ⟨⟨p0⟩⟩)))), (6, .t (.d (.lit (.int .i64 (p0.length : Int))))), (7, .t (.d (.lit (.int .i64 z2))))]) (fun nl2 => (fun (z2 : Int) => m_tree_Name_l2 p0 nl2 z2 = some r)) (p0.length + 1) 0 h ⟨(.refl _), ⟨(.refl _), ⟨(.refl _), trivial⟩⟩⟩ rfl ?_
    rintro nl2 z2 h
    cases nl2 with
    | zero => exact none_ne h
    | succ nl2 =>
      refine c_seq ?_
      refine c_region ?_
      refine o_s (.t (.d (.lit (.bool (decide (z2 < (p0.length : Int))))))) (g0 rfl) rfl rfl rfl ?_
      refine o_nil ?_
      repeat (first | refine then_normal ?_ | refine then_exit ?_ | refine then_ret ?_ | refine block_normal ?_ | refine block_ret ?_ | refine block_exit ?_ | refine block_pass rfl ?_)
      refine c_seq ?_
      rcases bif_some h with ⟨h3, h⟩ | ⟨h3, h⟩
      · refine c_t h3 rfl ?_
        refine c_skip ?_
        repeat (first | refine then_normal ?_ | refine then_exit ?_ | refine then_ret ?_ | refine block_normal ?_ | refine block_ret ?_ | refine block_exit ?_ | refine block_pass rfl ?_)
        refine c_seq ?_
        refine c_block ?_
        refine c_seq ?_
        refine c_region ?_
        refine o_s (.t (.d (.lit (.int .i64 z2)))) (g0 rfl) rfl rfl rfl ?_
        refine o_s (.t (.d (.lit (.int .i64 z2)))) (g0 rfl) rfl rfl rfl ?_
        refine o_nil ?_
        repeat (first | refine then_normal ?_ | refine then_exit ?_ | refine then_ret ?_ | refine block_normal ?_ | refine block_ret ?_ | refine block_exit ?_ | refine block_pass rfl ?_)
        refine c_seq ?_
        refine c_region ?_
        refine o_s (.t (.d (.lit (.string ⟨⟨p0⟩⟩)))) (g0 rfl) rfl rfl rfl ?_
        refine o_s (.t (.d (.lit (.int .i64 z2)))) (g0 rfl) rfl rfl rfl ?_
        obtain ⟨x4, h5, h⟩ := bind_some h
        refine o_c (g0 rfl) rfl rfl rfl (strIdxE h5) (strIdxC h5) ?_
        refine o_s (.t (.d (.lit (.int .u8 (x4.toNat : Int))))) (g0 rfl) rfl rfl rfl ?_
        refine o_nil ?_
        repeat (first | refine then_normal ?_ | refine then_exit ?_ | refine then_ret ?_ | refine block_normal ?_ | refine block_ret ?_ | refine block_exit ?_ | refine block_pass rfl ?_)
        refine c_seq ?_
        refine c_region ?_
        refine o_s (.t (.d (.lit (.int .u8 (x4.toNat : Int))))) (g0 rfl) rfl rfl rfl ?_
        refine o_s (.t (.d (.lit (.bool (decide ((x4.toNat : Int) < 97)))))) (g0 rfl) rfl rfl rfl ?_
        refine o_s (.t (.d (.lit (.bool (decide ((x4.toNat : Int) < 97)))))) (g0 rfl) rfl rfl rfl ?_
        rcases bif_some h with ⟨h6, h⟩ | ⟨h6, h⟩
        · refine o_skip rfl rfl rfl h6 rfl rfl ?_
          refine o_skip rfl rfl rfl h6 rfl rfl ?_
          refine o_pk (.t (.d (.lit (.bool true)))) (b := true) h6 (g0 rfl) rfl rfl rfl rfl rfl ?_
          refine o_s (.t (.d (.lit (.bool true)))) (g0 rfl) rfl rfl rfl ?_
          refine o_s (.t (.d (.lit (.int .u8 (x4.toNat : Int))))) (gy rfl rfl rfl rfl) rfl rfl rfl ?_
          refine o_s (.t (.d (.lit (.bool (decide ((x4.toNat : Int) < 48)))))) (gy rfl rfl rfl rfl) rfl rfl rfl ?_
          refine o_s (.t (.d (.lit (.bool (decide ((x4.toNat : Int) < 48)))))) (gy rfl rfl rfl rfl) rfl rfl rfl ?_
          rcases bif_some h with ⟨h7, h⟩ | ⟨h7, h⟩
          · refine o_skip rfl rfl rfl h7 rfl rfl ?_
            refine o_skip rfl rfl rfl h7 rfl rfl ?_
            refine o_pk (.t (.d (.lit (.bool true)))) (b := true) h7 (gy rfl rfl rfl rfl) rfl rfl rfl rfl rfl ?_
            refine o_pk (.t (.d (.lit (.bool true)))) (b := true) rfl (g0 rfl) rfl rfl rfl rfl rfl ?_
            refine o_nil ?_
            repeat (first | refine then_normal ?_ | refine then_exit ?_ | refine then_ret ?_ | refine block_normal ?_ | refine block_ret ?_ | refine block_exit ?_ | refine block_pass rfl ?_)
            refine c_t rfl rfl ?_
            refine c_seq ?_
            refine c_region ?_
            refine o_s (.t (.d (.lit (.bool false)))) (g0 rfl) rfl rfl rfl ?_
            refine o_nil ?_
            repeat (first | refine then_normal ?_ | refine then_exit ?_ | refine then_ret ?_ | refine block_normal ?_ | refine block_ret ?_ | refine block_exit ?_ | refine block_pass rfl ?_)
            refine c_ret ?_
            repeat (first | refine then_normal ?_ | refine then_exit ?_ | refine then_ret ?_ | refine block_normal ?_ | refine block_ret ?_ | refine block_exit ?_ | refine block_pass rfl ?_)
            obtain rfl := Option.some.inj h
            exact end0 rfl (.refl _)
          · refine o_s (.t (.d (.lit (.int .u8 (x4.toNat : Int))))) (gy rfl rfl rfl h7) rfl rfl rfl ?_
            refine o_s (.t (.d (.lit (.bool (decide ((x4.toNat : Int) > 57)))))) (gy rfl rfl rfl h7) rfl rfl rfl ?_
            refine o_pk (.t (.d (.lit (.bool (decide ((x4.toNat : Int) > 57)))))) (b := false) h7 (gy rfl rfl rfl rfl) rfl rfl rfl rfl rfl ?_
            refine o_pk (.t (.d (.lit (.bool (decide ((x4.toNat : Int) > 57)))))) (b := true) rfl (g0 rfl) rfl rfl rfl rfl rfl ?_
            refine o_nil ?_
            repeat (first | refine then_normal ?_ | refine then_exit ?_ | refine then_ret ?_ | refine block_normal ?_ | refine block_ret ?_ | refine block_exit ?_ | refine block_pass rfl ?_)
            rcases bif_some h with ⟨h8, h⟩ | ⟨h8, h⟩
            · refine c_t h8 rfl ?_
              refine c_seq ?_
              refine c_region ?_
              refine o_s (.t (.d (.lit (.bool false)))) (g0 rfl) rfl rfl rfl ?_
              refine o_nil ?_
              repeat (first | refine then_normal ?_ | refine then_exit ?_ | refine then_ret ?_ | refine block_normal ?_ | refine block_ret ?_ | refine block_exit ?_ | refine block_pass rfl ?_)
              refine c_ret ?_
              repeat (first | refine then_normal ?_ | refine then_exit ?_ | refine then_ret ?_ | refine block_normal ?_ | refine block_ret ?_ | refine block_exit ?_ | refine block_pass rfl ?_)
              obtain rfl := Option.some.inj h
              exact end0 rfl (.refl _)
            · refine c_f h8 rfl ?_
              refine c_skip ?_
              repeat (first | refine then_normal ?_ | refine then_exit ?_ | refine then_ret ?_ | refine block_normal ?_ | refine block_ret ?_ | refine block_exit ?_ | refine block_pass rfl ?_)
              refine c_region ?_
              refine o_s (.t (.d (.lit (.int .i64 (wi (z2 + 1)))))) (g0 rfl) rfl rfl rfl ?_
              refine o_s (.t (.d (.lit (.int .i64 (wi (z2 + 1)))))) (g0 rfl) rfl rfl rfl ?_
              refine o_nil ?_
              repeat (first | refine then_normal ?_ | refine then_exit ?_ | refine then_ret ?_ | refine block_normal ?_ | refine block_ret ?_ | refine block_exit ?_ | refine block_pass rfl ?_)
              exact ⟨nl2, (wi (z2 + 1)), Nat.lt_succ_self nl2, h, ⟨(.refl _), ⟨(.refl _), ⟨(.refl _), trivial⟩⟩⟩, rfl⟩
        · refine o_s (.t (.d (.lit (.int .u8 (x4.toNat : Int))))) (gy rfl rfl rfl h6) rfl rfl rfl ?_
          refine o_s (.t (.d (.lit (.bool (decide ((x4.toNat : Int) > 122)))))) (gy rfl rfl rfl h6) rfl rfl rfl ?_
          refine o_pk (.t (.d (.lit (.bool (decide ((x4.toNat : Int) > 122)))))) (b := false) h6 (g0 rfl) rfl rfl rfl rfl rfl ?_
          refine o_s (.t (.d (.lit (.bool (decide ((x4.toNat : Int) > 122)))))) (g0 rfl) rfl rfl rfl ?_
          rcases bif_some h with ⟨h9, h⟩ | ⟨h9, h⟩
          · refine o_s (.t (.d (.lit (.int .u8 (x4.toNat : Int))))) (gy rfl rfl rfl h9) rfl rfl rfl ?_
            refine o_s (.t (.d (.lit (.bool (decide ((x4.toNat : Int) < 48)))))) (gy rfl rfl rfl h9) rfl rfl rfl ?_
            refine o_s (.t (.d (.lit (.bool (decide ((x4.toNat : Int) < 48)))))) (gy rfl rfl rfl h9) rfl rfl rfl ?_
            rcases bif_some h with ⟨h10, h⟩ | ⟨h10, h⟩
            · refine o_skip rfl rfl rfl h10 rfl rfl ?_
              refine o_skip rfl rfl rfl h10 rfl rfl ?_
              refine o_pk (.t (.d (.lit (.bool true)))) (b := true) h10 (gy rfl rfl rfl h9) rfl rfl rfl rfl rfl ?_
              refine o_pk (.t (.d (.lit (.bool true)))) (b := true) h9 (g0 rfl) rfl rfl rfl rfl rfl ?_
              refine o_nil ?_
              repeat (first | refine then_normal ?_ | refine then_exit ?_ | refine then_ret ?_ | refine block_normal ?_ | refine block_ret ?_ | refine block_exit ?_ | refine block_pass rfl ?_)
              refine c_t rfl rfl ?_
              refine c_seq ?_
              refine c_region ?_
              refine o_s (.t (.d (.lit (.bool false)))) (g0 rfl) rfl rfl rfl ?_
              refine o_nil ?_
              repeat (first | refine then_normal ?_ | refine then_exit ?_ | refine then_ret ?_ | refine block_normal ?_ | refine block_ret ?_ | refine block_exit ?_ | refine block_pass rfl ?_)
              refine c_ret ?_
              repeat (first | refine then_normal ?_ | refine then_exit ?_ | refine then_ret ?_ | refine block_normal ?_ | refine block_ret ?_ | refine block_exit ?_ | refine block_pass rfl ?_)
              obtain rfl := Option.some.inj h
              exact end0 rfl (.refl _)
            · refine o_s (.t (.d (.lit (.int .u8 (x4.toNat : Int))))) (gy rfl rfl rfl h10) rfl rfl rfl ?_
              refine o_s (.t (.d (.lit (.bool (decide ((x4.toNat : Int) > 57)))))) (gy rfl rfl rfl h10) rfl rfl rfl ?_
              refine o_pk (.t (.d (.lit (.bool (decide ((x4.toNat : Int) > 57)))))) (b := false) h10 (gy rfl rfl rfl h9) rfl rfl rfl rfl rfl ?_
              refine o_pk (.t (.d (.lit (.bool (decide ((x4.toNat : Int) > 57)))))) (b := true) h9 (g0 rfl) rfl rfl rfl rfl rfl ?_
              refine o_nil ?_
              repeat (first | refine then_normal ?_ | refine then_exit ?_ | refine then_ret ?_ | refine block_normal ?_ | refine block_ret ?_ | refine block_exit ?_ | refine block_pass rfl ?_)
              rcases bif_some h with ⟨h11, h⟩ | ⟨h11, h⟩
              · refine c_t h11 rfl ?_
                refine c_seq ?_
                refine c_region ?_
                refine o_s (.t (.d (.lit (.bool false)))) (g0 rfl) rfl rfl rfl ?_
                refine o_nil ?_
                repeat (first | refine then_normal ?_ | refine then_exit ?_ | refine then_ret ?_ | refine block_normal ?_ | refine block_ret ?_ | refine block_exit ?_ | refine block_pass rfl ?_)
                refine c_ret ?_
                repeat (first | refine then_normal ?_ | refine then_exit ?_ | refine then_ret ?_ | refine block_normal ?_ | refine block_ret ?_ | refine block_exit ?_ | refine block_pass rfl ?_)
                obtain rfl := Option.some.inj h
                exact end0 rfl (.refl _)
              · refine c_f h11 rfl ?_
                refine c_skip ?_
                repeat (first | refine then_normal ?_ | refine then_exit ?_ | refine then_ret ?_ | refine block_normal ?_ | refine block_ret ?_ | refine block_exit ?_ | refine block_pass rfl ?_)
                refine c_region ?_
                refine o_s (.t (.d (.lit (.int .i64 (wi (z2 + 1)))))) (g0 rfl) rfl rfl rfl ?_
                refine o_s (.t (.d (.lit (.int .i64 (wi (z2 + 1)))))) (g0 rfl) rfl rfl rfl ?_
                refine o_nil ?_
                repeat (first | refine then_normal ?_ | refine then_exit ?_ | refine then_ret ?_ | refine block_normal ?_ | refine block_ret ?_ | refine block_exit ?_ | refine block_pass rfl ?_)
                exact ⟨nl2, (wi (z2 + 1)), Nat.lt_succ_self nl2, h, ⟨(.refl _), ⟨(.refl _), ⟨(.refl _), trivial⟩⟩⟩, rfl⟩
          · refine o_skip rfl rfl rfl h9 rfl rfl ?_
            refine o_skip rfl rfl rfl h9 rfl rfl ?_
            refine o_skip rfl rfl rfl h9 rfl rfl ?_
            refine o_un rfl rfl rfl rfl rfl ?_
            refine o_un rfl rfl rfl rfl rfl ?_
            refine o_skip rfl rfl rfl h9 rfl rfl ?_
            refine o_pk (.t (.d (.lit (.bool false)))) (b := false) h9 (g0 rfl) rfl rfl rfl rfl rfl ?_
            refine o_nil ?_
            repeat (first | refine then_normal ?_ | refine then_exit ?_ | refine then_ret ?_ | refine block_normal ?_ | refine block_ret ?_ | refine block_exit ?_ | refine block_pass rfl ?_)
            refine c_f rfl rfl ?_
            refine c_skip ?_
            repeat (first | refine then_normal ?_ | refine then_exit ?_ | refine then_ret ?_ | refine block_normal ?_ | refine block_ret ?_ | refine block_exit ?_ | refine block_pass rfl ?_)
            refine c_region ?_
            refine o_s (.t (.d (.lit (.int .i64 (wi (z2 + 1)))))) (g0 rfl) rfl rfl rfl ?_
            refine o_s (.t (.d (.lit (.int .i64 (wi (z2 + 1)))))) (g0 rfl) rfl rfl rfl ?_
            refine o_nil ?_
            repeat (first | refine then_normal ?_ | refine then_exit ?_ | refine then_ret ?_ | refine block_normal ?_ | refine block_ret ?_ | refine block_exit ?_ | refine block_pass rfl ?_)
            exact ⟨nl2, (wi (z2 + 1)), Nat.lt_succ_self nl2, h, ⟨(.refl _), ⟨(.refl _), ⟨(.refl _), trivial⟩⟩⟩, rfl⟩
      · refine c_f h3 rfl ?_
        refine c_exit ?_
        repeat (first | refine then_normal ?_ | refine then_exit ?_ | refine then_ret ?_ | refine block_normal ?_ | refine block_ret ?_ | refine block_exit ?_ | refine block_pass rfl ?_)
        exact ⟨(), h, ⟨(.refl _), trivial⟩, rfl⟩
  · rintro ⟨⟩ h
    refine c_seq ?_
    refine c_region ?_
    refine o_s (.t (.d (.lit (.string ⟨⟨p0⟩⟩)))) (g0 rfl) rfl rfl rfl ?_
    refine o_s (.t (.d (.lit (.int .i64 (p0.length : Int))))) (g0 rfl) rfl rfl rfl ?_
    refine o_s (.t (.d (.lit (.bool (decide ((p0.length : Int) ≥ 1)))))) (g0 rfl) rfl rfl rfl ?_
    refine o_s (.t (.d (.lit (.bool (decide ((p0.length : Int) ≥ 1)))))) (g0 rfl) rfl rfl rfl ?_
    rcases bif_some h with ⟨h1, h⟩ | ⟨h1, h⟩
    · refine o_s (.t (.d (.lit (.string ⟨⟨p0⟩⟩)))) (gy rfl rfl rfl h1) rfl rfl rfl ?_
      refine o_s (.t (.d (.lit (.int .i64 (p0.length : Int))))) (gy rfl rfl rfl h1) rfl rfl rfl ?_
      refine o_s (.t (.d (.lit (.bool (decide ((p0.length : Int) ≤ 12)))))) (gy rfl rfl rfl h1) rfl rfl rfl ?_
      refine o_pk (.t (.d (.lit (.bool (decide ((p0.length : Int) ≤ 12)))))) (b := true) h1 (g0 rfl) rfl rfl rfl rfl rfl ?_
      refine o_s (.t (.d (.lit (.bool (decide ((p0.length : Int) ≤ 12)))))) (g0 rfl) rfl rfl rfl ?_
      refine o_nil ?_
      repeat (first | refine then_normal ?_ | refine then_exit ?_ | refine then_ret ?_ | refine block_normal ?_ | refine block_ret ?_ | refine block_exit ?_ | refine block_pass rfl ?_)
      refine c_ret ?_
      repeat (first | refine then_normal ?_ | refine then_exit ?_ | refine then_ret ?_ | refine block_normal ?_ | refine block_ret ?_ | refine block_exit ?_ | refine block_pass rfl ?_)
      obtain rfl := Option.some.inj h
      exact end0 rfl (.refl _)
    · refine o_skip rfl rfl rfl h1 rfl rfl ?_
      refine o_skip rfl rfl rfl h1 rfl rfl ?_
      refine o_skip rfl rfl rfl h1 rfl rfl ?_
      refine o_pk (.t (.d (.lit (.bool false)))) (b := false) h1 (g0 rfl) rfl rfl rfl rfl rfl ?_
      refine o_s (.t (.d (.lit (.bool false)))) (g0 rfl) rfl rfl rfl ?_
      refine o_nil ?_
      repeat (first | refine then_normal ?_ | refine then_exit ?_ | refine then_ret ?_ | refine block_normal ?_ | refine block_ret ?_ | refine block_exit ?_ | refine block_pass rfl ?_)
      refine c_ret ?_
      repeat (first | refine then_normal ?_ | refine then_exit ?_ | refine then_ret ?_ | refine block_normal ?_ | refine block_ret ?_ | refine block_exit ?_ | refine block_pass rfl ?_)
      obtain rfl := Option.some.inj h
      exact end0 rfl (.refl _)

theorem fc_R25_Name (p0 : (List UInt8)) (r : Bool) (h : m_R25_Name p0 = some r) : FC Tryd.prog 52 [.t (.d (.lit (.string ⟨⟨p0⟩⟩)))] [] (.t (.d (.lit (.bool r)))) := by
  refine fc_mk (rs := [.tmp 2]) (n := 46) Tryd.func52 rfl rfl (Nat.le_of_ble_eq_true rfl) rfl (pins := []) rfl (L := [(0, .t (.d (.lit (.string ⟨⟨p0⟩⟩))))]) rfl ?_
  refine c_seq ?_
  refine c_region ?_
  refine o_s (.t (.d (.lit (.bool false)))) (g0 rfl) rfl rfl rfl ?_
  refine o_nil ?_
  repeat (first | refine then_normal ?_ | refine then_exit ?_ | refine then_ret ?_ | refine block_normal ?_ | refine block_ret ?_ | refine block_exit ?_ | refine block_pass rfl ?_)
  refine c_seq ?_
  refine c_seq ?_
  refine c_region ?_
  refine o_s (.t (.d (.lit (.string ⟨⟨p0⟩⟩)))) (g0 rfl) rfl rfl rfl ?_
  refine o_s (.t (.d (.lit (.int .i64 (p0.length : Int))))) (g0 rfl) rfl rfl rfl ?_
  refine o_s (.t (.d (.lit (.bool (decide ((p0.length : Int) < 1)))))) (g0 rfl) rfl rfl rfl ?_
  refine o_s (.t (.d (.lit (.bool (decide ((p0.length : Int) < 1)))))) (g0 rfl) rfl rfl rfl ?_
  rcases bif_some h with ⟨h1, h⟩ | ⟨h1, h⟩
  · refine o_skip rfl rfl rfl h1 rfl rfl ?_
    refine o_skip rfl rfl rfl h1 rfl rfl ?_
    refine o_skip rfl rfl rfl h1 rfl rfl ?_
    refine o_pk (.t (.d (.lit (.bool true)))) (b := true) h1 (g0 rfl) rfl rfl rfl rfl rfl ?_
    refine o_nil ?_
    repeat (first | refine then_normal ?_ | refine then_exit ?_ | refine then_ret ?_ | refine block_normal ?_ | refine block_ret ?_ | refine block_exit ?_ | refine block_pass rfl ?_)
    refine c_t rfl rfl ?_
    refine c_seq ?_
    refine c_region ?_
    refine o_s (.t (.d (.lit (.bool false)))) (g0 rfl) rfl rfl rfl ?_
    refine o_nil ?_
    repeat (first | refine then_normal ?_ | refine then_exit ?_ | refine then_ret ?_ | refine block_normal ?_ | refine block_ret ?_ | refine block_exit ?_ | refine block_pass rfl ?_)
    refine c_ret ?_
    repeat (first | refine then_normal ?_ | refine then_exit ?_ | refine then_ret ?_ | refine block_normal ?_ | refine block_ret ?_ | refine block_exit ?_ | refine block_pass rfl ?_)
    obtain rfl := Option.some.inj h
    exact end0 rfl (.refl _)
  · refine o_s (.t (.d (.lit (.string ⟨⟨p0⟩⟩)))) (gy rfl rfl rfl h1) rfl rfl rfl ?_
    refine o_s (.t (.d (.lit (.int .i64 (p0.length : Int))))) (gy rfl rfl rfl h1) rfl rfl rfl ?_
    refine o_s (.t (.d (.lit (.bool (decide ((p0.length : Int) > 12)))))) (gy rfl rfl rfl h1) rfl rfl rfl ?_
    refine o_pk (.t (.d (.lit (.bool (decide ((p0.length : Int) > 12)))))) (b := false) h1 (g0 rfl) rfl rfl rfl rfl rfl ?_
    refine o_nil ?_
    repeat (first | refine then_normal ?_ | refine then_exit ?_ | refine then_ret ?_ | refine block_normal ?_ | refine block_ret ?_ | refine block_exit ?_ | refine block_pass rfl ?_)
    rcases bif_some h with ⟨h2, h⟩ | ⟨h2, h⟩
    · refine c_t h2 rfl ?_
      refine c_seq ?_
      refine c_region ?_
      refine o_s (.t (.d (.lit (.bool false)))) (g0 rfl) rfl rfl rfl ?_
      refine o_nil ?_
      repeat (first | refine then_normal ?_ | refine then_exit ?_ | refine then_ret ?_ | refine block_normal ?_ | refine block_ret ?_ | refine block_exit ?_ | refine block_pass rfl ?_)
      refine c_ret ?_
      repeat (first | refine then_normal ?_ | refine then_exit ?_ | refine then_ret ?_ | refine block_normal ?_ | refine block_ret ?_ | refine block_exit ?_ | refine block_pass rfl ?_)
      obtain rfl := Option.some.inj h
      exact end0 rfl (.refl _)
    · refine c_f h2 rfl ?_
      refine c_skip ?_
      repeat (first | refine then_normal ?_ | refine then_exit ?_ | refine then_ret ?_ | refine block_normal ?_ | refine block_ret ?_ | refine block_exit ?_ | refine block_pass rfl ?_)
      refine c_seq ?_
      refine c_seq ?_
      refine c_region ?_
      refine o_s (.t (.d (.lit (.int .i64 0)))) (g0 rfl) rfl rfl rfl ?_
      refine o_nil ?_
      repeat (first | refine then_normal ?_ | refine then_exit ?_ | refine then_ret ?_ | refine block_normal ?_ | refine block_ret ?_ | refine block_exit ?_ | refine block_pass rfl ?_)
      refine c_block ?_
      refine c_fuel (fun (z3 : Int) => [(0, .t (.d (.lit (.string ⟨⟨p0⟩⟩)))), (3, .t (.d (.lit (.int .i64 z3))))]) (fun nl1 => (fun (z3 : Int) => m_R25_Name_l1 p0 nl1 z3 = some r)) (p0.length + 1) 0 h ⟨(.refl _), ⟨(.refl _), trivial⟩⟩ rfl ?_
      rintro nl1 z3 h
      cases nl1 with
      | zero => exact none_ne h
      | succ nl1 =>
        refine c_seq ?_
        refine c_seq ?_
        refine c_region ?_
        refine o_s (.t (.d (.lit (.int .i64 z3)))) (g0 rfl) rfl rfl rfl ?_
        refine o_s (.t (.d (.lit (.string ⟨⟨p0⟩⟩)))) (g0 rfl) rfl rfl rfl ?_
        refine o_s (.t (.d (.lit (.int .i64 (p0.length : Int))))) (g0 rfl) rfl rfl rfl ?_
        refine o_s (.t (.d (.lit (.bool (decide (z3 < (p0.length : Int))))))) (g0 rfl) rfl rfl rfl ?_
        refine o_nil ?_
        repeat (first | refine then_normal ?_ | refine then_exit ?_ | refine then_ret ?_ | refine block_normal ?_ | refine block_ret ?_ | refine block_exit ?_ | refine block_pass rfl ?_)
        rcases bif_some h with ⟨h4, h⟩ | ⟨h4, h⟩
        · refine c_t h4 rfl ?_
          refine c_skip ?_
          repeat (first | refine then_normal ?_ | refine then_exit ?_ | refine then_ret ?_ | refine block_normal ?_ | refine block_ret ?_ | refine block_exit ?_ | refine block_pass rfl ?_)
          refine c_cut (fun (_ : Unit) => [(0, .t (.d (.lit (.string ⟨⟨p0⟩⟩)))), (3, .t (.d (.lit (.int .i64 z3))))]) (fun (_ : Unit) => m_R25_Name_j2 (m_R25_Name_l1 p0 nl1) z3 = some r) ?_ ?_
          · refine c_block ?_
            refine c_cut (fun (y5 : Bool) => [(0, .t (.d (.lit (.string ⟨⟨p0⟩⟩)))), (3, .t (.d (.lit (.int .i64 z3)))), (4, .t (.d (.lit (.bool y5))))]) (fun (y5 : Bool) => m_R25_Name_j3 (m_R25_Name_l1 p0 nl1) p0 z3 y5 = some r) ?_ ?_
            · refine c_region ?_
              refine o_s (.t (.d (.lit (.string ⟨⟨p0⟩⟩)))) (g0 rfl) rfl rfl rfl ?_
              refine o_s (.t (.d (.lit (.int .i64 z3)))) (g0 rfl) rfl rfl rfl ?_
              obtain ⟨x14, h15, h⟩ := bind_some h
              refine o_c (g0 rfl) rfl rfl rfl (strIdxE h15) (strIdxC h15) ?_
              refine o_s (.t (.d (.lit (.bool (decide ((x14.toNat : Int) ≥ 97)))))) (g0 rfl) rfl rfl rfl ?_
              refine o_s (.t (.d (.lit (.bool (decide ((x14.toNat : Int) ≥ 97)))))) (g0 rfl) rfl rfl rfl ?_
              rcases bif_some h with ⟨h16, h⟩ | ⟨h16, h⟩
              · refine o_s (.t (.d (.lit (.string ⟨⟨p0⟩⟩)))) (gy rfl rfl rfl h16) rfl rfl rfl ?_
                refine o_s (.t (.d (.lit (.int .i64 z3)))) (gy rfl rfl rfl h16) rfl rfl rfl ?_
                obtain ⟨x17, h18, h⟩ := bind_some h
                refine o_c (gy rfl rfl rfl h16) rfl rfl rfl (strIdxE h18) (strIdxC h18) ?_
                refine o_s (.t (.d (.lit (.bool (decide ((x17.toNat : Int) ≤ 122)))))) (gy rfl rfl rfl h16) rfl rfl rfl ?_
                refine o_pk (.t (.d (.lit (.bool (decide ((x17.toNat : Int) ≤ 122)))))) (b := true) h16 (g0 rfl) rfl rfl rfl rfl rfl ?_
                refine o_s (.t (.d (.lit (.bool (decide ((x17.toNat : Int) ≤ 122)))))) (g0 rfl) rfl rfl rfl ?_
                refine o_nil ?_
                repeat (first | refine then_normal ?_ | refine then_exit ?_ | refine then_ret ?_ | refine block_normal ?_ | refine block_ret ?_ | refine block_exit ?_ | refine block_pass rfl ?_)
                exact ⟨(decide ((x17.toNat : Int) ≤ 122)), h, ⟨(.refl _), ⟨(.refl _), ⟨(.refl _), trivial⟩⟩⟩, rfl⟩
              · refine o_skip rfl rfl rfl h16 rfl rfl ?_
                refine o_skip rfl rfl rfl h16 rfl rfl ?_
                refine o_skip rfl rfl rfl h16 rfl rfl ?_
                refine o_skip rfl rfl rfl h16 rfl rfl ?_
                refine o_pk (.t (.d (.lit (.bool false)))) (b := false) h16 (g0 rfl) rfl rfl rfl rfl rfl ?_
                refine o_s (.t (.d (.lit (.bool false)))) (g0 rfl) rfl rfl rfl ?_
                refine o_nil ?_
                repeat (first | refine then_normal ?_ | refine then_exit ?_ | refine then_ret ?_ | refine block_normal ?_ | refine block_ret ?_ | refine block_exit ?_ | refine block_pass rfl ?_)
                exact ⟨false, h, ⟨(.refl _), ⟨(.refl _), ⟨(.refl _), trivial⟩⟩⟩, rfl⟩
            · rintro y5 h
              refine c_cut (fun (y6 : Bool) => [(0, .t (.d (.lit (.string ⟨⟨p0⟩⟩)))), (3, .t (.d (.lit (.int .i64 z3)))), (4, .t (.d (.lit (.bool y5)))), (5, .t (.d (.lit (.bool y6))))]) (fun (y6 : Bool) => m_R25_Name_j4 (m_R25_Name_l1 p0 nl1) y5 z3 y6 = some r) ?_ ?_
              · refine c_region ?_
                refine o_s (.t (.d (.lit (.string ⟨⟨p0⟩⟩)))) (g0 rfl) rfl rfl rfl ?_
                refine o_s (.t (.d (.lit (.int .i64 z3)))) (g0 rfl) rfl rfl rfl ?_
                obtain ⟨x9, h10, h⟩ := bind_some h
                refine o_c (g0 rfl) rfl rfl rfl (strIdxE h10) (strIdxC h10) ?_
                refine o_s (.t (.d (.lit (.bool (decide ((x9.toNat : Int) ≥ 48)))))) (g0 rfl) rfl rfl rfl ?_
                refine o_s (.t (.d (.lit (.bool (decide ((x9.toNat : Int) ≥ 48)))))) (g0 rfl) rfl rfl rfl ?_
                rcases bif_some h with ⟨h11, h⟩ | ⟨h11, h⟩
                · refine o_s (.t (.d (.lit (.string ⟨⟨p0⟩⟩)))) (gy rfl rfl rfl h11) rfl rfl rfl ?_
                  refine o_s (.t (.d (.lit (.int .i64 z3)))) (gy rfl rfl rfl h11) rfl rfl rfl ?_
                  obtain ⟨x12, h13, h⟩ := bind_some h
                  refine o_c (gy rfl rfl rfl h11) rfl rfl rfl (strIdxE h13) (strIdxC h13) ?_
                  refine o_s (.t (.d (.lit (.bool (decide ((x12.toNat : Int) ≤ 57)))))) (gy rfl rfl rfl h11) rfl rfl rfl ?_
                  refine o_pk (.t (.d (.lit (.bool (decide ((x12.toNat : Int) ≤ 57)))))) (b := true) h11 (g0 rfl) rfl rfl rfl rfl rfl ?_
                  refine o_s (.t (.d (.lit (.bool (decide ((x12.toNat : Int) ≤ 57)))))) (g0 rfl) rfl rfl rfl ?_
                  refine o_nil ?_
                  repeat (first | refine then_normal ?_ | refine then_exit ?_ | refine then_ret ?_ | refine block_normal ?_ | refine block_ret ?_ | refine block_exit ?_ | refine block_pass rfl ?_)
                  exact ⟨(decide ((x12.toNat : Int) ≤ 57)), h, ⟨(.refl _), ⟨(.refl _), ⟨(.refl _), ⟨(.refl _), trivial⟩⟩⟩⟩, rfl⟩
                · refine o_skip rfl rfl rfl h11 rfl rfl ?_
                  refine o_skip rfl rfl rfl h11 rfl rfl ?_
                  refine o_skip rfl rfl rfl h11 rfl rfl ?_
                  refine o_skip rfl rfl rfl h11 rfl rfl ?_
                  refine o_pk (.t (.d (.lit (.bool false)))) (b := false) h11 (g0 rfl) rfl rfl rfl rfl rfl ?_
                  refine o_s (.t (.d (.lit (.bool false)))) (g0 rfl) rfl rfl rfl ?_
                  refine o_nil ?_
                  repeat (first | refine then_normal ?_ | refine then_exit ?_ | refine then_ret ?_ | refine block_normal ?_ | refine block_ret ?_ | refine block_exit ?_ | refine block_pass rfl ?_)
                  exact ⟨false, h, ⟨(.refl _), ⟨(.refl _), ⟨(.refl _), ⟨(.refl _), trivial⟩⟩⟩⟩, rfl⟩
              · rintro y6 h
                refine c_seq ?_
                refine c_region ?_
                refine o_s (.t (.d (.lit (.bool y5)))) (g0 rfl) rfl rfl rfl ?_
                refine o_s (.t (.d (.lit (.bool (!y5))))) (g0 rfl) rfl rfl rfl ?_
                refine o_s (.t (.d (.lit (.bool (!y5))))) (g0 rfl) rfl rfl rfl ?_
                rcases bif_some h with ⟨h7, h⟩ | ⟨h7, h⟩
                · refine o_s (.t (.d (.lit (.bool y6)))) (gy rfl rfl rfl h7) rfl rfl rfl ?_
                  refine o_s (.t (.d (.lit (.bool (!y6))))) (gy rfl rfl rfl h7) rfl rfl rfl ?_
                  refine o_pk (.t (.d (.lit (.bool (!y6))))) (b := true) h7 (g0 rfl) rfl rfl rfl rfl rfl ?_
                  refine o_nil ?_
                  repeat (first | refine then_normal ?_ | refine then_exit ?_ | refine then_ret ?_ | refine block_normal ?_ | refine block_ret ?_ | refine block_exit ?_ | refine block_pass rfl ?_)
                  rcases bif_some h with ⟨h8, h⟩ | ⟨h8, h⟩
                  · refine c_t h8 rfl ?_
                    refine c_seq ?_
                    refine c_region ?_
                    refine o_s (.t (.d (.lit (.bool false)))) (g0 rfl) rfl rfl rfl ?_
                    refine o_nil ?_
                    repeat (first | refine then_normal ?_ | refine then_exit ?_ | refine then_ret ?_ | refine block_normal ?_ | refine block_ret ?_ | refine block_exit ?_ | refine block_pass rfl ?_)
                    refine c_ret ?_
                    repeat (first | refine then_normal ?_ | refine then_exit ?_ | refine then_ret ?_ | refine block_normal ?_ | refine block_ret ?_ | refine block_exit ?_ | refine block_pass rfl ?_)
                    obtain rfl := Option.some.inj h
                    exact end0 rfl (.refl _)
                  · refine c_f h8 rfl ?_
                    refine c_skip ?_
                    repeat (first | refine then_normal ?_ | refine then_exit ?_ | refine then_ret ?_ | refine block_normal ?_ | refine block_ret ?_ | refine block_exit ?_ | refine block_pass rfl ?_)
                    exact ⟨(), h, ⟨(.refl _), ⟨(.refl _), trivial⟩⟩, rfl⟩
                · refine o_skip rfl rfl rfl h7 rfl rfl ?_
                  refine o_skip rfl rfl rfl h7 rfl rfl ?_
                  refine o_pk (.t (.d (.lit (.bool false)))) (b := false) h7 (g0 rfl) rfl rfl rfl rfl rfl ?_
                  refine o_nil ?_
                  repeat (first | refine then_normal ?_ | refine then_exit ?_ | refine then_ret ?_ | refine block_normal ?_ | refine block_ret ?_ | refine block_exit ?_ | refine block_pass rfl ?_)
                  refine c_f rfl rfl ?_
                  refine c_skip ?_
                  repeat (first | refine then_normal ?_ | refine then_exit ?_ | refine then_ret ?_ | refine block_normal ?_ | refine block_ret ?_ | refine block_exit ?_ | refine block_pass rfl ?_)
                  exact ⟨(), h, ⟨(.refl _), ⟨(.refl _), trivial⟩⟩, rfl⟩
          · rintro ⟨⟩ h
            refine c_region ?_
            refine o_s (.t (.d (.lit (.int .i64 z3)))) (g0 rfl) rfl rfl rfl ?_
            refine o_s (.t (.d (.lit (.int .i64 (wi (z3 + 1)))))) (g0 rfl) rfl rfl rfl ?_
            refine o_s (.t (.d (.lit (.int .i64 (wi (z3 + 1)))))) (g0 rfl) rfl rfl rfl ?_
            refine o_nil ?_
            repeat (first | refine then_normal ?_ | refine then_exit ?_ | refine then_ret ?_ | refine block_normal ?_ | refine block_ret ?_ | refine block_exit ?_ | refine block_pass rfl ?_)
            exact ⟨nl1, (wi (z3 + 1)), Nat.lt_succ_self nl1, h, ⟨(.refl _), ⟨(.refl _), trivial⟩⟩, rfl⟩
        · refine c_f h4 rfl ?_
          refine c_exit ?_
          repeat (first | refine then_normal ?_ | refine then_exit ?_ | refine then_ret ?_ | refine block_normal ?_ | refine block_ret ?_ | refine block_exit ?_ | refine block_pass rfl ?_)
          refine c_seq ?_
          refine c_region ?_
          refine o_s (.t (.d (.lit (.bool true)))) (g0 rfl) rfl rfl rfl ?_
          refine o_nil ?_
          repeat (first | refine then_normal ?_ | refine then_exit ?_ | refine then_ret ?_ | refine block_normal ?_ | refine block_ret ?_ | refine block_exit ?_ | refine block_pass rfl ?_)
          refine c_ret ?_
          repeat (first | refine then_normal ?_ | refine then_exit ?_ | refine then_ret ?_ | refine block_normal ?_ | refine block_ret ?_ | refine block_exit ?_ | refine block_pass rfl ?_)
          obtain rfl := Option.some.inj h
          exact end0 rfl (.refl _)

end Go.Proofs.YteopjhakjeknaaaDoor
