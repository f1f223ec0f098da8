/-
  Walks of functions: each function does what its model tells. Printed by a program of this claim's own (gen.py) off the given translation.
-/
import Derived.Test.YtikaahmonocahaaQ18
import Derived.Test.YtikaahmonocahaaQ10
import Derived.Test.YtikaahmonocahaaQ12
namespace Go.Proofs.Ytikaahmonocahaa
open Go Go.RowKit
set_option linter.unusedVariables false
set_option maxHeartbeats 4000000
set_option maxRecDepth 20000
theorem fc_codec_plain (p0 : Int) (r : (List UInt8)) (h : m_codec_plain p0 = some r) : FC Try.prog 60 [.t (.d (.lit (.int .i64 p0)))] [] (.t (.d (.seq 1 (bytesD r)))) := by
 refine fc_mk (rs := [.tmp 2]) (n := 22) Try.func60 rfl rfl (Nat.le_of_ble_eq_true rfl) rfl (pins := []) rfl (L := [(0, .t (.d (.lit (.int .i64 p0))))]) rfl ?_
 refine c_sr ?_
 refine o_s (.t (.d (.lit (.slice none 0 0)))) (g0 rfl) rfl rfl rfl ?_
 refine o_nil ?_
 repeat (first | refine k1 ?_ | refine k4 ?_)
 refine c_sr ?_
 refine o_s (.t (.d (.lit (.int .i64 p0)))) (g0 rfl) rfl rfl rfl ?_
 obtain ⟨x1, h2, h⟩ := bind_some h
 refine o_ca (fc_word_Put _ _ _ h2) (g0 rfl) rfl rfl rfl rfl rfl rfl rfl (.cons (.refl _) (.cons (.refl _) .nil)) rfl rfl ?_
 refine o_s (.tup [.d (.seq 1 (bytesD x1.1)), .d (.lit (.int .i64 x1.2))]) (g0 rfl) rfl rfl rfl ?_
 refine o_s (.t (.d (.seq 1 (bytesD x1.1)))) (g0 rfl) rfl rfl rfl ?_
 refine o_s (.t (.d (.lit (.int .i64 x1.2)))) (g0 rfl) rfl rfl rfl ?_
 refine o_s (.t (.d (.seq 1 (bytesD x1.1)))) (g0 rfl) rfl rfl rfl ?_
 refine o_s (.t (.d (.lit (.int .i64 x1.2)))) (g0 rfl) rfl rfl rfl ?_
 refine o_nil ?_
 repeat (first | refine k1 ?_ | refine k4 ?_)
 refine c_seq ?_
 refine c_block ?_
 refine c_fuel (fun (z3 : (List UInt8)) => [(3, .t (.d (.seq 1 (bytesD z3))))]) (fun nl1 => (fun (z3 : (List UInt8)) => m_codec_plain_l1 nl1 z3 = some r)) (x1.1.length + 1) x1.1 h ⟨(.refl _), trivial⟩ rfl ?_
 rintro nl1 z3 h
 cases nl1 with
 | zero => exact none_ne h
 | succ nl1 =>
  refine c_seq ?_
  refine c_sr ?_
  refine o_s (.t (.d (.seq 1 (bytesD z3)))) (g0 rfl) rfl rfl rfl ?_
  refine o_c (g0 rfl) rfl rfl rfl (lenE _ _) trivial ?_
  refine o_s (.t (.d (.lit (.bool (decide ((z3.length : Int) > 0)))))) (g0 rfl) rfl rfl rfl ?_
  refine o_s (.t (.d (.lit (.bool (decide ((z3.length : Int) > 0)))))) (g0 rfl) rfl rfl rfl ?_
  rcases bif_some h with ⟨h4, h⟩ | ⟨h4, h⟩
  ·
   refine o_s (.t (.d (.seq 1 (bytesD z3)))) (gy rfl rfl rfl h4) rfl rfl rfl ?_
   obtain ⟨x5, h6, h⟩ := bind_some h
   refine o_c (gy rfl rfl rfl h4) rfl rfl rfl (idxE h6) (idxC h6) ?_
   refine o_s (.t (.d (.lit (.int .u8 (x5.toNat : Int))))) (gy rfl rfl rfl h4) rfl rfl rfl ?_
   refine o_s (.t (.d (.lit (.bool ((x5.toNat : Int) == 0))))) (gy rfl rfl rfl h4) rfl rfl rfl ?_
   refine o_pk (.t (.d (.lit (.bool ((x5.toNat : Int) == 0))))) (b := true) h4 (g0 rfl) rfl rfl rfl rfl rfl ?_
   refine o_nil ?_
   repeat (first | refine k1 ?_ | refine k4 ?_)
   rcases bif_some h with ⟨h7, h⟩ | ⟨h7, h⟩
   ·
    refine c_t h7 rfl ?_
    refine c_skip ?_
    repeat (first | refine k1 ?_ | refine k4 ?_)
    refine c_block ?_
    refine c_region ?_
    refine o_s (.t (.d (.seq 1 (bytesD z3)))) (g0 rfl) rfl rfl rfl ?_
    obtain ⟨x8, h9, h⟩ := bind_some h
    refine o_c (g0 rfl) rfl rfl rfl (cutEl (c := cU8) h9) (cutCl (c := cU8) h9) ?_
    refine o_s (.t (.d (.seq 1 (bytesD x8)))) (g0 rfl) rfl rfl rfl ?_
    refine o_nil ?_
    repeat (first | refine k1 ?_ | refine k4 ?_)
    exact ⟨nl1, x8, Nat.lt_succ_self nl1, h, ⟨(.refl _), trivial⟩, rfl⟩
   ·
    refine c_f h7 rfl ?_
    refine c_exit ?_
    repeat (first | refine k1 ?_ | refine k2 ?_ | refine k3 ?_ | refine k4 ?_ | refine k5 ?_ | refine k6 ?_ | refine k7 rfl ?_)
    refine c_sr ?_
    refine o_s (.t (.d (.seq 1 (bytesD z3)))) (g0 rfl) rfl rfl rfl ?_
    refine o_s (.t (.d (.seq 1 (bytesD z3)))) (g0 rfl) rfl rfl rfl ?_
    refine o_nil ?_
    repeat (first | refine k1 ?_ | refine k4 ?_)
    refine c_ret ?_
    repeat (first | refine k3 ?_ | refine k5 ?_)
    obtain rfl := Option.some.inj h
    exact end0 rfl (.refl _)
  ·
   refine o_skip rfl rfl rfl h4 rfl rfl ?_
   refine o_skip rfl rfl rfl h4 rfl rfl ?_
   refine o_skip rfl rfl rfl h4 rfl rfl ?_
   refine o_skip rfl rfl rfl h4 rfl rfl ?_
   refine o_pk (.t (.d (.lit (.bool false)))) (b := false) h4 (g0 rfl) rfl rfl rfl rfl rfl ?_
   refine o_nil ?_
   repeat (first | refine k1 ?_ | refine k4 ?_)
   refine c_f rfl rfl ?_
   refine c_exit ?_
   repeat (first | refine k1 ?_ | refine k2 ?_ | refine k3 ?_ | refine k4 ?_ | refine k5 ?_ | refine k6 ?_ | refine k7 rfl ?_)
   refine c_sr ?_
   refine o_s (.t (.d (.seq 1 (bytesD z3)))) (g0 rfl) rfl rfl rfl ?_
   refine o_s (.t (.d (.seq 1 (bytesD z3)))) (g0 rfl) rfl rfl rfl ?_
   refine o_nil ?_
   repeat (first | refine k1 ?_ | refine k4 ?_)
   refine c_ret ?_
   repeat (first | refine k3 ?_ | refine k5 ?_)
   obtain rfl := Option.some.inj h
   exact end0 rfl (.refl _)

theorem fc_codec_pure (p0 : V) (r : Bool) (h : m_codec_pure p0 = some r) : FC Try.prog 69 [.t (.agg [.lit (.int .i64 p0.k), .lit (.int .i64 p0.n), .seq 1 (bytesD p0.b), .seq 4 (List.map V.cells p0.l)])] [] (.t (.d (.lit (.bool r)))) := by
 refine fc_mk (rs := [.tmp 2]) (n := 48) Try.func69 rfl rfl (Nat.le_of_ble_eq_true rfl) rfl (pins := []) rfl (L := [(0, .t (.agg [.lit (.int .i64 p0.k), .lit (.int .i64 p0.n), .seq 1 (bytesD p0.b), .seq 4 (List.map V.cells p0.l)]))]) rfl ?_
 refine c_sr ?_
 refine o_s (.box [.d (.lit (.int .i64 p0.k)), .d (.lit (.int .i64 p0.n)), .d (.seq 1 (bytesD p0.b)), .d (.seq 4 (List.map V.cells p0.l))]) (g0 rfl) rfl rfl rfl ?_
 refine o_s (.t (.d (.lit (.bool false)))) (g0 rfl) rfl rfl rfl ?_
 refine o_nil ?_
 repeat (first | refine k1 ?_ | refine k4 ?_)
 refine c_seq ?_
 refine c_draw mixed (by kernel_rfl) ?_
 refine d_s (.ref 1 1) rfl (dg0 rfl) rfl rfl rfl rfl ?_
 refine d_s (.t (.d (.lit (.int .i64 p0.n)))) rfl (dg0 rfl) rfl rfl rfl rfl ?_
 refine d_s (.t (.d (.lit (.bool (p0.n == 0))))) rfl (dg0 rfl) rfl rfl rfl rfl ?_
 refine d_s (.ref 1 2) rfl (dg0 rfl) rfl rfl rfl rfl ?_
 refine d_s (.t (.d (.seq 1 (bytesD p0.b)))) rfl (dg0 rfl) rfl rfl rfl rfl ?_
 refine d_c rfl (dg0 rfl) rfl rfl rfl rfl (lenE _ _) trivial ?_
 refine d_s (.t (.d (.lit (.bool ((p0.b.length : Int) == 0))))) rfl (dg0 rfl) rfl rfl rfl rfl ?_
 refine d_s (.ref 1 3) rfl (dg0 rfl) rfl rfl rfl rfl ?_
 refine d_s (.t (.d (.seq 4 (List.map V.cells p0.l)))) rfl (dg0 rfl) rfl rfl rfl rfl ?_
 refine d_c rfl (dg0 rfl) rfl rfl rfl rfl (lenE _ _) trivial ?_
 refine d_s (.t (.d (.lit (.bool ((p0.l.length : Int) == 0))))) rfl (dg0 rfl) rfl rfl rfl rfl ?_
 refine d_s (.t (.d (.lit (.bool (p0.n == 0))))) rfl (dg0 rfl) rfl rfl rfl rfl ?_
 refine d_s (.t (.d (.lit (.bool ((p0.b.length : Int) == 0))))) rfl (dg0 rfl) rfl rfl rfl rfl ?_
 refine d_s (.t (.d (.lit (.bool ((p0.l.length : Int) == 0))))) rfl (dg0 rfl) rfl rfl rfl rfl ?_
 refine d_nil (by kernel_rfl) ?_
 repeat (first | refine k1 ?_ | refine k2 ?_ | refine k3 ?_ | refine k4 ?_ | refine k5 ?_ | refine k6 ?_ | refine k7 rfl ?_)
 refine c_cut (fun (q : Bool × Bool × Bool) => [(3, .t (.d (.lit (.bool q.1)))), (4, .t (.d (.lit (.bool q.2.1)))), (5, .t (.d (.lit (.bool q.2.2))))]) (fun (q : Bool × Bool × Bool) => m_codec_pure_j1 q.1 q.2.1 q.2.2 = some r) ?_ ?_
 ·
  refine c_sr ?_
  refine o_s (.ref 1 0) (g0 rfl) rfl rfl rfl ?_
  refine o_s (.t (.d (.lit (.int .i64 p0.k)))) (g0 rfl) rfl rfl rfl ?_
  refine o_nil ?_
  repeat (first | refine k1 ?_ | refine k4 ?_)
  refine c_block ?_
  refine c_sr ?_
  refine o_s (.t (.d (.lit (.bool (p0.k == 1))))) (g0 rfl) rfl rfl rfl ?_
  refine o_s (.t (.d (.lit (.bool (p0.k == 1))))) (g0 rfl) rfl rfl rfl ?_
  refine o_nil ?_
  repeat (first | refine k1 ?_ | refine k4 ?_)
  rcases bif_some h with ⟨h6, h⟩ | ⟨h6, h⟩
  ·
   refine c_t h6 rfl ?_
   refine c_region ?_
   refine o_s (.ref 1 1) (g0 rfl) rfl rfl rfl ?_
   refine o_s (.t (.d (.lit (.int .i64 p0.n)))) (g0 rfl) rfl rfl rfl ?_
   refine o_s (.t (.d (.lit (.bool (decide (p0.n ≥ 0)))))) (g0 rfl) rfl rfl rfl ?_
   refine o_s (.t (.d (.lit (.bool (decide (p0.n ≥ 0)))))) (g0 rfl) rfl rfl rfl ?_
   rcases bif_some h with ⟨h7, h⟩ | ⟨h7, h⟩
   ·
    refine o_s (.ref 1 1) (gy rfl rfl rfl h7) rfl rfl rfl ?_
    refine o_s (.t (.d (.lit (.int .i64 p0.n)))) (gy rfl rfl rfl h7) rfl rfl rfl ?_
    refine o_s (.t (.d (.lit (.bool (decide (p0.n ≤ 4611686018427387904)))))) (gy rfl rfl rfl h7) rfl rfl rfl ?_
    refine o_pk (.t (.d (.lit (.bool (decide (p0.n ≤ 4611686018427387904)))))) (b := true) h7 (g0 rfl) rfl rfl rfl rfl rfl ?_
    refine o_s (.t (.d (.lit (.bool (decide (p0.n ≤ 4611686018427387904)))))) (g0 rfl) rfl rfl rfl ?_
    refine o_nil ?_
    repeat (first | refine k1 ?_ | refine k4 ?_)
    exact ⟨((decide (p0.n ≤ 4611686018427387904)), ((p0.b.length : Int) == 0), ((p0.l.length : Int) == 0)), h, ⟨(.refl _), ⟨(.refl _), ⟨(.refl _), trivial⟩⟩⟩, rfl⟩
   ·
    refine o_skip rfl rfl rfl h7 rfl rfl ?_
    refine o_skip rfl rfl rfl h7 rfl rfl ?_
    refine o_skip rfl rfl rfl h7 rfl rfl ?_
    refine o_pk (.t (.d (.lit (.bool false)))) (b := false) h7 (g0 rfl) rfl rfl rfl rfl rfl ?_
    refine o_s (.t (.d (.lit (.bool false)))) (g0 rfl) rfl rfl rfl ?_
    refine o_nil ?_
    repeat (first | refine k1 ?_ | refine k4 ?_)
    exact ⟨(false, ((p0.b.length : Int) == 0), ((p0.l.length : Int) == 0)), h, ⟨(.refl _), ⟨(.refl _), ⟨(.refl _), trivial⟩⟩⟩, rfl⟩
  ·
   refine c_f h6 rfl ?_
   refine c_sr ?_
   refine o_s (.t (.d (.lit (.bool (p0.k == 2))))) (g0 rfl) rfl rfl rfl ?_
   refine o_s (.t (.d (.lit (.bool (p0.k == 2))))) (g0 rfl) rfl rfl rfl ?_
   refine o_nil ?_
   repeat (first | refine k1 ?_ | refine k4 ?_)
   rcases bif_some h with ⟨h8, h⟩ | ⟨h8, h⟩
   ·
    refine c_t h8 rfl ?_
    refine c_region ?_
    refine o_s (.ref 1 2) (g0 rfl) rfl rfl rfl ?_
    refine o_s (.t (.d (.seq 1 (bytesD p0.b)))) (g0 rfl) rfl rfl rfl ?_
    refine o_c (g0 rfl) rfl rfl rfl (lenE _ _) trivial ?_
    refine o_s (.t (.d (.lit (.bool (decide ((p0.b.length : Int) ≤ 1048576)))))) (g0 rfl) rfl rfl rfl ?_
    refine o_s (.t (.d (.lit (.bool (decide ((p0.b.length : Int) ≤ 1048576)))))) (g0 rfl) rfl rfl rfl ?_
    refine o_nil ?_
    repeat (first | refine k1 ?_ | refine k4 ?_)
    exact ⟨((p0.n == 0), (decide ((p0.b.length : Int) ≤ 1048576)), ((p0.l.length : Int) == 0)), h, ⟨(.refl _), ⟨(.refl _), ⟨(.refl _), trivial⟩⟩⟩, rfl⟩
   ·
    refine c_f h8 rfl ?_
    refine c_sr ?_
    refine o_s (.t (.d (.lit (.bool (p0.k == 3))))) (g0 rfl) rfl rfl rfl ?_
    refine o_s (.t (.d (.lit (.bool (p0.k == 3))))) (g0 rfl) rfl rfl rfl ?_
    refine o_nil ?_
    repeat (first | refine k1 ?_ | refine k4 ?_)
    rcases bif_some h with ⟨h9, h⟩ | ⟨h9, h⟩
    ·
     refine c_t h9 rfl ?_
     refine c_region ?_
     refine o_s (.ref 1 3) (g0 rfl) rfl rfl rfl ?_
     refine o_s (.t (.d (.seq 4 (List.map V.cells p0.l)))) (g0 rfl) rfl rfl rfl ?_
     refine o_c (g0 rfl) rfl rfl rfl (lenE _ _) trivial ?_
     refine o_s (.t (.d (.lit (.bool (decide ((p0.l.length : Int) ≤ 4096)))))) (g0 rfl) rfl rfl rfl ?_
     refine o_s (.t (.d (.lit (.bool (decide ((p0.l.length : Int) ≤ 4096)))))) (g0 rfl) rfl rfl rfl ?_
     refine o_nil ?_
     repeat (first | refine k1 ?_ | refine k4 ?_)
     exact ⟨((p0.n == 0), ((p0.b.length : Int) == 0), (decide ((p0.l.length : Int) ≤ 4096))), h, ⟨(.refl _), ⟨(.refl _), ⟨(.refl _), trivial⟩⟩⟩, rfl⟩
    ·
     refine c_f h9 rfl ?_
     refine c_sr ?_
     refine o_s (.t (.d (.lit (.bool false)))) (g0 rfl) rfl rfl rfl ?_
     refine o_nil ?_
     repeat (first | refine k1 ?_ | refine k4 ?_)
     refine c_ret ?_
     repeat (first | refine k3 ?_ | refine k5 ?_)
     obtain rfl := Option.some.inj h
     exact end0 rfl (.refl _)
 ·
  rintro ⟨y1, y2, y3⟩ h
  refine c_sr ?_
  refine o_s (.t (.d (.lit (.bool y1)))) (g0 rfl) rfl rfl rfl ?_
  refine o_s (.t (.d (.lit (.bool y1)))) (g0 rfl) rfl rfl rfl ?_
  rcases bif_some h with ⟨h4, h⟩ | ⟨h4, h⟩
  ·
   refine o_s (.t (.d (.lit (.bool y2)))) (gy rfl rfl rfl h4) rfl rfl rfl ?_
   refine o_pk (.t (.d (.lit (.bool y2)))) (b := true) h4 (g0 rfl) rfl rfl rfl rfl rfl ?_
   refine o_s (.t (.d (.lit (.bool y2)))) (g0 rfl) rfl rfl rfl ?_
   rcases bif_some h with ⟨h5, h⟩ | ⟨h5, h⟩
   ·
    refine o_s (.t (.d (.lit (.bool y3)))) (gy rfl rfl rfl h5) rfl rfl rfl ?_
    refine o_pk (.t (.d (.lit (.bool y3)))) (b := true) h5 (g0 rfl) rfl rfl rfl rfl rfl ?_
    refine o_s (.t (.d (.lit (.bool y3)))) (g0 rfl) rfl rfl rfl ?_
    refine o_nil ?_
    repeat (first | refine k1 ?_ | refine k4 ?_)
    refine c_ret ?_
    repeat (first | refine k3 ?_ | refine k5 ?_)
    obtain rfl := Option.some.inj h
    exact end0 rfl (.refl _)
   ·
    refine o_skip rfl rfl rfl h5 rfl rfl ?_
    refine o_pk (.t (.d (.lit (.bool false)))) (b := false) h5 (g0 rfl) rfl rfl rfl rfl rfl ?_
    refine o_s (.t (.d (.lit (.bool false)))) (g0 rfl) rfl rfl rfl ?_
    refine o_nil ?_
    repeat (first | refine k1 ?_ | refine k4 ?_)
    refine c_ret ?_
    repeat (first | refine k3 ?_ | refine k5 ?_)
    obtain rfl := Option.some.inj h
    exact end0 rfl (.refl _)
  ·
   refine o_skip rfl rfl rfl h4 rfl rfl ?_
   refine o_pk (.t (.d (.lit (.bool false)))) (b := false) h4 (g0 rfl) rfl rfl rfl rfl rfl ?_
   refine o_s (.t (.d (.lit (.bool false)))) (g0 rfl) rfl rfl rfl ?_
   refine o_skip rfl rfl rfl rfl rfl rfl ?_
   refine o_pk (.t (.d (.lit (.bool false)))) (b := false) rfl (g0 rfl) rfl rfl rfl rfl rfl ?_
   refine o_s (.t (.d (.lit (.bool false)))) (g0 rfl) rfl rfl rfl ?_
   refine o_nil ?_
   repeat (first | refine k1 ?_ | refine k4 ?_)
   refine c_ret ?_
   repeat (first | refine k3 ?_ | refine k5 ?_)
   obtain rfl := Option.some.inj h
   exact end0 rfl (.refl _)

theorem fc_codec_measure : ∀ (k0 : Nat) (p0 : V) (p1 : Int) (p2 : Int) (r : (Int × Bool)) (h : m_codec_measure k0 p0 p1 p2 = some r), FC Try.prog 59 [.t (.agg [.lit (.int .i64 p0.k), .lit (.int .i64 p0.n), .seq 1 (bytesD p0.b), .seq 4 (List.map V.cells p0.l)]), .t (.d (.lit (.int .i64 p1))), .t (.d (.lit (.int .i64 p2)))] [] (.tup [.d (.lit (.int .i64 r.1)), .d (.lit (.bool r.2))]) := by
 intro k0
 induction k0 with
 | zero => intro p0 p1 p2 r h; exact none_ne h
 | succ k0 ih =>
  intro p0 p1 p2 r h
  refine fc_mk (rs := [.tmp 6, .tmp 7]) (n := 65) Try.func59 rfl rfl (Nat.le_of_ble_eq_true rfl) rfl (pins := []) rfl (L := [(0, .t (.agg [.lit (.int .i64 p0.k), .lit (.int .i64 p0.n), .seq 1 (bytesD p0.b), .seq 4 (List.map V.cells p0.l)])), (1, .t (.d (.lit (.int .i64 p1)))), (2, .t (.d (.lit (.int .i64 p2))))]) rfl ?_
  refine c_sr ?_
  refine o_s (.box [.d (.lit (.int .i64 p0.k)), .d (.lit (.int .i64 p0.n)), .d (.seq 1 (bytesD p0.b)), .d (.seq 4 (List.map V.cells p0.l))]) (g0 rfl) rfl rfl rfl ?_
  refine o_s (.t (.d (.lit (.int .i64 0)))) (g0 rfl) rfl rfl rfl ?_
  refine o_s (.t (.d (.lit (.bool false)))) (g0 rfl) rfl rfl rfl ?_
  refine o_nil ?_
  repeat (first | refine k1 ?_ | refine k4 ?_)
  refine c_seq ?_
  refine c_sr ?_
  refine o_s (.t (.agg [.lit (.int .i64 p0.k), .lit (.int .i64 p0.n), .seq 1 (bytesD p0.b), .seq 4 (List.map V.cells p0.l)])) (g0 rfl) rfl rfl rfl ?_
  obtain ⟨x1, h2, h⟩ := bind_some h
  refine o_ca (fc_codec_pure _ _ h2) (g0 rfl) rfl rfl rfl rfl rfl rfl rfl (.cons (.refl _) .nil) rfl rfl ?_
  refine o_s (.t (.d (.lit (.bool (!x1))))) (g0 rfl) rfl rfl rfl ?_
  refine o_s (.t (.d (.lit (.bool (!x1))))) (g0 rfl) rfl rfl rfl ?_
  rcases bif_some h with ⟨h3, h⟩ | ⟨h3, h⟩
  ·
   refine o_skip rfl rfl rfl h3 rfl rfl ?_
   refine o_skip rfl rfl rfl h3 rfl rfl ?_
   refine o_pk (.t (.d (.lit (.bool true)))) (b := true) h3 (g0 rfl) rfl rfl rfl rfl rfl ?_
   refine o_s (.t (.d (.lit (.bool true)))) (g0 rfl) rfl rfl rfl ?_
   refine o_skip rfl rfl rfl rfl rfl rfl ?_
   refine o_skip rfl rfl rfl rfl rfl rfl ?_
   refine o_pk (.t (.d (.lit (.bool true)))) (b := true) rfl (g0 rfl) rfl rfl rfl rfl rfl ?_
   refine o_nil ?_
   repeat (first | refine k1 ?_ | refine k4 ?_)
   refine c_t rfl rfl ?_
   refine c_sr ?_
   refine o_s (.t (.d (.lit (.int .i64 0)))) (g0 rfl) rfl rfl rfl ?_
   refine o_s (.t (.d (.lit (.bool false)))) (g0 rfl) rfl rfl rfl ?_
   refine o_nil ?_
   repeat (first | refine k1 ?_ | refine k4 ?_)
   refine c_ret ?_
   repeat (first | refine k3 ?_ | refine k5 ?_)
   obtain rfl := Option.some.inj h
   exact end0 rfl (.tup (.cons (.refl _) (.cons (.refl _) .nil)))
  ·
   refine o_s (.t (.d (.lit (.int .i64 p1)))) (gy rfl rfl rfl h3) rfl rfl rfl ?_
   refine o_s (.t (.d (.lit (.bool (decide (p1 < 0)))))) (gy rfl rfl rfl h3) rfl rfl rfl ?_
   refine o_pk (.t (.d (.lit (.bool (decide (p1 < 0)))))) (b := false) h3 (g0 rfl) rfl rfl rfl rfl rfl ?_
   refine o_s (.t (.d (.lit (.bool (decide (p1 < 0)))))) (g0 rfl) rfl rfl rfl ?_
   rcases bif_some h with ⟨h4, h⟩ | ⟨h4, h⟩
   ·
    refine o_skip rfl rfl rfl h4 rfl rfl ?_
    refine o_skip rfl rfl rfl h4 rfl rfl ?_
    refine o_pk (.t (.d (.lit (.bool true)))) (b := true) h4 (g0 rfl) rfl rfl rfl rfl rfl ?_
    refine o_nil ?_
    repeat (first | refine k1 ?_ | refine k4 ?_)
    refine c_t rfl rfl ?_
    refine c_sr ?_
    refine o_s (.t (.d (.lit (.int .i64 0)))) (g0 rfl) rfl rfl rfl ?_
    refine o_s (.t (.d (.lit (.bool false)))) (g0 rfl) rfl rfl rfl ?_
    refine o_nil ?_
    repeat (first | refine k1 ?_ | refine k4 ?_)
    refine c_ret ?_
    repeat (first | refine k3 ?_ | refine k5 ?_)
    obtain rfl := Option.some.inj h
    exact end0 rfl (.tup (.cons (.refl _) (.cons (.refl _) .nil)))
   ·
    refine o_s (.t (.d (.lit (.int .i64 p2)))) (gy rfl rfl rfl h4) rfl rfl rfl ?_
    refine o_s (.t (.d (.lit (.bool (decide (p2 < 0)))))) (gy rfl rfl rfl h4) rfl rfl rfl ?_
    refine o_pk (.t (.d (.lit (.bool (decide (p2 < 0)))))) (b := false) h4 (g0 rfl) rfl rfl rfl rfl rfl ?_
    refine o_nil ?_
    repeat (first | refine k1 ?_ | refine k4 ?_)
    rcases bif_some h with ⟨h5, h⟩ | ⟨h5, h⟩
    ·
     refine c_t h5 rfl ?_
     refine c_sr ?_
     refine o_s (.t (.d (.lit (.int .i64 0)))) (g0 rfl) rfl rfl rfl ?_
     refine o_s (.t (.d (.lit (.bool false)))) (g0 rfl) rfl rfl rfl ?_
     refine o_nil ?_
     repeat (first | refine k1 ?_ | refine k4 ?_)
     refine c_ret ?_
     repeat (first | refine k3 ?_ | refine k5 ?_)
     obtain rfl := Option.some.inj h
     exact end0 rfl (.tup (.cons (.refl _) (.cons (.refl _) .nil)))
    ·
     refine c_f h5 rfl ?_
     refine c_skip ?_
     repeat (first | refine k1 ?_ | refine k4 ?_)
     refine c_seq ?_
     refine c_sr ?_
     refine o_s (.ref 3 0) (g0 rfl) rfl rfl rfl ?_
     refine o_s (.t (.d (.lit (.int .i64 p0.k)))) (g0 rfl) rfl rfl rfl ?_
     refine o_nil ?_
     repeat (first | refine k1 ?_ | refine k4 ?_)
     refine c_block ?_
     refine c_sr ?_
     refine o_s (.t (.d (.lit (.bool (p0.k == 1))))) (g0 rfl) rfl rfl rfl ?_
     refine o_s (.t (.d (.lit (.bool (p0.k == 1))))) (g0 rfl) rfl rfl rfl ?_
     refine o_nil ?_
     repeat (first | refine k1 ?_ | refine k4 ?_)
     rcases bif_some h with ⟨h6, h⟩ | ⟨h6, h⟩
     ·
      refine c_t h6 rfl ?_
      refine c_sr ?_
      refine o_s (.ref 3 1) (g0 rfl) rfl rfl rfl ?_
      refine o_s (.t (.d (.lit (.int .i64 p0.n)))) (g0 rfl) rfl rfl rfl ?_
      obtain ⟨x7, h8, h⟩ := bind_some h
      refine o_ca (fc_codec_plain _ _ h8) (g0 rfl) rfl rfl rfl rfl rfl rfl rfl (.cons (.refl _) .nil) rfl rfl ?_
      refine o_c (g0 rfl) rfl rfl rfl (lenE _ _) trivial ?_
      refine o_s (.t (.d (.lit (.int .i64 (wi (2 + (x7.length : Int))))))) (g0 rfl) rfl rfl rfl ?_
      refine o_s (.t (.d (.lit (.int .i64 (wi (2 + (x7.length : Int))))))) (g0 rfl) rfl rfl rfl ?_
      refine o_s (.t (.d (.lit (.bool true)))) (g0 rfl) rfl rfl rfl ?_
      refine o_nil ?_
      repeat (first | refine k1 ?_ | refine k4 ?_)
      refine c_ret ?_
      repeat (first | refine k3 ?_ | refine k5 ?_)
      obtain rfl := Option.some.inj h
      exact end0 rfl (.tup (.cons (.refl _) (.cons (.refl _) .nil)))
     ·
      refine c_f h6 rfl ?_
      refine c_sr ?_
      refine o_s (.t (.d (.lit (.bool (p0.k == 2))))) (g0 rfl) rfl rfl rfl ?_
      refine o_s (.t (.d (.lit (.bool (p0.k == 2))))) (g0 rfl) rfl rfl rfl ?_
      refine o_nil ?_
      repeat (first | refine k1 ?_ | refine k4 ?_)
      rcases bif_some h with ⟨h9, h⟩ | ⟨h9, h⟩
      ·
       refine c_t h9 rfl ?_
       refine c_sr ?_
       refine o_s (.ref 3 2) (g0 rfl) rfl rfl rfl ?_
       refine o_s (.t (.d (.seq 1 (bytesD p0.b)))) (g0 rfl) rfl rfl rfl ?_
       refine o_c (g0 rfl) rfl rfl rfl (lenE _ _) trivial ?_
       refine o_s (.t (.d (.lit (.int .i64 (wi (4 + (p0.b.length : Int))))))) (g0 rfl) rfl rfl rfl ?_
       refine o_s (.t (.d (.lit (.int .i64 (wi (4 + (p0.b.length : Int))))))) (g0 rfl) rfl rfl rfl ?_
       refine o_s (.t (.d (.lit (.bool true)))) (g0 rfl) rfl rfl rfl ?_
       refine o_nil ?_
       repeat (first | refine k1 ?_ | refine k4 ?_)
       refine c_ret ?_
       repeat (first | refine k3 ?_ | refine k5 ?_)
       obtain rfl := Option.some.inj h
       exact end0 rfl (.tup (.cons (.refl _) (.cons (.refl _) .nil)))
      ·
       refine c_f h9 rfl ?_
       refine c_skip ?_
       repeat (first | refine k1 ?_ | refine k4 ?_)
       refine c_seq ?_
       refine c_sr ?_
       refine o_s (.t (.d (.lit (.int .i64 p2)))) (g0 rfl) rfl rfl rfl ?_
       refine o_s (.t (.d (.lit (.bool (p2 == 0))))) (g0 rfl) rfl rfl rfl ?_
       refine o_nil ?_
       repeat (first | refine k1 ?_ | refine k4 ?_)
       rcases bif_some h with ⟨h10, h⟩ | ⟨h10, h⟩
       ·
        refine c_t h10 rfl ?_
        refine c_sr ?_
        refine o_s (.t (.d (.lit (.int .i64 0)))) (g0 rfl) rfl rfl rfl ?_
        refine o_s (.t (.d (.lit (.bool false)))) (g0 rfl) rfl rfl rfl ?_
        refine o_nil ?_
        repeat (first | refine k1 ?_ | refine k4 ?_)
        refine c_ret ?_
        repeat (first | refine k3 ?_ | refine k5 ?_)
        obtain rfl := Option.some.inj h
        exact end0 rfl (.tup (.cons (.refl _) (.cons (.refl _) .nil)))
       ·
        refine c_f h10 rfl ?_
        refine c_skip ?_
        repeat (first | refine k1 ?_ | refine k4 ?_)
        refine c_sr ?_
        refine o_s (.t (.d (.lit (.int .i64 3)))) (g0 rfl) rfl rfl rfl ?_
        refine o_nil ?_
        repeat (first | refine k1 ?_ | refine k4 ?_)
        refine c_cut (fun (y11 : Int) => [(8, .t (.d (.lit (.int .i64 y11))))]) (fun (y11 : Int) => m_codec_measure_j1 y11 = some r) ?_ ?_
        ·
         refine c_sr ?_
         refine o_s (.ref 3 3) (g0 rfl) rfl rfl rfl ?_
         refine o_s (.t (.d (.seq 4 (List.map V.cells p0.l)))) (g0 rfl) rfl rfl rfl ?_
         refine o_c (g0 rfl) rfl rfl rfl (lenE _ _) trivial ?_
         refine o_s (.t (.d (.lit (.int .i64 0)))) (g0 rfl) rfl rfl rfl ?_
         refine o_nil ?_
         repeat (first | refine k1 ?_ | refine k4 ?_)
         refine c_block ?_
         refine c_fuel (fun (q : Int × Int) => [(1, .t (.d (.lit (.int .i64 p1)))), (2, .t (.d (.lit (.int .i64 p2)))), (8, .t (.d (.lit (.int .i64 q.1)))), (42, .t (.d (.seq 4 (List.map V.cells p0.l)))), (43, .t (.d (.lit (.int .i64 (p0.l.length : Int))))), (44, .t (.d (.lit (.int .i64 q.2))))]) (fun nl2 => (fun (q : Int × Int) => m_codec_measure_l2 p0 (m_codec_measure k0) p1 p2 nl2 q.1 q.2 = some r)) (p0.l.length + 1) (3, 0) h ⟨(.refl _), ⟨(.refl _), ⟨(.refl _), ⟨(.refl _), ⟨(.refl _), ⟨(.refl _), trivial⟩⟩⟩⟩⟩⟩ rfl ?_
         rintro nl2 ⟨z12, z13⟩ h
         cases nl2 with
         | zero => exact none_ne h
         | succ nl2 =>
          refine c_sr ?_
          refine o_s (.t (.d (.lit (.bool (decide (z13 < (p0.l.length : Int))))))) (g0 rfl) rfl rfl rfl ?_
          refine o_nil ?_
          repeat (first | refine k1 ?_ | refine k4 ?_)
          refine c_seq ?_
          rcases bif_some h with ⟨h14, h⟩ | ⟨h14, h⟩
          ·
           refine c_t h14 rfl ?_
           refine c_skip ?_
           repeat (first | refine k1 ?_ | refine k4 ?_)
           refine c_seq ?_
           refine c_block ?_
           refine c_sr ?_
           obtain ⟨x15, h16, h⟩ := bind_some h
           refine o_c (g0 rfl) rfl rfl rfl (idxE' V.cells_eq h16) (idxC h16) ?_
           refine o_s (.t (.agg [.lit (.int .i64 x15.k), .lit (.int .i64 x15.n), .seq 1 (bytesD x15.b), .seq 4 (List.map V.cells x15.l)])) (g0 rfl) rfl rfl rfl ?_
           refine o_s (.box [.d (.lit (.int .i64 0)), .d (.lit (.int .i64 0)), .d (.lit (.slice none 0 0)), .d (.lit (.slice none 0 0))]) (g0 rfl) rfl rfl rfl ?_
           refine o_st (.box [.d (.lit (.int .i64 x15.k)), .d (.lit (.int .i64 x15.n)), .d (.seq 1 (bytesD x15.b)), .d (.seq 4 (List.map V.cells x15.l))]) (g0 rfl) rfl rfl rfl ?_
           refine o_nil ?_
           repeat (first | refine k1 ?_ | refine k4 ?_)
           refine c_sr ?_
           refine o_s (.t (.agg [.lit (.int .i64 x15.k), .lit (.int .i64 x15.n), .seq 1 (bytesD x15.b), .seq 4 (List.map V.cells x15.l)])) (g0 rfl) rfl rfl rfl ?_
           refine o_s (.t (.d (.lit (.int .i64 p1)))) (g0 rfl) rfl rfl rfl ?_
           refine o_s (.t (.d (.lit (.int .i64 z12)))) (g0 rfl) rfl rfl rfl ?_
           refine o_s (.t (.d (.lit (.int .i64 (wi (p1 - z12)))))) (g0 rfl) rfl rfl rfl ?_
           refine o_s (.t (.d (.lit (.int .i64 p2)))) (g0 rfl) rfl rfl rfl ?_
           refine o_s (.t (.d (.lit (.int .i64 (wi (p2 - 1)))))) (g0 rfl) rfl rfl rfl ?_
           obtain ⟨x17, h18, h⟩ := bind_some h
           refine o_ca (ih _ _ _ _ h18) (g0 rfl) rfl rfl rfl rfl rfl rfl rfl (.cons (.refl _) (.cons (.refl _) (.cons (.refl _) .nil))) rfl rfl ?_
           refine o_s (.tup [.d (.lit (.int .i64 x17.1)), .d (.lit (.bool x17.2))]) (g0 rfl) rfl rfl rfl ?_
           refine o_s (.t (.d (.lit (.int .i64 x17.1)))) (g0 rfl) rfl rfl rfl ?_
           refine o_s (.t (.d (.lit (.bool x17.2)))) (g0 rfl) rfl rfl rfl ?_
           refine o_s (.t (.d (.lit (.int .i64 x17.1)))) (g0 rfl) rfl rfl rfl ?_
           refine o_s (.t (.d (.lit (.bool x17.2)))) (g0 rfl) rfl rfl rfl ?_
           refine o_nil ?_
           repeat (first | refine k1 ?_ | refine k4 ?_)
           refine c_seq ?_
           refine c_sr ?_
           refine o_s (.t (.d (.lit (.bool x17.2)))) (g0 rfl) rfl rfl rfl ?_
           refine o_s (.t (.d (.lit (.bool (!x17.2))))) (g0 rfl) rfl rfl rfl ?_
           refine o_nil ?_
           repeat (first | refine k1 ?_ | refine k4 ?_)
           rcases bif_some h with ⟨h19, h⟩ | ⟨h19, h⟩
           ·
            refine c_t h19 rfl ?_
            refine c_sr ?_
            refine o_s (.t (.d (.lit (.int .i64 0)))) (g0 rfl) rfl rfl rfl ?_
            refine o_s (.t (.d (.lit (.bool false)))) (g0 rfl) rfl rfl rfl ?_
            refine o_nil ?_
            repeat (first | refine k1 ?_ | refine k4 ?_)
            refine c_ret ?_
            repeat (first | refine k3 ?_ | refine k5 ?_)
            obtain rfl := Option.some.inj h
            exact end0 rfl (.tup (.cons (.refl _) (.cons (.refl _) .nil)))
           ·
            refine c_f h19 rfl ?_
            refine c_skip ?_
            repeat (first | refine k1 ?_ | refine k4 ?_)
            refine c_region ?_
            refine o_s (.t (.d (.lit (.int .i64 z12)))) (g0 rfl) rfl rfl rfl ?_
            refine o_s (.t (.d (.lit (.int .i64 x17.1)))) (g0 rfl) rfl rfl rfl ?_
            refine o_s (.t (.d (.lit (.int .i64 (wi (z12 + x17.1)))))) (g0 rfl) rfl rfl rfl ?_
            refine o_s (.t (.d (.lit (.int .i64 (wi (z12 + x17.1)))))) (g0 rfl) rfl rfl rfl ?_
            refine o_nil ?_
            repeat (first | refine k1 ?_ | refine k4 ?_)
            refine c_region ?_
            refine o_s (.t (.d (.lit (.int .i64 (wi (z13 + 1)))))) (g0 rfl) rfl rfl rfl ?_
            refine o_s (.t (.d (.lit (.int .i64 (wi (z13 + 1)))))) (g0 rfl) rfl rfl rfl ?_
            refine o_nil ?_
            repeat (first | refine k1 ?_ | refine k4 ?_)
            exact ⟨nl2, ((wi (z12 + x17.1)), (wi (z13 + 1))), Nat.lt_succ_self nl2, h, ⟨(.refl _), ⟨(.refl _), ⟨(.refl _), ⟨(.refl _), ⟨(.refl _), ⟨(.refl _), trivial⟩⟩⟩⟩⟩⟩, rfl⟩
          ·
           refine c_f h14 rfl ?_
           refine c_exit ?_
           repeat (first | refine k1 ?_ | refine k2 ?_ | refine k3 ?_ | refine k4 ?_ | refine k5 ?_ | refine k6 ?_ | refine k7 rfl ?_)
           exact ⟨z12, h, ⟨(.refl _), trivial⟩, rfl⟩
        ·
         rintro y11 h
         refine c_sr ?_
         refine o_s (.t (.d (.lit (.int .i64 y11)))) (g0 rfl) rfl rfl rfl ?_
         refine o_s (.t (.d (.lit (.int .i64 y11)))) (g0 rfl) rfl rfl rfl ?_
         refine o_s (.t (.d (.lit (.bool true)))) (g0 rfl) rfl rfl rfl ?_
         refine o_nil ?_
         repeat (first | refine k1 ?_ | refine k4 ?_)
         refine c_ret ?_
         repeat (first | refine k3 ?_ | refine k5 ?_)
         obtain rfl := Option.some.inj h
         exact end0 rfl (.tup (.cons (.refl _) (.cons (.refl _) .nil)))

theorem fc_codec_Size (p0 : V) (r : (Int × Bool)) (h : m_codec_Size p0 = some r) : FC Try.prog 45 [.t (.agg [.lit (.int .i64 p0.k), .lit (.int .i64 p0.n), .seq 1 (bytesD p0.b), .seq 4 (List.map V.cells p0.l)])] [] (.tup [.d (.lit (.int .i64 r.1)), .d (.lit (.bool r.2))]) := by
 refine fc_mk (rs := [.tmp 2, .tmp 3]) (n := 18) Try.func45 rfl rfl (Nat.le_of_ble_eq_true rfl) rfl (pins := []) rfl (L := [(0, .t (.agg [.lit (.int .i64 p0.k), .lit (.int .i64 p0.n), .seq 1 (bytesD p0.b), .seq 4 (List.map V.cells p0.l)]))]) rfl ?_
 refine c_sr ?_
 refine o_s (.box [.d (.lit (.int .i64 p0.k)), .d (.lit (.int .i64 p0.n)), .d (.seq 1 (bytesD p0.b)), .d (.seq 4 (List.map V.cells p0.l))]) (g0 rfl) rfl rfl rfl ?_
 refine o_s (.t (.d (.lit (.int .i64 0)))) (g0 rfl) rfl rfl rfl ?_
 refine o_s (.t (.d (.lit (.bool false)))) (g0 rfl) rfl rfl rfl ?_
 refine o_nil ?_
 repeat (first | refine k1 ?_ | refine k4 ?_)
 refine c_sr ?_
 refine o_s (.t (.agg [.lit (.int .i64 p0.k), .lit (.int .i64 p0.n), .seq 1 (bytesD p0.b), .seq 4 (List.map V.cells p0.l)])) (g0 rfl) rfl rfl rfl ?_
 obtain ⟨x1, h2, h⟩ := bind_some h
 refine o_ca (fc_codec_measure _ _ _ _ _ h2) (g0 rfl) rfl rfl rfl rfl rfl rfl rfl (.cons (.refl _) (.cons (.refl _) (.cons (.refl _) .nil))) rfl rfl ?_
 refine o_s (.tup [.d (.lit (.int .i64 x1.1)), .d (.lit (.bool x1.2))]) (g0 rfl) rfl rfl rfl ?_
 refine o_s (.t (.d (.lit (.int .i64 x1.1)))) (g0 rfl) rfl rfl rfl ?_
 refine o_s (.t (.d (.lit (.bool x1.2)))) (g0 rfl) rfl rfl rfl ?_
 refine o_s (.t (.d (.lit (.int .i64 x1.1)))) (g0 rfl) rfl rfl rfl ?_
 refine o_s (.t (.d (.lit (.bool x1.2)))) (g0 rfl) rfl rfl rfl ?_
 refine o_nil ?_
 repeat (first | refine k1 ?_ | refine k4 ?_)
 refine c_seq ?_
 refine c_sr ?_
 refine o_s (.t (.d (.lit (.bool x1.2)))) (g0 rfl) rfl rfl rfl ?_
 refine o_s (.t (.d (.lit (.bool (!x1.2))))) (g0 rfl) rfl rfl rfl ?_
 refine o_s (.t (.d (.lit (.bool (!x1.2))))) (g0 rfl) rfl rfl rfl ?_
 rcases bif_some h with ⟨h3, h⟩ | ⟨h3, h⟩
 ·
  refine o_skip rfl rfl rfl h3 rfl rfl ?_
  refine o_skip rfl rfl rfl h3 rfl rfl ?_
  refine o_pk (.t (.d (.lit (.bool true)))) (b := true) h3 (g0 rfl) rfl rfl rfl rfl rfl ?_
  refine o_nil ?_
  repeat (first | refine k1 ?_ | refine k4 ?_)
  refine c_t rfl rfl ?_
  refine c_sr ?_
  refine o_s (.t (.d (.lit (.int .i64 0)))) (g0 rfl) rfl rfl rfl ?_
  refine o_s (.t (.d (.lit (.bool false)))) (g0 rfl) rfl rfl rfl ?_
  refine o_nil ?_
  repeat (first | refine k1 ?_ | refine k4 ?_)
  refine c_ret ?_
  repeat (first | refine k3 ?_ | refine k5 ?_)
  obtain rfl := Option.some.inj h
  exact end0 rfl (.tup (.cons (.refl _) (.cons (.refl _) .nil)))
 ·
  refine o_s (.t (.d (.lit (.int .i64 x1.1)))) (gy rfl rfl rfl h3) rfl rfl rfl ?_
  refine o_s (.t (.d (.lit (.bool (decide (x1.1 > 1048576)))))) (gy rfl rfl rfl h3) rfl rfl rfl ?_
  refine o_pk (.t (.d (.lit (.bool (decide (x1.1 > 1048576)))))) (b := false) h3 (g0 rfl) rfl rfl rfl rfl rfl ?_
  refine o_nil ?_
  repeat (first | refine k1 ?_ | refine k4 ?_)
  rcases bif_some h with ⟨h4, h⟩ | ⟨h4, h⟩
  ·
   refine c_t h4 rfl ?_
   refine c_sr ?_
   refine o_s (.t (.d (.lit (.int .i64 0)))) (g0 rfl) rfl rfl rfl ?_
   refine o_s (.t (.d (.lit (.bool false)))) (g0 rfl) rfl rfl rfl ?_
   refine o_nil ?_
   repeat (first | refine k1 ?_ | refine k4 ?_)
   refine c_ret ?_
   repeat (first | refine k3 ?_ | refine k5 ?_)
   obtain rfl := Option.some.inj h
   exact end0 rfl (.tup (.cons (.refl _) (.cons (.refl _) .nil)))
  ·
   refine c_f h4 rfl ?_
   refine c_skip ?_
   repeat (first | refine k1 ?_ | refine k4 ?_)
   refine c_sr ?_
   refine o_s (.t (.d (.lit (.int .i64 x1.1)))) (g0 rfl) rfl rfl rfl ?_
   refine o_s (.t (.d (.lit (.int .i64 x1.1)))) (g0 rfl) rfl rfl rfl ?_
   refine o_s (.t (.d (.lit (.bool true)))) (g0 rfl) rfl rfl rfl ?_
   refine o_nil ?_
   repeat (first | refine k1 ?_ | refine k4 ?_)
   refine c_ret ?_
   repeat (first | refine k3 ?_ | refine k5 ?_)
   obtain rfl := Option.some.inj h
   exact end0 rfl (.tup (.cons (.refl _) (.cons (.refl _) .nil)))

theorem fc_codec_put : ∀ (k0 : Nat) (p0 : (List UInt8)) (p1 : V) (r : (List UInt8)) (h : m_codec_put k0 p0 p1 = some r), FC Try.prog 46 [.t (.own 5 1 (bytesD p0)), .t (.agg [.lit (.int .i64 p1.k), .lit (.int .i64 p1.n), .seq 1 (bytesD p1.b), .seq 4 (List.map V.cells p1.l)])] [] (.t (.own 5 1 (bytesD r))) := by
 intro k0
 induction k0 with
 | zero => intro p0 p1 r h; exact none_ne h
 | succ k0 ih =>
  intro p0 p1 r h
  refine fc_mk (rs := [.tmp 4]) (n := 68) Try.func46 rfl rfl (Nat.le_of_ble_eq_true rfl) rfl (pins := []) rfl (L := [(0, .t (.own 5 1 (bytesD p0))), (1, .t (.agg [.lit (.int .i64 p1.k), .lit (.int .i64 p1.n), .seq 1 (bytesD p1.b), .seq 4 (List.map V.cells p1.l)]))]) rfl ?_
  refine c_sr ?_
  refine o_s (.box [.d (.lit (.int .i64 p1.k)), .d (.lit (.int .i64 p1.n)), .d (.seq 1 (bytesD p1.b)), .d (.seq 4 (List.map V.cells p1.l))]) (g0 rfl) rfl rfl rfl ?_
  refine o_s (.t (.d (.lit (.slice none 0 0)))) (g0 rfl) rfl rfl rfl ?_
  refine o_nil ?_
  repeat (first | refine k1 ?_ | refine k4 ?_)
  refine c_seq ?_
  refine c_sr ?_
  refine o_s (.ref 3 0) (g0 rfl) rfl rfl rfl ?_
  refine o_s (.t (.d (.lit (.int .i64 p1.k)))) (g0 rfl) rfl rfl rfl ?_
  refine o_nil ?_
  repeat (first | refine k1 ?_ | refine k4 ?_)
  refine c_block ?_
  refine c_sr ?_
  refine o_s (.t (.d (.lit (.bool (p1.k == 1))))) (g0 rfl) rfl rfl rfl ?_
  refine o_s (.t (.d (.lit (.bool (p1.k == 1))))) (g0 rfl) rfl rfl rfl ?_
  refine o_nil ?_
  repeat (first | refine k1 ?_ | refine k4 ?_)
  rcases bif_some h with ⟨h1, h⟩ | ⟨h1, h⟩
  ·
   refine c_t h1 rfl ?_
   refine c_sr ?_
   refine o_s (.ref 3 1) (g0 rfl) rfl rfl rfl ?_
   refine o_s (.t (.d (.lit (.int .i64 p1.n)))) (g0 rfl) rfl rfl rfl ?_
   obtain ⟨x2, h3, h⟩ := bind_some h
   refine o_ca (fc_codec_plain _ _ h3) (g0 rfl) rfl rfl rfl rfl rfl rfl rfl (.cons (.refl _) .nil) rfl rfl ?_
   refine o_s (.t (.d (.seq 1 (bytesD x2)))) (g0 rfl) rfl rfl rfl ?_
   refine o_nil ?_
   repeat (first | refine k1 ?_ | refine k4 ?_)
   refine c_sr ?_
   refine o_2 (.t (.d (.seq 1 (bytesD p0)))) (.t (.own 5 1 (bytesD p0))) (g0 rfl) rfl rfl rfl ?_
   refine o_s (.t (.d (.seq 1 (bytesD x2)))) (g0 rfl) rfl rfl rfl ?_
   refine o_c (g0 rfl) rfl rfl rfl (lenE _ _) trivial ?_
   refine o_c (g0 rfl) rfl rfl rfl (congrArg (fun z => A.t (.d (.lit (.int .u8 z)))) (u8c _)) trivial ?_
   refine o_s (.t (.own 5 1 (bytesD [1, (U8 (x2.length : Int))]))) (g0 rfl) rfl rfl rfl ?_
   obtain ⟨x4, h5, h⟩ := bind_some h
   refine o_2c (g0 rfl) rfl rfl rfl (appE (c := cU8) h5) (appC (c := cU8) h5) ?_
   refine o_s (.t (.d (.seq 1 (bytesD x2)))) (g0 rfl) rfl rfl rfl ?_
   obtain ⟨x6, h7, h⟩ := bind_some h
   refine o_2c (g0 rfl) rfl rfl rfl (appE (c := cU8) h7) (appC (c := cU8) h7) ?_
   refine o_2 (.t (.d (.seq 1 (bytesD x6)))) (.t (.own 5 1 (bytesD x6))) (g0 rfl) rfl rfl rfl ?_
   refine o_nil ?_
   repeat (first | refine k1 ?_ | refine k4 ?_)
   refine c_ret ?_
   repeat (first | refine k3 ?_ | refine k5 ?_)
   obtain rfl := Option.some.inj h
   exact end0 rfl (.refl _)
  ·
   refine c_f h1 rfl ?_
   refine c_sr ?_
   refine o_s (.t (.d (.lit (.bool (p1.k == 2))))) (g0 rfl) rfl rfl rfl ?_
   refine o_s (.t (.d (.lit (.bool (p1.k == 2))))) (g0 rfl) rfl rfl rfl ?_
   refine o_nil ?_
   repeat (first | refine k1 ?_ | refine k4 ?_)
   rcases bif_some h with ⟨h8, h⟩ | ⟨h8, h⟩
   ·
    refine c_t h8 rfl ?_
    refine c_sr ?_
    refine o_s (.ref 3 2) (g0 rfl) rfl rfl rfl ?_
    refine o_s (.t (.d (.seq 1 (bytesD p1.b)))) (g0 rfl) rfl rfl rfl ?_
    refine o_c (g0 rfl) rfl rfl rfl (lenE _ _) trivial ?_
    obtain ⟨x9, h10, h⟩ := bind_some h
    refine o_ca (fc_word_Put _ _ _ h10) (g0 rfl) rfl rfl rfl rfl rfl rfl rfl (.cons (.refl _) (.cons (.refl _) .nil)) rfl rfl ?_
    refine o_s (.tup [.d (.seq 1 (bytesD x9.1)), .d (.lit (.int .i64 x9.2))]) (g0 rfl) rfl rfl rfl ?_
    refine o_s (.t (.d (.seq 1 (bytesD x9.1)))) (g0 rfl) rfl rfl rfl ?_
    refine o_s (.t (.d (.lit (.int .i64 x9.2)))) (g0 rfl) rfl rfl rfl ?_
    refine o_s (.t (.d (.seq 1 (bytesD x9.1)))) (g0 rfl) rfl rfl rfl ?_
    refine o_s (.t (.d (.lit (.int .i64 x9.2)))) (g0 rfl) rfl rfl rfl ?_
    refine o_nil ?_
    repeat (first | refine k1 ?_ | refine k4 ?_)
    refine c_seq ?_
    refine c_draw mixed (by kernel_rfl) ?_
    refine d_2 (.t (.d (.seq 1 (bytesD p0)))) (.t (.own 5 1 (bytesD p0))) rfl (dg0 rfl) rfl rfl rfl rfl rfl ?_
    refine d_s (.t (.own 5 1 (bytesD [2]))) rfl (dg0 rfl) rfl rfl rfl rfl ?_
    obtain ⟨x11, h12, h⟩ := bind_some h
    refine d_2c rfl (dg0 rfl) rfl rfl rfl rfl rfl (appE (c := cU8) h12) (appC (c := cU8) h12) ?_
    refine d_s (.t (.d (.seq 1 (bytesD x9.1)))) rfl (dg0 rfl) rfl rfl rfl rfl ?_
    obtain ⟨x13, h14, h⟩ := bind_some h
    refine d_2c rfl (dg0 rfl) rfl rfl rfl rfl rfl (appE (c := cU8) h14) (appC (c := cU8) h14) ?_
    refine d_s (.ref 3 2) rfl (dg0 rfl) rfl rfl rfl rfl ?_
    refine d_s (.t (.d (.seq 1 (bytesD p1.b)))) rfl (dg0 rfl) rfl rfl rfl rfl ?_
    obtain ⟨x15, h16, h⟩ := bind_some h
    refine d_2c rfl (dg0 rfl) rfl rfl rfl rfl rfl (appE (c := cU8) h16) (appC (c := cU8) h16) ?_
    refine d_2 (.t (.d (.seq 1 (bytesD x15)))) (.t (.own 5 1 (bytesD x15))) rfl (dg0 rfl) rfl rfl rfl rfl rfl ?_
    refine d_nil (by kernel_rfl) ?_
    repeat (first | refine k1 ?_ | refine k2 ?_ | refine k3 ?_ | refine k4 ?_ | refine k5 ?_ | refine k6 ?_ | refine k7 rfl ?_)
    refine c_ret ?_
    repeat (first | refine k3 ?_ | refine k5 ?_)
    obtain rfl := Option.some.inj h
    exact end0 rfl (.refl _)
   ·
    refine c_f h8 rfl ?_
    refine c_skip ?_
    repeat (first | refine k1 ?_ | refine k4 ?_)
    refine c_sr ?_
    refine o_s (.ref 3 3) (g0 rfl) rfl rfl rfl ?_
    refine o_s (.t (.d (.seq 4 (List.map V.cells p1.l)))) (g0 rfl) rfl rfl rfl ?_
    refine o_c (g0 rfl) rfl rfl rfl (lenE _ _) trivial ?_
    obtain ⟨x17, h18, h⟩ := bind_some h
    refine o_ca (fc_word_Put _ _ _ h18) (g0 rfl) rfl rfl rfl rfl rfl rfl rfl (.cons (.refl _) (.cons (.refl _) .nil)) rfl rfl ?_
    refine o_s (.tup [.d (.seq 1 (bytesD x17.1)), .d (.lit (.int .i64 x17.2))]) (g0 rfl) rfl rfl rfl ?_
    refine o_s (.t (.d (.seq 1 (bytesD x17.1)))) (g0 rfl) rfl rfl rfl ?_
    refine o_s (.t (.d (.lit (.int .i64 x17.2)))) (g0 rfl) rfl rfl rfl ?_
    refine o_s (.t (.d (.seq 1 (bytesD x17.1)))) (g0 rfl) rfl rfl rfl ?_
    refine o_s (.t (.d (.lit (.int .i64 x17.2)))) (g0 rfl) rfl rfl rfl ?_
    refine o_nil ?_
    repeat (first | refine k1 ?_ | refine k4 ?_)
    refine c_sr ?_
    refine o_2 (.t (.d (.seq 1 (bytesD p0)))) (.t (.own 5 1 (bytesD p0))) (g0 rfl) rfl rfl rfl ?_
    refine o_s (.t (.own 5 1 (bytesD [3]))) (g0 rfl) rfl rfl rfl ?_
    obtain ⟨x19, h20, h⟩ := bind_some h
    refine o_2c (g0 rfl) rfl rfl rfl (appE (c := cU8) h20) (appC (c := cU8) h20) ?_
    refine o_s (.t (.d (.seq 1 (bytesD x17.1)))) (g0 rfl) rfl rfl rfl ?_
    obtain ⟨x21, h22, h⟩ := bind_some h
    refine o_2c (g0 rfl) rfl rfl rfl (appE (c := cU8) h22) (appC (c := cU8) h22) ?_
    refine o_2 (.t (.d (.seq 1 (bytesD x21)))) (.t (.own 5 1 (bytesD x21))) (g0 rfl) rfl rfl rfl ?_
    refine o_nil ?_
    repeat (first | refine k1 ?_ | refine k4 ?_)
    refine c_seq ?_
    refine c_sr ?_
    refine o_s (.ref 3 3) (g0 rfl) rfl rfl rfl ?_
    refine o_s (.t (.d (.seq 4 (List.map V.cells p1.l)))) (g0 rfl) rfl rfl rfl ?_
    refine o_c (g0 rfl) rfl rfl rfl (lenE _ _) trivial ?_
    refine o_s (.t (.d (.lit (.int .i64 0)))) (g0 rfl) rfl rfl rfl ?_
    refine o_nil ?_
    repeat (first | refine k1 ?_ | refine k4 ?_)
    refine c_block ?_
    refine c_fuel (fun (q : (List UInt8) × Int) => [(0, .t (.own 5 1 (bytesD q.1))), (57, .t (.d (.seq 4 (List.map V.cells p1.l)))), (58, .t (.d (.lit (.int .i64 (p1.l.length : Int))))), (59, .t (.d (.lit (.int .i64 q.2))))]) (fun nl1 => (fun (q : (List UInt8) × Int) => m_codec_put_l1 p1 (m_codec_put k0) nl1 q.1 q.2 = some r)) (p1.l.length + 1) (x21, 0) h ⟨(.refl _), ⟨(.refl _), ⟨(.refl _), ⟨(.refl _), trivial⟩⟩⟩⟩ rfl ?_
    rintro nl1 ⟨z23, z24⟩ h
    cases nl1 with
    | zero => exact none_ne h
    | succ nl1 =>
     refine c_sr ?_
     refine o_s (.t (.d (.lit (.bool (decide (z24 < (p1.l.length : Int))))))) (g0 rfl) rfl rfl rfl ?_
     refine o_nil ?_
     repeat (first | refine k1 ?_ | refine k4 ?_)
     refine c_seq ?_
     rcases bif_some h with ⟨h25, h⟩ | ⟨h25, h⟩
     ·
      refine c_t h25 rfl ?_
      refine c_skip ?_
      repeat (first | refine k1 ?_ | refine k4 ?_)
      refine c_seq ?_
      refine c_block ?_
      refine c_sr ?_
      obtain ⟨x26, h27, h⟩ := bind_some h
      refine o_c (g0 rfl) rfl rfl rfl (idxE' V.cells_eq h27) (idxC h27) ?_
      refine o_s (.t (.agg [.lit (.int .i64 x26.k), .lit (.int .i64 x26.n), .seq 1 (bytesD x26.b), .seq 4 (List.map V.cells x26.l)])) (g0 rfl) rfl rfl rfl ?_
      refine o_s (.box [.d (.lit (.int .i64 0)), .d (.lit (.int .i64 0)), .d (.lit (.slice none 0 0)), .d (.lit (.slice none 0 0))]) (g0 rfl) rfl rfl rfl ?_
      refine o_st (.box [.d (.lit (.int .i64 x26.k)), .d (.lit (.int .i64 x26.n)), .d (.seq 1 (bytesD x26.b)), .d (.seq 4 (List.map V.cells x26.l))]) (g0 rfl) rfl rfl rfl ?_
      refine o_nil ?_
      repeat (first | refine k1 ?_ | refine k4 ?_)
      refine c_region ?_
      refine o_2 (.t (.d (.seq 1 (bytesD z23)))) (.t (.own 5 1 (bytesD z23))) (g0 rfl) rfl rfl rfl ?_
      refine o_s (.t (.agg [.lit (.int .i64 x26.k), .lit (.int .i64 x26.n), .seq 1 (bytesD x26.b), .seq 4 (List.map V.cells x26.l)])) (g0 rfl) rfl rfl rfl ?_
      obtain ⟨x28, h29, h⟩ := bind_some h
      refine o_cm (s := 63) (i := 0) (.t (.d (.seq 1 (bytesD z23)))) (ih _ _ _ h29) (g0 rfl) rfl rfl rfl rfl rfl rfl rfl ⟨⟨rfl, .inl rfl⟩, (.cons (.refl _) .nil), rfl⟩ rfl rfl rfl ?_
      refine o_2 (.t (.d (.seq 1 (bytesD x28)))) (.t (.own 5 1 (bytesD x28))) (g0 rfl) rfl rfl rfl ?_
      refine o_nil ?_
      repeat (first | refine k1 ?_ | refine k4 ?_)
      refine c_region ?_
      refine o_s (.t (.d (.lit (.int .i64 (wi (z24 + 1)))))) (g0 rfl) rfl rfl rfl ?_
      refine o_s (.t (.d (.lit (.int .i64 (wi (z24 + 1)))))) (g0 rfl) rfl rfl rfl ?_
      refine o_nil ?_
      repeat (first | refine k1 ?_ | refine k4 ?_)
      exact ⟨nl1, (x28, (wi (z24 + 1))), Nat.lt_succ_self nl1, h, ⟨(.refl _), ⟨(.refl _), ⟨(.refl _), ⟨(.refl _), trivial⟩⟩⟩⟩, rfl⟩
     ·
      refine c_f h25 rfl ?_
      refine c_exit ?_
      repeat (first | refine k1 ?_ | refine k2 ?_ | refine k3 ?_ | refine k4 ?_ | refine k5 ?_ | refine k6 ?_ | refine k7 rfl ?_)
      refine c_sr ?_
      refine o_2 (.t (.d (.seq 1 (bytesD z23)))) (.t (.own 5 1 (bytesD z23))) (g0 rfl) rfl rfl rfl ?_
      refine o_2 (.t (.d (.seq 1 (bytesD z23)))) (.t (.own 5 1 (bytesD z23))) (g0 rfl) rfl rfl rfl ?_
      refine o_nil ?_
      repeat (first | refine k1 ?_ | refine k4 ?_)
      refine c_ret ?_
      repeat (first | refine k3 ?_ | refine k5 ?_)
      obtain rfl := Option.some.inj h
      exact end0 rfl (.refl _)

theorem fc_codec_put_n0 (p1 : V) (r : (List UInt8)) (h : m_codec_put_n0 p1 = some r) : FC Try.prog 46 [.t (.d (.lit (.slice none 0 0))), .t (.agg [.lit (.int .i64 p1.k), .lit (.int .i64 p1.n), .seq 1 (bytesD p1.b), .seq 4 (List.map V.cells p1.l)])] [] (.t (.own 5 1 (bytesD r))) := by
 refine fc_mk (rs := [.tmp 4]) (n := 68) Try.func46 rfl rfl (Nat.le_of_ble_eq_true rfl) rfl (pins := []) rfl (L := [(0, .t (.d (.lit (.slice none 0 0)))), (1, .t (.agg [.lit (.int .i64 p1.k), .lit (.int .i64 p1.n), .seq 1 (bytesD p1.b), .seq 4 (List.map V.cells p1.l)]))]) rfl ?_
 refine c_sr ?_
 refine o_s (.box [.d (.lit (.int .i64 p1.k)), .d (.lit (.int .i64 p1.n)), .d (.seq 1 (bytesD p1.b)), .d (.seq 4 (List.map V.cells p1.l))]) (g0 rfl) rfl rfl rfl ?_
 refine o_s (.t (.d (.lit (.slice none 0 0)))) (g0 rfl) rfl rfl rfl ?_
 refine o_nil ?_
 repeat (first | refine k1 ?_ | refine k4 ?_)
 refine c_seq ?_
 refine c_sr ?_
 refine o_s (.ref 3 0) (g0 rfl) rfl rfl rfl ?_
 refine o_s (.t (.d (.lit (.int .i64 p1.k)))) (g0 rfl) rfl rfl rfl ?_
 refine o_nil ?_
 repeat (first | refine k1 ?_ | refine k4 ?_)
 refine c_block ?_
 refine c_sr ?_
 refine o_s (.t (.d (.lit (.bool (p1.k == 1))))) (g0 rfl) rfl rfl rfl ?_
 refine o_s (.t (.d (.lit (.bool (p1.k == 1))))) (g0 rfl) rfl rfl rfl ?_
 refine o_nil ?_
 repeat (first | refine k1 ?_ | refine k4 ?_)
 rcases bif_some h with ⟨h1, h⟩ | ⟨h1, h⟩
 ·
  refine c_t h1 rfl ?_
  refine c_sr ?_
  refine o_s (.ref 3 1) (g0 rfl) rfl rfl rfl ?_
  refine o_s (.t (.d (.lit (.int .i64 p1.n)))) (g0 rfl) rfl rfl rfl ?_
  obtain ⟨x2, h3, h⟩ := bind_some h
  refine o_ca (fc_codec_plain _ _ h3) (g0 rfl) rfl rfl rfl rfl rfl rfl rfl (.cons (.refl _) .nil) rfl rfl ?_
  refine o_s (.t (.d (.seq 1 (bytesD x2)))) (g0 rfl) rfl rfl rfl ?_
  refine o_nil ?_
  repeat (first | refine k1 ?_ | refine k4 ?_)
  refine c_sr ?_
  refine o_s (.t (.d (.lit (.slice none 0 0)))) (g0 rfl) rfl rfl rfl ?_
  refine o_s (.t (.d (.seq 1 (bytesD x2)))) (g0 rfl) rfl rfl rfl ?_
  refine o_c (g0 rfl) rfl rfl rfl (lenE _ _) trivial ?_
  refine o_c (g0 rfl) rfl rfl rfl (congrArg (fun z => A.t (.d (.lit (.int .u8 z)))) (u8c _)) trivial ?_
  refine o_s (.t (.own 5 1 (bytesD [1, (U8 (x2.length : Int))]))) (g0 rfl) rfl rfl rfl ?_
  obtain ⟨x4, h5, h⟩ := bind_some h
  refine o_c (g0 rfl) rfl rfl rfl (appE0 (c := cU8) h5) (appC0 (c := cU8) h5) ?_
  refine o_s (.t (.d (.seq 1 (bytesD x2)))) (g0 rfl) rfl rfl rfl ?_
  obtain ⟨x6, h7, h⟩ := bind_some h
  refine o_2c (g0 rfl) rfl rfl rfl (appE (c := cU8) h7) (appC (c := cU8) h7) ?_
  refine o_2 (.t (.d (.seq 1 (bytesD x6)))) (.t (.own 5 1 (bytesD x6))) (g0 rfl) rfl rfl rfl ?_
  refine o_nil ?_
  repeat (first | refine k1 ?_ | refine k4 ?_)
  refine c_ret ?_
  repeat (first | refine k3 ?_ | refine k5 ?_)
  obtain rfl := Option.some.inj h
  exact end0 rfl (.refl _)
 ·
  refine c_f h1 rfl ?_
  refine c_sr ?_
  refine o_s (.t (.d (.lit (.bool (p1.k == 2))))) (g0 rfl) rfl rfl rfl ?_
  refine o_s (.t (.d (.lit (.bool (p1.k == 2))))) (g0 rfl) rfl rfl rfl ?_
  refine o_nil ?_
  repeat (first | refine k1 ?_ | refine k4 ?_)
  rcases bif_some h with ⟨h8, h⟩ | ⟨h8, h⟩
  ·
   refine c_t h8 rfl ?_
   refine c_sr ?_
   refine o_s (.ref 3 2) (g0 rfl) rfl rfl rfl ?_
   refine o_s (.t (.d (.seq 1 (bytesD p1.b)))) (g0 rfl) rfl rfl rfl ?_
   refine o_c (g0 rfl) rfl rfl rfl (lenE _ _) trivial ?_
   obtain ⟨x9, h10, h⟩ := bind_some h
   refine o_ca (fc_word_Put _ _ _ h10) (g0 rfl) rfl rfl rfl rfl rfl rfl rfl (.cons (.refl _) (.cons (.refl _) .nil)) rfl rfl ?_
   refine o_s (.tup [.d (.seq 1 (bytesD x9.1)), .d (.lit (.int .i64 x9.2))]) (g0 rfl) rfl rfl rfl ?_
   refine o_s (.t (.d (.seq 1 (bytesD x9.1)))) (g0 rfl) rfl rfl rfl ?_
   refine o_s (.t (.d (.lit (.int .i64 x9.2)))) (g0 rfl) rfl rfl rfl ?_
   refine o_s (.t (.d (.seq 1 (bytesD x9.1)))) (g0 rfl) rfl rfl rfl ?_
   refine o_s (.t (.d (.lit (.int .i64 x9.2)))) (g0 rfl) rfl rfl rfl ?_
   refine o_nil ?_
   repeat (first | refine k1 ?_ | refine k4 ?_)
   refine c_seq ?_
   refine c_draw mixed (by kernel_rfl) ?_
   refine d_s (.t (.d (.lit (.slice none 0 0)))) rfl (dg0 rfl) rfl rfl rfl rfl ?_
   refine d_s (.t (.own 5 1 (bytesD [2]))) rfl (dg0 rfl) rfl rfl rfl rfl ?_
   obtain ⟨x11, h12, h⟩ := bind_some h
   refine d_c rfl (dg0 rfl) rfl rfl rfl rfl (appE0 (c := cU8) h12) (appC0 (c := cU8) h12) ?_
   refine d_s (.t (.d (.seq 1 (bytesD x9.1)))) rfl (dg0 rfl) rfl rfl rfl rfl ?_
   obtain ⟨x13, h14, h⟩ := bind_some h
   refine d_2c rfl (dg0 rfl) rfl rfl rfl rfl rfl (appE (c := cU8) h14) (appC (c := cU8) h14) ?_
   refine d_s (.ref 3 2) rfl (dg0 rfl) rfl rfl rfl rfl ?_
   refine d_s (.t (.d (.seq 1 (bytesD p1.b)))) rfl (dg0 rfl) rfl rfl rfl rfl ?_
   obtain ⟨x15, h16, h⟩ := bind_some h
   refine d_2c rfl (dg0 rfl) rfl rfl rfl rfl rfl (appE (c := cU8) h16) (appC (c := cU8) h16) ?_
   refine d_2 (.t (.d (.seq 1 (bytesD x15)))) (.t (.own 5 1 (bytesD x15))) rfl (dg0 rfl) rfl rfl rfl rfl rfl ?_
   refine d_nil (by kernel_rfl) ?_
   repeat (first | refine k1 ?_ | refine k2 ?_ | refine k3 ?_ | refine k4 ?_ | refine k5 ?_ | refine k6 ?_ | refine k7 rfl ?_)
   refine c_ret ?_
   repeat (first | refine k3 ?_ | refine k5 ?_)
   obtain rfl := Option.some.inj h
   exact end0 rfl (.refl _)
  ·
   refine c_f h8 rfl ?_
   refine c_skip ?_
   repeat (first | refine k1 ?_ | refine k4 ?_)
   refine c_sr ?_
   refine o_s (.ref 3 3) (g0 rfl) rfl rfl rfl ?_
   refine o_s (.t (.d (.seq 4 (List.map V.cells p1.l)))) (g0 rfl) rfl rfl rfl ?_
   refine o_c (g0 rfl) rfl rfl rfl (lenE _ _) trivial ?_
   obtain ⟨x17, h18, h⟩ := bind_some h
   refine o_ca (fc_word_Put _ _ _ h18) (g0 rfl) rfl rfl rfl rfl rfl rfl rfl (.cons (.refl _) (.cons (.refl _) .nil)) rfl rfl ?_
   refine o_s (.tup [.d (.seq 1 (bytesD x17.1)), .d (.lit (.int .i64 x17.2))]) (g0 rfl) rfl rfl rfl ?_
   refine o_s (.t (.d (.seq 1 (bytesD x17.1)))) (g0 rfl) rfl rfl rfl ?_
   refine o_s (.t (.d (.lit (.int .i64 x17.2)))) (g0 rfl) rfl rfl rfl ?_
   refine o_s (.t (.d (.seq 1 (bytesD x17.1)))) (g0 rfl) rfl rfl rfl ?_
   refine o_s (.t (.d (.lit (.int .i64 x17.2)))) (g0 rfl) rfl rfl rfl ?_
   refine o_nil ?_
   repeat (first | refine k1 ?_ | refine k4 ?_)
   refine c_sr ?_
   refine o_s (.t (.d (.lit (.slice none 0 0)))) (g0 rfl) rfl rfl rfl ?_
   refine o_s (.t (.own 5 1 (bytesD [3]))) (g0 rfl) rfl rfl rfl ?_
   obtain ⟨x19, h20, h⟩ := bind_some h
   refine o_c (g0 rfl) rfl rfl rfl (appE0 (c := cU8) h20) (appC0 (c := cU8) h20) ?_
   refine o_s (.t (.d (.seq 1 (bytesD x17.1)))) (g0 rfl) rfl rfl rfl ?_
   obtain ⟨x21, h22, h⟩ := bind_some h
   refine o_2c (g0 rfl) rfl rfl rfl (appE (c := cU8) h22) (appC (c := cU8) h22) ?_
   refine o_2 (.t (.d (.seq 1 (bytesD x21)))) (.t (.own 5 1 (bytesD x21))) (g0 rfl) rfl rfl rfl ?_
   refine o_nil ?_
   repeat (first | refine k1 ?_ | refine k4 ?_)
   refine c_seq ?_
   refine c_sr ?_
   refine o_s (.ref 3 3) (g0 rfl) rfl rfl rfl ?_
   refine o_s (.t (.d (.seq 4 (List.map V.cells p1.l)))) (g0 rfl) rfl rfl rfl ?_
   refine o_c (g0 rfl) rfl rfl rfl (lenE _ _) trivial ?_
   refine o_s (.t (.d (.lit (.int .i64 0)))) (g0 rfl) rfl rfl rfl ?_
   refine o_nil ?_
   repeat (first | refine k1 ?_ | refine k4 ?_)
   refine c_block ?_
   refine c_fuel (fun (q : (List UInt8) × Int) => [(0, .t (.own 5 1 (bytesD q.1))), (57, .t (.d (.seq 4 (List.map V.cells p1.l)))), (58, .t (.d (.lit (.int .i64 (p1.l.length : Int))))), (59, .t (.d (.lit (.int .i64 q.2))))]) (fun nl1 => (fun (q : (List UInt8) × Int) => m_codec_put_n0_l1 p1 nl1 q.1 q.2 = some r)) (p1.l.length + 1) (x21, 0) h ⟨(.refl _), ⟨(.refl _), ⟨(.refl _), ⟨(.refl _), trivial⟩⟩⟩⟩ rfl ?_
   rintro nl1 ⟨z23, z24⟩ h
   cases nl1 with
   | zero => exact none_ne h
   | succ nl1 =>
    refine c_sr ?_
    refine o_s (.t (.d (.lit (.bool (decide (z24 < (p1.l.length : Int))))))) (g0 rfl) rfl rfl rfl ?_
    refine o_nil ?_
    repeat (first | refine k1 ?_ | refine k4 ?_)
    refine c_seq ?_
    rcases bif_some h with ⟨h25, h⟩ | ⟨h25, h⟩
    ·
     refine c_t h25 rfl ?_
     refine c_skip ?_
     repeat (first | refine k1 ?_ | refine k4 ?_)
     refine c_seq ?_
     refine c_block ?_
     refine c_sr ?_
     obtain ⟨x26, h27, h⟩ := bind_some h
     refine o_c (g0 rfl) rfl rfl rfl (idxE' V.cells_eq h27) (idxC h27) ?_
     refine o_s (.t (.agg [.lit (.int .i64 x26.k), .lit (.int .i64 x26.n), .seq 1 (bytesD x26.b), .seq 4 (List.map V.cells x26.l)])) (g0 rfl) rfl rfl rfl ?_
     refine o_s (.box [.d (.lit (.int .i64 0)), .d (.lit (.int .i64 0)), .d (.lit (.slice none 0 0)), .d (.lit (.slice none 0 0))]) (g0 rfl) rfl rfl rfl ?_
     refine o_st (.box [.d (.lit (.int .i64 x26.k)), .d (.lit (.int .i64 x26.n)), .d (.seq 1 (bytesD x26.b)), .d (.seq 4 (List.map V.cells x26.l))]) (g0 rfl) rfl rfl rfl ?_
     refine o_nil ?_
     repeat (first | refine k1 ?_ | refine k4 ?_)
     refine c_region ?_
     refine o_2 (.t (.d (.seq 1 (bytesD z23)))) (.t (.own 5 1 (bytesD z23))) (g0 rfl) rfl rfl rfl ?_
     refine o_s (.t (.agg [.lit (.int .i64 x26.k), .lit (.int .i64 x26.n), .seq 1 (bytesD x26.b), .seq 4 (List.map V.cells x26.l)])) (g0 rfl) rfl rfl rfl ?_
     obtain ⟨x28, h29, h⟩ := bind_some h
     refine o_cm (s := 63) (i := 0) (.t (.d (.seq 1 (bytesD z23)))) (fc_codec_put _ _ _ _ h29) (g0 rfl) rfl rfl rfl rfl rfl rfl rfl ⟨⟨rfl, .inl rfl⟩, (.cons (.refl _) .nil), rfl⟩ rfl rfl rfl ?_
     refine o_2 (.t (.d (.seq 1 (bytesD x28)))) (.t (.own 5 1 (bytesD x28))) (g0 rfl) rfl rfl rfl ?_
     refine o_nil ?_
     repeat (first | refine k1 ?_ | refine k4 ?_)
     refine c_region ?_
     refine o_s (.t (.d (.lit (.int .i64 (wi (z24 + 1)))))) (g0 rfl) rfl rfl rfl ?_
     refine o_s (.t (.d (.lit (.int .i64 (wi (z24 + 1)))))) (g0 rfl) rfl rfl rfl ?_
     refine o_nil ?_
     repeat (first | refine k1 ?_ | refine k4 ?_)
     exact ⟨nl1, (x28, (wi (z24 + 1))), Nat.lt_succ_self nl1, h, ⟨(.refl _), ⟨(.refl _), ⟨(.refl _), ⟨(.refl _), trivial⟩⟩⟩⟩, rfl⟩
    ·
     refine c_f h25 rfl ?_
     refine c_exit ?_
     repeat (first | refine k1 ?_ | refine k2 ?_ | refine k3 ?_ | refine k4 ?_ | refine k5 ?_ | refine k6 ?_ | refine k7 rfl ?_)
     refine c_sr ?_
     refine o_2 (.t (.d (.seq 1 (bytesD z23)))) (.t (.own 5 1 (bytesD z23))) (g0 rfl) rfl rfl rfl ?_
     refine o_2 (.t (.d (.seq 1 (bytesD z23)))) (.t (.own 5 1 (bytesD z23))) (g0 rfl) rfl rfl rfl ?_
     refine o_nil ?_
     repeat (first | refine k1 ?_ | refine k4 ?_)
     refine c_ret ?_
     repeat (first | refine k3 ?_ | refine k5 ?_)
     obtain rfl := Option.some.inj h
     exact end0 rfl (.refl _)

theorem fc_codec_Encode (p0 : V) (r : ((List UInt8) × Int)) (h : m_codec_Encode p0 = some r) : FC Try.prog 25 [.t (.agg [.lit (.int .i64 p0.k), .lit (.int .i64 p0.n), .seq 1 (bytesD p0.b), .seq 4 (List.map V.cells p0.l)])] [] (.tup [.d (.seq 1 (bytesD r.1)), .d (.lit (.int .i64 r.2))]) := by
 refine fc_mk (rs := [.tmp 2, .tmp 3]) (n := 15) Try.func25 rfl rfl (Nat.le_of_ble_eq_true rfl) rfl (pins := []) rfl (L := [(0, .t (.agg [.lit (.int .i64 p0.k), .lit (.int .i64 p0.n), .seq 1 (bytesD p0.b), .seq 4 (List.map V.cells p0.l)]))]) rfl ?_
 refine c_sr ?_
 refine o_s (.box [.d (.lit (.int .i64 p0.k)), .d (.lit (.int .i64 p0.n)), .d (.seq 1 (bytesD p0.b)), .d (.seq 4 (List.map V.cells p0.l))]) (g0 rfl) rfl rfl rfl ?_
 refine o_s (.t (.d (.lit (.slice none 0 0)))) (g0 rfl) rfl rfl rfl ?_
 refine o_s (.t (.d (.lit (.int .i64 0)))) (g0 rfl) rfl rfl rfl ?_
 refine o_nil ?_
 repeat (first | refine k1 ?_ | refine k4 ?_)
 refine c_seq ?_
 refine c_sr ?_
 refine o_s (.t (.agg [.lit (.int .i64 p0.k), .lit (.int .i64 p0.n), .seq 1 (bytesD p0.b), .seq 4 (List.map V.cells p0.l)])) (g0 rfl) rfl rfl rfl ?_
 obtain ⟨x1, h2, h⟩ := bind_some h
 refine o_ca (fc_codec_Size _ _ h2) (g0 rfl) rfl rfl rfl rfl rfl rfl rfl (.cons (.refl _) .nil) rfl rfl ?_
 refine o_s (.tup [.d (.lit (.int .i64 x1.1)), .d (.lit (.bool x1.2))]) (g0 rfl) rfl rfl rfl ?_
 refine o_s (.t (.d (.lit (.int .i64 x1.1)))) (g0 rfl) rfl rfl rfl ?_
 refine o_s (.t (.d (.lit (.bool x1.2)))) (g0 rfl) rfl rfl rfl ?_
 refine o_s (.t (.d (.lit (.int .i64 x1.1)))) (g0 rfl) rfl rfl rfl ?_
 refine o_s (.t (.d (.lit (.bool x1.2)))) (g0 rfl) rfl rfl rfl ?_
 refine o_nil ?_
 repeat (first | refine k1 ?_ | refine k4 ?_)
 refine c_sr ?_
 refine o_s (.t (.d (.lit (.bool x1.2)))) (g0 rfl) rfl rfl rfl ?_
 refine o_s (.t (.d (.lit (.bool (!x1.2))))) (g0 rfl) rfl rfl rfl ?_
 refine o_nil ?_
 repeat (first | refine k1 ?_ | refine k4 ?_)
 rcases bif_some h with ⟨h3, h⟩ | ⟨h3, h⟩
 ·
  refine c_t h3 rfl ?_
  refine c_sr ?_
  refine o_s (.t (.d (.lit (.slice none 0 0)))) (g0 rfl) rfl rfl rfl ?_
  refine o_s (.t (.d (.lit (.int .i64 2)))) (g0 rfl) rfl rfl rfl ?_
  refine o_nil ?_
  repeat (first | refine k1 ?_ | refine k4 ?_)
  refine c_ret ?_
  repeat (first | refine k3 ?_ | refine k5 ?_)
  obtain rfl := Option.some.inj h
  exact end0 rfl (.tup (.cons (.d (.nil _)) (.cons (.refl _) .nil)))
 ·
  refine c_f h3 rfl ?_
  refine c_skip ?_
  repeat (first | refine k1 ?_ | refine k4 ?_)
  refine c_sr ?_
  refine o_s (.t (.agg [.lit (.int .i64 p0.k), .lit (.int .i64 p0.n), .seq 1 (bytesD p0.b), .seq 4 (List.map V.cells p0.l)])) (g0 rfl) rfl rfl rfl ?_
  obtain ⟨x4, h5, h⟩ := bind_some h
  refine o_ca (fc_codec_put_n0 _ _ h5) (g0 rfl) rfl rfl rfl rfl rfl rfl rfl (.cons (.refl _) (.cons (.refl _) .nil)) rfl rfl ?_
  refine o_2 (.t (.d (.seq 1 (bytesD x4)))) (.t (.own 5 1 (bytesD x4))) (g0 rfl) rfl rfl rfl ?_
  refine o_s (.t (.d (.lit (.int .i64 0)))) (g0 rfl) rfl rfl rfl ?_
  refine o_nil ?_
  repeat (first | refine k1 ?_ | refine k4 ?_)
  refine c_ret ?_
  repeat (first | refine k3 ?_ | refine k5 ?_)
  obtain rfl := Option.some.inj h
  exact end0 rfl (.tup (.cons (.refl _) (.cons (.refl _) .nil)))

theorem fc_codec_Num (p0 : Int) (r : V) (h : m_codec_Num p0 = some r) : FC Try.prog 24 [.t (.d (.lit (.int .i64 p0)))] [] (.t (.agg [.lit (.int .i64 r.k), .lit (.int .i64 r.n), .lit (.slice none 0 0), .lit (.slice none 0 0)])) := by
 refine fc_mk (rs := [.cell 2 49]) (n := 5) Try.func24 rfl rfl (Nat.le_of_ble_eq_true rfl) rfl (pins := []) rfl (L := [(0, .t (.d (.lit (.int .i64 p0))))]) rfl ?_
 refine c_sr ?_
 refine o_s (.box [.d (.lit (.int .i64 0)), .d (.lit (.int .i64 0)), .d (.lit (.slice none 0 0)), .d (.lit (.slice none 0 0))]) (g0 rfl) rfl rfl rfl ?_
 refine o_nil ?_
 repeat (first | refine k1 ?_ | refine k4 ?_)
 refine c_sr ?_
 refine o_s (.t (.d (.lit (.int .i64 p0)))) (g0 rfl) rfl rfl rfl ?_
 refine o_s (.t (.agg [.lit (.int .i64 1), .lit (.int .i64 p0), .lit (.slice none 0 0), .lit (.slice none 0 0)])) (g0 rfl) rfl rfl rfl ?_
 refine o_st (.box [.d (.lit (.int .i64 1)), .d (.lit (.int .i64 p0)), .d (.lit (.slice none 0 0)), .d (.lit (.slice none 0 0))]) (g0 rfl) rfl rfl rfl ?_
 refine o_nil ?_
 repeat (first | refine k1 ?_ | refine k4 ?_)
 refine c_ret ?_
 repeat (first | refine k3 ?_ | refine k5 ?_)
 obtain rfl := Option.some.inj h
 exact end0 rfl (.refl _)

theorem fc_codec_Of (p0 : (List V)) (r : V) (h : m_codec_Of p0 = some r) : FC Try.prog 22 [.t (.d (.seq 4 (List.map V.cells p0)))] [] (.t (.agg [.lit (.int .i64 r.k), .lit (.int .i64 r.n), .lit (.slice none 0 0), .seq 4 (List.map V.cells r.l)])) := by
 refine fc_mk (rs := [.cell 2 49]) (n := 5) Try.func22 rfl rfl (Nat.le_of_ble_eq_true rfl) rfl (pins := []) rfl (L := [(0, .t (.d (.seq 4 (List.map V.cells p0))))]) rfl ?_
 refine c_sr ?_
 refine o_s (.box [.d (.lit (.int .i64 0)), .d (.lit (.int .i64 0)), .d (.lit (.slice none 0 0)), .d (.lit (.slice none 0 0))]) (g0 rfl) rfl rfl rfl ?_
 refine o_nil ?_
 repeat (first | refine k1 ?_ | refine k4 ?_)
 refine c_sr ?_
 refine o_s (.t (.d (.seq 4 (List.map V.cells p0)))) (g0 rfl) rfl rfl rfl ?_
 refine o_s (.t (.agg [.lit (.int .i64 3), .lit (.int .i64 0), .lit (.slice none 0 0), .seq 4 (List.map V.cells p0)])) (g0 rfl) rfl rfl rfl ?_
 refine o_st (.box [.d (.lit (.int .i64 3)), .d (.lit (.int .i64 0)), .d (.lit (.slice none 0 0)), .d (.seq 4 (List.map V.cells p0))]) (g0 rfl) rfl rfl rfl ?_
 refine o_nil ?_
 repeat (first | refine k1 ?_ | refine k4 ?_)
 refine c_ret ?_
 repeat (first | refine k3 ?_ | refine k5 ?_)
 obtain rfl := Option.some.inj h
 exact end0 rfl (.refl _)

theorem fc_codec_Raw (p0 : (List UInt8)) (r : V) (h : m_codec_Raw p0 = some r) : FC Try.prog 26 [.t (.d (.seq 1 (bytesD p0)))] [] (.t (.agg [.lit (.int .i64 r.k), .lit (.int .i64 r.n), .seq 1 (bytesD r.b), .lit (.slice none 0 0)])) := by
 refine fc_mk (rs := [.cell 2 49]) (n := 5) Try.func26 rfl rfl (Nat.le_of_ble_eq_true rfl) rfl (pins := []) rfl (L := [(0, .t (.d (.seq 1 (bytesD p0))))]) rfl ?_
 refine c_sr ?_
 refine o_s (.box [.d (.lit (.int .i64 0)), .d (.lit (.int .i64 0)), .d (.lit (.slice none 0 0)), .d (.lit (.slice none 0 0))]) (g0 rfl) rfl rfl rfl ?_
 refine o_nil ?_
 repeat (first | refine k1 ?_ | refine k4 ?_)
 refine c_sr ?_
 refine o_s (.t (.d (.seq 1 (bytesD p0)))) (g0 rfl) rfl rfl rfl ?_
 refine o_s (.t (.agg [.lit (.int .i64 2), .lit (.int .i64 0), .seq 1 (bytesD p0), .lit (.slice none 0 0)])) (g0 rfl) rfl rfl rfl ?_
 refine o_st (.box [.d (.lit (.int .i64 2)), .d (.lit (.int .i64 0)), .d (.seq 1 (bytesD p0)), .d (.lit (.slice none 0 0))]) (g0 rfl) rfl rfl rfl ?_
 refine o_nil ?_
 repeat (first | refine k1 ?_ | refine k4 ?_)
 refine c_ret ?_
 repeat (first | refine k3 ?_ | refine k5 ?_)
 obtain rfl := Option.some.inj h
 exact end0 rfl (.refl _)

theorem fc_R01_Same (p0 : (List UInt8)) (p1 : (List UInt8)) (r : Bool) (h : m_R01_Same p0 p1 = some r) : FC Try.prog 11 [.t (.d (.seq 1 (bytesD p0))), .t (.d (.seq 1 (bytesD p1)))] [] (.t (.d (.lit (.bool r)))) := by
 refine fc_mk (rs := [.tmp 4]) (n := 26) Try.func11 rfl rfl (Nat.le_of_ble_eq_true rfl) rfl (pins := []) rfl (L := [(0, .t (.d (.seq 1 (bytesD p0)))), (1, .t (.d (.seq 1 (bytesD p1))))]) rfl ?_
 refine c_sr ?_
 refine o_s (.t (.d (.lit (.bool false)))) (g0 rfl) rfl rfl rfl ?_
 refine o_nil ?_
 repeat (first | refine k1 ?_ | refine k4 ?_)
 refine c_seq ?_
 refine c_sr ?_
 refine o_s (.t (.d (.seq 1 (bytesD p0)))) (g0 rfl) rfl rfl rfl ?_
 refine o_c (g0 rfl) rfl rfl rfl (lenE _ _) trivial ?_
 refine o_s (.t (.d (.seq 1 (bytesD p1)))) (g0 rfl) rfl rfl rfl ?_
 refine o_c (g0 rfl) rfl rfl rfl (lenE _ _) trivial ?_
 refine o_s (.t (.d (.lit (.bool ((p0.length : Int) != (p1.length : Int)))))) (g0 rfl) rfl rfl rfl ?_
 refine o_nil ?_
 repeat (first | refine k1 ?_ | refine k4 ?_)
 rcases bif_some h with ⟨h1, h⟩ | ⟨h1, h⟩
 ·
  refine c_t h1 rfl ?_
  refine c_sr ?_
  refine o_s (.t (.d (.lit (.bool false)))) (g0 rfl) rfl rfl rfl ?_
  refine o_nil ?_
  repeat (first | refine k1 ?_ | refine k4 ?_)
  refine c_ret ?_
  repeat (first | refine k3 ?_ | refine k5 ?_)
  obtain rfl := Option.some.inj h
  exact end0 rfl (.refl _)
 ·
  refine c_f h1 rfl ?_
  refine c_skip ?_
  repeat (first | refine k1 ?_ | refine k4 ?_)
  refine c_seq ?_
  refine c_sr ?_
  refine o_s (.t (.d (.lit (.int .i64 0)))) (g0 rfl) rfl rfl rfl ?_
  refine o_nil ?_
  repeat (first | refine k1 ?_ | refine k4 ?_)
  refine c_block ?_
  refine c_fuel (fun (z2 : Int) => [(0, .t (.d (.seq 1 (bytesD p0)))), (1, .t (.d (.seq 1 (bytesD p1)))), (5, .t (.d (.lit (.int .i64 z2))))]) (fun nl1 => (fun (z2 : Int) => m_R01_Same_l1 p0 p1 nl1 z2 = some r)) (p0.length + 1) 0 h ⟨(.refl _), ⟨(.refl _), ⟨(.refl _), trivial⟩⟩⟩ rfl ?_
  rintro nl1 z2 h
  cases nl1 with
  | zero => exact none_ne h
  | succ nl1 =>
   refine c_seq ?_
   refine c_sr ?_
   refine o_s (.t (.d (.lit (.int .i64 z2)))) (g0 rfl) rfl rfl rfl ?_
   refine o_s (.t (.d (.seq 1 (bytesD p0)))) (g0 rfl) rfl rfl rfl ?_
   refine o_c (g0 rfl) rfl rfl rfl (lenE _ _) trivial ?_
   refine o_s (.t (.d (.lit (.bool (decide (z2 < (p0.length : Int))))))) (g0 rfl) rfl rfl rfl ?_
   refine o_nil ?_
   repeat (first | refine k1 ?_ | refine k4 ?_)
   rcases bif_some h with ⟨h3, h⟩ | ⟨h3, h⟩
   ·
    refine c_t h3 rfl ?_
    refine c_skip ?_
    repeat (first | refine k1 ?_ | refine k4 ?_)
    refine c_seq ?_
    refine c_block ?_
    refine c_seq ?_
    refine c_draw mixed (by kernel_rfl) ?_
    refine d_s (.t (.d (.seq 1 (bytesD p0)))) rfl (dg0 rfl) rfl rfl rfl rfl ?_
    refine d_s (.t (.d (.lit (.int .i64 z2)))) rfl (dg0 rfl) rfl rfl rfl rfl ?_
    obtain ⟨x4, h5, h⟩ := bind_some h
    refine d_c rfl (dg0 rfl) rfl rfl rfl rfl (idxE h5) (idxC h5) ?_
    refine d_s (.t (.d (.lit (.int .u8 (x4.toNat : Int))))) rfl (dg0 rfl) rfl rfl rfl rfl ?_
    refine d_s (.t (.d (.seq 1 (bytesD p1)))) rfl (dg0 rfl) rfl rfl rfl rfl ?_
    refine d_s (.t (.d (.lit (.int .i64 z2)))) rfl (dg0 rfl) rfl rfl rfl rfl ?_
    obtain ⟨x6, h7, h⟩ := bind_some h
    refine d_c rfl (dg0 rfl) rfl rfl rfl rfl (idxE h7) (idxC h7) ?_
    refine d_s (.t (.d (.lit (.int .u8 (x6.toNat : Int))))) rfl (dg0 rfl) rfl rfl rfl rfl ?_
    refine d_s (.t (.d (.lit (.bool ((x4.toNat : Int) != (x6.toNat : Int)))))) rfl (dg0 rfl) rfl rfl rfl rfl ?_
    refine d_nil (by kernel_rfl) ?_
    repeat (first | refine k1 ?_ | refine k2 ?_ | refine k3 ?_ | refine k4 ?_ | refine k5 ?_ | refine k6 ?_ | refine k7 rfl ?_)
    rcases bif_some h with ⟨h8, h⟩ | ⟨h8, h⟩
    ·
     refine c_t h8 rfl ?_
     refine c_sr ?_
     refine o_s (.t (.d (.lit (.bool false)))) (g0 rfl) rfl rfl rfl ?_
     refine o_nil ?_
     repeat (first | refine k1 ?_ | refine k4 ?_)
     refine c_ret ?_
     repeat (first | refine k3 ?_ | refine k5 ?_)
     obtain rfl := Option.some.inj h
     exact end0 rfl (.refl _)
    ·
     refine c_f h8 rfl ?_
     refine c_skip ?_
     repeat (first | refine k1 ?_ | refine k4 ?_)
     refine c_region ?_
     refine o_s (.t (.d (.lit (.int .i64 z2)))) (g0 rfl) rfl rfl rfl ?_
     refine o_s (.t (.d (.lit (.int .i64 (wi (z2 + 1)))))) (g0 rfl) rfl rfl rfl ?_
     refine o_s (.t (.d (.lit (.int .i64 (wi (z2 + 1)))))) (g0 rfl) rfl rfl rfl ?_
     refine o_nil ?_
     repeat (first | refine k1 ?_ | refine k4 ?_)
     exact ⟨nl1, (wi (z2 + 1)), Nat.lt_succ_self nl1, h, ⟨(.refl _), ⟨(.refl _), ⟨(.refl _), trivial⟩⟩⟩, rfl⟩
   ·
    refine c_f h3 rfl ?_
    refine c_exit ?_
    repeat (first | refine k1 ?_ | refine k2 ?_ | refine k3 ?_ | refine k4 ?_ | refine k5 ?_ | refine k6 ?_ | refine k7 rfl ?_)
    refine c_sr ?_
    refine o_s (.t (.d (.lit (.bool true)))) (g0 rfl) rfl rfl rfl ?_
    refine o_nil ?_
    repeat (first | refine k1 ?_ | refine k4 ?_)
    refine c_ret ?_
    repeat (first | refine k3 ?_ | refine k5 ?_)
    obtain rfl := Option.some.inj h
    exact end0 rfl (.refl _)

theorem fc_R01_Low (p0 : Int) (p1 : Int) (r : ((List UInt8) × Int)) (h : m_R01_Low p0 p1 = some r) : FC Try.prog 62 [.t (.d (.lit (.int .i64 p0))), .t (.d (.lit (.int .i64 p1)))] [] (.tup [.d (.seq 1 (bytesD r.1)), .d (.lit (.int .i64 r.2))]) := by
 refine fc_mk (rs := [.tmp 4, .tmp 5]) (n := 38) Try.func62 rfl rfl (Nat.le_of_ble_eq_true rfl) rfl (pins := []) rfl (L := [(0, .t (.d (.lit (.int .i64 p0)))), (1, .t (.d (.lit (.int .i64 p1))))]) rfl ?_
 refine c_sr ?_
 refine o_s (.t (.d (.lit (.slice none 0 0)))) (g0 rfl) rfl rfl rfl ?_
 refine o_s (.t (.d (.lit (.int .i64 0)))) (g0 rfl) rfl rfl rfl ?_
 refine o_nil ?_
 repeat (first | refine k1 ?_ | refine k4 ?_)
 refine c_seq ?_
 refine c_sr ?_
 refine o_s (.t (.d (.lit (.int .i64 p1)))) (g0 rfl) rfl rfl rfl ?_
 refine o_s (.t (.d (.lit (.bool (decide (p1 < 1)))))) (g0 rfl) rfl rfl rfl ?_
 refine o_s (.t (.d (.lit (.bool (decide (p1 < 1)))))) (g0 rfl) rfl rfl rfl ?_
 rcases bif_some h with ⟨h1, h⟩ | ⟨h1, h⟩
 ·
  refine o_skip rfl rfl rfl h1 rfl rfl ?_
  refine o_skip rfl rfl rfl h1 rfl rfl ?_
  refine o_pk (.t (.d (.lit (.bool true)))) (b := true) h1 (g0 rfl) rfl rfl rfl rfl rfl ?_
  refine o_s (.t (.d (.lit (.bool true)))) (g0 rfl) rfl rfl rfl ?_
  refine o_skip rfl rfl rfl rfl rfl rfl ?_
  refine o_skip rfl rfl rfl rfl rfl rfl ?_
  refine o_pk (.t (.d (.lit (.bool true)))) (b := true) rfl (g0 rfl) rfl rfl rfl rfl rfl ?_
  refine o_s (.t (.d (.lit (.bool true)))) (g0 rfl) rfl rfl rfl ?_
  refine o_skip rfl rfl rfl rfl rfl rfl ?_
  refine o_skip rfl rfl rfl rfl rfl rfl ?_
  refine o_pk (.t (.d (.lit (.bool true)))) (b := true) rfl (g0 rfl) rfl rfl rfl rfl rfl ?_
  refine o_nil ?_
  repeat (first | refine k1 ?_ | refine k4 ?_)
  refine c_t rfl rfl ?_
  refine c_sr ?_
  refine o_s (.t (.d (.lit (.slice none 0 0)))) (g0 rfl) rfl rfl rfl ?_
  refine o_s (.t (.d (.lit (.int .i64 2)))) (g0 rfl) rfl rfl rfl ?_
  refine o_nil ?_
  repeat (first | refine k1 ?_ | refine k4 ?_)
  refine c_ret ?_
  repeat (first | refine k3 ?_ | refine k5 ?_)
  obtain rfl := Option.some.inj h
  exact end0 rfl (.tup (.cons (.d (.nil _)) (.cons (.refl _) .nil)))
 ·
  refine o_s (.t (.d (.lit (.int .i64 p1)))) (gy rfl rfl rfl h1) rfl rfl rfl ?_
  refine o_s (.t (.d (.lit (.bool (decide (p1 > 8)))))) (gy rfl rfl rfl h1) rfl rfl rfl ?_
  refine o_pk (.t (.d (.lit (.bool (decide (p1 > 8)))))) (b := false) h1 (g0 rfl) rfl rfl rfl rfl rfl ?_
  refine o_s (.t (.d (.lit (.bool (decide (p1 > 8)))))) (g0 rfl) rfl rfl rfl ?_
  rcases bif_some h with ⟨h2, h⟩ | ⟨h2, h⟩
  ·
   refine o_skip rfl rfl rfl h2 rfl rfl ?_
   refine o_skip rfl rfl rfl h2 rfl rfl ?_
   refine o_pk (.t (.d (.lit (.bool true)))) (b := true) h2 (g0 rfl) rfl rfl rfl rfl rfl ?_
   refine o_s (.t (.d (.lit (.bool true)))) (g0 rfl) rfl rfl rfl ?_
   refine o_skip rfl rfl rfl rfl rfl rfl ?_
   refine o_skip rfl rfl rfl rfl rfl rfl ?_
   refine o_pk (.t (.d (.lit (.bool true)))) (b := true) rfl (g0 rfl) rfl rfl rfl rfl rfl ?_
   refine o_nil ?_
   repeat (first | refine k1 ?_ | refine k4 ?_)
   refine c_t rfl rfl ?_
   refine c_sr ?_
   refine o_s (.t (.d (.lit (.slice none 0 0)))) (g0 rfl) rfl rfl rfl ?_
   refine o_s (.t (.d (.lit (.int .i64 2)))) (g0 rfl) rfl rfl rfl ?_
   refine o_nil ?_
   repeat (first | refine k1 ?_ | refine k4 ?_)
   refine c_ret ?_
   repeat (first | refine k3 ?_ | refine k5 ?_)
   obtain rfl := Option.some.inj h
   exact end0 rfl (.tup (.cons (.d (.nil _)) (.cons (.refl _) .nil)))
  ·
   refine o_s (.t (.d (.lit (.int .i64 p0)))) (gy rfl rfl rfl h2) rfl rfl rfl ?_
   refine o_s (.t (.d (.lit (.bool (decide (p0 < 0)))))) (gy rfl rfl rfl h2) rfl rfl rfl ?_
   refine o_pk (.t (.d (.lit (.bool (decide (p0 < 0)))))) (b := false) h2 (g0 rfl) rfl rfl rfl rfl rfl ?_
   refine o_s (.t (.d (.lit (.bool (decide (p0 < 0)))))) (g0 rfl) rfl rfl rfl ?_
   rcases bif_some h with ⟨h3, h⟩ | ⟨h3, h⟩
   ·
    refine o_skip rfl rfl rfl h3 rfl rfl ?_
    refine o_skip rfl rfl rfl h3 rfl rfl ?_
    refine o_pk (.t (.d (.lit (.bool true)))) (b := true) h3 (g0 rfl) rfl rfl rfl rfl rfl ?_
    refine o_nil ?_
    repeat (first | refine k1 ?_ | refine k4 ?_)
    refine c_t rfl rfl ?_
    refine c_sr ?_
    refine o_s (.t (.d (.lit (.slice none 0 0)))) (g0 rfl) rfl rfl rfl ?_
    refine o_s (.t (.d (.lit (.int .i64 2)))) (g0 rfl) rfl rfl rfl ?_
    refine o_nil ?_
    repeat (first | refine k1 ?_ | refine k4 ?_)
    refine c_ret ?_
    repeat (first | refine k3 ?_ | refine k5 ?_)
    obtain rfl := Option.some.inj h
    exact end0 rfl (.tup (.cons (.d (.nil _)) (.cons (.refl _) .nil)))
   ·
    refine o_s (.t (.d (.lit (.int .i64 p0)))) (gy rfl rfl rfl h3) rfl rfl rfl ?_
    refine o_s (.t (.d (.lit (.bool (decide (p0 > 4611686018427387904)))))) (gy rfl rfl rfl h3) rfl rfl rfl ?_
    refine o_pk (.t (.d (.lit (.bool (decide (p0 > 4611686018427387904)))))) (b := false) h3 (g0 rfl) rfl rfl rfl rfl rfl ?_
    refine o_nil ?_
    repeat (first | refine k1 ?_ | refine k4 ?_)
    rcases bif_some h with ⟨h4, h⟩ | ⟨h4, h⟩
    ·
     refine c_t h4 rfl ?_
     refine c_sr ?_
     refine o_s (.t (.d (.lit (.slice none 0 0)))) (g0 rfl) rfl rfl rfl ?_
     refine o_s (.t (.d (.lit (.int .i64 2)))) (g0 rfl) rfl rfl rfl ?_
     refine o_nil ?_
     repeat (first | refine k1 ?_ | refine k4 ?_)
     refine c_ret ?_
     repeat (first | refine k3 ?_ | refine k5 ?_)
     obtain rfl := Option.some.inj h
     exact end0 rfl (.tup (.cons (.d (.nil _)) (.cons (.refl _) .nil)))
    ·
     refine c_f h4 rfl ?_
     refine c_skip ?_
     repeat (first | refine k1 ?_ | refine k4 ?_)
     refine c_sr ?_
     refine o_s (.t (.d (.lit (.slice none 0 0)))) (g0 rfl) rfl rfl rfl ?_
     refine o_nil ?_
     repeat (first | refine k1 ?_ | refine k4 ?_)
     refine c_cut (fun (q : Int × (List UInt8)) => [(0, .t (.d (.lit (.int .i64 q.1)))), (6, .t (.own 5 1 (bytesD q.2)))]) (fun (q : Int × (List UInt8)) => m_R01_Low_j1 q.1 q.2 = some r) ?_ ?_
     ·
      refine c_sr ?_
      refine o_s (.t (.d (.lit (.int .i64 0)))) (g0 rfl) rfl rfl rfl ?_
      refine o_nil ?_
      repeat (first | refine k1 ?_ | refine k4 ?_)
      refine c_block ?_
      refine c_fuel (fun (q : Int × (List UInt8) × Int) => [(0, .t (.d (.lit (.int .i64 q.1)))), (1, .t (.d (.lit (.int .i64 p1)))), (6, .t (.own 5 1 (bytesD q.2.1))), (7, .t (.d (.lit (.int .i64 q.2.2))))]) (fun nl2 => (fun (q : Int × (List UInt8) × Int) => m_R01_Low_l2 p1 nl2 q.1 q.2.1 q.2.2 = some r)) (Int.toNat p1 + 1) (p0, [], 0) h ⟨(.refl _), ⟨(.refl _), ⟨(.t (.nilOwn _ _)), ⟨(.refl _), trivial⟩⟩⟩⟩ rfl ?_
      rintro nl2 ⟨z8, z9, z10⟩ h
      cases nl2 with
      | zero => exact none_ne h
      | succ nl2 =>
       refine c_seq ?_
       refine c_sr ?_
       refine o_s (.t (.d (.lit (.int .i64 z10)))) (g0 rfl) rfl rfl rfl ?_
       refine o_s (.t (.d (.lit (.int .i64 p1)))) (g0 rfl) rfl rfl rfl ?_
       refine o_s (.t (.d (.lit (.bool (decide (z10 < p1)))))) (g0 rfl) rfl rfl rfl ?_
       refine o_nil ?_
       repeat (first | refine k1 ?_ | refine k4 ?_)
       rcases bif_some h with ⟨h11, h⟩ | ⟨h11, h⟩
       ·
        refine c_t h11 rfl ?_
        refine c_skip ?_
        repeat (first | refine k1 ?_ | refine k4 ?_)
        refine c_seq ?_
        refine c_block ?_
        refine c_sr ?_
        refine o_2 (.t (.d (.seq 1 (bytesD z9)))) (.t (.own 5 1 (bytesD z9))) (g0 rfl) rfl rfl rfl ?_
        refine o_s (.t (.d (.lit (.int .i64 z8)))) (g0 rfl) rfl rfl rfl ?_
        refine o_s (.t (.d (.lit (.int .i64 (Int.tmod z8 256))))) (g0 rfl) rfl rfl rfl ?_
        refine o_c (g0 rfl) rfl rfl rfl (congrArg (fun z => A.t (.d (.lit (.int .u8 z)))) (u8c _)) trivial ?_
        refine o_s (.t (.own 5 1 (bytesD [(U8 (Int.tmod z8 256))]))) (g0 rfl) rfl rfl rfl ?_
        obtain ⟨x12, h13, h⟩ := bind_some h
        refine o_2c (g0 rfl) rfl rfl rfl (appE (c := cU8) h13) (appC (c := cU8) h13) ?_
        refine o_2 (.t (.d (.seq 1 (bytesD x12)))) (.t (.own 5 1 (bytesD x12))) (g0 rfl) rfl rfl rfl ?_
        refine o_nil ?_
        repeat (first | refine k1 ?_ | refine k4 ?_)
        refine c_region ?_
        refine o_s (.t (.d (.lit (.int .i64 z8)))) (g0 rfl) rfl rfl rfl ?_
        refine o_s (.t (.d (.lit (.int .i64 (wi (Int.tdiv z8 256)))))) (g0 rfl) rfl rfl rfl ?_
        refine o_s (.t (.d (.lit (.int .i64 (wi (Int.tdiv z8 256)))))) (g0 rfl) rfl rfl rfl ?_
        refine o_nil ?_
        repeat (first | refine k1 ?_ | refine k4 ?_)
        refine c_region ?_
        refine o_s (.t (.d (.lit (.int .i64 z10)))) (g0 rfl) rfl rfl rfl ?_
        refine o_s (.t (.d (.lit (.int .i64 (wi (z10 + 1)))))) (g0 rfl) rfl rfl rfl ?_
        refine o_s (.t (.d (.lit (.int .i64 (wi (z10 + 1)))))) (g0 rfl) rfl rfl rfl ?_
        refine o_nil ?_
        repeat (first | refine k1 ?_ | refine k4 ?_)
        exact ⟨nl2, ((wi (Int.tdiv z8 256)), x12, (wi (z10 + 1))), Nat.lt_succ_self nl2, h, ⟨(.refl _), ⟨(.refl _), ⟨(.refl _), ⟨(.refl _), trivial⟩⟩⟩⟩, rfl⟩
       ·
        refine c_f h11 rfl ?_
        refine c_exit ?_
        repeat (first | refine k1 ?_ | refine k2 ?_ | refine k3 ?_ | refine k4 ?_ | refine k5 ?_ | refine k6 ?_ | refine k7 rfl ?_)
        exact ⟨(z8, z9), h, ⟨(.refl _), ⟨(.refl _), trivial⟩⟩, rfl⟩
     ·
      rintro ⟨y5, y6⟩ h
      refine c_seq ?_
      refine c_sr ?_
      refine o_s (.t (.d (.lit (.int .i64 y5)))) (g0 rfl) rfl rfl rfl ?_
      refine o_s (.t (.d (.lit (.bool (decide (y5 > 0)))))) (g0 rfl) rfl rfl rfl ?_
      refine o_nil ?_
      repeat (first | refine k1 ?_ | refine k4 ?_)
      rcases bif_some h with ⟨h7, h⟩ | ⟨h7, h⟩
      ·
       refine c_t h7 rfl ?_
       refine c_sr ?_
       refine o_s (.t (.d (.lit (.slice none 0 0)))) (g0 rfl) rfl rfl rfl ?_
       refine o_s (.t (.d (.lit (.int .i64 2)))) (g0 rfl) rfl rfl rfl ?_
       refine o_nil ?_
       repeat (first | refine k1 ?_ | refine k4 ?_)
       refine c_ret ?_
       repeat (first | refine k3 ?_ | refine k5 ?_)
       obtain rfl := Option.some.inj h
       exact end0 rfl (.tup (.cons (.d (.nil _)) (.cons (.refl _) .nil)))
      ·
       refine c_f h7 rfl ?_
       refine c_skip ?_
       repeat (first | refine k1 ?_ | refine k4 ?_)
       refine c_sr ?_
       refine o_2 (.t (.d (.seq 1 (bytesD y6)))) (.t (.own 5 1 (bytesD y6))) (g0 rfl) rfl rfl rfl ?_
       refine o_2 (.t (.d (.seq 1 (bytesD y6)))) (.t (.own 5 1 (bytesD y6))) (g0 rfl) rfl rfl rfl ?_
       refine o_s (.t (.d (.lit (.int .i64 0)))) (g0 rfl) rfl rfl rfl ?_
       refine o_nil ?_
       repeat (first | refine k1 ?_ | refine k4 ?_)
       refine c_ret ?_
       repeat (first | refine k3 ?_ | refine k5 ?_)
       obtain rfl := Option.some.inj h
       exact end0 rfl (.tup (.cons (.refl _) (.cons (.refl _) .nil)))

theorem fc_R01_Turned (p0 : (List UInt8)) (r : (List UInt8)) (h : m_R01_Turned p0 = some r) : FC Try.prog 63 [.t (.d (.seq 1 (bytesD p0)))] [] (.t (.own 5 1 (bytesD r))) := by
 refine fc_mk (rs := [.tmp 2]) (n := 20) Try.func63 rfl rfl (Nat.le_of_ble_eq_true rfl) rfl (pins := []) rfl (L := [(0, .t (.d (.seq 1 (bytesD p0))))]) rfl ?_
 refine c_sr ?_
 refine o_s (.t (.d (.lit (.slice none 0 0)))) (g0 rfl) rfl rfl rfl ?_
 refine o_nil ?_
 repeat (first | refine k1 ?_ | refine k4 ?_)
 refine c_sr ?_
 refine o_s (.t (.d (.lit (.slice none 0 0)))) (g0 rfl) rfl rfl rfl ?_
 refine o_nil ?_
 repeat (first | refine k1 ?_ | refine k4 ?_)
 refine c_seq ?_
 refine c_sr ?_
 refine o_s (.t (.d (.seq 1 (bytesD p0)))) (g0 rfl) rfl rfl rfl ?_
 refine o_c (g0 rfl) rfl rfl rfl (lenE _ _) trivial ?_
 refine o_s (.t (.d (.lit (.int .i64 (wi ((p0.length : Int) - 1)))))) (g0 rfl) rfl rfl rfl ?_
 refine o_s (.t (.d (.lit (.int .i64 (wi ((p0.length : Int) - 1)))))) (g0 rfl) rfl rfl rfl ?_
 refine o_nil ?_
 repeat (first | refine k1 ?_ | refine k4 ?_)
 refine c_block ?_
 refine c_fuel (fun (q : (List UInt8) × Int) => [(0, .t (.d (.seq 1 (bytesD p0)))), (3, .t (.own 5 1 (bytesD q.1))), (4, .t (.d (.lit (.int .i64 q.2))))]) (fun nl1 => (fun (q : (List UInt8) × Int) => m_R01_Turned_l1 p0 nl1 q.1 q.2 = some r)) (Int.toNat (wi ((p0.length : Int) - 1)) + 2) ([], (wi ((p0.length : Int) - 1))) h ⟨(.refl _), ⟨(.t (.nilOwn _ _)), ⟨(.refl _), trivial⟩⟩⟩ rfl ?_
 rintro nl1 ⟨z1, z2⟩ h
 cases nl1 with
 | zero => exact none_ne h
 | succ nl1 =>
  refine c_seq ?_
  refine c_sr ?_
  refine o_s (.t (.d (.lit (.int .i64 z2)))) (g0 rfl) rfl rfl rfl ?_
  refine o_s (.t (.d (.lit (.bool (decide (z2 ≥ 0)))))) (g0 rfl) rfl rfl rfl ?_
  refine o_nil ?_
  repeat (first | refine k1 ?_ | refine k4 ?_)
  rcases bif_some h with ⟨h3, h⟩ | ⟨h3, h⟩
  ·
   refine c_t h3 rfl ?_
   refine c_skip ?_
   repeat (first | refine k1 ?_ | refine k4 ?_)
   refine c_seq ?_
   refine c_block ?_
   refine c_region ?_
   refine o_2 (.t (.d (.seq 1 (bytesD z1)))) (.t (.own 5 1 (bytesD z1))) (g0 rfl) rfl rfl rfl ?_
   refine o_s (.t (.d (.seq 1 (bytesD p0)))) (g0 rfl) rfl rfl rfl ?_
   refine o_s (.t (.d (.lit (.int .i64 z2)))) (g0 rfl) rfl rfl rfl ?_
   obtain ⟨x4, h5, h⟩ := bind_some h
   refine o_c (g0 rfl) rfl rfl rfl (idxE h5) (idxC h5) ?_
   refine o_s (.t (.d (.lit (.int .u8 (x4.toNat : Int))))) (g0 rfl) rfl rfl rfl ?_
   refine o_s (.t (.own 5 1 (bytesD [x4]))) (g0 rfl) rfl rfl rfl ?_
   obtain ⟨x6, h7, h⟩ := bind_some h
   refine o_2c (g0 rfl) rfl rfl rfl (appE (c := cU8) h7) (appC (c := cU8) h7) ?_
   refine o_2 (.t (.d (.seq 1 (bytesD x6)))) (.t (.own 5 1 (bytesD x6))) (g0 rfl) rfl rfl rfl ?_
   refine o_nil ?_
   repeat (first | refine k1 ?_ | refine k4 ?_)
   refine c_region ?_
   refine o_s (.t (.d (.lit (.int .i64 z2)))) (g0 rfl) rfl rfl rfl ?_
   refine o_s (.t (.d (.lit (.int .i64 (wi (z2 - 1)))))) (g0 rfl) rfl rfl rfl ?_
   refine o_s (.t (.d (.lit (.int .i64 (wi (z2 - 1)))))) (g0 rfl) rfl rfl rfl ?_
   refine o_nil ?_
   repeat (first | refine k1 ?_ | refine k4 ?_)
   exact ⟨nl1, (x6, (wi (z2 - 1))), Nat.lt_succ_self nl1, h, ⟨(.refl _), ⟨(.refl _), ⟨(.refl _), trivial⟩⟩⟩, rfl⟩
  ·
   refine c_f h3 rfl ?_
   refine c_exit ?_
   repeat (first | refine k1 ?_ | refine k2 ?_ | refine k3 ?_ | refine k4 ?_ | refine k5 ?_ | refine k6 ?_ | refine k7 rfl ?_)
   refine c_sr ?_
   refine o_2 (.t (.d (.seq 1 (bytesD z1)))) (.t (.own 5 1 (bytesD z1))) (g0 rfl) rfl rfl rfl ?_
   refine o_2 (.t (.d (.seq 1 (bytesD z1)))) (.t (.own 5 1 (bytesD z1))) (g0 rfl) rfl rfl rfl ?_
   refine o_nil ?_
   repeat (first | refine k1 ?_ | refine k4 ?_)
   refine c_ret ?_
   repeat (first | refine k3 ?_ | refine k5 ?_)
   obtain rfl := Option.some.inj h
   exact end0 rfl (.refl _)

theorem fc_R01_Put (p0 : Int) (p1 : Int) (r : ((List UInt8) × Int)) (h : m_R01_Put p0 p1 = some r) : FC Try.prog 47 [.t (.d (.lit (.int .i64 p0))), .t (.d (.lit (.int .i64 p1)))] [] (.tup [.d (.seq 1 (bytesD r.1)), .d (.lit (.int .i64 r.2))]) := by
 refine fc_mk (rs := [.tmp 4, .tmp 5]) (n := 17) Try.func47 rfl rfl (Nat.le_of_ble_eq_true rfl) rfl (pins := []) rfl (L := [(0, .t (.d (.lit (.int .i64 p0)))), (1, .t (.d (.lit (.int .i64 p1))))]) rfl ?_
 refine c_sr ?_
 refine o_s (.t (.d (.lit (.slice none 0 0)))) (g0 rfl) rfl rfl rfl ?_
 refine o_s (.t (.d (.lit (.int .i64 0)))) (g0 rfl) rfl rfl rfl ?_
 refine o_nil ?_
 repeat (first | refine k1 ?_ | refine k4 ?_)
 refine c_sr ?_
 refine o_s (.t (.d (.lit (.int .i64 p0)))) (g0 rfl) rfl rfl rfl ?_
 refine o_s (.t (.d (.lit (.int .i64 p1)))) (g0 rfl) rfl rfl rfl ?_
 obtain ⟨x1, h2, h⟩ := bind_some h
 refine o_ca (fc_R01_Low _ _ _ h2) (g0 rfl) rfl rfl rfl rfl rfl rfl rfl (.cons (.refl _) (.cons (.refl _) .nil)) rfl rfl ?_
 refine o_s (.tup [.d (.seq 1 (bytesD x1.1)), .d (.lit (.int .i64 x1.2))]) (g0 rfl) rfl rfl rfl ?_
 refine o_s (.t (.d (.seq 1 (bytesD x1.1)))) (g0 rfl) rfl rfl rfl ?_
 refine o_s (.t (.d (.lit (.int .i64 x1.2)))) (g0 rfl) rfl rfl rfl ?_
 refine o_s (.t (.d (.seq 1 (bytesD x1.1)))) (g0 rfl) rfl rfl rfl ?_
 refine o_s (.t (.d (.lit (.int .i64 x1.2)))) (g0 rfl) rfl rfl rfl ?_
 refine o_nil ?_
 repeat (first | refine k1 ?_ | refine k4 ?_)
 refine c_sr ?_
 refine o_s (.t (.d (.seq 1 (bytesD x1.1)))) (g0 rfl) rfl rfl rfl ?_
 obtain ⟨x3, h4, h⟩ := bind_some h
 refine o_ca (fc_R01_Turned _ _ h4) (g0 rfl) rfl rfl rfl rfl rfl rfl rfl (.cons (.refl _) .nil) rfl rfl ?_
 refine o_s (.t (.d (.lit (.int .i64 x1.2)))) (g0 rfl) rfl rfl rfl ?_
 refine o_2 (.t (.d (.seq 1 (bytesD x3)))) (.t (.own 5 1 (bytesD x3))) (g0 rfl) rfl rfl rfl ?_
 refine o_s (.t (.d (.lit (.int .i64 x1.2)))) (g0 rfl) rfl rfl rfl ?_
 refine o_nil ?_
 repeat (first | refine k1 ?_ | refine k4 ?_)
 refine c_ret ?_
 repeat (first | refine k3 ?_ | refine k5 ?_)
 obtain rfl := Option.some.inj h
 exact end0 rfl (.tup (.cons (.refl _) (.cons (.refl _) .nil)))

theorem fc_R02_Bytes : ∀ (k0 : Nat) (p0 : V) (r : (List UInt8)) (h : m_R02_Bytes k0 p0 = some r), FC Try.prog 31 [.t (.agg [.lit (.int .i64 p0.k), .lit (.int .i64 p0.n), .seq 1 (bytesD p0.b), .seq 4 (List.map V.cells p0.l)])] [] (.t (.own 5 1 (bytesD r))) := by
 intro k0
 induction k0 with
 | zero => intro p0 r h; exact none_ne h
 | succ k0 ih =>
  intro p0 r h
  refine fc_mk (rs := [.tmp 2]) (n := 87) Try.func31 rfl rfl (Nat.le_of_ble_eq_true rfl) rfl (pins := []) rfl (L := [(0, .t (.agg [.lit (.int .i64 p0.k), .lit (.int .i64 p0.n), .seq 1 (bytesD p0.b), .seq 4 (List.map V.cells p0.l)]))]) rfl ?_
  refine c_sr ?_
  refine o_s (.box [.d (.lit (.int .i64 p0.k)), .d (.lit (.int .i64 p0.n)), .d (.seq 1 (bytesD p0.b)), .d (.seq 4 (List.map V.cells p0.l))]) (g0 rfl) rfl rfl rfl ?_
  refine o_s (.t (.d (.lit (.slice none 0 0)))) (g0 rfl) rfl rfl rfl ?_
  refine o_nil ?_
  repeat (first | refine k1 ?_ | refine k4 ?_)
  refine c_seq ?_
  refine c_sr ?_
  refine o_s (.ref 1 0) (g0 rfl) rfl rfl rfl ?_
  refine o_s (.t (.d (.lit (.int .i64 p0.k)))) (g0 rfl) rfl rfl rfl ?_
  refine o_s (.t (.d (.lit (.bool (p0.k == 1))))) (g0 rfl) rfl rfl rfl ?_
  refine o_nil ?_
  repeat (first | refine k1 ?_ | refine k4 ?_)
  rcases bif_some h with ⟨h1, h⟩ | ⟨h1, h⟩
  ·
   refine c_t h1 rfl ?_
   refine c_sr ?_
   refine o_s (.t (.d (.lit (.int .i64 0)))) (g0 rfl) rfl rfl rfl ?_
   refine o_nil ?_
   repeat (first | refine k1 ?_ | refine k4 ?_)
   refine c_sr ?_
   refine o_s (.ref 1 1) (g0 rfl) rfl rfl rfl ?_
   refine o_s (.t (.d (.lit (.int .i64 p0.n)))) (g0 rfl) rfl rfl rfl ?_
   refine o_s (.t (.d (.lit (.int .i64 p0.n)))) (g0 rfl) rfl rfl rfl ?_
   refine o_nil ?_
   repeat (first | refine k1 ?_ | refine k4 ?_)
   refine c_cut (fun (y2 : Int) => [(1, .box [.d (.lit (.int .i64 p0.k)), .d (.lit (.int .i64 p0.n)), .d (.seq 1 (bytesD p0.b)), .d (.seq 4 (List.map V.cells p0.l))]), (3, .t (.d (.lit (.int .i64 y2))))]) (fun (y2 : Int) => m_R02_Bytes_j1 p0 y2 = some r) ?_ ?_
   ·
    refine c_block ?_
    refine c_fuel (fun (q : Int × Int) => [(1, .box [.d (.lit (.int .i64 p0.k)), .d (.lit (.int .i64 p0.n)), .d (.seq 1 (bytesD p0.b)), .d (.seq 4 (List.map V.cells p0.l))]), (3, .t (.d (.lit (.int .i64 q.1)))), (4, .t (.d (.lit (.int .i64 q.2))))]) (fun nl2 => (fun (q : Int × Int) => m_R02_Bytes_l2 p0 nl2 q.1 q.2 = some r)) (70) (0, p0.n) h ⟨(.refl _), ⟨(.refl _), ⟨(.refl _), trivial⟩⟩⟩ rfl ?_
    rintro nl2 ⟨z8, z9⟩ h
    cases nl2 with
    | zero => exact none_ne h
    | succ nl2 =>
     refine c_seq ?_
     refine c_sr ?_
     refine o_s (.t (.d (.lit (.int .i64 z9)))) (g0 rfl) rfl rfl rfl ?_
     refine o_s (.t (.d (.lit (.bool (decide (z9 > 0)))))) (g0 rfl) rfl rfl rfl ?_
     refine o_nil ?_
     repeat (first | refine k1 ?_ | refine k4 ?_)
     rcases bif_some h with ⟨h10, h⟩ | ⟨h10, h⟩
     ·
      refine c_t h10 rfl ?_
      refine c_skip ?_
      repeat (first | refine k1 ?_ | refine k4 ?_)
      refine c_block ?_
      refine c_sr ?_
      refine o_s (.t (.d (.lit (.int .i64 z9)))) (g0 rfl) rfl rfl rfl ?_
      refine o_s (.t (.d (.lit (.int .i64 (wi (Int.tdiv z9 256)))))) (g0 rfl) rfl rfl rfl ?_
      refine o_s (.t (.d (.lit (.int .i64 (wi (Int.tdiv z9 256)))))) (g0 rfl) rfl rfl rfl ?_
      refine o_nil ?_
      repeat (first | refine k1 ?_ | refine k4 ?_)
      refine c_region ?_
      refine o_s (.t (.d (.lit (.int .i64 z8)))) (g0 rfl) rfl rfl rfl ?_
      refine o_s (.t (.d (.lit (.int .i64 (wi (z8 + 1)))))) (g0 rfl) rfl rfl rfl ?_
      refine o_s (.t (.d (.lit (.int .i64 (wi (z8 + 1)))))) (g0 rfl) rfl rfl rfl ?_
      refine o_nil ?_
      repeat (first | refine k1 ?_ | refine k4 ?_)
      exact ⟨nl2, ((wi (z8 + 1)), (wi (Int.tdiv z9 256))), Nat.lt_succ_self nl2, h, ⟨(.refl _), ⟨(.refl _), ⟨(.refl _), trivial⟩⟩⟩, rfl⟩
     ·
      refine c_f h10 rfl ?_
      refine c_exit ?_
      repeat (first | refine k1 ?_ | refine k2 ?_ | refine k3 ?_ | refine k4 ?_ | refine k5 ?_ | refine k6 ?_ | refine k7 rfl ?_)
      exact ⟨z8, h, ⟨(.refl _), ⟨(.refl _), trivial⟩⟩, rfl⟩
   ·
    rintro y2 h
    refine c_sr ?_
    refine o_s (.t (.d (.lit (.int .i64 y2)))) (g0 rfl) rfl rfl rfl ?_
    refine o_c (g0 rfl) rfl rfl rfl (congrArg (fun z => A.t (.d (.lit (.int .u8 z)))) (u8c _)) trivial ?_
    refine o_s (.t (.own 5 1 (bytesD [1, (U8 y2)]))) (g0 rfl) rfl rfl rfl ?_
    refine o_2 (.t (.d (.seq 1 (bytesD [1, (U8 y2)])))) (.t (.own 5 1 (bytesD [1, (U8 y2)]))) (g0 rfl) rfl rfl rfl ?_
    refine o_nil ?_
    repeat (first | refine k1 ?_ | refine k4 ?_)
    refine c_seq ?_
    refine c_sr ?_
    refine o_s (.t (.d (.lit (.int .i64 y2)))) (g0 rfl) rfl rfl rfl ?_
    refine o_s (.t (.d (.lit (.bool (decide (y2 > 0)))))) (g0 rfl) rfl rfl rfl ?_
    refine o_nil ?_
    repeat (first | refine k1 ?_ | refine k4 ?_)
    rcases bif_some h with ⟨h3, h⟩ | ⟨h3, h⟩
    ·
     refine c_t h3 rfl ?_
     refine c_sr ?_
     refine o_s (.ref 1 1) (g0 rfl) rfl rfl rfl ?_
     refine o_s (.t (.d (.lit (.int .i64 p0.n)))) (g0 rfl) rfl rfl rfl ?_
     refine o_s (.t (.d (.lit (.int .i64 y2)))) (g0 rfl) rfl rfl rfl ?_
     obtain ⟨x4, h5, h⟩ := bind_some h
     refine o_ca (fc_R01_Put _ _ _ h5) (g0 rfl) rfl rfl rfl rfl rfl rfl rfl (.cons (.refl _) (.cons (.refl _) .nil)) rfl rfl ?_
     refine o_s (.tup [.d (.seq 1 (bytesD x4.1)), .d (.lit (.int .i64 x4.2))]) (g0 rfl) rfl rfl rfl ?_
     refine o_s (.t (.d (.seq 1 (bytesD x4.1)))) (g0 rfl) rfl rfl rfl ?_
     refine o_s (.t (.d (.lit (.int .i64 x4.2)))) (g0 rfl) rfl rfl rfl ?_
     refine o_s (.t (.d (.seq 1 (bytesD x4.1)))) (g0 rfl) rfl rfl rfl ?_
     refine o_s (.t (.d (.lit (.int .i64 x4.2)))) (g0 rfl) rfl rfl rfl ?_
     refine o_nil ?_
     repeat (first | refine k1 ?_ | refine k4 ?_)
     refine c_region ?_
     refine o_2 (.t (.d (.seq 1 (bytesD [1, (U8 y2)])))) (.t (.own 5 1 (bytesD [1, (U8 y2)]))) (g0 rfl) rfl rfl rfl ?_
     refine o_s (.t (.d (.seq 1 (bytesD x4.1)))) (g0 rfl) rfl rfl rfl ?_
     obtain ⟨x6, h7, h⟩ := bind_some h
     refine o_2c (g0 rfl) rfl rfl rfl (appE (c := cU8) h7) (appC (c := cU8) h7) ?_
     refine o_2 (.t (.d (.seq 1 (bytesD x6)))) (.t (.own 5 1 (bytesD x6))) (g0 rfl) rfl rfl rfl ?_
     refine o_nil ?_
     repeat (first | refine k1 ?_ | refine k4 ?_)
     refine c_sr ?_
     refine o_2 (.t (.d (.seq 1 (bytesD x6)))) (.t (.own 5 1 (bytesD x6))) (g0 rfl) rfl rfl rfl ?_
     refine o_2 (.t (.d (.seq 1 (bytesD x6)))) (.t (.own 5 1 (bytesD x6))) (g0 rfl) rfl rfl rfl ?_
     refine o_nil ?_
     repeat (first | refine k1 ?_ | refine k4 ?_)
     refine c_ret ?_
     repeat (first | refine k3 ?_ | refine k5 ?_)
     obtain rfl := Option.some.inj h
     exact end0 rfl (.refl _)
    ·
     refine c_f h3 rfl ?_
     refine c_skip ?_
     repeat (first | refine k1 ?_ | refine k4 ?_)
     refine c_sr ?_
     refine o_2 (.t (.d (.seq 1 (bytesD [1, (U8 y2)])))) (.t (.own 5 1 (bytesD [1, (U8 y2)]))) (g0 rfl) rfl rfl rfl ?_
     refine o_2 (.t (.d (.seq 1 (bytesD [1, (U8 y2)])))) (.t (.own 5 1 (bytesD [1, (U8 y2)]))) (g0 rfl) rfl rfl rfl ?_
     refine o_nil ?_
     repeat (first | refine k1 ?_ | refine k4 ?_)
     refine c_ret ?_
     repeat (first | refine k3 ?_ | refine k5 ?_)
     obtain rfl := Option.some.inj h
     exact end0 rfl (.refl _)
  ·
   refine c_f h1 rfl ?_
   refine c_skip ?_
   repeat (first | refine k1 ?_ | refine k4 ?_)
   refine c_seq ?_
   refine c_sr ?_
   refine o_s (.ref 1 0) (g0 rfl) rfl rfl rfl ?_
   refine o_s (.t (.d (.lit (.int .i64 p0.k)))) (g0 rfl) rfl rfl rfl ?_
   refine o_s (.t (.d (.lit (.bool (p0.k == 2))))) (g0 rfl) rfl rfl rfl ?_
   refine o_nil ?_
   repeat (first | refine k1 ?_ | refine k4 ?_)
   rcases bif_some h with ⟨h11, h⟩ | ⟨h11, h⟩
   ·
    refine c_t h11 rfl ?_
    refine c_sr ?_
    refine o_s (.ref 1 2) (g0 rfl) rfl rfl rfl ?_
    refine o_s (.t (.d (.seq 1 (bytesD p0.b)))) (g0 rfl) rfl rfl rfl ?_
    refine o_c (g0 rfl) rfl rfl rfl (lenE _ _) trivial ?_
    obtain ⟨x12, h13, h⟩ := bind_some h
    refine o_ca (fc_R01_Put _ _ _ h13) (g0 rfl) rfl rfl rfl rfl rfl rfl rfl (.cons (.refl _) (.cons (.refl _) .nil)) rfl rfl ?_
    refine o_s (.tup [.d (.seq 1 (bytesD x12.1)), .d (.lit (.int .i64 x12.2))]) (g0 rfl) rfl rfl rfl ?_
    refine o_s (.t (.d (.seq 1 (bytesD x12.1)))) (g0 rfl) rfl rfl rfl ?_
    refine o_s (.t (.d (.lit (.int .i64 x12.2)))) (g0 rfl) rfl rfl rfl ?_
    refine o_s (.t (.d (.seq 1 (bytesD x12.1)))) (g0 rfl) rfl rfl rfl ?_
    refine o_s (.t (.d (.lit (.int .i64 x12.2)))) (g0 rfl) rfl rfl rfl ?_
    refine o_nil ?_
    repeat (first | refine k1 ?_ | refine k4 ?_)
    refine c_sr ?_
    refine o_s (.t (.own 5 1 (bytesD [2]))) (g0 rfl) rfl rfl rfl ?_
    refine o_2 (.t (.d (.seq 1 (bytesD [2])))) (.t (.own 5 1 (bytesD [2]))) (g0 rfl) rfl rfl rfl ?_
    refine o_nil ?_
    repeat (first | refine k1 ?_ | refine k4 ?_)
    refine c_sr ?_
    refine o_2 (.t (.d (.seq 1 (bytesD [2])))) (.t (.own 5 1 (bytesD [2]))) (g0 rfl) rfl rfl rfl ?_
    refine o_s (.t (.d (.seq 1 (bytesD x12.1)))) (g0 rfl) rfl rfl rfl ?_
    obtain ⟨x14, h15, h⟩ := bind_some h
    refine o_2c (g0 rfl) rfl rfl rfl (appE (c := cU8) h15) (appC (c := cU8) h15) ?_
    refine o_2 (.t (.d (.seq 1 (bytesD x14)))) (.t (.own 5 1 (bytesD x14))) (g0 rfl) rfl rfl rfl ?_
    refine o_nil ?_
    repeat (first | refine k1 ?_ | refine k4 ?_)
    refine c_sr ?_
    refine o_2 (.t (.d (.seq 1 (bytesD x14)))) (.t (.own 5 1 (bytesD x14))) (g0 rfl) rfl rfl rfl ?_
    refine o_s (.ref 1 2) (g0 rfl) rfl rfl rfl ?_
    refine o_s (.t (.d (.seq 1 (bytesD p0.b)))) (g0 rfl) rfl rfl rfl ?_
    obtain ⟨x16, h17, h⟩ := bind_some h
    refine o_2c (g0 rfl) rfl rfl rfl (appE (c := cU8) h17) (appC (c := cU8) h17) ?_
    refine o_2 (.t (.d (.seq 1 (bytesD x16)))) (.t (.own 5 1 (bytesD x16))) (g0 rfl) rfl rfl rfl ?_
    refine o_nil ?_
    repeat (first | refine k1 ?_ | refine k4 ?_)
    refine c_ret ?_
    repeat (first | refine k3 ?_ | refine k5 ?_)
    obtain rfl := Option.some.inj h
    exact end0 rfl (.refl _)
   ·
    refine c_f h11 rfl ?_
    refine c_skip ?_
    repeat (first | refine k1 ?_ | refine k4 ?_)
    refine c_sr ?_
    refine o_s (.ref 1 3) (g0 rfl) rfl rfl rfl ?_
    refine o_s (.t (.d (.seq 4 (List.map V.cells p0.l)))) (g0 rfl) rfl rfl rfl ?_
    refine o_c (g0 rfl) rfl rfl rfl (lenE _ _) trivial ?_
    obtain ⟨x18, h19, h⟩ := bind_some h
    refine o_ca (fc_R01_Put _ _ _ h19) (g0 rfl) rfl rfl rfl rfl rfl rfl rfl (.cons (.refl _) (.cons (.refl _) .nil)) rfl rfl ?_
    refine o_s (.tup [.d (.seq 1 (bytesD x18.1)), .d (.lit (.int .i64 x18.2))]) (g0 rfl) rfl rfl rfl ?_
    refine o_s (.t (.d (.seq 1 (bytesD x18.1)))) (g0 rfl) rfl rfl rfl ?_
    refine o_s (.t (.d (.lit (.int .i64 x18.2)))) (g0 rfl) rfl rfl rfl ?_
    refine o_s (.t (.d (.seq 1 (bytesD x18.1)))) (g0 rfl) rfl rfl rfl ?_
    refine o_s (.t (.d (.lit (.int .i64 x18.2)))) (g0 rfl) rfl rfl rfl ?_
    refine o_nil ?_
    repeat (first | refine k1 ?_ | refine k4 ?_)
    refine c_sr ?_
    refine o_s (.t (.own 5 1 (bytesD [3]))) (g0 rfl) rfl rfl rfl ?_
    refine o_2 (.t (.d (.seq 1 (bytesD [3])))) (.t (.own 5 1 (bytesD [3]))) (g0 rfl) rfl rfl rfl ?_
    refine o_nil ?_
    repeat (first | refine k1 ?_ | refine k4 ?_)
    refine c_sr ?_
    refine o_2 (.t (.d (.seq 1 (bytesD [3])))) (.t (.own 5 1 (bytesD [3]))) (g0 rfl) rfl rfl rfl ?_
    refine o_s (.t (.d (.seq 1 (bytesD x18.1)))) (g0 rfl) rfl rfl rfl ?_
    obtain ⟨x20, h21, h⟩ := bind_some h
    refine o_2c (g0 rfl) rfl rfl rfl (appE (c := cU8) h21) (appC (c := cU8) h21) ?_
    refine o_2 (.t (.d (.seq 1 (bytesD x20)))) (.t (.own 5 1 (bytesD x20))) (g0 rfl) rfl rfl rfl ?_
    refine o_nil ?_
    repeat (first | refine k1 ?_ | refine k4 ?_)
    refine c_seq ?_
    refine c_sr ?_
    refine o_s (.t (.d (.lit (.int .i64 0)))) (g0 rfl) rfl rfl rfl ?_
    refine o_nil ?_
    repeat (first | refine k1 ?_ | refine k4 ?_)
    refine c_block ?_
    refine c_fuel (fun (q : (List UInt8) × Int) => [(1, .box [.d (.lit (.int .i64 p0.k)), .d (.lit (.int .i64 p0.n)), .d (.seq 1 (bytesD p0.b)), .d (.seq 4 (List.map V.cells p0.l))]), (13, .t (.own 5 1 (bytesD q.1))), (14, .t (.d (.lit (.int .i64 q.2))))]) (fun nl3 => (fun (q : (List UInt8) × Int) => m_R02_Bytes_l3 p0 (m_R02_Bytes k0) nl3 q.1 q.2 = some r)) (p0.l.length + 1) (x20, 0) h ⟨(.refl _), ⟨(.refl _), ⟨(.refl _), trivial⟩⟩⟩ rfl ?_
    rintro nl3 ⟨z22, z23⟩ h
    cases nl3 with
    | zero => exact none_ne h
    | succ nl3 =>
     refine c_seq ?_
     refine c_sr ?_
     refine o_s (.t (.d (.lit (.int .i64 z23)))) (g0 rfl) rfl rfl rfl ?_
     refine o_s (.ref 1 3) (g0 rfl) rfl rfl rfl ?_
     refine o_s (.t (.d (.seq 4 (List.map V.cells p0.l)))) (g0 rfl) rfl rfl rfl ?_
     refine o_c (g0 rfl) rfl rfl rfl (lenE _ _) trivial ?_
     refine o_s (.t (.d (.lit (.bool (decide (z23 < (p0.l.length : Int))))))) (g0 rfl) rfl rfl rfl ?_
     refine o_nil ?_
     repeat (first | refine k1 ?_ | refine k4 ?_)
     rcases bif_some h with ⟨h24, h⟩ | ⟨h24, h⟩
     ·
      refine c_t h24 rfl ?_
      refine c_skip ?_
      repeat (first | refine k1 ?_ | refine k4 ?_)
      refine c_seq ?_
      refine c_block ?_
      refine c_region ?_
      refine o_2 (.t (.d (.seq 1 (bytesD z22)))) (.t (.own 5 1 (bytesD z22))) (g0 rfl) rfl rfl rfl ?_
      refine o_s (.ref 1 3) (g0 rfl) rfl rfl rfl ?_
      refine o_s (.t (.d (.seq 4 (List.map V.cells p0.l)))) (g0 rfl) rfl rfl rfl ?_
      refine o_s (.t (.d (.lit (.int .i64 z23)))) (g0 rfl) rfl rfl rfl ?_
      obtain ⟨x25, h26, h⟩ := bind_some h
      refine o_c (g0 rfl) rfl rfl rfl (idxE' V.cells_eq h26) (idxC h26) ?_
      refine o_s (.t (.agg [.lit (.int .i64 x25.k), .lit (.int .i64 x25.n), .seq 1 (bytesD x25.b), .seq 4 (List.map V.cells x25.l)])) (g0 rfl) rfl rfl rfl ?_
      obtain ⟨x27, h28, h⟩ := bind_some h
      refine o_ca (ih _ _ h28) (g0 rfl) rfl rfl rfl rfl rfl rfl rfl (.cons (.refl _) .nil) rfl rfl ?_
      obtain ⟨x29, h30, h⟩ := bind_some h
      refine o_2c (g0 rfl) rfl rfl rfl (appE (c := cU8) h30) (appC (c := cU8) h30) ?_
      refine o_2 (.t (.d (.seq 1 (bytesD x29)))) (.t (.own 5 1 (bytesD x29))) (g0 rfl) rfl rfl rfl ?_
      refine o_nil ?_
      repeat (first | refine k1 ?_ | refine k4 ?_)
      refine c_region ?_
      refine o_s (.t (.d (.lit (.int .i64 z23)))) (g0 rfl) rfl rfl rfl ?_
      refine o_s (.t (.d (.lit (.int .i64 (wi (z23 + 1)))))) (g0 rfl) rfl rfl rfl ?_
      refine o_s (.t (.d (.lit (.int .i64 (wi (z23 + 1)))))) (g0 rfl) rfl rfl rfl ?_
      refine o_nil ?_
      repeat (first | refine k1 ?_ | refine k4 ?_)
      exact ⟨nl3, (x29, (wi (z23 + 1))), Nat.lt_succ_self nl3, h, ⟨(.refl _), ⟨(.refl _), ⟨(.refl _), trivial⟩⟩⟩, rfl⟩
     ·
      refine c_f h24 rfl ?_
      refine c_exit ?_
      repeat (first | refine k1 ?_ | refine k2 ?_ | refine k3 ?_ | refine k4 ?_ | refine k5 ?_ | refine k6 ?_ | refine k7 rfl ?_)
      refine c_sr ?_
      refine o_2 (.t (.d (.seq 1 (bytesD z22)))) (.t (.own 5 1 (bytesD z22))) (g0 rfl) rfl rfl rfl ?_
      refine o_2 (.t (.d (.seq 1 (bytesD z22)))) (.t (.own 5 1 (bytesD z22))) (g0 rfl) rfl rfl rfl ?_
      refine o_nil ?_
      repeat (first | refine k1 ?_ | refine k4 ?_)
      refine c_ret ?_
      repeat (first | refine k3 ?_ | refine k5 ?_)
      obtain rfl := Option.some.inj h
      exact end0 rfl (.refl _)

theorem fc_tree_Name (p0 : (List UInt8)) (r : Bool) (h : m_tree_Name p0 = some r) : FC Try.prog 32 [.t (.d (.lit (.string ⟨⟨p0⟩⟩)))] [] (.t (.d (.lit (.bool r)))) := by
 refine fc_mk (rs := [.tmp 2]) (n := 36) Try.func32 rfl rfl (Nat.le_of_ble_eq_true rfl) rfl (pins := []) rfl (L := [(0, .t (.d (.lit (.string ⟨⟨p0⟩⟩))))]) rfl ?_
 refine c_sr ?_
 refine o_s (.t (.d (.lit (.bool false)))) (g0 rfl) rfl rfl rfl ?_
 refine o_nil ?_
 repeat (first | refine k1 ?_ | refine k4 ?_)
 refine c_cut (fun (_ : Unit) => [(0, .t (.d (.lit (.string ⟨⟨p0⟩⟩))))]) (fun (_ : Unit) => m_tree_Name_j1 p0 = some r) ?_ ?_
 ·
  refine c_sr ?_
  refine o_s (.t (.d (.lit (.string ⟨⟨p0⟩⟩)))) (g0 rfl) rfl rfl rfl ?_
  refine o_s (.t (.d (.lit (.int .i64 (p0.length : Int))))) (g0 rfl) rfl rfl rfl ?_
  refine o_s (.t (.d (.lit (.int .i64 0)))) (g0 rfl) rfl rfl rfl ?_
  refine o_nil ?_
  repeat (first | refine k1 ?_ | refine k4 ?_)
  refine c_block ?_
  refine c_fuel (fun (z2 : Int) => [(0, .t (.d (.lit (.string ⟨⟨p0⟩⟩)))), (6, .t (.d (.lit (.int .i64 (p0.length : Int))))), (7, .t (.d (.lit (.int .i64 z2))))]) (fun nl2 => (fun (z2 : Int) => m_tree_Name_l2 p0 nl2 z2 = some r)) (p0.length + 1) 0 h ⟨(.refl _), ⟨(.refl _), ⟨(.refl _), trivial⟩⟩⟩ rfl ?_
  rintro nl2 z2 h
  cases nl2 with
  | zero => exact none_ne h
  | succ nl2 =>
   refine c_sr ?_
   refine o_s (.t (.d (.lit (.bool (decide (z2 < (p0.length : Int))))))) (g0 rfl) rfl rfl rfl ?_
   refine o_nil ?_
   repeat (first | refine k1 ?_ | refine k4 ?_)
   refine c_seq ?_
   rcases bif_some h with ⟨h3, h⟩ | ⟨h3, h⟩
   ·
    refine c_t h3 rfl ?_
    refine c_skip ?_
    repeat (first | refine k1 ?_ | refine k4 ?_)
    refine c_seq ?_
    refine c_block ?_
    refine c_sr ?_
    refine o_s (.t (.d (.lit (.int .i64 z2)))) (g0 rfl) rfl rfl rfl ?_
    refine o_s (.t (.d (.lit (.int .i64 z2)))) (g0 rfl) rfl rfl rfl ?_
    refine o_nil ?_
    repeat (first | refine k1 ?_ | refine k4 ?_)
    refine c_sr ?_
    refine o_s (.t (.d (.lit (.string ⟨⟨p0⟩⟩)))) (g0 rfl) rfl rfl rfl ?_
    refine o_s (.t (.d (.lit (.int .i64 z2)))) (g0 rfl) rfl rfl rfl ?_
    obtain ⟨x4, h5, h⟩ := bind_some h
    refine o_c (g0 rfl) rfl rfl rfl (strIdxE h5) (strIdxC h5) ?_
    refine o_s (.t (.d (.lit (.int .u8 (x4.toNat : Int))))) (g0 rfl) rfl rfl rfl ?_
    refine o_nil ?_
    repeat (first | refine k1 ?_ | refine k4 ?_)
    refine c_sr ?_
    refine o_s (.t (.d (.lit (.int .u8 (x4.toNat : Int))))) (g0 rfl) rfl rfl rfl ?_
    refine o_s (.t (.d (.lit (.bool (decide ((x4.toNat : Int) < 97)))))) (g0 rfl) rfl rfl rfl ?_
    refine o_s (.t (.d (.lit (.bool (decide ((x4.toNat : Int) < 97)))))) (g0 rfl) rfl rfl rfl ?_
    rcases bif_some h with ⟨h6, h⟩ | ⟨h6, h⟩
    ·
     refine o_skip rfl rfl rfl h6 rfl rfl ?_
     refine o_skip rfl rfl rfl h6 rfl rfl ?_
     refine o_pk (.t (.d (.lit (.bool true)))) (b := true) h6 (g0 rfl) rfl rfl rfl rfl rfl ?_
     refine o_s (.t (.d (.lit (.bool true)))) (g0 rfl) rfl rfl rfl ?_
     refine o_s (.t (.d (.lit (.int .u8 (x4.toNat : Int))))) (gy rfl rfl rfl rfl) rfl rfl rfl ?_
     refine o_s (.t (.d (.lit (.bool (decide ((x4.toNat : Int) < 48)))))) (gy rfl rfl rfl rfl) rfl rfl rfl ?_
     refine o_s (.t (.d (.lit (.bool (decide ((x4.toNat : Int) < 48)))))) (gy rfl rfl rfl rfl) rfl rfl rfl ?_
     rcases bif_some h with ⟨h7, h⟩ | ⟨h7, h⟩
     ·
      refine o_skip rfl rfl rfl h7 rfl rfl ?_
      refine o_skip rfl rfl rfl h7 rfl rfl ?_
      refine o_pk (.t (.d (.lit (.bool true)))) (b := true) h7 (gy rfl rfl rfl rfl) rfl rfl rfl rfl rfl ?_
      refine o_pk (.t (.d (.lit (.bool true)))) (b := true) rfl (g0 rfl) rfl rfl rfl rfl rfl ?_
      refine o_nil ?_
      repeat (first | refine k1 ?_ | refine k4 ?_)
      refine c_t rfl rfl ?_
      refine c_sr ?_
      refine o_s (.t (.d (.lit (.bool false)))) (g0 rfl) rfl rfl rfl ?_
      refine o_nil ?_
      repeat (first | refine k1 ?_ | refine k4 ?_)
      refine c_ret ?_
      repeat (first | refine k3 ?_ | refine k5 ?_)
      obtain rfl := Option.some.inj h
      exact end0 rfl (.refl _)
     ·
      refine o_s (.t (.d (.lit (.int .u8 (x4.toNat : Int))))) (gy rfl rfl rfl h7) rfl rfl rfl ?_
      refine o_s (.t (.d (.lit (.bool (decide ((x4.toNat : Int) > 57)))))) (gy rfl rfl rfl h7) rfl rfl rfl ?_
      refine o_pk (.t (.d (.lit (.bool (decide ((x4.toNat : Int) > 57)))))) (b := false) h7 (gy rfl rfl rfl rfl) rfl rfl rfl rfl rfl ?_
      refine o_pk (.t (.d (.lit (.bool (decide ((x4.toNat : Int) > 57)))))) (b := true) rfl (g0 rfl) rfl rfl rfl rfl rfl ?_
      refine o_nil ?_
      repeat (first | refine k1 ?_ | refine k4 ?_)
      rcases bif_some h with ⟨h8, h⟩ | ⟨h8, h⟩
      ·
       refine c_t h8 rfl ?_
       refine c_sr ?_
       refine o_s (.t (.d (.lit (.bool false)))) (g0 rfl) rfl rfl rfl ?_
       refine o_nil ?_
       repeat (first | refine k1 ?_ | refine k4 ?_)
       refine c_ret ?_
       repeat (first | refine k3 ?_ | refine k5 ?_)
       obtain rfl := Option.some.inj h
       exact end0 rfl (.refl _)
      ·
       refine c_f h8 rfl ?_
       refine c_skip ?_
       repeat (first | refine k1 ?_ | refine k4 ?_)
       refine c_region ?_
       refine o_s (.t (.d (.lit (.int .i64 (wi (z2 + 1)))))) (g0 rfl) rfl rfl rfl ?_
       refine o_s (.t (.d (.lit (.int .i64 (wi (z2 + 1)))))) (g0 rfl) rfl rfl rfl ?_
       refine o_nil ?_
       repeat (first | refine k1 ?_ | refine k4 ?_)
       exact ⟨nl2, (wi (z2 + 1)), Nat.lt_succ_self nl2, h, ⟨(.refl _), ⟨(.refl _), ⟨(.refl _), trivial⟩⟩⟩, rfl⟩
    ·
     refine o_s (.t (.d (.lit (.int .u8 (x4.toNat : Int))))) (gy rfl rfl rfl h6) rfl rfl rfl ?_
     refine o_s (.t (.d (.lit (.bool (decide ((x4.toNat : Int) > 122)))))) (gy rfl rfl rfl h6) rfl rfl rfl ?_
     refine o_pk (.t (.d (.lit (.bool (decide ((x4.toNat : Int) > 122)))))) (b := false) h6 (g0 rfl) rfl rfl rfl rfl rfl ?_
     refine o_s (.t (.d (.lit (.bool (decide ((x4.toNat : Int) > 122)))))) (g0 rfl) rfl rfl rfl ?_
     rcases bif_some h with ⟨h9, h⟩ | ⟨h9, h⟩
     ·
      refine o_s (.t (.d (.lit (.int .u8 (x4.toNat : Int))))) (gy rfl rfl rfl h9) rfl rfl rfl ?_
      refine o_s (.t (.d (.lit (.bool (decide ((x4.toNat : Int) < 48)))))) (gy rfl rfl rfl h9) rfl rfl rfl ?_
      refine o_s (.t (.d (.lit (.bool (decide ((x4.toNat : Int) < 48)))))) (gy rfl rfl rfl h9) rfl rfl rfl ?_
      rcases bif_some h with ⟨h10, h⟩ | ⟨h10, h⟩
      ·
       refine o_skip rfl rfl rfl h10 rfl rfl ?_
       refine o_skip rfl rfl rfl h10 rfl rfl ?_
       refine o_pk (.t (.d (.lit (.bool true)))) (b := true) h10 (gy rfl rfl rfl h9) rfl rfl rfl rfl rfl ?_
       refine o_pk (.t (.d (.lit (.bool true)))) (b := true) h9 (g0 rfl) rfl rfl rfl rfl rfl ?_
       refine o_nil ?_
       repeat (first | refine k1 ?_ | refine k4 ?_)
       refine c_t rfl rfl ?_
       refine c_sr ?_
       refine o_s (.t (.d (.lit (.bool false)))) (g0 rfl) rfl rfl rfl ?_
       refine o_nil ?_
       repeat (first | refine k1 ?_ | refine k4 ?_)
       refine c_ret ?_
       repeat (first | refine k3 ?_ | refine k5 ?_)
       obtain rfl := Option.some.inj h
       exact end0 rfl (.refl _)
      ·
       refine o_s (.t (.d (.lit (.int .u8 (x4.toNat : Int))))) (gy rfl rfl rfl h10) rfl rfl rfl ?_
       refine o_s (.t (.d (.lit (.bool (decide ((x4.toNat : Int) > 57)))))) (gy rfl rfl rfl h10) rfl rfl rfl ?_
       refine o_pk (.t (.d (.lit (.bool (decide ((x4.toNat : Int) > 57)))))) (b := false) h10 (gy rfl rfl rfl h9) rfl rfl rfl rfl rfl ?_
       refine o_pk (.t (.d (.lit (.bool (decide ((x4.toNat : Int) > 57)))))) (b := true) h9 (g0 rfl) rfl rfl rfl rfl rfl ?_
       refine o_nil ?_
       repeat (first | refine k1 ?_ | refine k4 ?_)
       rcases bif_some h with ⟨h11, h⟩ | ⟨h11, h⟩
       ·
        refine c_t h11 rfl ?_
        refine c_sr ?_
        refine o_s (.t (.d (.lit (.bool false)))) (g0 rfl) rfl rfl rfl ?_
        refine o_nil ?_
        repeat (first | refine k1 ?_ | refine k4 ?_)
        refine c_ret ?_
        repeat (first | refine k3 ?_ | refine k5 ?_)
        obtain rfl := Option.some.inj h
        exact end0 rfl (.refl _)
       ·
        refine c_f h11 rfl ?_
        refine c_skip ?_
        repeat (first | refine k1 ?_ | refine k4 ?_)
        refine c_region ?_
        refine o_s (.t (.d (.lit (.int .i64 (wi (z2 + 1)))))) (g0 rfl) rfl rfl rfl ?_
        refine o_s (.t (.d (.lit (.int .i64 (wi (z2 + 1)))))) (g0 rfl) rfl rfl rfl ?_
        refine o_nil ?_
        repeat (first | refine k1 ?_ | refine k4 ?_)
        exact ⟨nl2, (wi (z2 + 1)), Nat.lt_succ_self nl2, h, ⟨(.refl _), ⟨(.refl _), ⟨(.refl _), trivial⟩⟩⟩, rfl⟩
     ·
      refine o_skip rfl rfl rfl h9 rfl rfl ?_
      refine o_skip rfl rfl rfl h9 rfl rfl ?_
      refine o_skip rfl rfl rfl h9 rfl rfl ?_
      refine o_un rfl rfl rfl rfl rfl ?_
      refine o_un rfl rfl rfl rfl rfl ?_
      refine o_skip rfl rfl rfl h9 rfl rfl ?_
      refine o_pk (.t (.d (.lit (.bool false)))) (b := false) h9 (g0 rfl) rfl rfl rfl rfl rfl ?_
      refine o_nil ?_
      repeat (first | refine k1 ?_ | refine k4 ?_)
      refine c_f rfl rfl ?_
      refine c_skip ?_
      repeat (first | refine k1 ?_ | refine k4 ?_)
      refine c_region ?_
      refine o_s (.t (.d (.lit (.int .i64 (wi (z2 + 1)))))) (g0 rfl) rfl rfl rfl ?_
      refine o_s (.t (.d (.lit (.int .i64 (wi (z2 + 1)))))) (g0 rfl) rfl rfl rfl ?_
      refine o_nil ?_
      repeat (first | refine k1 ?_ | refine k4 ?_)
      exact ⟨nl2, (wi (z2 + 1)), Nat.lt_succ_self nl2, h, ⟨(.refl _), ⟨(.refl _), ⟨(.refl _), trivial⟩⟩⟩, rfl⟩
   ·
    refine c_f h3 rfl ?_
    refine c_exit ?_
    repeat (first | refine k1 ?_ | refine k2 ?_ | refine k3 ?_ | refine k4 ?_ | refine k5 ?_ | refine k6 ?_ | refine k7 rfl ?_)
    exact ⟨(), h, ⟨(.refl _), trivial⟩, rfl⟩
 ·
  rintro ⟨⟩ h
  refine c_sr ?_
  refine o_s (.t (.d (.lit (.string ⟨⟨p0⟩⟩)))) (g0 rfl) rfl rfl rfl ?_
  refine o_s (.t (.d (.lit (.int .i64 (p0.length : Int))))) (g0 rfl) rfl rfl rfl ?_
  refine o_s (.t (.d (.lit (.bool (decide ((p0.length : Int) ≥ 1)))))) (g0 rfl) rfl rfl rfl ?_
  refine o_s (.t (.d (.lit (.bool (decide ((p0.length : Int) ≥ 1)))))) (g0 rfl) rfl rfl rfl ?_
  rcases bif_some h with ⟨h1, h⟩ | ⟨h1, h⟩
  ·
   refine o_s (.t (.d (.lit (.string ⟨⟨p0⟩⟩)))) (gy rfl rfl rfl h1) rfl rfl rfl ?_
   refine o_s (.t (.d (.lit (.int .i64 (p0.length : Int))))) (gy rfl rfl rfl h1) rfl rfl rfl ?_
   refine o_s (.t (.d (.lit (.bool (decide ((p0.length : Int) ≤ 12)))))) (gy rfl rfl rfl h1) rfl rfl rfl ?_
   refine o_pk (.t (.d (.lit (.bool (decide ((p0.length : Int) ≤ 12)))))) (b := true) h1 (g0 rfl) rfl rfl rfl rfl rfl ?_
   refine o_s (.t (.d (.lit (.bool (decide ((p0.length : Int) ≤ 12)))))) (g0 rfl) rfl rfl rfl ?_
   refine o_nil ?_
   repeat (first | refine k1 ?_ | refine k4 ?_)
   refine c_ret ?_
   repeat (first | refine k3 ?_ | refine k5 ?_)
   obtain rfl := Option.some.inj h
   exact end0 rfl (.refl _)
  ·
   refine o_skip rfl rfl rfl h1 rfl rfl ?_
   refine o_skip rfl rfl rfl h1 rfl rfl ?_
   refine o_skip rfl rfl rfl h1 rfl rfl ?_
   refine o_pk (.t (.d (.lit (.bool false)))) (b := false) h1 (g0 rfl) rfl rfl rfl rfl rfl ?_
   refine o_s (.t (.d (.lit (.bool false)))) (g0 rfl) rfl rfl rfl ?_
   refine o_nil ?_
   repeat (first | refine k1 ?_ | refine k4 ?_)
   refine c_ret ?_
   repeat (first | refine k3 ?_ | refine k5 ?_)
   obtain rfl := Option.some.inj h
   exact end0 rfl (.refl _)

theorem fc_R25_Name (p0 : (List UInt8)) (r : Bool) (h : m_R25_Name p0 = some r) : FC Try.prog 40 [.t (.d (.lit (.string ⟨⟨p0⟩⟩)))] [] (.t (.d (.lit (.bool r)))) := by
 refine fc_mk (rs := [.tmp 2]) (n := 46) Try.func40 rfl rfl (Nat.le_of_ble_eq_true rfl) rfl (pins := []) rfl (L := [(0, .t (.d (.lit (.string ⟨⟨p0⟩⟩))))]) rfl ?_
 refine c_sr ?_
 refine o_s (.t (.d (.lit (.bool false)))) (g0 rfl) rfl rfl rfl ?_
 refine o_nil ?_
 repeat (first | refine k1 ?_ | refine k4 ?_)
 refine c_seq ?_
 refine c_sr ?_
 refine o_s (.t (.d (.lit (.string ⟨⟨p0⟩⟩)))) (g0 rfl) rfl rfl rfl ?_
 refine o_s (.t (.d (.lit (.int .i64 (p0.length : Int))))) (g0 rfl) rfl rfl rfl ?_
 refine o_s (.t (.d (.lit (.bool (decide ((p0.length : Int) < 1)))))) (g0 rfl) rfl rfl rfl ?_
 refine o_s (.t (.d (.lit (.bool (decide ((p0.length : Int) < 1)))))) (g0 rfl) rfl rfl rfl ?_
 rcases bif_some h with ⟨h1, h⟩ | ⟨h1, h⟩
 ·
  refine o_skip rfl rfl rfl h1 rfl rfl ?_
  refine o_skip rfl rfl rfl h1 rfl rfl ?_
  refine o_skip rfl rfl rfl h1 rfl rfl ?_
  refine o_pk (.t (.d (.lit (.bool true)))) (b := true) h1 (g0 rfl) rfl rfl rfl rfl rfl ?_
  refine o_nil ?_
  repeat (first | refine k1 ?_ | refine k4 ?_)
  refine c_t rfl rfl ?_
  refine c_sr ?_
  refine o_s (.t (.d (.lit (.bool false)))) (g0 rfl) rfl rfl rfl ?_
  refine o_nil ?_
  repeat (first | refine k1 ?_ | refine k4 ?_)
  refine c_ret ?_
  repeat (first | refine k3 ?_ | refine k5 ?_)
  obtain rfl := Option.some.inj h
  exact end0 rfl (.refl _)
 ·
  refine o_s (.t (.d (.lit (.string ⟨⟨p0⟩⟩)))) (gy rfl rfl rfl h1) rfl rfl rfl ?_
  refine o_s (.t (.d (.lit (.int .i64 (p0.length : Int))))) (gy rfl rfl rfl h1) rfl rfl rfl ?_
  refine o_s (.t (.d (.lit (.bool (decide ((p0.length : Int) > 12)))))) (gy rfl rfl rfl h1) rfl rfl rfl ?_
  refine o_pk (.t (.d (.lit (.bool (decide ((p0.length : Int) > 12)))))) (b := false) h1 (g0 rfl) rfl rfl rfl rfl rfl ?_
  refine o_nil ?_
  repeat (first | refine k1 ?_ | refine k4 ?_)
  rcases bif_some h with ⟨h2, h⟩ | ⟨h2, h⟩
  ·
   refine c_t h2 rfl ?_
   refine c_sr ?_
   refine o_s (.t (.d (.lit (.bool false)))) (g0 rfl) rfl rfl rfl ?_
   refine o_nil ?_
   repeat (first | refine k1 ?_ | refine k4 ?_)
   refine c_ret ?_
   repeat (first | refine k3 ?_ | refine k5 ?_)
   obtain rfl := Option.some.inj h
   exact end0 rfl (.refl _)
  ·
   refine c_f h2 rfl ?_
   refine c_skip ?_
   repeat (first | refine k1 ?_ | refine k4 ?_)
   refine c_seq ?_
   refine c_sr ?_
   refine o_s (.t (.d (.lit (.int .i64 0)))) (g0 rfl) rfl rfl rfl ?_
   refine o_nil ?_
   repeat (first | refine k1 ?_ | refine k4 ?_)
   refine c_block ?_
   refine c_fuel (fun (z3 : Int) => [(0, .t (.d (.lit (.string ⟨⟨p0⟩⟩)))), (3, .t (.d (.lit (.int .i64 z3))))]) (fun nl1 => (fun (z3 : Int) => m_R25_Name_l1 p0 nl1 z3 = some r)) (p0.length + 1) 0 h ⟨(.refl _), ⟨(.refl _), trivial⟩⟩ rfl ?_
   rintro nl1 z3 h
   cases nl1 with
   | zero => exact none_ne h
   | succ nl1 =>
    refine c_seq ?_
    refine c_sr ?_
    refine o_s (.t (.d (.lit (.int .i64 z3)))) (g0 rfl) rfl rfl rfl ?_
    refine o_s (.t (.d (.lit (.string ⟨⟨p0⟩⟩)))) (g0 rfl) rfl rfl rfl ?_
    refine o_s (.t (.d (.lit (.int .i64 (p0.length : Int))))) (g0 rfl) rfl rfl rfl ?_
    refine o_s (.t (.d (.lit (.bool (decide (z3 < (p0.length : Int))))))) (g0 rfl) rfl rfl rfl ?_
    refine o_nil ?_
    repeat (first | refine k1 ?_ | refine k4 ?_)
    rcases bif_some h with ⟨h4, h⟩ | ⟨h4, h⟩
    ·
     refine c_t h4 rfl ?_
     refine c_skip ?_
     repeat (first | refine k1 ?_ | refine k4 ?_)
     refine c_cut (fun (_ : Unit) => [(0, .t (.d (.lit (.string ⟨⟨p0⟩⟩)))), (3, .t (.d (.lit (.int .i64 z3))))]) (fun (_ : Unit) => m_R25_Name_j2 (m_R25_Name_l1 p0 nl1) z3 = some r) ?_ ?_
     ·
      refine c_block ?_
      refine c_cut (fun (y5 : Bool) => [(0, .t (.d (.lit (.string ⟨⟨p0⟩⟩)))), (3, .t (.d (.lit (.int .i64 z3)))), (4, .t (.d (.lit (.bool y5))))]) (fun (y5 : Bool) => m_R25_Name_j3 (m_R25_Name_l1 p0 nl1) p0 z3 y5 = some r) ?_ ?_
      ·
       refine c_region ?_
       refine o_s (.t (.d (.lit (.string ⟨⟨p0⟩⟩)))) (g0 rfl) rfl rfl rfl ?_
       refine o_s (.t (.d (.lit (.int .i64 z3)))) (g0 rfl) rfl rfl rfl ?_
       obtain ⟨x14, h15, h⟩ := bind_some h
       refine o_c (g0 rfl) rfl rfl rfl (strIdxE h15) (strIdxC h15) ?_
       refine o_s (.t (.d (.lit (.bool (decide ((x14.toNat : Int) ≥ 97)))))) (g0 rfl) rfl rfl rfl ?_
       refine o_s (.t (.d (.lit (.bool (decide ((x14.toNat : Int) ≥ 97)))))) (g0 rfl) rfl rfl rfl ?_
       rcases bif_some h with ⟨h16, h⟩ | ⟨h16, h⟩
       ·
        refine o_s (.t (.d (.lit (.string ⟨⟨p0⟩⟩)))) (gy rfl rfl rfl h16) rfl rfl rfl ?_
        refine o_s (.t (.d (.lit (.int .i64 z3)))) (gy rfl rfl rfl h16) rfl rfl rfl ?_
        obtain ⟨x17, h18, h⟩ := bind_some h
        refine o_c (gy rfl rfl rfl h16) rfl rfl rfl (strIdxE h18) (strIdxC h18) ?_
        refine o_s (.t (.d (.lit (.bool (decide ((x17.toNat : Int) ≤ 122)))))) (gy rfl rfl rfl h16) rfl rfl rfl ?_
        refine o_pk (.t (.d (.lit (.bool (decide ((x17.toNat : Int) ≤ 122)))))) (b := true) h16 (g0 rfl) rfl rfl rfl rfl rfl ?_
        refine o_s (.t (.d (.lit (.bool (decide ((x17.toNat : Int) ≤ 122)))))) (g0 rfl) rfl rfl rfl ?_
        refine o_nil ?_
        repeat (first | refine k1 ?_ | refine k4 ?_)
        exact ⟨(decide ((x17.toNat : Int) ≤ 122)), h, ⟨(.refl _), ⟨(.refl _), ⟨(.refl _), trivial⟩⟩⟩, rfl⟩
       ·
        refine o_skip rfl rfl rfl h16 rfl rfl ?_
        refine o_skip rfl rfl rfl h16 rfl rfl ?_
        refine o_skip rfl rfl rfl h16 rfl rfl ?_
        refine o_skip rfl rfl rfl h16 rfl rfl ?_
        refine o_pk (.t (.d (.lit (.bool false)))) (b := false) h16 (g0 rfl) rfl rfl rfl rfl rfl ?_
        refine o_s (.t (.d (.lit (.bool false)))) (g0 rfl) rfl rfl rfl ?_
        refine o_nil ?_
        repeat (first | refine k1 ?_ | refine k4 ?_)
        exact ⟨false, h, ⟨(.refl _), ⟨(.refl _), ⟨(.refl _), trivial⟩⟩⟩, rfl⟩
      ·
       rintro y5 h
       refine c_cut (fun (y6 : Bool) => [(0, .t (.d (.lit (.string ⟨⟨p0⟩⟩)))), (3, .t (.d (.lit (.int .i64 z3)))), (4, .t (.d (.lit (.bool y5)))), (5, .t (.d (.lit (.bool y6))))]) (fun (y6 : Bool) => m_R25_Name_j4 (m_R25_Name_l1 p0 nl1) y5 z3 y6 = some r) ?_ ?_
       ·
        refine c_region ?_
        refine o_s (.t (.d (.lit (.string ⟨⟨p0⟩⟩)))) (g0 rfl) rfl rfl rfl ?_
        refine o_s (.t (.d (.lit (.int .i64 z3)))) (g0 rfl) rfl rfl rfl ?_
        obtain ⟨x9, h10, h⟩ := bind_some h
        refine o_c (g0 rfl) rfl rfl rfl (strIdxE h10) (strIdxC h10) ?_
        refine o_s (.t (.d (.lit (.bool (decide ((x9.toNat : Int) ≥ 48)))))) (g0 rfl) rfl rfl rfl ?_
        refine o_s (.t (.d (.lit (.bool (decide ((x9.toNat : Int) ≥ 48)))))) (g0 rfl) rfl rfl rfl ?_
        rcases bif_some h with ⟨h11, h⟩ | ⟨h11, h⟩
        ·
         refine o_s (.t (.d (.lit (.string ⟨⟨p0⟩⟩)))) (gy rfl rfl rfl h11) rfl rfl rfl ?_
         refine o_s (.t (.d (.lit (.int .i64 z3)))) (gy rfl rfl rfl h11) rfl rfl rfl ?_
         obtain ⟨x12, h13, h⟩ := bind_some h
         refine o_c (gy rfl rfl rfl h11) rfl rfl rfl (strIdxE h13) (strIdxC h13) ?_
         refine o_s (.t (.d (.lit (.bool (decide ((x12.toNat : Int) ≤ 57)))))) (gy rfl rfl rfl h11) rfl rfl rfl ?_
         refine o_pk (.t (.d (.lit (.bool (decide ((x12.toNat : Int) ≤ 57)))))) (b := true) h11 (g0 rfl) rfl rfl rfl rfl rfl ?_
         refine o_s (.t (.d (.lit (.bool (decide ((x12.toNat : Int) ≤ 57)))))) (g0 rfl) rfl rfl rfl ?_
         refine o_nil ?_
         repeat (first | refine k1 ?_ | refine k4 ?_)
         exact ⟨(decide ((x12.toNat : Int) ≤ 57)), h, ⟨(.refl _), ⟨(.refl _), ⟨(.refl _), ⟨(.refl _), trivial⟩⟩⟩⟩, rfl⟩
        ·
         refine o_skip rfl rfl rfl h11 rfl rfl ?_
         refine o_skip rfl rfl rfl h11 rfl rfl ?_
         refine o_skip rfl rfl rfl h11 rfl rfl ?_
         refine o_skip rfl rfl rfl h11 rfl rfl ?_
         refine o_pk (.t (.d (.lit (.bool false)))) (b := false) h11 (g0 rfl) rfl rfl rfl rfl rfl ?_
         refine o_s (.t (.d (.lit (.bool false)))) (g0 rfl) rfl rfl rfl ?_
         refine o_nil ?_
         repeat (first | refine k1 ?_ | refine k4 ?_)
         exact ⟨false, h, ⟨(.refl _), ⟨(.refl _), ⟨(.refl _), ⟨(.refl _), trivial⟩⟩⟩⟩, rfl⟩
       ·
        rintro y6 h
        refine c_sr ?_
        refine o_s (.t (.d (.lit (.bool y5)))) (g0 rfl) rfl rfl rfl ?_
        refine o_s (.t (.d (.lit (.bool (!y5))))) (g0 rfl) rfl rfl rfl ?_
        refine o_s (.t (.d (.lit (.bool (!y5))))) (g0 rfl) rfl rfl rfl ?_
        rcases bif_some h with ⟨h7, h⟩ | ⟨h7, h⟩
        ·
         refine o_s (.t (.d (.lit (.bool y6)))) (gy rfl rfl rfl h7) rfl rfl rfl ?_
         refine o_s (.t (.d (.lit (.bool (!y6))))) (gy rfl rfl rfl h7) rfl rfl rfl ?_
         refine o_pk (.t (.d (.lit (.bool (!y6))))) (b := true) h7 (g0 rfl) rfl rfl rfl rfl rfl ?_
         refine o_nil ?_
         repeat (first | refine k1 ?_ | refine k4 ?_)
         rcases bif_some h with ⟨h8, h⟩ | ⟨h8, h⟩
         ·
          refine c_t h8 rfl ?_
          refine c_sr ?_
          refine o_s (.t (.d (.lit (.bool false)))) (g0 rfl) rfl rfl rfl ?_
          refine o_nil ?_
          repeat (first | refine k1 ?_ | refine k4 ?_)
          refine c_ret ?_
          repeat (first | refine k3 ?_ | refine k5 ?_)
          obtain rfl := Option.some.inj h
          exact end0 rfl (.refl _)
         ·
          refine c_f h8 rfl ?_
          refine c_skip ?_
          repeat (first | refine k1 ?_ | refine k4 ?_)
          exact ⟨(), h, ⟨(.refl _), ⟨(.refl _), trivial⟩⟩, rfl⟩
        ·
         refine o_skip rfl rfl rfl h7 rfl rfl ?_
         refine o_skip rfl rfl rfl h7 rfl rfl ?_
         refine o_pk (.t (.d (.lit (.bool false)))) (b := false) h7 (g0 rfl) rfl rfl rfl rfl rfl ?_
         refine o_nil ?_
         repeat (first | refine k1 ?_ | refine k4 ?_)
         refine c_f rfl rfl ?_
         refine c_skip ?_
         repeat (first | refine k1 ?_ | refine k4 ?_)
         exact ⟨(), h, ⟨(.refl _), ⟨(.refl _), trivial⟩⟩, rfl⟩
     ·
      rintro ⟨⟩ h
      refine c_region ?_
      refine o_s (.t (.d (.lit (.int .i64 z3)))) (g0 rfl) rfl rfl rfl ?_
      refine o_s (.t (.d (.lit (.int .i64 (wi (z3 + 1)))))) (g0 rfl) rfl rfl rfl ?_
      refine o_s (.t (.d (.lit (.int .i64 (wi (z3 + 1)))))) (g0 rfl) rfl rfl rfl ?_
      refine o_nil ?_
      repeat (first | refine k1 ?_ | refine k4 ?_)
      exact ⟨nl1, (wi (z3 + 1)), Nat.lt_succ_self nl1, h, ⟨(.refl _), ⟨(.refl _), trivial⟩⟩, rfl⟩
    ·
     refine c_f h4 rfl ?_
     refine c_exit ?_
     repeat (first | refine k1 ?_ | refine k2 ?_ | refine k3 ?_ | refine k4 ?_ | refine k5 ?_ | refine k6 ?_ | refine k7 rfl ?_)
     refine c_sr ?_
     refine o_s (.t (.d (.lit (.bool true)))) (g0 rfl) rfl rfl rfl ?_
     refine o_nil ?_
     repeat (first | refine k1 ?_ | refine k4 ?_)
     refine c_ret ?_
     repeat (first | refine k3 ?_ | refine k5 ?_)
     obtain rfl := Option.some.inj h
     exact end0 rfl (.refl _)

end Go.Proofs.Ytikaahmonocahaa
