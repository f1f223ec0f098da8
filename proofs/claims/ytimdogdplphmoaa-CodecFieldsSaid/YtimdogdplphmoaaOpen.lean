/-
  A value that came in: from the reading of the arguments to plain data and how they lie in memory.
-/
import Derived.Test.YtimdogdplphmoaaVal
import Derived.Test.YtimdogdplphmoaaProg
import Derived.ProofKit
import Derived.Lib.SmallJoins
namespace Go.Proofs.Ytimdogdplphmoaa
open Go.RowKit Go.ChangeShapes Go.WideShapes Go.ChangeAt

theorem cellsV : Try.prog.cellsOf 30 = 4 := by kernel_rfl
theorem cellsI : Try.prog.cellsOf 3 = 1 := by kernel_rfl
theorem cellsB : Try.prog.cellsOf 22 = 1 := by kernel_rfl
theorem cellsL : Try.prog.cellsOf 28 = 1 := by kernel_rfl
theorem cellsU : Try.prog.cellsOf 5 = 1 := by kernel_rfl

theorem list_of {α : Type} (P : Nat → α → Prop) : ∀ n : Nat, (∀ i, i < n → ∃ x, P i x) → ∃ l : List α, l.length = n ∧ ∀ i (h : i < l.length), P i l[i]
  | 0, _ => ⟨[], rfl, fun i h => absurd h (by simp)⟩
  | n + 1, h => by
    obtain ⟨l, hl, hp⟩ := list_of P n fun i hi => h i (by omega)
    obtain ⟨x, hx⟩ := h n (by omega)
    refine ⟨l ++ [x], by simp [hl], fun i hi => ?_⟩
    by_cases h1 : i < l.length
    · rw [List.getElem_append_left h1]; exact hp i h1
    · have : i = n := by simp at hi; omega
      subst this
      rw [List.getElem_append_right (by omega)]
      simpa [hl] using hx

/-- Bytes that came in. -/
theorem byt_of {H : Type} {enc : TypeId × Value → H} {w : World} {base : Nat} {spare : Nat → Bool} {held : Bool} {fuel : Nat} {cs : List Value} {x : DataW H × List MemPlace}
    (h : DataW.trod enc Try.prog w base spare held fuel 22 cs = some x) : ∃ (A : Option Addr) (bs : List UInt8) (c : Nat), cs = [.slice A bs.length c] ∧ Byt w A bs ∧ bs.length ≤ c ∧ c ≤ maxLen := by
  rcases open_ints Try.underlying22 Try.underlying5 cellsU h with ⟨hcs, _⟩ | ⟨a, len, cap, zs, hcs, _, hl, hm, hz, _, hcell, hwz⟩
  · exact ⟨none, [], 0, hcs, Byt.nil _ _, Nat.le_refl _, by unfold maxLen; omega⟩
  · obtain ⟨bs, e, l⟩ := bytes_of_wf zs hwz
    have hzl : len ≤ zs.length := by rw [hz]; split <;> omega
    have htl : (bs.take len).length = len := by rw [List.length_take, l]; omega
    refine ⟨some a, bs.take len, cap, by rw [htl]; exact hcs, Byt.take ?_ _, by rw [htl]; exact hl, hm⟩
    intro j u hu
    rw [← e] at hu
    have hj : j < zs.length := by
      rcases Nat.lt_or_ge j zs.length with g | g
      · exact g
      · rw [List.getElem?_eq_none (by simpa using g)] at hu; cases hu
    refine ⟨a, rfl, ?_⟩
    rw [hcell j hj]
    simpa [hj] using hu

theorem rep_of {H : Type} {enc : TypeId × Value → H} {w : World} {base : Nat} {spare : Nat → Bool} {held : Bool} : ∀ (fuel : Nat) (cs : List Value) (x : DataW H × List MemPlace),
    DataW.trod enc Try.prog w base spare held fuel 30 cs = some x →
    ∃ (v : V) (A : Option Addr) (cb : Nat) (A' : Option Addr) (cl : Nat), cs = [.int .i64 v.k, .int .i64 v.n, .slice A v.b.length cb, .slice A' v.l.length cl] ∧ Rep w v A cb A' cl := by
  intro fuel
  induction fuel using Nat.strongRecOn with
  | _ fuel ih =>
    intro cs x h
    obtain ⟨xs, n, rfl, _, hl, hxl, hf⟩ := DataW.trod_struct Try.underlying30 h
    rw [cellsV] at hl
    match cs, hl with
    | [c0, c1, c2, c3], _ =>
      match xs, hxl with
      | [y0, y1, y2, y3], _ =>
        have f0 := hf 0 _ rfl
        have f1 := hf 1 _ rfl
        have f2 := hf 2 _ rfl
        have f3 := hf 3 _ rfl
        simp [cellsI] at f0
        simp [cellsI] at f1
        simp [cellsB] at f2
        simp [cellsL] at f3
        obtain ⟨k, e0, _, w0⟩ := DataW.trod_int Try.underlying3 f0
        obtain ⟨m, e1, _, w1⟩ := DataW.trod_int Try.underlying3 f1
        obtain ⟨A, bs, cb, e2, hb, hbc, _⟩ := byt_of f2
        rcases DataW.trod_slice Try.underlying28 f3 with ⟨e3, _⟩ | ⟨a, len, cap, elems, rest, n2, hn2, e3, _, hba, hlc, hcm, hel, hev, _⟩
        · refine ⟨.mk k m bs [], A, cb, none, 0, ?_, ?_⟩
          · simp at e0 e1 e2 e3
            rw [e0, e1, e2, e3]
            rfl
          · exact Rep.mk' hb hbc ⟨Nat.le_refl _, by unfold maxLen; omega⟩ w0 w1 ((items_iff _ 0).2 fun j hj => absurd hj (by simp [V.l]))
        · have get : ∀ i, i < len → ∃ (v : V) (B : Option Addr) (c1 : Nat) (B' : Option Addr) (c2 : Nat), w.cell? (a.add (i * 4)) = some (.int .i64 v.k) ∧ w.cell? (a.add (i * 4 + 1)) = some (.int .i64 v.n) ∧ w.cell? (a.add (i * 4 + 2)) = some (.slice B v.b.length c1) ∧
              w.cell? (a.add (i * 4 + 3)) = some (.slice B' v.l.length c2) ∧ Rep w v B c1 B' c2 := by
            intro i hi
            have h1 := hev i hi
            obtain ⟨y, hy⟩ : ∃ y, elems[i]? = some y := ⟨elems[i], List.getElem?_eq_getElem (by omega)⟩
            rw [hy, cellsV] at h1
            obtain ⟨cs', hcs', ht⟩ := Option.bind_eq_some_iff.1 h1
            obtain ⟨_, hc2, hc3⟩ := World.cells?_some hcs'
            obtain ⟨v, B, c1', B', c2', hcv, hrep⟩ := ih n2 (by omega) cs' y ht
            subst hcv
            have g0 := hc3 0 (by omega)
            have g1 := hc3 1 (by omega)
            have g2 := hc3 2 (by omega)
            have g3 := hc3 3 (by omega)
            rw [add_add] at g0 g1 g2 g3
            exact ⟨v, B, c1', B', c2', g0, g1, g2, g3, hrep⟩
          have hitem : ∀ i, i < len → ∃ v : V, ItemAt w v (some a) i := by
            intro i hi
            have hs : a.spot = none := by
              obtain ⟨v, _, _, _, _, g0, _⟩ := get 0 (by omega)
              have := World.cell?_spot g0
              simpa [Addr.add] using this
            obtain ⟨g, o, sp⟩ := a
            simp only at hs
            subst hs
            obtain ⟨v, B, c1, B', c2, g0, g1, g2, g3, hrep⟩ := get i hi
            have ha : ∀ j, (⟨g, o, none⟩ : Addr).add j = ⟨g, o + j, none⟩ := fun j => by
              unfold Addr.add
              split
              · rename_i h0; rw [h0]; rfl
              · rfl
            rw [ha] at g0 g1 g2 g3
            exact ⟨v, g, o, B, c1, B', c2, rfl, g0, by rw [Nat.add_assoc]; exact g1, by rw [Nat.add_assoc]; exact g2, by rw [Nat.add_assoc]; exact g3, hrep⟩
          obtain ⟨l, hll, hlp⟩ := list_of (fun i v => ItemAt w v (some a) i) len hitem
          refine ⟨.mk k m bs l, A, cb, some a, cap, ?_, ?_⟩
          · simp at e0 e1 e2 e3
            rw [e0, e1, e2, e3, ← hll]
            rfl
          · exact Rep.mk' hb hbc ⟨by show l.length ≤ cap; omega, hcm⟩ w0 w1 ((items_iff _ 0).2 fun j hj => by rw [Nat.zero_add]; exact hlp j hj)
end Go.Proofs.Ytimdogdplphmoaa
