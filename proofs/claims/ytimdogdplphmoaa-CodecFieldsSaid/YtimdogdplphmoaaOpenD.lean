/-
  What came in: from the reading of the arguments to data.
-/
import Derived.Test.YtimdogdplphmoaaV
import Derived.Test.YtimdogdplphmoaaOpen
namespace Go.Proofs.Ytimdogdplphmoaa
open Go Go.RowKit Go.ChangeShapes Go.WideShapes Go.ChangeAt
set_option linter.unusedVariables false

/-- All that a world's cells hold. -/
def memW (w : World) : Mem := fun b p => w.cell? ⟨b, p, none⟩
theorem memW_sat (w : World) : ∀ b p u, memW w b p = some u → w.cell? ⟨b, p, none⟩ = some u := fun _ _ _ h => h
theorem seqD_mk {m : Mem} {k : Nat} {l : List (List D)} {A' : Option Addr} {cap g o : Nat} (hcap : l.length ≤ cap) (hmax : cap ≤ maxLen) (hA : l ≠ [] → A' = some ⟨g, o, none⟩)
    (h : ∀ (i : Nat) (r : List D), l[i]? = some r → r.length = k ∧ ∀ (j : Nat) (d : D), r[j]? = some d → ∃ u, m g (o + i * k + j) = some u ∧ RepD m d u) : RepD m (.seq k l) (.slice A' l.length cap) := by
  refine .seq k l A' cap g o (fun i j => (m g (o + i * k + j)).getD undef) hcap hmax hA (fun i r hi => (h i r hi).1) (fun i r j d hi hj => ?_) (fun i r j d hi hj => ?_)
  · obtain ⟨u, h1, _⟩ := (h i r hi).2 j d hj
    rw [h1]
    rfl
  · obtain ⟨u, h1, h2⟩ := (h i r hi).2 j d hj
    rw [h1]
    exact h2
theorem seqD_of_byt {w : World} {A' : Option Addr} {bs : List UInt8} {c : Nat} (h : Byt w A' bs) (hc : bs.length ≤ c) (hm : c ≤ maxLen) : RepD (memW w) (.seq 1 (bytesD bs)) (.slice A' bs.length c) := by
  have hl : (bytesD bs).length = bs.length := bytesD_length bs
  have hb : ∀ (i : Nat) (r : List D), (bytesD bs)[i]? = some r → ∃ hi : i < bs.length, r = [D.lit (.int .u8 (bs[i].toNat : Int))] := by
    intro i r hi
    have hlt : i < bs.length := by rw [← hl]; exact (List.getElem?_eq_some_iff.1 hi).1
    refine ⟨hlt, ?_⟩
    unfold bytesD at hi
    rw [List.getElem?_map, List.getElem?_eq_getElem hlt] at hi
    injection hi with hi
    exact hi.symm
  by_cases he : bs = []
  · subst he
    exact .seq 1 [] A' c 0 0 (fun _ _ => undef) (by simp) hm (fun h => absurd rfl h) (fun i r h => by simp at h) (fun i r j d h => by simp at h) (fun i r j d h => by simp at h)
  · have hpos : 0 < bs.length := List.length_pos_iff.2 he
    obtain ⟨ad, e, hc0⟩ := h.at_ (j := 0) hpos
    have hs : ad.spot = none := by
      have := World.cell?_spot hc0
      simpa [Addr.add] using this
    obtain ⟨g, p, sp⟩ := ad
    simp only at hs
    subst hs
    have := seqD_mk (m := memW w) (k := 1) (l := bytesD bs) (A' := A') (cap := c) (g := g) (o := p) (by omega) hm (fun _ => e) (fun i r hi => ?_)
    · rwa [hl] at this
    · obtain ⟨hlt, rfl⟩ := hb i r hi
      refine ⟨rfl, fun j d hj => ?_⟩
      cases j with
      | succ j => simp at hj
      | zero =>
        injection hj with hj
        subst hj
        obtain ⟨ad', e', hci⟩ := h.at_ (j := i) hlt
        rw [e] at e'
        injection e' with e'
        subst e'
        rw [Addr.add_mid] at hci
        exact ⟨_, by rw [Nat.mul_one, Nat.add_zero]; exact hci, .lit _ rfl⟩

theorem bytD_of {H : Type} {enc : TypeId × Value → H} {w : World} {base : Nat} {spare : Nat → Bool} {held : Bool} {fuel : Nat} {cs : List Value} {x : DataW H × List MemPlace}
    (h : DataW.trod enc Try.prog w base spare held fuel 22 cs = some x) : ∃ (bs : List UInt8) (u : Value), cs = [u] ∧ RepD (memW w) (.seq 1 (bytesD bs)) u := by
  obtain ⟨A', bs, c, e, hb, hc, hm⟩ := byt_of h
  exact ⟨bs, _, e, seqD_of_byt hb hc hm⟩

theorem intsD_of {H : Type} {enc : TypeId × Value → H} {w : World} {base : Nat} {spare : Nat → Bool} {held : Bool} {fuel : Nat} {cs : List Value} {x : DataW H × List MemPlace}
    (h : DataW.trod enc Try.prog w base spare held fuel 41 cs = some x) : ∃ (ks : List Int) (u : Value), cs = [u] ∧ RepD (memW w) (.seq 1 (ks.map fun n => [.lit (.int .i64 n)])) u := by
  rcases open_ints Try.underlying41 Try.underlying3 cellsI h with ⟨hcs, _⟩ | ⟨a, len, cap, zs, hcs, _, hl, hm, hz, _, hcell, hwz⟩
  · exact ⟨[], _, hcs, RepD.nilSeq _ _⟩
  · have hzl : len ≤ zs.length := by rw [hz]; split <;> omega
    have htl : (zs.take len).length = len := by rw [List.length_take]; omega
    refine ⟨zs.take len, _, hcs, ?_⟩
    by_cases h0 : len = 0
    · subst h0
      exact .seq 1 [] _ cap 0 0 (fun _ _ => undef) (by simp) hm (fun h => absurd rfl h) (fun i r h => by simp at h) (fun i r j d h => by simp at h) (fun i r j d h => by simp at h)
    · have hs : a.spot = none := by
        have := World.cell?_spot (hcell 0 (by omega))
        simpa [Addr.add] using this
      obtain ⟨g, p, sp⟩ := a
      simp only at hs
      subst hs
      have := seqD_mk (m := memW w) (k := 1) (l := (zs.take len).map fun n => [D.lit (.int .i64 n)]) (A' := some ⟨g, p, none⟩) (cap := cap) (g := g) (o := p) (by simp; omega) hm (fun _ => rfl) (fun i r hi => ?_)
      · rwa [List.length_map, htl] at this
      · rw [List.getElem?_map] at hi
        have hlt : i < len := by
          rcases Nat.lt_or_ge i len with g | g
          · exact g
          · rw [List.getElem?_eq_none (by omega)] at hi; cases hi
        rw [List.getElem?_take, if_pos hlt, List.getElem?_eq_getElem (by omega)] at hi
        injection hi with hi
        subst hi
        refine ⟨rfl, fun j d hj => ?_⟩
        cases j with
        | succ j => simp at hj
        | zero =>
          injection hj with hj
          subst hj
          have hc := hcell i (by omega)
          rw [Addr.add_mid] at hc
          refine ⟨_, by rw [Nat.mul_one, Nat.add_zero]; exact hc, ?_⟩
          simp [show i < zs.length by omega]
          exact .lit _ rfl

theorem repl4 {m : Mem} {x0 x1 x2 x3 : D} {u0 u1 u2 u3 : Value} (h0 : RepD m x0 u0) (h1 : RepD m x1 u1) (h2 : RepD m x2 u2) (h3 : RepD m x3 u3) : RepL m [x0, x1, x2, x3] [u0, u1, u2, u3] := by
  refine ⟨rfl, fun j d hj => ?_⟩
  match j, hj with
  | 0, hj => injection hj with hj; subst hj; exact ⟨u0, rfl, h0⟩
  | 1, hj => injection hj with hj; subst hj; exact ⟨u1, rfl, h1⟩
  | 2, hj => injection hj with hj; subst hj; exact ⟨u2, rfl, h2⟩
  | 3, hj => injection hj with hj; subst hj; exact ⟨u3, rfl, h3⟩
  | j + 4, hj => simp at hj

theorem valD_of {H : Type} {enc : TypeId × Value → H} {w : World} {base : Nat} {spare : Nat → Bool} {held : Bool} : ∀ (fuel : Nat) (cs : List Value) (x : DataW H × List MemPlace),
    DataW.trod enc Try.prog w base spare held fuel 30 cs = some x → ∃ v : V, RepL (memW w) v.top cs := by
  intro fuel
  induction fuel using Nat.strongRecOn with
  | _ fuel ih =>
    intro cs x h
    obtain ⟨xs, n, rfl, _, hl, hxl, hf⟩ := DataW.trod_struct Try.underlying30 h
    rw [cellsV] at hl
    match cs, hl with
    | [c0, c1, c2, c3], _ =>
      match xs, hxl with
      | [y0, y1, y2, y3], _ =>
        have f0 := hf 0 _ rfl
        have f1 := hf 1 _ rfl
        have f2 := hf 2 _ rfl
        have f3 := hf 3 _ rfl
        simp [cellsI] at f0
        simp [cellsI] at f1
        simp [cellsB] at f2
        simp [cellsL] at f3
        obtain ⟨k, e0, _, w0⟩ := DataW.trod_int Try.underlying3 f0
        obtain ⟨m, e1, _, w1⟩ := DataW.trod_int Try.underlying3 f1
        obtain ⟨bs, u2, e2, hb⟩ := bytD_of f2
        simp at e0 e1 e2
        subst e0 e1 e2
        rcases DataW.trod_slice Try.underlying28 f3 with ⟨e3, _⟩ | ⟨a, len, cap, elems, rest, n2, hn2, e3, _, hba, hlc, hcm, hel, hev, _⟩
        · simp at e3
          subst e3
          exact ⟨.mk k m bs [], repl4 (.lit _ rfl) (.lit _ rfl) hb (RepD.nilSeq _ _)⟩
        · simp at e3
          subst e3
          have get : ∀ i, i < len → ∃ v : V, ∃ cs' : List Value, cs'.length = 4 ∧ (∀ j u, cs'[j]? = some u → w.cell? ((a.add (i * 4)).add j) = some u) ∧ RepL (memW w) v.top cs' := by
            intro i hi
            have h1 := hev i hi
            obtain ⟨y, hy⟩ : ∃ y, elems[i]? = some y := ⟨elems[i], List.getElem?_eq_getElem (by omega)⟩
            rw [hy, cellsV] at h1
            obtain ⟨cs', hcs', ht⟩ := Option.bind_eq_some_iff.1 h1
            obtain ⟨_, hc2, hc3⟩ := World.cells?_some hcs'
            obtain ⟨v, hrep⟩ := ih n2 (by omega) cs' y ht
            refine ⟨v, cs', by have := hrep.1; simpa using this, fun j u hu => ?_, hrep⟩
            have hjl : j < cs'.length := (List.getElem?_eq_some_iff.1 hu).1
            have hg := hc3 j (by omega)
            rw [hg, ← hu]
          by_cases h0 : len = 0
          · subst h0
            refine ⟨.mk k m bs [], repl4 (.lit _ rfl) (.lit _ rfl) hb ?_⟩
            exact .seq 4 [] _ cap 0 0 (fun _ _ => undef) (by simp) hcm (fun h => absurd rfl h) (fun i r h => by simp at h) (fun i r j d h => by simp at h) (fun i r j d h => by simp at h)
          · have hs : a.spot = none := by
              obtain ⟨v, cs', hl4, hcell, _⟩ := get 0 (by omega)
              have := World.cell?_spot (hcell 0 _ (List.getElem?_eq_getElem (by omega)))
              simpa [Addr.add] using this
            obtain ⟨g, o, sp⟩ := a
            simp only at hs
            subst hs
            obtain ⟨l, hll, hlp⟩ := list_of (fun i (v : V) => ∃ cs' : List Value, cs'.length = 4 ∧ (∀ j u, cs'[j]? = some u → w.cell? ⟨g, o + i * 4 + j, none⟩ = some u) ∧ RepL (memW w) v.top cs') len (fun i hi => by
              obtain ⟨v, cs', h1, h2, h3⟩ := get i hi
              refine ⟨v, cs', h1, fun j u hu => ?_, h3⟩
              have := h2 j u hu
              rwa [Addr.add_mid, Addr.add_mid] at this)
            refine ⟨.mk k m bs l, repl4 (.lit _ rfl) (.lit _ rfl) hb ?_⟩
            have := seqD_mk (m := memW w) (k := 4) (l := l.map V.cells) (A' := some ⟨g, o, none⟩) (cap := cap) (g := g) (o := o) (by simp; omega) hcm (fun _ => rfl) (fun i r hi => ?_)
            · rwa [List.length_map, hll] at this
            · rw [List.getElem?_map] at hi
              have hlt : i < l.length := by
                rcases Nat.lt_or_ge i l.length with g | g
                · exact g
                · rw [List.getElem?_eq_none g] at hi; cases hi
              rw [List.getElem?_eq_getElem hlt] at hi
              injection hi with hi
              subst hi
              rw [V.cells_eq]
              refine ⟨rfl, fun j d hj => ?_⟩
              obtain ⟨cs', h1, h2, h3⟩ := hlp i hlt
              obtain ⟨u, k1, k2⟩ := h3.2 j d hj
              exact ⟨u, h2 j u k1, k2⟩

/-- A law that returns true, called with what came in. -/
theorem fc_law {f : FuncId} {args : List A} (h : FC Try.prog f args [] (boolA true)) {w : World} {vals : Array Value} (hs : vals.size = args.length) (hsat : ∀ b p u, memW w b p = some u → w.cell? ⟨b, p, none⟩ = some u) (hr : ∀ s, RepA (memW w) w (fun _ => none) (argS args) s (argS args s) (vals.getD s undef)) :
    Calls Try.prog f vals w fun e w' => e = .returned (.bool true) ∧ Below w.heap.size w w' := by
  refine (h w (memW w) (fun _ => none) vals hsat (fun _ _ h => by cases h) (fun _ _ _ h => by cases h) hs hr).mono ?_
  rintro e w' ⟨u, m', o', S', a', ρ, rfl, J, hu, _⟩
  have hS : Same (fun _ => False) w w' := J.same.weaken fun g h => h rfl
  have hu : RepD m' (.lit (.bool true)) u := hu
  cases hu
  exact ⟨rfl, hS.below⟩
end Go.Proofs.Ytimdogdplphmoaa
