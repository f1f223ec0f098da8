/-
  Contracts of functions that read and write the heap; calls of them.
-/
import Derived.Test.YtimdogdplphmoaaDoorHpb
namespace Go.Proofs.YtimdogdplphmoaaDoor
open Go Go.RowKit
set_option linter.unusedVariables false

/-! ### Places in a list -/
def posN : List Nat → Nat → Option Nat
  | [], _ => none
  | x :: r, j => if x = j then some 0 else (posN r j).map (· + 1)
theorem posN_get : ∀ {σ : List Nat} {j i : Nat}, posN σ j = some i → σ[i]? = some j
  | [], _, _, h => by cases h
  | x :: r, j, i, h => by
    unfold posN at h
    split at h
    · rename_i e; injection h with h; subst h e; rfl
    · cases hq : posN r j with
      | none => rw [hq] at h; cases h
      | some q => rw [hq] at h; injection h with h; subst h; simpa using posN_get hq
theorem posN_of : ∀ {σ : List Nat} {j i : Nat}, σ.Nodup → σ[i]? = some j → posN σ j = some i
  | [], _, _, _, h => by simp at h
  | x :: r, j, i, hn, h => by
    unfold posN
    rw [List.nodup_cons] at hn
    cases i with
    | zero => injection h with h; rw [if_pos h]
    | succ i =>
      have h : r[i]? = some j := by simpa using h
      rw [if_neg (fun e => hn.1 (by rw [e]; exact List.mem_of_getElem? h)), posN_of hn.2 h]
      rfl
theorem posN_none {σ : List Nat} {j : Nat} (hn : σ.Nodup) (h : posN σ j = none) : j ∉ σ := by
  intro hm
  obtain ⟨i, hi⟩ := List.getElem?_of_mem hm
  rw [posN_of hn hi] at h
  cases h

def isObj (σ : List Nat) (t : Nat) : Prop := OB ≤ t ∧ t - OB ∈ σ
instance (σ : List Nat) (t : Nat) : Decidable (isObj σ t) := by unfold isObj; exact inferInstance
theorem isObj_of {σ : List Nat} {j : Nat} (h : j ∈ σ) : isObj σ (OB + j) := ⟨by omega, by rw [Nat.add_sub_cancel_left]; exact h⟩
theorem isObj_iff {σ : List Nat} {j : Nat} : isObj σ (OB + j) ↔ j ∈ σ := ⟨fun h => by have := h.2; rwa [Nat.add_sub_cancel_left] at this, isObj_of⟩
/-- The objects' boxes, as effects. -/
def putsO : List Nat → List A → Eff
  | j :: σ, l :: r => (OB + j, l) :: putsO σ r
  | _, _ => []
theorem puts_other : ∀ {σ : List Nat} {ls : List A} {S : Nat → A} {s : Nat}, ¬ isObj σ s → app S (putsO σ ls) s = S s
  | [], ls, S, s, _ => by cases ls <;> rfl
  | j :: σ, [], S, s, _ => rfl
  | j :: σ, l :: r, S, s, h => by
    show app (upd S (OB + j) l) (putsO σ r) s = _
    rw [puts_other (fun e => h ⟨e.1, List.mem_cons_of_mem _ e.2⟩), upd_other]
    intro e
    subst e
    exact h (isObj_of (by simp))
theorem puts_get : ∀ {σ : List Nat} {ls : List A} {S : Nat → A} {i j : Nat} {l : A}, σ.Nodup → σ[i]? = some j → ls[i]? = some l → app S (putsO σ ls) (OB + j) = l
  | [], ls, S, i, j, l, _, h, _ => by simp at h
  | x :: σ, [], S, i, j, l, _, _, h => by simp at h
  | x :: σ, y :: r, S, i, j, l, hn, h1, h2 => by
    rw [List.nodup_cons] at hn
    show app (upd S (OB + x) y) (putsO σ r) (OB + j) = _
    cases i with
    | zero =>
      injection h1 with h1
      injection h2 with h2
      subst h1 h2
      rw [puts_other (fun e => hn.1 (isObj_iff.1 e)), upd_same]
    | succ i => exact puts_get hn.2 (by simpa using h1) (by simpa using h2)
theorem app_append (S : Nat → A) (e e' : Eff) : app S (e ++ e') = app (app S e) e' := by unfold app; rw [List.foldl_append]

/-! ### Contracts -/
def argH (args : List A) (ins : List A) (f : Nat → A) : Nat → A := fun s => if s < OB then args.getD s .any else if OB2 ≤ s then san (f (s - OB2)) else match ins[s - OB]? with
  | some x => x
  | none => .free
def pinsH (n : Nat) : List Nat := (List.range n).map (OB + ·)
/-- Function fn, called with what args tell, with objects that hold what ins tell and with a heap that f tells, returns what r tells; the objects then hold what outs tell, the heap what f' tells. -/
def FCH (P : Program) (fn : FuncId) (args : List A) (ins outs : List A) (f f' : Nat → A) (r : A) : Prop :=
  ∀ (w : World) (m : Mem) (o : OwnM) (vals : Array Value), (∀ b p u, m b p = some u → w.cell? ⟨b, p, none⟩ = some u) → Mle TBL m → (∀ g l, o g = some l → g < w.heap.size) → (∀ g g' l, o g = some l → o g' = some l → g = g') → vals.size = args.length →
    (∀ s, RepA m w o (argH args ins f) s (argH args ins f s) (vals.getD s undef)) →
    Calls P fn vals w fun e w' => ∃ (u : Value) (m' : Mem) (o' : OwnM) (S' : Nat → A) (a' : Act) (ρ : Nat), e = .returned u ∧ Inv w m o (fun g => o g ≠ none) (pinsH ins.length) S' a' w' m' o' ∧ RepA m' w' o' S' ρ r u ∧ (∀ (i : Nat) (x : A), outs[i]? = some x → S' (OB + i) = x) ∧ (∀ c, S' (OB + (OB + c)) = san (f' c)) ∧ ρ < OB
/-- Cells that know no local object. -/
def T.isLoc : T → Bool | .ptr _ _ | .view _ _ _ _ _ => true | .mpt j => Nat.blt j OB | _ => false
def pureH (f : Nat → A) : Prop := ∀ c l, f c = .box l → ∀ x ∈ l, x.isLoc = false
theorem pure_san {f : Nat → A} (h : pureH f) (c : Nat) : ∀ l, san (f c) = .box l → ∀ x ∈ l, x.isLoc = false := by
  intro l hl
  cases hf : f c <;> rw [hf] at hl <;> cases hl
  exact h c _ hf

/-! ### Owners, as the callee numbers them -/
theorem low_ne {j c : Nat} (h : j < OB) : OB + j ≠ OB + (OB + c) := by omega
def movH (σ : List Nat) (o : OwnM) : OwnM := fun g => match o g with
  | some (s, k) => if OB2 ≤ s then some (s, k) else if OB ≤ s then (posN σ (s - OB)).map fun i => (OB + i, k) else none
  | none => none
theorem movH_iff {σ : List Nat} (hn : σ.Nodup) (hl : σ.length ≤ OB) (hs : ∀ j ∈ σ, j < OB) {o : OwnM} {g : Nat} {l : Nat × Nat} : movH σ o g = some l ↔ (∃ c, l.1 = OB + (OB + c) ∧ o g = some l) ∨ ∃ i j, l.1 = OB + i ∧ i < OB ∧ σ[i]? = some j ∧ o g = some (OB + j, l.2) := by
  unfold movH
  constructor
  · intro h
    split at h
    · rename_i s k hg
      split at h
      · rename_i h2
        injection h with h
        subst h
        exact .inl ⟨s - OB2, by rw [← ob2_eq]; show s = _; omega, hg⟩
      · split at h
        · rename_i h2 hs'
          cases hq : posN σ (s - OB) with
          | none => rw [hq] at h; cases h
          | some i =>
            rw [hq] at h
            injection h with h
            subst h
            have hi := posN_get hq
            exact .inr ⟨i, s - OB, rfl, by have := (List.getElem?_eq_some_iff.1 hi).1; omega, hi, by rw [show OB + (s - OB) = s by omega]; exact hg⟩
        · cases h
    · cases h
  · rintro (⟨c, h1, h2⟩ | ⟨i, j, h1, hi, h2, h3⟩)
    · obtain ⟨s, k⟩ := l
      have h1 : s = OB + (OB + c) := h1
      rw [h2]
      simp only
      rw [if_pos (by rw [h1, ← ob2_eq]; omega)]
    · obtain ⟨a, b⟩ := l
      have h1 : a = OB + i := h1
      subst h1
      have hj := hs j (List.mem_of_getElem? h2)
      rw [h3]
      simp only
      rw [if_neg (by unfold OB OB2 at *; omega), if_pos (by omega), Nat.add_sub_cancel_left, posN_of hn h2]
      rfl
def inH (τ : List Nat) (t : Nat) : Prop := OB2 ≤ t ∨ isObj τ t
instance (τ : List Nat) (t : Nat) : Decidable (inH τ t) := by unfold inH; exact inferInstance
def keptH (o : OwnM) (d : Nat) (τ : List Nat) : OwnM := fun g => match o g with
  | some (t, k) => if t = d ∨ inH τ t then none else some (t, k)
  | none => none
theorem keptH_iff {o : OwnM} {d : Nat} {τ : List Nat} {g : Nat} {l : Nat × Nat} : keptH o d τ g = some l ↔ l.1 ≠ d ∧ ¬ inH τ l.1 ∧ o g = some l := by
  unfold keptH
  constructor
  · intro h
    split at h
    · rename_i t k hg
      split at h
      · cases h
      · rename_i hn
        injection h with h
        subst h
        exact ⟨fun e => hn (.inl e), fun e => hn (.inr e), hg⟩
    · cases h
  · rintro ⟨h1, h2, h⟩
    obtain ⟨t, j⟩ := l
    rw [h]
    simp only
    rw [if_neg]
    rintro (e | e)
    · exact h1 e
    · exact h2 e
def mixH (o o' : OwnM) (d ρ : Nat) (τ : List Nat) : OwnM := fun g => match o' g with
  | some (t, k) => if t = ρ then some (d, k) else if OB2 ≤ t then some (t, k) else if OB ≤ t then (match τ[t - OB]? with
      | some j => some (OB + j, k)
      | none => keptH o d τ g) else keptH o d τ g
  | none => keptH o d τ g

/-! ### What goes over -/
/-- An address or a slice, as the callee numbers objects (x) and as the caller does (y). -/
inductive PtR (τ : List Nat) : T → T → Prop
  | flat {x : T} (h : x.isPt = false) : PtR τ x x
  | hpt (c off : Nat) : PtR τ (.hpt c off) (.hpt c off)
  | hvw (c off E k n : Nat) : PtR τ (.hvw c off E k n) (.hvw c off E k n)
  | view {i j off E k n : Nat} (h : τ[i]? = some j) : PtR τ (.view i off E k n) (.view j off E k n)
inductive PtRs (τ : List Nat) : List T → List T → Prop
  | nil : PtRs τ [] []
  | cons {x y : T} {l l' : List T} (h : PtR τ x y) (t : PtRs τ l l') : PtRs τ (x :: l) (y :: l')
theorem PtRs.get {τ : List Nat} {l l' : List T} (h : PtRs τ l l') : l'.length = l.length ∧ ∀ (j : Nat) (y : T), l'[j]? = some y → ∃ x, l[j]? = some x ∧ PtR τ x y := by
  induction h with
  | nil => exact ⟨rfl, fun j y h => by simp at h⟩
  | cons hx ht ih =>
    refine ⟨by simp [ih.1], fun j y hj => ?_⟩
    cases j with
    | zero => injection hj with hj; subst hj; exact ⟨_, rfl, hx⟩
    | succ j => simpa using ih.2 j y (by simpa using hj)
theorem PtRs.refl {τ : List Nat} : ∀ {l : List T}, l.all (fun x => !x.isPt) = true → PtRs τ l l
  | [], _ => .nil
  | x :: l, h => by
    simp only [List.all_cons, Bool.and_eq_true] at h
    exact .cons (.flat (by simpa using h.1)) (PtRs.refl h.2)
inductive ResH (τ : List Nat) : A → A → Prop
  | t {x y : T} (h : PtR τ x y) : ResH τ (.t x) (.t y)
  | tup {l l' : List T} (h : PtRs τ l l') : ResH τ (.tup l) (.tup l')
  | plain {x : A} (h : x.plain = true) : ResH τ x x
inductive ArgH (σ : List Nat) : A → A → Prop
  | plain {x y : A} (h : WkA x y) (hp : y.plain = true) : ArgH σ x y
  | hpt (c off : Nat) : ArgH σ (.t (.hpt c off)) (.t (.hpt c off))
  | hvw (c off E k n : Nat) : ArgH σ (.t (.hvw c off E k n)) (.t (.hvw c off E k n))
  | view {i j off E k n : Nat} (h : σ[i]? = some j) : ArgH σ (.t (.view j off E k n)) (.t (.view i off E k n))
inductive ArgsH (σ : List Nat) : List A → List A → Prop
  | nil : ArgsH σ [] []
  | cons {x y : A} {l l' : List A} (h : ArgH σ x y) (t : ArgsH σ l l') : ArgsH σ (x :: l) (y :: l')
/-- What a local object may hold: cells without addresses; whatever. -/
def A.flatO : A → Bool
  | .box l => noPt l
  | .any => true
  | _ => false
section
variable {m : Mem} {w : World} {o o' : OwnM}
theorem ptr_rep {τ : List Nat} (hh : ∀ g c, o g = some (OB + (OB + c), 0) → o' g = some (OB + (OB + c), 0)) (hl : ∀ g i j, τ[i]? = some j → o g = some (OB + i, 0) → o' g = some (OB + j, 0)) {loc loc' : Nat × Nat} (ho : ∀ g, o g = some loc → o' g = some loc') {x y : T} (hx : PtR τ x y) {v : Value} (h : RepT m w o loc x v) : RepT m w o' loc' y v := by
  cases hx with
  | flat hx => exact h.reloc ho hx |> fun h => h
  | hpt c off => obtain ⟨g, h1, h2⟩ := h; exact ⟨g, hh g c h1, h2⟩
  | hvw c off E k n =>
    obtain ⟨A', q, h1, h2, h3, h4⟩ := h
    exact ⟨A', q, h1, h2, h3, h4.imp id fun ⟨g, cs, k1, k2⟩ => ⟨g, cs, hh g c k1, k2⟩⟩
  | view hi =>
    obtain ⟨A', q, h1, h2, h3, h4⟩ := h
    exact ⟨A', q, h1, h2, h3, h4.imp id fun ⟨g, cs, k1, k2⟩ => ⟨g, cs, hl g _ _ hi k1, k2⟩⟩
theorem loc_rep (hh : ∀ g c, o g = some (OB + (OB + c), 0) → o' g = some (OB + (OB + c), 0)) {loc loc' : Nat × Nat} (ho : ∀ g, o g = some loc → o' g = some loc') {x : T} (hx : x.isLoc = false) {v : Value} (h : RepT m w o loc x v) : RepT m w o' loc' x v := by
  cases x with
  | ptr j off => cases hx
  | view j off E k n => cases hx
  | hpt c off => exact ptr_rep (τ := []) hh (fun g i j h => by simp at h) ho (.hpt c off) h
  | mpt j =>
    have hj : ¬ j < OB := by have hx : Nat.blt j OB = false := hx; intro h; rw [show Nat.blt j OB = true by simpa using h] at hx; cases hx
    obtain ⟨c, rfl⟩ : ∃ c, j = OB + c := ⟨j - OB, by omega⟩
    obtain ⟨g, h1, h2⟩ := h
    exact ⟨g, hh g c h1, h2⟩
  | hvw c off E k n => exact ptr_rep (τ := []) hh (fun g i j h => by simp at h) ho (.hvw c off E k n) h
  | d x => exact h
  | agg l => exact h
  | own E k l => exact ptr_rep (τ := []) hh (fun g i j h => by simp at h) ho (.flat rfl) h
end
end Go.Proofs.YtimdogdplphmoaaDoor
