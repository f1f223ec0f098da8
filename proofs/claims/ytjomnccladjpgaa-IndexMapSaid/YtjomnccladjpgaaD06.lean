/-
  Texts joined: see the remark at the head of each part.
-/
import Derived.Test.YtjomnccladjpgaaD05
set_option linter.unusedVariables false
set_option linter.unusedSimpArgs false
/-
 Contracts of functions that read and write the heap; calls of them.
-/
namespace Go.Proofs.Ytjomnccladjpgaa
open Go Go.RowKit
set_option linter.unusedVariables false
def posN : List Nat → Nat → Option Nat
 | [], _ => none
 | x :: r, j => if x = j then some 0 else (posN r j).map (· + 1)
theorem zJQ : ∀ {σ : List Nat} {j i : Nat}, posN σ j = some i → σ[i]? = some j
 | [], _, _, h => by cases h
 | x :: r, j, i, h => by
  unfold posN at h
  split at h
  · rename_i e; injection h with h; subst h e; rfl
  ·
   cases hq : posN r j with
   | none => rw [hq] at h; cases h
   | some q => rw [hq] at h; injection h with h; subst h; simpa using zJQ hq
theorem zFp : ∀ {σ : List Nat} {j i : Nat}, σ.Nodup → σ[i]? = some j → posN σ j = some i
 | [], _, _, _, h => by simp at h
 | x :: r, j, i, hn, h => by
  unfold posN
  rw [List.nodup_cons] at hn
  cases i with
  | zero => injection h with h; rw [if_pos h]
  | succ i =>
   have h : r[i]? = some j := by simpa using h
   rw [if_neg (fun e => hn.1 (by rw [e]; exact List.mem_of_getElem? h)), zFp hn.2 h]
   rfl
def zES (σ : List Nat) (t : Nat) : Prop := OB ≤ t ∧ t - OB ∈ σ
instance (σ : List Nat) (t : Nat) : Decidable (zES σ t) := by unfold zES; exact inferInstance
theorem zD8 {σ : List Nat} {j : Nat} (h : j ∈ σ) : zES σ (OB + j) := ⟨by omega, by rw [Nat.add_sub_cancel_left]; exact h⟩
theorem zEa {σ : List Nat} {j : Nat} : zES σ (OB + j) ↔ j ∈ σ := ⟨fun h => by have := h.2; rwa [Nat.add_sub_cancel_left] at this, zD8⟩
def zCU : List Nat → List A → Eff
 | j :: σ, l :: r => (OB + j, l) :: zCU σ r
 | _, _ => []
theorem zDK : ∀ {σ : List Nat} {ls : List A} {S : Nat → A} {s : Nat}, ¬ zES σ s → app S (zCU σ ls) s = S s
 | [], ls, S, s, _ => by cases ls <;> rfl
 | j :: σ, [], S, s, _ => rfl
 | j :: σ, l :: r, S, s, h => by
  show app (upd S (OB + j) l) (zCU σ r) s = _
  rw [zDK (fun e => h ⟨e.1, List.mem_cons_of_mem _ e.2⟩), zH]
  intro e
  subst e
  exact h (zD8 (by simp))
theorem zJY : ∀ {σ : List Nat} {ls : List A} {S : Nat → A} {i j : Nat} {l : A}, σ.Nodup → σ[i]? = some j → ls[i]? = some l → app S (zCU σ ls) (OB + j) = l
 | [], ls, S, i, j, l, _, h, _ => by simp at h
 | x :: σ, [], S, i, j, l, _, _, h => by simp at h
 | x :: σ, y :: r, S, i, j, l, hn, h1, h2 => by
  rw [List.nodup_cons] at hn
  show app (upd S (OB + x) y) (zCU σ r) (OB + j) = _
  cases i with
  | zero =>
   injection h1 with h1
   injection h2 with h2
   subst h1 h2
   rw [zDK (fun e => hn.1 (zEa.1 e)), zZ]
  | succ i => exact zJY hn.2 (by simpa using h1) (by simpa using h2)
theorem zEv (S : Nat → A) (e e' : Eff) : app S (e ++ e') = app (app S e) e' := by unfold app; rw [List.foldl_append]
def argH (args : List A) (ins : List A) (f : Nat → A) : Nat → A := fun s => if s < OB then args.getD s .any else if OB2 ≤ s then san (f (s - OB2)) else match ins[s - OB]? with
 | some x => x
 | none => .free
def zH2 (n : Nat) : List Nat := (List.range n).map (OB + ·)
def FCK (K : Array Value → World → (Ending → World → Prop) → Prop) (args : List A) (ins outs : List A) (f f' : Nat → A) (r : A) : Prop :=
 ∀ (w : World) (m : Mem) (o : OwnM) (vals : Array Value), (∀ b p u, m b p = some u → w.cell? ⟨b, p, none⟩ = some u) → Mle TBL m → (∀ g l, o g = some l → g < w.heap.size) → (∀ g g' l, o g = some l → o g' = some l → g = g') → vals.size = args.length →
  (∀ s, RepA m w o (argH args ins f) s (argH args ins f s) (vals.getD s undef)) →
  K vals w fun e w' => ∃ (u : Value) (m' : Mem) (o' : OwnM) (S' : Nat → A) (a' : Act) (ρ : Nat), e = .returned u ∧ Inv w m o ⟨fun g => o g ≠ none, []⟩ (zH2 ins.length) S' a' w' m' o' ∧ RepA m' w' o' S' ρ r u ∧ (∀ (i : Nat) (x : A), outs[i]? = some x → S' (OB + i) = x) ∧ (∀ c, S' (OB + (OB + c)) = san (f' c)) ∧ ρ < OB
def FCH (P : Program) (fn : FuncId) (args : List A) (ins outs : List A) (f f' : Nat → A) (r : A) : Prop := FCK (Calls P fn) args ins outs f f' r
def T.isLoc : T → Bool | .ptr _ _ | .view _ _ _ _ _ => true | .mpt j => Nat.blt j OB | _ => false
def zDa (f : Nat → A) : Prop := ∀ c l, f c = .box l → ∀ x ∈ l, x.isLoc = false
theorem zHe {f : Nat → A} (h : zDa f) (c : Nat) : ∀ l, san (f c) = .box l → ∀ x ∈ l, x.isLoc = false := by
 intro l hl
 cases hf : f c <;> rw [hf] at hl <;> cases hl
 exact h c _ hf
def movH (σ : List Nat) (o : OwnM) : OwnM := fun g => match o g with
 | some (s, k) => if OB2 ≤ s then some (s, k) else if OB ≤ s then (posN σ (s - OB)).map fun i => (OB + i, k) else none
 | none => none
theorem zEA {σ : List Nat} (hn : σ.Nodup) (hl : σ.length ≤ OB) (hs : ∀ j ∈ σ, j < OB) {o : OwnM} {g : Nat} {l : Nat × Nat} : movH σ o g = some l ↔ (∃ c, l.1 = OB + (OB + c) ∧ o g = some l) ∨ ∃ i j, l.1 = OB + i ∧ i < OB ∧ σ[i]? = some j ∧ o g = some (OB + j, l.2) := by
 unfold movH
 constructor
 ·
  intro h
  split at h
  ·
   rename_i s k hg
   split at h
   ·
    rename_i h2
    injection h with h
    subst h
    exact .inl ⟨s - OB2, by rw [← zAZ]; show s = _; omega, hg⟩
   ·
    split at h
    ·
     rename_i h2 hs'
     cases hq : posN σ (s - OB) with
     | none => rw [hq] at h; cases h
     | some i =>
      rw [hq] at h
      injection h with h
      subst h
      have hi := zJQ hq
      exact .inr ⟨i, s - OB, rfl, by have := (List.getElem?_eq_some_iff.1 hi).1; omega, hi, by rw [show OB + (s - OB) = s by omega]; exact hg⟩
    · cases h
  · cases h
 ·
  rintro (⟨c, h1, h2⟩ | ⟨i, j, h1, hi, h2, h3⟩)
  ·
   obtain ⟨s, k⟩ := l
   have h1 : s = OB + (OB + c) := h1
   rw [h2]
   simp only
   rw [if_pos (by rw [h1, ← zAZ]; omega)]
  ·
   obtain ⟨a, b⟩ := l
   have h1 : a = OB + i := h1
   subst h1
   have hj := hs j (List.mem_of_getElem? h2)
   rw [h3]
   simp only
   rw [if_neg (by unfold OB OB2 at *; omega), if_pos (by omega), Nat.add_sub_cancel_left, zFp hn h2]
   rfl
def inH (τ : List Nat) (t : Nat) : Prop := OB2 ≤ t ∨ zES τ t
instance (τ : List Nat) (t : Nat) : Decidable (inH τ t) := by unfold inH; exact inferInstance
def keptH (o : OwnM) (d : Nat) (τ : List Nat) : OwnM := fun g => match o g with
 | some (t, k) => if t = d ∨ inH τ t then none else some (t, k)
 | none => none
theorem zFU {o : OwnM} {d : Nat} {τ : List Nat} {g : Nat} {l : Nat × Nat} : keptH o d τ g = some l ↔ l.1 ≠ d ∧ ¬ inH τ l.1 ∧ o g = some l := by
 unfold keptH
 constructor
 ·
  intro h
  split at h
  ·
   rename_i t k hg
   split at h
   · cases h
   ·
    rename_i hn
    injection h with h
    subst h
    exact ⟨fun e => hn (.inl e), fun e => hn (.inr e), hg⟩
  · cases h
 ·
  rintro ⟨h1, h2, h⟩
  obtain ⟨t, j⟩ := l
  rw [h]
  simp only
  rw [if_neg]
  rintro (e | e)
  · exact h1 e
  · exact h2 e
def mixH (o o' : OwnM) (d ρ : Nat) (τ : List Nat) : OwnM := fun g => match o' g with
 | some (t, k) => if t = ρ then some (d, k) else if OB2 ≤ t then some (t, k) else if OB ≤ t then (match τ[t - OB]? with
   | some j => some (OB + j, k)
   | none => keptH o d τ g) else keptH o d τ g
 | none => keptH o d τ g
inductive PtR (τ : List Nat) : T → T → Prop
 | flat {x : T} (h : x.isPt = false) : PtR τ x x
 | hpt (c off : Nat) : PtR τ (.hpt c off) (.hpt c off)
 | hvw (c off E k n : Nat) : PtR τ (.hvw c off E k n) (.hvw c off E k n)
 | view {i j off E k n : Nat} (h : τ[i]? = some j) : PtR τ (.view i off E k n) (.view j off E k n)
inductive PtRs (τ : List Nat) : List T → List T → Prop
 | nil : PtRs τ [] []
 | cons {x y : T} {l l' : List T} (h : PtR τ x y) (t : PtRs τ l l') : PtRs τ (x :: l) (y :: l')
theorem PtRs.get {τ : List Nat} {l l' : List T} (h : PtRs τ l l') : l'.length = l.length ∧ ∀ (j : Nat) (y : T), l'[j]? = some y → ∃ x, l[j]? = some x ∧ PtR τ x y := by
 induction h with
 | nil => exact ⟨rfl, fun j y h => by simp at h⟩
 | cons hx ht ih =>
  refine ⟨by simp [ih.1], fun j y hj => ?_⟩
  cases j with
  | zero => injection hj with hj; subst hj; exact ⟨_, rfl, hx⟩
  | succ j => simpa using ih.2 j y (by simpa using hj)
theorem PtRs.refl {τ : List Nat} : ∀ {l : List T}, l.all (fun x => !x.isPt) = true → PtRs τ l l
 | [], _ => .nil
 | x :: l, h => by
  simp only [List.all_cons, Bool.and_eq_true] at h
  exact .cons (.flat (by simpa using h.1)) (PtRs.refl h.2)
inductive ResH (τ : List Nat) : A → A → Prop
 | t {x y : T} (h : PtR τ x y) : ResH τ (.t x) (.t y)
 | tup {l l' : List T} (h : PtRs τ l l') : ResH τ (.tup l) (.tup l')
 | plain {x : A} (h : x.plain = true) : ResH τ x x
 | cl {f : FuncId} {caps : List (List T)} (h : ∀ l ∈ caps, ∀ x ∈ l, PtR τ x x) : ResH τ (.cl f caps) (.cl f caps)
inductive ArgH (σ : List Nat) : A → A → Prop
 | plain {x y : A} (h : WkA x y) (hp : y.plain = true) : ArgH σ x y
 | hpt (c off : Nat) : ArgH σ (.t (.hpt c off)) (.t (.hpt c off))
 | hvw (c off E k n : Nat) : ArgH σ (.t (.hvw c off E k n)) (.t (.hvw c off E k n))
 | view {i j off E k n : Nat} (h : σ[i]? = some j) : ArgH σ (.t (.view j off E k n)) (.t (.view i off E k n))
 | ck (f : FuncId) (cs : List CkE) : ArgH σ (.ck f cs) (.ck f cs)
 | view0 {i j off E k n : Nat} (h : σ[i]? = some j) : ArgH σ (.t (.view j off E k n)) (.t (.view i off 0 k n))
inductive zFM (σ : List Nat) : List A → List A → Prop
 | nil : zFM σ [] []
 | cons {x y : A} {l l' : List A} (h : ArgH σ x y) (t : zFM σ l l') : zFM σ (x :: l) (y :: l')
def A.flatO : A → Bool
 | .box l => noPt l
 | .any => true
 | .free => true
 | _ => false
section
variable {m : Mem} {w : World} {o o' : OwnM}
theorem zFo {τ : List Nat} (hh : ∀ g c, o g = some (OB + (OB + c), 0) → o' g = some (OB + (OB + c), 0)) (hl : ∀ g i j, τ[i]? = some j → o g = some (OB + i, 0) → o' g = some (OB + j, 0)) {loc loc' : Nat × Nat} (ho : ∀ g, o g = some loc → o' g = some loc') {x y : T} (hx : PtR τ x y) {v : Value} (h : RepT m w o loc x v) : RepT m w o' loc' y v := by
 cases hx with
 | flat hx => exact h.reloc ho hx |> fun h => h
 | hpt c off => obtain ⟨g, h1, h2⟩ := h; exact ⟨g, hh g c h1, h2⟩
 | hvw c off E k n =>
  obtain ⟨A', q, h1, h2, h3, h4⟩ := h
  exact ⟨A', q, h1, h2, h3, h4.imp id fun ⟨g, cs, E1, k1, k2⟩ => ⟨g, cs, E1, hh g c k1, k2⟩⟩
 | view hi =>
  obtain ⟨A', q, h1, h2, h3, h4⟩ := h
  exact ⟨A', q, h1, h2, h3, h4.imp id fun ⟨g, cs, E1, k1, k2⟩ => ⟨g, cs, E1, hl g _ _ hi k1, k2⟩⟩
theorem loc_rep (hh : ∀ g c, o g = some (OB + (OB + c), 0) → o' g = some (OB + (OB + c), 0)) {loc loc' : Nat × Nat} (ho : ∀ g, o g = some loc → o' g = some loc') {x : T} (hx : x.isLoc = false) {v : Value} (h : RepT m w o loc x v) : RepT m w o' loc' x v := by
 cases x with
 | ptr j off => cases hx
 | view j off E k n => cases hx
 | hpt c off => exact zFo (τ := []) hh (fun g i j h => by simp at h) ho (.hpt c off) h
 | mpt j =>
  have hj : ¬ j < OB := by have hx : Nat.blt j OB = false := hx; intro h; rw [show Nat.blt j OB = true by simpa using h] at hx; cases hx
  obtain ⟨c, rfl⟩ : ∃ c, j = OB + c := ⟨j - OB, by omega⟩
  obtain ⟨g, h1, h2⟩ := h
  exact ⟨g, hh g c h1, h2⟩
 | hvw c off E k n => exact zFo (τ := []) hh (fun g i j h => by simp at h) ho (.hvw c off E k n) h
 | d x => exact h
 | xs E k l rv => obtain ⟨A', cap, xs, e, h1, h2, h3, h4⟩ := h; exact ⟨A', cap, xs, e, h1, fun g hg => ⟨ho g (h2 g hg).1, (h2 g hg).2⟩, h3, h4⟩
 | any => exact h
 | agg l => exact h
 | own E k l => exact zFo (τ := []) hh (fun g i j h => by simp at h) ho (.flat rfl) h
end
end Go.Proofs.Ytjomnccladjpgaa

/-
 A call of a function that reads and writes the heap: what it leaves.
-/
namespace Go.Proofs.Ytjomnccladjpgaa
open Go Go.RowKit
set_option linter.unusedVariables false
theorem zDY (x : A) : (∃ l, san x = .box l) ∨ san x = .free ∨ san x = .any ∨ (∃ l, san x = .mp l) ∨ ∃ b u mE oE, san x = .rcd b u mE oE := by
 cases x <;> first | exact .inl ⟨_, rfl⟩ | exact .inr (.inl rfl) | exact .inr (.inr (.inl rfl)) | exact .inr (.inr (.inr (.inl ⟨_, rfl⟩))) | exact .inr (.inr (.inr (.inr ⟨_, _, _, _, rfl⟩)))
def hpS (S : Nat → A) (f' : Nat → A) : Nat → A := fun t => if OB2 ≤ t then san (f' (t - OB2)) else S t
section
variable {w0 : World} {m0 : Mem} {o0 : OwnM} {G : GD} {pins : List Nat} {S M : Nat → A} {a : Act} {w : World} {m : Mem} {o : OwnM} {P : Program} {N : Nat}
theorem zKD (I : Inv w0 m0 o0 G pins S a w m o) {K : Array Value → World → (Ending → World → Prop) → Prop} (hKm : ∀ (v : Array Value) (w : World) (R R' : Ending → World → Prop), K v w R → (∀ e w', R e w' → R' e w') → K v w R') {args : List A} {ins outs : List A} {f f' : Nat → A} {r r' : A} (hf : FCK K args ins outs f f' r) (hS : ∀ c, S (OB + (OB + c)) = san (f c)) (hp : zDa f) (hp' : zDa f')
  {σ fr : List Nat} (hnd : (σ ++ fr).Nodup) (hlo : ∀ j ∈ σ ++ fr, j < OB) (hin : σ.map (fun j => S (OB + j)) = ins) (hfi : ins.all A.flatO = true) (hfo : outs.all A.flatO = true) (hfr : ∀ j ∈ fr, S (OB + j) = .free) (hlen : outs.length = (σ ++ fr).length) (hlO : outs.length ≤ OB) (hres : ResH (σ ++ fr) r r')
  {vals : Array Value} (hv : vals.size = args.length) (hr : ∀ (k : Nat) (x : A), args[k]? = some x → ∀ k0, RepA m w (movH σ o) (argH args ins f) k0 x (vals.getD k undef)) (hargs : args.length ≤ OB)
  {d : Nat} (hd : d < a.tmps.size) (hbox : (S d).isBox = false) (hpin : d ∉ pins) :
  K vals w fun e w' => ∃ u m' o', e = .returned u ∧ Inv w0 m0 o0 G pins (upd (app (hpS S f') (zCU (σ ++ fr) outs)) d r') (a.put (some d) u) w' m' o' := by
 have hσ : σ.Nodup := (List.nodup_append.1 hnd).1
 have hdO : d < OB := Nat.lt_of_lt_of_le hd I.wide
 generalize hτ : σ ++ fr = τ at *
 have hlσ : ∀ j ∈ σ, j < OB := fun j h => hlo j (by rw [← hτ]; exact List.mem_append_left _ h)
 have hσl : σ.length ≤ OB := by
  have : σ.length ≤ τ.length := by rw [← hτ]; simp
  omega
 have hil : σ.length = ins.length := by rw [← hin]; simp
 have iffM := fun (o : OwnM) (g : Nat) (l : Nat × Nat) => zEA (o := o) (g := g) (l := l) hσ hσl hlσ
 have hστ : ∀ i j, σ[i]? = some j → τ[i]? = some j := fun i j h => by rw [← hτ, List.getElem?_append_left (List.getElem?_eq_some_iff.1 h).1]; exact h
 have hmem : ∀ j, j ∈ τ → j ∈ σ ∨ j ∈ fr := fun j h => by rw [← hτ] at h; exact List.mem_append.1 h
 have hfree : ∀ j ∈ fr, ∀ g k, o g ≠ some (OB + j, k) := fun j hj => by have := I.slots (OB + j); rw [hfr j hj] at this; exact this
 have hmv : ∀ g i j k, σ[i]? = some j → o g = some (OB + j, k) → movH σ o g = some (OB + i, k) := fun g i j k h1 h2 => (iffM o g _).2 (.inr ⟨i, j, rfl, by have := (List.getElem?_eq_some_iff.1 h1).1; omega, h1, h2⟩)
 have hmh : ∀ g c k, o g = some (OB + (OB + c), k) → movH σ o g = some (OB + (OB + c), k) := fun g c k h => (iffM o g _).2 (.inl ⟨c, rfl, h⟩)
 have hrep : ∀ t, RepA m w (movH σ o) (argH args ins f) t (argH args ins f t) (vals.getD t undef) := by
  intro t
  by_cases ht : t < OB
  ·
   have e : argH args ins f t = args.getD t .any := by unfold argH; rw [if_pos ht]
   rw [e, List.getD_eq_getElem?_getD]
   cases hx : args[t]? with
   | none => trivial
   | some x => exact hr t x hx t
  ·
   by_cases ht2 : OB2 ≤ t
   ·
    obtain ⟨c, rfl⟩ : ∃ c, t = OB + (OB + c) := ⟨t - OB2, by rw [← zAZ]; omega⟩
    have e : argH args ins f (OB + (OB + c)) = san (f c) := by
     unfold argH
     rw [if_neg (by omega), if_pos ht2, ← zAZ, Nat.add_sub_cancel_left]
    rw [e]
    have hs := I.slots (OB + (OB + c))
    rw [hS] at hs
    rcases zDY (f c) with ⟨l, hl⟩ | hl | hl | ⟨l, hl⟩ | ⟨b, u, mE, oE, hl⟩
    ·
     have hpu := zHe hp c l hl
     rw [hl] at hs ⊢
     obtain ⟨g, e1, k1, k2, cs, E, k3, k4, k5⟩ := hs
     refine ⟨g, fun h => absurd h (by omega), hmh g c 0 k1, k2, cs, E, k3, k4, fun q x hq => ?_⟩
     obtain ⟨q1, u, q2, q3⟩ := k5 q x hq
     exact ⟨q1, u, q2, loc_rep (fun g c h => hmh g c 0 h) (fun g h => hmh g c _ h) (hpu x (List.mem_of_getElem? hq)) q3⟩
    ·
     rw [hl] at hs ⊢
     intro g k h
     rcases (iffM o g _).1 h with ⟨_, _, h⟩ | ⟨i, j, h1, hi, h2, h3⟩
     · exact hs g k h
     · have h1 : OB + (OB + c) = OB + i := h1; omega
    · rw [hl]; trivial
    ·
     rw [hl] at hs ⊢
     obtain ⟨g, k1, k2⟩ := hs
     exact ⟨g, hmh g c 0 k1, k2⟩
    ·
     rw [hl] at hs ⊢
     obtain ⟨k1, k2, k3, k4, k5⟩ := hs
     exact ⟨hmh b c 0 k1, k2, k3, k4, fun g c' hg => hmh g c' 0 (k5 g c' hg)⟩
   ·
    obtain ⟨i, rfl⟩ : ∃ i, t = OB + i := ⟨t - OB, by omega⟩
    have hiO : i < OB := by unfold OB OB2 at *; omega
    cases hl : ins[i]? with
    | none =>
     have e : argH args ins f (OB + i) = .free := by unfold argH; rw [if_neg ht, if_neg ht2, Nat.add_sub_cancel_left, hl]
     rw [e]
     intro g k h
     rcases (iffM o g _).1 h with ⟨c, h1, _⟩ | ⟨i', j, h1, hi', h2, _⟩
     · have h1 : OB + i = OB + (OB + c) := h1; omega
     ·
      have h1 : OB + i = OB + i' := h1
      have : i < σ.length := by rw [show i = i' by omega]; exact (List.getElem?_eq_some_iff.1 h2).1
      rw [hil] at this
      rw [List.getElem?_eq_getElem this] at hl
      cases hl
    | some l =>
     have e : argH args ins f (OB + i) = l := by unfold argH; rw [if_neg ht, if_neg ht2, Nat.add_sub_cancel_left, hl]
     rw [e]
     have hi : i < σ.length := by rw [hil]; exact (List.getElem?_eq_some_iff.1 hl).1
     have hfl : l.flatO = true := List.all_eq_true.1 hfi l (List.mem_of_getElem? hl)
     have hsl : S (OB + σ[i]) = l := by
      rw [← hin, List.getElem?_map, List.getElem?_eq_getElem hi] at hl
      injection hl
     have hs := I.slots (OB + σ[i])
     rw [hsl] at hs
     revert hs hfl
     cases l with
     | box l =>
      rintro hfl ⟨g, _, k1, k2, cs, E, k3, k4, k5⟩
      refine ⟨g, fun h => absurd h ht, hmv g i _ 0 (List.getElem?_eq_getElem hi) k1, k2, cs, E, k3, k4, fun q x hq => ?_⟩
      obtain ⟨q1, u, q2, q3⟩ := k5 q x hq
      exact ⟨q1, u, q2, q3.reloc (fun g h => hmv g i _ _ (List.getElem?_eq_getElem hi) h) (zB0 hfl hq)⟩
     | any => intro _ _; trivial
     | free =>
      intro _ hs g k h
      rcases (iffM o g _).1 h with ⟨c, h1, _⟩ | ⟨i', j, h1, hi', h2, h3⟩
      · have h1 : OB + i = OB + (OB + c) := h1; omega
      ·
       have h1 : OB + i = OB + i' := h1
       have h1 : i' = i := by omega
       subst h1
       rw [List.getElem?_eq_getElem hi] at h2
       injection h2 with h2
       exact hs g k (by rw [h2]; exact h3)
     | _ => intro hfl; cases hfl
 refine hKm _ _ _ _ (hf w m (movH σ o) vals I.sat (I.tbl.trans I.mono) (fun g l h => ?_) (fun g g' l h h' => ?_) hv hrep) ?_
 · rcases (iffM o g l).1 h with ⟨_, _, h⟩ | ⟨_, _, _, _, _, h⟩ <;> exact I.lt g _ h
 ·
  rcases (iffM o g l).1 h with ⟨c, h1, h⟩ | ⟨i, j, h1, hi, h2, h⟩ <;> rcases (iffM o g' l).1 h' with ⟨c', h1', h'⟩ | ⟨i', j', h1', hi', h2', h'⟩
  · exact I.inj g g' l h h'
  · omega
  · omega
  ·
   have : i = i' := by omega
   subst this
   rw [h2] at h2'
   injection h2' with h2'
   subst h2'
   exact I.inj g g' _ h h'
 rintro e w' ⟨u, m', o', S', a', ρ, rfl, J, hres', hbx, hhp, hρ⟩
 have hgr : ∀ g, movH σ o g ≠ none → ∃ s k, (zES σ s ∨ OB2 ≤ s) ∧ o g = some (s, k) := by
  intro g h
  cases hg : movH σ o g with
  | none => exact absurd hg h
  | some l =>
   rcases (iffM o g l).1 hg with ⟨c, h1, h2⟩ | ⟨i, j, _, _, h2, h3⟩
   · exact ⟨l.1, l.2, .inr (by rw [h1, ← zAZ]; omega), h2⟩
   · exact ⟨_, _, .inl (zD8 (List.mem_of_getElem? h2)), h3⟩
 have hS' : Same (fun g => ∃ s k, (zES σ s ∨ OB2 ≤ s) ∧ o g = some (s, k)) w w' := J.same.weaken fun g h => hgr g h
 have hστ' : ∀ s, zES σ s ∨ OB2 ≤ s → inH τ s := fun s h => h.elim (fun h => .inr ⟨h.1, by rw [← hτ]; exact List.mem_append_left _ h.2⟩) .inl
 have hnot : ∀ g l, o g = some l → ¬ (zES σ l.1 ∨ OB2 ≤ l.1) → movH σ o g = none := by
  intro g l h hn
  cases hg : movH σ o g with
  | none => rfl
  | some l' =>
   obtain ⟨s, k, h1, h2⟩ := hgr g (by rw [hg]; simp)
   rw [h] at h2
   injection h2 with h2
   rw [h2] at hn
   exact absurd h1 hn
 have hold : ∀ b, b < w.heap.size → movH σ o b = none → m' b = m b := fun b hb hn => J.old b hb fun h => h hn
 have hnew : ∀ g l, o' g = some l → (∃ s k, (zES σ s ∨ OB2 ≤ s) ∧ o g = some (s, k)) ∨ w.heap.size ≤ g := fun g l h => (J.own g l h).imp (hgr g) id
 have hdis : ∀ g l, o g = some l → ¬ (zES σ l.1 ∨ OB2 ≤ l.1) → o' g = none := by
  intro g l h hn
  cases ho : o' g with
  | none => rfl
  | some l' =>
   rcases hnew g l' ho with ⟨s, k, hj, hk⟩ | hge
   ·
    rw [h] at hk
    injection hk with hk
    rw [hk] at hn
    exact absurd hj hn
   · exact absurd (I.lt g _ h) (by omega)
 have hτl : τ.length = outs.length := hlen.symm
 have ho2n : ∀ g k, o' g = some (ρ, k) → mixH o o' d ρ τ g = some (d, k) := by
  intro g k h
  unfold mixH
  rw [h]
  simp
 have ho2b : ∀ g i j k, τ[i]? = some j → o' g = some (OB + i, k) → mixH o o' d ρ τ g = some (OB + j, k) := by
  intro g i j k h1 h2
  have hiO : i < OB := by have := (List.getElem?_eq_some_iff.1 h1).1; omega
  unfold mixH
  rw [h2]
  simp only
  rw [if_neg (by omega), if_neg (by unfold OB OB2 at *; omega), if_pos (by omega), Nat.add_sub_cancel_left, h1]
 have ho2h : ∀ g c k, o' g = some (OB + (OB + c), k) → mixH o o' d ρ τ g = some (OB + (OB + c), k) := by
  intro g c k h
  unfold mixH
  rw [h]
  simp only
  rw [if_neg (by omega), if_pos (by rw [← zAZ]; omega)]
 have hfrn : ∀ g l, o g = some l → ¬ (zES σ l.1 ∨ OB2 ≤ l.1) → ¬ inH τ l.1 := by
  intro g l h hn ht
  rcases ht with ht | ht
  · exact hn (.inr ht)
  ·
   obtain ⟨s, k⟩ := l
   obtain ⟨j, rfl⟩ : ∃ j, s = OB + j := ⟨s - OB, by have := ht.1; omega⟩
   rcases hmem j (zEa.1 ht) with hj | hj
   · exact hn (.inl (zD8 hj))
   · exact hfree j hj g k h
 have ho2o : ∀ g l, o g = some l → l.1 ≠ d → ¬ (zES σ l.1 ∨ OB2 ≤ l.1) → mixH o o' d ρ τ g = some l := by
  intro g l h h1 h2
  unfold mixH
  rw [hdis g l h h2]
  exact zFU.2 ⟨h1, hfrn g l h h2, h⟩
 have ho2 : ∀ g l, mixH o o' d ρ τ g = some l → (l.1 = d ∧ o' g = some (ρ, l.2)) ∨ (∃ c, l.1 = OB + (OB + c) ∧ o' g = some l) ∨ (∃ i j, τ[i]? = some j ∧ l.1 = OB + j ∧ o' g = some (OB + i, l.2)) ∨ (l.1 ≠ d ∧ ¬ inH τ l.1 ∧ o g = some l) := by
  intro g l h
  unfold mixH at h
  split at h
  ·
   rename_i t k hg
   split at h
   ·
    rename_i e
    injection h with h
    subst h e
    exact .inl ⟨rfl, hg⟩
   ·
    split at h
    ·
     rename_i ht
     injection h with h
     subst h
     exact .inr (.inl ⟨t - OB2, by rw [← zAZ]; show t = _; omega, hg⟩)
    ·
     split at h
     ·
      rename_i ht
      split at h
      ·
       rename_i j hj
       injection h with h
       subst h
       exact .inr (.inr (.inl ⟨t - OB, j, hj, rfl, by rw [show OB + (t - OB) = t by omega]; exact hg⟩))
      · exact .inr (.inr (.inr (zFU.1 h)))
     · exact .inr (.inr (.inr (zFU.1 h)))
  · exact .inr (.inr (.inr (zFU.1 h)))
 have hptσ : ∀ g i j, σ[i]? = some j → o g = some (OB + j, 0) → o' g = some (OB + i, 0) := fun g i j h1 h2 => J.pinned (OB + i) (.inr (by omega)) g (hmv g i j 0 h1 h2)
 have hpth : ∀ g c, o g = some (OB + (OB + c), 0) → o' g = some (OB + (OB + c), 0) := fun g c h => J.pinned _ (.inr (by omega)) g (hmh g c 0 h)
 have hpt : ∀ g j, o g = some (OB + j, 0) → mixH o o' d ρ τ g = some (OB + j, 0) := by
  intro g j h
  by_cases hj : j ∈ σ
  ·
   obtain ⟨i, hi⟩ := List.getElem?_of_mem hj
   exact ho2b g i j 0 (hστ i j hi) (hptσ g i j hi h)
  ·
   by_cases hj2 : OB2 ≤ OB + j
   ·
    obtain ⟨c, rfl⟩ : ∃ c, j = OB + c := ⟨j - OB, by unfold OB OB2 at *; omega⟩
    exact ho2h g c 0 (hpth g c h)
   · exact ho2o g _ h (zE1 hdO) (fun e => e.elim (fun e => hj (zEa.1 e)) hj2)
 have K : Keep (fun l => l.1 = d ∨ inH τ l.1) m w o m' w' (mixH o o' d ρ τ) := by
  have hC : ∀ l : Nat × Nat, ¬ (l.1 = d ∨ inH τ l.1) → ¬ (zES σ l.1 ∨ OB2 ≤ l.1) := fun l h hn => h (.inr (hστ' _ hn))
  refine ⟨J.mono, fun g l h hn => hold g (I.lt g l h) (hnot g l h (hC l hn)), fun g l h hn => hS'.block g (I.lt g l h) fun ⟨s, k, hj, hk⟩ => ?_, fun g l h hn => ho2o g l h (fun e => hn (.inl e)) (hC l hn), hpt, fun g s k hn h => ?_, fun g j h => ?_⟩
  ·
   rw [h] at hk
   injection hk with hk
   exact hC l hn (by rw [hk]; exact hj)
  ·
   rcases ho2 g _ h with ⟨e, _⟩ | ⟨c, e, _⟩ | ⟨i, j, h1, e, _⟩ | ⟨_, _, h⟩
   · exact absurd (.inl e) hn
   · exact absurd (.inr (.inl (by have e : s = OB + (OB + c) := e; rw [e, ← zAZ]; exact Nat.le_add_right _ _))) hn
   ·
    have e : s = OB + j := e
    exact absurd (.inr (.inr (by rw [e]; exact zD8 (List.mem_of_getElem? h1)))) hn
   · exact ⟨g, k, h⟩
  ·
   by_cases hj : zES σ (OB + j) ∨ OB2 ≤ OB + j
   ·
    rcases hj with hj | hj
    ·
     obtain ⟨i, hi⟩ := List.getElem?_of_mem (zEa.1 hj)
     exact (J.shps g i (hmv g i j 0 hi h)).2
    ·
     obtain ⟨c, rfl⟩ : ∃ c, j = OB + c := ⟨j - OB, by unfold OB OB2 at *; omega⟩
     exact (J.shps g _ (hmh g c 0 h)).2
   ·
    refine .of_eq (hS'.block g (I.lt g _ h) fun ⟨s, k, hs, hk⟩ => hj ?_)
    rw [h] at hk
    injection hk with hk
    injection hk with hk _
    rw [hk]
    exact hs
 have hpt2 : ∀ s, OB ≤ s → ∀ g, o g = some (s, 0) → mixH o o' d ρ τ g = some (s, 0) := fun s hs g h => by
  obtain ⟨j, rfl⟩ : ∃ j, s = OB + j := ⟨s - OB, by omega⟩
  exact hpt g j h
 refine ⟨u, m', mixH o o' d ρ τ, rfl, ?_, J.sat, I.mono.trans J.mono, fun b hb hg => ?_, fun g l h => ?_, fun g l h => ?_, fun g g' l h h' => ?_, fun t ht g hg => ?_, fun t => ?_, I.defers, I.tbl, by rw [zA6]; exact I.wide, I.shps.keep I.pinned K.sh⟩
 ·
  refine I.same.trans (hS'.weaken ?_)
  rintro k ⟨s, q, _, hj⟩
  exact I.own k _ hj
 ·
  rw [hold b (Nat.lt_of_lt_of_le hb I.same.size) ?_]
  · exact I.old b hb hg
  ·
   cases hq : movH σ o b with
   | none => rfl
   | some l =>
    obtain ⟨s, k, _, h3⟩ := hgr b (by rw [hq]; simp)
    rcases I.own b _ h3 with h | h
    · exact absurd h hg
    · omega
 ·
  have key : ∀ l', o' g = some l' → G g ∨ w0.heap.size ≤ g := fun l' h1 => by
   rcases hnew g _ h1 with ⟨s, k, _, hj⟩ | hge
   · exact I.own g _ hj
   · exact .inr (Nat.le_trans I.same.size hge)
  rcases ho2 g l h with ⟨_, h1⟩ | ⟨_, _, h1⟩ | ⟨_, _, _, _, h1⟩ | ⟨_, _, h1⟩
  · exact key _ h1
  · exact key _ h1
  · exact key _ h1
  · exact I.own g l h1
 ·
  rcases ho2 g l h with ⟨_, h1⟩ | ⟨_, _, h1⟩ | ⟨_, _, _, _, h1⟩ | ⟨_, _, h1⟩
  · exact J.lt g _ h1
  · exact J.lt g _ h1
  · exact J.lt g _ h1
  · exact Nat.lt_of_lt_of_le (I.lt g l h1) hS'.size
 ·
  have hτO : ∀ i j, τ[i]? = some j → j < OB := fun i j h => hlo j (List.mem_of_getElem? h)
  rcases ho2 g l h with ⟨h2, h1⟩ | ⟨c, h2, h1⟩ | ⟨i, j, h3, h2, h1⟩ | ⟨h2, h3, h1⟩ <;> rcases ho2 g' l h' with ⟨h2', h1'⟩ | ⟨c', h2', h1'⟩ | ⟨i', j', h3', h2', h1'⟩ | ⟨h2', h3', h1'⟩
  · exact J.inj g g' _ h1 h1'
  · omega
  · omega
  · exact absurd h2 h2'
  · omega
  · exact J.inj g g' _ h1 h1'
  · have := hτO _ _ h3'; omega
  · exact absurd (.inl (by rw [h2, ← zAZ]; omega)) h3'
  · omega
  · have := hτO _ _ h3; omega
  ·
   have hjj : j = j' := by omega
   subst hjj
   have e1 := zFp hnd h3
   have e2 := zFp hnd h3'
   rw [e1] at e2
   injection e2 with e2
   subst e2
   exact J.inj g g' _ h1 h1'
  · exact absurd (.inr (by rw [h2]; exact zD8 (List.mem_of_getElem? h3))) h3'
  · exact absurd h2' h2
  · exact absurd (.inl (by rw [h2', ← zAZ]; omega)) h3
  · exact absurd (.inr (by rw [h2']; exact zD8 (List.mem_of_getElem? h3'))) h3
  · exact I.inj g g' l h1 h1'
 ·
  have h1 := I.pinned t ht g hg
  by_cases e : OB ≤ t
  · exact hpt2 t e g h1
  ·
   refine ho2o g _ h1 (fun e' => ?_) (fun e' => ?_)
   ·
    rcases ht with ht | ht
    · exact hpin (by have e' : t = d := e'; rw [← e']; exact ht)
    · exact e ht
   ·
    rcases e' with e' | e'
    · exact e e'.1
    ·
     have : OB2 ≤ t := e'
     unfold OB OB2 at *; omega
 ·
  rw [zGF]
  by_cases h : t = d
  ·
   subst h
   rw [if_pos ⟨rfl, hd⟩, zZ]
   revert hres' hres
   intro hres hres'
   cases hres with
   | t hx => exact zFo (fun g c h => ho2h g c 0 h) (fun g i j h1 h2 => ho2b g i j 0 h1 h2) (fun g h => ho2n g 0 h) hx hres'
   | tup hx =>
    obtain ⟨vs, e1, q1, q2⟩ := hres'
    obtain ⟨k1, k2⟩ := hx.get
    refine ⟨vs, e1, by rw [k1]; exact q1, fun j y hj => ?_⟩
    obtain ⟨x, k3, k4⟩ := k2 j y hj
    obtain ⟨u', q3, q4⟩ := q2 j x k3
    exact ⟨u', q3, zFo (fun g c h => ho2h g c 0 h) (fun g i j h1 h2 => ho2b g i j 0 h1 h2) (fun g h => ho2n g _ h) k4 q4⟩
   | plain hx => exact zEs hx hres'
   | cl hx =>
    obtain ⟨ptrs, e1, q1, q2⟩ := hres'
    refine ⟨ptrs, e1, q1, fun i l hi => ?_⟩
    obtain ⟨g, q3, q4⟩ := q2 i l hi
    refine ⟨g, q3, fun j x hj => ?_⟩
    obtain ⟨u', q5, q6⟩ := q4 j x hj
    exact ⟨u', q5, zFo (fun g c h => ho2h g c 0 h) (fun g i j h1 h2 => ho2b g i j 0 h1 h2) (fun g h => ho2n g 0 h) (hx l (List.mem_of_getElem? hi) x (List.mem_of_getElem? hj)) q6⟩
  ·
   rw [if_neg (fun e => h e.1), zH h]
   by_cases ht : zES τ t
   ·
    obtain ⟨j, rfl⟩ : ∃ j, t = OB + j := ⟨t - OB, by have := ht.1; omega⟩
    obtain ⟨i, hi⟩ := List.getElem?_of_mem (zEa.1 ht)
    have hil' : i < outs.length := by rw [← hτl]; exact (List.getElem?_eq_some_iff.1 hi).1
    rw [zJY hnd hi (List.getElem?_eq_getElem hil')]
    have hs := J.slots (OB + i)
    rw [hbx i _ (List.getElem?_eq_getElem hil')] at hs
    have hfl : outs[i].flatO = true := List.all_eq_true.1 hfo _ (List.getElem_mem hil')
    revert hs hfl
    generalize outs[i] = x'
    intro hs hfl
    cases x' with
    | box l =>
     obtain ⟨g, _, k1, k2, cs, E, k3, k4, k5⟩ := hs
     refine ⟨g, fun hb => absurd hb (by omega), ho2b g i j 0 hi k1, k2, cs, E, k3, k4, fun q x hq => ?_⟩
     obtain ⟨q1, u', q2, q3⟩ := k5 q x hq
     exact ⟨q1, u', q2, q3.reloc (fun g h => ho2b g i j _ hi h) (zB0 hfl hq)⟩
    | any => trivial
    | free =>
     intro g k h
     rcases ho2 g _ h with ⟨e, _⟩ | ⟨c, e, _⟩ | ⟨i2, j2, h3, e, h1⟩ | ⟨_, h3, _⟩
     · have e : OB + j = d := e; omega
     ·
      have e : OB + j = OB + (OB + c) := e
      have := hlo j (List.mem_of_getElem? hi)
      omega
     ·
      have e : OB + j = OB + j2 := e
      have e : j = j2 := by omega
      subst e
      have e1 := zFp hnd h3
      rw [zFp hnd hi] at e1
      injection e1 with e1
      subst e1
      exact hs g _ h1
     · exact h3 (.inr ht)
    | _ => cases hfl
   ·
    rw [zDK ht]
    by_cases ht2 : OB2 ≤ t
    ·
     obtain ⟨c, rfl⟩ : ∃ c, t = OB + (OB + c) := ⟨t - OB2, by rw [← zAZ]; omega⟩
     have e : hpS S f' (OB + (OB + c)) = san (f' c) := by
      unfold hpS
      rw [if_pos ht2, ← zAZ, Nat.add_sub_cancel_left]
     rw [e]
     have hs := J.slots (OB + (OB + c))
     rw [hhp] at hs
     rcases zDY (f' c) with ⟨l, hl⟩ | hl | hl | ⟨l, hl⟩ | ⟨b, u, mE, oE, hl⟩
     ·
      have hpu := zHe hp' c l hl
      rw [hl] at hs ⊢
      obtain ⟨g, e1, k1, k2, cs, E, k3, k4, k5⟩ := hs
      refine ⟨g, fun h => absurd h (by omega), ho2h g c 0 k1, k2, cs, E, k3, k4, fun q x hq => ?_⟩
      obtain ⟨q1, u, q2, q3⟩ := k5 q x hq
      exact ⟨q1, u, q2, loc_rep (fun g c h => ho2h g c 0 h) (fun g h => ho2h g c _ h) (hpu x (List.mem_of_getElem? hq)) q3⟩
     ·
      rw [hl] at hs ⊢
      intro g k h
      rcases ho2 g _ h with ⟨e, _⟩ | ⟨c', e, h⟩ | ⟨i, j, h1, e, _⟩ | ⟨_, e, _⟩
      · have e : OB + (OB + c) = d := e; omega
      · exact hs g k h
      ·
       have e : OB + (OB + c) = OB + j := e
       have := hlo j (List.mem_of_getElem? h1)
       omega
      · exact e (.inl ht2)
     · rw [hl]; trivial
     ·
      rw [hl] at hs ⊢
      obtain ⟨g, k1, k2⟩ := hs
      exact ⟨g, ho2h g c 0 k1, k2⟩
     ·
      rw [hl] at hs ⊢
      obtain ⟨k1, k2, k3, k4, k5⟩ := hs
      exact ⟨ho2h b c 0 k1, k2, k3, k4, fun g c' hg => ho2h g c' 0 (k5 g c' hg)⟩
    ·
     have e : hpS S f' t = S t := by unfold hpS; rw [if_neg ht2]
     rw [e]
     refine RepA.keep K (fun j e => e.elim h (fun e => e.elim ht2 ht)) (fun b off e hb => ?_) (I.slots t)
     have hr := I.slots t
     rw [e] at hr
     obtain ⟨_, _, _, hr⟩ := hr
     obtain ⟨l, hl⟩ := hr hb
     have hbd : b ≠ d := fun e => by subst e; rw [hl] at hbox; cases hbox
     have hbo : ¬ zES τ b := fun e => by have := e.1; omega
     have hb2 : ¬ OB2 ≤ b := by unfold OB OB2 at *; omega
     exact ⟨fun e => e.elim hbd (fun e => e.elim hb2 hbo), fun ⟨l, hl⟩ => ⟨l, by rw [zH hbd, zDK hbo]; unfold hpS; rw [if_neg hb2, hl]⟩⟩
theorem call_heap (I : Inv w0 m0 o0 G pins S a w m o) {fn : FuncId} {args : List A} {ins outs : List A} {f f' : Nat → A} {r r' : A} (hf : FCH P fn args ins outs f f' r) (hS : ∀ c, S (OB + (OB + c)) = san (f c)) (hp : zDa f) (hp' : zDa f')
  {σ fr : List Nat} (hnd : (σ ++ fr).Nodup) (hlo : ∀ j ∈ σ ++ fr, j < OB) (hin : σ.map (fun j => S (OB + j)) = ins) (hfi : ins.all A.flatO = true) (hfo : outs.all A.flatO = true) (hfr : ∀ j ∈ fr, S (OB + j) = .free) (hlen : outs.length = (σ ++ fr).length) (hlO : outs.length ≤ OB) (hres : ResH (σ ++ fr) r r')
  {vals : Array Value} (hv : vals.size = args.length) (hr : ∀ (k : Nat) (x : A), args[k]? = some x → ∀ k0, RepA m w (movH σ o) (argH args ins f) k0 x (vals.getD k undef)) (hargs : args.length ≤ OB)
  {d : Nat} (hd : d < a.tmps.size) (hbox : (S d).isBox = false) (hpin : d ∉ pins) :
  Calls P fn vals w fun e w' => ∃ u m' o', e = .returned u ∧ Inv w0 m0 o0 G pins (upd (app (hpS S f') (zCU (σ ++ fr) outs)) d r') (a.put (some d) u) w' m' o' :=
 zKD (K := Calls P fn) I (fun _ _ _ _ h k => Calls.mono h k) hf hS hp hp' hnd hlo hin hfi hfo hfr hlen hlO hres hv hr hargs hd hbox hpin
end
end Go.Proofs.Ytjomnccladjpgaa

/-
 Functions that read and write the heap: their contracts from their code; the rules by which a walk goes.
-/
namespace Go.Proofs.Ytjomnccladjpgaa
open Go Go.RowKit
set_option linter.unusedVariables false
def boxH : Nat → List A → SL
 | _, [] => []
 | i, x :: r => (OB + i, x) :: boxH (i + 1) r
def zFr (fr : List Nat) (args : List A) (ins : List A) (f : Nat → A) : SL := (HK, .hp f) :: (frL fr ++ (boxH 0 ins ++ zBx 0 args))
theorem zHq (ins : List A) (L : SL) : ∀ (i s : Nat), gt (boxH i ins ++ L) s = if OB + i ≤ s ∧ s < OB + i + ins.length then (match ins[s - OB - i]? with | some x => x | none => .any) else gt L s := by
 induction ins with
 | nil => intro i s; rw [if_neg (by simp)]; rfl
 | cons l r ih =>
  intro i s
  show gt ((OB + i, l) :: (boxH (i + 1) r ++ L)) s = _
  rw [qH, upd, ih (i + 1) s]
  by_cases h : s = OB + i
  ·
   subst h
   rw [if_pos rfl, if_pos ⟨by omega, by simp⟩]
   simp
  ·
   rw [if_neg h]
   by_cases h2 : OB + i ≤ s ∧ s < OB + i + (l :: r).length
   ·
    rw [if_pos h2, if_pos ⟨by omega, by have := h2.2; simp at this; omega⟩]
    rw [show s - OB - i = (s - OB - (i + 1)) + 1 by omega, List.getElem?_cons_succ]
   · rw [if_neg h2, if_neg (by intro h3; exact h2 ⟨by omega, by simp; omega⟩)]
theorem zIG (fr : List Nat) (args : List A) (ins : List A) (f : Nat → A) (hn : args.length ≤ OB) (hil : ins.length < OB) (hfr : fr.all (fun j => Nat.ble ins.length j) = true) (s : Nat) (hs : s < OB2) : gt (frL fr ++ (boxH 0 ins ++ zBx 0 args)) s = argH args ins f s ∨ (gt (frL fr ++ (boxH 0 ins ++ zBx 0 args)) s = .any ∧ argH args ins f s = .free) := by
 induction fr with
 | nil =>
  show gt (boxH 0 ins ++ zBx 0 args) s = _ ∨ (gt (boxH 0 ins ++ zBx 0 args) s = .any ∧ _)
  unfold argH
  by_cases h : s < OB
  ·
   refine .inl ?_
   rw [zHq, zFT, if_neg (by omega), if_pos (Nat.zero_le _), if_pos h]
   rfl
  ·
   by_cases h2 : s < OB + ins.length
   ·
    refine .inl ?_
    rw [zHq, if_pos ⟨by omega, by omega⟩, if_neg h, if_neg (by omega)]
    have : s - OB < ins.length := by omega
    simp [List.getElem?_eq_getElem this]
   ·
    refine .inr ⟨show gt (boxH 0 ins ++ zBx 0 args) s = .any from ?_, ?_⟩
    ·
     rw [zHq, zFT, if_neg (by omega), if_pos (Nat.zero_le _)]
     unfold argS
     rw [List.getD_eq_getElem?_getD, List.getElem?_eq_none (by omega)]
     rfl
    · rw [if_neg h, if_neg (by omega), List.getElem?_eq_none (by omega)]
 | cons j r ih =>
  simp only [List.all_cons, Bool.and_eq_true] at hfr
  show gt ((OB + j, .free) :: (frL r ++ (boxH 0 ins ++ zBx 0 args))) s = _ ∨ (gt ((OB + j, .free) :: (frL r ++ (boxH 0 ins ++ zBx 0 args))) s = _ ∧ _)
  rw [qH, upd]
  by_cases h : s = OB + j
  ·
   rw [if_pos h]
   refine .inl ?_
   have := Nat.le_of_ble_eq_true hfr.1
   unfold argH
   rw [if_neg (by omega), if_neg (by omega), List.getElem?_eq_none (by omega)]
  · rw [if_neg h]; exact ih hfr.2
def outH (L : SL) : Nat → List A → Prop
 | _, [] => True
 | i, x :: r => gt L (OB + i) = x ∧ outH L (i + 1) r
theorem zJc {L : SL} : ∀ {outs : List A} {i : Nat}, outH L i outs → ∀ (k : Nat) (l : A), outs[k]? = some l → gt L (OB + (i + k)) = l
 | [], _, _, k, l, h => by simp at h
 | x :: r, i, h, k, l, hk => by
  cases k with
  | zero => injection hk with hk; subst hk; exact h.1
  | succ k => rw [show i + (k + 1) = i + 1 + k by omega]; exact zJc h.2 k l (by simpa using hk)
def endH (P : Program) (rs : List ResultVar) (outs : List A) (f' : Nat → A) (r : A) : Exit → SL → Prop
 | .normal, L | .ret, L => (∃ y, resA P (gt L) rs = some y ∧ WkA y r) ∧ outH L 0 outs ∧ gt L HK = .hp f'
 | _, _ => False
section
variable {P : Program} {w0 : World} {m0 : Mem} {o0 : OwnM} {G : GD} {pins : List Nat} {a : Act} {w : World} {m : Mem} {o : OwnM}
theorem resA_low {S : Nat → A} (I : Inv w0 m0 o0 G pins S a w m o) {fn : Func} {rs : List ResultVar} (hrs : fn.results = rs.toArray) (hrt : (match rs with | [.tmp t] => Nat.blt t OB | _ => true) = true) {y : A} (h : resA P S rs = some y) :
  ∃ v ρ, (results fn a.tmps).run P w = .ok v w ∧ RepA m w o S ρ y v ∧ ρ < OB := by
 have hO : 0 < OB := by decide
 have many : ∀ l, rs.mapM (resT P S) = some l → rs.length ≠ 1 → ∃ v ρ, (results fn a.tmps).run P w = .ok v w ∧ RepA m w o S ρ (.tup l) v ∧ ρ < OB := by
  intro l hl hne
  obtain ⟨vs, h5, h6, h8, h7⟩ := zHY (P := P) I 0 rs l 1 hl
  have hlen : vs.length ≠ 1 := by omega
  refine ⟨.tuple vs.toArray, 0, ?_, ⟨vs.toArray, rfl, by simpa using h6, fun j x hj => ?_⟩, hO⟩
  ·
   show (do let vs ← fn.results.mapM (resS a.tmps); pure (if h : vs.size = 1 then vs[0] else .tuple vs) : Sem Value).run P w = _
   rw [hrs, Sem.run_bind, List.mapM_toArray, Sem.run_map, h5, Result.andThen_ok, Result.andThen_ok, Sem.run_pure]
   rw [dif_neg (by simpa using hlen)]
  ·
   obtain ⟨u, k1, k2⟩ := h7 j x hj
   exact ⟨u, by simpa using k1, by rw [Nat.add_comm]; exact k2⟩
 have one : ∀ r x, rs = [r] → resT P S r = some x → ∃ v ρ, (results fn a.tmps).run P w = .ok v w ∧ RepA m w o S ρ (.t x) v ∧ ρ < OB := by
  intro r x e hx
  subst e
  obtain ⟨v, h3, h4⟩ := zHH (P := P) I hx (0, 0)
  refine ⟨v, 0, ?_, h4, hO⟩
  show (do let vs ← fn.results.mapM (resS a.tmps); pure (if h : vs.size = 1 then vs[0] else .tuple vs) : Sem Value).run P w = _
  rw [hrs, Sem.run_bind, List.mapM_toArray, Sem.run_map, List.mapM_cons, Sem.run_bind, h3]
  simp
 unfold resA at h
 split at h
 ·
  rename_i t
  injection h with h
  subst h
  exact ⟨_, t, results_tmp hrs _ _ _, I.slots t, by simpa using hrt⟩
 ·
  rename_i r _
  cases hx : resT P S r with
  | none => rw [hx] at h; cases h
  | some x =>
   rw [hx] at h
   injection h with h
   subst h
   exact one r x rfl hx
 ·
  rename_i h1 h2
  cases hx : rs.mapM (resT P S) with
  | none => rw [hx] at h; cases h
  | some l =>
   rw [hx] at h
   injection h with h
   subst h
   refine many l hx fun e => ?_
   match rs, e with
   | [r], _ => exact h2 r rfl
theorem zKK {k : Nat} (h : k < OB) : DK ∉ zH2 k := fun hm => by
 obtain ⟨i, hi, e⟩ := List.mem_map.1 hm
 have := List.mem_range.1 hi
 unfold DK at e
 unfold OB at h e
 omega
theorem fch_inv (fr : List Nat) {F : Func} {args : List A} {ins : List A} {f : Nat → A} (hle : args.length ≤ F.ntmps) (hw : F.ntmps ≤ OB) (hio : ins.length < OB) (hfr1 : fr.all (fun j => Nat.ble ins.length j) = true) (hfr2 : fr.all (fun j => Nat.blt j OB) = true)
  {w : World} {m : Mem} {o : OwnM} {vals : Array Value} (hsat : ∀ b p u, m b p = some u → w.cell? ⟨b, p, none⟩ = some u) (htbl : Mle TBL m) (hlt : ∀ g l, o g = some l → g < w.heap.size) (hinj : ∀ g g' l, o g = some l → o g' = some l → g = g') (hsz : vals.size = args.length)
  (hrep : ∀ s, RepA m w o (argH args ins f) s (argH args ins f s) (vals.getD s undef)) :
  Low (gt (zFr fr args ins f)) ∧ (vals ++ Array.replicate (F.ntmps - vals.size) undef).size = F.ntmps ∧ Inv w m o ⟨fun g => o g ≠ none, []⟩ (zH2 ins.length) (hx (gt (zFr fr args ins f))) { tmps := vals ++ Array.replicate (F.ntmps - vals.size) undef, defers := [] } w m o := by
 have hlow0 : Low (gt (frL fr ++ (boxH 0 ins ++ zBx 0 args))) := by
  intro t ht
  have hb0 : Low (gt (boxH 0 ins ++ zBx 0 args)) := by
   intro t ht
   rw [zHq, if_neg (by unfold OB OB2 at *; omega)]
   exact zHF (fr := []) hle hw rfl t ht
  clear hrep
  induction fr with
  | nil => exact hb0 t ht
  | cons j r ih =>
   simp only [List.all_cons, Bool.and_eq_true] at hfr2 hfr1
   show gt ((OB + j, .free) :: (frL r ++ (boxH 0 ins ++ zBx 0 args))) t = _
   have h1 : j < OB := by simpa using hfr2.1
   rw [qH, zH (by unfold OB OB2 at *; omega)]
   exact ih hfr1.2 hfr2.2
 have hlow : Low (gt (zFr fr args ins f)) := by
  show Low (gt ((HK, .hp f) :: _))
  rw [qH]
  exact hlow0.upd zFm
 have hkk : gt (zFr fr args ins f) HK = .hp f := by show gt ((HK, .hp f) :: _) HK = _; rw [qH, zZ]
 refine ⟨hlow, ?_, ?_⟩
 · simp [hsz]; omega
 ·
  have hargK : ∀ g j, o g = some (OB + j, 0) → OB + j ∈ zH2 ins.length ∨ OB2 ≤ OB + j := by
   intro g j h
   by_cases h2 : OB2 ≤ OB + j
   · exact .inr h2
   ·
    by_cases h3 : j < ins.length
    · exact .inl (List.mem_map.2 ⟨j, List.mem_range.2 h3, rfl⟩)
    ·
     exfalso
     have hs := hrep (OB + j)
     have e : argH args ins f (OB + j) = .free := by unfold argH; rw [if_neg (by omega), if_neg h2, Nat.add_sub_cancel_left, List.getElem?_eq_none (by omega)]
     rw [e] at hs
     exact hs g 0 h
  refine ⟨Same.refl _ _, hsat, Mle.refl _, fun _ _ _ => rfl, fun g l h => .inl (by show o g ≠ none; rw [h]; simp), hlt, hinj, fun s hs g hg => hg, fun s => ?_, rfl, htbl, by simp [hsz]; omega, fun g j h => ⟨hargK g j h, zBA.refl w g⟩⟩
  have hget : (vals ++ Array.replicate (F.ntmps - vals.size) undef).getD s undef = vals.getD s undef := by
   simp only [Array.getD_eq_getD_getElem?, Array.getElem?_append, Array.getElem?_replicate]
   by_cases h : s < vals.size
   · simp [h]
   ·
    rw [if_neg h, Array.getElem?_eq_none (by omega)]
    split <;> rfl
  show RepA m w o (hx (gt (zFr fr args ins f))) s (hx (gt (zFr fr args ins f)) s) ((vals ++ Array.replicate (F.ntmps - vals.size) undef).getD s undef)
  rw [hget]
  rcases Nat.lt_or_ge s OB2 with hs2 | hs2
  ·
   rw [zDZ hs2]
   by_cases e : s = HK
   ·
    subst e
    rw [hkk]
    trivial
   ·
    have he : gt (zFr fr args ins f) s = gt (frL fr ++ (boxH 0 ins ++ zBx 0 args)) s := by show gt ((HK, .hp f) :: _) s = _; rw [qH, zH e]
    rw [he]
    rcases zIG fr args ins f (by omega) hio hfr1 s hs2 with e1 | ⟨e1, _⟩
    ·
     rw [e1]
     have h := hrep s
     refine h.turn fun b l hb => ?_
     rcases Nat.lt_or_ge b OB2 with hb2 | hb2
     ·
      rw [zDZ hb2]
      have hbk : b ≠ HK := fun e => by
       subst e
       unfold argH at hb
       rw [if_neg (by unfold HK OB; omega), if_neg (by unfold HK OB2; omega), List.getElem?_eq_none (by unfold HK; unfold OB at *; omega)] at hb
       cases hb
      refine ⟨l, ?_⟩
      show gt ((HK, .hp f) :: _) b = _
      rw [qH, zH hbk]
      rcases zIG fr args ins f (by omega) hio hfr1 b hb2 with e2 | ⟨_, e2⟩
      · rw [e2, hb]
      · rw [hb] at e2; cases e2
     ·
      obtain ⟨c, rfl⟩ : ∃ c, b = OB + (OB + c) := ⟨b - OB2, by rw [← zAZ]; omega⟩
      have e : argH args ins f (OB + (OB + c)) = san (f c) := by
       unfold argH
       rw [if_neg (by omega), if_pos hb2, ← zAZ, Nat.add_sub_cancel_left]
      rw [zEc hlow hkk, ← e, hb]
      exact ⟨l, rfl⟩
    · rw [e1]; trivial
  ·
   obtain ⟨c, rfl⟩ : ∃ c, s = OB + (OB + c) := ⟨s - OB2, by rw [← zAZ]; omega⟩
   rw [zEc hlow hkk]
   have h := hrep (OB + (OB + c))
   have e : argH args ins f (OB + (OB + c)) = san (f c) := by
    unfold argH
    rw [if_neg (by omega), if_pos hs2, ← zAZ, Nat.add_sub_cancel_left]
   rw [e] at h
   rcases zDY (f c) with ⟨l, hl⟩ | hl | hl | ⟨l, hl⟩ | ⟨b, u, mE, oE, hl⟩
   · rw [hl] at h ⊢; exact h
   · rw [hl] at h ⊢; exact h
   · rw [hl]; trivial
   · rw [hl] at h ⊢; exact h
   · rw [hl] at h ⊢; exact h
theorem qY (fr : List Nat) {fn : FuncId} {F : Func} {c : Code} {args : List A} {rs : List ResultVar} {ins outs : List A} {f f' : Nat → A} {r : A} {n : Nat} {pins : List Nat} {L : SL} (hf : P.funcs[fn]? = some F) (hb : F.body = some c) (hn : F.ntmps = n) (hle : args.length ≤ n) (hres : F.results = rs.toArray)
  (hpins : (zH2 ins.length, Nat.ble n OB, fr.all (fun j => Nat.ble ins.length j && Nat.blt j OB), Nat.blt ins.length OB && Nat.blt outs.length OB, (match rs with | [.tmp t] => Nat.blt t OB | _ => true)) = (pins, true, true, true, true)) (hL : zFr fr args ins f = L) (hc : qI P pins n c (endH P rs outs f' r) L) : FCH P fn args ins outs f f' r := by
 injection hpins with hpins hw
 injection hw with hw hfr
 injection hfr with hfr hil
 injection hil with hil hrt
 have hw := Nat.le_of_ble_eq_true hw
 simp only [Bool.and_eq_true] at hil
 have hio : ins.length < OB := by simpa using hil.1
 have hoo : outs.length < OB := by simpa using hil.2
 have hfr1 : fr.all (fun j => Nat.ble ins.length j) = true := List.all_eq_true.2 fun j hj => by have := List.all_eq_true.1 hfr j hj; simp only [Bool.and_eq_true] at this; exact this.1
 have hfr2 : fr.all (fun j => Nat.blt j OB) = true := List.all_eq_true.2 fun j hj => by have := List.all_eq_true.1 hfr j hj; simp only [Bool.and_eq_true] at this; exact this.2
 subst hn hpins hL
 intro w m o vals hsat htbl hlt hinj hsz hrep
 obtain ⟨hlow, hs0, I0⟩ := fch_inv fr hle hw hio hfr1 hfr2 hsat htbl hlt hinj hsz hrep
 refine calls_of_wp hf hb (wpIn_wide.1 (wpIn_mono (hc Fence.wide 0 ⟨.wide, fun _ => rfl⟩ w m o ⟨fun g => o g ≠ none, []⟩ _ w ⟨hs0, hlow, m, o, I0⟩) ?_))
 ·
  rintro e a' w' ⟨L', hq, hS⟩
  obtain ⟨hN, hlo', m', o', I⟩ := hS.st (zKK hio)
  have fin : ((∃ y, resA P (gt L') rs = some y ∧ WkA y r) ∧ outH L' 0 outs ∧ gt L' HK = .hp f') → a'.defers = [] ∧ ∃ v, (results F a'.tmps).run P w' = .ok v w' ∧ ∃ (u : Value) (m' : Mem) (o' : OwnM) (S' : Nat → A) (a' : Act) (ρ : Nat), Ending.returned v = .returned u ∧ Inv w m o ⟨fun g => o g ≠ none, []⟩ (zH2 ins.length) S' a' w' m' o' ∧ RepA m' w' o' S' ρ r u ∧ (∀ (i : Nat) (x : A), outs[i]? = some x → S' (OB + i) = x) ∧ (∀ c, S' (OB + (OB + c)) = san (f' c)) ∧ ρ < OB := by
   rintro ⟨⟨y, hy, hw⟩, ho, hk⟩
   obtain ⟨y', hy', hyy⟩ := resA_hx hy
   obtain ⟨v, ρ, h1, h2, h3⟩ := resA_low (P := P) I hres hrt hy'
   refine ⟨I.defers, v, h1, v, m', o', hx (gt L'), a', ρ, rfl, I, hw.rep I.sat (by rcases hyy with rfl | rfl; exact h2; exact trivial), fun i l h => ?_, fun c => zEc hlo' hk c, h3⟩
   have hi := (List.getElem?_eq_some_iff.1 h).1
   have := zJc ho i l h
   rw [Nat.zero_add] at this
   rw [zDZ (by unfold OB OB2 at *; omega), this]
  cases e <;> first | exact fin hq | exact hq.elim
end
end Go.Proofs.Ytjomnccladjpgaa
