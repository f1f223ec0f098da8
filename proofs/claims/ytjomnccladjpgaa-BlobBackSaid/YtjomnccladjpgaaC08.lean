/-
  Texts joined: see the remark at the head of each part.
-/
import Derived.Test.YtjomnccladjpgaaC07
import Derived.RangeFuncIn
import Derived.RangeFuncRecord
set_option linter.unusedVariables false
set_option linter.unusedSimpArgs false
/-
  More objects in the heap: what a function does to a heap, it does to a heap that holds more (the objects of kind 63).
-/
namespace Go.Proofs.Ytjomnccladjpgaa
open Go Go.RowKit
set_option linter.unusedVariables false

/-- A heap with more: objects of kind 63. -/
def hz (f z : Nat → A) : Nat → A := fun c => if c % 64 = 63 then z (c / 64) else f c
def isZ (s : Nat) : Prop := OB2 ≤ s ∧ (s - OB2) % 64 = 63
instance (s : Nat) : Decidable (isZ s) := by unfold isZ; exact inferInstance
theorem isZ_lo {s : Nat} (h : s < OB2) : ¬ isZ s := fun e => by have := e.1; omega
theorem isZ_c {c : Nat} : isZ (OB + (OB + c)) ↔ c % 64 = 63 := by
  unfold isZ
  rw [← ob2_eq, Nat.add_sub_cancel_left]
  exact ⟨fun h => h.2, fun h => ⟨Nat.le_add_right _ _, h⟩⟩
/-- What tells of no object of kind 63. -/
def nzT : T → Bool
  | .hpt c _ | .hvw c _ _ _ _ => !(c % 64 == 63)
  | .mpt i => !(Nat.ble OB i && (i - OB) % 64 == 63)
  | .ptr _ _ | .view _ _ _ _ _ => false
  | _ => true
def nzA : A → Bool
  | .t x => nzT x
  | .tup l | .ag l | .lst l | .imt l => l.all nzT
  | .imm _ | .any => true
  | _ => false
def dzO (o : OwnM) : OwnM := fun g => match o g with
  | some l => if isZ l.1 then none else some l
  | none => none
theorem dzO_iff {o : OwnM} {g : Nat} {l : Nat × Nat} : dzO o g = some l ↔ ¬ isZ l.1 ∧ o g = some l := by
  unfold dzO
  constructor
  · intro h
    split at h
    · split at h
      · cases h
      · rename_i hn; injection h with h; subst h; exact ⟨hn, by assumption⟩
    · cases h
  · rintro ⟨h1, h2⟩
    rw [h2]
    simp only
    rw [if_neg h1]
section
variable {m : Mem} {w : World} {o : OwnM}
theorem nzT_rep {loc : Nat × Nat} (hl : ¬ isZ loc.1) {x : T} (hx : nzT x = true) {v : Value} (h : RepT m w o loc x v) : RepT m w (dzO o) loc x v := by
  cases x with
  | d x => exact h
  | agg l => exact h
  | own E k l =>
    obtain ⟨A', cap, xs, e, h1, h2, h3, h4⟩ := h
    exact ⟨A', cap, xs, e, h1, fun g hg => ⟨dzO_iff.2 ⟨hl, (h2 g hg).1⟩, (h2 g hg).2⟩, h3, h4⟩
  | ptr i off => cases hx
  | view i off E k n => cases hx
  | hpt i off =>
    have hx : i % 64 ≠ 63 := by simpa [nzT] using hx
    obtain ⟨g, h1, h2⟩ := h
    exact ⟨g, dzO_iff.2 ⟨fun e => hx (isZ_c.1 e), h1⟩, h2⟩
  | mpt i =>
    obtain ⟨g, h1, h2⟩ := h
    refine ⟨g, dzO_iff.2 ⟨fun e => ?_, h1⟩, h2⟩
    have e : isZ (OB + i) := e
    have h3 : OB ≤ i := by have := e.1; unfold OB OB2 at *; omega
    have h4 : i = OB + (i - OB) := by omega
    rw [h4] at e
    have h5 := isZ_c.1 e
    have hx : (!(Nat.ble OB i && (i - OB) % 64 == 63)) = true := hx
    rw [h5, Nat.ble_eq_true_of_le h3] at hx
    cases hx
  | hvw i off E k n =>
    have hx : i % 64 ≠ 63 := by simpa [nzT] using hx
    obtain ⟨A', q, h1, h2, h3, h4⟩ := h
    exact ⟨A', q, h1, h2, h3, h4.imp id fun ⟨g, cs, E1, k1, k2⟩ => ⟨g, cs, E1, dzO_iff.2 ⟨fun e => hx (isZ_c.1 e), k1⟩, k2⟩⟩
theorem all_nz {l : List T} (h : l.all nzT = true) {j : Nat} {x : T} (hj : l[j]? = some x) : nzT x = true := List.all_eq_true.1 h x (List.mem_of_getElem? hj)
theorem nzA_rep {s : Nat} (hs : ¬ isZ s) {S S' : Nat → A} {x : A} (hx : nzA x = true) {v : Value} (h : RepA m w o S s x v) : RepA m w (dzO o) S' s x v := by
  cases x with
  | t x => exact nzT_rep hs hx h
  | tup l =>
    obtain ⟨vs, e, h1, h2⟩ := h
    exact ⟨vs, e, h1, fun j x hj => let ⟨u, a, b⟩ := h2 j x hj; ⟨u, a, nzT_rep hs (all_nz hx hj) b⟩⟩
  | ag l =>
    obtain ⟨vs, e, h1, h2⟩ := h
    exact ⟨vs, e, h1, fun j x hj => let ⟨u, a, c, b⟩ := h2 j x hj; ⟨u, a, c, nzT_rep hs (all_nz hx hj) b⟩⟩
  | lst l =>
    obtain ⟨g, cap, e, h1, h2, h3⟩ := h
    exact ⟨g, cap, e, h1, h2, fun j x hj => let ⟨u, a, b⟩ := h3 j x hj; ⟨u, a, nzT_rep hs (all_nz hx hj) b⟩⟩
  | imt l =>
    obtain ⟨g, e, h3⟩ := h
    exact ⟨g, e, fun j x hj => let ⟨u, a, b⟩ := h3 j x hj; ⟨u, a, nzT_rep hs (all_nz hx hj) b⟩⟩
  | imm l => exact h
  | any => trivial
  | _ => cases hx
end
/-- What objects of the heap hold: no object of kind 63, and none of that kind is there. -/
structure NZ (f : Nat → A) : Prop where
  z : ∀ c, c % 64 = 63 → san (f c) = .free
  b : ∀ c l, san (f c) = .box l → ∀ x ∈ l, nzT x = true
  r : ∀ c b u mE oE, san (f c) ≠ .rcd b u mE oE
theorem FCK.frame {K : Array Value → World → (Ending → World → Prop) → Prop} (hKm : ∀ (v : Array Value) (w : World) (R R' : Ending → World → Prop), K v w R → (∀ e w', R e w' → R' e w') → K v w R')
    {args : List A} {f f' : Nat → A} {r : A} (hf : FCK K args [] [] f f' r) (h0 : NZ f) (h0' : NZ f') (ha : args.all nzA = true) (hle : args.length ≤ OB) (z : Nat → A) : FCK K args [] [] (hz f z) (hz f' z) r := by
  intro w m o vals hsat htbl hlt hinj hsz hrep
  refine hKm _ _ _ _ (hf w m (dzO o) vals hsat htbl (fun g l h => hlt g l (dzO_iff.1 h).2) (fun g g' l h h' => hinj g g' l (dzO_iff.1 h).2 (dzO_iff.1 h').2) hsz fun s => ?_) ?_
  · have hs := hrep s
    revert hs
    generalize vals.getD s undef = v
    intro hs
    unfold argH at hs ⊢
    by_cases h1 : s < OB
    · rw [if_pos h1] at hs ⊢
      have hnz : ¬ isZ s := isZ_lo (by unfold OB OB2 at *; omega)
      refine nzA_rep hnz ?_ hs
      rw [List.getD_eq_getElem?_getD]
      cases hx : args[s]? with
      | none => rfl
      | some x => exact List.all_eq_true.1 ha x (List.mem_of_getElem? hx)
    · rw [if_neg h1] at hs ⊢
      by_cases h2 : OB2 ≤ s
      · rw [if_pos h2] at hs ⊢
        obtain ⟨c, rfl⟩ : ∃ c, s = OB2 + c := ⟨s - OB2, by omega⟩
        rw [Nat.add_sub_cancel_left] at hs ⊢
        by_cases hc : c % 64 = 63
        · rw [h0.z c hc]
          intro g k h
          have := (dzO_iff.1 h).1
          rw [ob2_eq] at this
          exact this (isZ_c.2 hc)
        · have hnz : ¬ isZ (OB2 + c) := by rw [ob2_eq]; exact fun e => hc (isZ_c.1 e)
          have e1 : hz f z c = f c := by unfold hz; rw [if_neg hc]
          rw [e1] at hs
          rcases san_cases (f c) with ⟨l, hl⟩ | hl | hl | ⟨l, hl⟩ | ⟨b, u, mE, oE, hl⟩
          · have hb := h0.b c l hl
            rw [hl] at hs ⊢
            obtain ⟨g, e, k1, k2, cs, E, k3, k4, k5⟩ := hs
            refine ⟨g, e, dzO_iff.2 ⟨hnz, k1⟩, k2, cs, E, k3, k4, fun j x hj => ?_⟩
            obtain ⟨q1, u, q2, q3⟩ := k5 j x hj
            exact ⟨q1, u, q2, nzT_rep hnz (hb x (List.mem_of_getElem? hj)) q3⟩
          · rw [hl] at hs ⊢
            exact fun g k h => hs g k (dzO_iff.1 h).2
          · rw [hl]; trivial
          · rw [hl] at hs ⊢
            obtain ⟨g, k1, k2⟩ := hs
            exact ⟨g, dzO_iff.2 ⟨hnz, k1⟩, k2⟩
          · exact absurd hl (h0.r c _ _ _ _)
      · rw [if_neg h2] at hs ⊢
        exact fun g k h => hs g k (dzO_iff.1 h).2
  · rintro e w' ⟨u, m', o', S', a', ρ, he, J, hr, _, hhp, hρ⟩
    -- owners
    have hzn : ∀ g l, o g = some l → isZ l.1 → dzO o g = none := fun g l h hl => by unfold dzO; rw [h]; simp only; rw [if_pos hl]
    have hzo : ∀ g l, o g = some l → isZ l.1 → o' g = none := by
      intro g l h hl
      cases hq : o' g with
      | none => rfl
      | some l' =>
        rcases J.own g l' hq with hG | hG
        · exact absurd (hzn g l h hl) hG
        · exact absurd (hlt g l h) (by omega)
    let o2 : OwnM := fun g => match o g with
      | some l => if isZ l.1 then some l else o' g
      | none => o' g
    have h2z : ∀ g l, o g = some l → isZ l.1 → o2 g = some l := fun g l h hl => by
      show (match o g with | some l => if isZ l.1 then some l else o' g | none => o' g) = _
      rw [h]; simp only; rw [if_pos hl]
    have h2n : ∀ g l, o' g = some l → o2 g = some l := by
      intro g l h
      show (match o g with | some l => if isZ l.1 then some l else o' g | none => o' g) = _
      cases hq : o g with
      | none => exact h
      | some l' =>
        simp only
        by_cases hl : isZ l'.1
        · rw [hzo g l' hq hl] at h; cases h
        · rw [if_neg hl]; exact h
    have h2 : ∀ g l, o2 g = some l → (isZ l.1 ∧ o g = some l) ∨ o' g = some l := by
      intro g l h
      have h : (match o g with | some l => if isZ l.1 then some l else o' g | none => o' g) = some l := h
      cases hq : o g with
      | none => rw [hq] at h; exact .inr h
      | some l' =>
        rw [hq] at h
        simp only at h
        by_cases hl : isZ l'.1
        · rw [if_pos hl] at h; injection h with h; subst h; exact .inl ⟨hl, rfl⟩
        · rw [if_neg hl] at h; exact .inr h
    have hfz : ∀ g l, o' g = some l → ¬ isZ l.1 := by
      rintro g ⟨s, k⟩ h hl
      obtain ⟨c, rfl⟩ : ∃ c, s = OB + (OB + c) := ⟨s - OB2, by rw [← ob2_eq]; have := hl.1; show s = _; have h3 : OB2 ≤ s := this; omega⟩
      have hs := J.slots (OB + (OB + c))
      rw [hhp, h0'.z c (isZ_c.1 hl)] at hs
      exact hs g k h
    have hpin : ∀ s, OB ≤ s → ∀ g, o g = some (s, 0) → o2 g = some (s, 0) := by
      intro s hs g h
      by_cases hl : isZ s
      · exact h2z g _ h hl
      · exact h2n g _ (J.pinned s (.inr hs) g (dzO_iff.2 ⟨hl, h⟩))
    have hblk : ∀ g l, o g = some l → isZ l.1 → m' g = m g ∧ w'.heap[g]? = w.heap[g]? := fun g l h hl =>
      ⟨J.old g (hlt g l h) fun hn => hn (hzn g l h hl), J.same.block g (hlt g l h) fun hn => hn (hzn g l h hl)⟩
    have hshp : ∀ g j, o g = some (OB + j, 0) → ShpAt w w' g := by
      intro g j h
      by_cases hl : isZ (OB + j)
      · exact .of_eq (hblk g _ h hl).2
      · exact (J.shps g j (dzO_iff.2 ⟨hl, h⟩)).2
    let S2 : Nat → A := fun t => if isZ t then san (z ((t - OB2) / 64)) else S' t
    have K1 : Keep (fun l => isZ l.1) m' w' o' m' w' o2 := ⟨Mle.refl _, fun _ _ _ _ => rfl, fun _ _ _ _ => rfl, fun g l h _ => h2n g l h, fun g j h => h2n g _ h, fun g s k hn h => by
      rcases h2 g _ h with ⟨hl, _⟩ | h
      · exact absurd hl hn
      · exact ⟨g, k, h⟩, fun g j _ => .refl _ _⟩
    have hbox : ∀ b l, b < OB → S' b = .box l → ∃ l, S2 b = .box l := fun b l hb h => ⟨l, by show (if isZ b then _ else S' b) = _; rw [if_neg (isZ_lo (by unfold OB OB2 at *; omega))]; exact h⟩
    refine ⟨u, m', o2, S2, a', ρ, he, ⟨J.same.weaken fun g h e => h ?_, J.sat, J.mono, fun b hb hn => J.old b hb fun h => h ?_, fun g l h => ?_, fun g l h => ?_, fun g g' l h h' => ?_, fun s hs g hg => ?_, fun s => ?_, J.defers, J.tbl, J.wide, fun g j h => ⟨.inr ?_, hshp g j h⟩⟩, ?_, fun i x h => by simp at h, fun c => ?_, hρ⟩
    · show dzO o g = none
      unfold dzO; rw [e]
    · have hn : o b = none := by
        cases hq : o b with
        | none => rfl
        | some l => exact absurd (show o b ≠ none by rw [hq]; simp) hn
      show dzO o b = none
      unfold dzO; rw [hn]
    · rcases h2 g l h with ⟨_, h⟩ | h
      · exact .inl (by show o g ≠ none; rw [h]; simp)
      · rcases J.own g l h with hG | hG
        · refine .inl fun e => hG ?_
          show dzO o g = none
          unfold dzO; rw [e]
        · exact .inr hG
    · rcases h2 g l h with ⟨_, h⟩ | h
      · exact Nat.lt_of_lt_of_le (hlt g l h) J.same.size
      · exact J.lt g l h
    · rcases h2 g l h with ⟨hl, h⟩ | h <;> rcases h2 g' l h' with ⟨hl', h'⟩ | h'
      · exact hinj g g' l h h'
      · exact absurd hl (hfz g' l h')
      · exact absurd hl' (hfz g l h)
      · exact J.inj g g' l h h'
    · rcases hs with hs | hs
      · simp [pinsH] at hs
      · exact hpin s hs g hg
    · by_cases hl : isZ s
      · obtain ⟨c, rfl⟩ : ∃ c, s = OB + (OB + c) := ⟨s - OB2, by rw [← ob2_eq]; have := hl.1; omega⟩
        have e2 : S2 (OB + (OB + c)) = san (z (c / 64)) := by
          show (if isZ (OB + (OB + c)) then _ else _) = _
          rw [if_pos hl, ← ob2_eq, Nat.add_sub_cancel_left]
        have hs := hrep (OB + (OB + c))
        have e3 : argH args [] (hz f z) (OB + (OB + c)) = san (z (c / 64)) := by
          unfold argH
          rw [if_neg (by omega), ← ob2_eq, if_pos (Nat.le_add_right _ _), Nat.add_sub_cancel_left]
          unfold hz
          rw [if_pos (isZ_c.1 hl)]
        rw [e3] at hs
        rw [e2]
        have K2 : Keep (fun l => ¬ isZ l.1) m w o m' w' o2 := ⟨J.mono, fun g l h hn => (hblk g l h (by simpa using hn)).1, fun g l h hn => (hblk g l h (by simpa using hn)).2, fun g l h hn => h2z g l h (by simpa using hn), fun g j h => hpin _ (Nat.le_add_right _ _) g h, fun g s k hn h => by
          rcases h2 g _ h with ⟨_, h⟩ | h
          · exact ⟨g, k, h⟩
          · exact absurd (by simpa using hn) (hfz g _ h), hshp⟩
        have hnr : ∀ b off, san (z (c / 64)) ≠ .ref b off := fun b off e => by cases hq : z (c / 64) <;> rw [hq] at e <;> cases e
        have h3 := RepA.keep (S' := S2) K2 (fun j => by simpa using hl) (fun b off e _ => absurd e (hnr b off)) hs
        -- the value of the slot does not count
        rcases san_cases (z (c / 64)) with ⟨l, hq⟩ | hq | hq | ⟨l, hq⟩ | ⟨b, u, mE, oE, hq⟩
        · rw [hq] at h3 ⊢
          obtain ⟨g, _, rest⟩ := h3
          exact ⟨g, fun h => absurd h (by omega), rest⟩
        · rw [hq] at h3 ⊢; exact h3
        · rw [hq]; trivial
        · rw [hq] at h3 ⊢; exact h3
        · rw [hq] at h3 ⊢; exact h3
      · have e2 : S2 s = S' s := by show (if isZ s then _ else _) = _; rw [if_neg hl]
        rw [e2]
        exact RepA.keep K1 (fun _ => hl) (fun b off _ hb => ⟨isZ_lo (by unfold OB OB2 at *; omega), fun ⟨l, hl⟩ => hbox b l hb hl⟩) (J.slots s)
    · by_cases hl : isZ (OB + j)
      · exact hl.1
      · exact ((J.shps g j (dzO_iff.2 ⟨hl, h⟩)).1).resolve_left fun h => by simp [pinsH] at h
    · exact RepA.keep K1 (fun _ => isZ_lo (by unfold OB OB2 at *; omega)) (fun b off _ hb => ⟨isZ_lo (by unfold OB OB2 at *; omega), fun ⟨l, hl⟩ => hbox b l hb hl⟩) hr
    · show (if isZ (OB + (OB + c)) then _ else _) = _
      by_cases hl : isZ (OB + (OB + c))
      · rw [if_pos hl, ← ob2_eq, Nat.add_sub_cancel_left]
        unfold hz
        rw [if_pos (isZ_c.1 hl)]
      · rw [if_neg hl, hhp]
        unfold hz
        rw [if_neg fun e => hl (isZ_c.2 e)]
end Go.Proofs.Ytjomnccladjpgaa

/-
  A range over a function: what is told at its head, in its rounds and behind it.
-/
namespace Go.Proofs.Ytjomnccladjpgaa
open Go Go.RowKit
set_option linter.unusedVariables false

/-! ### Another start -/
/-- The owners, without the local objects. -/
def rs (pins : List Nat) (o : OwnM) : OwnM := fun g => match o g with
  | some l => if OB ≤ l.1 ∧ l.1 < OB2 ∧ l.1 ∉ pins then none else some l
  | none => none
theorem rs_iff {pins : List Nat} {o : OwnM} {g : Nat} {l : Nat × Nat} : rs pins o g = some l ↔ (OB ≤ l.1 → l.1 < OB2 → l.1 ∈ pins) ∧ o g = some l := by
  unfold rs
  constructor
  · intro h
    split at h
    · split at h
      · cases h
      · rename_i hn
        injection h with h
        subst h
        refine ⟨fun h1 h2 => ?_, by assumption⟩
        exact Classical.byContradiction fun h3 => hn ⟨h1, h2, h3⟩
    · cases h
  · rintro ⟨h1, h2⟩
    rw [h2]
    simp only
    rw [if_neg]
    rintro ⟨h3, h4, h5⟩
    exact h5 (h1 h3 h4)
section
variable {w0 : World} {m0 : Mem} {o0 : OwnM} {G : GD} {pins : List Nat} {S : Nat → A} {a : Act} {w : World} {m : Mem} {o : OwnM}
theorem Inv.base (I : Inv w0 m0 o0 G pins S a w m o) : Inv w m (rs pins o) ⟨fun g => o g ≠ none, G.ds⟩ pins S a w m o :=
  ⟨.refl _ _, I.sat, .refl _, fun _ _ _ => rfl, fun g l h => .inl (by show o g ≠ none; rw [h]; simp), I.lt, I.inj, fun s hs g h => (rs_iff.1 h).2, I.slots, I.defers, I.tbl.trans I.mono, I.wide, fun g j h => by
    obtain ⟨h1, h2⟩ := rs_iff.1 h
    refine ⟨?_, .refl _ _⟩
    rcases Nat.lt_or_ge (OB + j) OB2 with h3 | h3
    · exact .inl (h1 (Nat.le_add_right _ _) h3)
    · exact .inr h3⟩
theorem Inv.comp (I : Inv w0 m0 o0 G pins S a w m o) {G2 : GD} (hG : ∀ g, G2.p g → o g ≠ none) {S' : Nat → A} {a' : Act} {w' : World} {m' : Mem} {o' : OwnM} (J : Inv w m (rs pins o) G2 pins S' a' w' m' o') : Inv w0 m0 o0 ⟨G.p, G2.ds⟩ pins S' a' w' m' o' := by
  have key : ∀ g, o g ≠ none → G.p g ∨ w0.heap.size ≤ g := fun g h => by
    cases hq : o g with
    | none => exact absurd hq h
    | some l => exact I.own g l hq
  have hpin : ∀ s, (s ∈ pins ∨ OB ≤ s) → ∀ g, o0 g = some (s, 0) → rs pins o g = some (s, 0) := by
    intro s hs g h
    refine rs_iff.2 ⟨fun h1 h2 => ?_, I.pinned s hs g h⟩
    have h1 : OB ≤ s := h1
    have h2 : s < OB2 := h2
    obtain ⟨j, rfl⟩ : ∃ j, s = OB + j := ⟨s - OB, by omega⟩
    exact ((I.shps g j h).1).resolve_right fun h => by omega
  refine ⟨I.same.trans (J.same.weaken fun g h => key g (hG g h)), J.sat, I.mono.trans J.mono, fun b hb hn => ?_, fun g l h => ?_, J.lt, J.inj, fun s hs g h => J.pinned s hs g (hpin s hs g h), J.slots, J.defers, I.tbl, J.wide, fun g j h => ⟨(I.shps g j h).1, (I.shps g j h).2.trans (J.shps g j (hpin _ (.inr (Nat.le_add_right _ _)) g h)).2⟩⟩
  · rw [J.old b (Nat.lt_of_lt_of_le hb I.same.size) fun h => (key b (hG b h)).elim hn fun h => by omega]
    exact I.old b hb hn
  · rcases J.own g l h with h | h
    · exact key g (hG g h)
    · exact .inr (Nat.le_trans I.same.size h)
/-- A frame with other deferred calls. -/
theorem Inv.defs (I : Inv w0 m0 o0 G pins S a w m o) (ds : List Deferred) : Inv w0 m0 o0 ⟨G.p, ds⟩ pins S { a with defers := ds } w m o :=
  ⟨I.same, I.sat, I.mono, I.old, I.own, I.lt, I.inj, I.pinned, I.slots, rfl, I.tbl, I.wide, I.shps⟩
/-- The same where a block that nobody owns has turned. -/
theorem Inv.at (I : Inv w0 m0 o0 G pins S a w m o) {l : Nat} (hl : o l = none) (hm : ∀ p, m l p = none) (u : Obj) : Inv (w.putObj l u) m (rs pins o) ⟨fun g => o g ≠ none, G.ds⟩ pins S a (w.putObj l u) m o := by
  have hne : ∀ g k, o g = some k → g ≠ l := fun g k h e => by subst e; rw [hl] at h; cases h
  have hh : ∀ g k, o g = some k → (w.putObj l u).heap[g]? = w.heap[g]? := fun g k h => World.putObj_heap_other (hne g k h)
  have K : Keep (fun _ => False) m w o m (w.putObj l u) o := ⟨.refl _, fun _ _ _ _ => rfl, fun g k h _ => hh g k h, fun _ _ h _ => h, fun _ _ h => h, fun g _ k _ h => ⟨g, k, h⟩, fun g j h => .of_eq (hh g _ h)⟩
  have B := I.base
  refine ⟨.refl _ _, fun b p v h => ?_, .refl _, fun _ _ _ => rfl, fun g k h => .inl (by show o g ≠ none; rw [h]; simp), fun g k h => by rw [World.putObj_size]; exact I.lt g k h, I.inj, B.pinned, fun s => RepA.keep K (fun _ => id) (fun _ _ _ _ => ⟨id, id⟩) (I.slots s), I.defers, B.tbl, I.wide, fun g j h => ⟨(B.shps g j h).1, .refl _ _⟩⟩
  have hb : b ≠ l := fun e => by subst e; rw [hm] at h; cases h
  have := I.sat b p v h
  unfold World.cell? at this ⊢
  rw [World.putObj_heap_other hb]
  exact this
end

/-! ### Two views of the heap: of the function that ranges, of the function that is ranged over -/
structure VW (bs : List Nat) (o1 o2 : OwnM) : Prop where
  hh : ∀ g c k, c % 64 ≠ 63 → (o1 g = some (OB + (OB + c), k) ↔ o2 g = some (OB + (OB + c), k))
  hb : ∀ (i b g k : Nat), bs[i]? = some b → (o1 g = some (b, k) ↔ o2 g = some (OB + (OB + cd 63 (i + 1)), k))
def toY (bs : List Nat) (l : Nat) (o : OwnM) : OwnM := fun g => if g = l then some (OB + (OB + cd 63 0), 0) else match o g with
  | some (s, k) => if OB2 ≤ s then some (s, k) else (posN bs s).map fun i => (OB + (OB + cd 63 (i + 1)), k)
  | none => none
def ofY (bs : List Nat) (o : OwnM) : OwnM := fun g => match o g with
  | some (s, k) => if OB2 ≤ s then (if (s - OB2) % 64 = 63 then (if (s - OB2) / 64 = 0 then none else (bs[(s - OB2) / 64 - 1]?).map fun b => (b, k)) else some (s, k)) else none
  | none => none
theorem toY_iff {bs : List Nat} {l : Nat} {o : OwnM} (hbs : ∀ b ∈ bs, b < OB) (hl : o l = none) {g : Nat} {q : Nat × Nat} : toY bs l o g = some q ↔ (g = l ∧ q = (OB + (OB + cd 63 0), 0)) ∨ (OB2 ≤ q.1 ∧ o g = some q) ∨ ∃ i b, posN bs b = some i ∧ q.1 = OB + (OB + cd 63 (i + 1)) ∧ o g = some (b, q.2) := by
  unfold toY
  constructor
  · intro h
    split at h
    · injection h with h; exact .inl ⟨by assumption, h.symm⟩
    · split at h
      · rename_i s k hg
        split at h
        · injection h with h; subst h; exact .inr (.inl ⟨by assumption, hg⟩)
        · cases hp : posN bs s with
          | none => rw [hp] at h; cases h
          | some i =>
            rw [hp] at h
            injection h with h
            subst h
            exact .inr (.inr ⟨i, s, hp, rfl, hg⟩)
      · cases h
  · rintro (⟨rfl, rfl⟩ | ⟨h1, h2⟩ | ⟨i, b, h1, h2, h3⟩)
    · rw [if_pos rfl]
    · obtain ⟨s, k⟩ := q
      rw [if_neg (fun e => by subst e; rw [hl] at h2; cases h2), h2]
      simp only
      rw [if_pos h1]
    · obtain ⟨s, k⟩ := q
      have h2 : s = _ := h2
      subst h2
      rw [if_neg (fun e => by subst e; rw [hl] at h3; cases h3), h3]
      have hb := hbs b (List.mem_of_getElem? (posN_get h1))
      simp only
      rw [if_neg (by unfold OB OB2 at *; omega), h1]
      rfl
theorem c63_mod (i : Nat) : cd 63 i % 64 = 63 := cd_mod (by decide)
theorem c63_div (i : Nat) : cd 63 i / 64 = i := cd_div (by decide)
theorem ofY_iff {bs : List Nat} {o : OwnM} {g : Nat} {q : Nat × Nat} : ofY bs o g = some q ↔ (∃ c, c % 64 ≠ 63 ∧ q.1 = OB + (OB + c) ∧ o g = some q) ∨ ∃ i, bs[i]? = some q.1 ∧ o g = some (OB + (OB + cd 63 (i + 1)), q.2) := by
  unfold ofY
  constructor
  · intro h
    split at h
    · rename_i s k hg
      split at h
      · rename_i h1
        obtain ⟨c, rfl⟩ : ∃ c, s = OB2 + c := ⟨s - OB2, by omega⟩
        rw [Nat.add_sub_cancel_left] at h
        split at h
        · rename_i h2
          split at h
          · cases h
          · rename_i h3
            cases hb : bs[c / 64 - 1]? with
            | none => rw [hb] at h; cases h
            | some b =>
              rw [hb] at h
              injection h with h
              subst h
              refine .inr ⟨c / 64 - 1, hb, ?_⟩
              rw [hg, ob2_eq]
              have : c = cd 63 (c / 64 - 1 + 1) := by unfold cd; omega
              rw [← this]
        · injection h with h
          subst h
          exact .inl ⟨c, by assumption, ob2_eq c, hg⟩
      · cases h
    · cases h
  · rintro (⟨c, h1, h2, h3⟩ | ⟨i, h1, h2⟩)
    · obtain ⟨s, k⟩ := q
      have h2 : s = _ := h2
      subst h2
      rw [h3]
      simp only
      rw [← ob2_eq, if_pos (Nat.le_add_right _ _), Nat.add_sub_cancel_left, if_neg h1]
    · obtain ⟨b, k⟩ := q
      rw [h2]
      simp only
      have h1 : bs[i]? = some b := h1
      rw [← ob2_eq, if_pos (Nat.le_add_right _ _), Nat.add_sub_cancel_left, if_pos (c63_mod _), c63_div, if_neg (by omega), Nat.add_sub_cancel, h1]
      rfl
theorem VW.toY {bs : List Nat} {l : Nat} {o : OwnM} (hn : bs.Nodup) (hbs : ∀ b ∈ bs, b < OB) (hl : o l = none) (hz : ∀ g c k, c % 64 = 63 → o g ≠ some (OB + (OB + c), k)) : VW bs o (toY bs l o) := by
  refine ⟨fun g c k hc => ?_, fun i b g k hi => ?_⟩
  · rw [toY_iff hbs hl]
    constructor
    · exact fun h => .inr (.inl ⟨by rw [← ob2_eq]; exact Nat.le_add_right _ _, h⟩)
    · rintro (⟨_, h⟩ | ⟨_, h⟩ | ⟨i, b, _, h, _⟩)
      · injection h with h _
        have : c = cd 63 0 := by omega
        exact absurd (by rw [this]; exact c63_mod 0) hc
      · exact h
      · have h : OB + (OB + c) = OB + (OB + cd 63 (i + 1)) := h
        have : c = cd 63 (i + 1) := by omega
        exact absurd (by rw [this]; exact c63_mod _) hc
  · rw [toY_iff hbs hl]
    constructor
    · exact fun h => .inr (.inr ⟨i, b, posN_of hn hi, rfl, h⟩)
    · rintro (⟨_, h⟩ | ⟨_, h⟩ | ⟨i', b', h1, h, h2⟩)
      · injection h with h _
        have : cd 63 (i + 1) = cd 63 0 := by omega
        unfold cd at this
        omega
      · exact absurd h (hz g _ k (c63_mod _))
      · have h : OB + (OB + cd 63 (i + 1)) = OB + (OB + cd 63 (i' + 1)) := h
        have : i = i' := by unfold cd at h; omega
        subst this
        have h3 := posN_get h1
        rw [hi] at h3
        injection h3 with h3
        rw [h3]
        exact h2
theorem VW.ofY {bs : List Nat} {o : OwnM} (hn : bs.Nodup) (hbs : ∀ b ∈ bs, b < OB) : VW bs (ofY bs o) o := by
  refine ⟨fun g c k hc => ?_, fun i b g k hi => ?_⟩
  · rw [ofY_iff]
    constructor
    · rintro (⟨_, _, _, h⟩ | ⟨i, h1, _⟩)
      · exact h
      · have := hbs _ (List.mem_of_getElem? h1)
        have : OB + (OB + c) < OB := this
        omega
    · exact fun h => .inl ⟨c, hc, rfl, h⟩
  · rw [ofY_iff]
    have hb := hbs b (List.mem_of_getElem? hi)
    constructor
    · rintro (⟨c, _, h, _⟩ | ⟨i', h1, h2⟩)
      · have h : b = OB + (OB + c) := h
        omega
      · have h1 : bs[i']? = some b := h1
        have e1 := posN_of hn hi
        rw [posN_of hn h1] at e1
        injection e1 with e1
        subst e1
        exact h2
    · exact fun h => .inr ⟨i, hi, h⟩

section
variable {m : Mem} {w : World} {o o' : OwnM}
theorem nz_rep (hh : ∀ g c, c % 64 ≠ 63 → o g = some (OB + (OB + c), 0) → o' g = some (OB + (OB + c), 0)) {loc loc' : Nat × Nat} (ho : ∀ g, o g = some loc → o' g = some loc') {x : T} (hx : nzT x = true) (hb : ∀ i, x = .mpt i → OB ≤ i) {v : Value} (h : RepT m w o loc x v) : RepT m w o' loc' x v := by
  cases x with
  | d x => exact h
  | agg l => exact h
  | own E k l =>
    obtain ⟨A', cap, xs, e, h1, h2, h3, h4⟩ := h
    exact ⟨A', cap, xs, e, h1, fun g hg => ⟨ho g (h2 g hg).1, (h2 g hg).2⟩, h3, h4⟩
  | ptr i off => cases hx
  | view i off E k n => cases hx
  | hpt i off =>
    have hx : i % 64 ≠ 63 := by simpa [nzT] using hx
    obtain ⟨g, h1, h2⟩ := h
    exact ⟨g, hh g i hx h1, h2⟩
  | mpt i =>
    obtain ⟨g, h1, h2⟩ := h
    have h3 := hb i rfl
    obtain ⟨c, rfl⟩ : ∃ c, i = OB + c := ⟨i - OB, by omega⟩
    refine ⟨g, hh g c (fun e => ?_) h1, h2⟩
    have hx : (!(Nat.ble OB (OB + c) && (OB + c - OB) % 64 == 63)) = true := hx
    rw [Nat.add_sub_cancel_left, e, Nat.ble_eq_true_of_le h3] at hx
    cases hx
  | hvw i off E k n =>
    have hx : i % 64 ≠ 63 := by simpa [nzT] using hx
    obtain ⟨A', q, h1, h2, h3, h4⟩ := h
    exact ⟨A', q, h1, h2, h3, h4.imp id fun ⟨g, cs, E1, k1, k2⟩ => ⟨g, cs, E1, hh g i hx k1, k2⟩⟩
/-- Cells that both views tell alike. -/
def nzC (l : List T) : Prop := ∀ x ∈ l, nzT x = true ∧ ∀ i, x = .mpt i → OB ≤ i
theorem nz_box (hh : ∀ g c, c % 64 ≠ 63 → o g = some (OB + (OB + c), 0) → o' g = some (OB + (OB + c), 0)) {s s' : Nat} (ho : ∀ g k, o g = some (s, k) → o' g = some (s', k)) {l : List T} (hl : nzC l) {g : Nat} (h : BoxAt m w o s l g) : BoxAt m w o' s' l g := by
  obtain ⟨h1, h2, cs, E, h3, h4, h5⟩ := h
  refine ⟨ho g 0 h1, h2, cs, E, h3, h4, fun j x hj => ?_⟩
  obtain ⟨a, u, b, c⟩ := h5 j x hj
  obtain ⟨k1, k2⟩ := hl x (List.mem_of_getElem? hj)
  exact ⟨a, u, b, nz_rep hh (fun g => ho g _) k1 k2 c⟩
end
end Go.Proofs.Ytjomnccladjpgaa

/-
  A round, out of its body's walk.
-/
namespace Go.Proofs.Ytjomnccladjpgaa
open Go Go.RowKit
set_option linter.unusedVariables false

/-- The objects of kind 63: a loop's record; the variables that its rounds write. -/
def zA (l : Nat) (u : Obj) (mE : Mem) (oE : OwnM) (cs : List (List T)) : Nat → A := fun i => if i = 0 then .rcd l u mE oE else match cs[i - 1]? with
  | some c => .box c
  | none => .free
/-- What was known of a slot at the head, and holds from then on. -/
def Stat (mE : Mem) (oE : OwnM) : A → Value → Prop
  | .any, _ => True
  | .t (.d x), v => RepD mE x v
  | .t (.agg l), v => ∃ vs : Array Value, v = .agg vs ∧ RepL mE l vs.toList
  | .t (.hpt c off), v => c % 64 ≠ 63 ∧ ∃ g, oE g = some (OB + (OB + c), 0) ∧ v = .pointer (some ⟨g, off, none⟩)
  | .imm l, v => ∃ g p, v = .pointer (some ⟨g, p, none⟩) ∧ ∀ (j : Nat) (d : D), l[j]? = some d → ∃ u, mE g (p + j) = some u ∧ RepD mE d u
  | _, _ => False
theorem Stat.rep {mE m : Mem} {oE o : OwnM} {w : World} {S : Nat → A} {s : Nat} (hm : Mle mE m) (ho : ∀ g c, c % 64 ≠ 63 → oE g = some (OB + (OB + c), 0) → o g = some (OB + (OB + c), 0)) {x : A} {v : Value} (h : Stat mE oE x v) : RepA m w o S s x v := by
  cases x with
  | any => trivial
  | imm l => obtain ⟨g, p, e, h⟩ := h; exact ⟨g, p, e, fun j d hj => let ⟨u, a, b⟩ := h j d hj; ⟨u, hm _ _ _ a, b.mono hm⟩⟩
  | t x =>
    cases x with
    | d x => exact RepD.mono hm h
    | agg l => obtain ⟨vs, e, h⟩ := h; exact ⟨vs, e, h.mono hm⟩
    | hpt c off => obtain ⟨hc, g, h1, h2⟩ := h; exact ⟨g, ho g c hc h1, h2⟩
    | _ => exact h.elim
  | _ => exact h.elim
structure Head (bs : List Nat) (N : Nat) (r : Loop) (mE : Mem) (oE : OwnM) (L0 : SL) : Prop where
  size : r.tmps.size = N
  st : ∀ s, s < OB → s ∉ bs → Stat mE oE (gt L0 s) (r.tmps.getD s undef)
  bx : ∀ (i b : Nat), bs[i]? = some b → ∃ g, r.tmps.getD b undef = .pointer (some ⟨g, 0, none⟩) ∧ oE g = some (OB + (OB + cd 63 (i + 1)), 0)
  lo : ∀ s, OB ≤ s → gt L0 s = .any ∨ (gt L0 s = .free ∧ s < HK)
def LR (ps : List Nat) (args : List A) (f : Nat → A) (bs : List Nat) (cs : List (List T)) (L0 : SL) : SL := ps.zip args ++ ((HK, .hp f) :: (bs.zip (cs.map A.box) ++ L0))
theorem posN_cons (x : Nat) (r : List Nat) (j : Nat) : posN (x :: r) j = if x = j then some 0 else (posN r j).map (· + 1) := rfl
theorem gt_zip : ∀ (ks : List Nat) (xs : List A) (R : SL) (s : Nat), ks.length = xs.length → gt (ks.zip xs ++ R) s = match posN ks s with | some i => xs.getD i .any | none => gt R s
  | [], xs, R, s, _ => by simp [posN]
  | k :: ks, [], R, s, h => by cases h
  | k :: ks, x :: xs, R, s, h => by
    show gt ((k, x) :: (ks.zip xs ++ R)) s = _
    rw [gt_cons, upd, gt_zip ks xs R s (by simpa using h)]
    rw [posN_cons]
    by_cases e : s = k
    · subst e; rw [if_pos rfl, if_pos rfl]; rfl
    · rw [if_neg e, if_neg (Ne.symm e)]
      cases posN ks s with
      | none => rfl
      | some i => simp
theorem fold_get : ∀ (ps : List Nat) (vs : List Value) (t : Array Value) (s : Nat), ps.Nodup → (∀ p ∈ ps, p < t.size) → ps.length = vs.length →
    ((ps.zip vs).foldl (fun (tmps : Array Value) x => tmps.setIfInBounds x.1 x.2) t).size = t.size ∧ ((ps.zip vs).foldl (fun (tmps : Array Value) x => tmps.setIfInBounds x.1 x.2) t).getD s undef = match posN ps s with | some i => vs.getD i undef | none => t.getD s undef
  | [], vs, t, s, _, _, _ => by simp [posN]
  | p :: ps, [], t, s, _, _, h => by cases h
  | p :: ps, v :: vs, t, s, hn, hp, h => by
    rw [List.nodup_cons] at hn
    obtain ⟨h1, h2⟩ := fold_get ps vs (t.setIfInBounds p v) s hn.2 (fun q hq => by simpa using hp q (List.mem_cons_of_mem _ hq)) (by simpa using h)
    refine ⟨by simpa using h1, ?_⟩
    show (((ps.zip vs).foldl (fun (tmps : Array Value) x => tmps.setIfInBounds x.1 x.2) (t.setIfInBounds p v))).getD s undef = _
    rw [h2]
    rw [posN_cons]
    have hpt := hp p (by simp)
    by_cases e : p = s
    · subst e
      rw [if_pos rfl]
      cases hq : posN ps p with
      | none => simp [Array.getD_eq_getD_getElem?, hpt]
      | some i => exact absurd (List.mem_of_getElem? (posN_get hq)) hn.1
    · rw [if_neg e]
      cases hq : posN ps s with
      | none => simp [Array.getD_eq_getD_getElem?, Array.getElem?_setIfInBounds, e]
      | some i => simp
theorem argH_h (args ins : List A) (f : Nat → A) (c : Nat) : argH args ins f (OB + (OB + c)) = san (f c) := by
  unfold argH
  rw [if_neg (by omega), ← ob2_eq, if_pos (Nat.le_add_right _ _), Nat.add_sub_cancel_left]
theorem hz_n {f z : Nat → A} {c : Nat} (h : c % 64 ≠ 63) : hz f z c = f c := by unfold hz; rw [if_neg h]
theorem hz_z {f z : Nat → A} (i : Nat) : hz f z (cd 63 i) = z i := by unfold hz; rw [if_pos (c63_mod i), c63_div]
theorem zA_0 {l : Nat} {u : Obj} {mE : Mem} {oE : OwnM} {cs : List (List T)} : zA l u mE oE cs 0 = .rcd l u mE oE := rfl
theorem zA_s {l : Nat} {u : Obj} {mE : Mem} {oE : OwnM} {cs : List (List T)} {i : Nat} : zA l u mE oE cs (i + 1) = match cs[i]? with | some c => .box c | none => .free := by
  unfold zA
  rw [if_neg (by omega), Nat.add_sub_cancel]
/-- What the heap holds, as both views tell it. -/
structure NC (f : Nat → A) : Prop extends NZ f where
  c : ∀ c l, san (f c) = .box l → nzC l
/-- From the view of the function that ranges to that of the one that is ranged over. -/
theorem view_rep {bs : List Nat} (hbn : bs.Nodup) (hbO : ∀ b ∈ bs, b < OB) {l : Nat} {m mE : Mem} {w : World} {o oE : OwnM} {S S' : Nat → A} {vs : Nat → Value} {f : Nat → A} {cs : List (List T)} {u : Obj} (hf : NC f) (hcl : cs.length = bs.length) (hcc : ∀ c ∈ cs, nzC c)
    (hl : o l = none) (hm : ∀ p, m l p = none) (hu : w.heap[l]? = some u) (hmE : Mle mE m) (hoE : ∀ g c, oE g = some (OB + (OB + c), 0) → toY bs l o g = some (OB + (OB + c), 0))
    (hh : ∀ c, ∃ v, RepA m w o S (OB + (OB + c)) (san (f c)) v) (hb : ∀ (i b : Nat), bs[i]? = some b → ∃ (c : List T) (v : Value), cs[i]? = some c ∧ RepA m w o S b (.box c) v) (c : Nat) (v : Value) :
    RepA m w (toY bs l o) S' (OB + (OB + c)) (san (hz f (zA l u mE oE cs) c)) v := by
  have hz0 : ∀ g c k, c % 64 = 63 → o g ≠ some (OB + (OB + c), k) := fun g c k hc => by
    obtain ⟨v, this⟩ := hh c
    rw [hf.z c hc] at this
    exact this g k
  have V := VW.toY hbn hbO hl hz0
  by_cases hc : c % 64 = 63
  · obtain ⟨i, rfl⟩ : ∃ i, c = cd 63 i := ⟨c / 64, by unfold cd; omega⟩
    rw [hz_z]
    cases i with
    | zero =>
      rw [zA_0]
      exact ⟨(toY_iff hbO hl).2 (.inl ⟨rfl, rfl⟩), hm, hu, hmE, hoE⟩
    | succ i =>
      rw [zA_s]
      cases hi : cs[i]? with
      | none =>
        intro g k h
        rcases (toY_iff hbO hl).1 h with ⟨_, h⟩ | ⟨_, h⟩ | ⟨i', b', h1, h, _⟩
        · injection h with h _
          unfold cd at h
          omega
        · exact hz0 g _ k (c63_mod _) h
        · have h : OB + (OB + cd 63 (i + 1)) = OB + (OB + cd 63 (i' + 1)) := h
          have : i = i' := by unfold cd at h; omega
          subst this
          have h2 := (List.getElem?_eq_some_iff.1 (posN_get h1)).1
          rw [List.getElem?_eq_none_iff] at hi
          omega
      | some cc =>
        have hib : i < bs.length := by rw [← hcl]; exact (List.getElem?_eq_some_iff.1 hi).1
        obtain ⟨c2, v2, h1, g, h2, h3⟩ := hb i _ (List.getElem?_eq_getElem hib)
        rw [hi] at h1
        injection h1 with h1
        subst h1
        exact ⟨g, fun h => absurd h (by omega), nz_box (fun g c hc => (V.hh g c 0 hc).1) (fun g k => (V.hb i _ g k (List.getElem?_eq_getElem hib)).1) (hcc cc (List.mem_of_getElem? hi)) h3⟩
  · rw [hz_n hc]
    obtain ⟨v0, h⟩ := hh c
    rcases san_cases (f c) with ⟨l1, hl1⟩ | hl1 | hl1 | ⟨l1, hl1⟩ | ⟨b, u, mE, oE, hl1⟩
    · have hn := hf.c c l1 hl1
      rw [hl1] at h ⊢
      obtain ⟨g, _, h3⟩ := h
      exact ⟨g, fun h => absurd h (by omega), nz_box (fun g c hc => (V.hh g c 0 hc).1) (fun g k => (V.hh g c k hc).1) hn h3⟩
    · rw [hl1] at h ⊢
      exact fun g k e => h g k ((V.hh g c k hc).2 e)
    · rw [hl1]; trivial
    · rw [hl1] at h ⊢
      obtain ⟨g, k1, k2⟩ := h
      exact ⟨g, (V.hh g c 0 hc).1 k1, k2⟩
    · exact absurd hl1 (hf.r c _ _ _ _)

/-- Yield, out of the walk of the loop's body. -/
theorem yld_mk {P : Program} {bs ps : List Nat} {N l : Nat} {r : Loop} {mE : Mem} {oE : OwnM} {L0 : SL} {args : List A} {f f' : Nat → A} {cs cs' : List (List T)} {b : Bool}
    (hN : N ≤ OB) (hbn : bs.Nodup) (hbN : ∀ b ∈ bs, b < N) (hpn : ps.Nodup) (hpN : ∀ p ∈ ps, p < N) (hpb : ∀ p ∈ ps, p ∉ bs) (hpl : ps.length ≤ OB) (H : Head bs N r mE oE L0) (hr : r.state = .ready) (hpd : r.pending = none) (hps : r.params = ps.toArray)
    (hal : args.length = ps.length) (hap : args.all A.plain = true) (hf : NC f) (hf' : NC f') (hcl : cs.length = bs.length) (hcl' : cs'.length = bs.length) (hcc : ∀ c ∈ cs, nzC c) (hcc' : ∀ c ∈ cs', nzC c)
    (hA : CodeOK P bs N r.assign (fun e L1 => e = .normal ∧ CodeOK P bs N r.body (fun e L2 => ((e = .normal ∧ b = true) ∨ (e = .ret ∧ b = false)) ∧ gt L2 HK = .hp f' ∧ ∀ (i s : Nat), bs[i]? = some s → ∃ c, cs'[i]? = some c ∧ gt L2 s = .box c) L1) (LR ps args f bs cs L0)) :
    YLD P l args (hz f (zA l (.loop r) mE oE cs)) (hz f' (zA l (.loop (if b then r else { r with state := .done, pending := some .ret })) mE oE cs')) b := by
  intro W m o vals hsat htbl hlt hinj hsz hrep
  have hbO : ∀ b ∈ bs, b < OB := fun b h => Nat.lt_of_lt_of_le (hbN b h) hN
  have hDK : DK ∉ bs := fun h => by have := hbO _ h; unfold DK at this; unfold OB at this; omega
  obtain ⟨k1, k2, k3, k4, k5⟩ : RepA m W o (argH args [] (hz f (zA l (.loop r) mE oE cs))) (OB + (OB + cd 63 0)) (.rcd l (.loop r) mE oE) (vals.getD (OB + (OB + cd 63 0)) undef) := by
    have h := hrep (OB + (OB + cd 63 0))
    rw [argH_h, hz_z, zA_0] at h
    exact h
  have hheap : ∀ c, c % 64 ≠ 63 → RepA m W o (argH args [] (hz f (zA l (.loop r) mE oE cs))) (OB + (OB + c)) (san (f c)) (vals.getD (OB + (OB + c)) undef) := fun c hc => by
    have h := hrep (OB + (OB + c))
    rw [argH_h, hz_n hc] at h
    exact h
  have hzb : ∀ i, RepA m W o (argH args [] (hz f (zA l (.loop r) mE oE cs))) (OB + (OB + cd 63 (i + 1))) (match cs[i]? with | some c => .box c | none => .free) (vals.getD (OB + (OB + cd 63 (i + 1))) undef) := fun i => by
    have h := hrep (OB + (OB + cd 63 (i + 1)))
    rw [argH_h, hz_z, zA_s] at h
    cases hi : cs[i]? with
    | none => rw [hi] at h; exact h
    | some c => rw [hi] at h; exact h
  have V := VW.ofY (o := o) hbn hbO
  have hof : ∀ g q, ofY bs o g = some q → o g ≠ none := fun g q h => by
    rcases ofY_iff.1 h with ⟨_, _, _, h⟩ | ⟨_, _, h⟩ <;> rw [h] <;> simp
  have hol : ofY bs o l = none := by
    cases hq : ofY bs o l with
    | none => rfl
    | some q =>
      rcases ofY_iff.1 hq with ⟨c, hc, h1, h2⟩ | ⟨i, _, h2⟩
      · rw [k1] at h2
        injection h2 with h2
        rw [← h2] at h1
        have h1 : OB + (OB + cd 63 0) = OB + (OB + c) := h1
        have : c = cd 63 0 := by omega
        exact absurd (by rw [this]; exact c63_mod 0) hc
      · rw [k1] at h2
        injection h2 with h2
        injection h2 with h2 _
        unfold cd at h2
        omega
  have hll : l < W.heap.size := hlt l _ k1
  have hvl : ps.length = vals.toList.length := by rw [← hal, ← hsz]; simp
  obtain ⟨tsz, _⟩ := fold_get ps vals.toList r.tmps 0 hpn (fun p hp => by rw [H.size]; exact hpN p hp) hvl
  have tget := fun s => (fold_get ps vals.toList r.tmps s hpn (fun p hp => by rw [H.size]; exact hpN p hp) hvl).2
  have hfold : ((r.params.zip vals).foldl (fun tmps (t, a) => tmps.setIfInBounds t a) r.tmps) = (ps.zip vals.toList).foldl (fun (tmps : Array Value) x => tmps.setIfInBounds x.1 x.2) r.tmps := by
    rw [hps, ← Array.foldl_toList, Array.toList_zip]
  have hmem : ∀ {ks : List Nat} {s i : Nat}, posN ks s = some i → s ∈ ks := fun h => List.mem_of_getElem? (posN_get h)
  have gLR : ∀ s, gt (LR ps args f bs cs L0) s = match posN ps s with | some i => args.getD i .any | none => if s = HK then .hp f else match posN bs s with | some i => (cs.map A.box).getD i .any | none => gt L0 s := by
    intro s
    show gt (ps.zip args ++ ((HK, .hp f) :: (bs.zip (cs.map A.box) ++ L0))) s = _
    rw [gt_zip _ _ _ _ hal.symm, gt_cons, upd, gt_zip _ _ _ _ (by rw [List.length_map, hcl])]
  have hHK : ∀ {ks : List Nat} {i : Nat}, (∀ k ∈ ks, k < OB) → posN ks HK ≠ some i := fun h e => by
    have := h _ (hmem e)
    unfold HK OB at this
    omega
  have hpO : ∀ p ∈ ps, p < OB := fun p h => Nat.lt_of_lt_of_le (hpN p h) hN
  have hlow : Low (gt (LR ps args f bs cs L0)) := by
    intro t ht
    rw [gLR]
    have hno : ∀ {ks : List Nat}, (∀ k ∈ ks, k < OB) → posN ks t = none := fun {ks} h => by
      cases hq : posN ks t with
      | none => rfl
      | some i => have := h _ (hmem hq); unfold OB OB2 at *; omega
    rw [hno hpO, hno hbO]
    simp only
    rw [if_neg (by unfold HK OB2 at *; omega)]
    exact (H.lo t (by unfold OB OB2 at *; omega)).resolve_right fun h => by have := h.2; unfold HK OB2 at *; omega
  have hkR : gt (LR ps args f bs cs L0) HK = .hp f := by
    rw [gLR]
    cases hq : posN ps HK with
    | some i => exact absurd hq (hHK hpO)
    | none => simp
  have I0 : Inv W m (rs bs (ofY bs o)) ⟨fun g => ofY bs o g ≠ none, []⟩ bs (hx (gt (LR ps args f bs cs L0))) { tmps := (ps.zip vals.toList).foldl (fun (tmps : Array Value) x => tmps.setIfInBounds x.1 x.2) r.tmps, defers := [] } W m (ofY bs o) := by
    refine ⟨.refl _ _, hsat, .refl _, fun _ _ _ => rfl, fun g q h => .inl (by show ofY bs o g ≠ none; rw [h]; simp), fun g q h => ?_, fun g g' q h h' => ?_, fun s _ g h => (rs_iff.1 h).2, fun s => ?_, rfl, htbl, by rw [tsz, H.size]; exact hN, fun g j h => ⟨?_, .refl _ _⟩⟩
    · rcases ofY_iff.1 h with ⟨_, _, _, h⟩ | ⟨_, _, h⟩ <;> exact hlt g _ h
    · rcases ofY_iff.1 h with ⟨c, c1, c2, h⟩ | ⟨i, c2, h⟩ <;> rcases ofY_iff.1 h' with ⟨c', c1', c2', h'⟩ | ⟨i', c2', h'⟩
      · exact hinj g g' q h h'
      · have := hbO _ (List.mem_of_getElem? c2'); omega
      · have := hbO _ (List.mem_of_getElem? c2); omega
      · have e1 := posN_of hbn c2
        rw [posN_of hbn c2'] at e1
        injection e1 with e1
        subst e1
        exact hinj g g' _ h h'
    · rcases Nat.lt_or_ge s OB2 with h2 | h2
      · rw [hx_lo h2, gLR]
        show RepA m W (ofY bs o) _ s _ (((ps.zip vals.toList).foldl (fun (tmps : Array Value) x => tmps.setIfInBounds x.1 x.2) r.tmps).getD s undef)
        rw [tget s]
        cases hp : posN ps s with
        | some i =>
          simp only
          have hi : i < ps.length := (List.getElem?_eq_some_iff.1 (posN_get hp)).1
          have h := hrep i
          have hiO : i < OB := by
            have := hpO s (hmem hp)
            omega
          have e : argH args [] (hz f (zA l (.loop r) mE oE cs)) i = args.getD i .any := by unfold argH; rw [if_pos hiO]
          rw [e] at h
          have hpl : (args.getD i .any).plain = true := by
            rw [List.getD_eq_getElem?_getD, List.getElem?_eq_getElem (by omega)]
            exact List.all_eq_true.1 hap _ (List.getElem_mem _)
          have := plain_rep (s' := s) (S' := hx (gt (LR ps args f bs cs L0))) (w' := W) (o' := ofY bs o) hpl h
          simpa using this
        | none =>
          simp only
          by_cases e : s = HK
          · rw [if_pos e]; trivial
          · rw [if_neg e]
            cases hb : posN bs s with
            | none =>
              simp only
              by_cases hs : s < OB
              · have hsb : s ∉ bs := fun hm => by
                  obtain ⟨i, hi⟩ := List.getElem?_of_mem hm
                  rw [posN_of hbn hi] at hb
                  cases hb
                exact (H.st s hs hsb).rep k4 fun g c hc h => (V.hh g c 0 hc).2 (k5 g c h)
              · rcases H.lo s (by omega) with e0 | ⟨e0, e1⟩
                · rw [e0]; trivial
                · rw [e0]
                  intro g k h
                  rcases ofY_iff.1 h with ⟨c, _, q1, _⟩ | ⟨i, q1, _⟩
                  · have q1 : s = OB + (OB + c) := q1
                    unfold HK at e1; unfold OB at q1; omega
                  · exact hs (hbO s (List.mem_of_getElem? q1))
            | some i =>
              simp only
              have hib := posN_get hb
              have hi : i < bs.length := (List.getElem?_eq_some_iff.1 hib).1
              have hic : i < cs.length := by omega
              obtain ⟨g0, q1, q2⟩ := H.bx i s hib
              have hbx := hzb i
              rw [List.getElem?_eq_getElem hic] at hbx
              obtain ⟨g, _, q3⟩ := hbx
              have : g = g0 := hinj g g0 _ q3.1 (k5 _ _ q2)
              subst this
              have e2 : (cs.map A.box).getD i .any = .box cs[i] := by
                rw [List.getD_eq_getElem?_getD, List.getElem?_map, List.getElem?_eq_getElem hic]
                rfl
              rw [e2, q1]
              exact ⟨g, fun _ => rfl, nz_box (fun g c hc => (V.hh g c 0 hc).2) (fun g k => (V.hb i s g k hib).2) (hcc _ (List.getElem_mem _)) q3⟩
      · obtain ⟨c, rfl⟩ : ∃ c, s = OB + (OB + c) := ⟨s - OB2, by rw [← ob2_eq]; omega⟩
        rw [hx_hp hlow hkR]
        by_cases hc : c % 64 = 63
        · rw [hf.z c hc]
          intro g k h
          rcases ofY_iff.1 h with ⟨c', h1, h2, _⟩ | ⟨i, h1, _⟩
          · have h2 : OB + (OB + c) = OB + (OB + c') := h2
            have : c = c' := by omega
            exact h1 (by rw [← this]; exact hc)
          · have := hbO _ (List.mem_of_getElem? h1)
            have this : OB + (OB + c) < OB := this
            omega
        · have h := hheap c hc
          rcases san_cases (f c) with ⟨l1, hl1⟩ | hl1 | hl1 | ⟨l1, hl1⟩ | ⟨b, u, mE, oE, hl1⟩
          · have hn := hf.c c l1 hl1
            rw [hl1] at h ⊢
            obtain ⟨g, _, h3⟩ := h
            exact ⟨g, fun h => absurd h (by omega), nz_box (fun g c hc => (V.hh g c 0 hc).2) (fun g k => (V.hh g c k hc).2) hn h3⟩
          · rw [hl1] at h ⊢
            exact fun g k e => h g k ((V.hh g c k hc).1 e)
          · rw [hl1]; trivial
          · rw [hl1] at h ⊢
            obtain ⟨g, q1, q2⟩ := h
            exact ⟨g, (V.hh g c 0 hc).2 q1, q2⟩
          · exact absurd hl1 (hf.r c _ _ _ _)
    · rcases Nat.lt_or_ge (OB + j) OB2 with h3 | h3
      · exact .inl ((rs_iff.1 h).1 (Nat.le_add_right _ _) h3)
      · exact .inr h3
  have hof0 : ∀ g, o g = none → ofY bs o g = none := fun g h => by
    cases hq : ofY bs o g with
    | none => rfl
    | some q => exact absurd h (hof g q hq)
  refine ⟨r.fn, _, r.assign, r.body, run_yield k3 (by rw [hsz, hal, hps]; simp), fun n => roundIn_of_wpIn trivial ?_⟩
  rw [hfold]
  have hw : WideP bs (Fence.wide.inRound l) := ⟨.inRound l, fun h => absurd h hDK⟩
  refine wpIn_mono (hA _ n hw _ _ _ _ _ W ⟨by rw [tsz, H.size], hlow, m, ofY bs o, I0⟩) ?_
  rintro e a1 w1 ⟨L1, ⟨rfl, hB⟩, hS1⟩
  obtain ⟨hN1, hlo1, m1, o1, I1⟩ := hS1
  have e1 : w1.heap[l]? = W.heap[l]? := I1.same.block l hll fun h => h hol
  have ho1 : ∀ g, g < W.heap.size → ofY bs o g = none → o1 g = none := fun g hg h => by
    cases hq : o1 g with
    | none => rfl
    | some q =>
      rcases I1.own g q hq with h1 | h1
      · exact absurd h h1
      · omega
  have hm1 : ∀ g, g < W.heap.size → ofY bs o g = none → m1 g = m g := fun g hg h => I1.old g hg fun h1 => h1 h
  refine ⟨_, run_beginRound (e1.trans k3) hr, ?_⟩
  have I1' := I1.at (ho1 l hll hol) (fun p => by rw [hm1 l hll hol]; exact k2 p) (.loop { r with state := .busy })
  have hl1 : l < w1.heap.size := Nat.lt_of_lt_of_le hll I1.same.size
  refine wpIn_mono (hB _ n hw _ _ _ _ a1 _ ⟨hN1, hlo1, m1, o1, I1'⟩) ?_
  rintro e a2 w2 ⟨L2, ⟨he, hk, hbx⟩, hS2⟩
  obtain ⟨hN2, hlo2, m2, o2, I2⟩ := hS2.st hDK
  have hs1 : (w1.putObj l (.loop { r with state := .busy })).heap.size = w1.heap.size := World.putObj_size
  have e2 : w2.heap[l]? = some (.loop { r with state := .busy }) := (I2.same.block l (by rw [hs1]; exact hl1) fun h => h (ho1 l hll hol)).trans (World.putObj_heap_same hl1)
  have ho2 : ∀ g, g < W.heap.size → ofY bs o g = none → o2 g = none := fun g hg h => by
    cases hq : o2 g with
    | none => rfl
    | some q =>
      rcases I2.own g q hq with h1 | h1
      · exact absurd (ho1 g hg h) h1
      · rw [hs1] at h1
        have := I1.same.size
        omega
  have hm2 : ∀ g, g < W.heap.size → ofY bs o g = none → m2 g = m g := fun g hg h => by
    rw [I2.old g (by rw [hs1]; exact Nat.lt_of_lt_of_le hg I1.same.size) fun h1 => h1 (ho1 g hg h)]
    exact hm1 g hg h
  have hbk : ∀ g, g < W.heap.size → g ≠ l → ofY bs o g = none → w2.heap[g]? = W.heap[g]? := fun g hg hgl h => by
    rw [I2.same.block g (by rw [hs1]; exact Nat.lt_of_lt_of_le hg I1.same.size) (fun h1 => h1 (ho1 g hg h)), World.putObj_heap_other hgl]
    exact I1.same.block g hg fun h1 => h1 h
  have hsz2 : W.heap.size ≤ w2.heap.size := Nat.le_trans I1.same.size (by rw [← hs1]; exact I2.same.size)
  have hpin : ∀ s, (s ∈ bs ∨ OB ≤ s) → ∀ g, ofY bs o g = some (s, 0) → o2 g = some (s, 0) := by
    intro s hs g h
    have key : ∀ (O : OwnM), O g = some (s, 0) → (OB ≤ s → OB2 ≤ s) → rs bs O g = some (s, 0) := fun O h1 h2 => rs_iff.2 ⟨fun h3 h4 => by
      have h3 : OB ≤ s := h3
      have h4 : s < OB2 := h4
      have := h2 h3
      omega, h1⟩
    have h2 : OB ≤ s → OB2 ≤ s := fun hs => by
      rcases ofY_iff.1 h with ⟨c, _, h1, _⟩ | ⟨i, h1, _⟩
      · have h1 : s = OB + (OB + c) := h1
        rw [h1, ← ob2_eq]; exact Nat.le_add_right _ _
      · have := hbO s (List.mem_of_getElem? h1)
        omega
    exact I2.pinned s hs g (key _ (I1.pinned s hs g (key _ h h2)) h2)
  have fin : ∀ u : Obj, u = .loop (if b then r else { r with state := .done, pending := some .ret }) → ∃ (v : Value) (m' : Mem) (o' : OwnM) (S' : Nat → A) (a' : Act) (ρ : Nat), Ending.returned (.bool b) = .returned v ∧ Inv W m o ⟨fun g => o g ≠ none, []⟩ (pinsH 0) S' a' (w2.putObj l u) m' o' ∧ RepA m' (w2.putObj l u) o' S' ρ (.t (.d (.lit (.bool b)))) v ∧ (∀ (i : Nat) (x : A), ([] : List A)[i]? = some x → S' (OB + i) = x) ∧ (∀ c, S' (OB + (OB + c)) = san (hz f' (zA l (.loop (if b then r else { r with state := .done, pending := some .ret })) mE oE cs') c)) ∧ ρ < OB := by
    rintro u hu
    have I3 := I2.at (ho2 l hll hol) (fun p => by rw [hm2 l hll hol]; exact k2 p) u
    have hl2 : l < w2.heap.size := Nat.lt_of_lt_of_le hll hsz2
    have hty := fun g q => toY_iff (bs := bs) (l := l) (o := o2) hbO (ho2 l hll hol) (g := g) (q := q)
    have hpt : ∀ g s, OB ≤ s → o g = some (s, 0) → toY bs l o2 g = some (s, 0) ∧ ((g = l) ∨ (g ≠ l ∧ ShpAt W (w2.putObj l u) g)) := by
      intro g s hs h
      have hgl : g ≠ l → g < W.heap.size → (w2.putObj l u).heap[g]? = w2.heap[g]? ∧ (w1.putObj l (.loop { r with state := .busy })).heap[g]? = w1.heap[g]? := fun h _ => ⟨World.putObj_heap_other h, World.putObj_heap_other h⟩
      have hglt := hlt g _ h
      rcases Nat.lt_or_ge s OB2 with h2 | h2
      · have h3 := hrep s
        have e : argH args [] (hz f (zA l (.loop r) mE oE cs)) s = .free := by
          unfold argH
          rw [if_neg (by omega), if_neg (by omega)]
          rfl
        rw [e] at h3
        exact absurd h (h3 g 0)
      · obtain ⟨c, rfl⟩ : ∃ c, s = OB + (OB + c) := ⟨s - OB2, by rw [← ob2_eq]; omega⟩
        by_cases hc : c % 64 = 63
        · obtain ⟨i, rfl⟩ : ∃ i, c = cd 63 i := ⟨c / 64, by unfold cd; omega⟩
          cases i with
          | zero =>
            have : g = l := hinj g l _ h k1
            exact ⟨(hty g _).2 (.inl ⟨this, rfl⟩), .inl this⟩
          | succ i =>
            have hbx1 := hzb i
            cases hi : cs[i]? with
            | none => rw [hi] at hbx1; exact absurd h (hbx1 g 0)
            | some c =>
              rw [hi] at hbx1
              have hib : i < bs.length := by rw [← hcl]; exact (List.getElem?_eq_some_iff.1 hi).1
              have hbi : bs[i]? = some bs[i] := List.getElem?_eq_getElem hib
              have h5 := (V.hb i _ g 0 hbi).2 h
              have h6 := hpin _ (.inl (List.getElem_mem hib)) g h5
              have hgne : g ≠ l := fun e => by subst e; rw [hol] at h5; cases h5
              refine ⟨(hty g _).2 (.inr (.inr ⟨i, _, posN_of hbn hbi, rfl, h6⟩)), .inr ⟨hgne, ?_⟩⟩
              obtain ⟨g1, _, q1, _, csq, Eq, q3, _⟩ := hbx1
              have : g1 = g := hinj g1 g _ q1 h
              subst this
              obtain ⟨c', _, q4⟩ := hbx i _ hbi
              have h7 := I3.slots bs[i]
              rw [hx_of q4 (by simp)] at h7
              obtain ⟨g2, _, q5, _, csr, Er, q6, _⟩ := h7
              have : g2 = g1 := I2.inj g2 g1 _ q5 h6
              subst this
              intro cs1 E1 f1 q7
              rw [q3] at q7
              injection q7 with q7
              injection q7 with r1 r2 r3
              subst r1 r2 r3
              obtain ⟨cs3, f3, r4, r5⟩ := I1.same.shape g2 _ _ _ q3
              rw [← (hgl hgne hglt).2] at r4
              obtain ⟨cs4, f4, r6, r7⟩ := I2.same.shape g2 _ _ _ r4
              rw [← (hgl hgne hglt).1, q6] at r6
              injection r6 with r6
              injection r6 with r8 r9 r10
              subst r8 r9
              exact ⟨csr, q6, r7.trans r5⟩
        · have h5 := (V.hh g c 0 hc).2 h
          have h6 := hpin _ (.inr (by omega)) g h5
          have hgne : g ≠ l := fun e => by subst e; rw [hol] at h5; cases h5
          refine ⟨(hty g _).2 (.inr (.inl ⟨h2, h6⟩)), .inr ⟨hgne, ?_⟩⟩
          have hrs : ∀ (O : OwnM), O g = some (OB + (OB + c), 0) → rs bs O g = some (OB + (OB + c), 0) := fun O h1 => rs_iff.2 ⟨fun h3 h4 => by
            have h4 : OB + (OB + c) < OB2 := h4
            omega, h1⟩
          have a1 := (I1.shps g _ (hrs _ h5)).2
          have h51 := I1.pinned _ (.inr (Nat.le_add_right _ _)) g (hrs _ h5)
          have a2 := (I2.shps g _ (hrs _ h51)).2
          exact (a1.trans (.of_eq (hgl hgne hglt).2)).trans (a2.trans (.of_eq (hgl hgne hglt).1))
    have hon : ∀ g, ¬ o g ≠ none → o g = none := fun g h => Classical.byContradiction h
    have hnl : ∀ g, o g = none → g ≠ l := fun g h e => by subst e; rw [k1] at h; cases h
    have hown : ∀ g q, o2 g = some q → o g ≠ none ∨ W.heap.size ≤ g := by
      intro g q h
      rcases Nat.lt_or_ge g W.heap.size with h1 | h1
      · refine .inl fun e => ?_
        rw [ho2 g h1 (hof0 g e)] at h
        cases h
      · exact .inr h1
    let S' : Nat → A := fun t => if OB2 ≤ t then san (hz f' (zA l (.loop (if b then r else { r with state := .done, pending := some .ret })) mE oE cs') (t - OB2)) else .any
    have hS' : ∀ c, S' (OB + (OB + c)) = san (hz f' (zA l (.loop (if b then r else { r with state := .done, pending := some .ret })) mE oE cs') c) := fun c => by
      show (if OB2 ≤ OB + (OB + c) then _ else _) = _
      rw [← ob2_eq, if_pos (Nat.le_add_right _ _), Nat.add_sub_cancel_left]
    have hz2 : ∀ g c k, c % 64 = 63 → o2 g ≠ some (OB + (OB + c), k) := fun g c k hc => by
      have := I2.slots (OB + (OB + c))
      rw [hx_hp hlo2 hk, hf'.z c hc] at this
      exact this g k
    refine ⟨.bool b, m2, toY bs l o2, S', { tmps := #[], defers := [] }, 0, rfl, ⟨⟨I2.same.os.trans I1.same.os, I2.same.tape.trans I1.same.tape, I2.same.output.trans I1.same.output, by rw [World.putObj_size]; exact hsz2, fun k hk1 hn => ?_, fun k => ?_⟩, I3.sat, I1.mono.trans I2.mono, fun b hb hn => hm2 b hb (hof0 b (hon b hn)), fun g q h => ?_, fun g q h => ?_, fun g g' q h h' => ?_, fun s hs g h => (hpt g s (hs.resolve_left fun h => by simp [pinsH] at h) h).1, fun s => ?_, rfl, htbl, Nat.zero_le _, fun g j h => ⟨.inr ?_, ?_⟩⟩, .lit _ rfl, fun i x h => by simp at h, hS', by decide⟩
    · have h1 := hon k hn
      rw [World.putObj_heap_other (hnl k h1)]
      exact hbk k hk1 (hnl k h1) (hof0 k h1)
    · by_cases e : k = l
      · subst e
        intro cs E f h
        rw [k3] at h
        cases h
      · exact ((I1.same.shape k).trans (ShpAt.of_eq (World.putObj_heap_other e)).w).trans ((I2.same.shape k).trans (ShpAt.of_eq (World.putObj_heap_other e)).w)
    · rcases (hty g q).1 h with ⟨rfl, _⟩ | ⟨_, h⟩ | ⟨_, _, _, _, h⟩
      · exact .inl (by show o g ≠ none; rw [k1]; simp)
      · exact hown g _ h
      · exact hown g _ h
    · rw [World.putObj_size]
      rcases (hty g q).1 h with ⟨rfl, _⟩ | ⟨_, h⟩ | ⟨_, _, _, _, h⟩
      · exact hl2
      · exact I2.lt g _ h
      · exact I2.lt g _ h
    · rcases (hty g q).1 h with ⟨e1, e2⟩ | ⟨e2, h⟩ | ⟨i, b1, e1, e2, h⟩ <;> rcases (hty g' q).1 h' with ⟨e1', e2'⟩ | ⟨e2', h'⟩ | ⟨i', b1', e1', e2', h'⟩
      · rw [e1, e1']
      · rw [e2] at h'; exact absurd h' (hz2 g' _ 0 (c63_mod 0))
      · rw [e2] at e2'
        have e2' : OB + (OB + cd 63 0) = OB + (OB + cd 63 (i' + 1)) := e2'
        unfold cd at e2'
        omega
      · rw [e2'] at h; exact absurd h (hz2 g _ 0 (c63_mod 0))
      · exact I2.inj g g' q h h'
      · obtain ⟨q1, q2⟩ := q
        have e2' : q1 = _ := e2'
        subst e2'
        exact absurd h (hz2 g _ q2 (c63_mod _))
      · rw [e2'] at e2
        have e2 : OB + (OB + cd 63 0) = OB + (OB + cd 63 (i + 1)) := e2
        unfold cd at e2
        omega
      · obtain ⟨q1, q2⟩ := q
        have e2 : q1 = _ := e2
        subst e2
        exact absurd h' (hz2 g' _ q2 (c63_mod _))
      · rw [e2] at e2'
        have : i = i' := by unfold cd at e2'; omega
        subst this
        have a1 := posN_get e1
        rw [posN_get e1'] at a1
        injection a1 with a1
        subst a1
        exact I2.inj g g' _ h h'
    · show RepA m2 _ _ S' s (S' s) _
      by_cases h2 : OB2 ≤ s
      · obtain ⟨c, rfl⟩ : ∃ c, s = OB + (OB + c) := ⟨s - OB2, by rw [← ob2_eq]; omega⟩
        rw [hS']
        refine view_rep hbn hbO (S := hx (gt L2)) (vs := fun _ => undef) hf' hcl' hcc' (ho2 l hll hol) (fun p => by rw [hm2 l hll hol]; exact k2 p) (by rw [← hu]; exact World.putObj_heap_same hl2) (k4.trans (I1.mono.trans I2.mono)) (fun g c h => (hpt g _ (Nat.le_add_right _ _) (k5 g c h)).1) (fun c => ?_) (fun i s hi => ?_) c _
        · have h := I3.slots (OB + (OB + c))
          rw [hx_hp hlo2 hk] at h
          exact ⟨_, h⟩
        · obtain ⟨c', q3, q4⟩ := hbx i s hi
          have h7 := I3.slots s
          rw [hx_of q4 (by simp)] at h7
          exact ⟨c', _, q3, h7⟩
      · have e : S' s = .any := by show (if OB2 ≤ s then _ else _) = _; rw [if_neg h2]
        rw [e]; trivial
    · rcases Nat.lt_or_ge (OB + j) OB2 with h3 | h3
      · have h4 := hrep (OB + j)
        have e : argH args [] (hz f (zA l (.loop r) mE oE cs)) (OB + j) = .free := by
          unfold argH
          rw [if_neg (by omega), if_neg (by omega)]
          rfl
        rw [e] at h4
        exact absurd h (h4 g 0)
      · exact h3
    · rcases (hpt g _ (Nat.le_add_right _ _) h).2 with e | ⟨_, h⟩
      · subst e
        intro cs E f h
        rw [k3] at h
        cases h
      · exact h
  rcases he with ⟨rfl, hb⟩ | ⟨rfl, hb⟩
  · refine ⟨_, _, run_endRound none e2, ?_⟩
    have := fin (.loop { ({ r with state := .busy } : Loop) with state := .ready, pending := none }) (by
      rw [hb, if_pos rfl]
      cases r
      simp only at hr hpd
      subst hr hpd
      rfl)
    rw [hb] at this ⊢
    exact this
  · refine ⟨_, _, run_endRound (some .ret) e2, ?_⟩
    have := fin (.loop { ({ r with state := .busy } : Loop) with state := .done, pending := some .ret }) (by
      rw [hb]; rfl)
    rw [hb] at this ⊢
    exact this
end Go.Proofs.Ytjomnccladjpgaa
