/-
  Texts joined: see the remark at the head of each part.
-/
import Derived.Test.YtmgafkpkpmjieaaDoorM05
set_option linter.unusedVariables false
set_option linter.unusedSimpArgs false
/-
 A call of a function that reads and writes the heap: what it leaves.
-/
namespace Go.Proofs.YtmgafkpkpmjieaaDoor
open Go Go.RowKit
set_option linter.unusedVariables false
theorem zEq (x : A) : (∃ l, san x = .box l) ∨ san x = .free ∨ san x = .any ∨ (∃ l, san x = .mp l) ∨ ∃ b u mE oE, san x = .rcd b u mE oE := by
 cases x <;> first | exact .inl ⟨_, rfl⟩ | exact .inr (.inl rfl) | exact .inr (.inr (.inl rfl)) | exact .inr (.inr (.inr (.inl ⟨_, rfl⟩))) | exact .inr (.inr (.inr (.inr ⟨_, _, _, _, rfl⟩)))
def hpS (S : Nat → A) (f' : Nat → A) : Nat → A := fun t => if OB2 ≤ t then san (f' (t - OB2)) else S t
section
variable {w0 : World} {m0 : Mem} {o0 : OwnM} {G : GD} {pins : List Nat} {S M : Nat → A} {a : Act} {w : World} {m : Mem} {o : OwnM} {P : Program} {N : Nat}
theorem zIt (I : Inv w0 m0 o0 G pins S a w m o) {K : Array Value → World → (Ending → World → Prop) → Prop} (hKm : ∀ (v : Array Value) (w : World) (R R' : Ending → World → Prop), K v w R → (∀ e w', R e w' → R' e w') → K v w R') {args : List A} {ins outs : List A} {f f' : Nat → A} {r r' : A} (hf : FCK K args ins outs f f' r) (hS : ∀ c, S (OB + (OB + c)) = san (f c)) (hp : zDy f) (hp' : zDy f')
  {σ fr : List Nat} (hnd : (σ ++ fr).Nodup) (hlo : ∀ j ∈ σ ++ fr, j < OB) (hin : σ.map (fun j => S (OB + j)) = ins) (hfi : ins.all A.flatO = true) (hfo : outs.all A.flatO = true) (hfr : ∀ j ∈ fr, S (OB + j) = .free) (hlen : outs.length = (σ ++ fr).length) (hlO : outs.length ≤ OB) (hres : ResH (σ ++ fr) r r')
  {vals : Array Value} (hv : vals.size = args.length) (hr : ∀ (k : Nat) (x : A), args[k]? = some x → ∀ k0, RepA m w (movH σ o) (argH args ins f) k0 x (vals.getD k undef)) (hargs : args.length ≤ OB)
  {d : Nat} (hd : d < a.tmps.size) (hbox : (S d).isBox = false) (hpin : d ∉ pins) :
  K vals w fun e w' => ∃ u m' o', e = .returned u ∧ Inv w0 m0 o0 G pins (upd (app (hpS S f') (zCg (σ ++ fr) outs)) d r') (a.put (some d) u) w' m' o' := by
 have hσ : σ.Nodup := (List.nodup_append.1 hnd).1
 have hdO : d < OB := Nat.lt_of_lt_of_le hd I.wide
 generalize hτ : σ ++ fr = τ at *
 have hlσ : ∀ j ∈ σ, j < OB := fun j h => hlo j (by rw [← hτ]; exact List.mem_append_left _ h)
 have hσl : σ.length ≤ OB := by
  have : σ.length ≤ τ.length := by rw [← hτ]; simp
  omega
 have hil : σ.length = ins.length := by rw [← hin]; simp
 have iffM := fun (o : OwnM) (g : Nat) (l : Nat × Nat) => zDp (o := o) (g := g) (l := l) hσ hσl hlσ
 have hστ : ∀ i j, σ[i]? = some j → τ[i]? = some j := fun i j h => by rw [← hτ, List.getElem?_append_left (List.getElem?_eq_some_iff.1 h).1]; exact h
 have hmem : ∀ j, j ∈ τ → j ∈ σ ∨ j ∈ fr := fun j h => by rw [← hτ] at h; exact List.mem_append.1 h
 have hfree : ∀ j ∈ fr, ∀ g k, o g ≠ some (OB + j, k) := fun j hj => by have := I.slots (OB + j); rw [hfr j hj] at this; exact this
 have hmv : ∀ g i j k, σ[i]? = some j → o g = some (OB + j, k) → movH σ o g = some (OB + i, k) := fun g i j k h1 h2 => (iffM o g _).2 (.inr ⟨i, j, rfl, by have := (List.getElem?_eq_some_iff.1 h1).1; omega, h1, h2⟩)
 have hmh : ∀ g c k, o g = some (OB + (OB + c), k) → movH σ o g = some (OB + (OB + c), k) := fun g c k h => (iffM o g _).2 (.inl ⟨c, rfl, h⟩)
 have hrep : ∀ t, RepA m w (movH σ o) (argH args ins f) t (argH args ins f t) (vals.getD t undef) := by
  intro t
  by_cases ht : t < OB
  ·
   have e : argH args ins f t = args.getD t .any := by unfold argH; rw [if_pos ht]
   rw [e, List.getD_eq_getElem?_getD]
   cases hx : args[t]? with
   | none => trivial
   | some x => exact hr t x hx t
  ·
   by_cases ht2 : OB2 ≤ t
   ·
    obtain ⟨c, rfl⟩ : ∃ c, t = OB + (OB + c) := ⟨t - OB2, by rw [← zBO]; omega⟩
    have e : argH args ins f (OB + (OB + c)) = san (f c) := by
     unfold argH
     rw [if_neg (by omega), if_pos ht2, ← zBO, Nat.add_sub_cancel_left]
    rw [e]
    have hs := I.slots (OB + (OB + c))
    rw [hS] at hs
    rcases zEq (f c) with ⟨l, hl⟩ | hl | hl | ⟨l, hl⟩ | ⟨b, u, mE, oE, hl⟩
    ·
     have hpu := zGP hp c l hl
     rw [hl] at hs ⊢
     obtain ⟨g, e1, k1, k2, cs, E, k3, k4, k5⟩ := hs
     refine ⟨g, fun h => absurd h (by omega), hmh g c 0 k1, k2, cs, E, k3, k4, fun q x hq => ?_⟩
     obtain ⟨q1, u, q2, q3⟩ := k5 q x hq
     exact ⟨q1, u, q2, loc_rep (fun g c h => hmh g c 0 h) (fun g h => hmh g c _ h) (hpu x (List.mem_of_getElem? hq)) q3⟩
    ·
     rw [hl] at hs ⊢
     intro g k h
     rcases (iffM o g _).1 h with ⟨_, _, h⟩ | ⟨i, j, h1, hi, h2, h3⟩
     · exact hs g k h
     · have h1 : OB + (OB + c) = OB + i := h1; omega
    · rw [hl]; trivial
    ·
     rw [hl] at hs ⊢
     obtain ⟨g, k1, k2⟩ := hs
     exact ⟨g, hmh g c 0 k1, k2⟩
    ·
     rw [hl] at hs ⊢
     obtain ⟨k1, k2, k3, k4, k5⟩ := hs
     exact ⟨hmh b c 0 k1, k2, k3, k4, fun g c' hg => hmh g c' 0 (k5 g c' hg)⟩
   ·
    obtain ⟨i, rfl⟩ : ∃ i, t = OB + i := ⟨t - OB, by omega⟩
    have hiO : i < OB := by unfold OB OB2 at *; omega
    cases hl : ins[i]? with
    | none =>
     have e : argH args ins f (OB + i) = .free := by unfold argH; rw [if_neg ht, if_neg ht2, Nat.add_sub_cancel_left, hl]
     rw [e]
     intro g k h
     rcases (iffM o g _).1 h with ⟨c, h1, _⟩ | ⟨i', j, h1, hi', h2, _⟩
     · have h1 : OB + i = OB + (OB + c) := h1; omega
     ·
      have h1 : OB + i = OB + i' := h1
      have : i < σ.length := by rw [show i = i' by omega]; exact (List.getElem?_eq_some_iff.1 h2).1
      rw [hil] at this
      rw [List.getElem?_eq_getElem this] at hl
      cases hl
    | some l =>
     have e : argH args ins f (OB + i) = l := by unfold argH; rw [if_neg ht, if_neg ht2, Nat.add_sub_cancel_left, hl]
     rw [e]
     have hi : i < σ.length := by rw [hil]; exact (List.getElem?_eq_some_iff.1 hl).1
     have hfl : l.flatO = true := List.all_eq_true.1 hfi l (List.mem_of_getElem? hl)
     have hsl : S (OB + σ[i]) = l := by
      rw [← hin, List.getElem?_map, List.getElem?_eq_getElem hi] at hl
      injection hl
     have hs := I.slots (OB + σ[i])
     rw [hsl] at hs
     revert hs hfl
     cases l with
     | box l =>
      rintro hfl ⟨g, _, k1, k2, cs, E, k3, k4, k5⟩
      refine ⟨g, fun h => absurd h ht, hmv g i _ 0 (List.getElem?_eq_getElem hi) k1, k2, cs, E, k3, k4, fun q x hq => ?_⟩
      obtain ⟨q1, u, q2, q3⟩ := k5 q x hq
      exact ⟨q1, u, q2, q3.reloc (fun g h => hmv g i _ _ (List.getElem?_eq_getElem hi) h) (zBR hfl hq)⟩
     | any => intro _ _; trivial
     | free =>
      intro _ hs g k h
      rcases (iffM o g _).1 h with ⟨c, h1, _⟩ | ⟨i', j, h1, hi', h2, h3⟩
      · have h1 : OB + i = OB + (OB + c) := h1; omega
      ·
       have h1 : OB + i = OB + i' := h1
       have h1 : i' = i := by omega
       subst h1
       rw [List.getElem?_eq_getElem hi] at h2
       injection h2 with h2
       exact hs g k (by rw [h2]; exact h3)
     | _ => intro hfl; cases hfl
 refine hKm _ _ _ _ (hf w m (movH σ o) vals I.sat (I.tbl.trans I.mono) (fun g l h => ?_) (fun g g' l h h' => ?_) hv hrep) ?_
 · rcases (iffM o g l).1 h with ⟨_, _, h⟩ | ⟨_, _, _, _, _, h⟩ <;> exact I.lt g _ h
 ·
  rcases (iffM o g l).1 h with ⟨c, h1, h⟩ | ⟨i, j, h1, hi, h2, h⟩ <;> rcases (iffM o g' l).1 h' with ⟨c', h1', h'⟩ | ⟨i', j', h1', hi', h2', h'⟩
  · exact I.inj g g' l h h'
  · omega
  · omega
  ·
   have : i = i' := by omega
   subst this
   rw [h2] at h2'
   injection h2' with h2'
   subst h2'
   exact I.inj g g' _ h h'
 rintro e w' ⟨u, m', o', S', a', ρ, rfl, J, hres', hbx, hhp, hρ⟩
 have hgr : ∀ g, movH σ o g ≠ none → ∃ s k, (zDz σ s ∨ OB2 ≤ s) ∧ o g = some (s, k) := by
  intro g h
  cases hg : movH σ o g with
  | none => exact absurd hg h
  | some l =>
   rcases (iffM o g l).1 hg with ⟨c, h1, h2⟩ | ⟨i, j, _, _, h2, h3⟩
   · exact ⟨l.1, l.2, .inr (by rw [h1, ← zBO]; omega), h2⟩
   · exact ⟨_, _, .inl (zDm (List.mem_of_getElem? h2)), h3⟩
 have hS' : Same (fun g => ∃ s k, (zDz σ s ∨ OB2 ≤ s) ∧ o g = some (s, k)) w w' := J.same.weaken fun g h => hgr g h
 have hστ' : ∀ s, zDz σ s ∨ OB2 ≤ s → inH τ s := fun s h => h.elim (fun h => .inr ⟨h.1, by rw [← hτ]; exact List.mem_append_left _ h.2⟩) .inl
 have hnot : ∀ g l, o g = some l → ¬ (zDz σ l.1 ∨ OB2 ≤ l.1) → movH σ o g = none := by
  intro g l h hn
  cases hg : movH σ o g with
  | none => rfl
  | some l' =>
   obtain ⟨s, k, h1, h2⟩ := hgr g (by rw [hg]; simp)
   rw [h] at h2
   injection h2 with h2
   rw [h2] at hn
   exact absurd h1 hn
 have hold : ∀ b, b < w.heap.size → movH σ o b = none → m' b = m b := fun b hb hn => J.old b hb fun h => h hn
 have hnew : ∀ g l, o' g = some l → (∃ s k, (zDz σ s ∨ OB2 ≤ s) ∧ o g = some (s, k)) ∨ w.heap.size ≤ g := fun g l h => (J.own g l h).imp (hgr g) id
 have hdis : ∀ g l, o g = some l → ¬ (zDz σ l.1 ∨ OB2 ≤ l.1) → o' g = none := by
  intro g l h hn
  cases ho : o' g with
  | none => rfl
  | some l' =>
   rcases hnew g l' ho with ⟨s, k, hj, hk⟩ | hge
   ·
    rw [h] at hk
    injection hk with hk
    rw [hk] at hn
    exact absurd hj hn
   · exact absurd (I.lt g _ h) (by omega)
 have hτl : τ.length = outs.length := hlen.symm
 have ho2n : ∀ g k, o' g = some (ρ, k) → mixH o o' d ρ τ g = some (d, k) := by
  intro g k h
  unfold mixH
  rw [h]
  simp
 have ho2b : ∀ g i j k, τ[i]? = some j → o' g = some (OB + i, k) → mixH o o' d ρ τ g = some (OB + j, k) := by
  intro g i j k h1 h2
  have hiO : i < OB := by have := (List.getElem?_eq_some_iff.1 h1).1; omega
  unfold mixH
  rw [h2]
  simp only
  rw [if_neg (by omega), if_neg (by unfold OB OB2 at *; omega), if_pos (by omega), Nat.add_sub_cancel_left, h1]
 have ho2h : ∀ g c k, o' g = some (OB + (OB + c), k) → mixH o o' d ρ τ g = some (OB + (OB + c), k) := by
  intro g c k h
  unfold mixH
  rw [h]
  simp only
  rw [if_neg (by omega), if_pos (by rw [← zBO]; omega)]
 have hfrn : ∀ g l, o g = some l → ¬ (zDz σ l.1 ∨ OB2 ≤ l.1) → ¬ inH τ l.1 := by
  intro g l h hn ht
  rcases ht with ht | ht
  · exact hn (.inr ht)
  ·
   obtain ⟨s, k⟩ := l
   obtain ⟨j, rfl⟩ : ∃ j, s = OB + j := ⟨s - OB, by have := ht.1; omega⟩
   rcases hmem j (zEB.1 ht) with hj | hj
   · exact hn (.inl (zDm hj))
   · exact hfree j hj g k h
 have ho2o : ∀ g l, o g = some l → l.1 ≠ d → ¬ (zDz σ l.1 ∨ OB2 ≤ l.1) → mixH o o' d ρ τ g = some l := by
  intro g l h h1 h2
  unfold mixH
  rw [hdis g l h h2]
  exact zEk.2 ⟨h1, hfrn g l h h2, h⟩
 have ho2 : ∀ g l, mixH o o' d ρ τ g = some l → (l.1 = d ∧ o' g = some (ρ, l.2)) ∨ (∃ c, l.1 = OB + (OB + c) ∧ o' g = some l) ∨ (∃ i j, τ[i]? = some j ∧ l.1 = OB + j ∧ o' g = some (OB + i, l.2)) ∨ (l.1 ≠ d ∧ ¬ inH τ l.1 ∧ o g = some l) := by
  intro g l h
  unfold mixH at h
  split at h
  ·
   rename_i t k hg
   split at h
   ·
    rename_i e
    injection h with h
    subst h e
    exact .inl ⟨rfl, hg⟩
   ·
    split at h
    ·
     rename_i ht
     injection h with h
     subst h
     exact .inr (.inl ⟨t - OB2, by rw [← zBO]; show t = _; omega, hg⟩)
    ·
     split at h
     ·
      rename_i ht
      split at h
      ·
       rename_i j hj
       injection h with h
       subst h
       exact .inr (.inr (.inl ⟨t - OB, j, hj, rfl, by rw [show OB + (t - OB) = t by omega]; exact hg⟩))
      · exact .inr (.inr (.inr (zEk.1 h)))
     · exact .inr (.inr (.inr (zEk.1 h)))
  · exact .inr (.inr (.inr (zEk.1 h)))
 have hptσ : ∀ g i j, σ[i]? = some j → o g = some (OB + j, 0) → o' g = some (OB + i, 0) := fun g i j h1 h2 => J.pinned (OB + i) (.inr (by omega)) g (hmv g i j 0 h1 h2)
 have hpth : ∀ g c, o g = some (OB + (OB + c), 0) → o' g = some (OB + (OB + c), 0) := fun g c h => J.pinned _ (.inr (by omega)) g (hmh g c 0 h)
 have hpt : ∀ g j, o g = some (OB + j, 0) → mixH o o' d ρ τ g = some (OB + j, 0) := by
  intro g j h
  by_cases hj : j ∈ σ
  ·
   obtain ⟨i, hi⟩ := List.getElem?_of_mem hj
   exact ho2b g i j 0 (hστ i j hi) (hptσ g i j hi h)
  ·
   by_cases hj2 : OB2 ≤ OB + j
   ·
    obtain ⟨c, rfl⟩ : ∃ c, j = OB + c := ⟨j - OB, by unfold OB OB2 at *; omega⟩
    exact ho2h g c 0 (hpth g c h)
   · exact ho2o g _ h (zFj hdO) (fun e => e.elim (fun e => hj (zEB.1 e)) hj2)
 have K : Keep (fun l => l.1 = d ∨ inH τ l.1) m w o m' w' (mixH o o' d ρ τ) := by
  have hC : ∀ l : Nat × Nat, ¬ (l.1 = d ∨ inH τ l.1) → ¬ (zDz σ l.1 ∨ OB2 ≤ l.1) := fun l h hn => h (.inr (hστ' _ hn))
  refine ⟨J.mono, fun g l h hn => hold g (I.lt g l h) (hnot g l h (hC l hn)), fun g l h hn => hS'.block g (I.lt g l h) fun ⟨s, k, hj, hk⟩ => ?_, fun g l h hn => ho2o g l h (fun e => hn (.inl e)) (hC l hn), hpt, fun g s k hn h => ?_, fun g j h => ?_⟩
  ·
   rw [h] at hk
   injection hk with hk
   exact hC l hn (by rw [hk]; exact hj)
  ·
   rcases ho2 g _ h with ⟨e, _⟩ | ⟨c, e, _⟩ | ⟨i, j, h1, e, _⟩ | ⟨_, _, h⟩
   · exact absurd (.inl e) hn
   · exact absurd (.inr (.inl (by have e : s = OB + (OB + c) := e; rw [e, ← zBO]; exact Nat.le_add_right _ _))) hn
   ·
    have e : s = OB + j := e
    exact absurd (.inr (.inr (by rw [e]; exact zDm (List.mem_of_getElem? h1)))) hn
   · exact ⟨g, k, h⟩
  ·
   by_cases hj : zDz σ (OB + j) ∨ OB2 ≤ OB + j
   ·
    rcases hj with hj | hj
    ·
     obtain ⟨i, hi⟩ := List.getElem?_of_mem (zEB.1 hj)
     exact (J.shps g i (hmv g i j 0 hi h)).2
    ·
     obtain ⟨c, rfl⟩ : ∃ c, j = OB + c := ⟨j - OB, by unfold OB OB2 at *; omega⟩
     exact (J.shps g _ (hmh g c 0 h)).2
   ·
    refine .of_eq (hS'.block g (I.lt g _ h) fun ⟨s, k, hs, hk⟩ => hj ?_)
    rw [h] at hk
    injection hk with hk
    injection hk with hk _
    rw [hk]
    exact hs
 have hpt2 : ∀ s, OB ≤ s → ∀ g, o g = some (s, 0) → mixH o o' d ρ τ g = some (s, 0) := fun s hs g h => by
  obtain ⟨j, rfl⟩ : ∃ j, s = OB + j := ⟨s - OB, by omega⟩
  exact hpt g j h
 refine ⟨u, m', mixH o o' d ρ τ, rfl, ?_, J.sat, I.mono.trans J.mono, fun b hb hg => ?_, fun g l h => ?_, fun g l h => ?_, fun g g' l h h' => ?_, fun t ht g hg => ?_, fun t => ?_, I.defers, I.tbl, by rw [zBp]; exact I.wide, I.shps.keep I.pinned K.sh⟩
 ·
  refine I.same.trans (hS'.weaken ?_)
  rintro k ⟨s, q, _, hj⟩
  exact I.own k _ hj
 ·
  rw [hold b (Nat.lt_of_lt_of_le hb I.same.size) ?_]
  · exact I.old b hb hg
  ·
   cases hq : movH σ o b with
   | none => rfl
   | some l =>
    obtain ⟨s, k, _, h3⟩ := hgr b (by rw [hq]; simp)
    rcases I.own b _ h3 with h | h
    · exact absurd h hg
    · omega
 ·
  have key : ∀ l', o' g = some l' → G g ∨ w0.heap.size ≤ g := fun l' h1 => by
   rcases hnew g _ h1 with ⟨s, k, _, hj⟩ | hge
   · exact I.own g _ hj
   · exact .inr (Nat.le_trans I.same.size hge)
  rcases ho2 g l h with ⟨_, h1⟩ | ⟨_, _, h1⟩ | ⟨_, _, _, _, h1⟩ | ⟨_, _, h1⟩
  · exact key _ h1
  · exact key _ h1
  · exact key _ h1
  · exact I.own g l h1
 ·
  rcases ho2 g l h with ⟨_, h1⟩ | ⟨_, _, h1⟩ | ⟨_, _, _, _, h1⟩ | ⟨_, _, h1⟩
  · exact J.lt g _ h1
  · exact J.lt g _ h1
  · exact J.lt g _ h1
  · exact Nat.lt_of_lt_of_le (I.lt g l h1) hS'.size
 ·
  have hτO : ∀ i j, τ[i]? = some j → j < OB := fun i j h => hlo j (List.mem_of_getElem? h)
  rcases ho2 g l h with ⟨h2, h1⟩ | ⟨c, h2, h1⟩ | ⟨i, j, h3, h2, h1⟩ | ⟨h2, h3, h1⟩ <;> rcases ho2 g' l h' with ⟨h2', h1'⟩ | ⟨c', h2', h1'⟩ | ⟨i', j', h3', h2', h1'⟩ | ⟨h2', h3', h1'⟩
  · exact J.inj g g' _ h1 h1'
  · omega
  · omega
  · exact absurd h2 h2'
  · omega
  · exact J.inj g g' _ h1 h1'
  · have := hτO _ _ h3'; omega
  · exact absurd (.inl (by rw [h2, ← zBO]; omega)) h3'
  · omega
  · have := hτO _ _ h3; omega
  ·
   have hjj : j = j' := by omega
   subst hjj
   have e1 := zEy hnd h3
   have e2 := zEy hnd h3'
   rw [e1] at e2
   injection e2 with e2
   subst e2
   exact J.inj g g' _ h1 h1'
  · exact absurd (.inr (by rw [h2]; exact zDm (List.mem_of_getElem? h3))) h3'
  · exact absurd h2' h2
  · exact absurd (.inl (by rw [h2', ← zBO]; omega)) h3
  · exact absurd (.inr (by rw [h2']; exact zDm (List.mem_of_getElem? h3'))) h3
  · exact I.inj g g' l h1 h1'
 ·
  have h1 := I.pinned t ht g hg
  by_cases e : OB ≤ t
  · exact hpt2 t e g h1
  ·
   refine ho2o g _ h1 (fun e' => ?_) (fun e' => ?_)
   ·
    rcases ht with ht | ht
    · exact hpin (by have e' : t = d := e'; rw [← e']; exact ht)
    · exact e ht
   ·
    rcases e' with e' | e'
    · exact e e'.1
    ·
     have : OB2 ≤ t := e'
     unfold OB OB2 at *; omega
 ·
  rw [zFP]
  by_cases h : t = d
  ·
   subst h
   rw [if_pos ⟨rfl, hd⟩, zU]
   revert hres' hres
   intro hres hres'
   cases hres with
   | t hx => exact zEr (fun g c h => ho2h g c 0 h) (fun g i j h1 h2 => ho2b g i j 0 h1 h2) (fun g h => ho2n g 0 h) hx hres'
   | tup hx =>
    obtain ⟨vs, e1, q1, q2⟩ := hres'
    obtain ⟨k1, k2⟩ := hx.get
    refine ⟨vs, e1, by rw [k1]; exact q1, fun j y hj => ?_⟩
    obtain ⟨x, k3, k4⟩ := k2 j y hj
    obtain ⟨u', q3, q4⟩ := q2 j x k3
    exact ⟨u', q3, zEr (fun g c h => ho2h g c 0 h) (fun g i j h1 h2 => ho2b g i j 0 h1 h2) (fun g h => ho2n g _ h) k4 q4⟩
   | plain hx => exact zEd hx hres'
   | cl hx =>
    obtain ⟨ptrs, e1, q1, q2⟩ := hres'
    refine ⟨ptrs, e1, q1, fun i l hi => ?_⟩
    obtain ⟨g, q3, q4⟩ := q2 i l hi
    refine ⟨g, q3, fun j x hj => ?_⟩
    obtain ⟨u', q5, q6⟩ := q4 j x hj
    exact ⟨u', q5, zEr (fun g c h => ho2h g c 0 h) (fun g i j h1 h2 => ho2b g i j 0 h1 h2) (fun g h => ho2n g 0 h) (hx l (List.mem_of_getElem? hi) x (List.mem_of_getElem? hj)) q6⟩
  ·
   rw [if_neg (fun e => h e.1), zI h]
   by_cases ht : zDz τ t
   ·
    obtain ⟨j, rfl⟩ : ∃ j, t = OB + j := ⟨t - OB, by have := ht.1; omega⟩
    obtain ⟨i, hi⟩ := List.getElem?_of_mem (zEB.1 ht)
    have hil' : i < outs.length := by rw [← hτl]; exact (List.getElem?_eq_some_iff.1 hi).1
    rw [zHw hnd hi (List.getElem?_eq_getElem hil')]
    have hs := J.slots (OB + i)
    rw [hbx i _ (List.getElem?_eq_getElem hil')] at hs
    have hfl : outs[i].flatO = true := List.all_eq_true.1 hfo _ (List.getElem_mem hil')
    revert hs hfl
    generalize outs[i] = x'
    intro hs hfl
    cases x' with
    | box l =>
     obtain ⟨g, _, k1, k2, cs, E, k3, k4, k5⟩ := hs
     refine ⟨g, fun hb => absurd hb (by omega), ho2b g i j 0 hi k1, k2, cs, E, k3, k4, fun q x hq => ?_⟩
     obtain ⟨q1, u', q2, q3⟩ := k5 q x hq
     exact ⟨q1, u', q2, q3.reloc (fun g h => ho2b g i j _ hi h) (zBR hfl hq)⟩
    | any => trivial
    | free =>
     intro g k h
     rcases ho2 g _ h with ⟨e, _⟩ | ⟨c, e, _⟩ | ⟨i2, j2, h3, e, h1⟩ | ⟨_, h3, _⟩
     · have e : OB + j = d := e; omega
     ·
      have e : OB + j = OB + (OB + c) := e
      have := hlo j (List.mem_of_getElem? hi)
      omega
     ·
      have e : OB + j = OB + j2 := e
      have e : j = j2 := by omega
      subst e
      have e1 := zEy hnd h3
      rw [zEy hnd hi] at e1
      injection e1 with e1
      subst e1
      exact hs g _ h1
     · exact h3 (.inr ht)
    | _ => cases hfl
   ·
    rw [zDK ht]
    by_cases ht2 : OB2 ≤ t
    ·
     obtain ⟨c, rfl⟩ : ∃ c, t = OB + (OB + c) := ⟨t - OB2, by rw [← zBO]; omega⟩
     have e : hpS S f' (OB + (OB + c)) = san (f' c) := by
      unfold hpS
      rw [if_pos ht2, ← zBO, Nat.add_sub_cancel_left]
     rw [e]
     have hs := J.slots (OB + (OB + c))
     rw [hhp] at hs
     rcases zEq (f' c) with ⟨l, hl⟩ | hl | hl | ⟨l, hl⟩ | ⟨b, u, mE, oE, hl⟩
     ·
      have hpu := zGP hp' c l hl
      rw [hl] at hs ⊢
      obtain ⟨g, e1, k1, k2, cs, E, k3, k4, k5⟩ := hs
      refine ⟨g, fun h => absurd h (by omega), ho2h g c 0 k1, k2, cs, E, k3, k4, fun q x hq => ?_⟩
      obtain ⟨q1, u, q2, q3⟩ := k5 q x hq
      exact ⟨q1, u, q2, loc_rep (fun g c h => ho2h g c 0 h) (fun g h => ho2h g c _ h) (hpu x (List.mem_of_getElem? hq)) q3⟩
     ·
      rw [hl] at hs ⊢
      intro g k h
      rcases ho2 g _ h with ⟨e, _⟩ | ⟨c', e, h⟩ | ⟨i, j, h1, e, _⟩ | ⟨_, e, _⟩
      · have e : OB + (OB + c) = d := e; omega
      · exact hs g k h
      ·
       have e : OB + (OB + c) = OB + j := e
       have := hlo j (List.mem_of_getElem? h1)
       omega
      · exact e (.inl ht2)
     · rw [hl]; trivial
     ·
      rw [hl] at hs ⊢
      obtain ⟨g, k1, k2⟩ := hs
      exact ⟨g, ho2h g c 0 k1, k2⟩
     ·
      rw [hl] at hs ⊢
      obtain ⟨k1, k2, k3, k4, k5⟩ := hs
      exact ⟨ho2h b c 0 k1, k2, k3, k4, fun g c' hg => ho2h g c' 0 (k5 g c' hg)⟩
    ·
     have e : hpS S f' t = S t := by unfold hpS; rw [if_neg ht2]
     rw [e]
     refine RepA.keep K (fun j e => e.elim h (fun e => e.elim ht2 ht)) (fun b off e hb => ?_) (I.slots t)
     have hr := I.slots t
     rw [e] at hr
     obtain ⟨_, _, _, hr⟩ := hr
     obtain ⟨l, hl⟩ := hr hb
     have hbd : b ≠ d := fun e => by subst e; rw [hl] at hbox; cases hbox
     have hbo : ¬ zDz τ b := fun e => by have := e.1; omega
     have hb2 : ¬ OB2 ≤ b := by unfold OB OB2 at *; omega
     exact ⟨fun e => e.elim hbd (fun e => e.elim hb2 hbo), fun ⟨l, hl⟩ => ⟨l, by rw [zI hbd, zDK hbo]; unfold hpS; rw [if_neg hb2, hl]⟩⟩
theorem call_heap (I : Inv w0 m0 o0 G pins S a w m o) {fn : FuncId} {args : List A} {ins outs : List A} {f f' : Nat → A} {r r' : A} (hf : FCH P fn args ins outs f f' r) (hS : ∀ c, S (OB + (OB + c)) = san (f c)) (hp : zDy f) (hp' : zDy f')
  {σ fr : List Nat} (hnd : (σ ++ fr).Nodup) (hlo : ∀ j ∈ σ ++ fr, j < OB) (hin : σ.map (fun j => S (OB + j)) = ins) (hfi : ins.all A.flatO = true) (hfo : outs.all A.flatO = true) (hfr : ∀ j ∈ fr, S (OB + j) = .free) (hlen : outs.length = (σ ++ fr).length) (hlO : outs.length ≤ OB) (hres : ResH (σ ++ fr) r r')
  {vals : Array Value} (hv : vals.size = args.length) (hr : ∀ (k : Nat) (x : A), args[k]? = some x → ∀ k0, RepA m w (movH σ o) (argH args ins f) k0 x (vals.getD k undef)) (hargs : args.length ≤ OB)
  {d : Nat} (hd : d < a.tmps.size) (hbox : (S d).isBox = false) (hpin : d ∉ pins) :
  Calls P fn vals w fun e w' => ∃ u m' o', e = .returned u ∧ Inv w0 m0 o0 G pins (upd (app (hpS S f') (zCg (σ ++ fr) outs)) d r') (a.put (some d) u) w' m' o' :=
 zIt (K := Calls P fn) I (fun _ _ _ _ h k => Calls.mono h k) hf hS hp hp' hnd hlo hin hfi hfo hfr hlen hlO hres hv hr hargs hd hbox hpin
end
end Go.Proofs.YtmgafkpkpmjieaaDoor

/-
 Functions that read and write the heap: their contracts from their code; the rules by which a walk goes.
-/
namespace Go.Proofs.YtmgafkpkpmjieaaDoor
open Go Go.RowKit
set_option linter.unusedVariables false
def boxH : Nat → List A → SL
 | _, [] => []
 | i, x :: r => (OB + i, x) :: boxH (i + 1) r
def zE8 (fr : List Nat) (args : List A) (ins : List A) (f : Nat → A) : SL := (HK, .hp f) :: (frL fr ++ (boxH 0 ins ++ zA8 0 args))
theorem zGM (ins : List A) (L : SL) : ∀ (i s : Nat), gt (boxH i ins ++ L) s = if OB + i ≤ s ∧ s < OB + i + ins.length then (match ins[s - OB - i]? with | some x => x | none => .any) else gt L s := by
 induction ins with
 | nil => intro i s; rw [if_neg (by simp)]; rfl
 | cons l r ih =>
  intro i s
  show gt ((OB + i, l) :: (boxH (i + 1) r ++ L)) s = _
  rw [yN, upd, ih (i + 1) s]
  by_cases h : s = OB + i
  ·
   subst h
   rw [if_pos rfl, if_pos ⟨by omega, by simp⟩]
   simp
  ·
   rw [if_neg h]
   by_cases h2 : OB + i ≤ s ∧ s < OB + i + (l :: r).length
   ·
    rw [if_pos h2, if_pos ⟨by omega, by have := h2.2; simp at this; omega⟩]
    rw [show s - OB - i = (s - OB - (i + 1)) + 1 by omega, List.getElem?_cons_succ]
   · rw [if_neg h2, if_neg (by intro h3; exact h2 ⟨by omega, by simp; omega⟩)]
theorem zGx (fr : List Nat) (args : List A) (ins : List A) (f : Nat → A) (hn : args.length ≤ OB) (hil : ins.length < OB) (hfr : fr.all (fun j => Nat.ble ins.length j) = true) (s : Nat) (hs : s < OB2) : gt (frL fr ++ (boxH 0 ins ++ zA8 0 args)) s = argH args ins f s ∨ (gt (frL fr ++ (boxH 0 ins ++ zA8 0 args)) s = .any ∧ argH args ins f s = .free) := by
 induction fr with
 | nil =>
  show gt (boxH 0 ins ++ zA8 0 args) s = _ ∨ (gt (boxH 0 ins ++ zA8 0 args) s = .any ∧ _)
  unfold argH
  by_cases h : s < OB
  ·
   refine .inl ?_
   rw [zGM, zEh, if_neg (by omega), if_pos (Nat.zero_le _), if_pos h]
   rfl
  ·
   by_cases h2 : s < OB + ins.length
   ·
    refine .inl ?_
    rw [zGM, if_pos ⟨by omega, by omega⟩, if_neg h, if_neg (by omega)]
    have : s - OB < ins.length := by omega
    simp [List.getElem?_eq_getElem this]
   ·
    refine .inr ⟨show gt (boxH 0 ins ++ zA8 0 args) s = .any from ?_, ?_⟩
    ·
     rw [zGM, zEh, if_neg (by omega), if_pos (Nat.zero_le _)]
     unfold argS
     rw [List.getD_eq_getElem?_getD, List.getElem?_eq_none (by omega)]
     rfl
    · rw [if_neg h, if_neg (by omega), List.getElem?_eq_none (by omega)]
 | cons j r ih =>
  simp only [List.all_cons, Bool.and_eq_true] at hfr
  show gt ((OB + j, .free) :: (frL r ++ (boxH 0 ins ++ zA8 0 args))) s = _ ∨ (gt ((OB + j, .free) :: (frL r ++ (boxH 0 ins ++ zA8 0 args))) s = _ ∧ _)
  rw [yN, upd]
  by_cases h : s = OB + j
  ·
   rw [if_pos h]
   refine .inl ?_
   have := Nat.le_of_ble_eq_true hfr.1
   unfold argH
   rw [if_neg (by omega), if_neg (by omega), List.getElem?_eq_none (by omega)]
  · rw [if_neg h]; exact ih hfr.2
def outH (L : SL) : Nat → List A → Prop
 | _, [] => True
 | i, x :: r => gt L (OB + i) = x ∧ outH L (i + 1) r
theorem zID {L : SL} : ∀ {outs : List A} {i : Nat}, outH L i outs → ∀ (k : Nat) (l : A), outs[k]? = some l → gt L (OB + (i + k)) = l
 | [], _, _, k, l, h => by simp at h
 | x :: r, i, h, k, l, hk => by
  cases k with
  | zero => injection hk with hk; subst hk; exact h.1
  | succ k => rw [show i + (k + 1) = i + 1 + k by omega]; exact zID h.2 k l (by simpa using hk)
def endH (P : Program) (rs : List ResultVar) (outs : List A) (f' : Nat → A) (r : A) : Exit → SL → Prop
 | .normal, L | .ret, L => (∃ y, resA P (gt L) rs = some y ∧ WkA y r) ∧ outH L 0 outs ∧ gt L HK = .hp f'
 | _, _ => False
section
variable {P : Program} {w0 : World} {m0 : Mem} {o0 : OwnM} {G : GD} {pins : List Nat} {a : Act} {w : World} {m : Mem} {o : OwnM}
theorem resA_low {S : Nat → A} (I : Inv w0 m0 o0 G pins S a w m o) {fn : Func} {rs : List ResultVar} (hrs : fn.results = rs.toArray) (hrt : (match rs with | [.tmp t] => Nat.blt t OB | _ => true) = true) {y : A} (h : resA P S rs = some y) :
  ∃ v ρ, (results fn a.tmps).run P w = .ok v w ∧ RepA m w o S ρ y v ∧ ρ < OB := by
 have hO : 0 < OB := by decide
 have many : ∀ l, rs.mapM (resT P S) = some l → rs.length ≠ 1 → ∃ v ρ, (results fn a.tmps).run P w = .ok v w ∧ RepA m w o S ρ (.tup l) v ∧ ρ < OB := by
  intro l hl hne
  obtain ⟨vs, h5, h6, h8, h7⟩ := zGL (P := P) I 0 rs l 1 hl
  have hlen : vs.length ≠ 1 := by omega
  refine ⟨.tuple vs.toArray, 0, ?_, ⟨vs.toArray, rfl, by simpa using h6, fun j x hj => ?_⟩, hO⟩
  ·
   show (do let vs ← fn.results.mapM (resS a.tmps); pure (if h : vs.size = 1 then vs[0] else .tuple vs) : Sem Value).run P w = _
   rw [hrs, Sem.run_bind, List.mapM_toArray, Sem.run_map, h5, Result.andThen_ok, Result.andThen_ok, Sem.run_pure]
   rw [dif_neg (by simpa using hlen)]
  ·
   obtain ⟨u, k1, k2⟩ := h7 j x hj
   exact ⟨u, by simpa using k1, by rw [Nat.add_comm]; exact k2⟩
 have one : ∀ r x, rs = [r] → resT P S r = some x → ∃ v ρ, (results fn a.tmps).run P w = .ok v w ∧ RepA m w o S ρ (.t x) v ∧ ρ < OB := by
  intro r x e hx
  subst e
  obtain ⟨v, h3, h4⟩ := zGg (P := P) I hx (0, 0)
  refine ⟨v, 0, ?_, h4, hO⟩
  show (do let vs ← fn.results.mapM (resS a.tmps); pure (if h : vs.size = 1 then vs[0] else .tuple vs) : Sem Value).run P w = _
  rw [hrs, Sem.run_bind, List.mapM_toArray, Sem.run_map, List.mapM_cons, Sem.run_bind, h3]
  simp
 unfold resA at h
 split at h
 ·
  rename_i t
  injection h with h
  subst h
  exact ⟨_, t, results_tmp hrs _ _ _, I.slots t, by simpa using hrt⟩
 ·
  rename_i r _
  cases hx : resT P S r with
  | none => rw [hx] at h; cases h
  | some x =>
   rw [hx] at h
   injection h with h
   subst h
   exact one r x rfl hx
 ·
  rename_i h1 h2
  cases hx : rs.mapM (resT P S) with
  | none => rw [hx] at h; cases h
  | some l =>
   rw [hx] at h
   injection h with h
   subst h
   refine many l hx fun e => ?_
   match rs, e with
   | [r], _ => exact h2 r rfl
theorem zIS {k : Nat} (h : k < OB) : DK ∉ zIU k := fun hm => by
 obtain ⟨i, hi, e⟩ := List.mem_map.1 hm
 have := List.mem_range.1 hi
 unfold DK at e
 unfold OB at h e
 omega
theorem fch_inv (fr : List Nat) {F : Func} {args : List A} {ins : List A} {f : Nat → A} (hle : args.length ≤ F.ntmps) (hw : F.ntmps ≤ OB) (hio : ins.length < OB) (hfr1 : fr.all (fun j => Nat.ble ins.length j) = true) (hfr2 : fr.all (fun j => Nat.blt j OB) = true)
  {w : World} {m : Mem} {o : OwnM} {vals : Array Value} (hsat : ∀ b p u, m b p = some u → w.cell? ⟨b, p, none⟩ = some u) (htbl : Mle TBL m) (hlt : ∀ g l, o g = some l → g < w.heap.size) (hinj : ∀ g g' l, o g = some l → o g' = some l → g = g') (hsz : vals.size = args.length)
  (hrep : ∀ s, RepA m w o (argH args ins f) s (argH args ins f s) (vals.getD s undef)) :
  Low (gt (zE8 fr args ins f)) ∧ (vals ++ Array.replicate (F.ntmps - vals.size) undef).size = F.ntmps ∧ Inv w m o ⟨fun g => o g ≠ none, []⟩ (zIU ins.length) (hx (gt (zE8 fr args ins f))) { tmps := vals ++ Array.replicate (F.ntmps - vals.size) undef, defers := [] } w m o := by
 have hlow0 : Low (gt (frL fr ++ (boxH 0 ins ++ zA8 0 args))) := by
  intro t ht
  have hb0 : Low (gt (boxH 0 ins ++ zA8 0 args)) := by
   intro t ht
   rw [zGM, if_neg (by unfold OB OB2 at *; omega)]
   exact zGC (fr := []) hle hw rfl t ht
  clear hrep
  induction fr with
  | nil => exact hb0 t ht
  | cons j r ih =>
   simp only [List.all_cons, Bool.and_eq_true] at hfr2 hfr1
   show gt ((OB + j, .free) :: (frL r ++ (boxH 0 ins ++ zA8 0 args))) t = _
   have h1 : j < OB := by simpa using hfr2.1
   rw [yN, zI (by unfold OB OB2 at *; omega)]
   exact ih hfr1.2 hfr2.2
 have hlow : Low (gt (zE8 fr args ins f)) := by
  show Low (gt ((HK, .hp f) :: _))
  rw [yN]
  exact hlow0.upd zIq
 have hkk : gt (zE8 fr args ins f) HK = .hp f := by show gt ((HK, .hp f) :: _) HK = _; rw [yN, zU]
 refine ⟨hlow, ?_, ?_⟩
 · simp [hsz]; omega
 ·
  have hargK : ∀ g j, o g = some (OB + j, 0) → OB + j ∈ zIU ins.length ∨ OB2 ≤ OB + j := by
   intro g j h
   by_cases h2 : OB2 ≤ OB + j
   · exact .inr h2
   ·
    by_cases h3 : j < ins.length
    · exact .inl (List.mem_map.2 ⟨j, List.mem_range.2 h3, rfl⟩)
    ·
     exfalso
     have hs := hrep (OB + j)
     have e : argH args ins f (OB + j) = .free := by unfold argH; rw [if_neg (by omega), if_neg h2, Nat.add_sub_cancel_left, List.getElem?_eq_none (by omega)]
     rw [e] at hs
     exact hs g 0 h
  refine ⟨Same.refl _ _, hsat, Mle.refl _, fun _ _ _ => rfl, fun g l h => .inl (by show o g ≠ none; rw [h]; simp), hlt, hinj, fun s hs g hg => hg, fun s => ?_, rfl, htbl, by simp [hsz]; omega, fun g j h => ⟨hargK g j h, zAq.refl w g⟩⟩
  have hget : (vals ++ Array.replicate (F.ntmps - vals.size) undef).getD s undef = vals.getD s undef := by
   simp only [Array.getD_eq_getD_getElem?, Array.getElem?_append, Array.getElem?_replicate]
   by_cases h : s < vals.size
   · simp [h]
   ·
    rw [if_neg h, Array.getElem?_eq_none (by omega)]
    split <;> rfl
  show RepA m w o (hx (gt (zE8 fr args ins f))) s (hx (gt (zE8 fr args ins f)) s) ((vals ++ Array.replicate (F.ntmps - vals.size) undef).getD s undef)
  rw [hget]
  rcases Nat.lt_or_ge s OB2 with hs2 | hs2
  ·
   rw [zC9 hs2]
   by_cases e : s = HK
   ·
    subst e
    rw [hkk]
    trivial
   ·
    have he : gt (zE8 fr args ins f) s = gt (frL fr ++ (boxH 0 ins ++ zA8 0 args)) s := by show gt ((HK, .hp f) :: _) s = _; rw [yN, zI e]
    rw [he]
    rcases zGx fr args ins f (by omega) hio hfr1 s hs2 with e1 | ⟨e1, _⟩
    ·
     rw [e1]
     have h := hrep s
     refine h.turn fun b l hb => ?_
     rcases Nat.lt_or_ge b OB2 with hb2 | hb2
     ·
      rw [zC9 hb2]
      have hbk : b ≠ HK := fun e => by
       subst e
       unfold argH at hb
       rw [if_neg (by unfold HK OB; omega), if_neg (by unfold HK OB2; omega), List.getElem?_eq_none (by unfold HK; unfold OB at *; omega)] at hb
       cases hb
      refine ⟨l, ?_⟩
      show gt ((HK, .hp f) :: _) b = _
      rw [yN, zI hbk]
      rcases zGx fr args ins f (by omega) hio hfr1 b hb2 with e2 | ⟨_, e2⟩
      · rw [e2, hb]
      · rw [hb] at e2; cases e2
     ·
      obtain ⟨c, rfl⟩ : ∃ c, b = OB + (OB + c) := ⟨b - OB2, by rw [← zBO]; omega⟩
      have e : argH args ins f (OB + (OB + c)) = san (f c) := by
       unfold argH
       rw [if_neg (by omega), if_pos hb2, ← zBO, Nat.add_sub_cancel_left]
      rw [zFv hlow hkk, ← e, hb]
      exact ⟨l, rfl⟩
    · rw [e1]; trivial
  ·
   obtain ⟨c, rfl⟩ : ∃ c, s = OB + (OB + c) := ⟨s - OB2, by rw [← zBO]; omega⟩
   rw [zFv hlow hkk]
   have h := hrep (OB + (OB + c))
   have e : argH args ins f (OB + (OB + c)) = san (f c) := by
    unfold argH
    rw [if_neg (by omega), if_pos hs2, ← zBO, Nat.add_sub_cancel_left]
   rw [e] at h
   rcases zEq (f c) with ⟨l, hl⟩ | hl | hl | ⟨l, hl⟩ | ⟨b, u, mE, oE, hl⟩
   · rw [hl] at h ⊢; exact h
   · rw [hl] at h ⊢; exact h
   · rw [hl]; trivial
   · rw [hl] at h ⊢; exact h
   · rw [hl] at h ⊢; exact h
theorem zBM (fr : List Nat) {fn : FuncId} {F : Func} {c : Code} {args : List A} {rs : List ResultVar} {ins outs : List A} {f f' : Nat → A} {r : A} {n : Nat} {pins : List Nat} {L : SL} (hf : P.funcs[fn]? = some F) (hb : F.body = some c) (hn : F.ntmps = n) (hle : args.length ≤ n) (hres : F.results = rs.toArray)
  (hpins : (zIU ins.length, Nat.ble n OB, fr.all (fun j => Nat.ble ins.length j && Nat.blt j OB), Nat.blt ins.length OB && Nat.blt outs.length OB, (match rs with | [.tmp t] => Nat.blt t OB | _ => true)) = (pins, true, true, true, true)) (hL : zE8 fr args ins f = L) (hc : yP P pins n c (endH P rs outs f' r) L) : FCH P fn args ins outs f f' r := by
 injection hpins with hpins hw
 injection hw with hw hfr
 injection hfr with hfr hil
 injection hil with hil hrt
 have hw := Nat.le_of_ble_eq_true hw
 simp only [Bool.and_eq_true] at hil
 have hio : ins.length < OB := by simpa using hil.1
 have hoo : outs.length < OB := by simpa using hil.2
 have hfr1 : fr.all (fun j => Nat.ble ins.length j) = true := List.all_eq_true.2 fun j hj => by have := List.all_eq_true.1 hfr j hj; simp only [Bool.and_eq_true] at this; exact this.1
 have hfr2 : fr.all (fun j => Nat.blt j OB) = true := List.all_eq_true.2 fun j hj => by have := List.all_eq_true.1 hfr j hj; simp only [Bool.and_eq_true] at this; exact this.2
 subst hn hpins hL
 intro w m o vals hsat htbl hlt hinj hsz hrep
 obtain ⟨hlow, hs0, I0⟩ := fch_inv fr hle hw hio hfr1 hfr2 hsat htbl hlt hinj hsz hrep
 refine calls_of_wp hf hb (wpIn_wide.1 (wpIn_mono (hc Fence.wide 0 ⟨.wide, fun _ => rfl⟩ w m o ⟨fun g => o g ≠ none, []⟩ _ w ⟨hs0, hlow, m, o, I0⟩) ?_))
 ·
  rintro e a' w' ⟨L', hq, hS⟩
  obtain ⟨hN, hlo', m', o', I⟩ := hS.st (zIS hio)
  have fin : ((∃ y, resA P (gt L') rs = some y ∧ WkA y r) ∧ outH L' 0 outs ∧ gt L' HK = .hp f') → a'.defers = [] ∧ ∃ v, (results F a'.tmps).run P w' = .ok v w' ∧ ∃ (u : Value) (m' : Mem) (o' : OwnM) (S' : Nat → A) (a' : Act) (ρ : Nat), Ending.returned v = .returned u ∧ Inv w m o ⟨fun g => o g ≠ none, []⟩ (zIU ins.length) S' a' w' m' o' ∧ RepA m' w' o' S' ρ r u ∧ (∀ (i : Nat) (x : A), outs[i]? = some x → S' (OB + i) = x) ∧ (∀ c, S' (OB + (OB + c)) = san (f' c)) ∧ ρ < OB := by
   rintro ⟨⟨y, hy, hw⟩, ho, hk⟩
   obtain ⟨y', hy', hyy⟩ := resA_hx hy
   obtain ⟨v, ρ, h1, h2, h3⟩ := resA_low (P := P) I hres hrt hy'
   refine ⟨I.defers, v, h1, v, m', o', hx (gt L'), a', ρ, rfl, I, hw.rep I.sat (by rcases hyy with rfl | rfl; exact h2; exact trivial), fun i l h => ?_, fun c => zFv hlo' hk c, h3⟩
   have hi := (List.getElem?_eq_some_iff.1 h).1
   have := zID ho i l h
   rw [Nat.zero_add] at this
   rw [zC9 (by unfold OB OB2 at *; omega), this]
  cases e <;> first | exact fin hq | exact hq.elim
end
end Go.Proofs.YtmgafkpkpmjieaaDoor

/-
 The heap in a walk: the rules.
-/
namespace Go.Proofs.YtmgafkpkpmjieaaDoor
open Go Go.RowKit
set_option linter.unusedVariables false
section
variable {P : Program} {pins : List Nat} {N : Nat} {S M : Nat → A} {op : Oper} {e : Eff} {d c : Nat} {f f' : Nat → A}
theorem OpH.of' (h : N ≤ OB → Low S → OpOK P pins N op (hx S) (app (hx S) e) ∧ zGI S e) : OpH P pins N op S (app S e) :=
 fun hN hl => by
  obtain ⟨h1, h2⟩ := h hN hl
  rw [hx_app h2]
  exact ⟨h1, hl.app h2⟩
theorem OpOK.hkpost {S1 : Nat → A} (h : OpOK P pins N op S S1) (hk : S1 HK = .hp f) : OpOK P pins N op S (upd S1 HK (.hp f')) :=
 fun w0 m0 o0 G a w m o hN I K Q hK => h w0 m0 o0 G a w m o hN I K Q fun a' w' m' o' hN' I' => hK a' w' m' o' hN' (I'.hk hk f')
theorem zFQ {S : Nat → A} {s t : Nat} {x y : A} (h : s ≠ t) : upd (upd S s x) t y = upd (upd S t y) s x := by
 funext k
 unfold upd
 by_cases h1 : k = s
 · subst h1; simp [h]
 · simp [h1]
theorem zCM {x : A} (hd : d < OB2) (hk : d ≠ HK) : hx (upd S d x) = upd (hx S) d x := by
 funext t
 by_cases e : t = d
 ·
  subst e
  rw [zC9 hd, zU, zU]
 ·
  rw [zI e]
  unfold hx
  rw [zI e, zI (Ne.symm hk)]
theorem h_put {l' : List T} (hk : S HK = .hp f) (hf' : f' = updF f c (.box l')) (h : N ≤ OB → Low S → OpOK P pins N op (hx S) (upd (hx S) (OB + (OB + c)) (.box l'))) : OpH P pins N op S (app S [(HK, .hp f')]) := by
 subst hf'
 intro hN hl
 refine ⟨?_, hl.upd zIq⟩
 show OpOK P pins N op (hx S) (hx (upd S HK _))
 rw [hx_set hl hk rfl]
 refine (h hN hl).hkpost (f := f) ?_
 rw [zI (by unfold HK OB; omega)]
 exact zB1 hk (by simp)
theorem h_mk {l' : List T} {x : A} (hk : S HK = .hp f) (hf' : f' = updF f c (.box l')) (hok : okD N pins S d = true) (h : N ≤ OB → Low S → OpOK P pins N op (hx S) (app (hx S) [(OB + (OB + c), .box l'), (d, x)])) : OpH P pins N op S (app S [(HK, .hp f'), (d, x)]) := by
 subst hf'
 intro hN hl
 have hdO := yG hN hok
 have hd2 : d ≠ HK := by unfold HK; unfold OB at hdO; omega
 refine ⟨?_, (hl.upd zIq).upd (lt2 hdO)⟩
 show OpOK P pins N op (hx S) (hx (upd (upd S HK _) d x))
 rw [zCM (lt2 hdO) hd2, hx_set hl hk rfl, zFQ (Ne.symm hd2)]
 refine (h hN hl).hkpost (f := f) ?_
 show upd (upd (hx S) (OB + (OB + c)) _) d x HK = _
 rw [zI (Ne.symm hd2), zI (by unfold HK OB; omega)]
 exact zB1 hk (by simp)
theorem hx_free (hl : Low S) (hk : S HK = .hp f) (hf : f c = .free) : hx S (OB + (OB + c)) = .free := by rw [zFv hl hk, hf]; rfl
theorem zFn {l : List T} (hl : Low S) (hk : S HK = .hp f) (hf : f c = .box l) : hx S (OB + (OB + c)) = .box l := by rw [zFv hl hk, hf]; rfl
theorem h_ld (hM : Mk M S) (hk : S HK = .hp f) {off t n : Nat} {x : Operand} {l : List T} {z : T} {y : A} (hop : op.op = .load t x) (ht : tyA P t = some (false, n)) (hx : cpO M x = .t (.hpt c off)) (hf : f c = .box l) (hz : l[off]? = some z) (hy : norH z = some y) (hd : op.dst = some d) (hok : okD N pins S d = true) : OpH P pins N op S (app S [(d, y)]) :=
 .of' (e := [(d, y)]) fun hN hl => ⟨ok_hld hM.hx hop ht hx (zFn hl hk hf) hz hy hd (yL hN hok), zB0 (yG hN hok)⟩
theorem h_lr (hM : Mk M S) (hk : S HK = .hp f) {off t n : Nat} {x : Operand} {l r : List T} {y : List D} (hop : op.op = .load t x) (ht : tyA P t = some (true, n)) (hx : cpO M x = .t (.hpt c off)) (hf : f c = .box l) (hl : (l.drop off).take n = r) (hr : r.length = n) (hpt : noPt r = true) (hy : r.map toD = y) (hd : op.dst = some d) (hok : okD N pins S d = true) : OpH P pins N op S (app S [(d, .t (.agg y))]) :=
 .of' (e := [(d, _)]) fun hN hlo => ⟨ok_hlr hM.hx hop ht hx (zFn hlo hk hf) hl hr hpt hy hd (yL hN hok), zB0 (yG hN hok)⟩
theorem h_st (hM : Mk M S) (hk : S HK = .hp f) {t off : Nat} {x y : Operand} (hop : op.op = .store t x y) (hd : op.dst = none) {i : TypeInfo} (hi : P.info? t = some i) (hx : cpO M x = .t (.hpt c off)) {l l' : List T} (hf : f c = .box l) {q : List T} (hc : zC4 (cpO M y) = some q) (hsz : q.length = i.size) (hle : off + i.size ≤ l.length) (hl' : yC l off q = l') (hf' : f' = updF f c (.box l')) : OpH P pins N op S (app S [(HK, .hp f')]) := by
 subst hl'
 exact h_put hk hf' fun hN hl => ok_hst hM.hx hop hd hi hx (zFn hl hk hf) hc hsz hle
theorem h_new (hk : S HK = .hp f) {E : Nat} {i : TypeInfo} {z : Value} {l : List T} (hop : op.op = .alloc E) (hi : P.info? E = some i) (hz : i.zero = some z) (hl : zDS (litA z) = some l) (hd : op.dst = some d) (hok : okD N pins S d = true) (hf : f c = .free) (hf' : f' = updF f c (.box l)) : OpH P pins N op S (app S [(HK, .hp f'), (d, .t (.hpt c 0))]) :=
 h_mk hk hf' hok fun hN hlo => ok_hnew hop hi hz hl hd (yL hN hok) (yG hN hok) (hx_free hlo hk hf)
def zIF : List Nat → Bool
 | [] => true
 | x :: r => !(r.any fun y => Nat.beq y x) && zIF r
theorem zGr : ∀ {l : List Nat}, zIF l = true → l.Nodup
 | [], _ => .nil
 | x :: r, h => by
  simp only [zIF, Bool.and_eq_true] at h
  rw [List.nodup_cons]
  refine ⟨fun hm => ?_, zGr h.2⟩
  have : (r.any fun y => Nat.beq y x) = true := List.any_eq_true.2 ⟨x, hm, Nat.beq_refl x⟩
  rw [this] at h
  cases h.1
def callB (M : Nat → A) (σ fr : List Nat) (outs : List A) : Bool :=
 zIF (σ ++ fr) && (σ ++ fr).all (fun j => Nat.blt (j + 1) OB) && fr.all (fun j => match M (OB + j) with | .free => true | _ => false) && Nat.beq outs.length (σ ++ fr).length && Nat.ble outs.length OB
theorem hx_puts : ∀ {τ : List Nat} {outs : List A} {S : Nat → A}, (∀ j ∈ τ, j + 1 < OB) → hx (app S (zCg τ outs)) = app (hx S) (zCg τ outs)
 | [], outs, S, _ => by cases outs <;> rfl
 | j :: τ, [], S, _ => rfl
 | j :: τ, x :: r, S, h => by
  have hj := h j (by simp)
  show hx (app (upd S (OB + j) x) (zCg τ r)) = app (upd (hx S) (OB + j) x) (zCg τ r)
  rw [hx_puts (fun j hj => h j (List.mem_cons_of_mem _ hj)), zCM (by unfold OB OB2 at *; omega) (by unfold HK; unfold OB at *; omega)]
theorem zGJ : ∀ {τ : List Nat} {outs : List A} {S : Nat → A}, (∀ j ∈ τ, j + 1 < OB) → Low S → Low (app S (zCg τ outs))
 | [], outs, S, _, h => by cases outs <;> exact h
 | j :: τ, [], S, _, h => h
 | j :: τ, x :: r, S, h, hl => by
  have hj := h j (by simp)
  exact zGJ (S := upd S (OB + j) x) (fun j hj => h j (List.mem_cons_of_mem _ hj)) (hl.upd (by unfold OB OB2 at *; omega))
theorem puts_hk : ∀ {τ : List Nat} {outs : List A} {S : Nat → A}, (∀ j ∈ τ, j + 1 < OB) → app S (zCg τ outs) HK = S HK := fun h => zDK fun e => by
 have := h _ e.2
 have h2 := e.1
 unfold HK at this
 unfold OB at this
 omega
theorem app_hpS : ∀ {τ : List Nat} {outs : List A} {S : Nat → A} {f' : Nat → A}, (∀ j ∈ τ, j + 1 < OB) → app (hpS S f') (zCg τ outs) = hpS (app S (zCg τ outs)) f'
 | [], outs, S, f', _ => by cases outs <;> rfl
 | j :: τ, [], S, f', _ => rfl
 | j :: τ, x :: r, S, f', h => by
  have hj := h j (by simp)
  show app (upd (hpS S f') (OB + j) x) (zCg τ r) = hpS (app (upd S (OB + j) x) (zCg τ r)) f'
  rw [← app_hpS (fun j hj => h j (List.mem_cons_of_mem _ hj))]
  congr 1
  funext t
  unfold upd hpS
  by_cases e : t = OB + j
  ·
   subst e
   rw [if_pos rfl, if_neg (by unfold OB OB2 at *; omega)]
   simp
  ·
   rw [if_neg e]
   simp [e]
theorem zFV {w0 : World} {m0 : Mem} {o0 : OwnM} {G : GD} {a : Act} {w : World} {m : Mem} {o : OwnM} (hM : Mk M S) (I : Inv w0 m0 o0 G pins S a w m o) {σ : List Nat} (hσ : σ.Nodup) (hl : σ.length ≤ OB) (hs : ∀ j ∈ σ, j < OB) {S' : Nat → A} : ∀ (xs : List Operand) (args : List A), zFg σ (xs.map (cpO M)) args → (xs.map a.eval).length = args.length ∧ ∀ (k : Nat) (x : A), args[k]? = some x → ∀ k0, RepA m w (movH σ o) S' k0 x ((xs.map a.eval).getD k undef)
 | [], args, h => by cases h; exact ⟨rfl, fun k x h => by simp at h⟩
 | y :: ys, args, h => by
  cases h with
  | cons hx ht =>
   obtain ⟨k1, k2⟩ := zFV hM I hσ hl hs (S' := S') ys _ ht
   refine ⟨by simpa using k1, fun k x hk k0 => ?_⟩
   cases k with
   | succ k => simpa using k2 k x (by simpa using hk) k0
   | zero =>
    injection hk with hk
    subst hk
    have hr := yA hM I y 0
    show RepA m w (movH σ o) _ k0 _ (a.eval y)
    revert hx hr
    generalize cpO M y = z
    intro hx hr
    cases hx with
    | plain h hp => exact zEd hp (h.rep I.sat hr)
    | hpt c off => obtain ⟨g, q1, q2⟩ := hr; exact ⟨g, (zDp hσ hl hs).2 (.inl ⟨_, rfl, q1⟩), q2⟩
    | hvw c off E k n =>
     obtain ⟨A', q, q1, q2, q3, q4⟩ := hr
     exact ⟨A', q, q1, q2, q3, q4.imp id fun ⟨g, cs, E1, k1, k2⟩ => ⟨g, cs, E1, (zDp hσ hl hs).2 (.inl ⟨_, rfl, k1⟩), k2⟩⟩
    | ck f cs =>
     obtain ⟨ptrs, q1, q2, q3⟩ := hr
     refine ⟨ptrs, q1, q2, fun i c hi => ?_⟩
     obtain ⟨v, q4, q5⟩ := q3 i c hi
     refine ⟨v, q4, ?_⟩
     cases c with
     | live c => obtain ⟨g, b1, b2⟩ := q5; exact ⟨g, b1, (zDp hσ hl hs).2 (.inl ⟨_, rfl, b2⟩)⟩
     | fz l => exact q5
    | view h =>
     obtain ⟨A', q, q1, q2, q3, q4⟩ := hr
     exact ⟨A', q, q1, q2, q3, q4.imp id fun ⟨g, cs, E1, k1, k2⟩ => ⟨g, cs, E1, (zDp hσ hl hs).2 (.inr ⟨_, _, rfl, by have := (List.getElem?_eq_some_iff.1 h).1; omega, h, k1⟩), k2⟩⟩
    | view0 h =>
     obtain ⟨A', q, q1, q2, q3, q4⟩ := hr
     exact ⟨A', q, q1, q2, q3, q4.imp id fun ⟨g, cs, E1, k1, k3, k4, k5, _⟩ => ⟨g, cs, E1, (zDp hσ hl hs).2 (.inr ⟨_, _, rfl, by have := (List.getElem?_eq_some_iff.1 h).1; omega, h, k1⟩), k3, k4, k5, .inl rfl⟩⟩
theorem h_callV (hM : Mk M S) (hk : S HK = .hp f) {fn : Nat} (hd : op.dst = some d) (hok : okD N pins S d = true)
    {args : List A} {ins outs : List A} {r r' : A} {σ fr : List Nat} (hf : FCH P fn args ins outs f f' r) (hp : zDy f) (hp' : zDy f') (hb : callB M σ fr outs = true) (b3 : ins.all A.flatO = true) (b4 : outs.all A.flatO = true) (hin : σ.map (fun j => S (OB + j)) = ins) (hle : Nat.ble args.length OB = true) (hres : ResH (σ ++ fr) r r')
    (hrun : ∀ (w0 : World) (m0 : Mem) (o0 : OwnM) (G : GD) (a : Act) (w : World) (m : Mem) (o : OwnM), Inv w0 m0 o0 G pins (hx S) a w m o → σ.Nodup → σ.length ≤ OB → (∀ j ∈ σ, j < OB) → ∃ vals : Array Value, (execOp a.eval op).run P w = .ok (.enter fn vals) w ∧ vals.size = args.length ∧ ∀ k x, args[k]? = some x → ∀ k0, RepA m w (movH σ o) (argH args ins f) k0 x (vals.getD k undef)) :
    OpH P pins N op S (app S (zCg (σ ++ fr) outs ++ [(HK, .hp f'), (d, r')])) := by
  intro hN hlo
  unfold callB at hb
  simp only [Bool.and_eq_true] at hb
  obtain ⟨⟨⟨⟨b1, b2⟩, b5⟩, b6⟩, b7⟩ := hb
  have hnd := zGr b1
  have hj : ∀ j ∈ σ ++ fr, j + 1 < OB := fun j h => by have := List.all_eq_true.1 b2 j h; simpa using this
  have hj' : ∀ j ∈ σ ++ fr, j < OB := fun j h => by have := hj j h; omega
  have hlen : outs.length = (σ ++ fr).length := Nat.eq_of_beq_eq_true b6
  have hlO : outs.length ≤ OB := Nat.le_of_ble_eq_true b7
  have hσl : σ.length ≤ OB := by have : σ.length ≤ (σ ++ fr).length := by simp
                                 omega
  have hdO := yG hN hok
  have hd2 : d ≠ HK := by unfold HK; unfold OB at hdO; omega
  refine ⟨?_, ?_⟩
  · rw [zEv]
    show OpOK P pins N op (hx S) (hx (upd (upd (app S (zCg (σ ++ fr) outs)) HK (.hp f')) d r'))
    have hl1 : Low (app S (zCg (σ ++ fr) outs)) := zGJ hj hlo
    have he : hx (upd (upd (app S (zCg (σ ++ fr) outs)) HK (.hp f')) d r') = upd (upd (app (hpS (hx S) f') (zCg (σ ++ fr) outs)) d r') HK (.hp f') := by
      rw [zCM (lt2 hdO) hd2, zFQ hd2, app_hpS hj, ← hx_puts hj]
      congr 1
      funext t
      by_cases e : t = HK
      · subst e
        rw [zU]
        exact zB1 (zU _ _ _) (by simp)
      · rw [zI e]
        rcases Nat.lt_or_ge t OB2 with h | h
        · rw [zC9 h, zI e]
          unfold hpS
          rw [if_neg (by omega), zC9 h]
        · obtain ⟨k, rfl⟩ : ∃ k, t = OB2 + k := ⟨t - OB2, by omega⟩
          rw [zBO, zFv (hl1.upd zIq) (zU _ _ _), ← zBO]
          unfold hpS
          rw [if_pos (Nat.le_add_right _ _), Nat.add_sub_cancel_left]
    rw [he]
    refine OpOK.hkpost (f := f) ?_ ?_
    · intro w0 m0 o0 G a w m o hNa I K Q hK
      obtain ⟨h1, h2, h3⟩ := qF (yL hN hok)
      obtain ⟨vals, hrun, k1, k2⟩ := hrun w0 m0 o0 G a w m o I (List.nodup_append.1 hnd).1 hσl (fun j h => hj' j (List.mem_append_left _ h))
      have hfr : ∀ j ∈ fr, hx S (OB + j) = .free := fun j h => by
        have := List.all_eq_true.1 b5 j h
        have hm : M (OB + j) = .free := by
          revert this
          cases M (OB + j) <;> intro this <;> first | rfl | cases this
        rcases hM.hx (OB + j) with e | e
        · rw [e] at hm; cases hm
        · rw [← e]; exact hm
      have hc := call_heap I hf (fun c => zFv hlo hk c) hp hp' hnd hj' (by
        rw [← hin]
        refine List.map_congr_left fun j h => ?_
        exact zC9 (by have := hj' j (List.mem_append_left _ h); unfold OB OB2 at *; omega)) b3 b4 hfr hlen hlO hres (vals := vals) k1 k2 (Nat.le_of_ble_eq_true hle) (d := d) (by omega) h2 h3
      unfold Oper.wp
      rw [hrun]
      refine Calls.mono hc ?_
      rintro e w' ⟨u, m', o', rfl, J⟩
      rw [← hd] at J
      exact hK _ _ _ _ (by rw [zBp, hNa]) J
    · rw [zI (Ne.symm hd2), puts_hk hj]
      unfold hpS
      rw [if_neg (by unfold HK OB2; omega)]
      exact zB1 hk (by simp)
  · rw [zEv]
    exact ((zGJ hj hlo).upd zIq).upd (lt2 hdO)
theorem h_call (hM : Mk M S) (hk : S HK = .hp f) {fn : Nat} {xs : List Operand} {ts : Array TypeId} {fx : Operand} (hop : op.op = .call { callee := .value fx, args := xs.toArray, argTypes := ts }) (hfx : vO M fx = some (.func (.func fn) #[] #[])) (hd : op.dst = some d) (hok : okD N pins S d = true) {F : Func} (hfn : P.funcs[fn]? = some F) (hbody : F.body.isNone = false) (hname : (F.name == "runtime.NumGoroutine") = false)
  {args : List A} {ins outs : List A} {r r' : A} {σ fr : List Nat} (hf : FCH P fn args ins outs f f' r) (hp : zDy f) (hp' : zDy f') (hb : callB M σ fr outs = true) (b3 : ins.all A.flatO = true) (b4 : outs.all A.flatO = true) (hin : σ.map (fun j => S (OB + j)) = ins) (hargs : zFg σ (xs.map (cpO M)) args) (hle : Nat.ble args.length OB = true) (hres : ResH (σ ++ fr) r r') :
  OpH P pins N op S (app S (zCg (σ ++ fr) outs ++ [(HK, .hp f'), (d, r')])) := by
 refine h_callV hM hk hd hok hf hp hp' hb b3 b4 hin hle hres fun w0 m0 o0 G a w m o I hn hl hs => ?_
 obtain ⟨k1, k2⟩ := zFV hM.hx I hn hl hs (S' := argH args ins f) xs args hargs
 refine ⟨(xs.map a.eval).toArray, ?_, by simpa using k1, fun k x hk k0 => by simpa using k2 k x hk k0⟩
 unfold execOp
 rw [hop]
 simp only [resolve, zCG hM.hx I hfx, Deferred.ofValue, List.map_toArray]
 have hb : F.body ≠ none := fun e => by rw [e] at hbody; cases hbody
 have hn : F.name ≠ "runtime.NumGoroutine" := fun e => by rw [e] at hname; simp at hname
 simp [invoke, callFunc, hfn, hn, hb]
def CkE.a : CkE → A
 | .live c => .t (.hpt c 0)
 | .fz l => .imm l
abbrev ckA (cs : List CkE) : List A := cs.map CkE.a
theorem h_callC (hM : Mk M S) (hk : S HK = .hp f) {fn t : Nat} {cs : List CkE} {xs : List Operand} {ts : Array TypeId} (hop : op.op = .call { callee := .value (.tmp t), args := xs.toArray, argTypes := ts }) (hfx : cpO M (.tmp t) = .ck fn cs) (hd : op.dst = some d) (hok : okD N pins S d = true) (hfn : ∃ F, P.funcs[fn]? = some F ∧ F.body.isNone = false ∧ (F.name == "runtime.NumGoroutine") = false)
  {args : List A} {r r' : A} (hf : FCH P fn (args ++ ckA cs) [] [] f f' r) (hp : zDy f) (hp' : zDy f') (hargs : zFg [] (xs.map (cpO M)) args) (hle : Nat.ble (args ++ ckA cs).length OB = true) (hres : ResH [] r r') :
  OpH P pins N op S (app S [(HK, .hp f'), (d, r')]) := by
 obtain ⟨F, hfn, hbody, hname⟩ := hfn
 refine h_callV (σ := []) (fr := []) hM hk hd hok hf hp hp' rfl rfl rfl rfl hle hres fun w0 m0 o0 G a w m o I hn hl hs => ?_
 obtain ⟨k1, k2⟩ := zFV hM.hx I hn hl hs (S' := argH (args ++ ckA cs) [] f) xs args hargs
 have hc := yA hM.hx I (.tmp t) 0
 rw [hfx] at hc
 obtain ⟨ptrs, e, q1, q2⟩ := hc
 refine ⟨(xs.map a.eval).toArray ++ ptrs, ?_, ?_, fun k x hk k0 => ?_⟩
 ·
  unfold execOp
  rw [hop]
  simp only [resolve, e, Deferred.ofValue, List.map_toArray]
  have hb : F.body ≠ none := fun e => by rw [e] at hbody; cases hbody
  have hn : F.name ≠ "runtime.NumGoroutine" := fun e => by rw [e] at hname; simp at hname
  simp [invoke, callFunc, hfn, hn, hb]
 ·
  simp only [Array.size_append, List.size_toArray, List.length_map, List.length_append, q1]
  have : (xs.map a.eval).length = args.length := k1
  simp only [List.length_map] at this
  omega
 ·
  have hl1 : (xs.map a.eval).length = args.length := k1
  rcases Nat.lt_or_ge k args.length with h | h
  ·
   rw [List.getElem?_append_left h] at hk
   have := k2 k x hk k0
   rw [Array.getD_eq_getD_getElem?, Array.getElem?_append_left (by simp only [List.size_toArray]; omega)]
   rw [List.getD_eq_getElem?_getD] at this
   simpa using this
  ·
   rw [List.getElem?_append_right h, List.getElem?_map] at hk
   cases hc : cs[k - args.length]? with
   | none => rw [hc] at hk; cases hk
   | some c =>
    rw [hc] at hk
    injection hk with hk
    subst hk
    obtain ⟨v, q3, q4⟩ := q2 _ c hc
    have hv : ((xs.map a.eval).toArray ++ ptrs).getD k undef = v := by
     rw [Array.getD_eq_getD_getElem?, Array.getElem?_append_right (by simp only [List.size_toArray]; omega)]
     simp only [List.size_toArray, hl1, q3]
     rfl
    rw [hv]
    cases c with
    | live c => obtain ⟨g, b1, b2⟩ := q4; exact ⟨g, (zDp hn hl hs).2 (.inl ⟨_, rfl, b2⟩), b1⟩
    | fz l => exact q4
def ckF (M : Nat → A) : List Operand → Option (List CkE)
 | [] => some []
 | x :: r => match cpO M x, ckF M r with
  | .t (.hpt c 0), some k => some (.live c :: k)
  | .imm l, some k => some (.fz l :: k)
  | _, _ => none
theorem zHS {w0 : World} {m0 : Mem} {o0 : OwnM} {G : GD} {a : Act} {w : World} {m : Mem} {o : OwnM} (hM : Mk M S) (I : Inv w0 m0 o0 G pins S a w m o) : ∀ {xs : List Operand} {cs : List CkE}, ckF M xs = some cs → xs.length = cs.length ∧ ∀ (i : Nat) (c : CkE), cs[i]? = some c → ∃ v, (xs.map a.eval)[i]? = some v ∧ RepC m o c v
 | [], cs, h => by injection h with h; subst h; exact ⟨rfl, fun i c h => by simp at h⟩
 | x :: r, cs, h => by
  unfold ckF at h
  have hr := yA hM I x 0
  split at h
  case h_3 => cases h
  ·
   rename_i c k h1 h2
   injection h with h
   subst h
   obtain ⟨k1, k2⟩ := zHS hM I h2
   refine ⟨by simp [k1], fun i c' hi => ?_⟩
   cases i with
   | zero =>
    injection hi with hi
    subst hi
    rw [h1] at hr
    obtain ⟨g, q1, q2⟩ := hr
    exact ⟨_, rfl, g, q2, q1⟩
   | succ i => simpa using k2 i c' (by simpa using hi)
  ·
   rename_i l k h1 h2
   injection h with h
   subst h
   obtain ⟨k1, k2⟩ := zHS hM I h2
   refine ⟨by simp [k1], fun i c' hi => ?_⟩
   cases i with
   | zero =>
    injection hi with hi
    subst hi
    rw [h1] at hr
    exact ⟨_, rfl, hr⟩
   | succ i => simpa using k2 i c' (by simpa using hi)
theorem h_mfK {fn : Nat} (hM : Mk M S) {xs : List Operand} {cs : List CkE} (hop : op.op = .makeFunc (.func fn) #[] xs.toArray) (hd : op.dst = some d) (hok : okD N pins S d = true) (hc : ckF M xs = some cs) : OpH P pins N op S (app S [(d, .ck fn cs)]) :=
 .of (e := [(d, .ck fn cs)]) fun hNO => ⟨by
  refine zP fun w0 m0 o0 G a w m o hN I => ?_
  obtain ⟨k1, k2, k3⟩ := qF (yL hNO hok)
  obtain ⟨c1, c2⟩ := zHS hM.hx I hc
  refine ⟨.func (.func fn) #[] (xs.map a.eval).toArray, w, m, o, ?_, by rw [hd]; exact I.set d _ _ (by omega) k2 ⟨_, rfl, by simpa using c1, fun i c hi => let ⟨v, h1, h2⟩ := c2 i c hi; ⟨v, by simpa using h1, h2⟩⟩⟩
  unfold execOp
  rw [hop]
  simp [Instr.makeFunc], zB0 (yG hNO hok)⟩
end
end Go.Proofs.YtmgafkpkpmjieaaDoor
