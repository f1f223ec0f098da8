/-
  Structs built with addresses in them; local objects that become the heap's; objects of the heap that nobody knows any more.
-/
import Derived.Test.YtimdogdplphmoaaDoorHp
namespace Go.Proofs.YtimdogdplphmoaaDoor
open Go Go.RowKit
set_option linter.unusedVariables false

/-! ### Built -/
def fillT (M : Nat → A) (place : Nat → Option (Nat × Nat)) : List T → List (Nat × Operand) → Option (List T)
  | ts, [] => some ts
  | ts, (i, x) :: r => match place i, cellsP (cpO M x) with
    | some (off, size), some c => if c.length = size ∧ off + size ≤ ts.length then fillT M place (splice ts off c) r else none
    | _, _ => none
def bdT (P : Program) (M : Nat → A) (t : TypeId) (parts : List (Nat × Operand)) : Option (List T) := match P.info? t with
  | some it => match it.zero, placeOf P t with
    | some z, some place => match z with
      | .agg cs => if cs.toList.all (·.oneCell') then fillT M place (cs.toList.map fun v => .d (.lit v)) parts else none
      | _ => none
    | _, _ => none
  | none => none
section
variable {w0 : World} {m0 : Mem} {o0 : OwnM} {G : Nat → Prop} {pins : List Nat} {S M : Nat → A} {a : Act} {w : World} {m : Mem} {o : OwnM} {P : Program} {N : Nat} {f : Nat → A}
def RepTs (m : Mem) (w : World) (o : OwnM) (ts : List T) (vs : List Value) : Prop := vs.length = ts.length ∧ ∀ (j : Nat) (x : T), ts[j]? = some x → ∃ u, vs[j]? = some u ∧ u.oneCell' = true ∧ ∀ loc, RepT m w o loc x u
theorem cellsP_reps {s : Nat} {y : A} {v : Value} {l : List T} (hl : cellsP y = some l) (hy : RepA m w o S s y v) : RepTs m w o l v.cells.toList := by
  obtain ⟨k1, k2, k3⟩ := cellsP_rep hl hy
  refine ⟨k1, fun j x hj => ?_⟩
  obtain ⟨_, u, h1, h2⟩ := k3 j x hj
  exact ⟨u, h1, k2 u (List.mem_of_getElem? h1), fun loc => h2 w loc (ShpAt.refl w)⟩
theorem fillT_rep (hM : Mk M S) (I : Inv w0 m0 o0 G pins S a w m o) {place : Nat → Option (Nat × Nat)} : ∀ (parts : List (Nat × Operand)) (ds ds' : List T) (cells : Array Value), fillT M place ds parts = some ds' → RepTs m w o ds cells.toList →
    ∃ cells', Instr.fill place cells (parts.map fun x => (x.1, a.eval x.2)) = some cells' ∧ RepTs m w o ds' cells'.toList
  | [], ds, ds', cells, h, hr => by injection h with h; subst h; exact ⟨cells, rfl, hr⟩
  | (i, x) :: r, ds, ds', cells, h, hr => by
    unfold fillT at h
    split at h
    · rename_i off size c hp hc
      split at h
      · rename_i hsz
        have hx := cellsP_reps hc (cpO_rep hM I x 0)
        have hvl : (a.eval x).cells.size = size := by have := hx.1; simp at this; omega
        have hcl : ds.length = cells.size := by have := hr.1; simpa using this.symm
        obtain ⟨g1, g2⟩ := Great.foldl_set off (a.eval x).cells.toList 0 cells
        have hr2 : RepTs m w o (splice ds off c) (((a.eval x).cells.toList.zipIdx 0).foldl (fun cs (x : Value × Nat) => cs.setIfInBounds (off + x.2) x.1) cells).toList := by
          refine ⟨by simp only [Array.length_toList]; rw [g1, splice_length _ _ _ (by omega), hcl], fun j d hj => ?_⟩
          rw [splice_get _ _ _ (by omega)] at hj
          rw [Array.getElem?_toList, g2 j]
          simp only [Nat.add_zero, Array.length_toList, hvl]
          split at hj
          · rename_i hjo
            rw [if_pos (by omega)]
            exact hx.2 _ d hj
          · rename_i hjo
            rw [if_neg (by omega)]
            have := hr.2 j d hj
            simpa using this
        obtain ⟨cells', h1, h2⟩ := fillT_rep hM I r _ ds' _ h hr2
        refine ⟨cells', ?_, h2⟩
        rw [List.map_cons]
        unfold Instr.fill
        simp only [hp, hvl]
        rw [if_neg (by simp; omega), ← h1]
        congr 1
        rw [← Array.foldl_toList, Array.toList_zipIdx]
      · cases h
    · cases h
theorem bdT_run (hM : Mk M S) (I : Inv w0 m0 o0 G pins S a w m o) {t : TypeId} {parts : List (Nat × Operand)} {ds' : List T} (h : bdT P M t parts = some ds') (s : Nat) : ∃ v, (Instr.build t (parts.map fun x => (x.1, a.eval x.2)).toArray).run P w = .ok v w ∧ RepA m w o S s (.ag ds') v := by
  unfold bdT at h
  split at h
  case h_2 => cases h
  rename_i it hit
  split at h
  case h_2 => cases h
  rename_i z place hz hp
  split at h
  case h_2 => cases h
  rename_i cs
  split at h
  case isFalse => cases h
  rename_i hall
  have hr0 : RepTs m w o (cs.toList.map fun v => .d (.lit v)) cs.toList := by
    refine ⟨by simp, fun j d hj => ?_⟩
    rw [List.getElem?_map] at hj
    cases hu : cs.toList[j]? with
    | none => rw [hu] at hj; cases hj
    | some u =>
      rw [hu] at hj
      injection hj with hj
      subst hj
      have h1 := List.all_eq_true.1 hall u (List.mem_of_getElem? hu)
      exact ⟨u, rfl, h1, fun _ => .lit u h1⟩
  obtain ⟨cells', h1, h2⟩ := fillT_rep hM I parts _ ds' cs h hr0
  refine ⟨.agg cells', run_build w t _ cells' ?_, cells', rfl, by simpa using h2.1, fun j x hj => ?_⟩
  · unfold Program.built
    unfold placeOf at hp
    split at hp
    · rename_i fields hu
      rw [hit, hu]
      simp only [hz]
      cases hq : fields.toList.mapM (fun f => (P.info? f.type).map fun i => (f.offset, i.size)) with
      | none => rw [hq] at hp; cases hp
      | some places =>
        rw [hq] at hp
        injection hp with hp
        subst hp
        simp only [Value.cells]
        rw [← h1]
        congr 1
        funext k
        simp
    · rename_i n e hu
      rw [hit, hu]
      simp only [hz]
      cases hq : P.info? e with
      | none => rw [hq] at hp; cases hp
      | some ie =>
        rw [hq] at hp
        injection hp with hp
        subst hp
        exact h1
    · cases hp
  · obtain ⟨u, k1, k2, k3⟩ := h2.2 j x hj
    exact ⟨u, by simpa using k1, k2, k3 _⟩
theorem ok_buildT (hM : Mk M S) {op : Oper} {d t : Nat} {parts : List (Nat × Operand)} (hop : op.op = .build t parts.toArray) (hd : op.dst = some d) (hok : okD N pins S d = true) {l : List T} (h : bdT P M t parts = some l) : OpOK P pins N op S (upd S d (.ag l)) := by
  refine ok_of_run fun w0 m0 o0 G a w m o hN I => ?_
  obtain ⟨h1, h2, h3⟩ := okD_iff hok
  obtain ⟨v, hv, hr⟩ := bdT_run hM I h d
  refine ⟨v, w, m, o, ?_, by rw [hd]; exact I.set d _ v (by omega) h2 hr⟩
  unfold execOp
  rw [hop]
  simp only [List.map_toArray, Sem.run_bind]
  rw [hv]
  rfl

/-! ### A local object becomes the heap's -/
def rnT (j c : Nat) : T → T
  | .ptr i off => bif Nat.beq i j then .hpt c off else .ptr i off
  | .view i off E k n => bif Nat.beq i j then .hvw c off E k n else .view i off E k n
  | .mpt i => bif Nat.blt i OB && Nat.beq i j then .mpt (OB + c) else .mpt i
  | x => x
def rnA (j c : Nat) : A → A
  | .t x => .t (rnT j c x)
  | .tup l => .tup (l.map (rnT j c))
  | .box l => .box (l.map (rnT j c))
  | .ag l => .ag (l.map (rnT j c))
  | .ref b off => bif Nat.beq b (OB + j) then .t (.hpt c off) else .ref b off
  | x => x
theorem beq_iff (i j : Nat) : Nat.beq i j = decide (i = j) := by
  by_cases h : i = j
  · subst h; simp
  · cases hb : Nat.beq i j with
    | true => exact absurd (Nat.eq_of_beq_eq_true hb) h
    | false => simp [h]
def rnO (j c : Nat) (o : OwnM) : OwnM := fun g => match o g with
  | some (s, k) => if s = OB + j then some (OB + (OB + c), k) else some (s, k)
  | none => none
theorem rnO_iff {j c : Nat} {g : Nat} {l : Nat × Nat} (hfree : ∀ g k, o g ≠ some (OB + (OB + c), k)) : rnO j c o g = some l ↔ (l.1 = OB + (OB + c) ∧ o g = some (OB + j, l.2)) ∨ (l.1 ≠ OB + j ∧ l.1 ≠ OB + (OB + c) ∧ o g = some l) := by
  obtain ⟨s, k⟩ := l
  unfold rnO
  constructor
  · intro h
    split at h
    · rename_i s' k' hg
      split at h
      · rename_i e
        injection h with h
        injection h with h1 h2
        subst e h1 h2
        exact .inl ⟨rfl, hg⟩
      · rename_i e
        injection h with h
        injection h with h1 h2
        subst h1 h2
        exact .inr ⟨e, fun e2 => hfree g k' (by rw [hg, ← e2]), hg⟩
    · cases h
  · rintro (⟨h1, h2⟩ | ⟨h1, _, h2⟩)
    · have h1 : s = OB + (OB + c) := h1
      rw [h2]
      simp [h1]
    · rw [h2]
      simp only
      rw [if_neg h1]
theorem rnT_rep {j c : Nat} (hj : j < OB) {loc loc' : Nat × Nat} (hl : ∀ g, o g = some loc → rnO j c o g = some loc') {x : T} {v : Value} (h : RepT m w o loc x v) : RepT m w (rnO j c o) loc' (rnT j c x) v := by
  have other : ∀ g s, s ≠ OB + j → o g = some (s, 0) → rnO j c o g = some (s, 0) := fun g s hs h => by unfold rnO; rw [h]; simp only; rw [if_neg hs]
  have same : ∀ g, o g = some (OB + j, 0) → rnO j c o g = some (OB + (OB + c), 0) := fun g h => by unfold rnO; rw [h]; simp
  cases x with
  | d x => exact h
  | agg l => exact h
  | own E k l =>
    obtain ⟨A', cap, xs, e, h1, h2, h3, h4⟩ := h
    exact ⟨A', cap, xs, e, h1, fun g hg => ⟨hl g (h2 g hg).1, (h2 g hg).2⟩, h3, h4⟩
  | ptr i off =>
    show RepT m w (rnO j c o) loc' (bif Nat.beq i j then .hpt c off else .ptr i off) v
    rw [beq_iff]
    obtain ⟨g, h1, h2⟩ := h
    by_cases e : i = j
    · subst e
      simp only [decide_true, cond_true]
      exact ⟨g, same g h1, h2⟩
    · simp only [e, decide_false, cond_false]
      exact ⟨g, other g _ (by omega) h1, h2⟩
  | view i off E k n =>
    show RepT m w (rnO j c o) loc' (bif Nat.beq i j then .hvw c off E k n else .view i off E k n) v
    rw [beq_iff]
    obtain ⟨A', q, h1, h2, h3, h4⟩ := h
    by_cases e : i = j
    · subst e
      simp only [decide_true, cond_true]
      exact ⟨A', q, h1, h2, h3, h4.imp id fun ⟨g, cs, k1, k2⟩ => ⟨g, cs, same g k1, k2⟩⟩
    · simp only [e, decide_false, cond_false]
      exact ⟨A', q, h1, h2, h3, h4.imp id fun ⟨g, cs, k1, k2⟩ => ⟨g, cs, other g _ (by omega) k1, k2⟩⟩
  | hpt i off => obtain ⟨g, h1, h2⟩ := h; exact ⟨g, other g _ (by omega) h1, h2⟩
  | mpt i =>
    show RepT m w (rnO j c o) loc' (bif Nat.blt i OB && Nat.beq i j then .mpt (OB + c) else .mpt i) v
    rw [beq_iff]
    obtain ⟨g, h1, h2⟩ := h
    by_cases e : i = j
    · subst e
      rw [show Nat.blt i OB = true by simpa using hj]
      simp only [decide_true, Bool.and_self, cond_true]
      exact ⟨g, same g h1, h2⟩
    · simp only [e, decide_false, Bool.and_false, cond_false]
      exact ⟨g, other g _ (by omega) h1, h2⟩
  | hvw i off E k n =>
    obtain ⟨A', q, h1, h2, h3, h4⟩ := h
    exact ⟨A', q, h1, h2, h3, h4.imp id fun ⟨g, cs, k1, k2⟩ => ⟨g, cs, other g _ (by omega) k1, k2⟩⟩
theorem rnT_agg {j c : Nat} {x : T} : (rnT j c x).isAgg = x.isAgg := by
  cases x with
  | ptr i off => show (bif Nat.beq i j then T.hpt c off else .ptr i off).isAgg = _; cases Nat.beq i j <;> rfl
  | view i off E k n => show (bif Nat.beq i j then T.hvw c off E k n else .view i off E k n).isAgg = _; cases Nat.beq i j <;> rfl
  | mpt i => show (bif Nat.blt i OB && Nat.beq i j then T.mpt (OB + c) else .mpt i).isAgg = _; cases (Nat.blt i OB && Nat.beq i j) <;> rfl
  | _ => rfl
theorem rnT_flat {j c : Nat} {l : List T} (h : noPt l = true) : l.map (rnT j c) = l := by
  conv => rhs; rw [← List.map_id l]
  refine List.map_congr_left fun x hx => ?_
  have := List.all_eq_true.1 h x hx
  cases x <;> first | rfl | cases this
theorem Inv.pub (I : Inv w0 m0 o0 G pins S a w m o) {j c : Nat} {la : List T} (hj : j < OB) (hjp : OB + j ∉ pins) (hfree : S (OB + (OB + c)) = .free) (hb : S (OB + j) = .box la) (hfl : noPt la = true) {S' : Nat → A}
    (h1 : S' (OB + j) = .free) (h2 : S' (OB + (OB + c)) = .box la) (h3 : ∀ t, t ≠ OB + j → t ≠ OB + (OB + c) → S' t = rnA j c (S t)) : ∃ o', Inv w0 m0 o0 G pins S' a w m o' := by
  have hf : ∀ g k, o g ≠ some (OB + (OB + c), k) := by have := I.slots (OB + (OB + c)); rw [hfree] at this; exact this
  have iff := fun g l => rnO_iff (o := o) (j := j) (c := c) (g := g) (l := l) hf
  have hpin : ∀ g, o0 g ≠ some (OB + j, 0) := fun g h => (I.shps g j h).1.elim hjp fun h => by unfold OB at *; unfold OB2 at h; omega
  have keep : ∀ g l, l.1 ≠ OB + j → o g = some l → rnO j c o g = some l := fun g l hl h => (iff g l).2 (.inr ⟨hl, fun e => hf g l.2 (by rw [h, ← e]), h⟩)
  refine ⟨rnO j c o, I.same, I.sat, I.mono, I.old, fun g l h => ?_, fun g l h => ?_, fun g g' l h h' => ?_, fun s hs g hg => ?_, fun t => ?_, I.defers, I.tbl, I.wide, I.shps⟩
  · rcases (iff g l).1 h with ⟨_, h⟩ | ⟨_, _, h⟩ <;> exact I.own g _ h
  · rcases (iff g l).1 h with ⟨_, h⟩ | ⟨_, _, h⟩ <;> exact I.lt g _ h
  · rcases (iff g l).1 h with ⟨e1, h⟩ | ⟨_, e1, h⟩ <;> rcases (iff g' l).1 h' with ⟨e2, h'⟩ | ⟨_, e2, h'⟩
    · exact I.inj g g' _ h h'
    · exact absurd e1 e2
    · exact absurd e2 e1
    · exact I.inj g g' _ h h'
  · have := I.pinned s hs g hg
    exact keep g _ (fun e => hpin g (by have e : s = OB + j := e; rw [← e]; exact hg)) this
  · by_cases e1 : t = OB + j
    · subst e1
      rw [h1]
      intro g k h
      rcases (iff g _).1 h with ⟨e, _⟩ | ⟨e, _⟩
      · have e : OB + j = OB + (OB + c) := e; omega
      · exact e rfl
    · by_cases e2 : t = OB + (OB + c)
      · subst e2
        rw [h2]
        have hs := I.slots (OB + j)
        rw [hb] at hs
        obtain ⟨g, _, k1, k2, cs, E, k3, k4, k5⟩ := hs
        refine ⟨g, fun h => absurd h (by omega), (iff g _).2 (.inl ⟨rfl, k1⟩), k2, cs, E, k3, k4, fun q x hq => ?_⟩
        obtain ⟨q1, u, q2, q3⟩ := k5 q x hq
        refine ⟨q1, u, q2, ?_⟩
        have := rnT_rep (c := c) hj (loc' := (OB + (OB + c), q + 1)) (fun g hg => (iff g _).2 (.inl ⟨rfl, hg⟩)) q3
        have hx : rnT j c x = x := by
          have := List.all_eq_true.1 hfl x (List.mem_of_getElem? hq)
          cases x <;> first | rfl | cases this
        rw [hx] at this
        exact this
      · rw [h3 t e1 e2]
        have hloc : ∀ k g, o g = some (t, k) → rnO j c o g = some (t, k) := fun k g h => keep g _ e1 h
        have hs := I.slots t
        have hbox : ∀ b l, b < OB → S b = .box l → ∃ l', S' b = .box l' := fun b l hb h => ⟨_, by rw [h3 b (by omega) (by omega), h]; rfl⟩
        revert hs
        generalize a.tmps.getD t undef = v
        cases S t with
        | t x => exact fun hs => rnT_rep hj (hloc 0) hs
        | tup l =>
          rintro ⟨vs, e, q1, q2⟩
          refine ⟨vs, e, by simpa using q1, fun q x hq => ?_⟩
          rw [List.getElem?_map] at hq
          cases hu : l[q]? with
          | none => rw [hu] at hq; cases hq
          | some z =>
            rw [hu] at hq
            injection hq with hq
            subst hq
            obtain ⟨u, q3, q4⟩ := q2 q z hu
            exact ⟨u, q3, rnT_rep hj (hloc _) q4⟩
        | ag l =>
          rintro ⟨vs, e, q1, q2⟩
          refine ⟨vs, e, by simpa using q1, fun q x hq => ?_⟩
          rw [List.getElem?_map] at hq
          cases hu : l[q]? with
          | none => rw [hu] at hq; cases hq
          | some z =>
            rw [hu] at hq
            injection hq with hq
            subst hq
            obtain ⟨u, q3, q5, q4⟩ := q2 q z hu
            exact ⟨u, q3, q5, rnT_rep hj (hloc _) q4⟩
        | imm l => exact id
        | box l =>
          rintro ⟨g, e, k1, k2, cs, E, k3, k4, k5⟩
          refine ⟨g, e, hloc 0 g k1, k2, cs, E, k3, by simpa using k4, fun q x hq => ?_⟩
          rw [List.getElem?_map] at hq
          cases hu : l[q]? with
          | none => rw [hu] at hq; cases hq
          | some z =>
            rw [hu] at hq
            injection hq with hq
            subst hq
            obtain ⟨q5, u, q3, q4⟩ := k5 q z hu
            exact ⟨by rw [rnT_agg]; exact q5, u, q3, rnT_rep hj (hloc _) q4⟩
        | ref b off =>
          rintro ⟨g, k1, k2, k3⟩
          show RepA m w (rnO j c o) S' t (bif Nat.beq b (OB + j) then .t (.hpt c off) else .ref b off) v
          rw [beq_iff]
          by_cases e : b = OB + j
          · subst e
            simp only [decide_true, cond_true]
            exact ⟨g, (iff g _).2 (.inl ⟨rfl, k1⟩), k2⟩
          · simp only [e, decide_false, cond_false]
            exact ⟨g, keep g _ e k1, k2, fun hb => let ⟨l, hl⟩ := k3 hb; hbox b l hb hl⟩
        | free =>
          intro hs g k h
          rcases (iff g _).1 h with ⟨e, _⟩ | ⟨_, _, h⟩
          · exact e2 e
          · exact hs g k h
        | hp f => exact id
        | mp l => rintro ⟨g, k1, k2⟩; exact ⟨g, hloc 0 g k1, k2⟩
        | any => exact id

/-! ### An object of the heap that nobody knows -/
def nmT (c : Nat) : T → Prop
  | .hpt c' _ | .hvw c' _ _ _ _ => c' ≠ c
  | .mpt i => i ≠ OB + c
  | _ => True
def nmA (c : Nat) : A → Prop
  | .t x => nmT c x
  | .tup l | .box l | .ag l => ∀ x ∈ l, nmT c x
  | .ref b _ => b ≠ OB + (OB + c)
  | _ => True
def drO (c : Nat) (o : OwnM) : OwnM := fun g => if (o g).map (·.1) = some (OB + (OB + c)) then none else o g
theorem drO_iff {c g : Nat} {l : Nat × Nat} : drO c o g = some l ↔ l.1 ≠ OB + (OB + c) ∧ o g = some l := by
  unfold drO
  constructor
  · intro h
    split at h
    · cases h
    · rename_i hn
      exact ⟨fun e => hn (by rw [h, ← e]; rfl), h⟩
  · rintro ⟨h1, h2⟩
    rw [h2, if_neg (by simpa using h1)]
theorem nmT_rep {c : Nat} {loc : Nat × Nat} (hl : loc.1 ≠ OB + (OB + c)) {x : T} (hx : nmT c x) {v : Value} (h : RepT m w o loc x v) (hp : ∀ i off, x = .ptr i off → OB + i ≠ OB + (OB + c)) (hv : ∀ i off E k n, x = .view i off E k n → OB + i ≠ OB + (OB + c)) : RepT m w (drO c o) loc x v := by
  cases x with
  | d x => exact h
  | agg l => exact h
  | own E k l =>
    obtain ⟨A', cap, xs, e, h1, h2, h3, h4⟩ := h
    exact ⟨A', cap, xs, e, h1, fun g hg => ⟨drO_iff.2 ⟨hl, (h2 g hg).1⟩, (h2 g hg).2⟩, h3, h4⟩
  | ptr i off => obtain ⟨g, h1, h2⟩ := h; exact ⟨g, drO_iff.2 ⟨hp i off rfl, h1⟩, h2⟩
  | view i off E k n =>
    obtain ⟨A', q, h1, h2, h3, h4⟩ := h
    exact ⟨A', q, h1, h2, h3, h4.imp id fun ⟨g, cs, k1, k2⟩ => ⟨g, cs, drO_iff.2 ⟨hv _ _ _ _ _ rfl, k1⟩, k2⟩⟩
  | hpt i off =>
    have hx : i ≠ c := hx
    obtain ⟨g, h1, h2⟩ := h
    exact ⟨g, drO_iff.2 ⟨by show OB + (OB + i) ≠ _; omega, h1⟩, h2⟩
  | mpt i =>
    have hx : i ≠ OB + c := hx
    obtain ⟨g, h1, h2⟩ := h
    exact ⟨g, drO_iff.2 ⟨by show OB + i ≠ _; omega, h1⟩, h2⟩
  | hvw i off E k n =>
    have hx : i ≠ c := hx
    obtain ⟨A', q, h1, h2, h3, h4⟩ := h
    exact ⟨A', q, h1, h2, h3, h4.imp id fun ⟨g, cs, k1, k2⟩ => ⟨g, cs, drO_iff.2 ⟨by show OB + (OB + i) ≠ _; omega, k1⟩, k2⟩⟩
end
end Go.Proofs.YtimdogdplphmoaaDoor
