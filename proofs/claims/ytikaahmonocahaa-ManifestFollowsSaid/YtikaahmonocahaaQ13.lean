/-
  Texts joined: see the remark at the head of each part.
-/
import Derived.Test.YtikaahmonocahaaQ12
/-
  Structs built with addresses in them; local objects that become the heap's; objects of the heap that nobody knows any more.
-/
namespace Go.Proofs.Ytikaahmonocahaa
open Go Go.RowKit
set_option linter.unusedVariables false

/-! ### Built -/
def fillT (M : Nat → A) (place : Nat → Option (Nat × Nat)) : List T → List (Nat × Operand) → Option (List T)
  | ts, [] => some ts
  | ts, (i, x) :: r => match place i, cellsP (cpO M x) with
    | some (off, size), some c => if c.length = size ∧ off + size ≤ ts.length then fillT M place (splice ts off c) r else none
    | _, _ => none
def bdT (P : Program) (M : Nat → A) (t : TypeId) (parts : List (Nat × Operand)) : Option (List T) := match P.info? t with
  | some it => match it.zero, placeOf P t with
    | some z, some place => match z with
      | .agg cs => if cs.toList.all (·.oneCell') then fillT M place (cs.toList.map fun v => .d (.lit v)) parts else none
      | _ => none
    | _, _ => none
  | none => none
section
variable {w0 : World} {m0 : Mem} {o0 : OwnM} {G : Nat → Prop} {pins : List Nat} {S M : Nat → A} {a : Act} {w : World} {m : Mem} {o : OwnM} {P : Program} {N : Nat} {f : Nat → A}
def RepTs (m : Mem) (w : World) (o : OwnM) (ts : List T) (vs : List Value) : Prop := vs.length = ts.length ∧ ∀ (j : Nat) (x : T), ts[j]? = some x → ∃ u, vs[j]? = some u ∧ u.oneCell' = true ∧ ∀ loc, RepT m w o loc x u
theorem cellsP_reps {s : Nat} {y : A} {v : Value} {l : List T} (hl : cellsP y = some l) (hy : RepA m w o S s y v) : RepTs m w o l v.cells.toList := by
  obtain ⟨k1, k2, k3⟩ := cellsP_rep hl hy
  refine ⟨k1, fun j x hj => ?_⟩
  obtain ⟨_, u, h1, h2⟩ := k3 j x hj
  exact ⟨u, h1, k2 u (List.mem_of_getElem? h1), fun loc => h2 w loc (ShpAt.refl w)⟩
theorem fillT_rep (hM : Mk M S) (I : Inv w0 m0 o0 G pins S a w m o) {place : Nat → Option (Nat × Nat)} : ∀ (parts : List (Nat × Operand)) (ds ds' : List T) (cells : Array Value), fillT M place ds parts = some ds' → RepTs m w o ds cells.toList →
    ∃ cells', Instr.fill place cells (parts.map fun x => (x.1, a.eval x.2)) = some cells' ∧ RepTs m w o ds' cells'.toList
  | [], ds, ds', cells, h, hr => by injection h with h; subst h; exact ⟨cells, rfl, hr⟩
  | (i, x) :: r, ds, ds', cells, h, hr => by
    unfold fillT at h
    split at h
    · rename_i off size c hp hc
      split at h
      · rename_i hsz
        have hx := cellsP_reps hc (cpO_rep hM I x 0)
        have hvl : (a.eval x).cells.size = size := by have := hx.1; simp at this; omega
        have hcl : ds.length = cells.size := by have := hr.1; simpa using this.symm
        obtain ⟨g1, g2⟩ := Great.foldl_set off (a.eval x).cells.toList 0 cells
        have hr2 : RepTs m w o (splice ds off c) (((a.eval x).cells.toList.zipIdx 0).foldl (fun cs (x : Value × Nat) => cs.setIfInBounds (off + x.2) x.1) cells).toList := by
          refine ⟨by simp only [Array.length_toList]; rw [g1, splice_length _ _ _ (by omega), hcl], fun j d hj => ?_⟩
          rw [splice_get _ _ _ (by omega)] at hj
          rw [Array.getElem?_toList, g2 j]
          simp only [Nat.add_zero, Array.length_toList, hvl]
          split at hj
          · rename_i hjo
            rw [if_pos (by omega)]
            exact hx.2 _ d hj
          · rename_i hjo
            rw [if_neg (by omega)]
            have := hr.2 j d hj
            simpa using this
        obtain ⟨cells', h1, h2⟩ := fillT_rep hM I r _ ds' _ h hr2
        refine ⟨cells', ?_, h2⟩
        rw [List.map_cons]
        unfold Instr.fill
        simp only [hp, hvl]
        rw [if_neg (by simp; omega), ← h1]
        congr 1
        rw [← Array.foldl_toList, Array.toList_zipIdx]
      · cases h
    · cases h
theorem bdT_run (hM : Mk M S) (I : Inv w0 m0 o0 G pins S a w m o) {t : TypeId} {parts : List (Nat × Operand)} {ds' : List T} (h : bdT P M t parts = some ds') (s : Nat) : ∃ v, (Instr.build t (parts.map fun x => (x.1, a.eval x.2)).toArray).run P w = .ok v w ∧ RepA m w o S s (.ag ds') v := by
  unfold bdT at h
  split at h
  case h_2 => cases h
  rename_i it hit
  split at h
  case h_2 => cases h
  rename_i z place hz hp
  split at h
  case h_2 => cases h
  rename_i cs
  split at h
  case isFalse => cases h
  rename_i hall
  have hr0 : RepTs m w o (cs.toList.map fun v => .d (.lit v)) cs.toList := by
    refine ⟨by simp, fun j d hj => ?_⟩
    rw [List.getElem?_map] at hj
    cases hu : cs.toList[j]? with
    | none => rw [hu] at hj; cases hj
    | some u =>
      rw [hu] at hj
      injection hj with hj
      subst hj
      have h1 := List.all_eq_true.1 hall u (List.mem_of_getElem? hu)
      exact ⟨u, rfl, h1, fun _ => .lit u h1⟩
  obtain ⟨cells', h1, h2⟩ := fillT_rep hM I parts _ ds' cs h hr0
  refine ⟨.agg cells', run_build w t _ cells' ?_, cells', rfl, by simpa using h2.1, fun j x hj => ?_⟩
  · unfold Program.built
    unfold placeOf at hp
    split at hp
    · rename_i fields hu
      rw [hit, hu]
      simp only [hz]
      cases hq : fields.toList.mapM (fun f => (P.info? f.type).map fun i => (f.offset, i.size)) with
      | none => rw [hq] at hp; cases hp
      | some places =>
        rw [hq] at hp
        injection hp with hp
        subst hp
        simp only [Value.cells]
        rw [← h1]
        congr 1
        funext k
        simp
    · rename_i n e hu
      rw [hit, hu]
      simp only [hz]
      cases hq : P.info? e with
      | none => rw [hq] at hp; cases hp
      | some ie =>
        rw [hq] at hp
        injection hp with hp
        subst hp
        exact h1
    · cases hp
  · obtain ⟨u, k1, k2, k3⟩ := h2.2 j x hj
    exact ⟨u, by simpa using k1, k2, k3 _⟩
theorem ok_buildT (hM : Mk M S) {op : Oper} {d t : Nat} {parts : List (Nat × Operand)} (hop : op.op = .build t parts.toArray) (hd : op.dst = some d) (hok : okD N pins S d = true) {l : List T} (h : bdT P M t parts = some l) : OpOK P pins N op S (upd S d (.ag l)) := by
  refine ok_of_run fun w0 m0 o0 G a w m o hN I => ?_
  obtain ⟨h1, h2, h3⟩ := okD_iff hok
  obtain ⟨v, hv, hr⟩ := bdT_run hM I h d
  refine ⟨v, w, m, o, ?_, by rw [hd]; exact I.set d _ v (by omega) h2 hr⟩
  unfold execOp
  rw [hop]
  simp only [List.map_toArray, Sem.run_bind]
  rw [hv]
  rfl

/-! ### A local object becomes the heap's -/
def rnT (j c : Nat) : T → T
  | .ptr i off => bif Nat.beq i j then .hpt c off else .ptr i off
  | .view i off E k n => bif Nat.beq i j then .hvw c off E k n else .view i off E k n
  | .mpt i => bif Nat.blt i OB && Nat.beq i j then .mpt (OB + c) else .mpt i
  | x => x
def rnA (j c : Nat) : A → A
  | .t x => .t (rnT j c x)
  | .tup l => .tup (l.map (rnT j c))
  | .box l => .box (l.map (rnT j c))
  | .ag l => .ag (l.map (rnT j c))
  | .ref b off => bif Nat.beq b (OB + j) then .t (.hpt c off) else .ref b off
  | x => x
theorem beq_iff (i j : Nat) : Nat.beq i j = decide (i = j) := by
  by_cases h : i = j
  · subst h; simp
  · cases hb : Nat.beq i j with
    | true => exact absurd (Nat.eq_of_beq_eq_true hb) h
    | false => simp [h]
def rnO (j c : Nat) (o : OwnM) : OwnM := fun g => match o g with
  | some (s, k) => if s = OB + j then some (OB + (OB + c), k) else some (s, k)
  | none => none
theorem rnO_iff {j c : Nat} {g : Nat} {l : Nat × Nat} (hfree : ∀ g k, o g ≠ some (OB + (OB + c), k)) : rnO j c o g = some l ↔ (l.1 = OB + (OB + c) ∧ o g = some (OB + j, l.2)) ∨ (l.1 ≠ OB + j ∧ l.1 ≠ OB + (OB + c) ∧ o g = some l) := by
  obtain ⟨s, k⟩ := l
  unfold rnO
  constructor
  · intro h
    split at h
    · rename_i s' k' hg
      split at h
      · rename_i e
        injection h with h
        injection h with h1 h2
        subst e h1 h2
        exact .inl ⟨rfl, hg⟩
      · rename_i e
        injection h with h
        injection h with h1 h2
        subst h1 h2
        exact .inr ⟨e, fun e2 => hfree g k' (by rw [hg, ← e2]), hg⟩
    · cases h
  · rintro (⟨h1, h2⟩ | ⟨h1, _, h2⟩)
    · have h1 : s = OB + (OB + c) := h1
      rw [h2]
      simp [h1]
    · rw [h2]
      simp only
      rw [if_neg h1]
theorem rnT_rep {j c : Nat} (hj : j < OB) {loc loc' : Nat × Nat} (hl : ∀ g, o g = some loc → rnO j c o g = some loc') {x : T} {v : Value} (h : RepT m w o loc x v) : RepT m w (rnO j c o) loc' (rnT j c x) v := by
  have other : ∀ g s, s ≠ OB + j → o g = some (s, 0) → rnO j c o g = some (s, 0) := fun g s hs h => by unfold rnO; rw [h]; simp only; rw [if_neg hs]
  have same : ∀ g, o g = some (OB + j, 0) → rnO j c o g = some (OB + (OB + c), 0) := fun g h => by unfold rnO; rw [h]; simp
  cases x with
  | d x => exact h
  | agg l => exact h
  | own E k l =>
    obtain ⟨A', cap, xs, e, h1, h2, h3, h4⟩ := h
    exact ⟨A', cap, xs, e, h1, fun g hg => ⟨hl g (h2 g hg).1, (h2 g hg).2⟩, h3, h4⟩
  | ptr i off =>
    show RepT m w (rnO j c o) loc' (bif Nat.beq i j then .hpt c off else .ptr i off) v
    rw [beq_iff]
    obtain ⟨g, h1, h2⟩ := h
    by_cases e : i = j
    · subst e
      simp only [decide_true, cond_true]
      exact ⟨g, same g h1, h2⟩
    · simp only [e, decide_false, cond_false]
      exact ⟨g, other g _ (by omega) h1, h2⟩
  | view i off E k n =>
    show RepT m w (rnO j c o) loc' (bif Nat.beq i j then .hvw c off E k n else .view i off E k n) v
    rw [beq_iff]
    obtain ⟨A', q, h1, h2, h3, h4⟩ := h
    by_cases e : i = j
    · subst e
      simp only [decide_true, cond_true]
      exact ⟨A', q, h1, h2, h3, h4.imp id fun ⟨g, cs, k1, k2⟩ => ⟨g, cs, same g k1, k2⟩⟩
    · simp only [e, decide_false, cond_false]
      exact ⟨A', q, h1, h2, h3, h4.imp id fun ⟨g, cs, k1, k2⟩ => ⟨g, cs, other g _ (by omega) k1, k2⟩⟩
  | hpt i off => obtain ⟨g, h1, h2⟩ := h; exact ⟨g, other g _ (by omega) h1, h2⟩
  | mpt i =>
    show RepT m w (rnO j c o) loc' (bif Nat.blt i OB && Nat.beq i j then .mpt (OB + c) else .mpt i) v
    rw [beq_iff]
    obtain ⟨g, h1, h2⟩ := h
    by_cases e : i = j
    · subst e
      rw [show Nat.blt i OB = true by simpa using hj]
      simp only [decide_true, Bool.and_self, cond_true]
      exact ⟨g, same g h1, h2⟩
    · simp only [e, decide_false, Bool.and_false, cond_false]
      exact ⟨g, other g _ (by omega) h1, h2⟩
  | hvw i off E k n =>
    obtain ⟨A', q, h1, h2, h3, h4⟩ := h
    exact ⟨A', q, h1, h2, h3, h4.imp id fun ⟨g, cs, k1, k2⟩ => ⟨g, cs, other g _ (by omega) k1, k2⟩⟩
theorem rnT_agg {j c : Nat} {x : T} : (rnT j c x).isAgg = x.isAgg := by
  cases x with
  | ptr i off => show (bif Nat.beq i j then T.hpt c off else .ptr i off).isAgg = _; cases Nat.beq i j <;> rfl
  | view i off E k n => show (bif Nat.beq i j then T.hvw c off E k n else .view i off E k n).isAgg = _; cases Nat.beq i j <;> rfl
  | mpt i => show (bif Nat.blt i OB && Nat.beq i j then T.mpt (OB + c) else .mpt i).isAgg = _; cases (Nat.blt i OB && Nat.beq i j) <;> rfl
  | _ => rfl
theorem rnT_flat {j c : Nat} {l : List T} (h : noPt l = true) : l.map (rnT j c) = l := by
  conv => rhs; rw [← List.map_id l]
  refine List.map_congr_left fun x hx => ?_
  have := List.all_eq_true.1 h x hx
  cases x <;> first | rfl | cases this
theorem Inv.pub (I : Inv w0 m0 o0 G pins S a w m o) {j c : Nat} {la : List T} (hj : j < OB) (hjp : OB + j ∉ pins) (hfree : S (OB + (OB + c)) = .free) (hb : S (OB + j) = .box la) (hfl : noPt la = true) {S' : Nat → A}
    (h1 : S' (OB + j) = .free) (h2 : S' (OB + (OB + c)) = .box la) (h3 : ∀ t, t ≠ OB + j → t ≠ OB + (OB + c) → S' t = rnA j c (S t)) : ∃ o', Inv w0 m0 o0 G pins S' a w m o' := by
  have hf : ∀ g k, o g ≠ some (OB + (OB + c), k) := by have := I.slots (OB + (OB + c)); rw [hfree] at this; exact this
  have iff := fun g l => rnO_iff (o := o) (j := j) (c := c) (g := g) (l := l) hf
  have hpin : ∀ g, o0 g ≠ some (OB + j, 0) := fun g h => (I.shps g j h).1.elim hjp fun h => by unfold OB at *; unfold OB2 at h; omega
  have keep : ∀ g l, l.1 ≠ OB + j → o g = some l → rnO j c o g = some l := fun g l hl h => (iff g l).2 (.inr ⟨hl, fun e => hf g l.2 (by rw [h, ← e]), h⟩)
  refine ⟨rnO j c o, I.same, I.sat, I.mono, I.old, fun g l h => ?_, fun g l h => ?_, fun g g' l h h' => ?_, fun s hs g hg => ?_, fun t => ?_, I.defers, I.tbl, I.wide, I.shps⟩
  · rcases (iff g l).1 h with ⟨_, h⟩ | ⟨_, _, h⟩ <;> exact I.own g _ h
  · rcases (iff g l).1 h with ⟨_, h⟩ | ⟨_, _, h⟩ <;> exact I.lt g _ h
  · rcases (iff g l).1 h with ⟨e1, h⟩ | ⟨_, e1, h⟩ <;> rcases (iff g' l).1 h' with ⟨e2, h'⟩ | ⟨_, e2, h'⟩
    · exact I.inj g g' _ h h'
    · exact absurd e1 e2
    · exact absurd e2 e1
    · exact I.inj g g' _ h h'
  · have := I.pinned s hs g hg
    exact keep g _ (fun e => hpin g (by have e : s = OB + j := e; rw [← e]; exact hg)) this
  · by_cases e1 : t = OB + j
    · subst e1
      rw [h1]
      intro g k h
      rcases (iff g _).1 h with ⟨e, _⟩ | ⟨e, _⟩
      · have e : OB + j = OB + (OB + c) := e; omega
      · exact e rfl
    · by_cases e2 : t = OB + (OB + c)
      · subst e2
        rw [h2]
        have hs := I.slots (OB + j)
        rw [hb] at hs
        obtain ⟨g, _, k1, k2, cs, E, k3, k4, k5⟩ := hs
        refine ⟨g, fun h => absurd h (by omega), (iff g _).2 (.inl ⟨rfl, k1⟩), k2, cs, E, k3, k4, fun q x hq => ?_⟩
        obtain ⟨q1, u, q2, q3⟩ := k5 q x hq
        refine ⟨q1, u, q2, ?_⟩
        have := rnT_rep (c := c) hj (loc' := (OB + (OB + c), q + 1)) (fun g hg => (iff g _).2 (.inl ⟨rfl, hg⟩)) q3
        have hx : rnT j c x = x := by
          have := List.all_eq_true.1 hfl x (List.mem_of_getElem? hq)
          cases x <;> first | rfl | cases this
        rw [hx] at this
        exact this
      · rw [h3 t e1 e2]
        have hloc : ∀ k g, o g = some (t, k) → rnO j c o g = some (t, k) := fun k g h => keep g _ e1 h
        have hs := I.slots t
        have hbox : ∀ b l, b < OB → S b = .box l → ∃ l', S' b = .box l' := fun b l hb h => ⟨_, by rw [h3 b (by omega) (by omega), h]; rfl⟩
        revert hs
        generalize a.tmps.getD t undef = v
        cases S t with
        | t x => exact fun hs => rnT_rep hj (hloc 0) hs
        | tup l =>
          rintro ⟨vs, e, q1, q2⟩
          refine ⟨vs, e, by simpa using q1, fun q x hq => ?_⟩
          rw [List.getElem?_map] at hq
          cases hu : l[q]? with
          | none => rw [hu] at hq; cases hq
          | some z =>
            rw [hu] at hq
            injection hq with hq
            subst hq
            obtain ⟨u, q3, q4⟩ := q2 q z hu
            exact ⟨u, q3, rnT_rep hj (hloc _) q4⟩
        | ag l =>
          rintro ⟨vs, e, q1, q2⟩
          refine ⟨vs, e, by simpa using q1, fun q x hq => ?_⟩
          rw [List.getElem?_map] at hq
          cases hu : l[q]? with
          | none => rw [hu] at hq; cases hq
          | some z =>
            rw [hu] at hq
            injection hq with hq
            subst hq
            obtain ⟨u, q3, q5, q4⟩ := q2 q z hu
            exact ⟨u, q3, q5, rnT_rep hj (hloc _) q4⟩
        | imm l => exact id
        | box l =>
          rintro ⟨g, e, k1, k2, cs, E, k3, k4, k5⟩
          refine ⟨g, e, hloc 0 g k1, k2, cs, E, k3, by simpa using k4, fun q x hq => ?_⟩
          rw [List.getElem?_map] at hq
          cases hu : l[q]? with
          | none => rw [hu] at hq; cases hq
          | some z =>
            rw [hu] at hq
            injection hq with hq
            subst hq
            obtain ⟨q5, u, q3, q4⟩ := k5 q z hu
            exact ⟨by rw [rnT_agg]; exact q5, u, q3, rnT_rep hj (hloc _) q4⟩
        | ref b off =>
          rintro ⟨g, k1, k2, k3⟩
          show RepA m w (rnO j c o) S' t (bif Nat.beq b (OB + j) then .t (.hpt c off) else .ref b off) v
          rw [beq_iff]
          by_cases e : b = OB + j
          · subst e
            simp only [decide_true, cond_true]
            exact ⟨g, (iff g _).2 (.inl ⟨rfl, k1⟩), k2⟩
          · simp only [e, decide_false, cond_false]
            exact ⟨g, keep g _ e k1, k2, fun hb => let ⟨l, hl⟩ := k3 hb; hbox b l hb hl⟩
        | free =>
          intro hs g k h
          rcases (iff g _).1 h with ⟨e, _⟩ | ⟨_, _, h⟩
          · exact e2 e
          · exact hs g k h
        | hp f => exact id
        | mp l => rintro ⟨g, k1, k2⟩; exact ⟨g, hloc 0 g k1, k2⟩
        | any => exact id

/-! ### An object of the heap that nobody knows -/
def nmT (c : Nat) : T → Prop
  | .hpt c' _ | .hvw c' _ _ _ _ => c' ≠ c
  | .mpt i => i ≠ OB + c
  | _ => True
def nmA (c : Nat) : A → Prop
  | .t x => nmT c x
  | .tup l | .box l | .ag l => ∀ x ∈ l, nmT c x
  | .ref b _ => b ≠ OB + (OB + c)
  | _ => True
def drO (c : Nat) (o : OwnM) : OwnM := fun g => if (o g).map (·.1) = some (OB + (OB + c)) then none else o g
theorem drO_iff {c g : Nat} {l : Nat × Nat} : drO c o g = some l ↔ l.1 ≠ OB + (OB + c) ∧ o g = some l := by
  unfold drO
  constructor
  · intro h
    split at h
    · cases h
    · rename_i hn
      exact ⟨fun e => hn (by rw [h, ← e]; rfl), h⟩
  · rintro ⟨h1, h2⟩
    rw [h2, if_neg (by simpa using h1)]
theorem nmT_rep {c : Nat} {loc : Nat × Nat} (hl : loc.1 ≠ OB + (OB + c)) {x : T} (hx : nmT c x) {v : Value} (h : RepT m w o loc x v) (hp : ∀ i off, x = .ptr i off → OB + i ≠ OB + (OB + c)) (hv : ∀ i off E k n, x = .view i off E k n → OB + i ≠ OB + (OB + c)) : RepT m w (drO c o) loc x v := by
  cases x with
  | d x => exact h
  | agg l => exact h
  | own E k l =>
    obtain ⟨A', cap, xs, e, h1, h2, h3, h4⟩ := h
    exact ⟨A', cap, xs, e, h1, fun g hg => ⟨drO_iff.2 ⟨hl, (h2 g hg).1⟩, (h2 g hg).2⟩, h3, h4⟩
  | ptr i off => obtain ⟨g, h1, h2⟩ := h; exact ⟨g, drO_iff.2 ⟨hp i off rfl, h1⟩, h2⟩
  | view i off E k n =>
    obtain ⟨A', q, h1, h2, h3, h4⟩ := h
    exact ⟨A', q, h1, h2, h3, h4.imp id fun ⟨g, cs, k1, k2⟩ => ⟨g, cs, drO_iff.2 ⟨hv _ _ _ _ _ rfl, k1⟩, k2⟩⟩
  | hpt i off =>
    have hx : i ≠ c := hx
    obtain ⟨g, h1, h2⟩ := h
    exact ⟨g, drO_iff.2 ⟨by show OB + (OB + i) ≠ _; omega, h1⟩, h2⟩
  | mpt i =>
    have hx : i ≠ OB + c := hx
    obtain ⟨g, h1, h2⟩ := h
    exact ⟨g, drO_iff.2 ⟨by show OB + i ≠ _; omega, h1⟩, h2⟩
  | hvw i off E k n =>
    have hx : i ≠ c := hx
    obtain ⟨A', q, h1, h2, h3, h4⟩ := h
    exact ⟨A', q, h1, h2, h3, h4.imp id fun ⟨g, cs, k1, k2⟩ => ⟨g, cs, drO_iff.2 ⟨by show OB + (OB + i) ≠ _; omega, k1⟩, k2⟩⟩
end
end Go.Proofs.Ytikaahmonocahaa

/-
  Contracts of functions that read and write the heap; calls of them.
-/
namespace Go.Proofs.Ytikaahmonocahaa
open Go Go.RowKit
set_option linter.unusedVariables false

/-! ### Places in a list -/
def posN : List Nat → Nat → Option Nat
  | [], _ => none
  | x :: r, j => if x = j then some 0 else (posN r j).map (· + 1)
theorem posN_get : ∀ {σ : List Nat} {j i : Nat}, posN σ j = some i → σ[i]? = some j
  | [], _, _, h => by cases h
  | x :: r, j, i, h => by
    unfold posN at h
    split at h
    · rename_i e; injection h with h; subst h e; rfl
    · cases hq : posN r j with
      | none => rw [hq] at h; cases h
      | some q => rw [hq] at h; injection h with h; subst h; simpa using posN_get hq
theorem posN_of : ∀ {σ : List Nat} {j i : Nat}, σ.Nodup → σ[i]? = some j → posN σ j = some i
  | [], _, _, _, h => by simp at h
  | x :: r, j, i, hn, h => by
    unfold posN
    rw [List.nodup_cons] at hn
    cases i with
    | zero => injection h with h; rw [if_pos h]
    | succ i =>
      have h : r[i]? = some j := by simpa using h
      rw [if_neg (fun e => hn.1 (by rw [e]; exact List.mem_of_getElem? h)), posN_of hn.2 h]
      rfl
theorem posN_none {σ : List Nat} {j : Nat} (hn : σ.Nodup) (h : posN σ j = none) : j ∉ σ := by
  intro hm
  obtain ⟨i, hi⟩ := List.getElem?_of_mem hm
  rw [posN_of hn hi] at h
  cases h

def isObj (σ : List Nat) (t : Nat) : Prop := OB ≤ t ∧ t - OB ∈ σ
instance (σ : List Nat) (t : Nat) : Decidable (isObj σ t) := by unfold isObj; exact inferInstance
theorem isObj_of {σ : List Nat} {j : Nat} (h : j ∈ σ) : isObj σ (OB + j) := ⟨by omega, by rw [Nat.add_sub_cancel_left]; exact h⟩
theorem isObj_iff {σ : List Nat} {j : Nat} : isObj σ (OB + j) ↔ j ∈ σ := ⟨fun h => by have := h.2; rwa [Nat.add_sub_cancel_left] at this, isObj_of⟩
/-- The objects' boxes, as effects. -/
def putsO : List Nat → List A → Eff
  | j :: σ, l :: r => (OB + j, l) :: putsO σ r
  | _, _ => []
theorem puts_other : ∀ {σ : List Nat} {ls : List A} {S : Nat → A} {s : Nat}, ¬ isObj σ s → app S (putsO σ ls) s = S s
  | [], ls, S, s, _ => by cases ls <;> rfl
  | j :: σ, [], S, s, _ => rfl
  | j :: σ, l :: r, S, s, h => by
    show app (upd S (OB + j) l) (putsO σ r) s = _
    rw [puts_other (fun e => h ⟨e.1, List.mem_cons_of_mem _ e.2⟩), upd_other]
    intro e
    subst e
    exact h (isObj_of (by simp))
theorem puts_get : ∀ {σ : List Nat} {ls : List A} {S : Nat → A} {i j : Nat} {l : A}, σ.Nodup → σ[i]? = some j → ls[i]? = some l → app S (putsO σ ls) (OB + j) = l
  | [], ls, S, i, j, l, _, h, _ => by simp at h
  | x :: σ, [], S, i, j, l, _, _, h => by simp at h
  | x :: σ, y :: r, S, i, j, l, hn, h1, h2 => by
    rw [List.nodup_cons] at hn
    show app (upd S (OB + x) y) (putsO σ r) (OB + j) = _
    cases i with
    | zero =>
      injection h1 with h1
      injection h2 with h2
      subst h1 h2
      rw [puts_other (fun e => hn.1 (isObj_iff.1 e)), upd_same]
    | succ i => exact puts_get hn.2 (by simpa using h1) (by simpa using h2)
theorem app_append (S : Nat → A) (e e' : Eff) : app S (e ++ e') = app (app S e) e' := by unfold app; rw [List.foldl_append]

/-! ### Contracts -/
def argH (args : List A) (ins : List A) (f : Nat → A) : Nat → A := fun s => if s < OB then args.getD s .any else if OB2 ≤ s then san (f (s - OB2)) else match ins[s - OB]? with
  | some x => x
  | none => .free
def pinsH (n : Nat) : List Nat := (List.range n).map (OB + ·)
/-- Function fn, called with what args tell, with objects that hold what ins tell and with a heap that f tells, returns what r tells; the objects then hold what outs tell, the heap what f' tells. -/
def FCH (P : Program) (fn : FuncId) (args : List A) (ins outs : List A) (f f' : Nat → A) (r : A) : Prop :=
  ∀ (w : World) (m : Mem) (o : OwnM) (vals : Array Value), (∀ b p u, m b p = some u → w.cell? ⟨b, p, none⟩ = some u) → Mle TBL m → (∀ g l, o g = some l → g < w.heap.size) → (∀ g g' l, o g = some l → o g' = some l → g = g') → vals.size = args.length →
    (∀ s, RepA m w o (argH args ins f) s (argH args ins f s) (vals.getD s undef)) →
    Calls P fn vals w fun e w' => ∃ (u : Value) (m' : Mem) (o' : OwnM) (S' : Nat → A) (a' : Act) (ρ : Nat), e = .returned u ∧ Inv w m o (fun g => o g ≠ none) (pinsH ins.length) S' a' w' m' o' ∧ RepA m' w' o' S' ρ r u ∧ (∀ (i : Nat) (x : A), outs[i]? = some x → S' (OB + i) = x) ∧ (∀ c, S' (OB + (OB + c)) = san (f' c)) ∧ ρ < OB
/-- Cells that know no local object. -/
def T.isLoc : T → Bool | .ptr _ _ | .view _ _ _ _ _ => true | .mpt j => Nat.blt j OB | _ => false
def pureH (f : Nat → A) : Prop := ∀ c l, f c = .box l → ∀ x ∈ l, x.isLoc = false
theorem pure_san {f : Nat → A} (h : pureH f) (c : Nat) : ∀ l, san (f c) = .box l → ∀ x ∈ l, x.isLoc = false := by
  intro l hl
  cases hf : f c <;> rw [hf] at hl <;> cases hl
  exact h c _ hf

/-! ### Owners, as the callee numbers them -/
theorem low_ne {j c : Nat} (h : j < OB) : OB + j ≠ OB + (OB + c) := by omega
def movH (σ : List Nat) (o : OwnM) : OwnM := fun g => match o g with
  | some (s, k) => if OB2 ≤ s then some (s, k) else if OB ≤ s then (posN σ (s - OB)).map fun i => (OB + i, k) else none
  | none => none
theorem movH_iff {σ : List Nat} (hn : σ.Nodup) (hl : σ.length ≤ OB) (hs : ∀ j ∈ σ, j < OB) {o : OwnM} {g : Nat} {l : Nat × Nat} : movH σ o g = some l ↔ (∃ c, l.1 = OB + (OB + c) ∧ o g = some l) ∨ ∃ i j, l.1 = OB + i ∧ i < OB ∧ σ[i]? = some j ∧ o g = some (OB + j, l.2) := by
  unfold movH
  constructor
  · intro h
    split at h
    · rename_i s k hg
      split at h
      · rename_i h2
        injection h with h
        subst h
        exact .inl ⟨s - OB2, by rw [← ob2_eq]; show s = _; omega, hg⟩
      · split at h
        · rename_i h2 hs'
          cases hq : posN σ (s - OB) with
          | none => rw [hq] at h; cases h
          | some i =>
            rw [hq] at h
            injection h with h
            subst h
            have hi := posN_get hq
            exact .inr ⟨i, s - OB, rfl, by have := (List.getElem?_eq_some_iff.1 hi).1; omega, hi, by rw [show OB + (s - OB) = s by omega]; exact hg⟩
        · cases h
    · cases h
  · rintro (⟨c, h1, h2⟩ | ⟨i, j, h1, hi, h2, h3⟩)
    · obtain ⟨s, k⟩ := l
      have h1 : s = OB + (OB + c) := h1
      rw [h2]
      simp only
      rw [if_pos (by rw [h1, ← ob2_eq]; omega)]
    · obtain ⟨a, b⟩ := l
      have h1 : a = OB + i := h1
      subst h1
      have hj := hs j (List.mem_of_getElem? h2)
      rw [h3]
      simp only
      rw [if_neg (by unfold OB OB2 at *; omega), if_pos (by omega), Nat.add_sub_cancel_left, posN_of hn h2]
      rfl
def inH (τ : List Nat) (t : Nat) : Prop := OB2 ≤ t ∨ isObj τ t
instance (τ : List Nat) (t : Nat) : Decidable (inH τ t) := by unfold inH; exact inferInstance
def keptH (o : OwnM) (d : Nat) (τ : List Nat) : OwnM := fun g => match o g with
  | some (t, k) => if t = d ∨ inH τ t then none else some (t, k)
  | none => none
theorem keptH_iff {o : OwnM} {d : Nat} {τ : List Nat} {g : Nat} {l : Nat × Nat} : keptH o d τ g = some l ↔ l.1 ≠ d ∧ ¬ inH τ l.1 ∧ o g = some l := by
  unfold keptH
  constructor
  · intro h
    split at h
    · rename_i t k hg
      split at h
      · cases h
      · rename_i hn
        injection h with h
        subst h
        exact ⟨fun e => hn (.inl e), fun e => hn (.inr e), hg⟩
    · cases h
  · rintro ⟨h1, h2, h⟩
    obtain ⟨t, j⟩ := l
    rw [h]
    simp only
    rw [if_neg]
    rintro (e | e)
    · exact h1 e
    · exact h2 e
def mixH (o o' : OwnM) (d ρ : Nat) (τ : List Nat) : OwnM := fun g => match o' g with
  | some (t, k) => if t = ρ then some (d, k) else if OB2 ≤ t then some (t, k) else if OB ≤ t then (match τ[t - OB]? with
      | some j => some (OB + j, k)
      | none => keptH o d τ g) else keptH o d τ g
  | none => keptH o d τ g

/-! ### What goes over -/
/-- An address or a slice, as the callee numbers objects (x) and as the caller does (y). -/
inductive PtR (τ : List Nat) : T → T → Prop
  | flat {x : T} (h : x.isPt = false) : PtR τ x x
  | hpt (c off : Nat) : PtR τ (.hpt c off) (.hpt c off)
  | hvw (c off E k n : Nat) : PtR τ (.hvw c off E k n) (.hvw c off E k n)
  | view {i j off E k n : Nat} (h : τ[i]? = some j) : PtR τ (.view i off E k n) (.view j off E k n)
inductive PtRs (τ : List Nat) : List T → List T → Prop
  | nil : PtRs τ [] []
  | cons {x y : T} {l l' : List T} (h : PtR τ x y) (t : PtRs τ l l') : PtRs τ (x :: l) (y :: l')
theorem PtRs.get {τ : List Nat} {l l' : List T} (h : PtRs τ l l') : l'.length = l.length ∧ ∀ (j : Nat) (y : T), l'[j]? = some y → ∃ x, l[j]? = some x ∧ PtR τ x y := by
  induction h with
  | nil => exact ⟨rfl, fun j y h => by simp at h⟩
  | cons hx ht ih =>
    refine ⟨by simp [ih.1], fun j y hj => ?_⟩
    cases j with
    | zero => injection hj with hj; subst hj; exact ⟨_, rfl, hx⟩
    | succ j => simpa using ih.2 j y (by simpa using hj)
theorem PtRs.refl {τ : List Nat} : ∀ {l : List T}, l.all (fun x => !x.isPt) = true → PtRs τ l l
  | [], _ => .nil
  | x :: l, h => by
    simp only [List.all_cons, Bool.and_eq_true] at h
    exact .cons (.flat (by simpa using h.1)) (PtRs.refl h.2)
inductive ResH (τ : List Nat) : A → A → Prop
  | t {x y : T} (h : PtR τ x y) : ResH τ (.t x) (.t y)
  | tup {l l' : List T} (h : PtRs τ l l') : ResH τ (.tup l) (.tup l')
  | plain {x : A} (h : x.plain = true) : ResH τ x x
inductive ArgH (σ : List Nat) : A → A → Prop
  | plain {x y : A} (h : WkA x y) (hp : y.plain = true) : ArgH σ x y
  | hpt (c off : Nat) : ArgH σ (.t (.hpt c off)) (.t (.hpt c off))
  | hvw (c off E k n : Nat) : ArgH σ (.t (.hvw c off E k n)) (.t (.hvw c off E k n))
  | view {i j off E k n : Nat} (h : σ[i]? = some j) : ArgH σ (.t (.view j off E k n)) (.t (.view i off E k n))
inductive ArgsH (σ : List Nat) : List A → List A → Prop
  | nil : ArgsH σ [] []
  | cons {x y : A} {l l' : List A} (h : ArgH σ x y) (t : ArgsH σ l l') : ArgsH σ (x :: l) (y :: l')
/-- What a local object may hold: cells without addresses; whatever. -/
def A.flatO : A → Bool
  | .box l => noPt l
  | .any => true
  | _ => false
section
variable {m : Mem} {w : World} {o o' : OwnM}
theorem ptr_rep {τ : List Nat} (hh : ∀ g c, o g = some (OB + (OB + c), 0) → o' g = some (OB + (OB + c), 0)) (hl : ∀ g i j, τ[i]? = some j → o g = some (OB + i, 0) → o' g = some (OB + j, 0)) {loc loc' : Nat × Nat} (ho : ∀ g, o g = some loc → o' g = some loc') {x y : T} (hx : PtR τ x y) {v : Value} (h : RepT m w o loc x v) : RepT m w o' loc' y v := by
  cases hx with
  | flat hx => exact h.reloc ho hx |> fun h => h
  | hpt c off => obtain ⟨g, h1, h2⟩ := h; exact ⟨g, hh g c h1, h2⟩
  | hvw c off E k n =>
    obtain ⟨A', q, h1, h2, h3, h4⟩ := h
    exact ⟨A', q, h1, h2, h3, h4.imp id fun ⟨g, cs, k1, k2⟩ => ⟨g, cs, hh g c k1, k2⟩⟩
  | view hi =>
    obtain ⟨A', q, h1, h2, h3, h4⟩ := h
    exact ⟨A', q, h1, h2, h3, h4.imp id fun ⟨g, cs, k1, k2⟩ => ⟨g, cs, hl g _ _ hi k1, k2⟩⟩
theorem loc_rep (hh : ∀ g c, o g = some (OB + (OB + c), 0) → o' g = some (OB + (OB + c), 0)) {loc loc' : Nat × Nat} (ho : ∀ g, o g = some loc → o' g = some loc') {x : T} (hx : x.isLoc = false) {v : Value} (h : RepT m w o loc x v) : RepT m w o' loc' x v := by
  cases x with
  | ptr j off => cases hx
  | view j off E k n => cases hx
  | hpt c off => exact ptr_rep (τ := []) hh (fun g i j h => by simp at h) ho (.hpt c off) h
  | mpt j =>
    have hj : ¬ j < OB := by have hx : Nat.blt j OB = false := hx; intro h; rw [show Nat.blt j OB = true by simpa using h] at hx; cases hx
    obtain ⟨c, rfl⟩ : ∃ c, j = OB + c := ⟨j - OB, by omega⟩
    obtain ⟨g, h1, h2⟩ := h
    exact ⟨g, hh g c h1, h2⟩
  | hvw c off E k n => exact ptr_rep (τ := []) hh (fun g i j h => by simp at h) ho (.hvw c off E k n) h
  | d x => exact h
  | agg l => exact h
  | own E k l => exact ptr_rep (τ := []) hh (fun g i j h => by simp at h) ho (.flat rfl) h
end
end Go.Proofs.Ytikaahmonocahaa
