/-
  One operation, told by data: what it does to the slots; the model's operation does just that. Contracts of functions.
-/
import Derived.Test.YtimdogdplphmoaaDoorOpMem2
namespace Go.Proofs.YtimdogdplphmoaaDoor
open Go Go.RowKit
set_option linter.unusedVariables false

/-! ### Contracts -/
def argS (args : List A) : Nat → A := fun t => args.getD t .any
def boxIdx : Nat → List A → List Nat
  | _, [] => []
  | i, .box _ :: r => i :: boxIdx (i + 1) r
  | i, _ :: r => boxIdx (i + 1) r
/-- Function f, called with what args tell, returns what r tells; the variables behind its i-th argument then hold what outs tell. -/
def FC (P : Program) (f : FuncId) (args : List A) (outs : List (Nat × List T)) (r : A) : Prop :=
  ∀ (w : World) (m : Mem) (o : OwnM) (vals : Array Value), (∀ b p u, m b p = some u → w.cell? ⟨b, p, none⟩ = some u) → Mle TBL m → (∀ g l, o g = some l → g < w.heap.size ∧ l.1 < OB) → (∀ g g' l, o g = some l → o g' = some l → g = g') → vals.size = args.length →
    (∀ s, RepA m w o (argS args) s (argS args s) (vals.getD s undef)) →
    Calls P f vals w fun e w' => ∃ (u : Value) (m' : Mem) (o' : OwnM) (S' : Nat → A) (a' : Act) (ρ : Nat), e = .returned u ∧ Inv w m o (fun g => o g ≠ none) (boxIdx 0 args) S' a' w' m' o' ∧ RepA m' w' o' S' ρ r u ∧ ∀ i l, (i, l) ∈ outs → S' i = .box l ∧ i ≠ ρ

/-- From nil to an empty slice. -/
inductive WkD : D → D → Prop
  | refl (x : D) : WkD x x
  | nil (k : Nat) : WkD (.lit (.slice none 0 0)) (.seq k [])
  | fn (f : FuncId) : WkD (.lit (.func (.func f) #[] #[])) (.clo f [])
inductive WkL : List D → List D → Prop
  | nil : WkL [] []
  | cons {x y : D} {l l' : List D} (h : WkD x y) (t : WkL l l') : WkL (x :: l) (y :: l')
inductive WkLs : List (List D) → List (List D) → Prop
  | nil : WkLs [] []
  | cons {x y : List D} {l l' : List (List D)} (h : WkL x y) (t : WkLs l l') : WkLs (x :: l) (y :: l')
inductive WkT : T → T → Prop
  | refl (x : T) : WkT x x
  | d {x y : D} (h : WkD x y) : WkT (.d x) (.d y)
  | agg {l l' : List D} (h : WkL l l') : WkT (.agg l) (.agg l')
  | own (E k : Nat) (l : List (List D)) : WkT (.own E k l) (.d (.seq k l))
  | nilOwn (E k : Nat) : WkT (.d (.lit (.slice none 0 0))) (.own E k [])
  | rows (E k : Nat) {l l' l'' : List (List D)} (h : WkLs l l') (e : l' = l'') : WkT (.own E k l) (.own E k l'')
inductive WkTs : List T → List T → Prop
  | nil : WkTs [] []
  | cons {x y : T} {l l' : List T} (h : WkT x y) (t : WkTs l l') : WkTs (x :: l) (y :: l')
inductive WkA : A → A → Prop
  | refl (x : A) : WkA x x
  | any (x : A) : WkA x .any
  | t {x y : T} (h : WkT x y) : WkA (.t x) (.t y)
  | tup {l l' : List T} (h : WkTs l l') : WkA (.tup l) (.tup l')
  | box {l l' : List T} (h : WkTs l l') (ha : l'.all (fun x => !x.isAgg) = true) : WkA (.box l) (.box l')
inductive WkArgs : List A → List A → Prop
  | nil : WkArgs [] []
  | cons {x y : A} {l l' : List A} (h : WkA x y) (t : WkArgs l l') : WkArgs (x :: l) (y :: l')

section
variable {w0 : World} {m0 : Mem} {o0 : OwnM} {G : Nat → Prop} {pins : List Nat} {S M : Nat → A} {a : Act} {w : World} {m : Mem} {o : OwnM} {P : Program}
theorem RepD.nilSeq (m : Mem) (k : Nat) : RepD m (.seq k []) (.slice none 0 0) :=
  .seq k [] none 0 0 0 (fun _ _ => undef) (Nat.le_refl _) (Nat.zero_le _) (fun h => absurd rfl h) (fun i r h => by simp at h) (fun i r j d h => by simp at h) (fun i r j d h => by simp at h)
theorem WkD.rep {x y : D} (h : WkD x y) {v : Value} (hr : RepD m x v) : RepD m y v := by
  cases h with
  | refl => exact hr
  | nil k => cases hr; exact RepD.nilSeq m k
  | fn f =>
    cases hr
    exact .clo f [] #[] (fun _ => 0) (fun _ => 0) (fun _ _ => undef) rfl (fun i r h => by simp at h) (fun i r j d h => by simp at h) (fun i r j d h => by simp at h)
theorem WkL.rep {l l' : List D} (h : WkL l l') : ∀ {vs : List Value}, RepL m l vs → RepL m l' vs := by
  induction h with
  | nil => exact fun h => h
  | cons hx ht ih =>
    intro vs hr
    cases vs with
    | nil => have := hr.1; simp at this
    | cons v vs =>
      have h2 := ih (vs := vs) ⟨by have := hr.1; simpa using this, fun j d hj => by simpa using hr.2 (j + 1) d (by simpa using hj)⟩
      refine ⟨by have := h2.1; simpa using this, fun j d hj => ?_⟩
      cases j with
      | zero =>
        injection hj with hj
        subst hj
        obtain ⟨u, h3, h4⟩ := hr.2 0 _ rfl
        exact ⟨u, h3, hx.rep h4⟩
      | succ j => simpa using h2.2 j d (by simpa using hj)
theorem WkL.get {l l' : List D} (h : WkL l l') : l'.length = l.length ∧ ∀ (j : Nat) (y : D), l'[j]? = some y → ∃ x, l[j]? = some x ∧ WkD x y := by
  induction h with
  | nil => exact ⟨rfl, fun j y h => by simp at h⟩
  | cons hx ht ih =>
    refine ⟨by simp [ih.1], fun j y hj => ?_⟩
    cases j with
    | zero => injection hj with hj; subst hj; exact ⟨_, rfl, hx⟩
    | succ j => simpa using ih.2 j y (by simpa using hj)
theorem WkLs.get {l l' : List (List D)} (h : WkLs l l') : l'.length = l.length ∧ ∀ (j : Nat) (y : List D), l'[j]? = some y → ∃ x, l[j]? = some x ∧ WkL x y := by
  induction h with
  | nil => exact ⟨rfl, fun j y h => by simp at h⟩
  | cons hx ht ih =>
    refine ⟨by simp [ih.1], fun j y hj => ?_⟩
    cases j with
    | zero => injection hj with hj; subst hj; exact ⟨_, rfl, hx⟩
    | succ j => simpa using ih.2 j y (by simpa using hj)
theorem WkT.rep (hsat : ∀ b p u, m b p = some u → w.cell? ⟨b, p, none⟩ = some u) {x y : T} (h : WkT x y) {loc : Nat × Nat} {v : Value} (hr : RepT m w o loc x v) : RepT m w o loc y v := by
  cases h with
  | refl => exact hr
  | d h => exact h.rep hr
  | agg h => obtain ⟨vs, e, k⟩ := hr; exact ⟨vs, e, h.rep k⟩
  | own E k l => exact own_seq hsat hr
  | nilOwn E k =>
    have hr : RepD m (.lit (.slice none 0 0)) v := hr
    cases hr
    exact ⟨none, 0, [], rfl, World.ownsRow_nil w 0 E k, fun g hg => (by cases hg), fun i r h => by simp at h, fun i r j d h => by simp at h⟩
  | rows E k h e =>
    subst e
    obtain ⟨A', cap, xs, e, h1, h2, h3, h4⟩ := hr
    obtain ⟨k1, k2⟩ := h.get
    refine ⟨A', cap, xs, by rw [e, k1], by rw [k1]; exact h1, h2, fun i r hi => ?_, fun i r j d hi hj => ?_⟩
    · obtain ⟨x, q1, q2⟩ := k2 i r hi
      rw [q2.get.1]
      exact h3 i x q1
    · obtain ⟨x, q1, q2⟩ := k2 i r hi
      obtain ⟨d', q3, q4⟩ := q2.get.2 j d hj
      obtain ⟨u, q5, q6⟩ := h4 i x j d' q1 q3
      exact ⟨u, q5, q4.rep q6⟩
theorem WkTs.get {l l' : List T} (h : WkTs l l') : l'.length = l.length ∧ ∀ (j : Nat) (y : T), l'[j]? = some y → ∃ x, l[j]? = some x ∧ WkT x y := by
  induction h with
  | nil => exact ⟨rfl, fun j y h => by simp at h⟩
  | cons hx ht ih =>
    refine ⟨by simp [ih.1], fun j y hj => ?_⟩
    cases j with
    | zero => injection hj with hj; subst hj; exact ⟨_, rfl, hx⟩
    | succ j => simpa using ih.2 j y (by simpa using hj)
theorem WkA.rep (hsat : ∀ b p u, m b p = some u → w.cell? ⟨b, p, none⟩ = some u) {x y : A} (h : WkA x y) {S : Nat → A} {s : Nat} {v : Value} (hr : RepA m w o S s x v) : RepA m w o S s y v := by
  cases h with
  | refl => exact hr
  | any => trivial
  | t h => exact h.rep hsat hr
  | tup h =>
    obtain ⟨vs, e, h1, h2⟩ := hr
    obtain ⟨k1, k2⟩ := h.get
    refine ⟨vs, e, by rw [h1, k1], fun j y hj => ?_⟩
    obtain ⟨x, h3, h4⟩ := k2 j y hj
    obtain ⟨u, h5, h6⟩ := h2 j x h3
    exact ⟨u, h5, h4.rep hsat h6⟩
  | box h ha =>
    obtain ⟨g, e, b1, b2, cs, E, b3, b4, b5⟩ := hr
    obtain ⟨k1, k2⟩ := h.get
    refine ⟨g, e, b1, b2, cs, E, b3, by rw [k1]; exact b4, fun j y hj => ?_⟩
    obtain ⟨x, h3, h4⟩ := k2 j y hj
    obtain ⟨_, u, h5, h6⟩ := b5 j x h3
    exact ⟨by have := List.all_eq_true.1 ha y (List.mem_of_getElem? hj); simpa using this, u, h5, h4.rep hsat h6⟩

/-- What owns nothing and points to no variable. -/
def A.plain : A → Bool
  | .t (.d _) | .t (.agg _) | .imm _ | .any => true
  | _ => false
theorem plain_rep {x : A} (hx : x.plain = true) {m : Mem} {w w' : World} {o o' : OwnM} {S S' : Nat → A} {s s' : Nat} {v : Value} (h : RepA m w o S s x v) : RepA m w' o' S' s' x v := by
  cases x with
  | t z =>
    cases z with
    | d x => exact h
    | agg l => exact h
    | own E k l => cases hx
    | ptr j off => cases hx
    | view j off E k n => cases hx
    | hpt c off => cases hx
    | mpt c => cases hx
    | hvw c off E k n => cases hx
  | imm l => exact h
  | any => trivial
  | tup l => cases hx
  | box l => cases hx
  | ref b off => cases hx
  | free => cases hx
  | hp f => cases hx
  | mp l => cases hx
  | ag l => cases hx
theorem plain_args {args : List A} (h : args.all A.plain = true) : boxIdx 0 args = [] := by
  have : ∀ (i : Nat) (l : List A), l.all A.plain = true → boxIdx i l = [] := by
    intro i l
    induction l generalizing i with
    | nil => intro _; rfl
    | cons x r ih =>
      intro h
      rw [List.all_cons, Bool.and_eq_true] at h
      cases x <;> first | (cases h.1; done) | exact ih _ h.2
  exact this 0 args h

theorem RepT.reloc {m : Mem} {w : World} {o o' : OwnM} {l l' : Nat × Nat} (h : ∀ g, o g = some l → o' g = some l') {x : T} (hp : x.isPt = false) {v : Value} (hr : RepT m w o l x v) : RepT m w o' l' x v := by
  cases x with
  | ptr j off => cases hp
  | view j off E k n => cases hp
  | hpt c off => cases hp
  | mpt c => cases hp
  | hvw c off E k n => cases hp
  | d x => exact hr
  | agg l => exact hr
  | own E k ls =>
    obtain ⟨A', cap, xs, e, h1, h2, h3, h4⟩ := hr
    exact ⟨A', cap, xs, e, h1, fun g hg => ⟨h g (h2 g hg).1, (h2 g hg).2⟩, h3, h4⟩
def A.noRef : A → Bool
  | .ref _ _ => false
  | .t x => !x.isPt
  | .tup l => noPt l
  | .box _ => false
  | .free => false
  | .mp _ => false
  | .ag l => noPt l
  | _ => true
theorem noPt_get {l : List T} (h : noPt l = true) {j : Nat} {x : T} (hj : l[j]? = some x) : x.isPt = false := by
  have := List.all_eq_true.1 h x (List.mem_of_getElem? hj)
  simpa using this
theorem RepA.reloc {m : Mem} {w : World} {o o' : OwnM} {s s' : Nat} (h : ∀ g j, o g = some (s, j) → o' g = some (s', j)) {S S' : Nat → A} {x : A} (hx : x.noRef = true) {v : Value} (hr : RepA m w o S s x v) : RepA m w o' S' s' x v := by
  cases x with
  | t x => exact RepT.reloc (fun g => h g 0) (by simpa [A.noRef] using hx) hr
  | tup l =>
    obtain ⟨vs, e, h1, h2⟩ := hr
    exact ⟨vs, e, h1, fun j x hj => let ⟨u, k1, k2⟩ := h2 j x hj; ⟨u, k1, k2.reloc (fun g => h g _) (noPt_get hx hj)⟩⟩
  | imm l => exact hr
  | box l => cases hx
  | ref => cases hx
  | free => cases hx
  | hp f => trivial
  | mp l => cases hx
  | ag l =>
    obtain ⟨vs, e, h1, h2⟩ := hr
    exact ⟨vs, e, h1, fun j x hj => let ⟨u, k1, k3, k2⟩ := h2 j x hj; ⟨u, k1, k3, k2.reloc (fun g => h g _) (noPt_get hx hj)⟩⟩
  | any => trivial

theorem BoxAt.reloc {m : Mem} {w : World} {o o' : OwnM} {s s' : Nat} (h : ∀ g j, o g = some (s, j) → o' g = some (s', j)) {l : List T} (hx : noPt l = true) {g : Nat} (hr : BoxAt m w o s l g) : BoxAt m w o' s' l g := by
  obtain ⟨h1, h2, cs, E, h3, h4, h5⟩ := hr
  exact ⟨h g _ h1, h2, cs, E, h3, h4, fun j x hj => let ⟨k0, u, k1, k2⟩ := h5 j x hj; ⟨k0, u, k1, k2.reloc (fun g => h g _) (noPt_get hx hj)⟩⟩
/-- A call whose arguments own nothing: what it gives lies in slot d. -/
theorem call_plain (I : Inv w0 m0 o0 G pins S a w m o) {f : FuncId} {args : List A} {r : A} (hf : FC P f args [] r) (hp : args.all A.plain = true) {vals : Array Value} (hv : vals.size = args.length) (hr : ∀ i x, args[i]? = some x → ∃ s, RepA m w o S s x (vals.getD i undef))
    {d : Nat} (hd : d < a.tmps.size) (hbox : (S d).isBox = false) (hpin : d ∉ pins) (hnr : r.noRef = true) :
    Calls P f vals w fun e w' => ∃ u m' o', e = .returned u ∧ Inv w0 m0 o0 G pins (upd S d r) (a.put (some d) u) w' m' o' := by
  have hrep : ∀ s, RepA m w (fun _ => none) (argS args) s (argS args s) (vals.getD s undef) := by
    intro s
    unfold argS
    rw [List.getD_eq_getElem?_getD]
    cases hx : args[s]? with
    | none => trivial
    | some x =>
      obtain ⟨s', h⟩ := hr s x hx
      exact plain_rep (List.all_eq_true.1 hp x (List.mem_of_getElem? hx)) h
  refine (hf w m (fun _ => none) vals I.sat (I.tbl.trans I.mono) (fun _ _ h => by cases h) (fun _ _ _ h => by cases h) hv hrep).mono ?_
  rintro e w' ⟨u, m', o', S', a', ρ, rfl, J, hr, _⟩
  rw [plain_args hp] at J
  have hS : Same (fun _ => False) w w' := J.same.weaken fun g h => h rfl
  have hold : ∀ b, b < w.heap.size → m' b = m b := fun b hb => J.old b hb fun h => h rfl
  have hnew : ∀ g l, o' g = some l → w.heap.size ≤ g := fun g l h => (J.own g l h).resolve_left fun h => h rfl
  let o2 : OwnM := fun g => if w.heap.size ≤ g then (match o' g with | some (s, j) => if s = ρ then some (d, j) else none | none => none) else if (o g).map (·.1) = some d then none else o g
  have ho2n : ∀ g j, o' g = some (ρ, j) → o2 g = some (d, j) := by
    intro g j h
    show (if _ then _ else _) = _
    rw [if_pos (hnew g _ h), h]
    simp
  have ho2o : ∀ g l, o g = some l → l.1 ≠ d → o2 g = some l := by
    intro g l h hl
    show (if _ then _ else _) = _
    rw [if_neg (by have := I.lt g l h; omega), h, if_neg (by simpa using hl)]
  have ho2 : ∀ g l, o2 g = some l → (w.heap.size ≤ g ∧ l.1 = d ∧ o' g = some (ρ, l.2)) ∨ (g < w.heap.size ∧ l.1 ≠ d ∧ o g = some l) := by
    intro g l h
    change (if _ then _ else _) = _ at h
    split at h
    · rename_i hg
      split at h
      · rename_i s j hs
        split at h
        · rename_i e
          injection h with h
          subst h e
          exact .inl ⟨hg, rfl, hs⟩
        · cases h
      · cases h
    · rename_i hg
      split at h
      · cases h
      · rename_i hn
        exact .inr ⟨by omega, fun e => hn (by rw [h, ← e]; rfl), h⟩
  have K : Keep (fun l => l.1 = d) m w o m' w' o2 := ⟨J.mono, fun g l h _ => hold g (I.lt g l h), fun g l h _ => hS.block g (I.lt g l h) id, fun g l h hl => ho2o g l h hl, fun g j h => ho2o g _ h (OB_ne (Nat.lt_of_lt_of_le hd I.wide)), fun g s k hs h => by
    rcases ho2 g _ h with ⟨_, e, _⟩ | ⟨_, _, h⟩
    · exact absurd e hs
    · exact ⟨g, k, h⟩, fun g j h => .of_eq (hS.block g (I.lt g _ h) id)⟩
  refine ⟨u, m', o2, rfl, I.same.trans (hS.weaken fun _ h => h.elim), J.sat, I.mono.trans J.mono, fun b hb hg => ?_, fun g l h => ?_, fun g l h => ?_, fun g g' l h h' => ?_, fun s hs g hg => ?_, fun s => ?_, I.defers, I.tbl, by rw [put_size]; exact I.wide, I.shps.keep I.pinned K.sh⟩
  · rw [hold b (Nat.lt_of_lt_of_le hb I.same.size)]
    exact I.old b hb hg
  · rcases ho2 g l h with ⟨h1, _, _⟩ | ⟨_, _, h1⟩
    · exact .inr (Nat.le_trans I.same.size h1)
    · exact I.own g l h1
  · rcases ho2 g l h with ⟨_, _, h1⟩ | ⟨h1, _, _⟩
    · exact J.lt g _ h1
    · exact Nat.lt_of_lt_of_le h1 hS.size
  · rcases ho2 g l h with ⟨_, h2, h1⟩ | ⟨_, h2, h1⟩ <;> rcases ho2 g' l h' with ⟨_, h2', h1'⟩ | ⟨_, h2', h1'⟩
    · exact J.inj g g' _ h1 h1'
    · exact absurd h2 h2'
    · exact absurd h2' h2
    · exact I.inj g g' l h1 h1'
  · exact ho2o g _ (I.pinned s hs g hg) fun e => hs.elim (fun hs => hpin (by rw [← e]; exact hs)) fun hs => by have e : s = d := e; have := I.wide; omega
  · rw [getD_put]
    by_cases h : s = d
    · subst h
      rw [if_pos ⟨rfl, hd⟩, upd_same]
      exact hr.reloc ho2n hnr
    · rw [if_neg (fun e => h e.1), upd_other h]
      refine RepA.keep K (fun _ => h) (fun b off e hbO => ?_) (I.slots s)
      have hb : (∃ l, S b = .box l) → b ≠ d := fun ⟨l, hl⟩ e => by subst e; rw [hl] at hbox; cases hbox
      have hr := I.slots s
      rw [e] at hr
      obtain ⟨_, _, _, hr⟩ := hr
      exact ⟨hb (hr hbO), fun ⟨l, hl⟩ => ⟨l, by rw [upd_other (hb ⟨l, hl⟩), hl]⟩⟩
end
end Go.Proofs.YtimdogdplphmoaaDoor
