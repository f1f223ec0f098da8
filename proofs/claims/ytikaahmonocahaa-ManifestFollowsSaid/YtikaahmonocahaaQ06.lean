/-
  A call that is handed what slot s owns: a slice that may grow, or the address of a variable.
-/
import Derived.Test.YtikaahmonocahaaQ05
namespace Go.Proofs.Ytikaahmonocahaa
open Go Go.RowKit
set_option linter.unusedVariables false

/-- What slot s holds goes to the callee's slot i. -/
def movO (o : OwnM) (s i : Nat) : OwnM := fun g => match o g with
  | some (s', j) => if s' = s then some (i, j) else none
  | none => none

def keptO (o : OwnM) (d s : Nat) : OwnM := fun g => match o g with
  | some (t, j) => if t = d ∨ t = s then none else some (t, j)
  | none => none
theorem keptO_iff {o : OwnM} {d s g : Nat} {l : Nat × Nat} : keptO o d s g = some l ↔ l.1 ≠ d ∧ l.1 ≠ s ∧ o g = some l := by
  unfold keptO
  constructor
  · intro h
    split at h
    · rename_i t j hg
      split at h
      · cases h
      · rename_i hn
        injection h with h
        subst h
        exact ⟨fun e => hn (.inl e), fun e => hn (.inr e), hg⟩
    · cases h
  · rintro ⟨h1, h2, h⟩
    obtain ⟨t, j⟩ := l
    rw [h]
    simp [show t ≠ d from h1, show t ≠ s from h2]
def mixO (o o' : OwnM) (d s i ρ : Nat) (b : Bool) : OwnM := fun g => match o' g with
  | some (t, j) => if t = ρ then some (d, j) else if t = i ∧ b = true then some (s, j) else keptO o d s g
  | none => keptO o d s g

section
variable {w0 : World} {m0 : Mem} {o0 : OwnM} {G : Nat → Prop} {pins : List Nat} {S M : Nat → A} {a : Act} {w : World} {m : Mem} {o : OwnM} {P : Program}
theorem movO_iff {o : OwnM} {s i : Nat} {g : Nat} {l : Nat × Nat} : movO o s i g = some l ↔ l.1 = i ∧ o g = some (s, l.2) := by
  unfold movO
  constructor
  · intro h
    split at h
    · rename_i s' j hg
      split at h
      · rename_i e
        injection h with h
        subst h e
        exact ⟨rfl, hg⟩
      · cases h
    · cases h
  · rintro ⟨rfl, h⟩
    rw [h]
    simp
/-- What is left in slot s: what a slice holds, for good; the variable as the callee has left it. -/
def leftA : A → List T → A
  | .t (.own _ k l), _ => .t (.d (.seq k l))
  | _, l' => .box l'
def A.movable : A → Bool
  | .t (.own _ _ _) => true
  | .box l => noPt l
  | _ => false

theorem call_move (I : Inv w0 m0 o0 G pins S a w m o) {f : FuncId} {args : List A} {outs : List (Nat × List T)} {r : A} (hf : FC P f args outs r) {s i : Nat} (hi : args[i]? = some (S s)) (hmov : (S s).movable = true) (hother : ∀ k x, args[k]? = some x → k ≠ i → x.plain = true)
    {l' : List T} (hkind : (∃ E k l, S s = .t (.own E k l) ∧ s ∉ pins) ∨ (∃ l, S s = .box l ∧ (i, l') ∈ outs ∧ noPt l' = true)) {vals : Array Value} (hv : vals.size = args.length) (hr : ∀ k x, args[k]? = some x → k ≠ i → ∃ s, RepA m w o S s x (vals.getD k undef)) (hvi : vals.getD i undef = a.tmps.getD s undef)
    {d : Nat} (hd : d < a.tmps.size) (hbox : (S d).isBox = false) (hpin : d ∉ pins) (hds : d ≠ s) (hsO : s < OB) (hiO : i < OB) (hnr : r.noRef = true) :
    Calls P f vals w fun e w' => ∃ u m' o', e = .returned u ∧ Inv w0 m0 o0 G pins (upd (upd S s (leftA (S s) l')) d r) (a.put (some d) u) w' m' o' := by
  have hil : i < args.length := (List.getElem?_eq_some_iff.1 hi).1
  have hreloc : ∀ g j, o g = some (s, j) → movO o s i g = some (i, j) := fun g j h => movO_iff.2 ⟨rfl, h⟩
  have hrep : ∀ t, RepA m w (movO o s i) (argS args) t (argS args t) (vals.getD t undef) := by
    intro t
    unfold argS
    rw [List.getD_eq_getElem?_getD]
    cases hx : args[t]? with
    | none => trivial
    | some x =>
      by_cases e : t = i
      · subst e
        rw [hi] at hx
        injection hx with hx
        subst hx
        rw [hvi]
        have hsl := I.slots s
        revert hsl hmov
        cases S s with
        | box l =>
          rintro hmov ⟨g, e1, e2⟩
          exact ⟨g, fun _ => e1 hsO, e2.reloc hreloc hmov⟩
        | t z =>
          intro hmov hsl
          cases z with
          | own E k l => exact hsl.reloc hreloc rfl
          | _ => cases hmov
        | _ => intro hmov; cases hmov
      · obtain ⟨s', h⟩ := hr t x hx e
        exact plain_rep (hother t x hx e) h
  refine (hf w m (movO o s i) vals I.sat (I.tbl.trans I.mono) (fun g l h => ⟨I.lt g _ (movO_iff.1 h).2, by rw [(movO_iff.1 h).1]; exact hiO⟩) (fun g g' l h h' => I.inj g g' _ (movO_iff.1 h).2 (movO_iff.1 h').2) hv hrep).mono ?_
  rintro e w' ⟨u, m', o', S', a', ρ, rfl, J, hr, hout⟩
  have hgr : ∀ g, movO o s i g ≠ none → ∃ j, o g = some (s, j) := by
    intro g h
    cases hg : movO o s i g with
    | none => exact absurd hg h
    | some l => exact ⟨_, (movO_iff.1 hg).2⟩
  have hS : Same (fun g => ∃ j, o g = some (s, j)) w w' := J.same.weaken fun g h => hgr g h
  have hold : ∀ b, b < w.heap.size → (∀ j, o b ≠ some (s, j)) → m' b = m b := fun b hb hn => J.old b hb fun h => by
    obtain ⟨j, hj⟩ := hgr b h
    exact hn j hj
  have hnew : ∀ g l, o' g = some l → (∃ j, o g = some (s, j)) ∨ w.heap.size ≤ g := fun g l h => (J.own g l h).imp (hgr g) id
  -- the box, if it is one
  let isb : Prop := ∃ l, S s = .box l
  have hρ : isb → ρ ≠ i := by
    rintro ⟨l, hl⟩
    rcases hkind with ⟨E, k, l2, h, _⟩ | ⟨l2, h, ho, _⟩
    · rw [hl] at h; cases h
    · exact fun e => (hout i l' ho).2 e.symm
  let o2 : OwnM := mixO o o' d s i ρ (S s).isBox
  have hisb : (S s).isBox = true ↔ isb := by
    constructor
    · intro h; cases hx : S s with
      | box l => exact ⟨l, hx⟩
      | _ => rw [hx] at h; cases h
    · rintro ⟨l, hl⟩; rw [hl]; rfl
  -- owners that were not handed over have no part in the callee's
  have hdis : ∀ g t j, o g = some (t, j) → t ≠ s → o' g = none := by
    intro g t j h ht
    cases ho : o' g with
    | none => rfl
    | some l =>
      rcases hnew g l ho with ⟨j', hj'⟩ | hge
      · rw [h] at hj'
        injection hj' with hj'
        injection hj' with hj' _
        exact absurd hj' ht
      · exact absurd (I.lt g _ h) (by omega)
  have ho2n : ∀ g j, o' g = some (ρ, j) → o2 g = some (d, j) := by
    intro g j h
    show mixO o o' d s i ρ (S s).isBox g = _
    unfold mixO
    rw [h]
    simp
  have ho2b : isb → ∀ g j, o' g = some (i, j) → o2 g = some (s, j) := by
    intro hb g j h
    show mixO o o' d s i ρ (S s).isBox g = _
    unfold mixO
    rw [h]
    show (if i = ρ then _ else _) = _
    rw [if_neg (fun e => hρ hb e.symm)]
    simp [hisb.2 hb]
  have ho2o : ∀ g t j, o g = some (t, j) → t ≠ d → t ≠ s → o2 g = some (t, j) := by
    intro g t j h h1 h2
    show mixO o o' d s i ρ (S s).isBox g = _
    unfold mixO
    rw [hdis g t j h h2]
    exact keptO_iff.2 ⟨h1, h2, h⟩
  have ho2 : ∀ g l, o2 g = some l → (l.1 = d ∧ o' g = some (ρ, l.2)) ∨ (l.1 = s ∧ isb ∧ o' g = some (i, l.2)) ∨ (l.1 ≠ d ∧ l.1 ≠ s ∧ o g = some l) := by
    intro g l h
    change mixO o o' d s i ρ (S s).isBox g = _ at h
    unfold mixO at h
    split at h
    · rename_i t j hg
      split at h
      · rename_i e
        injection h with h
        subst h e
        exact .inl ⟨rfl, hg⟩
      · split at h
        · rename_i e
          injection h with h
          subst h
          exact .inr (.inl ⟨rfl, hisb.1 e.2, by rw [hg, e.1]⟩)
        · exact .inr (.inr (keptO_iff.1 h))
    · exact .inr (.inr (keptO_iff.1 h))
  have K : Keep (fun l => l.1 = d ∨ l.1 = s) m w o m' w' o2 := by
    refine ⟨J.mono, fun g l h hn => ?_, fun g l h hn => ?_, fun g l h hn => ?_, fun g j h => ho2o g _ 0 h (OB_ne (Nat.lt_of_lt_of_le hd I.wide)) (OB_ne hsO), fun g t k hn h => ?_, fun g j h => .of_eq (hS.block g (I.lt g _ h) fun ⟨q, hq⟩ => ?_)⟩
    · refine hold g (I.lt g l h) fun j hj => hn (.inr ?_)
      rw [h] at hj; injection hj with hj; rw [hj]
    · refine hS.block g (I.lt g l h) fun ⟨j, hj⟩ => hn (.inr ?_)
      rw [h] at hj; injection hj with hj; rw [hj]
    · obtain ⟨t, j⟩ := l
      exact ho2o g t j h (fun e => hn (.inl e)) (fun e => hn (.inr e))
    · rcases ho2 g _ h with ⟨e, _⟩ | ⟨e, _, _⟩ | ⟨_, _, h⟩
      · exact absurd (.inl e) hn
      · exact absurd (.inr e) hn
      · exact ⟨g, k, h⟩
    · rw [h] at hq
      injection hq with hq
      injection hq with hq _
      exact OB_ne hsO hq
  refine ⟨u, m', o2, rfl, ?_, J.sat, I.mono.trans J.mono, fun b hb hg => ?_, fun g l h => ?_, fun g l h => ?_, fun g g' l h h' => ?_, fun t ht g hg => ?_, fun t => ?_, I.defers, I.tbl, by rw [put_size]; exact I.wide, I.shps.keep I.pinned K.sh⟩
  · refine I.same.trans (hS.weaken ?_)
    rintro k ⟨j, hj⟩
    exact I.own k _ hj
  · rw [hold b (Nat.lt_of_lt_of_le hb I.same.size) (fun j hj => ?_)]
    · exact I.old b hb hg
    · rcases I.own b _ hj with h | h
      · exact hg h
      · omega
  · rcases ho2 g l h with ⟨_, h1⟩ | ⟨_, _, h1⟩ | ⟨_, _, h1⟩
    · rcases hnew g _ h1 with ⟨j, hj⟩ | hge
      · exact I.own g _ hj
      · exact .inr (Nat.le_trans I.same.size hge)
    · rcases hnew g _ h1 with ⟨j, hj⟩ | hge
      · exact I.own g _ hj
      · exact .inr (Nat.le_trans I.same.size hge)
    · exact I.own g l h1
  · rcases ho2 g l h with ⟨_, h1⟩ | ⟨_, _, h1⟩ | ⟨_, _, h1⟩
    · exact J.lt g _ h1
    · exact J.lt g _ h1
    · exact Nat.lt_of_lt_of_le (I.lt g l h1) hS.size
  · rcases ho2 g l h with ⟨h2, h1⟩ | ⟨h2, hb, h1⟩ | ⟨h2, h3, h1⟩ <;> rcases ho2 g' l h' with ⟨h2', h1'⟩ | ⟨h2', hb', h1'⟩ | ⟨h2', h3', h1'⟩
    · exact J.inj g g' _ h1 h1'
    · exact absurd (h2.symm.trans h2') hds
    · exact absurd h2 h2'
    · exact absurd (h2'.symm.trans h2) hds
    · exact J.inj g g' _ h1 h1'
    · exact absurd h2 h3'
    · exact absurd h2' h2
    · exact absurd h2' h3
    · exact I.inj g g' l h1 h1'
  · have h1 := I.pinned t ht g hg
    by_cases e : t = s
    · subst e
      rcases hkind with ⟨E, k, l, h, hsp⟩ | ⟨l, h, ho, _⟩
      · exact ht.elim (fun ht => absurd ht hsp) fun ht => by omega
      · have hb : isb := ⟨l, h⟩
        have hidx : i ∈ boxIdx 0 args := by
          have : ∀ (n : Nat) (as : List A) (k : Nat), as[k]? = some (A.box l) → n + k ∈ boxIdx n as := by
            intro n as
            induction as generalizing n with
            | nil => intro k hk; simp at hk
            | cons x r ih =>
              intro k hk
              cases k with
              | zero =>
                injection hk with hk
                subst hk
                simp [boxIdx]
              | succ k =>
                have := ih (n + 1) k (by simpa using hk)
                rw [show n + (k + 1) = n + 1 + k by omega]
                cases x <;> simp [boxIdx, this]
          have := this 0 args i (by rw [hi, h])
          simpa using this
        exact ho2b hb g 0 (J.pinned i (.inl hidx) g (movO_iff.2 ⟨rfl, h1⟩))
    · exact ho2o g t 0 h1 (fun e' => ht.elim (fun ht => hpin (by rw [← e']; exact ht)) fun ht => by have := I.wide; omega) e
  · rw [getD_put]
    by_cases h : t = d
    · subst h
      rw [if_pos ⟨rfl, hd⟩, upd_same]
      exact hr.reloc ho2n hnr
    · rw [if_neg (fun e => h e.1), upd_other h]
      by_cases hs : t = s
      · subst hs
        rw [upd_same]
        rcases hkind with ⟨E, k, l, hl, hsp⟩ | ⟨l, hl, ho, hpt⟩
        · rw [hl]
          have := I.slots t
          rw [hl] at this
          exact (own_seq I.sat this).mono J.mono
        · rw [hl]
          have h1 := I.slots t
          rw [hl] at h1
          obtain ⟨g, hv, hbx⟩ := h1
          have hg : o' g = some (i, 0) := by
            have hidx : i ∈ boxIdx 0 args := by
              have : ∀ (n : Nat) (as : List A) (k : Nat), as[k]? = some (A.box l) → n + k ∈ boxIdx n as := by
                intro n as
                induction as generalizing n with
                | nil => intro k hk; simp at hk
                | cons x r ih =>
                  intro k hk
                  cases k with
                  | zero =>
                    injection hk with hk
                    subst hk
                    simp [boxIdx]
                  | succ k =>
                    have := ih (n + 1) k (by simpa using hk)
                    rw [show n + (k + 1) = n + 1 + k by omega]
                    cases x <;> simp [boxIdx, this]
              have := this 0 args i (by rw [hi, hl])
              simpa using this
            exact J.pinned i (.inl hidx) g (movO_iff.2 ⟨rfl, hbx.1⟩)
          have h2 := J.slots i
          rw [(hout i l' ho).1] at h2
          obtain ⟨g2, hv2, hbx2⟩ := h2
          have := J.inj g g2 _ hg hbx2.1
          subst this
          exact ⟨g, hv, hbx2.reloc (o' := o2) (s' := t) (ho2b ⟨l, hl⟩) hpt⟩
      · rw [upd_other hs]
        have hrt := I.slots t
        cases hx : S t with
        | ref b off =>
          rw [hx] at hrt
          obtain ⟨g, k1, k2, k3⟩ := hrt
          by_cases hbO : b < OB
          case neg =>
            obtain ⟨j, rfl⟩ : ∃ j, b = OB + j := ⟨b - OB, by omega⟩
            exact ⟨g, K.pt g j k1, k2, fun h => absurd h hbO⟩
          obtain ⟨l, k3⟩ := k3 hbO
          have hbd : b ≠ d := fun e => by subst e; rw [k3] at hbox; cases hbox
          by_cases hbs : b = s
          · subst hbs
            rcases hkind with ⟨E, k, l2, hl, _⟩ | ⟨l2, hl, ho, _⟩
            · rw [k3] at hl; cases hl
            · refine ⟨g, ?_, k2, fun _ => ⟨l', ?_⟩⟩
              · have hidx : i ∈ boxIdx 0 args := by
                  have : ∀ (n : Nat) (as : List A) (k : Nat), as[k]? = some (A.box l2) → n + k ∈ boxIdx n as := by
                    intro n as
                    induction as generalizing n with
                    | nil => intro k hk; simp at hk
                    | cons x r ih =>
                      intro k hk
                      cases k with
                      | zero =>
                        injection hk with hk
                        subst hk
                        simp [boxIdx]
                      | succ k =>
                        have := ih (n + 1) k (by simpa using hk)
                        rw [show n + (k + 1) = n + 1 + k by omega]
                        cases x <;> simp [boxIdx, this]
                  have := this 0 args i (by rw [hi, hl])
                  simpa using this
                exact ho2b ⟨l2, hl⟩ g 0 (J.pinned i (.inl hidx) g (movO_iff.2 ⟨rfl, k1⟩))
              · rw [upd_other hbd, upd_same, hl]; rfl
          · exact ⟨g, ho2o g b 0 k1 hbd hbs, k2, fun _ => ⟨l, by rw [upd_other hbd, upd_other hbs, k3]⟩⟩
        | _ =>
          rw [← hx]
          refine RepA.keep K (fun j e => e.elim h hs) (fun b off e _ => ?_) hrt
          rw [hx] at e
          cases e

/-- The arguments of such a call: the i-th is what slot s holds. -/
def MvArgs (M : Nat → A) (s : Nat) : Nat → List Operand → List A → Prop
  | 0, x :: xs, y :: ys => (y = M s ∧ (x = .tmp s ∨ cpO M x = .ref s 0)) ∧ WkArgs (xs.map (cpO M)) ys ∧ ys.all A.plain = true
  | i + 1, x :: xs, y :: ys => (WkA (cpO M x) y ∧ y.plain = true) ∧ MvArgs M s i xs ys
  | _, _, _ => False
theorem wkargs_rep (hM : Mk M S) (I : Inv w0 m0 o0 G pins S a w m o) : ∀ (xs : List Operand) (args : List A), WkArgs (xs.map (cpO M)) args → (xs.map a.eval).length = args.length ∧ ∀ (i : Nat) (x : A), args[i]? = some x → ∃ s, RepA m w o S s x ((xs.map a.eval).getD i undef) := by
  intro xs
  induction xs with
  | nil => intro args h; cases h; exact ⟨rfl, fun i x h => by simp at h⟩
  | cons y ys ih =>
    intro args h
    cases h with
    | cons hx ht =>
      obtain ⟨k1, k2⟩ := ih _ ht
      refine ⟨by simpa using k1, fun i x hi => ?_⟩
      cases i with
      | zero => injection hi with hi; subst hi; exact ⟨0, hx.rep I.sat (cpO_rep hM I y 0)⟩
      | succ i => simpa using k2 i x (by simpa using hi)
theorem mvargs_rep (hM : Mk M S) (I : Inv w0 m0 o0 G pins S a w m o) {s : Nat} (hsO : s < OB) (hs : M s = S s) (hmv : (S s).movable = true) : ∀ (i : Nat) (xs : List Operand) (args : List A), MvArgs M s i xs args →
    args[i]? = some (S s) ∧ (∀ k x, args[k]? = some x → k ≠ i → x.plain = true) ∧ (xs.map a.eval).length = args.length ∧ (∀ k x, args[k]? = some x → k ≠ i → ∃ s, RepA m w o S s x ((xs.map a.eval).getD k undef)) ∧ (xs.map a.eval).getD i undef = a.tmps.getD s undef := by
  intro i
  induction i with
  | zero =>
    intro xs args h
    cases xs with
    | nil => cases args <;> exact h.elim
    | cons x xs =>
      cases args with
      | nil => exact h.elim
      | cons y ys =>
        obtain ⟨⟨h1, h2⟩, h3, h4⟩ := h
        obtain ⟨k1, k2⟩ := wkargs_rep hM I xs ys h3
        refine ⟨by rw [h1, hs]; rfl, fun k z hk hne => ?_, by simpa using k1, fun k z hk hne => ?_, ?_⟩
        · cases k with
          | zero => exact absurd rfl hne
          | succ k => exact List.all_eq_true.1 h4 z (List.mem_of_getElem? (by simpa using hk))
        · cases k with
          | zero => exact absurd rfl hne
          | succ k => simpa using k2 k z (by simpa using hk)
        · show a.eval x = _
          rcases h2 with rfl | h2
          · rfl
          · have hx := cpO_rep hM I x 0
            rw [h2] at hx
            obtain ⟨g, q1, q2, q3⟩ := hx
            obtain ⟨l, q3⟩ := q3 hsO
            have hsl := I.slots s
            rw [q3] at hsl
            obtain ⟨g', q4, q5, _⟩ := hsl
            have := I.inj _ _ _ q1 q5
            subst this
            rw [q2, q4 hsO]
  | succ i ih =>
    intro xs args h
    cases xs with
    | nil => cases args <;> exact h.elim
    | cons x xs =>
      cases args with
      | nil => exact h.elim
      | cons y ys =>
        obtain ⟨⟨h1, h2⟩, h3⟩ := h
        obtain ⟨k1, k2, k3, k4, k5⟩ := ih xs ys h3
        refine ⟨by simpa using k1, fun k z hk hne => ?_, by simpa using k3, fun k z hk hne => ?_, by simpa using k5⟩
        · cases k with
          | zero => injection hk with hk; subst hk; exact h2
          | succ k => exact k2 k z (by simpa using hk) (by omega)
        · cases k with
          | zero => injection hk with hk; subst hk; exact ⟨0, h1.rep I.sat (cpO_rep hM I x 0)⟩
          | succ k => simpa using k4 k z (by simpa using hk) (by omega)
/-- What the call leaves in slot s; its argument must be one that can be handed over. -/
def leftF (pins : List Nat) (M : Nat → A) (outs : List (Nat × List T)) (s i : Nat) : Option A := match M s with
  | .t (.own _ k l) => if pins.contains s then none else some (.t (.d (.seq k l)))
  | .box l => match outs.find? fun x => x.1 == i with
    | some x => if (noPt l && noPt x.2) = true then some (.box x.2) else none
    | none => none
  | _ => none
theorem leftF_eff {M S : Nat → A} (hM : Mk M S) {pins : List Nat} {outs : List (Nat × List T)} {s i d : Nat} {z r : A} (hz : leftF pins M outs s i = some z) (hd : d < OB) : effOK S [(s, z), (d, r)] := by
  unfold leftF at hz
  split at hz
  · split at hz
    · cases hz
    · injection hz with hz; subst hz; exact eff_2 (stb_of hM (by assumption) rfl) rfl hd
  · split at hz
    · split at hz
      · injection hz with hz; subst hz; exact eff_2 (stb_of hM (by assumption) rfl) rfl hd
      · cases hz
    · cases hz
  · cases hz
theorem ok_callm {N : Nat} (hM : Mk M S) {op : Oper} {d f s i : Nat} {xs : List Operand} {ts : Array TypeId} {fx : Operand} (hop : op.op = .call { callee := .value fx, args := xs.toArray, argTypes := ts }) (hfx : vO M fx = some (.func (.func f) #[] #[])) (hd : op.dst = some d) (hok : okD N pins S d = true) {fn : Func} (hfn : P.funcs[f]? = some fn) (hbody : fn.body.isNone = false) (hname : (fn.name == "runtime.NumGoroutine") = false)
    {args : List A} {outs : List (Nat × List T)} {r z : A} (hargs : MvArgs M s i xs args) (hz : leftF pins M outs s i = some z) (hds : (d == s || !Nat.blt s OB || !Nat.blt i OB) = false) (hf : FC P f args outs r) (hnr : r.noRef = true) : OpOK P pins N op S (upd (upd S s z) d r) := by
  intro w0 m0 o0 G a w m o hN I K Q hK
  obtain ⟨h1, h2, h3⟩ := okD_iff hok
  have hs : M s = S s := by
    rcases hM s with e | e
    · rw [leftF, e] at hz; cases hz
    · exact e
  have hkey : (S s).movable = true ∧ ∃ l', z = leftA (S s) l' ∧ ((∃ E k l, S s = .t (.own E k l) ∧ s ∉ pins) ∨ (∃ l, S s = .box l ∧ (i, l') ∈ outs ∧ noPt l' = true)) := by
    unfold leftF at hz
    rw [hs] at hz
    split at hz
    · rename_i E k l hS
      split at hz
      · cases hz
      · rename_i hp
        injection hz with hz
        subst hz
        rw [hS]
        exact ⟨rfl, [], rfl, .inl ⟨E, k, l, rfl, by simpa using hp⟩⟩
    · rename_i l hS
      split at hz
      · rename_i x hx
        split at hz
        case isFalse => cases hz
        rename_i hpt
        rw [Bool.and_eq_true] at hpt
        injection hz with hz
        subst hz
        rw [hS]
        have hm := List.mem_of_find?_eq_some hx
        have he : x.1 = i := by simpa using List.find?_some hx
        exact ⟨hpt.1, x.2, rfl, .inr ⟨l, rfl, by rw [← he]; exact hm, hpt.2⟩⟩
      · cases hz
    · cases hz
  obtain ⟨hmv, l', rfl, hkind⟩ := hkey
  simp only [Bool.or_eq_false_iff, Bool.not_eq_false', beq_eq_false_iff_ne] at hds
  obtain ⟨⟨hds, hsO⟩, hiO⟩ := hds
  have hsO : s < OB := by simpa using hsO
  have hiO : i < OB := by simpa using hiO
  obtain ⟨k1, k2, k3, k4, k5⟩ := mvargs_rep hM I hsO hs hmv i xs args hargs
  have hc := call_move I hf k1 hmv k2 hkind (vals := (xs.map a.eval).toArray) (by simpa using k3) (fun k x hk hne => by simpa using k4 k x hk hne) (by simpa using k5) (d := d) (by omega) h2 h3 hds hsO hiO hnr
  unfold Oper.wp
  have hrun : (execOp a.eval op).run P w = .ok (.enter f (xs.map a.eval).toArray) w := by
    unfold execOp
    rw [hop]
    simp only [resolve, vO_eq hM I hfx, Deferred.ofValue, List.map_toArray]
    have hb : fn.body ≠ none := fun e => by rw [e] at hbody; cases hbody
    have hn : fn.name ≠ "runtime.NumGoroutine" := fun e => by rw [e] at hname; simp at hname
    simp [invoke, callFunc, hfn, hn, hb]
  rw [hrun]
  refine Calls.mono hc ?_
  rintro e w' ⟨u, m', o', rfl, J⟩
  rw [← hd] at J
  exact hK _ _ _ _ (by rw [put_size, hN]) J
theorem op_callm {P : Program} {pins : List Nat} {N : Nat} {op : Oper} {d f s i : Nat} {L : SL} {xs : List Operand} {ts : Array TypeId} {fx : Operand} (hop : op.op = .call { callee := .value fx, args := xs.toArray, argTypes := ts }) (hfx : vO (gt L) fx = some (.func (.func f) #[] #[])) (hd : op.dst = some d) (hok : okD N pins (gt L) d = true)
    {fn : Func} (hfn : P.funcs[f]? = some fn) (hbody : fn.body.isNone = false) (hname : (fn.name == "runtime.NumGoroutine") = false) {args : List A} {outs : List (Nat × List T)} {r z : A} (hf : FC P f args outs r) (hargs : MvArgs (gt L) s i xs args) (hz : leftF pins (gt L) outs s i = some z) (hds : (d == s || !Nat.blt s OB || !Nat.blt i OB) = false) (hnr : r.noRef = true) : aOp P pins N op L ((d, r) :: (s, z) :: L) := by
  show OpH _ _ _ _ _ (gt ((d, r) :: (s, z) :: L))
  rw [gt_cons, gt_cons]
  exact .of (e := [(s, z), (d, r)]) fun hN => ⟨ok_callm (Mk_hx _) hop hfx hd (okD_hx hN hok) hfn hbody hname hargs hz hds hf hnr, leftF_eff (Mk.refl _) hz (okD_lo hN hok)⟩
end
end Go.Proofs.Ytikaahmonocahaa
