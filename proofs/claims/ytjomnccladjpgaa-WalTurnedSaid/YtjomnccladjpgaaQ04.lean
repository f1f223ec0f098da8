/-
  Texts joined: see the remark at the head of each part.
-/
import Derived.Test.YtjomnccladjpgaaQ03
import Derived.Test.YtjomnccladjpgaaQ00
set_option linter.unusedVariables false
set_option linter.unusedSimpArgs false
/-
  A call that is handed what slot s owns: a slice that may grow, or the address of a variable.
-/
namespace Go.Proofs.Ytjomnccladjpgaa
open Go Go.RowKit
set_option linter.unusedVariables false

/-- What slot s holds goes to the callee's slot i. -/
def movO (o : OwnM) (s i : Nat) : OwnM := fun g => match o g with
  | some (s', j) => if s' = s then some (i, j) else none
  | none => none

def keptO (o : OwnM) (d s : Nat) : OwnM := fun g => match o g with
  | some (t, j) => if t = d ∨ t = s then none else some (t, j)
  | none => none
theorem keptO_iff {o : OwnM} {d s g : Nat} {l : Nat × Nat} : keptO o d s g = some l ↔ l.1 ≠ d ∧ l.1 ≠ s ∧ o g = some l := by
  unfold keptO
  constructor
  · intro h
    split at h
    · rename_i t j hg
      split at h
      · cases h
      · rename_i hn
        injection h with h
        subst h
        exact ⟨fun e => hn (.inl e), fun e => hn (.inr e), hg⟩
    · cases h
  · rintro ⟨h1, h2, h⟩
    obtain ⟨t, j⟩ := l
    rw [h]
    simp [show t ≠ d from h1, show t ≠ s from h2]
def mixO (o o' : OwnM) (d s i ρ : Nat) (b : Bool) : OwnM := fun g => match o' g with
  | some (t, j) => if t = ρ then some (d, j) else if t = i ∧ b = true then some (s, j) else keptO o d s g
  | none => keptO o d s g

section
variable {w0 : World} {m0 : Mem} {o0 : OwnM} {G : Nat → Prop} {pins : List Nat} {S M : Nat → A} {a : Act} {w : World} {m : Mem} {o : OwnM} {P : Program}
theorem movO_iff {o : OwnM} {s i : Nat} {g : Nat} {l : Nat × Nat} : movO o s i g = some l ↔ l.1 = i ∧ o g = some (s, l.2) := by
  unfold movO
  constructor
  · intro h
    split at h
    · rename_i s' j hg
      split at h
      · rename_i e
        injection h with h
        subst h e
        exact ⟨rfl, hg⟩
      · cases h
    · cases h
  · rintro ⟨rfl, h⟩
    rw [h]
    simp
/-- What is left in slot s: what a slice holds, for good; the variable as the callee has left it. -/
def leftA : A → List T → A
  | .t (.own _ k l), _ => .t (.d (.seq k l))
  | _, l' => .box l'
def A.movable : A → Bool
  | .t (.own _ _ _) => true
  | .box l => noPt l
  | _ => false

theorem call_move (I : Inv w0 m0 o0 G pins S a w m o) {f : FuncId} {args : List A} {outs : List (Nat × List T)} {r : A} (hf : FC P f args outs r) {s i : Nat} (hi : args[i]? = some (S s)) (hmov : (S s).movable = true) (hother : ∀ k x, args[k]? = some x → k ≠ i → x.plain = true)
    {l' : List T} (hkind : (∃ E k l, S s = .t (.own E k l) ∧ s ∉ pins) ∨ (∃ l, S s = .box l ∧ (i, l') ∈ outs ∧ noPt l' = true)) {vals : Array Value} (hv : vals.size = args.length) (hr : ∀ k x, args[k]? = some x → k ≠ i → ∃ s, RepA m w o S s x (vals.getD k undef)) (hvi : vals.getD i undef = a.tmps.getD s undef)
    {d : Nat} (hd : d < a.tmps.size) (hbox : (S d).isBox = false) (hpin : d ∉ pins) (hds : d ≠ s) (hsO : s < OB) (hiO : i < OB) (hnr : r.noRef = true) :
    Calls P f vals w fun e w' => ∃ u m' o', e = .returned u ∧ Inv w0 m0 o0 G pins (upd (upd S s (leftA (S s) l')) d r) (a.put (some d) u) w' m' o' := by
  have hil : i < args.length := (List.getElem?_eq_some_iff.1 hi).1
  have hreloc : ∀ g j, o g = some (s, j) → movO o s i g = some (i, j) := fun g j h => movO_iff.2 ⟨rfl, h⟩
  have hrep : ∀ t, RepA m w (movO o s i) (argS args) t (argS args t) (vals.getD t undef) := by
    intro t
    unfold argS
    rw [List.getD_eq_getElem?_getD]
    cases hx : args[t]? with
    | none => trivial
    | some x =>
      by_cases e : t = i
      · subst e
        rw [hi] at hx
        injection hx with hx
        subst hx
        rw [hvi]
        have hsl := I.slots s
        revert hsl hmov
        cases S s with
        | box l =>
          rintro hmov ⟨g, e1, e2⟩
          exact ⟨g, fun _ => e1 hsO, e2.reloc hreloc hmov⟩
        | t z =>
          intro hmov hsl
          cases z with
          | own E k l => exact hsl.reloc hreloc rfl
          | _ => cases hmov
        | _ => intro hmov; cases hmov
      · obtain ⟨s', h⟩ := hr t x hx e
        exact plain_rep (hother t x hx e) h
  refine (hf w m (movO o s i) vals I.sat (I.tbl.trans I.mono) (fun g l h => ⟨I.lt g _ (movO_iff.1 h).2, by rw [(movO_iff.1 h).1]; exact hiO⟩) (fun g g' l h h' => I.inj g g' _ (movO_iff.1 h).2 (movO_iff.1 h').2) hv hrep).mono ?_
  rintro e w' ⟨u, m', o', S', a', ρ, rfl, J, hr, hout⟩
  have hgr : ∀ g, movO o s i g ≠ none → ∃ j, o g = some (s, j) := by
    intro g h
    cases hg : movO o s i g with
    | none => exact absurd hg h
    | some l => exact ⟨_, (movO_iff.1 hg).2⟩
  have hS : Same (fun g => ∃ j, o g = some (s, j)) w w' := J.same.weaken fun g h => hgr g h
  have hold : ∀ b, b < w.heap.size → (∀ j, o b ≠ some (s, j)) → m' b = m b := fun b hb hn => J.old b hb fun h => by
    obtain ⟨j, hj⟩ := hgr b h
    exact hn j hj
  have hnew : ∀ g l, o' g = some l → (∃ j, o g = some (s, j)) ∨ w.heap.size ≤ g := fun g l h => (J.own g l h).imp (hgr g) id
  -- the box, if it is one
  let isb : Prop := ∃ l, S s = .box l
  have hρ : isb → ρ ≠ i := by
    rintro ⟨l, hl⟩
    rcases hkind with ⟨E, k, l2, h, _⟩ | ⟨l2, h, ho, _⟩
    · rw [hl] at h; cases h
    · exact fun e => (hout i l' ho).2 e.symm
  let o2 : OwnM := mixO o o' d s i ρ (S s).isBox
  have hisb : (S s).isBox = true ↔ isb := by
    constructor
    · intro h; cases hx : S s with
      | box l => exact ⟨l, hx⟩
      | _ => rw [hx] at h; cases h
    · rintro ⟨l, hl⟩; rw [hl]; rfl
  -- owners that were not handed over have no part in the callee's
  have hdis : ∀ g t j, o g = some (t, j) → t ≠ s → o' g = none := by
    intro g t j h ht
    cases ho : o' g with
    | none => rfl
    | some l =>
      rcases hnew g l ho with ⟨j', hj'⟩ | hge
      · rw [h] at hj'
        injection hj' with hj'
        injection hj' with hj' _
        exact absurd hj' ht
      · exact absurd (I.lt g _ h) (by omega)
  have ho2n : ∀ g j, o' g = some (ρ, j) → o2 g = some (d, j) := by
    intro g j h
    show mixO o o' d s i ρ (S s).isBox g = _
    unfold mixO
    rw [h]
    simp
  have ho2b : isb → ∀ g j, o' g = some (i, j) → o2 g = some (s, j) := by
    intro hb g j h
    show mixO o o' d s i ρ (S s).isBox g = _
    unfold mixO
    rw [h]
    show (if i = ρ then _ else _) = _
    rw [if_neg (fun e => hρ hb e.symm)]
    simp [hisb.2 hb]
  have ho2o : ∀ g t j, o g = some (t, j) → t ≠ d → t ≠ s → o2 g = some (t, j) := by
    intro g t j h h1 h2
    show mixO o o' d s i ρ (S s).isBox g = _
    unfold mixO
    rw [hdis g t j h h2]
    exact keptO_iff.2 ⟨h1, h2, h⟩
  have ho2 : ∀ g l, o2 g = some l → (l.1 = d ∧ o' g = some (ρ, l.2)) ∨ (l.1 = s ∧ isb ∧ o' g = some (i, l.2)) ∨ (l.1 ≠ d ∧ l.1 ≠ s ∧ o g = some l) := by
    intro g l h
    change mixO o o' d s i ρ (S s).isBox g = _ at h
    unfold mixO at h
    split at h
    · rename_i t j hg
      split at h
      · rename_i e
        injection h with h
        subst h e
        exact .inl ⟨rfl, hg⟩
      · split at h
        · rename_i e
          injection h with h
          subst h
          exact .inr (.inl ⟨rfl, hisb.1 e.2, by rw [hg, e.1]⟩)
        · exact .inr (.inr (keptO_iff.1 h))
    · exact .inr (.inr (keptO_iff.1 h))
  have K : Keep (fun l => l.1 = d ∨ l.1 = s) m w o m' w' o2 := by
    refine ⟨J.mono, fun g l h hn => ?_, fun g l h hn => ?_, fun g l h hn => ?_, fun g j h => ho2o g _ 0 h (OB_ne (Nat.lt_of_lt_of_le hd I.wide)) (OB_ne hsO), fun g t k hn h => ?_, fun g j h => .of_eq (hS.block g (I.lt g _ h) fun ⟨q, hq⟩ => ?_)⟩
    · refine hold g (I.lt g l h) fun j hj => hn (.inr ?_)
      rw [h] at hj; injection hj with hj; rw [hj]
    · refine hS.block g (I.lt g l h) fun ⟨j, hj⟩ => hn (.inr ?_)
      rw [h] at hj; injection hj with hj; rw [hj]
    · obtain ⟨t, j⟩ := l
      exact ho2o g t j h (fun e => hn (.inl e)) (fun e => hn (.inr e))
    · rcases ho2 g _ h with ⟨e, _⟩ | ⟨e, _, _⟩ | ⟨_, _, h⟩
      · exact absurd (.inl e) hn
      · exact absurd (.inr e) hn
      · exact ⟨g, k, h⟩
    · rw [h] at hq
      injection hq with hq
      injection hq with hq _
      exact OB_ne hsO hq
  refine ⟨u, m', o2, rfl, ?_, J.sat, I.mono.trans J.mono, fun b hb hg => ?_, fun g l h => ?_, fun g l h => ?_, fun g g' l h h' => ?_, fun t ht g hg => ?_, fun t => ?_, I.defers, I.tbl, by rw [put_size]; exact I.wide, I.shps.keep I.pinned K.sh⟩
  · refine I.same.trans (hS.weaken ?_)
    rintro k ⟨j, hj⟩
    exact I.own k _ hj
  · rw [hold b (Nat.lt_of_lt_of_le hb I.same.size) (fun j hj => ?_)]
    · exact I.old b hb hg
    · rcases I.own b _ hj with h | h
      · exact hg h
      · omega
  · rcases ho2 g l h with ⟨_, h1⟩ | ⟨_, _, h1⟩ | ⟨_, _, h1⟩
    · rcases hnew g _ h1 with ⟨j, hj⟩ | hge
      · exact I.own g _ hj
      · exact .inr (Nat.le_trans I.same.size hge)
    · rcases hnew g _ h1 with ⟨j, hj⟩ | hge
      · exact I.own g _ hj
      · exact .inr (Nat.le_trans I.same.size hge)
    · exact I.own g l h1
  · rcases ho2 g l h with ⟨_, h1⟩ | ⟨_, _, h1⟩ | ⟨_, _, h1⟩
    · exact J.lt g _ h1
    · exact J.lt g _ h1
    · exact Nat.lt_of_lt_of_le (I.lt g l h1) hS.size
  · rcases ho2 g l h with ⟨h2, h1⟩ | ⟨h2, hb, h1⟩ | ⟨h2, h3, h1⟩ <;> rcases ho2 g' l h' with ⟨h2', h1'⟩ | ⟨h2', hb', h1'⟩ | ⟨h2', h3', h1'⟩
    · exact J.inj g g' _ h1 h1'
    · exact absurd (h2.symm.trans h2') hds
    · exact absurd h2 h2'
    · exact absurd (h2'.symm.trans h2) hds
    · exact J.inj g g' _ h1 h1'
    · exact absurd h2 h3'
    · exact absurd h2' h2
    · exact absurd h2' h3
    · exact I.inj g g' l h1 h1'
  · have h1 := I.pinned t ht g hg
    by_cases e : t = s
    · subst e
      rcases hkind with ⟨E, k, l, h, hsp⟩ | ⟨l, h, ho, _⟩
      · exact ht.elim (fun ht => absurd ht hsp) fun ht => by omega
      · have hb : isb := ⟨l, h⟩
        have hidx : i ∈ boxIdx 0 args := by
          have : ∀ (n : Nat) (as : List A) (k : Nat), as[k]? = some (A.box l) → n + k ∈ boxIdx n as := by
            intro n as
            induction as generalizing n with
            | nil => intro k hk; simp at hk
            | cons x r ih =>
              intro k hk
              cases k with
              | zero =>
                injection hk with hk
                subst hk
                simp [boxIdx]
              | succ k =>
                have := ih (n + 1) k (by simpa using hk)
                rw [show n + (k + 1) = n + 1 + k by omega]
                cases x <;> simp [boxIdx, this]
          have := this 0 args i (by rw [hi, h])
          simpa using this
        exact ho2b hb g 0 (J.pinned i (.inl hidx) g (movO_iff.2 ⟨rfl, h1⟩))
    · exact ho2o g t 0 h1 (fun e' => ht.elim (fun ht => hpin (by rw [← e']; exact ht)) fun ht => by have := I.wide; omega) e
  · rw [getD_put]
    by_cases h : t = d
    · subst h
      rw [if_pos ⟨rfl, hd⟩, upd_same]
      exact hr.reloc ho2n hnr
    · rw [if_neg (fun e => h e.1), upd_other h]
      by_cases hs : t = s
      · subst hs
        rw [upd_same]
        rcases hkind with ⟨E, k, l, hl, hsp⟩ | ⟨l, hl, ho, hpt⟩
        · rw [hl]
          have := I.slots t
          rw [hl] at this
          exact (own_seq I.sat this).mono J.mono
        · rw [hl]
          have h1 := I.slots t
          rw [hl] at h1
          obtain ⟨g, hv, hbx⟩ := h1
          have hg : o' g = some (i, 0) := by
            have hidx : i ∈ boxIdx 0 args := by
              have : ∀ (n : Nat) (as : List A) (k : Nat), as[k]? = some (A.box l) → n + k ∈ boxIdx n as := by
                intro n as
                induction as generalizing n with
                | nil => intro k hk; simp at hk
                | cons x r ih =>
                  intro k hk
                  cases k with
                  | zero =>
                    injection hk with hk
                    subst hk
                    simp [boxIdx]
                  | succ k =>
                    have := ih (n + 1) k (by simpa using hk)
                    rw [show n + (k + 1) = n + 1 + k by omega]
                    cases x <;> simp [boxIdx, this]
              have := this 0 args i (by rw [hi, hl])
              simpa using this
            exact J.pinned i (.inl hidx) g (movO_iff.2 ⟨rfl, hbx.1⟩)
          have h2 := J.slots i
          rw [(hout i l' ho).1] at h2
          obtain ⟨g2, hv2, hbx2⟩ := h2
          have := J.inj g g2 _ hg hbx2.1
          subst this
          exact ⟨g, hv, hbx2.reloc (o' := o2) (s' := t) (ho2b ⟨l, hl⟩) hpt⟩
      · rw [upd_other hs]
        have hrt := I.slots t
        cases hx : S t with
        | ref b off =>
          rw [hx] at hrt
          obtain ⟨g, k1, k2, k3⟩ := hrt
          by_cases hbO : b < OB
          case neg =>
            obtain ⟨j, rfl⟩ : ∃ j, b = OB + j := ⟨b - OB, by omega⟩
            exact ⟨g, K.pt g j k1, k2, fun h => absurd h hbO⟩
          obtain ⟨l, k3⟩ := k3 hbO
          have hbd : b ≠ d := fun e => by subst e; rw [k3] at hbox; cases hbox
          by_cases hbs : b = s
          · subst hbs
            rcases hkind with ⟨E, k, l2, hl, _⟩ | ⟨l2, hl, ho, _⟩
            · rw [k3] at hl; cases hl
            · refine ⟨g, ?_, k2, fun _ => ⟨l', ?_⟩⟩
              · have hidx : i ∈ boxIdx 0 args := by
                  have : ∀ (n : Nat) (as : List A) (k : Nat), as[k]? = some (A.box l2) → n + k ∈ boxIdx n as := by
                    intro n as
                    induction as generalizing n with
                    | nil => intro k hk; simp at hk
                    | cons x r ih =>
                      intro k hk
                      cases k with
                      | zero =>
                        injection hk with hk
                        subst hk
                        simp [boxIdx]
                      | succ k =>
                        have := ih (n + 1) k (by simpa using hk)
                        rw [show n + (k + 1) = n + 1 + k by omega]
                        cases x <;> simp [boxIdx, this]
                  have := this 0 args i (by rw [hi, hl])
                  simpa using this
                exact ho2b ⟨l2, hl⟩ g 0 (J.pinned i (.inl hidx) g (movO_iff.2 ⟨rfl, k1⟩))
              · rw [upd_other hbd, upd_same, hl]; rfl
          · exact ⟨g, ho2o g b 0 k1 hbd hbs, k2, fun _ => ⟨l, by rw [upd_other hbd, upd_other hbs, k3]⟩⟩
        | _ =>
          rw [← hx]
          refine RepA.keep K (fun j e => e.elim h hs) (fun b off e _ => ?_) hrt
          rw [hx] at e
          cases e

/-- The arguments of such a call: the i-th is what slot s holds. -/
def MvArgs (M : Nat → A) (s : Nat) : Nat → List Operand → List A → Prop
  | 0, x :: xs, y :: ys => (y = M s ∧ (x = .tmp s ∨ cpO M x = .ref s 0)) ∧ WkArgs (xs.map (cpO M)) ys ∧ ys.all A.plain = true
  | i + 1, x :: xs, y :: ys => (WkA (cpO M x) y ∧ y.plain = true) ∧ MvArgs M s i xs ys
  | _, _, _ => False
theorem wkargs_rep (hM : Mk M S) (I : Inv w0 m0 o0 G pins S a w m o) : ∀ (xs : List Operand) (args : List A), WkArgs (xs.map (cpO M)) args → (xs.map a.eval).length = args.length ∧ ∀ (i : Nat) (x : A), args[i]? = some x → ∃ s, RepA m w o S s x ((xs.map a.eval).getD i undef) := by
  intro xs
  induction xs with
  | nil => intro args h; cases h; exact ⟨rfl, fun i x h => by simp at h⟩
  | cons y ys ih =>
    intro args h
    cases h with
    | cons hx ht =>
      obtain ⟨k1, k2⟩ := ih _ ht
      refine ⟨by simpa using k1, fun i x hi => ?_⟩
      cases i with
      | zero => injection hi with hi; subst hi; exact ⟨0, hx.rep I.sat (cpO_rep hM I y 0)⟩
      | succ i => simpa using k2 i x (by simpa using hi)
theorem mvargs_rep (hM : Mk M S) (I : Inv w0 m0 o0 G pins S a w m o) {s : Nat} (hsO : s < OB) (hs : M s = S s) (hmv : (S s).movable = true) : ∀ (i : Nat) (xs : List Operand) (args : List A), MvArgs M s i xs args →
    args[i]? = some (S s) ∧ (∀ k x, args[k]? = some x → k ≠ i → x.plain = true) ∧ (xs.map a.eval).length = args.length ∧ (∀ k x, args[k]? = some x → k ≠ i → ∃ s, RepA m w o S s x ((xs.map a.eval).getD k undef)) ∧ (xs.map a.eval).getD i undef = a.tmps.getD s undef := by
  intro i
  induction i with
  | zero =>
    intro xs args h
    cases xs with
    | nil => cases args <;> exact h.elim
    | cons x xs =>
      cases args with
      | nil => exact h.elim
      | cons y ys =>
        obtain ⟨⟨h1, h2⟩, h3, h4⟩ := h
        obtain ⟨k1, k2⟩ := wkargs_rep hM I xs ys h3
        refine ⟨by rw [h1, hs]; rfl, fun k z hk hne => ?_, by simpa using k1, fun k z hk hne => ?_, ?_⟩
        · cases k with
          | zero => exact absurd rfl hne
          | succ k => exact List.all_eq_true.1 h4 z (List.mem_of_getElem? (by simpa using hk))
        · cases k with
          | zero => exact absurd rfl hne
          | succ k => simpa using k2 k z (by simpa using hk)
        · show a.eval x = _
          rcases h2 with rfl | h2
          · rfl
          · have hx := cpO_rep hM I x 0
            rw [h2] at hx
            obtain ⟨g, q1, q2, q3⟩ := hx
            obtain ⟨l, q3⟩ := q3 hsO
            have hsl := I.slots s
            rw [q3] at hsl
            obtain ⟨g', q4, q5, _⟩ := hsl
            have := I.inj _ _ _ q1 q5
            subst this
            rw [q2, q4 hsO]
  | succ i ih =>
    intro xs args h
    cases xs with
    | nil => cases args <;> exact h.elim
    | cons x xs =>
      cases args with
      | nil => exact h.elim
      | cons y ys =>
        obtain ⟨⟨h1, h2⟩, h3⟩ := h
        obtain ⟨k1, k2, k3, k4, k5⟩ := ih xs ys h3
        refine ⟨by simpa using k1, fun k z hk hne => ?_, by simpa using k3, fun k z hk hne => ?_, by simpa using k5⟩
        · cases k with
          | zero => injection hk with hk; subst hk; exact h2
          | succ k => exact k2 k z (by simpa using hk) (by omega)
        · cases k with
          | zero => injection hk with hk; subst hk; exact ⟨0, h1.rep I.sat (cpO_rep hM I x 0)⟩
          | succ k => simpa using k4 k z (by simpa using hk) (by omega)
/-- What the call leaves in slot s; its argument must be one that can be handed over. -/
def leftF (pins : List Nat) (M : Nat → A) (outs : List (Nat × List T)) (s i : Nat) : Option A := match M s with
  | .t (.own _ k l) => if pins.contains s then none else some (.t (.d (.seq k l)))
  | .box l => match outs.find? fun x => x.1 == i with
    | some x => if (noPt l && noPt x.2) = true then some (.box x.2) else none
    | none => none
  | _ => none
theorem leftF_eff {M S : Nat → A} (hM : Mk M S) {pins : List Nat} {outs : List (Nat × List T)} {s i d : Nat} {z r : A} (hz : leftF pins M outs s i = some z) (hd : d < OB) : effOK S [(s, z), (d, r)] := by
  unfold leftF at hz
  split at hz
  · split at hz
    · cases hz
    · injection hz with hz; subst hz; exact eff_2 (stb_of hM (by assumption) rfl) rfl hd
  · split at hz
    · split at hz
      · injection hz with hz; subst hz; exact eff_2 (stb_of hM (by assumption) rfl) rfl hd
      · cases hz
    · cases hz
  · cases hz
theorem ok_callm {N : Nat} (hM : Mk M S) {op : Oper} {d f s i : Nat} {xs : List Operand} {ts : Array TypeId} {fx : Operand} (hop : op.op = .call { callee := .value fx, args := xs.toArray, argTypes := ts }) (hfx : vO M fx = some (.func (.func f) #[] #[])) (hd : op.dst = some d) (hok : okD N pins S d = true) {fn : Func} (hfn : P.funcs[f]? = some fn) (hbody : fn.body.isNone = false) (hname : (fn.name == "runtime.NumGoroutine") = false)
    {args : List A} {outs : List (Nat × List T)} {r z : A} (hargs : MvArgs M s i xs args) (hz : leftF pins M outs s i = some z) (hds : (d == s || !Nat.blt s OB || !Nat.blt i OB) = false) (hf : FC P f args outs r) (hnr : r.noRef = true) : OpOK P pins N op S (upd (upd S s z) d r) := by
  intro w0 m0 o0 G a w m o hN I K Q hK
  obtain ⟨h1, h2, h3⟩ := okD_iff hok
  have hs : M s = S s := by
    rcases hM s with e | e
    · rw [leftF, e] at hz; cases hz
    · exact e
  have hkey : (S s).movable = true ∧ ∃ l', z = leftA (S s) l' ∧ ((∃ E k l, S s = .t (.own E k l) ∧ s ∉ pins) ∨ (∃ l, S s = .box l ∧ (i, l') ∈ outs ∧ noPt l' = true)) := by
    unfold leftF at hz
    rw [hs] at hz
    split at hz
    · rename_i E k l hS
      split at hz
      · cases hz
      · rename_i hp
        injection hz with hz
        subst hz
        rw [hS]
        exact ⟨rfl, [], rfl, .inl ⟨E, k, l, rfl, by simpa using hp⟩⟩
    · rename_i l hS
      split at hz
      · rename_i x hx
        split at hz
        case isFalse => cases hz
        rename_i hpt
        rw [Bool.and_eq_true] at hpt
        injection hz with hz
        subst hz
        rw [hS]
        have hm := List.mem_of_find?_eq_some hx
        have he : x.1 = i := by simpa using List.find?_some hx
        exact ⟨hpt.1, x.2, rfl, .inr ⟨l, rfl, by rw [← he]; exact hm, hpt.2⟩⟩
      · cases hz
    · cases hz
  obtain ⟨hmv, l', rfl, hkind⟩ := hkey
  simp only [Bool.or_eq_false_iff, Bool.not_eq_false', beq_eq_false_iff_ne] at hds
  obtain ⟨⟨hds, hsO⟩, hiO⟩ := hds
  have hsO : s < OB := by simpa using hsO
  have hiO : i < OB := by simpa using hiO
  obtain ⟨k1, k2, k3, k4, k5⟩ := mvargs_rep hM I hsO hs hmv i xs args hargs
  have hc := call_move I hf k1 hmv k2 hkind (vals := (xs.map a.eval).toArray) (by simpa using k3) (fun k x hk hne => by simpa using k4 k x hk hne) (by simpa using k5) (d := d) (by omega) h2 h3 hds hsO hiO hnr
  unfold Oper.wp
  have hrun : (execOp a.eval op).run P w = .ok (.enter f (xs.map a.eval).toArray) w := by
    unfold execOp
    rw [hop]
    simp only [resolve, vO_eq hM I hfx, Deferred.ofValue, List.map_toArray]
    have hb : fn.body ≠ none := fun e => by rw [e] at hbody; cases hbody
    have hn : fn.name ≠ "runtime.NumGoroutine" := fun e => by rw [e] at hname; simp at hname
    simp [invoke, callFunc, hfn, hn, hb]
  rw [hrun]
  refine Calls.mono hc ?_
  rintro e w' ⟨u, m', o', rfl, J⟩
  rw [← hd] at J
  exact hK _ _ _ _ (by rw [put_size, hN]) J
theorem op_callm {P : Program} {pins : List Nat} {N : Nat} {op : Oper} {d f s i : Nat} {L : SL} {xs : List Operand} {ts : Array TypeId} {fx : Operand} (hop : op.op = .call { callee := .value fx, args := xs.toArray, argTypes := ts }) (hfx : vO (gt L) fx = some (.func (.func f) #[] #[])) (hd : op.dst = some d) (hok : okD N pins (gt L) d = true)
    {fn : Func} (hfn : P.funcs[f]? = some fn) (hbody : fn.body.isNone = false) (hname : (fn.name == "runtime.NumGoroutine") = false) {args : List A} {outs : List (Nat × List T)} {r z : A} (hf : FC P f args outs r) (hargs : MvArgs (gt L) s i xs args) (hz : leftF pins (gt L) outs s i = some z) (hds : (d == s || !Nat.blt s OB || !Nat.blt i OB) = false) (hnr : r.noRef = true) : aOp P pins N op L ((d, r) :: (s, z) :: L) := by
  show OpH _ _ _ _ _ (gt ((d, r) :: (s, z) :: L))
  rw [gt_cons, gt_cons]
  exact .of (e := [(s, z), (d, r)]) fun hN => ⟨ok_callm (Mk_hx _) hop hfx hd (okD_hx hN hok) hfn hbody hname hargs hz hds hf hnr, leftF_eff (Mk.refl _) hz (okD_lo hN hok)⟩
end
end Go.Proofs.Ytjomnccladjpgaa

/-
  The rules of the walk over data, as a proof uses them: each side condition is closed by rfl.
-/
namespace Go.Proofs.Ytjomnccladjpgaa
open Go Go.RowKit
set_option linter.unusedVariables false

/-- Is slot d appended to in what follows? -/
def wants (d : Nat) : List Oper → Bool
  | [] => false
  | op :: r => (match op.op with
    | .call { callee := .builtin .append, args := ⟨[.tmp s, _]⟩, .. } => s == d
    | _ => false) || wants d r

/-! ### Values told out: what stands in a slot is brought to its plain form -/
def frcN {R : Sort _} : List Nat → Nat → (Nat → R) → R
  | [], k, K => K k
  | n :: r, k, K => bif Nat.beq k n then K n else frcN r k K
theorem frcN_eq {R : Sort _} (k : Nat) (K : Nat → R) : ∀ l, frcN l k K = K k
  | [] => rfl
  | n :: r => by
    unfold frcN
    cases h : Nat.beq k n with
    | true => rw [Nat.eq_of_beq_eq_true h]; rfl
    | false => exact frcN_eq k K r
def frcK {R : Sort _} (k : Nat) (K : Nat → R) : R := frcN [0, 1, 2, 3, 4, 5, 6, 7, 8, 9, 10, 11, 12, 13, 14, 15, 16, 17, 18, 19, 20, 21, 22, 23, 24] k K
theorem frcK_eq {R : Sort _} (k : Nat) (K : Nat → R) : frcK k K = K k := frcN_eq k K _
def frcD {R : Sort _} (b : Bool) (x : D) (K : D → R) : R := match b with
  | false => K x
  | true => match x with
    | .lit v => K (.lit v)
    | .seq k l => frcK k fun k => K (.seq k l)
    | .clo f l => K (.clo f l)
theorem frcD_eq {R : Sort _} (b : Bool) (x : D) (K : D → R) : frcD b x K = K x := by
  cases b <;> cases x <;> simp [frcD, frcK_eq]
def frcDs {R : Sort _} (b : Bool) : List D → (List D → R) → R
  | [], K => K []
  | x :: r, K => frcD b x fun x => frcDs b r fun r => K (x :: r)
theorem frcDs_eq {R : Sort _} (b : Bool) : ∀ (l : List D) (K : List D → R), frcDs b l K = K l
  | [], _ => rfl
  | x :: r, K => by unfold frcDs; rw [frcD_eq, frcDs_eq]
def frcT {R : Sort _} (b : Bool) : T → (T → R) → R
  | .d x, K => frcD b x fun x => K (.d x)
  | .agg l, K => frcDs b l fun l => K (.agg l)
  | .own E k l, K => frcK k fun k => K (.own E k l)
  | x, K => K x
theorem frcT_eq {R : Sort _} (b : Bool) (x : T) (K : T → R) : frcT b x K = K x := by
  cases x <;> simp [frcT, frcD_eq, frcDs_eq, frcK_eq]
def frcTs {R : Sort _} (b : Bool) : List T → (List T → R) → R
  | [], K => K []
  | x :: r, K => frcT b x fun x => frcTs b r fun r => K (x :: r)
theorem frcTs_eq {R : Sort _} (b : Bool) : ∀ (l : List T) (K : List T → R), frcTs b l K = K l
  | [], _ => rfl
  | x :: r, K => by unfold frcTs; rw [frcT_eq, frcTs_eq]
def frcA {R : Sort _} (b : Bool) : A → (A → R) → R
  | .t x, K => frcT b x fun x => K (.t x)
  | .tup l, K => frcTs b l fun l => K (.tup l)
  | .imm l, K => frcDs b l fun l => K (.imm l)
  | .box l, K => frcTs b l fun l => K (.box l)
  | .ref s off, K => frcK off fun off => K (.ref s off)
  | .free, K => K .free
  | .hp f, K => K (.hp f)
  | .mp l, K => K (.mp l)
  | .ag l, K => frcTs b l fun l => K (.ag l)
  | .lst l, K => frcTs b l fun l => K (.lst l)
  | .fr E k, K => K (.fr E k)
  | .any, K => K .any
theorem frcA_eq {R : Sort _} (b : Bool) (x : A) (K : A → R) : frcA b x K = K x := by
  cases x <;> simp [frcA, frcT_eq, frcTs_eq, frcDs_eq, frcK_eq]
def frcE {R : Sort _} (b : Bool) : Eff → (Eff → R) → R
  | [], K => K []
  | (s, x) :: r, K => frcA b x fun x => frcE b r fun r => K ((s, x) :: r)
theorem frcE_eq {R : Sort _} (b : Bool) : ∀ (l : Eff) (K : Eff → R), frcE b l K = K l
  | [], _ => rfl
  | x :: r, K => by unfold frcE; rw [frcA_eq, frcE_eq]
def frcTD {R : Sort _} : List T → (List D → R) → R
  | [], K => K []
  | .d x :: r, K => frcTD r fun r => K (x :: r)
  | .own _ k l :: r, K => frcTD r fun r => K (.seq k l :: r)
  | .agg _ :: r, K => frcTD r fun r => K (.lit undef :: r)
  | .ptr _ _ :: r, K => frcTD r fun r => K (.lit undef :: r)
  | .view _ _ _ _ _ :: r, K => frcTD r fun r => K (.lit undef :: r)
  | .hpt _ _ :: r, K => frcTD r fun r => K (.lit undef :: r)
  | .hvw _ _ _ _ _ :: r, K => frcTD r fun r => K (.lit undef :: r)
  | .mpt _ :: r, K => frcTD r fun r => K (.lit undef :: r)
theorem frcTD_eq {R : Sort _} : ∀ (l : List T) (K : List D → R), frcTD l K = K (l.map toD)
  | [], _ => rfl
  | .d _ :: r, K => by unfold frcTD; rw [frcTD_eq]; rfl
  | .own _ _ _ :: r, K => by unfold frcTD; rw [frcTD_eq]; rfl
  | .agg _ :: r, K => by unfold frcTD; rw [frcTD_eq]; rfl
  | .ptr _ _ :: r, K => by unfold frcTD; rw [frcTD_eq]; rfl
  | .view _ _ _ _ _ :: r, K => by unfold frcTD; rw [frcTD_eq]; rfl
  | .hpt _ _ :: r, K => by unfold frcTD; rw [frcTD_eq]; rfl
  | .hvw _ _ _ _ _ :: r, K => by unfold frcTD; rw [frcTD_eq]; rfl
  | .mpt _ :: r, K => by unfold frcTD; rw [frcTD_eq]; rfl
/-- What an operation does, its values told out. -/
def opN (b : Bool) (P : Program) (pins : List Nat) (tk : Bool) (S : Nat → A) (d : Nat) (op : Op) : Option (Prop × Eff) :=
  match op with
  | .load t x => match cpO S x with
    | .ref s 0 => match S s with
      | .box l => match tyA P t with
        | some (true, n) => if n = l.length ∧ noPt l = true then frcTD l fun l => some (True, [(d, .t (.agg l))]) else match opF P pins tk S d (.load t x) with
          | some (C, e) => frcE b e fun e => some (C, e)
          | none => none
        | _ => match opF P pins tk S d (.load t x) with
          | some (C, e) => frcE b e fun e => some (C, e)
          | none => none
      | _ => none
    | _ => match opF P pins tk S d (.load t x) with
      | some (C, e) => frcE b e fun e => some (C, e)
      | none => none
  | op => match opF P pins tk S d op with
    | some (C, e) => frcE b e fun e => some (C, e)
    | none => none
theorem opN_of {b : Bool} {P : Program} {pins : List Nat} {tk : Bool} {S : Nat → A} {d : Nat} {op : Op} {C : Prop} {e : Eff} (h : opN b P pins tk S d op = some (C, e)) : opF P pins tk S d op = some (C, e) := by
  have key : ∀ z : Option (Prop × Eff), (match z with | some (C, e) => frcE b e fun e => some (C, e) | none => none) = some (C, e) → z = some (C, e) := by
    intro z hz
    cases z with
    | none => cases hz
    | some x => obtain ⟨C', e'⟩ := x; simpa [frcE_eq] using hz
  unfold opN at h
  split at h
  · rename_i t x
    split at h
    · rename_i s hx
      split at h
      · rename_i l hs
        split at h
        · rename_i n ht
          split at h
          · rename_i hn
            rw [frcTD_eq] at h
            rw [← h]
            have htk : takenF P tk S d t x = none := by
              unfold takenF
              split
              · rfl
              · simp only [hx, ht]
            show (match takenF P tk S d t x with | some e => some (True, e) | none => (valF P S (.load t x)).map fun y => (True, [(d, y)])) = _
            rw [htk]
            have : valF P S (.load t x) = some (.t (.agg (l.map toD))) := by
              show ldF P S t x = _
              unfold ldF
              simp only [hx, ht, hs]
              rw [if_pos (by rw [hn.1]; simpa using hn.2), if_pos ⟨trivial, hn.1⟩]
            show (valF P S (.load t x)).map _ = _
            rw [this]
            rfl
          · exact key _ h
        · exact key _ h
      · cases h
    · exact key _ h
  · exact key _ h
def stN (b : Bool) (P : Program) (pins : List Nat) (S : Nat → A) (t : TypeId) (x y : Operand) : Option Eff := match stF P pins S t x y with
  | some e => frcE b e some
  | none => none
theorem stN_of {b : Bool} {P : Program} {pins : List Nat} {S : Nat → A} {t : TypeId} {x y : Operand} {e : Eff} (h : stN b P pins S t x y = some e) : stF P pins S t x y = some e := by
  unfold stN at h
  split at h
  · rename_i e' he
    rw [frcE_eq] at h
    rw [he, h]
  · cases h
/-- The slots behind such effects, told out. -/
def setN {R : Sort _} (b : Bool) : SL → Eff → (SL → R) → R
  | L, [], K => K L
  | L, (s, x) :: r, K => frcA b x fun x => setN b ((s, x) :: L) r K
theorem setN_eq {R : Sort _} (b : Bool) : ∀ (e : Eff) (L : SL) (K : SL → R), setN b L e K = K (setL L e)
  | [], _, _ => rfl
  | (s, x) :: r, L, K => by unfold setN; rw [frcA_eq, setN_eq]; rfl
theorem setN_of {b : Bool} {L L' : SL} {e : Eff} (h : setN b L e some = some L') : setL L e = L' := by
  rw [setN_eq] at h
  injection h

section
variable {P : Program} {pins : List Nat} {N : Nat} {ops : Array Oper} {Q : SL → Prop} {r : List Oper} {op : Oper} {L L' : SL}
theorem o_step {d : Nat} {C : Prop} {eff eff' : Eff} (hg : op.guard = none) (hd : op.dst = some d) (hok : okD N pins (gt L) d = true) (h : opF P pins (wants d r) (gt L) d op.op = some (C, eff)) (he : eff = eff') (hL : setN false L eff' some = some L') (hC : C) (k : OpsOK P pins N ops Q r L') : OpsOK P pins N ops Q (op :: r) L := by
  have hL := setN_of hL
  subst he hL
  exact ops_go hg (op_step _ hd hok h hC) k
theorem o_stepN (b : Bool) {d : Nat} {C : Prop} {eff eff' : Eff} (hg : op.guard = none) (hd : op.dst = some d) (hok : okD N pins (gt L) d = true) (h : opN b P pins (wants d r) (gt L) d op.op = some (C, eff)) (he : eff = eff') (hL : setN false L eff' some = some L') (hC : C) (k : OpsOK P pins N ops Q r L') : OpsOK P pins N ops Q (op :: r) L := by
  have hL := setN_of hL
  subst he hL
  exact ops_go hg (op_step _ hd hok (opN_of h) hC) k
theorem o_store {t : Nat} {x y : Operand} {eff : Eff} (hg : op.guard = none) (hop : op.op = .store t x y) (hd : op.dst = none) (h : stF P pins (gt L) t x y = some eff) (hL : setL L eff = L') (k : OpsOK P pins N ops Q r L') : OpsOK P pins N ops Q (op :: r) L := by
  subst hL
  exact ops_go hg (op_store hop hd h) k
theorem o_storeN (b : Bool) {t : Nat} {x y : Operand} {eff : Eff} (hg : op.guard = none) (hop : op.op = .store t x y) (hd : op.dst = none) (h : stN b P pins (gt L) t x y = some eff) (hL : setN false L eff some = some L') (k : OpsOK P pins N ops Q r L') : OpsOK P pins N ops Q (op :: r) L := by
  have hL := setN_of hL
  subst hL
  exact ops_go hg (op_store hop hd (stN_of h)) k
theorem o_call {d f : Nat} {xs : List Operand} {ts : Array TypeId} {args : List A} {y : A} (hf : FC P f args [] y) (hg : op.guard = none) {fx : Operand} (hop : op.op = .call { callee := .value fx, args := xs.toArray, argTypes := ts }) (hfx : vO (gt L) fx = some (.func (.func f) #[] #[])) (hd : op.dst = some d) (hok : okD N pins (gt L) d = true)
    {fn : Func} (hfn : P.funcs[f]? = some fn) (hbody : fn.body.isNone = false) (hname : (fn.name == "runtime.NumGoroutine") = false) (hargs : WkArgs (xs.map (cpO (gt L))) args) (hp : args.all A.plain = true) (hnr : y.noRef = true) (hL : (d, y) :: L = L') (k : OpsOK P pins N ops Q r L') : OpsOK P pins N ops Q (op :: r) L := by
  subst hL
  exact ops_go hg (op_call hop hfx hd hok hfn hbody hname hf hargs hp hnr) k
theorem o_callm (b : Bool) {d f s i : Nat} {xs : List Operand} {ts : Array TypeId} {fx : Operand} {args : List A} {outs : List (Nat × List T)} {y z : A} (hf : FC P f args outs y) (hg : op.guard = none) (hop : op.op = .call { callee := .value fx, args := xs.toArray, argTypes := ts }) (hfx : vO (gt L) fx = some (.func (.func f) #[] #[])) (hd : op.dst = some d) (hok : okD N pins (gt L) d = true)
    {fn : Func} (hfn : P.funcs[f]? = some fn) (hbody : fn.body.isNone = false) (hname : (fn.name == "runtime.NumGoroutine") = false) (hargs : MvArgs (gt L) s i xs args) (hz : leftF pins (gt L) outs s i = some z) (hds : (d == s || !Nat.blt s OB || !Nat.blt i OB) = false) (hnr : y.noRef = true) (hL : setN b L [(s, z), (d, y)] some = some L') (k : OpsOK P pins N ops Q r L') : OpsOK P pins N ops Q (op :: r) L := by
  have hL := setN_of hL
  subst hL
  exact ops_go hg (op_callm hop hfx hd hok hfn hbody hname hf hargs hz hds hnr) k
theorem o_yes_callm (b : Bool) {d f s i j t : Nat} {c want : Bool} {xs : List Operand} {ts : Array TypeId} {fx : Operand} {args : List A} {outs : List (Nat × List T)} {y z : A} (hf : FC P f args outs y) (hg : op.guard = some (j, want)) (ht : (ops[j]?).bind (·.dst) = some t) (hc : gt L t = .t (.d (.lit (.bool c)))) (hw : c = want) (hop : op.op = .call { callee := .value fx, args := xs.toArray, argTypes := ts }) (hfx : vO (gt L) fx = some (.func (.func f) #[] #[])) (hd : op.dst = some d) (hok : okD N pins (gt L) d = true)
    {fn : Func} (hfn : P.funcs[f]? = some fn) (hbody : fn.body.isNone = false) (hname : (fn.name == "runtime.NumGoroutine") = false) (hargs : MvArgs (gt L) s i xs args) (hz : leftF pins (gt L) outs s i = some z) (hds : (d == s || !Nat.blt s OB || !Nat.blt i OB) = false) (hnr : y.noRef = true) (hL : setN b L [(s, z), (d, y)] some = some L') (k : OpsOK P pins N ops Q r L') : OpsOK P pins N ops Q (op :: r) L := by
  have hL := setN_of hL
  subst hL
  exact ops_yes hg ht hc hw (op_callm hop hfx hd hok hfn hbody hname hf hargs hz hds hnr) k
theorem o_yes_step {d j t : Nat} {c want : Bool} {C : Prop} {eff eff' : Eff} (hg : op.guard = some (j, want)) (ht : (ops[j]?).bind (·.dst) = some t) (hc : gt L t = .t (.d (.lit (.bool c)))) (hw : c = want) (hd : op.dst = some d) (hok : okD N pins (gt L) d = true) (h : opF P pins (wants d r) (gt L) d op.op = some (C, eff)) (he : eff = eff') (hL : setN false L eff' some = some L') (hC : C) (k : OpsOK P pins N ops Q r L') : OpsOK P pins N ops Q (op :: r) L := by
  have hL := setN_of hL
  subst he hL
  exact ops_yes hg ht hc hw (op_step _ hd hok h hC) k
theorem o_yes_stepN (b : Bool) {d j t : Nat} {c want : Bool} {C : Prop} {eff eff' : Eff} (hg : op.guard = some (j, want)) (ht : (ops[j]?).bind (·.dst) = some t) (hc : gt L t = .t (.d (.lit (.bool c)))) (hw : c = want) (hd : op.dst = some d) (hok : okD N pins (gt L) d = true) (h : opN b P pins (wants d r) (gt L) d op.op = some (C, eff)) (he : eff = eff') (hL : setN false L eff' some = some L') (hC : C) (k : OpsOK P pins N ops Q r L') : OpsOK P pins N ops Q (op :: r) L := by
  have hL := setN_of hL
  subst he hL
  exact ops_yes hg ht hc hw (op_step _ hd hok (opN_of h) hC) k
theorem o_yes_call {d f j t : Nat} {c want : Bool} {xs : List Operand} {ts : Array TypeId} {args : List A} {y : A} (hf : FC P f args [] y) (hg : op.guard = some (j, want)) (ht : (ops[j]?).bind (·.dst) = some t) (hc : gt L t = .t (.d (.lit (.bool c)))) (hw : c = want) {fx : Operand} (hop : op.op = .call { callee := .value fx, args := xs.toArray, argTypes := ts }) (hfx : vO (gt L) fx = some (.func (.func f) #[] #[])) (hd : op.dst = some d) (hok : okD N pins (gt L) d = true)
    {fn : Func} (hfn : P.funcs[f]? = some fn) (hbody : fn.body.isNone = false) (hname : (fn.name == "runtime.NumGoroutine") = false) (hargs : WkArgs (xs.map (cpO (gt L))) args) (hp : args.all A.plain = true) (hnr : y.noRef = true) (hL : (d, y) :: L = L') (k : OpsOK P pins N ops Q r L') : OpsOK P pins N ops Q (op :: r) L := by
  subst hL
  exact ops_yes hg ht hc hw (op_call hop hfx hd hok hfn hbody hname hf hargs hp hnr) k
theorem o_no {d j t : Nat} {c want : Bool} (hg : op.guard = some (j, want)) (ht : (ops[j]?).bind (·.dst) = some t) (hc : gt L t = .t (.d (.lit (.bool c)))) (hw : c = !want) (hd : op.dst = some d) (hok : okD N pins (gt L) d = true) (hL : (d, .tup []) :: L = L') (k : OpsOK P pins N ops Q r L') : OpsOK P pins N ops Q (op :: r) L := by
  subst hL
  exact ops_no hg ht hc (by rw [hw]; cases want <;> simp) hd hok k
theorem o_nil (h : Q L) : OpsOK P pins N ops Q [] L := h
theorem then_normal {K : SL → Prop} {Q : Exit → SL → Prop} (h : K L) : thenQ K Q .normal L := h

theorem then_exit {K : SL → Prop} {Q : Exit → SL → Prop} {i : Nat} (h : Q (.exit i) L) : thenQ K Q (.exit i) L := h
theorem then_ret {K : SL → Prop} {Q : Exit → SL → Prop} (h : Q .ret L) : thenQ K Q .ret L := h
theorem block_normal {i : Nat} {Q : Exit → SL → Prop} (h : Q .normal L) : blockQ i Q .normal L := h
theorem block_ret {i : Nat} {Q : Exit → SL → Prop} (h : Q .ret L) : blockQ i Q .ret L := h
theorem block_exit {i : Nat} {Q : Exit → SL → Prop} (h : Q .normal L) : blockQ i Q (.exit i) L := by
  show if i = i then _ else _
  rw [if_pos rfl]
  exact h
theorem block_pass {i j : Nat} {Q : Exit → SL → Prop} (hne : (j == i) = false) (h : Q (.exit j) L) : blockQ i Q (.exit j) L := by
  show if j = i then _ else _
  rw [if_neg (by simpa using hne)]
  exact h
theorem c_yes {Q : Exit → SL → Prop} {c : Nat} {x y : Code} (hc : gt L c = .t (.d (.lit (.bool true)))) (hx : CodeOK P pins N x Q L) : CodeOK P pins N (.cond (.tmp c) x y) Q L := c_cond hc (fun _ => hx) (fun h => by cases h)
theorem c_no {Q : Exit → SL → Prop} {c : Nat} {x y : Code} (hc : gt L c = .t (.d (.lit (.bool false)))) (hy : CodeOK P pins N y Q L) : CodeOK P pins N (.cond (.tmp c) x y) Q L := c_cond hc (fun h => by cases h) (fun _ => hy)
theorem fc_mk {f : FuncId} {fn : Func} {c : Code} {args : List A} {rs : List ResultVar} {y : A} {n : Nat} {L : SL} (hf : P.funcs[f]? = some fn) (hb : fn.body = some c) (hn : fn.ntmps = n) (hle : args.length ≤ n) (hres : fn.results = rs.toArray) (hpins : (boxIdx 0 args, Nat.ble n OB) = (pins, true)) (hL : startL 0 args = L) (hc : CodeOK P pins n c (endQ P rs [] y) L) : FC P f args [] y := by
  injection hpins with hpins hw
  subst hn hpins hL
  exact fc_of hf hb hle hres (by split <;> rfl) (Nat.le_of_ble_eq_true hw) [] rfl hc
theorem fc_outs {f : FuncId} {fn : Func} {c : Code} {args : List A} {rs : List ResultVar} {outs : List (Nat × List T)} {y : A} {n : Nat} {L : SL} (hf : P.funcs[f]? = some fn) (hb : fn.body = some c) (hn : fn.ntmps = n) (hle : args.length ≤ n) (hres : fn.results = rs.toArray) (hpins : (boxIdx 0 args, Nat.ble n OB) = (pins, true)) (hL : startL 0 args = L) (hout : (match rs with | [.tmp t] => outs.all fun x => x.1 != t | _ => true) = true) (hc : CodeOK P pins n c (endQ P rs outs y) L) : FC P f args outs y := by
  injection hpins with hpins hw
  subst hn hpins hL
  exact fc_of hf hb hle hres hout (Nat.le_of_ble_eq_true hw) [] rfl hc
theorem end0 {rs : List ResultVar} {r y : A} (h : resA P (gt L) rs = some y) (hw : WkA y r) : endQ P rs [] r .ret L := ⟨⟨y, h, hw⟩, fun x hx => by cases hx⟩
end
/-- What F names is no more than what L tells. -/
def WkS (L : SL) : SL → Prop
  | [] => True
  | (s, y) :: r => WkA (gt L s) y ∧ WkS L r
theorem WkS.get {L : SL} : ∀ {F : SL}, WkS L F → ∀ s, WkA (gt L s) (gt F s)
  | [], _, s => .any _
  | (t, y) :: r, h, s => by
    rw [gt_cons, upd]
    by_cases e : s = t
    · subst e
      rw [if_pos rfl]
      exact h.1
    · rw [if_neg e]
      exact WkS.get h.2 s
def noRefsIn (L0 : SL) : SL → Bool
  | [] => true
  | (_, x) :: r => (match x with | .ref b _ => (gt L0 b).isBox | _ => true) && noRefsIn L0 r
/-- Each address leads to a variable that is told. -/
def noRefs (L : SL) : Bool := noRefsIn L L
/-- What F tells may be told where L is told. -/
def wkOK (_ F : SL) : Bool := noRefs F
theorem gt_refIn {L0 l : SL} (h : noRefsIn L0 l = true) {s b off : Nat} (hs : gt l s = .ref b off) : (gt L0 b).isBox = true := by
  induction l with
  | nil => cases hs
  | cons x r ih =>
    obtain ⟨t, y⟩ := x
    simp only [noRefsIn, Bool.and_eq_true] at h
    rw [gt_cons, upd] at hs
    split at hs
    · subst hs; exact h.1
    · exact ih h.2 hs
section
variable {P : Program} {pins : List Nat} {N : Nat} {Q : Exit → SL → Prop} {L L' : SL}
theorem WkA.of_any {y : A} (h : WkA .any y) : y = .any := by cases h <;> rfl
theorem St.weaken {w0 : World} {m0 : Mem} {o0 : OwnM} {G : Nat → Prop} {a : Act} {w : World} (hS : St w0 m0 o0 G pins N L a w) (hw : WkS L L') (hr : wkOK L L' = true) : St w0 m0 o0 G pins N L' a w := by
  obtain ⟨hN, hlow, m, o, I⟩ := hS
  refine ⟨hN, fun t ht => by have := hw.get t; rw [hlow t ht] at this; exact this.of_any, m, o, I.same, I.sat, I.mono, I.old, I.own, I.lt, I.inj, I.pinned, fun s => ?_, I.defers, I.tbl, I.wide, I.shps⟩
  unfold wkOK at hr
  have hs := I.slots s
  rcases Nat.lt_or_ge s OB2 with hlt | hge
  · rw [hx_lo hlt] at hs ⊢
    have h1 := (hw.get s).rep I.sat hs
    revert h1
    cases hx1 : gt L' s with
    | ref b off =>
      rintro ⟨g, h1, h2, _⟩
      have hb := gt_refIn hr hx1
      cases hl : gt L' b with
      | box l => exact ⟨g, h1, h2, fun _ => ⟨l, hx_of hl (by simp)⟩⟩
      | _ => rw [hl] at hb; cases hb
    | _ => exact fun h => h
  · have hL := hlow s hge
    cases hx1 : gt L' s with
    | any =>
      unfold hx
      rw [hx1]
      simp only
      rw [if_pos hge]
      cases hk : gt L' HK with
      | hp f =>
        have h2 := hw.get HK
        rw [hk] at h2
        have h3 : gt L HK = .hp f := by
          revert h2
          generalize gt L HK = y
          intro h2
          cases h2
          rfl
        have h4 : hx (gt L) s = san (f (s - OB2)) := by
          unfold hx
          rw [hL]
          simp only
          rw [if_pos hge, h3]
        rw [h4] at hs
        simp only
        revert hs
        cases f (s - OB2) <;> exact fun h => h
      | _ => trivial
    | _ =>
      have h2 := hw.get s
      rw [hL, hx1] at h2
      cases h2
/-- How long the slices are that a slot tells of. -/
def lenD : D → List Nat
  | .seq _ l => [l.length]
  | _ => []
def lenT : T → List Nat
  | .d x => lenD x
  | .agg l => l.flatMap lenD
  | .own _ _ l => [l.length]
  | _ => []
def lensA : A → List Nat
  | .t x => lenT x
  | .box l => l.flatMap lenT
  | .imm l => l.flatMap lenD
  | _ => []
theorem lenD_le {m : Mem} {x : D} {v : Value} (h : RepD m x v) : ∀ n ∈ lenD x, n ≤ 9223372036854775807 := by
  intro n hn
  cases h with
  | lit => cases hn
  | clo => cases hn
  | seq k l A' cap g o f h1 h2 =>
    simp [lenD] at hn
    unfold maxLen at h2
    omega
theorem lenT_le {m : Mem} {w : World} {o : OwnM} {loc : Nat × Nat} {x : T} {v : Value} (h : RepT m w o loc x v) : ∀ n ∈ lenT x, n ≤ 9223372036854775807 := by
  intro n hn
  cases x with
  | d x => exact lenD_le h n hn
  | agg l =>
    obtain ⟨vs, e, h1, h2⟩ := h
    obtain ⟨y, hy, hn⟩ := List.mem_flatMap.1 hn
    obtain ⟨j, hj⟩ := List.getElem?_of_mem hy
    obtain ⟨u, _, h3⟩ := h2 j y hj
    exact lenD_le h3 n hn
  | own E k l =>
    obtain ⟨A', cap, xs, e, h1, _⟩ := h
    simp [lenT] at hn
    subst hn
    rcases h1.2 with ⟨_, h0⟩ | ⟨g, cap, cur, _, _, _, h5, h6, _⟩
    · omega
    · unfold maxLen at h6; omega
  | ptr j off => simp [lenT] at hn
  | view j off E k m => simp [lenT] at hn
  | hpt c off => simp [lenT] at hn
  | mpt c => simp [lenT] at hn
  | hvw c off E k m => simp [lenT] at hn
theorem c_len {c : Code} (s : Nat) (h : (∀ n ∈ lensA (gt L s), n ≤ 9223372036854775807) → CodeOK P pins N c Q L) : CodeOK P pins N c Q L := by
  intro w0 m0 o0 G a w hS
  refine h ?_ w0 m0 o0 G a w hS
  obtain ⟨hN, _, m, o, I⟩ := hS
  have hs := I.slots s
  intro n hn
  cases hxx : gt L s with
  | t x => rw [hx_of hxx (by simp)] at hs; rw [hxx] at hn; exact lenT_le hs n hn
  | box l =>
    rw [hx_of hxx (by simp)] at hs
    rw [hxx] at hn
    obtain ⟨g, _, _, _, cs, E, _, _, h6⟩ := hs
    obtain ⟨y, hy, hn⟩ := List.mem_flatMap.1 hn
    obtain ⟨j, hj⟩ := List.getElem?_of_mem hy
    obtain ⟨_, u, _, h3⟩ := h6 j y hj
    exact lenT_le h3 n hn
  | imm l =>
    rw [hx_of hxx (by simp)] at hs
    rw [hxx] at hn
    obtain ⟨g, p, _, h6⟩ := hs
    obtain ⟨y, hy, hn⟩ := List.mem_flatMap.1 hn
    obtain ⟨j, hj⟩ := List.getElem?_of_mem hy
    obtain ⟨u, _, h3⟩ := h6 j y hj
    exact lenD_le h3 n hn
  | _ => rw [hxx] at hn; cases hn
/-- From here on less is known. -/
theorem c_less {c : Code} (L' : SL) (hw : WkS L L') (hr : wkOK L L' = true) (h : CodeOK P pins N c Q L') : CodeOK P pins N c Q L :=
  fun w0 m0 o0 G a w hS => h w0 m0 o0 G a w (hS.weaken hw hr)
/-- A loop: F x tells the slots at its head. -/
theorem c_round {X : Type} {c : Code} (F : X → SL) (I : X → Prop) (μ : X → Nat) (x0 : X) (h0 : I x0) (hw : WkS L (F x0)) (hr : wkOK L (F x0) = true)
    (round : ∀ x, I x → CodeOK P pins N c (thenQ (fun L' => ∃ x', I x' ∧ μ x' < μ x ∧ WkS L' (F x') ∧ wkOK L' (F x') = true) Q) (F x)) : CodeOK P pins N (.loop c) Q L := by
  refine c_less _ hw hr ?_
  intro w0 m0 o0 G a w hS b k cs
  have key : ∀ n x a w, μ x = n → I x → St w0 m0 o0 G pins N (F x) a w →
      ∃ e a' w', (∃ L', Q e L' ∧ St w0 m0 o0 G pins N L' a' w') ∧ Arrives P (lone (b.at a (.code c :: .inLoop c :: k)) cs w) b k cs e a' w' := by
    intro n
    induction n using Nat.strongRecOn with
    | _ n ih =>
      intro x a w hn hI hS
      obtain ⟨e, a₁, w₁, ⟨L₁, hq, hS₁⟩, harr⟩ := round x hI w0 m0 o0 G a w hS b (.inLoop c :: k) cs
      cases e with
      | normal =>
        obtain ⟨x', hI', hlt, hw', hr'⟩ := hq
        obtain ⟨e₂, a₂, w₂, hq₂, harr₂⟩ := ih (μ x') (hn ▸ hlt) x' a₁ w₁ rfl hI' (hS₁.weaken hw' hr')
        exact ⟨e₂, a₂, w₂, hq₂, .of_steps (Steps.trans harr (.one step_inLoop)) harr₂⟩
      | exit id => exact ⟨_, a₁, w₁, ⟨L₁, hq, hS₁⟩, .pass (x := .inLoop c) rfl (fun _ _ => .inl (by simp)) harr⟩
      | goto l => exact ⟨_, a₁, w₁, ⟨L₁, hq, hS₁⟩, .pass (x := .inLoop c) rfl (fun _ _ => .inl (by simp)) harr⟩
      | ret => exact ⟨_, a₁, w₁, ⟨L₁, hq, hS₁⟩, .pass (x := .inLoop c) rfl (fun _ _ => .inl (by simp)) harr⟩
      | panic ch => exact ⟨_, a₁, w₁, ⟨L₁, hq, hS₁⟩, .pass (x := .inLoop c) rfl (fun _ _ => .inl (by simp)) harr⟩
      | outgrown => exact ⟨_, a₁, w₁, ⟨L₁, hq, hS₁⟩, .pass (x := .inLoop c) rfl (fun _ _ => .inl (by simp)) harr⟩
  obtain ⟨e, a', w', hq, harr⟩ := key _ x0 a w rfl h0 hS
  exact ⟨e, a', w', hq, .of_steps (.one step_loop) harr⟩
/-- The code behind the first n statements. -/
def sndN : Nat → Code → Code
  | 0, c => c
  | n + 1, .seq _ b => sndN n b
  | _, c => c
/-- Ways out of a block that meet again. -/
theorem c_join {X : Type} {c y : Code} {id : Nat} (F : X → SL) (I : X → Prop) (h2 : ∀ x', I x' → CodeOK P pins N y Q (F x')) (h : CodeOK P pins N c (blockQ id (thenQ (fun L' => ∃ x', I x' ∧ WkS L' (F x') ∧ wkOK L' (F x') = true) Q)) L) : CodeOK P pins N c (blockQ id (thenQ (CodeOK P pins N y Q) Q)) L := by
  intro w0 m0 o0 G a w hS
  refine wp_mono (h w0 m0 o0 G a w hS) ?_
  have key : ∀ L' a' w', (∃ x', I x' ∧ WkS L' (F x') ∧ wkOK L' (F x') = true) → St w0 m0 o0 G pins N L' a' w' → CodeOK P pins N y Q L' := by
    rintro L' a' w' ⟨x', hI, hw, hr⟩ _
    exact c_less _ hw hr (h2 x' hI)
  rintro e a' w' ⟨L', hq, hS'⟩
  refine ⟨L', ?_, hS'⟩
  cases e with
  | normal => exact key L' a' w' hq hS'
  | exit id' =>
    simp only [blockQ] at hq ⊢
    split
    · rename_i e; rw [if_pos e] at hq; exact key L' a' w' hq hS'
    · rename_i e; rw [if_neg e] at hq; exact hq
  | _ => exact hq
/-- Ways that meet again: what holds there, behind one piece of code. -/
theorem c_cut {X : Type} {x y : Code} (F : X → SL) (I : X → Prop) (h : CodeOK P pins N x (thenQ (fun L' => ∃ x', I x' ∧ WkS L' (F x') ∧ wkOK L' (F x') = true) Q) L) (h2 : ∀ x', I x' → CodeOK P pins N y Q (F x')) : CodeOK P pins N (.seq x y) Q L := by
  refine c_seq fun w0 m0 o0 G a w hS => wp_mono (h w0 m0 o0 G a w hS) ?_
  rintro e a' w' ⟨L', hq, hS'⟩
  cases e with
  | normal =>
    obtain ⟨x', hI, hw, hr⟩ := hq
    exact ⟨F x', h2 x' hI, hS'.weaken hw hr⟩
  | _ => exact ⟨L', hq, hS'⟩
end
theorem wkargs_refl : ∀ l : List A, WkArgs l l
  | [] => .nil
  | x :: l => .cons (.refl x) (wkargs_refl l)
end Go.Proofs.Ytjomnccladjpgaa

/-
  A law for a region that draws its order: one condition on what has been listed, shown anew behind each operation, once an operation (not once an order).
-/
namespace Go.Proofs.Ytjomnccladjpgaa
open Go Go.RowKit

variable {P : Program} {ops : Array Oper} {Q : Exit → Act → World → Prop}

/-- How many are not yet listed. -/
def left_ (n : Nat) (L : Array Bool) : Nat := ((List.range n).filter fun j => !L.getD j true).length

theorem left_set {n i : Nat} {L : Array Bool} (hi : i < n) (h : L.getD i true = false) : left_ n (L.setIfInBounds i true) < left_ n L := by
  unfold left_
  have hs : ((List.range n).filter fun j => !(L.setIfInBounds i true).getD j true) = ((List.range n).filter fun j => !L.getD j true).filter (fun j => j != i) := by
    rw [List.filter_filter]
    refine List.filter_congr fun j _ => ?_
    by_cases hj : i = j
    · subst hj
      have hlt : i < L.size := by
        rcases Nat.lt_or_ge i L.size with g | g
        · exact g
        · rw [Array.getD_eq_getD_getElem?, Array.getElem?_eq_none (by omega)] at h; cases h
      simp [Array.getD_eq_getD_getElem?, hlt]
    · rw [getD_set_ne true hj]
      have : (j != i) = true := by simpa using Ne.symm hj
      simp [this]
  rw [hs]
  have hm : i ∈ (List.range n).filter fun j => !L.getD j true := List.mem_filter.2 ⟨List.mem_range.2 hi, by rw [h]; rfl⟩
  generalize ((List.range n).filter fun j => !L.getD j true) = l at hm
  clear hs
  induction l with
  | nil => cases hm
  | cons y r ih =>
    by_cases hy : y = i
    · subst hy
      simp
      exact Nat.lt_succ_of_le (List.length_filter_le _ _)
    · have h2 : i ∈ r := by
        cases hm with
        | head => exact absurd rfl hy
        | tail _ h => exact h
      have := ih h2
      simp [hy] at this ⊢
      exact this

theorem wpAny_inv {J : Array Bool → Act → World → Prop}
    (step : ∀ i o L a w, J L a w → ops[i]? = some o → L.getD i true = false → (∀ e ∈ o.after, Region.binds .any e = true → L.getD e.on false = true) → wpOp P ops Q i (fun a' w' => J (L.setIfInBounds i true) a' w') a w)
    (done : ∀ L a w, J L a w → Region.ready .any ops L = [] → Q .normal a w) :
    ∀ (fuel : Nat) (L : Array Bool) (a : Act) (w : World), J L a w → left_ ops.size L ≤ fuel → wpAny P .any ops Q fuel L a w := by
  intro fuel
  induction fuel with
  | zero =>
    intro L a w hJ hl
    have hr : Region.ready .any ops L = [] := by
      rw [List.eq_nil_iff_forall_not_mem]
      intro j hj
      obtain ⟨h1, o, ho, _⟩ := mem_ready.1 hj
      have hlt : j < ops.size := (Array.getElem?_eq_some_iff.1 ho).1
      have hm : j ∈ (List.range ops.size).filter fun j => !L.getD j true := List.mem_filter.2 ⟨List.mem_range.2 hlt, by rw [h1]; rfl⟩
      have : 0 < left_ ops.size L := List.length_pos_of_mem hm
      omega
    exact ⟨hr, done L a w hJ hr⟩
  | succ fuel ih =>
    intro L a w hJ hl
    refine ⟨fun hr => done L a w hJ hr, fun i hi => ?_⟩
    obtain ⟨h1, o, ho, hd⟩ := mem_ready.1 hi
    have hlt : i < ops.size := (Array.getElem?_eq_some_iff.1 ho).1
    refine wpOp_mono (fun a' w' h => ih _ a' w' h ?_) (step i o L a w hJ ho h1 hd)
    have := left_set hlt h1
    omega

theorem region_inv {J : Array Bool → Act → World → Prop} {id : Nat} {a : Act} {w : World} (hm : P.follows .mixedOrders = true)
    (h0 : J (Array.replicate ops.size false) a w.drew)
    (step : ∀ i o L a w, J L a w → ops[i]? = some o → L.getD i true = false → (∀ e ∈ o.after, Region.binds .any e = true → L.getD e.on false = true) → wpOp P ops Q i (fun a' w' => J (L.setIfInBounds i true) a' w') a w)
    (done : ∀ L a w, J L a w → Region.ready .any ops L = [] → Q .normal a w) : (Code.region id ops true).wp P Q a w := by
  refine wp_region_any hm (wpAny_inv step done _ _ _ _ h0 ?_)
  unfold left_
  exact Nat.le_trans (List.length_filter_le _ _) (by simp)

/-- Do all edges lead back? -/
def backB (ops : Array Oper) : Bool := (List.range ops.size).all fun i => match ops[i]? with | some o => o.after.all fun e => !Region.binds .any e || decide (e.on < i) | none => true

theorem all_listed {L : Array Bool} (hb : backB ops = true) (hL : L.size = ops.size) (hr : Region.ready .any ops L = []) : ∀ i, i < ops.size → L.getD i true = true := by
  intro i
  induction i using Nat.strongRecOn with
  | _ i ih =>
    intro hi
    cases h : L.getD i true with
    | true => rfl
    | false =>
      exfalso
      have hm : i ∈ Region.ready .any ops L := by
        refine mem_ready.2 ⟨h, ops[i], Array.getElem?_eq_getElem hi, fun e he hbd => ?_⟩
        unfold backB at hb
        have := List.all_eq_true.1 hb i (List.mem_range.2 hi)
        rw [Array.getElem?_eq_getElem hi] at this
        have := Array.all_eq_true_iff_forall_mem.1 this e he
        have hlt : e.on < i := by simpa [hbd] using this
        have := ih e.on hlt (by omega)
        rw [Array.getD_eq_getD_getElem?, Array.getElem?_eq_getElem (by omega)] at this ⊢
        exact this
      rw [hr] at hm
      cases hm

end Go.Proofs.Ytjomnccladjpgaa
