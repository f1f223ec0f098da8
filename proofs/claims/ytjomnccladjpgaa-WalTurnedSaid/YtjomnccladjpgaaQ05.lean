/-
  Texts joined: see the remark at the head of each part.
-/
import Derived.Test.YtjomnccladjpgaaQ04
import Derived.Test.YtjomnccladjpgaaChecked
set_option linter.unusedVariables false
set_option linter.unusedSimpArgs false
/-
  A region that draws its order, told by data: walked once, in the text's order, if operations that touch one slot are ordered.
-/
namespace Go.Proofs.Ytjomnccladjpgaa
open Go Go.RowKit
set_option linter.unusedVariables false

def keys (e : Eff) : List Nat := e.map (·.1)
theorem app_other {t : Nat} {e : Eff} (h : t ∉ keys e) (S : Nat → A) : app S e t = S t := by
  induction e generalizing S with
  | nil => rfl
  | cons x r ih =>
    obtain ⟨d, y⟩ := x
    simp only [keys, List.map_cons, List.mem_cons, not_or] at h
    show app (upd S d y) r t = S t
    rw [ih h.2, upd_other h.1]
theorem app_congr {t : Nat} {S S' : Nat → A} (h : S t = S' t) (e : Eff) : app S e t = app S' e t := by
  induction e generalizing S S' with
  | nil => exact h
  | cons x r ih =>
    obtain ⟨d, y⟩ := x
    show app (upd S d y) r t = app (upd S' d y) r t
    refine ih ?_
    unfold upd
    split
    · rfl
    · exact h
theorem app_key {t : Nat} {e : Eff} (h : t ∈ keys e) (S S' : Nat → A) : app S e t = app S' e t := by
  induction e generalizing S S' with
  | nil => cases h
  | cons x r ih =>
    obtain ⟨d, y⟩ := x
    show app (upd S d y) r t = app (upd S' d y) r t
    by_cases hr : t ∈ keys r
    · exact ih hr _ _
    · have : t = d := by
        simp only [keys, List.map_cons, List.mem_cons] at h
        exact h.resolve_right hr
      subst this
      rw [app_other hr, app_other hr, upd_same, upd_same]

/-- The slots when just the operations that sel names have been carried out. -/
def stL (sel : Nat → Bool) : Nat → List Eff → (Nat → A) → (Nat → A)
  | _, [], S => S
  | i, e :: r, S => stL sel (i + 1) r (if sel i then app S e else S)
theorem stL_congr {t : Nat} {sel sel' : Nat → Bool} : ∀ (effs : List Eff) (i : Nat) (S S' : Nat → A), S t = S' t → (∀ j e, effs[j]? = some e → t ∈ keys e → sel (i + j) = sel' (i + j)) → stL sel i effs S t = stL sel' i effs S' t
  | [], _, _, _, h, _ => h
  | e :: r, i, S, S', h, hs => by
    unfold stL
    refine stL_congr r (i + 1) _ _ ?_ fun j e' hj ht => ?_
    · by_cases ht : t ∈ keys e
      · have := hs 0 e rfl ht
        rw [Nat.add_zero] at this
        rw [this]
        split
        · exact app_congr h e
        · exact h
      · have h1 : (if sel i = true then app S e else S) t = S t := by split; exact app_other ht S; rfl
        have h2 : (if sel' i = true then app S' e else S') t = S' t := by split; exact app_other ht S'; rfl
        rw [h1, h2, h]
    · have := hs (j + 1) e' (by simpa using hj) ht
      rwa [show i + (j + 1) = i + 1 + j by omega] at this
theorem stL_none (sel : Nat → Bool) : ∀ (effs : List Eff) (i : Nat) (S : Nat → A), (∀ j, j < effs.length → sel (i + j) = false) → stL sel i effs S = S
  | [], _, _, _ => rfl
  | e :: r, i, S, h => by
    unfold stL
    have := h 0 (by simp)
    rw [Nat.add_zero] at this
    rw [this, if_neg (by simp)]
    exact stL_none sel r (i + 1) S fun j hj => by
      have := h (j + 1) (by simpa using hj)
      rwa [show i + (j + 1) = i + 1 + j by omega] at this
/-- One more, the last so far. -/
theorem stL_lt : ∀ (effs : List Eff) (i k : Nat) (e : Eff) (S : Nat → A), effs[k]? = some e → stL (fun j => decide (j < i + k + 1)) i effs S = app (stL (fun j => decide (j < i + k)) i effs S) e
  | [], _, _, _, _, h => by simp at h
  | e0 :: r, i, 0, e, S, h => by
    injection h with h
    subst h
    unfold stL
    simp only [Nat.add_zero]
    rw [if_pos (by simp), if_neg (by simp)]
    rw [stL_none _ r (i + 1) _ (fun j _ => by simp), stL_none _ r (i + 1) _ (fun j _ => by simp; omega)]
  | e0 :: r, i, k + 1, e, S, h => by
    unfold stL
    rw [if_pos (decide_eq_true (by omega)), if_pos (decide_eq_true (by omega))]
    have := stL_lt r (i + 1) k e (app S e0) (by simpa using h)
    rw [show i + 1 + k + 1 = i + (k + 1) + 1 by omega, show i + 1 + k = i + (k + 1) by omega] at this
    exact this

/-- What comes ahead of each operation. -/
def ancF : List Oper → List (List Nat) → List (List Nat)
  | [], acc => acc
  | o :: r, acc => ancF r (acc ++ [(o.after.toList.filter fun e => Region.binds .any e).flatMap fun e => e.on :: acc.getD e.on []])
theorem ancF_len : ∀ (l : List Oper) (acc : List (List Nat)), (ancF l acc).length = acc.length + l.length
  | [], acc => rfl
  | o :: r, acc => by unfold ancF; rw [ancF_len r]; simp; omega
theorem ancF_sound {ops : List Oper} {L : Nat → Bool} (hL : ∀ (i : Nat) (o : Oper), ops[i]? = some o → L i = true → ∀ e ∈ o.after, Region.binds .any e = true → L e.on = true) : ∀ (r : List Oper) (acc : List (List Nat)), ops.drop acc.length = r → (∀ i x, i < acc.length → L i = true → x ∈ acc.getD i [] → L x = true) → ∀ i x, L i = true → x ∈ (ancF r acc).getD i [] → L x = true
  | [], acc, _, h, i, x, hi, hx => by
    unfold ancF at hx
    by_cases hlt : i < acc.length
    · exact h i x hlt hi hx
    · rw [List.getD_eq_getElem?_getD, List.getElem?_eq_none (by omega)] at hx
      simp at hx
  | o :: r, acc, hd, h, i, x, hi, hx => by
    unfold ancF at hx
    have ho : ops[acc.length]? = some o := by
      have : (ops.drop acc.length)[0]? = some o := by rw [hd]; rfl
      rw [List.getElem?_drop] at this
      simpa using this
    refine ancF_sound hL r _ ?_ ?_ i x hi hx
    · rw [List.length_append, List.length_singleton, ← List.drop_drop, hd]
      rfl
    · intro j y hj hLj hy
      rw [List.length_append, List.length_singleton] at hj
      rw [List.getD_eq_getElem?_getD] at hy
      by_cases hlt : j < acc.length
      · rw [List.getElem?_append_left hlt] at hy
        exact h j y hlt hLj (by rw [List.getD_eq_getElem?_getD]; exact hy)
      · have hj' : j = acc.length := by omega
        subst hj'
        rw [List.getElem?_append_right (Nat.le_refl _)] at hy
        simp only [Nat.sub_self, List.getElem?_cons_zero, Option.getD_some] at hy
        rw [List.mem_flatMap] at hy
        obtain ⟨e, he, hy⟩ := hy
        rw [List.mem_filter] at he
        have hon := hL _ o ho hLj e (by simpa using he.1) he.2
        rcases List.mem_cons.1 hy with rfl | hy
        · exact hon
        · by_cases hlt2 : e.on < acc.length
          · exact h e.on y hlt2 hon hy
          · rw [List.getD_eq_getElem?_getD, List.getElem?_eq_none (by omega)] at hy
            simp at hy

/-- One operation on the slots T alone. -/
def LStep (P : Program) (pins : List Nat) (N : Nat) (ops : Array Oper) (op : Oper) (T : List Nat) (S : Nat → A) (e : Eff) : Prop :=
  (∀ x ∈ keys e, x ∈ T) ∧ ((op.guard = none ∧ ∀ S', (∀ t ∈ T, S' t = S t) → OpH P pins N op S' (app S' e)) ∨
    (∃ j want t, op.guard = some (j, want) ∧ (ops[j]?).bind (·.dst) = some t ∧ t ∈ T ∧
      ((S t = .t (.d (.lit (.bool want))) ∧ ∀ S', (∀ t ∈ T, S' t = S t) → OpH P pins N op S' (app S' e)) ∨ ((S t = .t (.d (.lit (.bool (!want)))) ∨ S t = .tup []) ∧ ∃ d, op.dst = some d ∧ d ∈ T ∧ okD N pins S d = true ∧ e = [(d, .tup [])]))))

def mask (T : List Nat) (S : Nat → A) : Nat → A := fun t => if T.contains t then S t else .any
theorem mask_Mk {T : List Nat} {S S' : Nat → A} (h : ∀ t ∈ T, S' t = S t) : Mk (mask T S) S' := by
  intro t
  unfold mask
  split
  · rename_i hc
    exact .inr (h t (by simpa using hc)).symm
  · exact .inl rfl
def tmpsO (l : List Operand) : List Nat := l.filterMap fun | .tmp t => some t | _ => none
def withRef (S : Nat → A) (t : Nat) : List Nat := match S t with
  | .ref b _ => [t, b]
  | _ => [t]
/-- The slots that an operation touches. -/
def touch (ops : Array Oper) (S : Nat → A) (op : Oper) : List Nat := op.dst.toList ++ (tmpsO op.op.operands.toList).flatMap (withRef S) ++ (match op.guard with
  | none => []
  | some (j, _) => ((ops[j]?).bind (·.dst)).toList)

def okOrd (l : List Oper) (tr : List (List Nat × List Nat)) : Bool :=
  let an := ancF l []
  (List.range tr.length).all fun i => (List.range i).all fun j =>
    let x := tr.getD i ([], [])
    let y := tr.getD j ([], [])
    (!(y.2.any fun k => x.1.contains k) && !(x.2.any fun k => y.1.contains k)) || (an.getD i []).contains j

/-- The same, the forebears of an operation as one number: cheap to compute. -/
def bitsF (acc : List Nat) (es : List Edge) : Nat := es.foldl (fun b e => b ||| (1 <<< e.on) ||| acc.getD e.on 0) 0
def ancB : List Oper → List Nat → List Nat
  | [], acc => acc
  | o :: r, acc => ancB r (acc ++ [bitsF acc (o.after.toList.filter fun e => Region.binds .any e)])
def okB (l : List Oper) (tr : List (List Nat × List Nat)) : Bool :=
  let an := ancB l []
  (List.range tr.length).all fun i =>
    let x := tr.getD i ([], [])
    let a := an.getD i 0
    (List.range i).all fun j =>
      a.testBit j || (let y := tr.getD j ([], []); (!(y.2.any fun k => x.1.contains k) && !(x.2.any fun k => y.1.contains k)))
theorem bitsF_mem {acc : List Nat} {x : Nat} : ∀ (es : List Edge) (b : Nat), (es.foldl (fun b e => b ||| (1 <<< e.on) ||| acc.getD e.on 0) b).testBit x = true → b.testBit x = true ∨ ∃ e ∈ es, x = e.on ∨ (acc.getD e.on 0).testBit x = true
  | [], b, h => .inl h
  | e :: r, b, h => by
    rcases bitsF_mem r _ h with h | ⟨e', he, h⟩
    · rw [Nat.testBit_or, Nat.testBit_or, Bool.or_eq_true, Bool.or_eq_true] at h
      rcases h with (h | h) | h
      · exact .inl h
      · refine .inr ⟨e, by simp, .inl ?_⟩
        rw [Nat.one_shiftLeft, Nat.testBit_two_pow] at h
        exact (of_decide_eq_true h).symm
      · exact .inr ⟨e, by simp, .inr h⟩
    · exact .inr ⟨e', by simp [he], h⟩
theorem ancB_mem : ∀ (l : List Oper) (acc : List (List Nat)) (bs : List Nat), bs.length = acc.length → (∀ i x, (bs.getD i 0).testBit x = true → x ∈ acc.getD i []) → ∀ i x, ((ancB l bs).getD i 0).testBit x = true → x ∈ (ancF l acc).getD i []
  | [], acc, bs, _, h => h
  | o :: r, acc, bs, hl, h => by
    unfold ancB ancF
    refine ancB_mem r _ _ (by simp [hl]) fun i x hx => ?_
    by_cases hi : i < bs.length
    · rw [List.getD_eq_getElem?_getD, List.getElem?_append_left hi, ← List.getD_eq_getElem?_getD] at hx
      rw [List.getD_eq_getElem?_getD, List.getElem?_append_left (by omega), ← List.getD_eq_getElem?_getD]
      exact h i x hx
    · by_cases he : i = bs.length
      · subst he
        rw [List.getD_eq_getElem?_getD, List.getElem?_append_right (Nat.le_refl _)] at hx
        rw [List.getD_eq_getElem?_getD, List.getElem?_append_right (by omega)]
        simp only [Nat.sub_self, hl, List.getElem?_cons_zero, Option.getD_some] at hx ⊢
        rcases bitsF_mem _ _ hx with h0 | ⟨e, he, h0⟩
        · simp at h0
        · refine List.mem_flatMap.2 ⟨e, he, ?_⟩
          rcases h0 with rfl | h0
          · exact .head _
          · exact .tail _ (h _ _ h0)
      · rw [List.getD_eq_getElem?_getD, List.getElem?_eq_none (by simp; omega)] at hx
        simp at hx
theorem okB_ord {l : List Oper} {tr : List (List Nat × List Nat)} (h : okB l tr = true) : okOrd l tr = true := by
  unfold okB at h
  refine List.all_eq_true.2 fun i hi => List.all_eq_true.2 fun j hj => ?_
  have h1 := List.all_eq_true.1 (List.all_eq_true.1 h i hi) j hj
  simp only [Bool.or_eq_true] at h1 ⊢
  rcases h1 with h1 | h1
  · exact .inr (by simpa using ancB_mem l [] [] rfl (fun i x h => by simp at h) i j h1)
  · exact .inl h1

section
variable {P : Program} {pins : List Nat} {N : Nat} {ops : Array Oper}
theorem okOrd_of {l : List Oper} {tr : List (List Nat × List Nat)} (h : okOrd l tr = true) {i j : Nat} (hi : i < tr.length) (hj : j < i) {k : Nat} (hk : (k ∈ (tr.getD j ([], [])).2 ∧ k ∈ (tr.getD i ([], [])).1) ∨ (k ∈ (tr.getD i ([], [])).2 ∧ k ∈ (tr.getD j ([], [])).1)) : j ∈ (ancF l []).getD i [] := by
  unfold okOrd at h
  have h1 := List.all_eq_true.1 h i (List.mem_range.2 hi)
  have h2 := List.all_eq_true.1 h1 j (List.mem_range.2 hj)
  simp only [Bool.or_eq_true, Bool.and_eq_true, Bool.not_eq_true', List.any_eq_false] at h2
  rcases h2 with ⟨h3, h4⟩ | h2
  · rcases hk with ⟨k1, k2⟩ | ⟨k1, k2⟩
    · exact absurd (by simpa using k2) (h3 k k1)
    · exact absurd (by simpa using k2) (h4 k k1)
  · simpa using h2

/-- The walk's trace: slots touched, effects. -/
inductive Trace (P : Program) (pins : List Nat) (N : Nat) (ops : Array Oper) : List Oper → (Nat → A) → List (List Nat × Eff) → Prop
  | nil (S : Nat → A) : Trace P pins N ops [] S []
  | cons {op : Oper} {r : List Oper} {S : Nat → A} {T : List Nat} {e : Eff} {tr : List (List Nat × Eff)} (h : LStep P pins N ops op T S e) (t : Trace P pins N ops r (app S e) tr) : Trace P pins N ops (op :: r) S ((T, e) :: tr)
theorem Trace.get {r : List Oper} {S : Nat → A} {tr : List (List Nat × Eff)} (h : Trace P pins N ops r S tr) : tr.length = r.length ∧ ∀ (i : Nat) (op : Oper), r[i]? = some op → ∃ T e, tr[i]? = some (T, e) ∧ LStep P pins N ops op T (stL (fun j => decide (j < i)) 0 (tr.map (·.2)) S) e := by
  induction h with
  | nil S => exact ⟨rfl, fun i op h => by simp at h⟩
  | @cons op r S T e tr h t ih =>
    refine ⟨by simp [ih.1], fun i op' hi => ?_⟩
    cases i with
    | zero =>
      injection hi with hi
      subst hi
      refine ⟨T, e, rfl, ?_⟩
      rw [stL_none _ _ 0 S (fun j _ => by simp)]
      exact h
    | succ i =>
      obtain ⟨T', e', h1, h2⟩ := ih.2 i op' (by simpa using hi)
      refine ⟨T', e', by simpa using h1, ?_⟩
      have : stL (fun j => decide (j < i + 1)) 0 (((T, e) :: tr).map (·.2)) S = stL (fun j => decide (j < i)) 0 (tr.map (·.2)) (app S e) := by
        rw [List.map_cons]
        show stL _ 1 _ (if decide (0 < i + 1) = true then app S e else S) = _
        rw [if_pos (by simp)]
        have shift : ∀ (l : List Eff) (a : Nat) (S : Nat → A), stL (fun j => decide (j < i + 1)) (a + 1) l S = stL (fun j => decide (j < i)) a l S := by
          intro l
          induction l with
          | nil => intro a S; rfl
          | cons x l ih => intro a S; simp only [stL, ih]; congr 2; simp
        exact shift _ 0 _
      rw [this]
      exact h2

theorem draw_sound {w0 : World} {m0 : Mem} {o0 : OwnM} {G : Nat → Prop} {Q : Exit → Act → World → Prop} {id : Nat} {a : Act} {w : World} {L : SL} {tr : List (List Nat × Eff)} {l : List Oper}
    (hm : P.follows .mixedOrders = true) (hback : backB l.toArray = true) (hS : St w0 m0 o0 G pins N L a w) (ht : Trace P pins N l.toArray l (gt L) tr) (hord : okOrd l (tr.map fun x => (x.1, keys x.2)) = true)
    (done : ∀ a w, a.tmps.size = N → (Low (stL (fun _ => true) 0 (tr.map (·.2)) (gt L)) ∧ ∃ m o, Inv w0 m0 o0 G pins (hx (stL (fun _ => true) 0 (tr.map (·.2)) (gt L))) a w m o) → Q .normal a w) : (Code.region id l.toArray true).wp P Q a w := by
  obtain ⟨hlen, hget⟩ := ht.get
  obtain ⟨hN, hlo0, m, o, I⟩ := hS
  let effs := tr.map (·.2)
  have hel : effs.length = l.length := by simp [effs, hlen]
  let ok (B : Array Bool) : Prop := B.size = l.length ∧ ∀ (i : Nat) (o : Oper), l[i]? = some o → B.getD i false = true → ∀ e ∈ o.after, Region.binds .any e = true → B.getD e.on false = true
  refine region_inv (J := fun B a w => ok B ∧ a.tmps.size = N ∧ Low (stL (fun i => B.getD i false) 0 effs (gt L)) ∧ ∃ m o, Inv w0 m0 o0 G pins (hx (stL (fun i => B.getD i false) 0 effs (gt L))) a w m o) hm ?_ ?_ ?_
  · refine ⟨⟨by simp, fun i o h1 h2 => ?_⟩, hN, ?_, m, o, ?_⟩
    · rw [Array.getD_eq_getD_getElem?, Array.getElem?_replicate] at h2
      split at h2 <;> cases h2
    · rw [stL_none _ _ 0 _ (fun j _ => by
        rw [Array.getD_eq_getD_getElem?, Array.getElem?_replicate]
        split <;> rfl)]
      exact hlo0
    · rw [stL_none _ _ 0 _ (fun j _ => by
        rw [Array.getD_eq_getD_getElem?, Array.getElem?_replicate]
        split <;> rfl)]
      exact I.drew
  · rintro i op B a w ⟨⟨hB1, hB2⟩, hN, hlo, m, o, I⟩ hop hi hdeps
    have hNO : N ≤ OB := by rw [← hN]; exact I.wide
    have hop : l[i]? = some op := by simpa using hop
    have hil : i < l.length := (List.getElem?_eq_some_iff.1 hop).1
    have hi : B.getD i false = false := by
      rw [Array.getD_eq_getD_getElem?] at hi ⊢
      rw [Array.getElem?_eq_getElem (by omega)] at hi ⊢
      exact hi
    have hdeps : ∀ e ∈ op.after, Region.binds .any e = true → B.getD e.on false = true := hdeps
    obtain ⟨T, e, he, hstep⟩ := hget i op hop
    have hee : effs[i]? = some e := by simp [effs, he]
    -- what has been listed with i
    have hB2' : ∀ (k : Nat) (o : Oper), l[k]? = some o → (B.setIfInBounds i true).getD k false = true → ∀ e ∈ o.after, Region.binds .any e = true → (B.setIfInBounds i true).getD e.on false = true := by
      intro k o hk hBk e he hb
      have mono : B.getD e.on false = true → (B.setIfInBounds i true).getD e.on false = true := by
        intro h
        by_cases hq : e.on = i
        · rw [hq, Array.getD_eq_getD_getElem?, Array.getElem?_setIfInBounds]
          simp [show i < B.size by omega]
        · rw [getD_set_ne false (Ne.symm hq)]
          exact h
      by_cases hki : k = i
      · subst hki
        rw [hop] at hk
        injection hk with hk
        subst hk
        exact mono (hdeps e he hb)
      · rw [getD_set_ne false (Ne.symm hki)] at hBk
        exact mono (hB2 k o hk hBk e he hb)
    have htl : ∀ j, (tr.map fun x => (x.1, keys x.2)).getD j ([], []) = ((tr[j]?).map fun x => (x.1, keys x.2)).getD ([], []) := fun j => by
      rw [List.getD_eq_getElem?_getD, List.getElem?_map]
    have hi' : (tr.map fun x => (x.1, keys x.2)).getD i ([], []) = (T, keys e) := by rw [htl, he]; rfl
    -- the writers of a slot that i touches
    have writers : ∀ t ∈ T, ∀ j e', effs[j]? = some e' → t ∈ keys e' → j ≠ i → (B.getD j false = decide (j < i)) := by
      intro t htT j e' hj htj hji
      have hjl : j < tr.length := by
        have := (List.getElem?_eq_some_iff.1 hj).1
        rw [hel] at this
        omega
      obtain ⟨⟨Tj, ej⟩, hje⟩ : ∃ x, tr[j]? = some x := ⟨_, List.getElem?_eq_getElem hjl⟩
      have hej : ej = e' := by
        have : effs[j]? = some ej := by simp [effs, hje]
        rw [this] at hj
        injection hj
      subst hej
      have hj' : (tr.map fun x => (x.1, keys x.2)).getD j ([], []) = (Tj, keys ej) := by rw [htl, hje]; rfl
      rcases Nat.lt_or_ge j i with hlt | hge
      · have hanc := okOrd_of hord (i := i) (j := j) (by rw [List.length_map]; omega) hlt (k := t) (.inl ⟨by rw [hj']; exact htj, by rw [hi']; exact htT⟩)
        have hBi : (B.setIfInBounds i true).getD i false = true := by
          rw [Array.getD_eq_getD_getElem?, Array.getElem?_setIfInBounds]
          simp [show i < B.size by omega]
        have := ancF_sound (L := fun k => (B.setIfInBounds i true).getD k false) hB2' l [] rfl (fun k x hk => by simp at hk) i j hBi hanc
        rw [getD_set_ne false (Ne.symm hji)] at this
        rw [this]
        simp [hlt]
      · have hlt : i < j := by omega
        have hanc := okOrd_of hord (i := j) (j := i) (by rw [List.length_map]; omega) hlt (k := t) (.inr ⟨by rw [hj']; exact htj, by rw [hi']; exact htT⟩)
        have hnot : B.getD j false = false := by
          cases hBj : B.getD j false with
          | false => rfl
          | true =>
            have := ancF_sound (L := fun k => B.getD k false) hB2 l [] rfl (fun k x hk => by simp at hk) j i hBj hanc
            rw [hi] at this
            cases this
        rw [hnot]
        simp
        omega
    have hselfN : ∀ t, ∀ j e', effs[j]? = some e' → t ∈ keys e' → j = i → e' = e := by
      intro t j e' hj _ hji
      subst hji
      rw [hee] at hj
      injection hj with hj
      exact hj.symm
    have hagree : ∀ t ∈ T, stL (fun k => B.getD k false) 0 effs (gt L) t = stL (fun j => decide (j < i)) 0 effs (gt L) t := by
      intro t htT
      refine stL_congr effs 0 _ _ rfl fun j e' hj htj => ?_
      simp only [Nat.zero_add]
      by_cases hji : j = i
      · subst hji
        rw [hi]
        simp
      · exact writers t htT j e' hj htj hji
    have hnext : stL (fun k => (B.setIfInBounds i true).getD k false) 0 effs (gt L) = app (stL (fun k => B.getD k false) 0 effs (gt L)) e := by
      funext t
      by_cases htk : t ∈ keys e
      · have htT := hstep.1 t htk
        have h1 : stL (fun k => (B.setIfInBounds i true).getD k false) 0 effs (gt L) t = stL (fun j => decide (j < 0 + i + 1)) 0 effs (gt L) t := by
          refine stL_congr effs 0 _ _ rfl fun j e' hj htj => ?_
          simp only [Nat.zero_add]
          by_cases hji : j = i
          · subst hji
            rw [Array.getD_eq_getD_getElem?, Array.getElem?_setIfInBounds]
            simp [show j < B.size by omega]
          · rw [getD_set_ne false (Ne.symm hji), writers t htT j e' hj htj hji]
            congr 1
            simp
            omega
        rw [h1, stL_lt effs 0 i e (gt L) hee]
        exact app_key htk _ _
      · rw [app_other htk]
        refine stL_congr effs 0 _ _ rfl fun j e' hj htj => ?_
        simp only [Nat.zero_add]
        by_cases hji : j = i
        · exact absurd (by rw [hselfN t j e' hj htj hji] at htj; exact htj) htk
        · rw [getD_set_ne false (Ne.symm hji)]
    unfold wpOp
    rw [show l.toArray[i]? = some op by simpa using hop]
    simp only
    have hJ' : ∀ a' w' m' o', a'.tmps.size = N → Low (app (stL (fun i => B.getD i false) 0 effs (gt L)) e) → Inv w0 m0 o0 G pins (hx (app (stL (fun i => B.getD i false) 0 effs (gt L)) e)) a' w' m' o' → (ok (B.setIfInBounds i true) ∧ a'.tmps.size = N ∧ Low (stL (fun k => (B.setIfInBounds i true).getD k false) 0 effs (gt L)) ∧ ∃ m o, Inv w0 m0 o0 G pins (hx (stL (fun k => (B.setIfInBounds i true).getD k false) 0 effs (gt L))) a' w' m o) := by
      intro a' w' m' o' hN' hl' I'
      refine ⟨⟨by rw [Array.size_setIfInBounds]; exact hB1, hB2'⟩, hN', ?_, m', o', ?_⟩
      · rw [hnext]
        exact hl'
      · rw [hnext]
        exact I'
    have hag2 : ∀ t ∈ T, stL (fun i => B.getD i false) 0 effs (gt L) t = stL (fun j => decide (j < i)) 0 (tr.map (·.2)) (gt L) t := hagree
    have hyb : ∀ (j t : Nat) (c : Bool), (l.toArray[j]?).bind (·.dst) = some t → t ∈ T → stL (fun j => decide (j < i)) 0 (tr.map (·.2)) (gt L) t = .t (.d (.lit (.bool c))) → yielded l.toArray a.tmps j = some c := by
      intro j t c htj htT hc
      have h4 := I.slots t
      rw [hx_of ((hag2 t htT).trans hc) (by simp)] at h4
      have h5 : a.tmps.getD t undef = .bool c := by
        have h4 : RepD m (.lit (.bool c)) (a.tmps.getD t undef) := h4
        generalize a.tmps.getD t undef = v at h4
        cases h4
        rfl
      have h6 : a.tmps[t]? = some (.bool c) := by
        rw [Array.getD_eq_getD_getElem?] at h5
        cases hq : a.tmps[t]? with
        | none => rw [hq] at h5; cases h5
        | some q => rw [hq] at h5; simpa using h5
      unfold yielded
      rw [htj]
      simp [h6]
    rcases hstep.2 with ⟨hg, hop'⟩ | ⟨j, want, t, hg, htj, htT, hcase⟩
    · have hw : Region.wanted op (yielded l.toArray a.tmps) = true := by unfold Region.wanted; rw [hg]
      rw [hw, if_pos rfl]
      obtain ⟨hop', hl'⟩ := hop' _ hag2 hNO hlo
      exact .inl (hop' w0 m0 o0 G a w m o hN I _ Q fun a' w' m' o' hN' I' => hJ' a' w' m' o' hN' hl' I')
    · rcases hcase with ⟨hc, hop'⟩ | ⟨hc, d, hd, hdT, hok, rfl⟩
      · have hw : Region.wanted op (yielded l.toArray a.tmps) = true := by
          unfold Region.wanted
          rw [hg]
          show (yielded l.toArray a.tmps j == some want) = true
          rw [hyb j t _ htj htT hc]
          cases want <;> rfl
        rw [hw, if_pos rfl]
        obtain ⟨hop', hl'⟩ := hop' _ hag2 hNO hlo
        exact .inl (hop' w0 m0 o0 G a w m o hN I _ Q fun a' w' m' o' hN' I' => hJ' a' w' m' o' hN' hl' I')
      · have hw : Region.wanted op (yielded l.toArray a.tmps) = false := by
          unfold Region.wanted
          rw [hg]
          show (yielded l.toArray a.tmps j == some want) = false
          rcases hc with hc | hc
          · rw [hyb j t _ htj htT hc]
            cases want <;> rfl
          · have h4 := I.slots t
            rw [hx_of ((hag2 t htT).trans hc) (by simp)] at h4
            obtain ⟨vs, h5, _, _⟩ := h4
            have h7 : yielded l.toArray a.tmps j = none := by
              unfold yielded
              rw [htj]
              rw [Array.getD_eq_getD_getElem?] at h5
              show (match a.tmps[t]? with | some (.bool b) => some b | _ => none) = none
              cases hq : a.tmps[t]? with
              | none => rfl
              | some q =>
                rw [hq] at h5
                have h5 : q = .tuple vs := h5
                rw [h5]
            rw [h7]
            rfl
        rw [hw, if_neg (by simp)]
        obtain ⟨h1, h2, h3⟩ := okD_iff hok
        have hdO := okD_lo hNO hok
        refine hJ' _ w m o (by rw [put_size, hN]) (hlo.upd (by unfold OB at hdO; unfold OB2; omega)) ?_
        rw [hd]
        show Inv w0 m0 o0 G pins (hx (upd (stL (fun i => B.getD i false) 0 effs (gt L)) d (.tup []))) _ _ _ _
        rw [hx_upd (.inl hdO)]
        exact I.set d (.tup []) undef (by omega) (by rw [hx_lo (by unfold OB at hdO; unfold OB2; omega), hag2 d hdT]; exact h2) ⟨#[], rfl, rfl, fun j x h => by simp at h⟩
  · rintro B a w ⟨⟨hB1, hB2⟩, hN, hlo, m, o, I⟩ hr
    have hall := all_listed hback (by simpa using hB1) hr
    refine done a w hN (?_ : _ ∧ _)
    have : stL (fun _ => true) 0 (tr.map (·.2)) (gt L) = stL (fun i => B.getD i false) 0 effs (gt L) := by
      funext t
      refine stL_congr _ 0 _ _ rfl fun j e' hj _ => ?_
      simp only [Nat.zero_add]
      have hjl : j < l.length := by
        have := (List.getElem?_eq_some_iff.1 hj).1
        rw [← hel]
        exact this
      have := hall j (by simpa using hjl)
      rw [Array.getD_eq_getD_getElem?] at this ⊢
      rw [Array.getElem?_eq_getElem (by omega)] at this ⊢
      exact this.symm
    rw [this]
    exact ⟨hlo, m, o, I⟩
end
end Go.Proofs.Ytjomnccladjpgaa

/-
  The rules of the walk inside a region that draws its order.
-/
namespace Go.Proofs.Ytjomnccladjpgaa
open Go Go.RowKit
set_option linter.unusedVariables false

def DOK (P : Program) (pins : List Nat) (N : Nat) (l0 : List Oper) (Q : SL → Prop) : List Oper → List (List Nat × List Nat) → SL → Prop
  | [], acc, L => okOrd l0 acc.reverse = true ∧ Q L
  | op :: r, acc, L => ∃ T e, LStep P pins N l0.toArray op T (gt L) e ∧ DOK P pins N l0 Q r ((T, keys e) :: acc) (setL L e)

section
variable {P : Program} {pins : List Nat} {N : Nat} {l0 : List Oper} {Q : SL → Prop} {r : List Oper} {op : Oper} {L L' : SL} {acc : List (List Nat × List Nat)}
theorem dok_trace : ∀ (r : List Oper) (acc : List (List Nat × List Nat)) (L : SL), DOK P pins N l0 Q r acc L → ∃ tr L', Trace P pins N l0.toArray r (gt L) tr ∧ okOrd l0 (acc.reverse ++ tr.map fun x => (x.1, keys x.2)) = true ∧ Q L' ∧ gt L' = stL (fun _ => true) 0 (tr.map (·.2)) (gt L)
  | [], acc, L, ⟨h1, h2⟩ => ⟨[], L, .nil _, by simpa using h1, h2, rfl⟩
  | op :: r, acc, L, ⟨T, e, h1, h3⟩ => by
    obtain ⟨tr, L', k1, k2, k3, k5⟩ := dok_trace r _ _ h3
    have hg : gt (setL L e) = app (gt L) e := gt_setL L e
    rw [hg] at k1 k5
    refine ⟨(T, e) :: tr, L', .cons h1 k1, by simpa using k2, k3, ?_⟩
    rw [k5, List.map_cons]
    show _ = stL _ 1 _ (if true = true then app (gt L) e else gt L)
    rw [if_pos rfl]
    have shift : ∀ (l : List Eff) (a : Nat) (S : Nat → A), stL (fun _ => true) (a + 1) l S = stL (fun _ => true) a l S := by
      intro l
      induction l with
      | nil => intro a S; rfl
      | cons x l ih => intro a S; simp only [stL, ih]
    exact (shift _ 0 _).symm
theorem c_draw {id : Nat} {Q : Exit → SL → Prop} (hm : P.follows .mixedOrders = true) (hback : backB l0.toArray = true) (h : DOK P pins N l0 (Q .normal) l0 [] L) : CodeOK P pins N (.region id l0.toArray true) Q L := by
  intro w0 m0 o0 G a w hS
  obtain ⟨tr, L', k1, k2, k3, k5⟩ := dok_trace l0 [] L h
  refine draw_sound hm hback hS k1 (by simpa using k2) fun a' w' hN' ⟨hl, m, o, I⟩ => ⟨L', k3, hN', by rw [k5]; exact hl, m, o, by rw [k5]; exact I⟩

theorem all_T {e : Eff} {T : List Nat} (h : (keys e).all T.contains = true) : ∀ x ∈ keys e, x ∈ T := fun x hx => by simpa using List.all_eq_true.1 h x hx
theorem l_step {T : List Nat} {d : Nat} {C : Prop} {eff : Eff} (tk : Bool) (hd : op.dst = some d) (hdT : T.contains d = true) (hok : okD N pins (gt L) d = true) (h : opF P pins tk (mask T (gt L)) d op.op = some (C, eff)) (hC : C) : ∀ S', (∀ t ∈ T, S' t = gt L t) → OpH P pins N op S' (app S' eff) := by
  intro S' hS
  have hok' : okD N pins S' d = true := by
    unfold okD at hok ⊢
    rw [hS d (by simpa using hdT)]
    exact hok
  exact .of fun hN => ⟨opF_ok (mask_Mk hS).hx hd (okD_hx hN hok') h hC, opF_eff (mask_Mk hS) (okD_lo hN hok') h⟩
theorem l_store {T : List Nat} {t : Nat} {x y : Operand} {eff : Eff} (hop : op.op = .store t x y) (hd : op.dst = none) (h : stF P pins (mask T (gt L)) t x y = some eff) : ∀ S', (∀ t ∈ T, S' t = gt L t) → OpH P pins N op S' (app S' eff) :=
  fun S' hS => .of fun _ => ⟨stF_ok (mask_Mk hS).hx hop hd h, stF_eff (mask_Mk hS) h⟩
theorem l_call {T : List Nat} {d f : Nat} {xs : List Operand} {ts : Array TypeId} {args : List A} {y : A} (hf : FC P f args [] y) {fx : Operand} (hop : op.op = .call { callee := .value fx, args := xs.toArray, argTypes := ts }) (hfx : vO (mask T (gt L)) fx = some (.func (.func f) #[] #[])) (hd : op.dst = some d) (hdT : T.contains d = true) (hok : okD N pins (gt L) d = true)
    {fn : Func} (hfn : P.funcs[f]? = some fn) (hbody : fn.body.isNone = false) (hname : (fn.name == "runtime.NumGoroutine") = false) (hargs : WkArgs (xs.map (cpO (mask T (gt L)))) args) (hp : args.all A.plain = true) (hnr : y.noRef = true) : ∀ S', (∀ t ∈ T, S' t = gt L t) → OpH P pins N op S' (app S' [(d, y)]) := by
  intro S' hS
  have hok' : okD N pins S' d = true := by
    unfold okD at hok ⊢
    rw [hS d (by simpa using hdT)]
    exact hok
  exact .of (e := [(d, y)]) fun hN => ⟨ok_call (mask_Mk hS).hx hop hfx hd (okD_hx hN hok') hfn hbody hname hargs hp hf hnr, eff_1 (okD_lo hN hok')⟩

theorem opF_okh {S M : Nat → A} {tk : Bool} {d : Nat} (hM : Mk M S) (hd : op.dst = some d) (hok : okD N pins S d = true) {C : Prop} {eff : Eff} (h : opF P pins tk M d op.op = some (C, eff)) (hC : C) : OpH P pins N op S (app S eff) :=
  .of fun hN => ⟨opF_ok hM.hx hd (okD_hx hN hok) h hC, opF_eff hM (okD_lo hN hok) h⟩
theorem stF_okh {S M : Nat → A} (hM : Mk M S) {t : TypeId} {x y : Operand} (hop : op.op = .store t x y) (hd : op.dst = none) {eff : Eff} (h : stF P pins M t x y = some eff) : OpH P pins N op S (app S eff) :=
  .of fun _ => ⟨stF_ok hM.hx hop hd h, stF_eff hM h⟩
theorem ok_callh {S M : Nat → A} (hM : Mk M S) {d f : Nat} {xs : List Operand} {ts : Array TypeId} {fx : Operand} (hop : op.op = .call { callee := .value fx, args := xs.toArray, argTypes := ts }) (hfx : vO M fx = some (.func (.func f) #[] #[])) (hd : op.dst = some d) (hok : okD N pins S d = true) {fn : Func} (hfn : P.funcs[f]? = some fn) (hbody : fn.body.isNone = false) (hname : (fn.name == "runtime.NumGoroutine") = false)
    {args : List A} {y : A} (hargs : WkArgs (xs.map (cpO M)) args) (hp : args.all A.plain = true) (hf : FC P f args [] y) (hnr : y.noRef = true) : OpH P pins N op S (app S [(d, y)]) :=
  .of (e := [(d, y)]) fun hN => ⟨ok_call hM.hx hop hfx hd (okD_hx hN hok) hfn hbody hname hargs hp hf hnr, eff_1 (okD_lo hN hok)⟩
theorem ok_callmh {S M : Nat → A} (hM : Mk M S) {d f s i : Nat} {xs : List Operand} {ts : Array TypeId} {fx : Operand} (hop : op.op = .call { callee := .value fx, args := xs.toArray, argTypes := ts }) (hfx : vO M fx = some (.func (.func f) #[] #[])) (hd : op.dst = some d) (hok : okD N pins S d = true) {fn : Func} (hfn : P.funcs[f]? = some fn) (hbody : fn.body.isNone = false) (hname : (fn.name == "runtime.NumGoroutine") = false)
    {args : List A} {outs : List (Nat × List T)} {y z : A} (hargs : MvArgs M s i xs args) (hz : leftF pins M outs s i = some z) (hds : (d == s || !Nat.blt s OB || !Nat.blt i OB) = false) (hf : FC P f args outs y) (hnr : y.noRef = true) : OpH P pins N op S (app S [(s, z), (d, y)]) :=
  .of (e := [(s, z), (d, y)]) fun hN => ⟨ok_callm hM.hx hop hfx hd (okD_hx hN hok) hfn hbody hname hargs hz hds hf hnr, leftF_eff hM hz (okD_lo hN hok)⟩
/-- A list of numbers, spelled out. -/
def frcNs {R : Sort _} : List Nat → (List Nat → R) → R
  | [], K => K []
  | x :: r, K => frcNs r fun r => K (x :: r)
theorem frcNs_of : ∀ {R : Sort _} (l : List Nat) (K : List Nat → R), frcNs l K = K l
  | _, [], _ => rfl
  | _, x :: r, K => by unfold frcNs; rw [frcNs_of]
def keysN {R : Sort _} : Eff → (List Nat → R) → R
  | [], K => K []
  | (s, _) :: r, K => keysN r fun r => K (s :: r)
theorem keysN_eq : ∀ {R : Sort _} (e : Eff) (K : List Nat → R), keysN e K = K (keys e)
  | _, [], _ => rfl
  | _, (s, x) :: r, K => by unfold keysN; rw [keysN_eq]; rfl
theorem keys_of {e : Eff} {l' : List Nat} (h : keysN e some = some l') : keys e = l' := by
  rw [keysN_eq] at h
  injection h
theorem touch_of {l l' : List Nat} (h : frcNs l some = some l') : l = l' := by
  rw [frcNs_of] at h
  injection h

theorem d_step {T ks : List Nat} {d : Nat} {C : Prop} {eff eff' : Eff} (hg : op.guard = none) (hT : frcNs (touch l0.toArray (gt L) op) some = some T) (hd : op.dst = some d) (hdT : T.contains d = true) (hok : okD N pins (gt L) d = true) (h0 : opF P pins (wants d r) (gt L) d op.op = some (C, eff)) (h : opF P pins (wants d r) (mask T (gt L)) d op.op = some (C, eff)) (hks : keysN eff some = some ks) (hk : ks.all T.contains = true) (he : eff = eff') (hL : setN false L eff' some = some L') (hC : C) (k : DOK P pins N l0 Q r ((T, ks) :: acc) L') : DOK P pins N l0 Q (op :: r) acc L := by
  have hT := touch_of hT
  have hks := keys_of hks
  have hL := setN_of hL
  subst he hL
  subst hks
  exact ⟨T, eff, ⟨all_T hk, .inl ⟨hg, l_step _ hd hdT hok h hC⟩⟩, k⟩
theorem d_stepN (b : Bool) {T ks : List Nat} {d : Nat} {C : Prop} {eff eff' : Eff} (hg : op.guard = none) (hT : frcNs (touch l0.toArray (gt L) op) some = some T) (hd : op.dst = some d) (hdT : T.contains d = true) (hok : okD N pins (gt L) d = true) (h0 : opN b P pins (wants d r) (gt L) d op.op = some (C, eff)) (h : opN b P pins (wants d r) (mask T (gt L)) d op.op = some (C, eff)) (hks : keysN eff some = some ks) (hk : ks.all T.contains = true) (he : eff = eff') (hL : setN false L eff' some = some L') (hC : C) (k : DOK P pins N l0 Q r ((T, ks) :: acc) L') : DOK P pins N l0 Q (op :: r) acc L := by
  have hT := touch_of hT
  have hks := keys_of hks
  have hL := setN_of hL
  subst he hL
  subst hks
  exact ⟨T, eff, ⟨all_T hk, .inl ⟨hg, l_step _ hd hdT hok (opN_of h) hC⟩⟩, k⟩
theorem d_store {T ks : List Nat} {t : Nat} {x y : Operand} {eff : Eff} (hg : op.guard = none) (hT : frcNs (touch l0.toArray (gt L) op) some = some T) (hop : op.op = .store t x y) (hd : op.dst = none) (h0 : stF P pins (gt L) t x y = some eff) (h : stF P pins (mask T (gt L)) t x y = some eff) (hks : keysN eff some = some ks) (hk : ks.all T.contains = true) (hL : setL L eff = L') (k : DOK P pins N l0 Q r ((T, ks) :: acc) L') : DOK P pins N l0 Q (op :: r) acc L := by
  have hT := touch_of hT
  have hks := keys_of hks
  subst hL
  subst hks
  exact ⟨T, eff, ⟨all_T hk, .inl ⟨hg, l_store hop hd h⟩⟩, k⟩
theorem d_storeN (b : Bool) {T ks : List Nat} {t : Nat} {x y : Operand} {eff : Eff} (hg : op.guard = none) (hT : frcNs (touch l0.toArray (gt L) op) some = some T) (hop : op.op = .store t x y) (hd : op.dst = none) (h0 : stN b P pins (gt L) t x y = some eff) (h : stN b P pins (mask T (gt L)) t x y = some eff) (hks : keysN eff some = some ks) (hk : ks.all T.contains = true) (hL : setN false L eff some = some L') (k : DOK P pins N l0 Q r ((T, ks) :: acc) L') : DOK P pins N l0 Q (op :: r) acc L := by
  have hT := touch_of hT
  have hks := keys_of hks
  have hL := setN_of hL
  subst hL
  subst hks
  exact ⟨T, eff, ⟨all_T hk, .inl ⟨hg, l_store hop hd (stN_of h)⟩⟩, k⟩
theorem d_call {T : List Nat} {d f : Nat} {xs : List Operand} {ts : Array TypeId} {args : List A} {y : A} (hf : FC P f args [] y) (hg : op.guard = none) (hT : frcNs (touch l0.toArray (gt L) op) some = some T) {fx : Operand} (hop : op.op = .call { callee := .value fx, args := xs.toArray, argTypes := ts }) (hfx : vO (mask T (gt L)) fx = some (.func (.func f) #[] #[])) (hd : op.dst = some d) (hdT : T.contains d = true) (hok : okD N pins (gt L) d = true)
    {fn : Func} (hfn : P.funcs[f]? = some fn) (hbody : fn.body.isNone = false) (hname : (fn.name == "runtime.NumGoroutine") = false) (hargs : WkArgs (xs.map (cpO (mask T (gt L)))) args) (hp : args.all A.plain = true) (hnr : y.noRef = true) (hL : (d, y) :: L = L') (k : DOK P pins N l0 Q r ((T, [d]) :: acc) L') : DOK P pins N l0 Q (op :: r) acc L := by
  have hT := touch_of hT
  subst hL
  exact ⟨T, [(d, y)], ⟨fun x hx => by simp [keys] at hx; subst hx; simpa using hdT, .inl ⟨hg, l_call hf hop hfx hd hdT hok hfn hbody hname hargs hp hnr⟩⟩, k⟩
theorem l_callm {Ts : List Nat} {d f s i : Nat} {xs : List Operand} {ts : Array TypeId} {fx : Operand} {args : List A} {outs : List (Nat × List T)} {y z : A} (hf : FC P f args outs y) (hop : op.op = .call { callee := .value fx, args := xs.toArray, argTypes := ts }) (hfx : vO (mask Ts (gt L)) fx = some (.func (.func f) #[] #[])) (hd : op.dst = some d) (hdT : Ts.contains d = true) (hok : okD N pins (gt L) d = true)
    {fn : Func} (hfn : P.funcs[f]? = some fn) (hbody : fn.body.isNone = false) (hname : (fn.name == "runtime.NumGoroutine") = false) (hargs : MvArgs (mask Ts (gt L)) s i xs args) (hz : leftF pins (mask Ts (gt L)) outs s i = some z) (hds : (d == s || !Nat.blt s OB || !Nat.blt i OB) = false) (hnr : y.noRef = true) : ∀ S', (∀ t ∈ Ts, S' t = gt L t) → OpH P pins N op S' (app S' [(s, z), (d, y)]) := by
  intro S' hS
  have hok' : okD N pins S' d = true := by
    unfold okD at hok ⊢
    rw [hS d (by simpa using hdT)]
    exact hok
  exact .of (e := [(s, z), (d, y)]) fun hN => ⟨ok_callm (mask_Mk hS).hx hop hfx hd (okD_hx hN hok') hfn hbody hname hargs hz hds hf hnr, leftF_eff (mask_Mk hS) hz (okD_lo hN hok')⟩
theorem d_callm (b : Bool) {Ts : List Nat} {d f s i : Nat} {xs : List Operand} {ts : Array TypeId} {fx : Operand} {args : List A} {outs : List (Nat × List T)} {y z : A} (hf : FC P f args outs y) (hg : op.guard = none) (hT : frcNs (touch l0.toArray (gt L) op) some = some Ts) (hop : op.op = .call { callee := .value fx, args := xs.toArray, argTypes := ts }) (hfx : vO (mask Ts (gt L)) fx = some (.func (.func f) #[] #[])) (hd : op.dst = some d) (hdT : Ts.contains d = true) (hok : okD N pins (gt L) d = true)
    {fn : Func} (hfn : P.funcs[f]? = some fn) (hbody : fn.body.isNone = false) (hname : (fn.name == "runtime.NumGoroutine") = false) (hargs : MvArgs (mask Ts (gt L)) s i xs args) (hz0 : leftF pins (gt L) outs s i = some z) (hz : leftF pins (mask Ts (gt L)) outs s i = some z) (hds : (d == s || !Nat.blt s OB || !Nat.blt i OB) = false) (hsT : Ts.contains s = true) (hnr : y.noRef = true) (hL : setN b L [(s, z), (d, y)] some = some L') (k : DOK P pins N l0 Q r ((Ts, [s, d]) :: acc) L') : DOK P pins N l0 Q (op :: r) acc L := by
  have hT := touch_of hT
  have hL := setN_of hL
  subst hL
  refine ⟨Ts, [(s, z), (d, y)], ⟨fun x hx => ?_, .inl ⟨hg, l_callm hf hop hfx hd hdT hok hfn hbody hname hargs hz hds hnr⟩⟩, k⟩
  simp [keys] at hx
  rcases hx with rfl | rfl
  · simpa using hsT
  · simpa using hdT
theorem d_yes_step {T ks : List Nat} {d j t : Nat} {c want : Bool} {C : Prop} {eff eff' : Eff} (hg : op.guard = some (j, want)) (ht : (l0.toArray[j]?).bind (·.dst) = some t) (hT : frcNs (touch l0.toArray (gt L) op) some = some T) (htT : T.contains t = true) (hc : gt L t = .t (.d (.lit (.bool c)))) (hw : c = want) (hd : op.dst = some d) (hdT : T.contains d = true) (hok : okD N pins (gt L) d = true) (h0 : opF P pins (wants d r) (gt L) d op.op = some (C, eff)) (h : opF P pins (wants d r) (mask T (gt L)) d op.op = some (C, eff)) (hks : keysN eff some = some ks) (hk : ks.all T.contains = true) (he : eff = eff') (hL : setN false L eff' some = some L') (hC : C) (k : DOK P pins N l0 Q r ((T, ks) :: acc) L') : DOK P pins N l0 Q (op :: r) acc L := by
  have hT := touch_of hT
  have hks := keys_of hks
  have hL := setN_of hL
  subst he hL
  subst hks
  exact ⟨T, eff, ⟨all_T hk, .inr ⟨j, want, t, hg, ht, by simpa using htT, .inl ⟨by rw [hc, hw], l_step _ hd hdT hok h hC⟩⟩⟩, k⟩
theorem d_yes_stepN (b : Bool) {T ks : List Nat} {d j t : Nat} {c want : Bool} {C : Prop} {eff eff' : Eff} (hg : op.guard = some (j, want)) (ht : (l0.toArray[j]?).bind (·.dst) = some t) (hT : frcNs (touch l0.toArray (gt L) op) some = some T) (htT : T.contains t = true) (hc : gt L t = .t (.d (.lit (.bool c)))) (hw : c = want) (hd : op.dst = some d) (hdT : T.contains d = true) (hok : okD N pins (gt L) d = true) (h0 : opN b P pins (wants d r) (gt L) d op.op = some (C, eff)) (h : opN b P pins (wants d r) (mask T (gt L)) d op.op = some (C, eff)) (hks : keysN eff some = some ks) (hk : ks.all T.contains = true) (he : eff = eff') (hL : setN false L eff' some = some L') (hC : C) (k : DOK P pins N l0 Q r ((T, ks) :: acc) L') : DOK P pins N l0 Q (op :: r) acc L := by
  have hT := touch_of hT
  have hks := keys_of hks
  have hL := setN_of hL
  subst he hL
  subst hks
  exact ⟨T, eff, ⟨all_T hk, .inr ⟨j, want, t, hg, ht, by simpa using htT, .inl ⟨by rw [hc, hw], l_step _ hd hdT hok (opN_of h) hC⟩⟩⟩, k⟩
theorem d_yes_call {T : List Nat} {d f j t : Nat} {c want : Bool} {xs : List Operand} {ts : Array TypeId} {args : List A} {y : A} (hf : FC P f args [] y) (hg : op.guard = some (j, want)) (ht : (l0.toArray[j]?).bind (·.dst) = some t) (hT : frcNs (touch l0.toArray (gt L) op) some = some T) (htT : T.contains t = true) (hc : gt L t = .t (.d (.lit (.bool c)))) (hw : c = want) {fx : Operand} (hop : op.op = .call { callee := .value fx, args := xs.toArray, argTypes := ts }) (hfx : vO (mask T (gt L)) fx = some (.func (.func f) #[] #[])) (hd : op.dst = some d) (hdT : T.contains d = true) (hok : okD N pins (gt L) d = true)
    {fn : Func} (hfn : P.funcs[f]? = some fn) (hbody : fn.body.isNone = false) (hname : (fn.name == "runtime.NumGoroutine") = false) (hargs : WkArgs (xs.map (cpO (mask T (gt L)))) args) (hp : args.all A.plain = true) (hnr : y.noRef = true) (hL : (d, y) :: L = L') (k : DOK P pins N l0 Q r ((T, [d]) :: acc) L') : DOK P pins N l0 Q (op :: r) acc L := by
  have hT := touch_of hT
  subst hL
  exact ⟨T, [(d, y)], ⟨fun x hx => by simp [keys] at hx; subst hx; simpa using hdT, .inr ⟨j, want, t, hg, ht, by simpa using htT, .inl ⟨by rw [hc, hw], l_call hf hop hfx hd hdT hok hfn hbody hname hargs hp hnr⟩⟩⟩, k⟩
theorem d_no {T : List Nat} {d j t : Nat} {c want : Bool} (hg : op.guard = some (j, want)) (ht : (l0.toArray[j]?).bind (·.dst) = some t) (hT : frcNs (touch l0.toArray (gt L) op) some = some T) (htT : T.contains t = true) (hc : gt L t = .t (.d (.lit (.bool c)))) (hw : c = !want) (hd : op.dst = some d) (hdT : T.contains d = true) (hok : okD N pins (gt L) d = true) (hL : (d, .tup []) :: L = L') (k : DOK P pins N l0 Q r ((T, [d]) :: acc) L') : DOK P pins N l0 Q (op :: r) acc L := by
  have hT := touch_of hT
  subst hL
  exact ⟨T, [(d, .tup [])], ⟨fun x hx => by simp [keys] at hx; subst hx; simpa using hdT, .inr ⟨j, want, t, hg, ht, by simpa using htT, .inr ⟨.inl (by rw [hc, hw]), d, hd, by simpa using hdT, hok, rfl⟩⟩⟩, k⟩
theorem d_un {T : List Nat} {d j t : Nat} {want : Bool} (hg : op.guard = some (j, want)) (ht : (l0.toArray[j]?).bind (·.dst) = some t) (hT : frcNs (touch l0.toArray (gt L) op) some = some T) (htT : T.contains t = true) (hc : gt L t = .tup []) (hd : op.dst = some d) (hdT : T.contains d = true) (hok : okD N pins (gt L) d = true) (k : DOK P pins N l0 Q r ((T, [d]) :: acc) ((d, .tup []) :: L)) : DOK P pins N l0 Q (op :: r) acc L := by
  have hT := touch_of hT
  exact ⟨T, [(d, .tup [])], ⟨fun x hx => by simp [keys] at hx; subst hx; simpa using hdT, .inr ⟨j, want, t, hg, ht, by simpa using htT, .inr ⟨.inr hc, d, hd, by simpa using hdT, hok, rfl⟩⟩⟩, k⟩
theorem d_nil (ho : okB l0 acc.reverse = true) (h : Q L) : DOK P pins N l0 Q [] acc L := ⟨okB_ord ho, h⟩
end
end Go.Proofs.Ytjomnccladjpgaa

/-
  Words for walks over data.
-/
namespace Go.Proofs.Ytjomnccladjpgaa
open Go Go.RowKit
theorem bytesD_get (x : List UInt8) (i : Nat) (h : i < x.length) : (bytesD x).getD (i : Int).toNat [] = [.lit (.int .u8 (x[i].toNat : Int))] := by
  unfold bytesD
  rw [Int.toNat_natCast, List.getD_eq_getElem?_getD, List.getElem?_map, List.getElem?_eq_getElem h]
  rfl
theorem bytesD_length (x : List UInt8) : (bytesD x).length = x.length := by simp [bytesD]
abbrev boolA (b : Bool) : A := .t (.d (.lit (.bool b)))
abbrev intA (n : Int) : A := .t (.d (.lit (.int .i64 n)))
abbrev bytA (x : List UInt8) : A := .t (.d (.seq 1 (bytesD x)))
/-- The number in a slot: for a loop's measure. -/
def numA : A → Int | .t (.d (.lit (.int _ n))) => n | _ => 0
theorem wrap_id {z : Int} (h1 : -9223372036854775808 ≤ z) (h2 : z ≤ 9223372036854775807) : IntKind.i64.wrap z = z := IntWalk.i64_in z ⟨h1, h2⟩

theorem mixed : Try.prog.follows .mixedOrders = true := by kernel_rfl
end Go.Proofs.Ytjomnccladjpgaa
