/-
  Operations that only compute: what they give, told by the slots' data; and that the model gives just that.
-/
import Derived.Test.YtimdogdplphmoaaDoorDat
import Derived.Deep.MidRow
namespace Go.Proofs.YtimdogdplphmoaaDoor
open Go Go.RowKit

/-- Without its right to grow. -/
def cpT : T → T
  | .own _ k l => .d (.seq k l)
  | x => x
def cpA : A → A
  | .t x => .t (cpT x)
  | .tup l => .tup (l.map cpT)
  | .box _ => .any
  | .free => .any
  | .hp _ => .any
  | .mp _ => .any
  | .ag l => .ag (l.map cpT)
  | x => x
def litA (v : Value) : A := match v with
  | .agg cs => if cs.toList.all (·.oneCell') then .t (.agg (cs.toList.map .lit)) else .any
  | .tuple _ => .any
  | v => .t (.d (.lit v))
/-- What an operand is, as a copy. -/
def cpO (S : Nat → A) : Operand → A
  | .tmp t => match S t with
    | .box _ => bif Nat.blt t OB then .ref t 0 else .any
    | .t (.ptr j off) => .ref (OB + j) off
    | x => cpA x
  | .const v => litA v
  | .func f => .t (.d (.lit (.func (.func f) #[] #[])))
  | .global _ => .any
def dO (S : Nat → A) (x : Operand) : Option D := match cpO S x with | .t (.d y) => some y | _ => none
def vO (S : Nat → A) (x : Operand) : Option Value := match dO S x with | some (.lit u) => some u | _ => none
/-- M knows at most what S knows. -/
def Mk (M S : Nat → A) : Prop := ∀ t, M t = .any ∨ M t = S t
theorem Mk.refl (S : Nat → A) : Mk S S := fun _ => .inr rfl

section
variable {w0 : World} {m0 : Mem} {o0 : OwnM} {G : Nat → Prop} {pins : List Nat} {S M : Nat → A} {a : Act} {w : World} {m : Mem} {o : OwnM}
theorem own_seq {loc : Nat × Nat} {E k : Nat} {l : List (List D)} {v : Value} (hsat : ∀ b p u, m b p = some u → w.cell? ⟨b, p, none⟩ = some u) (h : OwnAt m w o loc E k l v) : RepD m (.seq k l) v := by
  obtain ⟨A', cap, xs, rfl, h1, h2, h3, h4⟩ := h
  rcases A' with _ | ad
  · have hl : l = [] := by
      rcases h1.2 with ⟨_, h⟩ | ⟨g, c, cur, hv, _⟩
      · exact List.eq_nil_of_length_eq_zero h
      · injection hv with hv; cases hv
    subst hl
    exact .seq k [] none cap 0 0 (fun _ _ => undef) (by simp) (by
      rcases h1.2 with ⟨hv, _⟩ | ⟨g, c, cur, hv, _⟩
      · injection hv with _ _ h; rw [h]; exact Nat.zero_le _
      · injection hv with hv; cases hv) (fun h => absurd rfl h) (fun i r h => by simp at h) (fun i r j d h => by simp at h) (fun i r j d h => by simp at h)
  · obtain ⟨g, hg⟩ : ∃ g, ad = ⟨g, 0, none⟩ := by
      rcases h1.2 with ⟨hv, _⟩ | ⟨g, c, cur, hv, _⟩
      · injection hv with hv; cases hv
      · injection hv with hv; injection hv with hv; exact ⟨g, hv⟩
    subst hg
    have hcap : l.length ≤ cap ∧ cap ≤ maxLen := by
      rcases h1.2 with ⟨hv, _⟩ | ⟨g, c, cur, hv, _, _, h5, h6, _⟩
      · injection hv with hv; cases hv
      · injection hv with _ _ hv; subst hv; exact ⟨h5, h6⟩
    refine .seq k l _ cap g 0 (fun i j => (xs[i * k + j]?).getD undef) hcap.1 hcap.2 (fun _ => rfl) h3 (fun i r j d a b => ?_) (fun i r j d a b => ?_)
    · obtain ⟨u, hu, _⟩ := h4 i r j d a b
      rw [Nat.zero_add, (h2 g rfl).2, hu]
      rfl
    · obtain ⟨u, hu, hr⟩ := h4 i r j d a b
      rw [hu]
      exact hr
theorem cpT_rep (hsat : ∀ b p u, m b p = some u → w.cell? ⟨b, p, none⟩ = some u) {loc loc' : Nat × Nat} {x : T} {v : Value} (h : RepT m w o loc x v) : RepT m w o loc' (cpT x) v := by
  cases x with
  | d x => exact h
  | agg l => exact h
  | own E k l => exact own_seq hsat h
  | ptr j off => exact h
  | view j off E k n => exact h
  | hpt c off => exact h
  | mpt c => exact h
  | hvw c off E k n => exact h
theorem litA_rep (s : Nat) (v : Value) : RepA m w o S s (litA v) v := by
  cases v <;> try exact RepD.lit _ rfl
  case agg cs =>
    unfold litA
    simp only
    split
    case isFalse => trivial
    rename_i hall
    refine ⟨cs, rfl, by simp, fun j d hj => ?_⟩
    rw [List.getElem?_map] at hj
    cases hu : cs.toList[j]? with
    | none => rw [hu] at hj; cases hj
    | some u =>
      rw [hu] at hj
      injection hj with hj
      subst hj
      exact ⟨u, rfl, .lit u (List.all_eq_true.1 hall u (List.mem_of_getElem? hu))⟩
  case tuple => trivial
theorem cpO_rep (hM : Mk M S) (I : Inv w0 m0 o0 G pins S a w m o) (x : Operand) (s : Nat) : RepA m w o S s (cpO M x) (a.eval x) := by
  cases x with
  | const v => exact litA_rep s v
  | global g => trivial
  | func f => exact RepD.lit _ rfl
  | tmp t =>
    have h := I.slots t
    unfold cpO
    rcases hM t with e | e
    · simp only [e]
      trivial
    · show RepA m w o S s (match M t with | .box _ => (bif Nat.blt t OB then .ref t 0 else .any) | .t (.ptr j off) => .ref (OB + j) off | x => cpA x) (a.tmps.getD t undef)
      rw [e]
      revert h
      generalize a.tmps.getD t undef = v
      generalize hst : S t = x
      intro h
      cases x with
      | t x =>
        cases x with
        | ptr j off => obtain ⟨g, h1, h2⟩ := h; exact ⟨g, h1, h2, fun hb => absurd hb (by omega)⟩
        | d x => exact h
        | agg l => exact h
        | own E k l => exact own_seq I.sat h
        | view j off E k n => exact h
        | hpt c off => exact h
        | mpt c => exact h
        | hvw c off E k n => exact h
      | tup l =>
        obtain ⟨vs, e, h1, h2⟩ := h
        refine ⟨vs, e, by simpa using h1, fun j y hj => ?_⟩
        rw [List.getElem?_map] at hj
        cases hu : l[j]? with
        | none => rw [hu] at hj; cases hj
        | some z =>
          rw [hu] at hj
          injection hj with hj
          subst hj
          obtain ⟨u, h3, h4⟩ := h2 j z hu
          exact ⟨u, h3, cpT_rep I.sat h4⟩
      | imm l => exact h
      | box l =>
        obtain ⟨g, e, h1, _⟩ := h
        show RepA m w o S s (bif Nat.blt t OB then .ref t 0 else .any) v
        cases hb : Nat.blt t OB with
        | true => exact ⟨g, h1, e (by simpa using hb), fun _ => ⟨l, hst⟩⟩
        | false => trivial
      | ref b off => exact h
      | free => trivial
      | hp f => trivial
      | mp l => trivial
      | ag l =>
        obtain ⟨vs, e, h1, h2⟩ := h
        refine ⟨vs, e, by simpa using h1, fun j y hj => ?_⟩
        rw [List.getElem?_map] at hj
        cases hu : l[j]? with
        | none => rw [hu] at hj; cases hj
        | some z =>
          rw [hu] at hj
          injection hj with hj
          subst hj
          obtain ⟨u, h3, h5, h4⟩ := h2 j z hu
          exact ⟨u, h3, h5, cpT_rep I.sat h4⟩
      | any => trivial
theorem dO_rep (hM : Mk M S) (I : Inv w0 m0 o0 G pins S a w m o) {x : Operand} {d : D} (h : dO M x = some d) : RepD m d (a.eval x) := by
  have := cpO_rep hM I x 0
  unfold dO at h
  split at h
  · rename_i y hy
    injection h with h
    subst h
    rw [hy] at this
    exact this
  · cases h
theorem vO_eq (hM : Mk M S) (I : Inv w0 m0 o0 G pins S a w m o) {x : Operand} {u : Value} (h : vO M x = some u) : a.eval x = u := by
  unfold vO at h
  split at h
  · rename_i y hy
    injection h with h
    subst h
    cases dO_rep hM I hy
    rfl
  · cases h
end

/-! ### Literals -/
def pureOf (s : Sem Value) : Option Value := match s with | .pure v => some v | _ => none
theorem pureOf_run {s : Sem Value} {v : Value} (h : pureOf s = some v) (P : Program) (w : World) : s.run P w = .ok v w := by
  unfold pureOf at h
  split at h
  · injection h with h; subst h; rfl
  · cases h
def binV (op : BinOp) (u v : Value) : Option Value := match op, u, v with
  | .shl, .int k a, .int yk b => pureOf (Op.shift .shl k a yk b)
  | .shr, .int k a, .int yk b => pureOf (Op.shift .shr k a yk b)
  | op, .int k a, .int k' b => if k ≠ k' then none else match op with
    | .add | .sub | .mul => pureOf (Op.intArith op k a b)
    | .quo | .rem => pureOf (Op.intDiv op k a b)
    | .and | .or | .xor | .andNot => pureOf (Op.intBits op k a b)
    | _ => pureOf (Op.intCmp op a b)
  | op, .string a, .string b => pureOf (Op.stringOp op a b)
  | _, _, _ => none
theorem binV_str (op : BinOp) (a b : ByteArray) : binV op (.string a) (.string b) = pureOf (Op.stringOp op a b) := by cases op <;> rfl
theorem binV_run {op : BinOp} {u v r : Value} (h : binV op u v = some r) (P : Program) (w : World) (t : TypeId) (x y : Operand) : (do eqGuard op t x y u v; binOp op t u v).run P w = .ok r w := by
  have hg : ∀ {u v : Value}, (match u, v with | .int _ _, .int _ _ => true | .string _, .string _ => true | _, _ => false) = true → (eqGuard op t x y u v).run P w = .ok () w := by
    intro u v h
    unfold eqGuard
    cases op <;> (cases u <;> first | (cases h; done) | (cases v <;> first | (cases h; done) | rfl))
  cases u <;> try (cases op <;> cases h; done)
  case int k a =>
    cases v <;> try (cases op <;> cases h; done)
    case int k' b =>
      rw [Sem.run_bind, hg rfl, Result.andThen_ok]
      cases op <;> first
        | exact pureOf_run h P w
        | (unfold binV at h
           simp only at h
           split at h
           · cases h
           · rename_i hk
             simp only [binOp]
             rw [if_neg hk]
             exact pureOf_run h P w)
  case string a =>
    cases v <;> try (cases op <;> cases h; done)
    case string b =>
      rw [Sem.run_bind, hg rfl, Result.andThen_ok]
      rw [binV_str] at h
      rw [show binOp op t (.string a) (.string b) = Op.stringOp op a b by cases op <;> rfl]
      exact pureOf_run h P w
def unV (op : UnOp) (u : Value) : Option Value := pureOf (Op.unary op u)
end Go.Proofs.YtimdogdplphmoaaDoor
