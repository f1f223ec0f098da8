/-
  Texts joined: see the remark at the head of each part.
-/
import Derived.Test.YtikaahmonocahaaQ00
import Derived.Deep.MidRow
/-
  Operations that only compute: what they give, told by the slots' data; and that the model gives just that.
-/
namespace Go.Proofs.Ytikaahmonocahaa
open Go Go.RowKit

/-- Without its right to grow. -/
def cpT : T → T
  | .own _ k l => .d (.seq k l)
  | x => x
def cpA : A → A
  | .t x => .t (cpT x)
  | .tup l => .tup (l.map cpT)
  | .box _ => .any
  | .free => .any
  | .hp _ => .any
  | .mp _ => .any
  | .ag l => .ag (l.map cpT)
  | x => x
def litA (v : Value) : A := match v with
  | .agg cs => if cs.toList.all (·.oneCell') then .t (.agg (cs.toList.map .lit)) else .any
  | .tuple _ => .any
  | v => .t (.d (.lit v))
/-- What an operand is, as a copy. -/
def cpO (S : Nat → A) : Operand → A
  | .tmp t => match S t with
    | .box _ => bif Nat.blt t OB then .ref t 0 else .any
    | .t (.ptr j off) => .ref (OB + j) off
    | x => cpA x
  | .const v => litA v
  | .func f => .t (.d (.lit (.func (.func f) #[] #[])))
  | .global _ => .any
def dO (S : Nat → A) (x : Operand) : Option D := match cpO S x with | .t (.d y) => some y | _ => none
def vO (S : Nat → A) (x : Operand) : Option Value := match dO S x with | some (.lit u) => some u | _ => none
/-- M knows at most what S knows. -/
def Mk (M S : Nat → A) : Prop := ∀ t, M t = .any ∨ M t = S t
theorem Mk.refl (S : Nat → A) : Mk S S := fun _ => .inr rfl

section
variable {w0 : World} {m0 : Mem} {o0 : OwnM} {G : Nat → Prop} {pins : List Nat} {S M : Nat → A} {a : Act} {w : World} {m : Mem} {o : OwnM}
theorem own_seq {loc : Nat × Nat} {E k : Nat} {l : List (List D)} {v : Value} (hsat : ∀ b p u, m b p = some u → w.cell? ⟨b, p, none⟩ = some u) (h : OwnAt m w o loc E k l v) : RepD m (.seq k l) v := by
  obtain ⟨A', cap, xs, rfl, h1, h2, h3, h4⟩ := h
  rcases A' with _ | ad
  · have hl : l = [] := by
      rcases h1.2 with ⟨_, h⟩ | ⟨g, c, cur, hv, _⟩
      · exact List.eq_nil_of_length_eq_zero h
      · injection hv with hv; cases hv
    subst hl
    exact .seq k [] none cap 0 0 (fun _ _ => undef) (by simp) (by
      rcases h1.2 with ⟨hv, _⟩ | ⟨g, c, cur, hv, _⟩
      · injection hv with _ _ h; rw [h]; exact Nat.zero_le _
      · injection hv with hv; cases hv) (fun h => absurd rfl h) (fun i r h => by simp at h) (fun i r j d h => by simp at h) (fun i r j d h => by simp at h)
  · obtain ⟨g, hg⟩ : ∃ g, ad = ⟨g, 0, none⟩ := by
      rcases h1.2 with ⟨hv, _⟩ | ⟨g, c, cur, hv, _⟩
      · injection hv with hv; cases hv
      · injection hv with hv; injection hv with hv; exact ⟨g, hv⟩
    subst hg
    have hcap : l.length ≤ cap ∧ cap ≤ maxLen := by
      rcases h1.2 with ⟨hv, _⟩ | ⟨g, c, cur, hv, _, _, h5, h6, _⟩
      · injection hv with hv; cases hv
      · injection hv with _ _ hv; subst hv; exact ⟨h5, h6⟩
    refine .seq k l _ cap g 0 (fun i j => (xs[i * k + j]?).getD undef) hcap.1 hcap.2 (fun _ => rfl) h3 (fun i r j d a b => ?_) (fun i r j d a b => ?_)
    · obtain ⟨u, hu, _⟩ := h4 i r j d a b
      rw [Nat.zero_add, (h2 g rfl).2, hu]
      rfl
    · obtain ⟨u, hu, hr⟩ := h4 i r j d a b
      rw [hu]
      exact hr
theorem cpT_rep (hsat : ∀ b p u, m b p = some u → w.cell? ⟨b, p, none⟩ = some u) {loc loc' : Nat × Nat} {x : T} {v : Value} (h : RepT m w o loc x v) : RepT m w o loc' (cpT x) v := by
  cases x with
  | d x => exact h
  | agg l => exact h
  | own E k l => exact own_seq hsat h
  | ptr j off => exact h
  | view j off E k n => exact h
  | hpt c off => exact h
  | mpt c => exact h
  | hvw c off E k n => exact h
theorem litA_rep (s : Nat) (v : Value) : RepA m w o S s (litA v) v := by
  cases v <;> try exact RepD.lit _ rfl
  case agg cs =>
    unfold litA
    simp only
    split
    case isFalse => trivial
    rename_i hall
    refine ⟨cs, rfl, by simp, fun j d hj => ?_⟩
    rw [List.getElem?_map] at hj
    cases hu : cs.toList[j]? with
    | none => rw [hu] at hj; cases hj
    | some u =>
      rw [hu] at hj
      injection hj with hj
      subst hj
      exact ⟨u, rfl, .lit u (List.all_eq_true.1 hall u (List.mem_of_getElem? hu))⟩
  case tuple => trivial
theorem cpO_rep (hM : Mk M S) (I : Inv w0 m0 o0 G pins S a w m o) (x : Operand) (s : Nat) : RepA m w o S s (cpO M x) (a.eval x) := by
  cases x with
  | const v => exact litA_rep s v
  | global g => trivial
  | func f => exact RepD.lit _ rfl
  | tmp t =>
    have h := I.slots t
    unfold cpO
    rcases hM t with e | e
    · simp only [e]
      trivial
    · show RepA m w o S s (match M t with | .box _ => (bif Nat.blt t OB then .ref t 0 else .any) | .t (.ptr j off) => .ref (OB + j) off | x => cpA x) (a.tmps.getD t undef)
      rw [e]
      revert h
      generalize a.tmps.getD t undef = v
      generalize hst : S t = x
      intro h
      cases x with
      | t x =>
        cases x with
        | ptr j off => obtain ⟨g, h1, h2⟩ := h; exact ⟨g, h1, h2, fun hb => absurd hb (by omega)⟩
        | d x => exact h
        | agg l => exact h
        | own E k l => exact own_seq I.sat h
        | view j off E k n => exact h
        | hpt c off => exact h
        | mpt c => exact h
        | hvw c off E k n => exact h
      | tup l =>
        obtain ⟨vs, e, h1, h2⟩ := h
        refine ⟨vs, e, by simpa using h1, fun j y hj => ?_⟩
        rw [List.getElem?_map] at hj
        cases hu : l[j]? with
        | none => rw [hu] at hj; cases hj
        | some z =>
          rw [hu] at hj
          injection hj with hj
          subst hj
          obtain ⟨u, h3, h4⟩ := h2 j z hu
          exact ⟨u, h3, cpT_rep I.sat h4⟩
      | imm l => exact h
      | box l =>
        obtain ⟨g, e, h1, _⟩ := h
        show RepA m w o S s (bif Nat.blt t OB then .ref t 0 else .any) v
        cases hb : Nat.blt t OB with
        | true => exact ⟨g, h1, e (by simpa using hb), fun _ => ⟨l, hst⟩⟩
        | false => trivial
      | ref b off => exact h
      | free => trivial
      | hp f => trivial
      | mp l => trivial
      | ag l =>
        obtain ⟨vs, e, h1, h2⟩ := h
        refine ⟨vs, e, by simpa using h1, fun j y hj => ?_⟩
        rw [List.getElem?_map] at hj
        cases hu : l[j]? with
        | none => rw [hu] at hj; cases hj
        | some z =>
          rw [hu] at hj
          injection hj with hj
          subst hj
          obtain ⟨u, h3, h5, h4⟩ := h2 j z hu
          exact ⟨u, h3, h5, cpT_rep I.sat h4⟩
      | any => trivial
theorem dO_rep (hM : Mk M S) (I : Inv w0 m0 o0 G pins S a w m o) {x : Operand} {d : D} (h : dO M x = some d) : RepD m d (a.eval x) := by
  have := cpO_rep hM I x 0
  unfold dO at h
  split at h
  · rename_i y hy
    injection h with h
    subst h
    rw [hy] at this
    exact this
  · cases h
theorem vO_eq (hM : Mk M S) (I : Inv w0 m0 o0 G pins S a w m o) {x : Operand} {u : Value} (h : vO M x = some u) : a.eval x = u := by
  unfold vO at h
  split at h
  · rename_i y hy
    injection h with h
    subst h
    cases dO_rep hM I hy
    rfl
  · cases h
end

/-! ### Literals -/
def pureOf (s : Sem Value) : Option Value := match s with | .pure v => some v | _ => none
theorem pureOf_run {s : Sem Value} {v : Value} (h : pureOf s = some v) (P : Program) (w : World) : s.run P w = .ok v w := by
  unfold pureOf at h
  split at h
  · injection h with h; subst h; rfl
  · cases h
def binV (op : BinOp) (u v : Value) : Option Value := match op, u, v with
  | .shl, .int k a, .int yk b => pureOf (Op.shift .shl k a yk b)
  | .shr, .int k a, .int yk b => pureOf (Op.shift .shr k a yk b)
  | op, .int k a, .int k' b => if k ≠ k' then none else match op with
    | .add | .sub | .mul => pureOf (Op.intArith op k a b)
    | .quo | .rem => pureOf (Op.intDiv op k a b)
    | .and | .or | .xor | .andNot => pureOf (Op.intBits op k a b)
    | _ => pureOf (Op.intCmp op a b)
  | op, .string a, .string b => pureOf (Op.stringOp op a b)
  | _, _, _ => none
theorem binV_str (op : BinOp) (a b : ByteArray) : binV op (.string a) (.string b) = pureOf (Op.stringOp op a b) := by cases op <;> rfl
theorem binV_run {op : BinOp} {u v r : Value} (h : binV op u v = some r) (P : Program) (w : World) (t : TypeId) (x y : Operand) : (do eqGuard op t x y u v; binOp op t u v).run P w = .ok r w := by
  have hg : ∀ {u v : Value}, (match u, v with | .int _ _, .int _ _ => true | .string _, .string _ => true | _, _ => false) = true → (eqGuard op t x y u v).run P w = .ok () w := by
    intro u v h
    unfold eqGuard
    cases op <;> (cases u <;> first | (cases h; done) | (cases v <;> first | (cases h; done) | rfl))
  cases u <;> try (cases op <;> cases h; done)
  case int k a =>
    cases v <;> try (cases op <;> cases h; done)
    case int k' b =>
      rw [Sem.run_bind, hg rfl, Result.andThen_ok]
      cases op <;> first
        | exact pureOf_run h P w
        | (unfold binV at h
           simp only at h
           split at h
           · cases h
           · rename_i hk
             simp only [binOp]
             rw [if_neg hk]
             exact pureOf_run h P w)
  case string a =>
    cases v <;> try (cases op <;> cases h; done)
    case string b =>
      rw [Sem.run_bind, hg rfl, Result.andThen_ok]
      rw [binV_str] at h
      rw [show binOp op t (.string a) (.string b) = Op.stringOp op a b by cases op <;> rfl]
      exact pureOf_run h P w
def unV (op : UnOp) (u : Value) : Option Value := pureOf (Op.unary op u)
end Go.Proofs.Ytikaahmonocahaa

/-
  Operations that leave the world alone: what they give, told by the slots' data; and that the model gives just that.
-/
namespace Go.Proofs.Ytikaahmonocahaa
open Go Go.RowKit
set_option linter.unusedVariables false

def TypeDesc.aggr : TypeDesc → Bool | .struct _ | .array _ _ => true | _ => false
/-- A type's variable: of many cells, of how many. -/
def tyA (P : Program) (t : TypeId) : Option (Bool × Nat) := match P.underlying t, P.info? t with
  | some d, some i => some (TypeDesc.aggr d, i.size)
  | _, _ => none
def toD : T → D
  | .d x => x
  | .own _ k l => .seq k l
  | .agg _ => .lit undef
  | .ptr _ _ => .lit undef
  | .view _ _ _ _ _ => .lit undef
  | .hpt _ _ => .lit undef
  | .hvw _ _ _ _ _ => .lit undef
  | .mpt _ => .lit undef
/-- A cell's part, as a slot tells it. -/
def norA : T → A
  | .ptr j off => .ref (OB + j) off
  | x => .t (cpT x)
def slD (k : Nat) : Option D → Option (List (List D))
  | some (.seq k' l) => if k = k' then some l else none
  | some (.lit (.slice none 0 0)) => some []
  | _ => none
def bytesD (bs : List UInt8) : List (List D) := bs.map fun b => [.lit (.int .u8 (b.toNat : Int))]

section
variable {w0 : World} {m0 : Mem} {o0 : OwnM} {G : Nat → Prop} {pins : List Nat} {S M : Nat → A} {a : Act} {w : World} {m : Mem} {o : OwnM} {P : Program}
theorem tyA_some {t : TypeId} {b : Bool} {n : Nat} (h : tyA P t = some (b, n)) : ∃ d i, P.underlying t = some d ∧ P.info? t = some i ∧ TypeDesc.aggr d = b ∧ i.size = n := by
  unfold tyA at h
  split at h
  · rename_i d i h1 h2
    injection h with h
    injection h with ha hb
    exact ⟨d, i, h1, h2, ha, hb⟩
  · cases h
theorem run_isAgg {t : TypeId} {d : TypeDesc} (h : P.underlying t = some d) (w : World) : (isAgg t).run P w = .ok (TypeDesc.aggr d) w := by
  unfold isAgg
  rw [Sem.run_bind, run_underlying h w]
  cases d <;> rfl
theorem run_loadVar_one {t : TypeId} {n : Nat} (h : tyA P t = some (false, n)) {ad : Addr} {u : Value} (hc : w.cell? ad = some u) : (loadVar t ad).run P w = .ok u w := by
  obtain ⟨d, i, h1, h2, h3, h4⟩ := tyA_some h
  simp [loadVar, run_isAgg h1, h3, hc]
theorem run_loadVar_many {t : TypeId} {n : Nat} (h : tyA P t = some (true, n)) {g p : Nat} {vs : List Value} (hn : vs.length = n) (hc : ∀ j v, vs[j]? = some v → w.cell? ⟨g, p + j, none⟩ = some v) : (loadVar t ⟨g, p, none⟩).run P w = .ok (.agg vs.toArray) w := by
  obtain ⟨d, i, h1, h2, h3, h4⟩ := tyA_some h
  refine run_loadVar_mid w g p t vs d hc h1 ?_ (by rw [h2]; simp [h4, hn])
  cases d <;> first | rfl | (cases h3)

/-! ### Loads -/
def ldF (P : Program) (M : Nat → A) (t : TypeId) (x : Operand) : Option A := match cpO M x, tyA P t with
  | .imm l, some (false, _) => (l[0]?).map fun d => .t (.d d)
  | .imm l, some (true, n) => if n = l.length then some (.t (.agg l)) else if n ≤ l.length then some (.t (.agg (l.take n))) else none
  | .ref b off, some (false, _) => match M b with | .box l => (l[off]?).map norA | _ => none
  | .ref b off, some (true, n) => match M b with | .box l => if noPt ((l.drop off).take n) = true then (if off = 0 ∧ n = l.length then some (.t (.agg (l.map toD))) else if off + n ≤ l.length then some (.t (.agg (((l.drop off).take n).map toD))) else none) else none | _ => none
  | _, _ => none

theorem repL_of_mem {l : List D} {g p : Nat} (h : ∀ (j : Nat) (d : D), l[j]? = some d → ∃ u, m g (p + j) = some u ∧ RepD m d u) : ∃ vs : List Value, RepL m l vs ∧ ∀ j v, vs[j]? = some v → m g (p + j) = some v := by
  refine ⟨l.zipIdx.map fun x => (m g (p + x.2)).getD undef, ⟨by simp, fun j d hj => ?_⟩, fun j v hj => ?_⟩
  · obtain ⟨u, h1, h2⟩ := h j d hj
    refine ⟨u, ?_, h2⟩
    simp [List.getElem?_zipIdx, hj, h1]
  · simp only [List.getElem?_map, List.getElem?_zipIdx] at hj
    cases hd : l[j]? with
    | none => simp [hd] at hj
    | some d =>
      obtain ⟨u, h1, h2⟩ := h j d hd
      simp [hd, h1] at hj
      rw [h1, hj]
theorem RepT.toD {loc : Nat × Nat} {x : T} {v : Value} (hsat : ∀ b p u, m b p = some u → w.cell? ⟨b, p, none⟩ = some u) (h : RepT m w o loc x v) (hx : x.isAgg = false) (hp : x.isPt = false) : RepD m (toD x) v := by
  cases x with
  | d x => exact h
  | own E k l => exact own_seq hsat h
  | agg l => cases hx
  | ptr j off => cases hp
  | view j off E k n => cases hp
  | hpt c off => cases hp
  | mpt c => cases hp
  | hvw c off E k n => cases hp
theorem norA_rep {S : Nat → A} (hsat : ∀ b p u, m b p = some u → w.cell? ⟨b, p, none⟩ = some u) {loc : Nat × Nat} {s : Nat} {x : T} {v : Value} (h : RepT m w o loc x v) : RepA m w o S s (norA x) v := by
  cases x with
  | ptr j off => obtain ⟨g, h1, h2⟩ := h; exact ⟨g, h1, h2, fun hb => absurd hb (by omega)⟩
  | d x => exact h
  | agg l => exact h
  | own E k l => exact own_seq hsat h
  | view j off E k n => exact h
  | hpt c off => exact h
  | mpt c => exact h
  | hvw c off E k n => exact h
theorem mk_box (hM : Mk M S) {b : Nat} {l : List T} (h : M b = .box l) : S b = .box l := by
  rcases hM b with e | e
  · rw [e] at h; cases h
  · rw [← e]; exact h
theorem ldF_rep (hM : Mk M S) (I : Inv w0 m0 o0 G pins S a w m o) {t : TypeId} {x : Operand} {y : A} (h : ldF P M t x = some y) : ∀ s, ∃ v, (Instr.loadAt t (a.eval x)).run P w = .ok v w ∧ RepA m w o S s y v := by
  intro s
  have hx := cpO_rep hM I x s
  unfold ldF at h
  split at h
  · rename_i l n hl ht
    rw [hl] at hx
    obtain ⟨g, p, e, hc⟩ := hx
    cases hd : l[0]? with
    | none => rw [hd] at h; cases h
    | some d =>
      rw [hd] at h
      injection h with h
      subst h
      obtain ⟨u, h1, h2⟩ := hc 0 d hd
      refine ⟨u, ?_, h2⟩
      rw [e]
      simp only [Instr.loadAt, Instr.sureAddr, Sem.run_bind, Sem.run_pure, Result.andThen_ok]
      exact run_loadVar_one ht (I.sat _ _ _ h1)
  · rename_i l n hl ht
    rw [hl] at hx
    obtain ⟨g, p, e, hc⟩ := hx
    have h : (if n ≤ l.length then some (A.t (.agg (l.take n))) else none) = some y := by
      split at h
      · rename_i hn
        rw [if_pos (by omega), hn, List.take_length]
        exact h
      · exact h
    split at h
    · rename_i hn
      injection h with h
      subst h
      obtain ⟨vs, h1, h2⟩ := repL_of_mem (m := m) (l := l.take n) (g := g) (p := p) (fun j d hj => hc j d (by rw [List.getElem?_take] at hj; split at hj; exact hj; cases hj))
      refine ⟨.agg vs.toArray, ?_, vs.toArray, rfl, by simpa using h1⟩
      rw [e]
      simp only [Instr.loadAt, Instr.sureAddr, Sem.run_bind, Sem.run_pure, Result.andThen_ok]
      refine run_loadVar_many ht (by rw [h1.1]; simp [hn]) fun j v hj => I.sat _ _ _ (h2 j v hj)
    · cases h
  · rename_i b off n hl ht
    rw [hl] at hx
    obtain ⟨g, h1, e, _⟩ := hx
    split at h
    · rename_i l hb
      have hs := I.slots b
      rw [mk_box hM hb] at hs
      obtain ⟨g', _, h2, h3, cs, E, h4, h5, h6⟩ := hs
      have := I.inj _ _ _ h1 h2
      subst this
      cases hd : l[off]? with
      | none => rw [hd] at h; cases h
      | some z =>
        rw [hd] at h
        injection h with h
        subst h
        obtain ⟨hz, u, h7, h8⟩ := h6 off z hd
        refine ⟨u, ?_, norA_rep I.sat h8⟩
        rw [e]
        simp only [Instr.loadAt, Instr.sureAddr, Sem.run_bind, Sem.run_pure, Result.andThen_ok]
        exact run_loadVar_one ht (by rw [cell_of_row w g off cs E _ h4]; exact h7)
    · cases h
  · rename_i b off n hl ht
    rw [hl] at hx
    obtain ⟨g, h1, e, _⟩ := hx
    split at h
    · rename_i l hb
      have hs := I.slots b
      rw [mk_box hM hb] at hs
      obtain ⟨g', _, h2, h3, cs, E, h4, h5, h6⟩ := hs
      have := I.inj _ _ _ h1 h2
      subst this
      split at h
      case isFalse => cases h
      rename_i hpt
      have h : (if off + n ≤ l.length then some (A.t (.agg (((l.drop off).take n).map toD))) else none) = some y := by
        split at h
        · rename_i hn
          rw [if_pos (by omega), hn.1, hn.2, List.drop_zero, List.take_length]
          exact h
        · exact h
      split at h
      · rename_i hn
        injection h with h
        subst h
        refine ⟨.agg ((cs.toList.drop off).take n).toArray, ?_, _, rfl, ?_, fun j d hj => ?_⟩
        · rw [e]
          simp only [Instr.loadAt, Instr.sureAddr, Sem.run_bind, Sem.run_pure, Result.andThen_ok]
          refine run_loadVar_many ht (by simp; omega) fun j v hj => ?_
          rw [cell_of_row w g (off + j) cs E _ h4]
          rw [List.getElem?_take] at hj
          split at hj
          · rw [List.getElem?_drop] at hj; simpa using hj
          · cases hj
        · simp; omega
        · rw [List.getElem?_map, List.getElem?_take, List.getElem?_drop] at hj
          simp only [List.getElem?_take, List.getElem?_drop]
          split at hj
          · rename_i hjn
            rw [if_pos hjn]
            cases hz : l[off + j]? with
            | none => rw [hz] at hj; cases hj
            | some z =>
              rw [hz] at hj
              injection hj with hj
              subst hj
              obtain ⟨ha, u, h7, h8⟩ := h6 (off + j) z hz
              have hzp : z.isPt = false := by
                have := List.all_eq_true.1 hpt z (List.mem_of_getElem? (i := j) (by rw [List.getElem?_take, if_pos hjn, List.getElem?_drop]; exact hz))
                simpa using this
              exact ⟨u, by simpa using h7, h8.toD I.sat ha hzp⟩
          · cases hj
      · cases h
    · cases h
  · cases h

/-! ### Addresses -/
def fdF (P : Program) (M : Nat → A) (t : TypeId) (x : Operand) (f : Nat) : Option A := match P.underlying t with
  | some (.struct fs) => match fs[f]? with
    | some fd => match P.info? fd.type with
      | some i => if i.size = 0 then none else match cpO M x with
        | .imm l => some (.imm (l.drop fd.offset))
        | .ref b off => some (.ref b (off + fd.offset))
        | _ => none
      | none => none
    | none => none
  | _ => none
theorem fdF_rep (hM : Mk M S) (I : Inv w0 m0 o0 G pins S a w m o) {t : TypeId} {x : Operand} {f : Nat} {y : A} (h : fdF P M t x f = some y) : ∀ s, ∃ v, (Instr.fieldAt t (a.eval x) f).run P w = .ok v w ∧ RepA m w o S s y v := by
  intro s
  have hx := cpO_rep hM I x s
  unfold fdF at h
  split at h
  case h_2 => cases h
  rename_i fs hu
  split at h
  case h_2 => cases h
  rename_i fd hf
  split at h
  case h_2 => cases h
  rename_i i hi
  split at h
  · cases h
  rename_i hsz
  have hrun : ∀ g p, (Instr.fieldAt t (.pointer (some ⟨g, p, none⟩)) f).run P w = .ok (.pointer (some ⟨g, p + fd.offset, none⟩)) w := by
    intro g p
    simp [Instr.fieldAt, run_underlying hu, hf, Instr.sureAddr, fieldPlace, sizeOf, typeInfo, hi, hsz, Addr.add_mid]
  split at h
  · rename_i l hl
    rw [hl] at hx
    injection h with h
    subst h
    obtain ⟨g, p, e, hc⟩ := hx
    refine ⟨_, by rw [e]; exact hrun g p, g, p + fd.offset, rfl, fun j d hj => ?_⟩
    rw [List.getElem?_drop] at hj
    rw [Nat.add_assoc]
    exact hc _ _ hj
  · rename_i b off hl
    rw [hl] at hx
    injection h with h
    subst h
    obtain ⟨g, h1, e, hb⟩ := hx
    exact ⟨_, by rw [e]; exact hrun g off, g, h1, rfl, hb⟩
  · cases h

theorem slD_rep {k : Nat} {x : Option D} {l : List (List D)} {v : Value} (h : slD k x = some l) (hr : ∀ d, x = some d → RepD m d v) : RepD m (.seq k l) v := by
  unfold slD at h
  split at h
  · rename_i k' l'
    split at h
    · rename_i e
      injection h with h
      subst e h
      exact hr _ rfl
    · cases h
  · injection h with h
    subst h
    cases hr _ rfl
    exact .seq k [] none 0 0 0 (fun _ _ => undef) (Nat.le_refl _) (Nat.zero_le _) (fun h => absurd rfl h) (fun i r h => by simp at h) (fun i r j d h => by simp at h) (fun i r j d h => by simp at h)
  · cases h

/-- The address of an element. -/
def ixF (P : Program) (M : Nat → A) (t : TypeId) (x i : Operand) : Option A := match vO M i with
  | some (.int _ n) => match P.underlying t with
    | some (.slice e) => match P.info? e with
      | some ie => match slD ie.size (dO M x) with
        | some l => if 0 ≤ n ∧ n < l.length then (l[n.toNat]?).map .imm else none
        | none => none
      | none => none
    | some (.array len e) => match P.info? e with
      | some ie => if 0 ≤ n ∧ n < len then match cpO M x with
          | .imm l => some (.imm (l.drop (n.toNat * ie.size)))
          | .ref b off => some (.ref b (off + n.toNat * ie.size))
          | _ => none
        else none
      | none => none
    | _ => none
  | _ => none
theorem ixF_rep (hM : Mk M S) (I : Inv w0 m0 o0 G pins S a w m o) {t : TypeId} {x i : Operand} {y : A} (h : ixF P M t x i = some y) : ∀ s, ∃ v, (Instr.indexAt t (a.eval x) (a.eval i)).run P w = .ok v w ∧ RepA m w o S s y v := by
  intro s
  unfold ixF at h
  split at h
  case h_2 => cases h
  rename_i ki n hn
  rw [vO_eq hM I hn]
  split at h
  · rename_i e hu
    split at h
    case h_2 => cases h
    rename_i ie hie
    split at h
    case h_2 => cases h
    rename_i l hl
    split at h
    case isFalse => cases h
    rename_i hb
    have hr := slD_rep (m := m) (v := a.eval x) hl (fun d hd => dO_rep hM I hd)
    cases hr' : l[n.toNat]? with
    | none => rw [hr'] at h; cases h
    | some r =>
      rw [hr'] at h
      injection h with h
      subst h
      generalize a.eval x = v at hr ⊢
      cases hr with
      | seq _ _ A' cap g p f hcap hmax hA hw hm hr =>
        have hne : l ≠ [] := by intro e; subst e; simp at hr'
        rw [hA hne]
        refine ⟨.pointer (some ⟨g, p + n.toNat * ie.size, none⟩), ?_, g, p + n.toNat * ie.size, rfl, fun j d hj => ⟨f n.toNat j, hm _ _ _ _ hr' hj, hr _ _ _ _ hr' hj⟩⟩
        simp [Instr.indexAt, asIntOf, run_underlying hu, hb, sizeOf, typeInfo, hie, Addr.add_mid]
  · rename_i len e hu
    split at h
    case h_2 => cases h
    rename_i ie hie
    split at h
    case isFalse => cases h
    rename_i hb
    have hx := cpO_rep hM I x s
    have hrun : ∀ g p, (Instr.indexAt t (.pointer (some ⟨g, p, none⟩)) (.int ki n)).run P w = .ok (.pointer (some ⟨g, p + n.toNat * ie.size, none⟩)) w := by
      intro g p
      simp [Instr.indexAt, asIntOf, Instr.sureAddr, run_underlying hu, hb, sizeOf, typeInfo, hie, Addr.add_mid]
    split at h
    · rename_i l hl
      rw [hl] at hx
      injection h with h
      subst h
      obtain ⟨g, p, e, hc⟩ := hx
      refine ⟨_, by rw [e]; exact hrun g p, g, _, rfl, fun j d hj => ?_⟩
      rw [List.getElem?_drop] at hj
      rw [Nat.add_assoc]
      exact hc _ _ hj
    · rename_i b off hl
      rw [hl] at hx
      injection h with h
      subst h
      obtain ⟨g, h1, e, hb⟩ := hx
      exact ⟨_, by rw [e]; exact hrun g off, g, h1, rfl, hb⟩
    · cases h
  · cases h

/-! ### Lengths -/
def lnF (P : Program) (M : Nat → A) (t : TypeId) (x : Operand) : Option Value := match P.underlying t with
  | some (.slice _) => match dO M x with
    | some (.seq _ l) => some (.int .i64 l.length)
    | some (.lit (.slice _ n _)) => some (.int .i64 n)
    | _ => none
  | some .string => match vO M x with
    | some (.string s) => some (.int .i64 s.size)
    | _ => none
  | some (.array n _) => some (.int .i64 n)
  | _ => none
theorem lnF_run (hM : Mk M S) (I : Inv w0 m0 o0 G pins S a w m o) {t ty : TypeId} {x : Operand} {y : Value} (h : lnF P M t x = some y) : (Builtin.len_ #[t] ty #[a.eval x]).run P w = .ok y w := by
  unfold lnF at h
  split at h
  · rename_i e hu
    split at h
    · rename_i k l hd
      injection h with h
      subst h
      have hr := dO_rep hM I hd
      generalize a.eval x = v at hr ⊢
      cases hr
      simp [Builtin.len_, run_underlying hu, goInt]
    · rename_i A' n c hd
      injection h with h
      subst h
      have e : a.eval x = .slice A' n c := by
        have := dO_rep hM I hd
        generalize a.eval x = v at this
        cases this; rfl
      rw [e]
      simp [Builtin.len_, run_underlying hu, goInt]
    · cases h
  · rename_i hu
    split at h
    · rename_i s hs
      injection h with h
      subst h
      rw [vO_eq hM I hs]
      simp [Builtin.len_, run_underlying hu, goInt]
    · cases h
  · rename_i n e hu
    injection h with h
    subst h
    simp [Builtin.len_, run_underlying hu, goInt]
  · cases h
end
end Go.Proofs.Ytikaahmonocahaa
