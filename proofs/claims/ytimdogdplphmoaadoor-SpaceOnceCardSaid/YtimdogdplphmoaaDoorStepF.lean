/-
  The step of one operation as a function on the slots' data; the model's operation does just that.
-/
import Derived.Test.YtimdogdplphmoaaDoorStep
namespace Go.Proofs.YtimdogdplphmoaaDoor
open Go Go.RowKit
set_option linter.unusedVariables false

/-- What is known of element types: their width, bytes, the zero cells. -/
def elF (P : Program) (t : TypeId) : Option (TypeId × Nat × Nat) := match P.underlying t with
  | some (.slice e) => match P.info? e with
    | some i => match i.zero with
      | some z => if z.cells.size = i.size ∧ 0 < i.size ∧ 0 < i.bytes then some (e, i.size, i.bytes) else none
      | none => none
    | none => none
  | _ => none
theorem elF_of {P : Program} {t e sz nb : Nat} (h : elF P t = some (e, sz, nb)) : ElemOf P t e sz nb := by
  unfold elF at h
  split at h
  · rename_i e' hu
    split at h
    · rename_i i hi
      split at h
      · rename_i z hz
        split at h
        · rename_i hc
          injection h with h
          injection h with h1 h
          injection h with h2 h3
          subst h1 h2 h3
          exact ⟨hu, ⟨i, z, hi, hz, rfl, rfl, hc.1⟩, hc.2.1, hc.2.2⟩
        · cases h
      · cases h
    · cases h
  · cases h

/-- Text as a list of its bytes, and back. -/
def bytesOf : List (List D) → Option (List UInt8)
  | [] => some []
  | [.lit (.int .u8 n)] :: r => (bytesOf r).map (UInt8.ofNat n.toNat :: ·)
  | _ => none

def cvF (P : Program) (M : Nat → A) (src dst : TypeId) (x : Operand) : Option Value := match P.underlying src, P.underlying dst, vO M x with
  | some _, some (.int k), some (.int _ n) => some (.int k (k.wrap n))
  | some _, some .string, some (.string s) => some (.string s)
  | _, _, _ => none

/-- Values that leave the world alone. -/
def valF (P : Program) (M : Nat → A) : Op → Option A
  | .move x | .assign x => some (cpO M x)
  | .pick c x y => match vO M c with
    | some (.bool t) => some (cpO M (if t then x else y))
    | _ => none
  | .binOp op t x y _ => match vO M x, vO M y with
    | some (.bool u), some (.bool v) => match P.underlying t, op with
      | some .bool, .eql => some (.t (.d (.lit (.bool (u == v)))))
      | some .bool, .neq => some (.t (.d (.lit (.bool (!(u == v))))))
      | _, _ => none
    | some u, some v => (binV op u v).map fun r => litA r
    | _, _ => none
  | .unOp op _ x => match vO M x with
    | some u => (unV op u).map fun r => litA r
    | none => none
  | .convert src dst x => (cvF P M src dst x).map fun r => litA r
  | .extract x i => match cpO M x with
    | .tup l => (l[i]?).map .t
    | _ => none
  | .load t x => ldF P M t x
  | .fieldAddr t x f => fdF P M t x f
  | .indexAddr t x i => ixF P M t x i
  | .nilCheck x => match cpO M x with
    | .imm l => some (.imm l)
    | .ref b off => some (.ref b off)
    | .t (.hpt c off) => some (.t (.hpt c off))
    | _ => none
  | .call { callee := .builtin .len, args := ⟨[x]⟩, argTypes := ⟨[t]⟩ } => (lnF P M t x).map fun r => litA r
  | _ => none

section
variable {w0 : World} {m0 : Mem} {o0 : OwnM} {G : Nat → Prop} {pins : List Nat} {S M : Nat → A} {a : Act} {w : World} {m : Mem} {o : OwnM} {P : Program}
theorem litA_rep' (s : Nat) {v : Value} (h : (match v with | .tuple _ => false | _ => true) = true) : RepA m w o S s (litA v) v := litA_rep s v
theorem valF_run (hM : Mk M S) (I : Inv w0 m0 o0 G pins S a w m o) (op : Oper) {y : A} (h : valF P M op.op = some y) : ∀ s, ∃ v, (execOp a.eval op).run P w = .ok (.value v) w ∧ RepA m w o S s y v := by
  intro s
  obtain ⟨dst, op, ty, pos, after, guard⟩ := op
  simp only at h
  cases op with
  | move x => injection h with h; subst h; exact ⟨_, rfl, cpO_rep hM I x s⟩
  | assign x => injection h with h; subst h; exact ⟨_, rfl, cpO_rep hM I x s⟩
  | pick c x y =>
    dsimp only [execOp]
    unfold valF at h
    simp only at h
    split at h
    · rename_i t ht
      injection h with h
      subst h
      rw [vO_eq hM I ht]
      refine ⟨a.eval (if t then x else y), ?_, cpO_rep hM I _ s⟩
      cases t <;> rfl
    · cases h
  | binOp op t x y yt =>
    dsimp only [execOp]
    unfold valF at h
    simp only at h
    split at h
    · rename_i u v hu hv
      rw [vO_eq hM I hu, vO_eq hM I hv]
      have hg : ∀ op : BinOp, (eqGuard op t x y (.bool u) (.bool v)).run P w = .ok () w := by
        intro op
        unfold eqGuard
        cases op <;> rfl
      split at h
      · rename_i hb
        injection h with h
        subst h
        refine ⟨.bool (u == v), ?_, .lit _ rfl⟩
        simp only [Sem.run_bind, hg, Result.andThen_ok, run_eql_bool w t u v hb]
        rfl
      · rename_i hb
        injection h with h
        subst h
        refine ⟨.bool (!(u == v)), ?_, .lit _ rfl⟩
        simp only [Sem.run_bind, hg, Result.andThen_ok, run_neq_bool w t u v hb]
        rfl
      · cases h
    · rename_i u v _ hu hv
      rw [vO_eq hM I hu, vO_eq hM I hv]
      cases hr : binV op u v with
      | none => rw [hr] at h; cases h
      | some r =>
        rw [hr] at h
        injection h with h
        subst h
        refine ⟨r, ?_, litA_rep s r⟩
        rw [Sem.run_bind, binV_run hr P w t x y]
        rfl
    · cases h
  | unOp op t x =>
    dsimp only [execOp]
    unfold valF at h
    simp only at h
    split at h
    · rename_i u hu
      rw [vO_eq hM I hu]
      cases hr : unV op u with
      | none => rw [hr] at h; cases h
      | some r =>
        rw [hr] at h
        injection h with h
        subst h
        refine ⟨r, ?_, litA_rep s r⟩
        rw [Sem.run_bind, pureOf_run hr P w]
        rfl
    · cases h
  | convert src dst x =>
    dsimp only [execOp]
    unfold valF cvF at h
    simp only at h
    split at h
    · rename_i _ k _ n h1 h2 h3
      injection h with h
      subst h
      rw [vO_eq hM I h3]
      refine ⟨.int k (k.wrap n), ?_, litA_rep s _⟩
      simp [convert, run_underlying h1, run_underlying h2, Conv.intToInt]
    · rename_i b h1 h2 h3
      injection h with h
      subst h
      rw [vO_eq hM I h3]
      refine ⟨.string b, ?_, litA_rep s _⟩
      simp [convert, run_underlying h1, run_underlying h2]
    · cases h
  | extract x i =>
    dsimp only [execOp]
    unfold valF at h
    simp only at h
    have hx := cpO_rep hM I x s
    split at h
    · rename_i l hl
      rw [hl] at hx
      obtain ⟨vs, e, h1, h2⟩ := hx
      cases hi : l[i]? with
      | none => rw [hi] at h; cases h
      | some z =>
        rw [hi] at h
        injection h with h
        subst h
        obtain ⟨u, h3, h4⟩ := h2 i z hi
        refine ⟨u, ?_, ?_⟩
        · rw [e]
          simp [Instr.extract, h3]
        · -- a copy owns nothing
          have hz : ∃ z', z = cpT z' := by
            unfold cpO at hl
            split at hl
            · split at hl
              · rename_i t _ _ _
                cases hb : Nat.blt t OB <;> rw [hb] at hl <;> cases hl
              · cases hl
              · rename_i t _ _ _
                cases hS : M t with
                | tup l' =>
                  rw [hS] at hl
                  injection hl with hl
                  rw [← hl, List.getElem?_map] at hi
                  cases hq : l'[i]? with
                  | none => rw [hq] at hi; cases hi
                  | some q => rw [hq] at hi; injection hi with hi; exact ⟨q, hi.symm⟩
                | _ => rw [hS] at hl; cases hl
            · unfold litA at hl; split at hl <;> first | (split at hl <;> cases hl) | cases hl
            · cases hl
            · cases hl
          obtain ⟨z', rfl⟩ := hz
          show RepT m w o (s, 0) (cpT z') u
          cases z' with
          | d x => exact h4
          | agg l => exact h4
          | own E k l => exact h4
          | ptr j off => exact h4
          | view j off E k n => exact h4
          | hpt c off => exact h4
          | mpt c => exact h4
          | hvw c off E k n => exact h4
    · cases h
  | load t x =>
    dsimp only [execOp]
    obtain ⟨v, h1, h2⟩ := ldF_rep (P := P) hM I (t := t) (x := x) (y := y) h s
    exact ⟨v, by rw [Sem.run_bind, h1]; rfl, h2⟩
  | fieldAddr t x f =>
    dsimp only [execOp]
    obtain ⟨v, h1, h2⟩ := fdF_rep (P := P) hM I (t := t) (x := x) (f := f) (y := y) h s
    exact ⟨v, by rw [Sem.run_bind, h1]; rfl, h2⟩
  | indexAddr t x i =>
    dsimp only [execOp]
    obtain ⟨v, h1, h2⟩ := ixF_rep (P := P) hM I (t := t) (x := x) (i := i) (y := y) h s
    exact ⟨v, by rw [Sem.run_bind, h1]; rfl, h2⟩
  | nilCheck x =>
    dsimp only [execOp]
    unfold valF at h
    simp only at h
    have hx := cpO_rep hM I x s
    split at h
    · rename_i l hl
      injection h with h
      subst h
      rw [hl] at hx
      have hx2 := hx
      obtain ⟨g, p, e, _⟩ := hx
      refine ⟨_, ?_, hx2⟩
      rw [e]
      rfl
    · rename_i b off hl
      injection h with h
      subst h
      rw [hl] at hx
      have hx2 := hx
      obtain ⟨g, _, e, _⟩ := hx
      refine ⟨_, ?_, hx2⟩
      rw [e]
      rfl
    · rename_i c off hl
      injection h with h
      subst h
      rw [hl] at hx
      have hx2 := hx
      obtain ⟨g, _, e⟩ := hx
      refine ⟨_, ?_, hx2⟩
      rw [e]
      rfl
    · cases h
  | call c =>
    dsimp only [execOp]
    unfold valF at h
    split at h <;> try (rename_i hh; cases hh; done)
    all_goals try (cases h; done)
    rename_i x t hc
    injection hc with hc
    subst hc
    cases hr : lnF P M t x with
    | none => rw [hr] at h; cases h
    | some r =>
      rw [hr] at h
      injection h with h
      subst h
      refine ⟨r, ?_, litA_rep s r⟩
      simp only [resolve, invoke, builtin, Sem.run_bind, Sem.run_pure, Result.andThen_ok, List.map_toArray, List.map_cons, List.map_nil]
      rw [lnF_run (P := P) hM I hr]
      rfl
  | _ => cases h
end
end Go.Proofs.YtimdogdplphmoaaDoor
