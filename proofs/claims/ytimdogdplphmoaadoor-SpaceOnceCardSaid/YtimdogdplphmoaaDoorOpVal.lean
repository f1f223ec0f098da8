/-
  Operations that leave the world alone: what they give, told by the slots' data; and that the model gives just that.
-/
import Derived.Test.YtimdogdplphmoaaDoorOpPure
namespace Go.Proofs.YtimdogdplphmoaaDoor
open Go Go.RowKit
set_option linter.unusedVariables false

def TypeDesc.aggr : TypeDesc → Bool | .struct _ | .array _ _ => true | _ => false
/-- A type's variable: of many cells, of how many. -/
def tyA (P : Program) (t : TypeId) : Option (Bool × Nat) := match P.underlying t, P.info? t with
  | some d, some i => some (TypeDesc.aggr d, i.size)
  | _, _ => none
def toD : T → D
  | .d x => x
  | .own _ k l => .seq k l
  | .agg _ => .lit undef
  | .ptr _ _ => .lit undef
  | .view _ _ _ _ _ => .lit undef
  | .hpt _ _ => .lit undef
  | .hvw _ _ _ _ _ => .lit undef
  | .mpt _ => .lit undef
/-- A cell's part, as a slot tells it. -/
def norA : T → A
  | .ptr j off => .ref (OB + j) off
  | x => .t (cpT x)
def slD (k : Nat) : Option D → Option (List (List D))
  | some (.seq k' l) => if k = k' then some l else none
  | some (.lit (.slice none 0 0)) => some []
  | _ => none
def bytesD (bs : List UInt8) : List (List D) := bs.map fun b => [.lit (.int .u8 (b.toNat : Int))]

section
variable {w0 : World} {m0 : Mem} {o0 : OwnM} {G : Nat → Prop} {pins : List Nat} {S M : Nat → A} {a : Act} {w : World} {m : Mem} {o : OwnM} {P : Program}
theorem tyA_some {t : TypeId} {b : Bool} {n : Nat} (h : tyA P t = some (b, n)) : ∃ d i, P.underlying t = some d ∧ P.info? t = some i ∧ TypeDesc.aggr d = b ∧ i.size = n := by
  unfold tyA at h
  split at h
  · rename_i d i h1 h2
    injection h with h
    injection h with ha hb
    exact ⟨d, i, h1, h2, ha, hb⟩
  · cases h
theorem run_isAgg {t : TypeId} {d : TypeDesc} (h : P.underlying t = some d) (w : World) : (isAgg t).run P w = .ok (TypeDesc.aggr d) w := by
  unfold isAgg
  rw [Sem.run_bind, run_underlying h w]
  cases d <;> rfl
theorem run_loadVar_one {t : TypeId} {n : Nat} (h : tyA P t = some (false, n)) {ad : Addr} {u : Value} (hc : w.cell? ad = some u) : (loadVar t ad).run P w = .ok u w := by
  obtain ⟨d, i, h1, h2, h3, h4⟩ := tyA_some h
  simp [loadVar, run_isAgg h1, h3, hc]
theorem run_loadVar_many {t : TypeId} {n : Nat} (h : tyA P t = some (true, n)) {g p : Nat} {vs : List Value} (hn : vs.length = n) (hc : ∀ j v, vs[j]? = some v → w.cell? ⟨g, p + j, none⟩ = some v) : (loadVar t ⟨g, p, none⟩).run P w = .ok (.agg vs.toArray) w := by
  obtain ⟨d, i, h1, h2, h3, h4⟩ := tyA_some h
  refine run_loadVar_mid w g p t vs d hc h1 ?_ (by rw [h2]; simp [h4, hn])
  cases d <;> first | rfl | (cases h3)

/-! ### Loads -/
def ldF (P : Program) (M : Nat → A) (t : TypeId) (x : Operand) : Option A := match cpO M x, tyA P t with
  | .imm l, some (false, _) => (l[0]?).map fun d => .t (.d d)
  | .imm l, some (true, n) => if n = l.length then some (.t (.agg l)) else if n ≤ l.length then some (.t (.agg (l.take n))) else none
  | .ref b off, some (false, _) => match M b with | .box l => (l[off]?).map norA | _ => none
  | .ref b off, some (true, n) => match M b with | .box l => if noPt ((l.drop off).take n) = true then (if off = 0 ∧ n = l.length then some (.t (.agg (l.map toD))) else if off + n ≤ l.length then some (.t (.agg (((l.drop off).take n).map toD))) else none) else none | _ => none
  | _, _ => none

theorem repL_of_mem {l : List D} {g p : Nat} (h : ∀ (j : Nat) (d : D), l[j]? = some d → ∃ u, m g (p + j) = some u ∧ RepD m d u) : ∃ vs : List Value, RepL m l vs ∧ ∀ j v, vs[j]? = some v → m g (p + j) = some v := by
  refine ⟨l.zipIdx.map fun x => (m g (p + x.2)).getD undef, ⟨by simp, fun j d hj => ?_⟩, fun j v hj => ?_⟩
  · obtain ⟨u, h1, h2⟩ := h j d hj
    refine ⟨u, ?_, h2⟩
    simp [List.getElem?_zipIdx, hj, h1]
  · simp only [List.getElem?_map, List.getElem?_zipIdx] at hj
    cases hd : l[j]? with
    | none => simp [hd] at hj
    | some d =>
      obtain ⟨u, h1, h2⟩ := h j d hd
      simp [hd, h1] at hj
      rw [h1, hj]
theorem RepT.toD {loc : Nat × Nat} {x : T} {v : Value} (hsat : ∀ b p u, m b p = some u → w.cell? ⟨b, p, none⟩ = some u) (h : RepT m w o loc x v) (hx : x.isAgg = false) (hp : x.isPt = false) : RepD m (toD x) v := by
  cases x with
  | d x => exact h
  | own E k l => exact own_seq hsat h
  | agg l => cases hx
  | ptr j off => cases hp
  | view j off E k n => cases hp
  | hpt c off => cases hp
  | mpt c => cases hp
  | hvw c off E k n => cases hp
theorem norA_rep {S : Nat → A} (hsat : ∀ b p u, m b p = some u → w.cell? ⟨b, p, none⟩ = some u) {loc : Nat × Nat} {s : Nat} {x : T} {v : Value} (h : RepT m w o loc x v) : RepA m w o S s (norA x) v := by
  cases x with
  | ptr j off => obtain ⟨g, h1, h2⟩ := h; exact ⟨g, h1, h2, fun hb => absurd hb (by omega)⟩
  | d x => exact h
  | agg l => exact h
  | own E k l => exact own_seq hsat h
  | view j off E k n => exact h
  | hpt c off => exact h
  | mpt c => exact h
  | hvw c off E k n => exact h
theorem mk_box (hM : Mk M S) {b : Nat} {l : List T} (h : M b = .box l) : S b = .box l := by
  rcases hM b with e | e
  · rw [e] at h; cases h
  · rw [← e]; exact h
theorem ldF_rep (hM : Mk M S) (I : Inv w0 m0 o0 G pins S a w m o) {t : TypeId} {x : Operand} {y : A} (h : ldF P M t x = some y) : ∀ s, ∃ v, (Instr.loadAt t (a.eval x)).run P w = .ok v w ∧ RepA m w o S s y v := by
  intro s
  have hx := cpO_rep hM I x s
  unfold ldF at h
  split at h
  · rename_i l n hl ht
    rw [hl] at hx
    obtain ⟨g, p, e, hc⟩ := hx
    cases hd : l[0]? with
    | none => rw [hd] at h; cases h
    | some d =>
      rw [hd] at h
      injection h with h
      subst h
      obtain ⟨u, h1, h2⟩ := hc 0 d hd
      refine ⟨u, ?_, h2⟩
      rw [e]
      simp only [Instr.loadAt, Instr.sureAddr, Sem.run_bind, Sem.run_pure, Result.andThen_ok]
      exact run_loadVar_one ht (I.sat _ _ _ h1)
  · rename_i l n hl ht
    rw [hl] at hx
    obtain ⟨g, p, e, hc⟩ := hx
    have h : (if n ≤ l.length then some (A.t (.agg (l.take n))) else none) = some y := by
      split at h
      · rename_i hn
        rw [if_pos (by omega), hn, List.take_length]
        exact h
      · exact h
    split at h
    · rename_i hn
      injection h with h
      subst h
      obtain ⟨vs, h1, h2⟩ := repL_of_mem (m := m) (l := l.take n) (g := g) (p := p) (fun j d hj => hc j d (by rw [List.getElem?_take] at hj; split at hj; exact hj; cases hj))
      refine ⟨.agg vs.toArray, ?_, vs.toArray, rfl, by simpa using h1⟩
      rw [e]
      simp only [Instr.loadAt, Instr.sureAddr, Sem.run_bind, Sem.run_pure, Result.andThen_ok]
      refine run_loadVar_many ht (by rw [h1.1]; simp [hn]) fun j v hj => I.sat _ _ _ (h2 j v hj)
    · cases h
  · rename_i b off n hl ht
    rw [hl] at hx
    obtain ⟨g, h1, e, _⟩ := hx
    split at h
    · rename_i l hb
      have hs := I.slots b
      rw [mk_box hM hb] at hs
      obtain ⟨g', _, h2, h3, cs, E, h4, h5, h6⟩ := hs
      have := I.inj _ _ _ h1 h2
      subst this
      cases hd : l[off]? with
      | none => rw [hd] at h; cases h
      | some z =>
        rw [hd] at h
        injection h with h
        subst h
        obtain ⟨hz, u, h7, h8⟩ := h6 off z hd
        refine ⟨u, ?_, norA_rep I.sat h8⟩
        rw [e]
        simp only [Instr.loadAt, Instr.sureAddr, Sem.run_bind, Sem.run_pure, Result.andThen_ok]
        exact run_loadVar_one ht (by rw [cell_of_row w g off cs E _ h4]; exact h7)
    · cases h
  · rename_i b off n hl ht
    rw [hl] at hx
    obtain ⟨g, h1, e, _⟩ := hx
    split at h
    · rename_i l hb
      have hs := I.slots b
      rw [mk_box hM hb] at hs
      obtain ⟨g', _, h2, h3, cs, E, h4, h5, h6⟩ := hs
      have := I.inj _ _ _ h1 h2
      subst this
      split at h
      case isFalse => cases h
      rename_i hpt
      have h : (if off + n ≤ l.length then some (A.t (.agg (((l.drop off).take n).map toD))) else none) = some y := by
        split at h
        · rename_i hn
          rw [if_pos (by omega), hn.1, hn.2, List.drop_zero, List.take_length]
          exact h
        · exact h
      split at h
      · rename_i hn
        injection h with h
        subst h
        refine ⟨.agg ((cs.toList.drop off).take n).toArray, ?_, _, rfl, ?_, fun j d hj => ?_⟩
        · rw [e]
          simp only [Instr.loadAt, Instr.sureAddr, Sem.run_bind, Sem.run_pure, Result.andThen_ok]
          refine run_loadVar_many ht (by simp; omega) fun j v hj => ?_
          rw [cell_of_row w g (off + j) cs E _ h4]
          rw [List.getElem?_take] at hj
          split at hj
          · rw [List.getElem?_drop] at hj; simpa using hj
          · cases hj
        · simp; omega
        · rw [List.getElem?_map, List.getElem?_take, List.getElem?_drop] at hj
          simp only [List.getElem?_take, List.getElem?_drop]
          split at hj
          · rename_i hjn
            rw [if_pos hjn]
            cases hz : l[off + j]? with
            | none => rw [hz] at hj; cases hj
            | some z =>
              rw [hz] at hj
              injection hj with hj
              subst hj
              obtain ⟨ha, u, h7, h8⟩ := h6 (off + j) z hz
              have hzp : z.isPt = false := by
                have := List.all_eq_true.1 hpt z (List.mem_of_getElem? (i := j) (by rw [List.getElem?_take, if_pos hjn, List.getElem?_drop]; exact hz))
                simpa using this
              exact ⟨u, by simpa using h7, h8.toD I.sat ha hzp⟩
          · cases hj
      · cases h
    · cases h
  · cases h

/-! ### Addresses -/
def fdF (P : Program) (M : Nat → A) (t : TypeId) (x : Operand) (f : Nat) : Option A := match P.underlying t with
  | some (.struct fs) => match fs[f]? with
    | some fd => match P.info? fd.type with
      | some i => if i.size = 0 then none else match cpO M x with
        | .imm l => some (.imm (l.drop fd.offset))
        | .ref b off => some (.ref b (off + fd.offset))
        | _ => none
      | none => none
    | none => none
  | _ => none
theorem fdF_rep (hM : Mk M S) (I : Inv w0 m0 o0 G pins S a w m o) {t : TypeId} {x : Operand} {f : Nat} {y : A} (h : fdF P M t x f = some y) : ∀ s, ∃ v, (Instr.fieldAt t (a.eval x) f).run P w = .ok v w ∧ RepA m w o S s y v := by
  intro s
  have hx := cpO_rep hM I x s
  unfold fdF at h
  split at h
  case h_2 => cases h
  rename_i fs hu
  split at h
  case h_2 => cases h
  rename_i fd hf
  split at h
  case h_2 => cases h
  rename_i i hi
  split at h
  · cases h
  rename_i hsz
  have hrun : ∀ g p, (Instr.fieldAt t (.pointer (some ⟨g, p, none⟩)) f).run P w = .ok (.pointer (some ⟨g, p + fd.offset, none⟩)) w := by
    intro g p
    simp [Instr.fieldAt, run_underlying hu, hf, Instr.sureAddr, fieldPlace, sizeOf, typeInfo, hi, hsz, Addr.add_mid]
  split at h
  · rename_i l hl
    rw [hl] at hx
    injection h with h
    subst h
    obtain ⟨g, p, e, hc⟩ := hx
    refine ⟨_, by rw [e]; exact hrun g p, g, p + fd.offset, rfl, fun j d hj => ?_⟩
    rw [List.getElem?_drop] at hj
    rw [Nat.add_assoc]
    exact hc _ _ hj
  · rename_i b off hl
    rw [hl] at hx
    injection h with h
    subst h
    obtain ⟨g, h1, e, hb⟩ := hx
    exact ⟨_, by rw [e]; exact hrun g off, g, h1, rfl, hb⟩
  · cases h

theorem slD_rep {k : Nat} {x : Option D} {l : List (List D)} {v : Value} (h : slD k x = some l) (hr : ∀ d, x = some d → RepD m d v) : RepD m (.seq k l) v := by
  unfold slD at h
  split at h
  · rename_i k' l'
    split at h
    · rename_i e
      injection h with h
      subst e h
      exact hr _ rfl
    · cases h
  · injection h with h
    subst h
    cases hr _ rfl
    exact .seq k [] none 0 0 0 (fun _ _ => undef) (Nat.le_refl _) (Nat.zero_le _) (fun h => absurd rfl h) (fun i r h => by simp at h) (fun i r j d h => by simp at h) (fun i r j d h => by simp at h)
  · cases h

/-- The address of an element. -/
def ixF (P : Program) (M : Nat → A) (t : TypeId) (x i : Operand) : Option A := match vO M i with
  | some (.int _ n) => match P.underlying t with
    | some (.slice e) => match P.info? e with
      | some ie => match slD ie.size (dO M x) with
        | some l => if 0 ≤ n ∧ n < l.length then (l[n.toNat]?).map .imm else none
        | none => none
      | none => none
    | some (.array len e) => match P.info? e with
      | some ie => if 0 ≤ n ∧ n < len then match cpO M x with
          | .imm l => some (.imm (l.drop (n.toNat * ie.size)))
          | .ref b off => some (.ref b (off + n.toNat * ie.size))
          | _ => none
        else none
      | none => none
    | _ => none
  | _ => none
theorem ixF_rep (hM : Mk M S) (I : Inv w0 m0 o0 G pins S a w m o) {t : TypeId} {x i : Operand} {y : A} (h : ixF P M t x i = some y) : ∀ s, ∃ v, (Instr.indexAt t (a.eval x) (a.eval i)).run P w = .ok v w ∧ RepA m w o S s y v := by
  intro s
  unfold ixF at h
  split at h
  case h_2 => cases h
  rename_i ki n hn
  rw [vO_eq hM I hn]
  split at h
  · rename_i e hu
    split at h
    case h_2 => cases h
    rename_i ie hie
    split at h
    case h_2 => cases h
    rename_i l hl
    split at h
    case isFalse => cases h
    rename_i hb
    have hr := slD_rep (m := m) (v := a.eval x) hl (fun d hd => dO_rep hM I hd)
    cases hr' : l[n.toNat]? with
    | none => rw [hr'] at h; cases h
    | some r =>
      rw [hr'] at h
      injection h with h
      subst h
      generalize a.eval x = v at hr ⊢
      cases hr with
      | seq _ _ A' cap g p f hcap hmax hA hw hm hr =>
        have hne : l ≠ [] := by intro e; subst e; simp at hr'
        rw [hA hne]
        refine ⟨.pointer (some ⟨g, p + n.toNat * ie.size, none⟩), ?_, g, p + n.toNat * ie.size, rfl, fun j d hj => ⟨f n.toNat j, hm _ _ _ _ hr' hj, hr _ _ _ _ hr' hj⟩⟩
        simp [Instr.indexAt, asIntOf, run_underlying hu, hb, sizeOf, typeInfo, hie, Addr.add_mid]
  · rename_i len e hu
    split at h
    case h_2 => cases h
    rename_i ie hie
    split at h
    case isFalse => cases h
    rename_i hb
    have hx := cpO_rep hM I x s
    have hrun : ∀ g p, (Instr.indexAt t (.pointer (some ⟨g, p, none⟩)) (.int ki n)).run P w = .ok (.pointer (some ⟨g, p + n.toNat * ie.size, none⟩)) w := by
      intro g p
      simp [Instr.indexAt, asIntOf, Instr.sureAddr, run_underlying hu, hb, sizeOf, typeInfo, hie, Addr.add_mid]
    split at h
    · rename_i l hl
      rw [hl] at hx
      injection h with h
      subst h
      obtain ⟨g, p, e, hc⟩ := hx
      refine ⟨_, by rw [e]; exact hrun g p, g, _, rfl, fun j d hj => ?_⟩
      rw [List.getElem?_drop] at hj
      rw [Nat.add_assoc]
      exact hc _ _ hj
    · rename_i b off hl
      rw [hl] at hx
      injection h with h
      subst h
      obtain ⟨g, h1, e, hb⟩ := hx
      exact ⟨_, by rw [e]; exact hrun g off, g, h1, rfl, hb⟩
    · cases h
  · cases h

/-! ### Lengths -/
def lnF (P : Program) (M : Nat → A) (t : TypeId) (x : Operand) : Option Value := match P.underlying t with
  | some (.slice _) => match dO M x with
    | some (.seq _ l) => some (.int .i64 l.length)
    | some (.lit (.slice _ n _)) => some (.int .i64 n)
    | _ => none
  | some .string => match vO M x with
    | some (.string s) => some (.int .i64 s.size)
    | _ => none
  | some (.array n _) => some (.int .i64 n)
  | _ => none
theorem lnF_run (hM : Mk M S) (I : Inv w0 m0 o0 G pins S a w m o) {t ty : TypeId} {x : Operand} {y : Value} (h : lnF P M t x = some y) : (Builtin.len_ #[t] ty #[a.eval x]).run P w = .ok y w := by
  unfold lnF at h
  split at h
  · rename_i e hu
    split at h
    · rename_i k l hd
      injection h with h
      subst h
      have hr := dO_rep hM I hd
      generalize a.eval x = v at hr ⊢
      cases hr
      simp [Builtin.len_, run_underlying hu, goInt]
    · rename_i A' n c hd
      injection h with h
      subst h
      have e : a.eval x = .slice A' n c := by
        have := dO_rep hM I hd
        generalize a.eval x = v at this
        cases this; rfl
      rw [e]
      simp [Builtin.len_, run_underlying hu, goInt]
    · cases h
  · rename_i hu
    split at h
    · rename_i s hs
      injection h with h
      subst h
      rw [vO_eq hM I hs]
      simp [Builtin.len_, run_underlying hu, goInt]
    · cases h
  · rename_i n e hu
    injection h with h
    subst h
    simp [Builtin.len_, run_underlying hu, goInt]
  · cases h
end
end Go.Proofs.YtimdogdplphmoaaDoor
