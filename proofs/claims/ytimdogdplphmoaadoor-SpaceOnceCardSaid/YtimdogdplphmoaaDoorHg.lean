/-
  The heap as models tell it; rules for walks that a program writes, of functions that read and write the heap.
-/
import Derived.Test.YtimdogdplphmoaaDoorRul
namespace Go.Proofs.YtimdogdplphmoaaDoor
open Go Go.RowKit
set_option linter.unusedVariables false

/-! ### Addresses in models: a number, or none -/
def ptM {α : Type} (p : Option Nat) (a : Option α) (b : Nat → Option α) : Option α := match p with
  | none => a
  | some i => b i
theorem ptM_some {α : Type} {p : Option Nat} {a : Option α} {b : Nat → Option α} {r : α} (h : ptM p a b = some r) : (p = none ∧ a = some r) ∨ ∃ i, p = some i ∧ b i = some r := by
  cases p with
  | none => exact .inl ⟨rfl, h⟩
  | some i => exact .inr ⟨i, rfl, h⟩
/-- Two lengths are the same. -/
def lenI (n m : Nat) : Option Unit := if n = m then some () else none
theorem lenI_eq {n m : Nat} {u : Unit} (h : lenI n m = some u) : n = m := by
  unfold lenI at h
  by_cases e : n = m
  · exact e
  · rw [if_neg e] at h; cases h
theorem lenI_of {n m : Nat} (h : n = m) : lenI n m = some () := if_pos h
/-- The number under which the heap keeps object i of kind t. -/
def cd (t i : Nat) : Nat := i * 64 + t
theorem cd_mod {t i : Nat} (h : t < 64) : cd t i % 64 = t := by unfold cd; omega
theorem cd_div {t i : Nat} (h : t < 64) : cd t i / 64 = i := by unfold cd; omega
/-- An address, as a cell or a slot holds it. -/
def ptT (t : Nat) : Option Nat → T
  | none => .d (.lit (.pointer none))
  | some i => .hpt (cd t i) 0
theorem ptT_none {t : Nat} {p : Option Nat} (h : p = none) : ptT t p = .d (.lit (.pointer none)) := by rw [h]; rfl
theorem ptT_some {t i : Nat} {p : Option Nat} (h : p = some i) : ptT t p = .hpt (cd t i) 0 := by rw [h]; rfl
theorem ptT_loc (t : Nat) (p : Option Nat) : (ptT t p).isLoc = false := by cases p <;> rfl
theorem ptT_pt {τ : List Nat} (t : Nat) (p : Option Nat) : PtR τ (ptT t p) (ptT t p) := by
  cases p with
  | none => exact .flat rfl
  | some i => exact .hpt _ _
theorem ptT_arg {σ : List Nat} (t : Nat) (p : Option Nat) : ArgH σ (.t (ptT t p)) (.t (ptT t p)) := by
  cases p with
  | none => exact .plain (.refl _) rfl
  | some i => exact .hpt _ _
theorem ptT_cp (t : Nat) (p : Option Nat) : cpT (ptT t p) = ptT t p := by cases p <;> rfl
theorem cp_nil : List.map cpT [] = [] := rfl
theorem cp_cons {a a' : T} {l l' : List T} (h : cpT a = a') (hl : List.map cpT l = l') : List.map cpT (a :: l) = a' :: l' := by rw [List.map_cons, h, hl]

theorem cpO_pt {M : Nat → A} {s t : Nat} {p : Option Nat} (h : M s = .t (ptT t p)) : cpO M (.tmp s) = .t (ptT t p) := by
  unfold cpO
  simp only [h]
  cases p <;> rfl
theorem argPt {M : Nat → A} {σ : List Nat} {s t : Nat} {p : Option Nat} (h : M s = .t (ptT t p)) : ArgH σ (cpO M (.tmp s)) (.t (ptT t p)) := by rw [cpO_pt h]; exact ptT_arg t p
theorem argVw {M : Nat → A} {σ : List Nat} {s i j off E k n n' : Nat} (h : M s = .t (.view j off E k n)) (hi : σ[i]? = some j) (hn : n = n') : ArgH σ (cpO M (.tmp s)) (.t (.view i off E k n')) := by
  subst hn
  have : cpO M (.tmp s) = .t (.view j off E k n) := by unfold cpO; simp only [h]; rfl
  rw [this]
  exact .view hi
theorem norH_pt (t : Nat) (p : Option Nat) : norH (ptT t p) = some (.t (ptT t p)) := by cases p <;> rfl
theorem wkPt {t : Nat} {p : Option Nat} : WkT (cpT (ptT t p)) (ptT t p) := by rw [ptT_cp]; exact .refl _
theorem pn_none {M : Nat → A} {s t : Nat} {p : Option Nat} (h : M s = .t (ptT t p)) (hp : p = none) : ptrN (cpO M (.tmp s)) = some true := by rw [cpO_pt h, hp]; rfl
theorem pn_some {M : Nat → A} {s t i : Nat} {p : Option Nat} (h : M s = .t (ptT t p)) (hp : p = some i) : ptrN (cpO M (.tmp s)) = some false := by rw [cpO_pt h, hp]; rfl
theorem pt_eq_some {t i : Nat} {p : Option Nat} (h : p = some i) : A.t (ptT t p) = .t (.hpt (cd t i) 0) := by rw [h]; rfl
theorem pt_eq_none {t : Nat} {p : Option Nat} (h : p = none) : A.t (ptT t p) = .t (.d (.lit (.pointer none))) := by rw [h]; rfl

/-! ### The heap, by kind and number -/
def hpF (g : Nat → Nat → A) : Nat → A := fun c => g (c % 64) (c / 64)
theorem hpF_cd {g : Nat → Nat → A} {t i : Nat} (h : t < 64) : hpF g (cd t i) = g t i := by unfold hpF; rw [cd_mod h, cd_div h]
theorem hpF_upd {g g' : Nat → Nat → A} {t i : Nat} {x : A} (ht : t < 64) (h1 : g' t i = x) (h2 : ∀ t' j, ¬ (t' = t ∧ j = i) → g' t' j = g t' j) : hpF g' = updF (hpF g) (cd t i) x := by
  funext c
  unfold hpF updF
  by_cases e : c = cd t i
  · subst e
    rw [if_pos rfl, cd_mod ht, cd_div ht, h1]
  · rw [if_neg e]
    refine h2 _ _ fun ⟨e1, e2⟩ => e ?_
    unfold cd
    omega
theorem hpF_pure {g : Nat → Nat → A} (h : ∀ t i l, g t i = .box l → ∀ x ∈ l, x.isLoc = false) : pureH (hpF g) := fun c l hl => h _ _ l hl
theorem rn_pure {x : A} (h : ∀ l, x = .box l → ∀ y ∈ l, y.isLoc = false) (hx : san x = x) (j c : Nat) : rnA j c x = x := by
  cases x with
  | box l =>
    show A.box (l.map (rnT j c)) = _
    congr 1
    conv => rhs; rw [← List.map_id l]
    refine List.map_congr_left fun y hy => ?_
    have := h l rfl y hy
    cases y <;> first | rfl | (cases this; done) | (rename_i i; have this : Nat.blt i OB = false := this; show (bif Nat.blt i OB && Nat.beq i j then T.mpt (OB + c) else .mpt i) = _; rw [this]; rfl)
  | free => rfl
  | any => rfl
  | _ => cases hx
/-- Object i of an arena, as cells. -/
def arA {α : Type} (l : List α) (f : Nat → α → List T) (i : Nat) : A := match l[i]? with
  | some x => .box (f i x)
  | none => .free
section
variable {α : Type} {l : List α} {f : Nat → α → List T} {i : Nat} {x x' : α}
theorem arA_get (h : l[i]? = some x) : arA l f i = .box (f i x) := by unfold arA; rw [h]
theorem arA_ne {j : Nat} (h : j ≠ i) : arA (l.set i x') f j = arA l f j := by unfold arA; rw [List.getElem?_set_ne (Ne.symm h)]
theorem set_get (h : l[i]? = some x) : (l.set i x')[i]? = some x' := by
  rw [List.getElem?_set_self (List.getElem?_eq_some_iff.1 h).1]
theorem arA_eq (h : l[i]? = some x) : arA (l.set i x') f i = .box (f i x') := arA_get (set_get h)
theorem arA_keep (h : l[i]? = some x) (hf : f i x' = f i x) (j : Nat) : arA (l.set i x') f j = arA l f j := by
  by_cases e : j = i
  · subst e; rw [arA_eq h, arA_get h, hf]
  · exact arA_ne e
theorem arA_free : arA l f l.length = .free := by unfold arA; rw [List.getElem?_eq_none (Nat.le_refl _)]
theorem arA_new : arA (l ++ [x]) f l.length = .box (f l.length x) := by
  unfold arA
  rw [List.getElem?_append_right (Nat.le_refl _)]
  simp
theorem arA_old {j : Nat} (h : j ≠ l.length) : arA (l ++ [x]) f j = arA l f j := by
  unfold arA
  rcases Nat.lt_or_ge j l.length with h1 | h1
  · rw [List.getElem?_append_left h1]
  · rw [List.getElem?_eq_none (by simp; omega), List.getElem?_eq_none h1]
theorem new_get : (l ++ [x])[l.length]? = some x := by simp
theorem arA_pure (h : ∀ i x, ∀ y ∈ f i x, y.isLoc = false) (q : List T) (e : arA l f i = .box q) : ∀ y ∈ q, y.isLoc = false := by
  unfold arA at e
  split at e
  · injection e with e; subst e; exact h _ _
  · cases e
end

theorem san_arA {α : Type} (l : List α) (f : Nat → α → List T) (i : Nat) : san (arA l f i) = arA l f i := by unfold arA; split <;> rfl
theorem hpF_upd2 {g g' : Nat → Nat → A} {t1 t2 i : Nat} {x1 x2 : A} (ht1 : t1 < 64) (ht2 : t2 < 64) (hne : t1 ≠ t2) (h1 : g' t1 i = x1) (h2 : g' t2 i = x2) (h3 : ∀ t' j, ¬ (t' = t1 ∧ j = i) → ¬ (t' = t2 ∧ j = i) → g' t' j = g t' j) : hpF g' = updF (updF (hpF g) (cd t1 i) x1) (cd t2 i) x2 := by
  funext c
  unfold hpF updF
  by_cases e2 : c = cd t2 i
  · subst e2
    rw [if_pos rfl, cd_mod ht2, cd_div ht2, h2]
  · rw [if_neg e2]
    by_cases e : c = cd t1 i
    · subst e
      rw [if_pos rfl, cd_mod ht1, cd_div ht1, h1]
    · rw [if_neg e]
      refine h3 _ _ (fun ⟨a, b⟩ => e ?_) (fun ⟨a, b⟩ => e2 ?_) <;> (unfold cd; omega)
theorem cd_ne {t t' i j : Nat} (h : t < 64) (h' : t' < 64) (hne : t ≠ t') : cd t i ≠ cd t' j := fun e => by
  have h1 := cd_mod (i := i) h
  rw [e, cd_mod h'] at h1
  exact hne h1.symm
theorem pb1 {g f2 : Nat → A} {c1 c2 j : Nat} {cv cs la : List T} (hp : ∀ k, rnA j c2 (g k) = g k) (hcv : rnA j c2 (.box cv) = .box cs) (hne : c1 ≠ c2) (h2 : f2 = updF (updF g c1 (.box cs)) c2 (.box la)) (k : Nat) : f2 k = if k = c2 then .box la else rnA j c2 (updF g c1 (.box cv) k) := by
  subst h2
  unfold updF
  by_cases e : k = c2
  · rw [if_pos e, if_pos e]
  · rw [if_neg e, if_neg e]
    by_cases e1 : k = c1
    · rw [if_pos e1, if_pos e1, hcv]
    · rw [if_neg e1, if_neg e1, hp]

/-! ### Rows as cells -/
def dT {α : Type} (c : α → List D) (a : α) : List T := (c a).map T.d
theorem dT_len {α : Type} {c : α → List D} {k : Nat} (h : ∀ a, (c a).length = k) (a : α) : (dT c a).length = k := by unfold dT; rw [List.length_map, h]
theorem fl_flat {α : Type} (c : α → List D) (l : List α) : fl (dT c) l = ((l.map c).flatMap id).map T.d := by
  unfold fl dT
  induction l with
  | nil => rfl
  | cons a r ih => simp only [List.flatMap_cons, List.map_cons, List.map_append, id_eq, ih]
theorem fl_loc {α : Type} (c : α → List D) (l : List α) : ∀ y ∈ fl (dT c) l, y.isLoc = false := by
  intro y hy
  obtain ⟨a, _, h⟩ := List.mem_flatMap.1 hy
  obtain ⟨d, _, rfl⟩ := List.mem_map.1 h
  rfl
theorem fl_noPt {α : Type} (c : α → List D) (l : List α) : noPt (fl (dT c) l) = true := by
  refine List.all_eq_true.2 fun y hy => ?_
  obtain ⟨a, _, h⟩ := List.mem_flatMap.1 hy
  obtain ⟨d, _, rfl⟩ := List.mem_map.1 h
  rfl
theorem fl_rep {α : Type} {c : α → List D} {c0 : List T} {z : α} (h : dT c z = c0) (q : Nat) : fl (fun _ => c0) (List.replicate q ()) = fl (dT c) (List.replicate q z) := by
  unfold fl
  induction q with
  | zero => rfl
  | succ q ih => rw [List.replicate_succ, List.replicate_succ, List.flatMap_cons, List.flatMap_cons, ih, h]
theorem map_row {α : Type} {c : α → List D} {k : Nat} (h : ∀ a, (c a).length = k) (l : List α) : ∀ r ∈ l.map c, r.length = k := by
  intro r hr
  obtain ⟨a, _, rfl⟩ := List.mem_map.1 hr
  exact h a
/-- One cell an element. -/
theorem fl_at {α : Type} {c : α → List D} {l : List α} {z : Int} {y : α} (h : idx l z = some y) {d : D} (hd : c y = [d]) (hc : ∀ a, (c a).length = 1) : (fl (dT c) l)[0 + z.toNat * 1]? = some (.d d) := by
  have := fl_cell (c := dT c) (k := 1) (dT_len hc) (idx_lt h).2.2 (q := 0) (by omega)
  rw [Nat.zero_add]
  rw [Nat.add_zero] at this
  rw [this]
  unfold dT
  rw [hd]
  rfl
theorem fl_put {α : Type} {c : α → List D} {l : List α} {z : Int} {y : α} (h : idx l z = some y) (v : α) (hc : ∀ a, (c a).length = 1) {q : List T} (hq : dT c v = q) : splice (fl (dT c) l) (0 + z.toNat * 1) q = fl (dT c) (l.set z.toNat v) := by
  have hl : q.length = 1 := by rw [← hq]; exact dT_len hc v
  have := fl_splice (c := dT c) (k := 1) (dT_len hc) (idx_lt h).2.2 (q := 0) (b := v) (d := q) (by
    unfold splice
    rw [hq, hl, List.take_zero, List.nil_append, List.drop_of_length_le (by rw [dT_len hc]; omega), List.append_nil]) (by omega)
  rw [Nat.zero_add]
  rw [Nat.add_zero] at this
  exact this
theorem fl_room {α : Type} {c : α → List D} {l : List α} {z : Int} {y : α} (h : idx l z = some y) (hc : ∀ a, (c a).length = 1) : 0 + z.toNat * 1 + 1 ≤ (fl (dT c) l).length := by
  have h1 := idx_lt h
  rw [fl_len (dT_len hc)]
  omega
theorem idxV {α : Type} {l : List α} {z : Int} {y : α} {n : Nat} (hn : l.length = n) (h : idx l z = some y) : 0 ≤ z ∧ z < (n : Int) := by
  subst hn
  exact ⟨(idx_lt h).1, (idx_lt h).2.1⟩

/-! ### Operations -/
section
variable {P : Program} {pins : List Nat} {N : Nat} {S M : Nat → A} {op : Oper} {d c : Nat}
theorem ok_hnc (hM : Mk M S) {off : Nat} {x : Operand} {z : T} (hop : op.op = .nilCheck x) (hx : cpO M x = .t z) (hz : z = .hpt c off) (hd : op.dst = some d) (hok : okD N pins S d = true) : OpOK P pins N op S (upd S d (.t (.hpt c off))) := by
  subst hz
  refine ok_val' hM hd hok ?_
  rw [hop]
  show (match cpO M x with | .imm l => some (A.imm l) | .ref b off => some (.ref b off) | .t (.hpt c off) => some (.t (.hpt c off)) | _ => none) = _
  rw [hx]
theorem h_nc (hM : Mk M S) {off : Nat} {x : Operand} {z : T} (hop : op.op = .nilCheck x) (hx : cpO M x = .t z) (hz : z = .hpt c off) (hd : op.dst = some d) (hok : okD N pins S d = true) : OpH P pins N op S (app S [(d, .t (.hpt c off))]) :=
  .of (e := [(d, _)]) fun hN => ⟨ok_hnc hM.hx hop hx hz hd (okD_hx hN hok), eff_1 (okD_lo hN hok)⟩
/-- (the address is told by a number, or none) -/
theorem h_mv (hM : Mk M S) {x : Operand} {y : A} (hop : op.op = .move x ∨ op.op = .assign x) (hx : cpO M x = y) (hd : op.dst = some d) (hok : okD N pins S d = true) : OpH P pins N op S (app S [(d, y)]) := by
  refine .of (e := [(d, _)]) fun hN => ⟨ok_val' hM.hx hd (okD_hx hN hok) ?_, eff_1 (okD_lo hN hok)⟩
  rcases hop with e | e <;> (rw [e]; show some (cpO M x) = _; rw [hx])
end

/-! ### Loops and joins; objects that are forgotten there -/
def fgtL : List Nat → SL → SL
  | [], L => L
  | j :: r, L => fgtL r ((OB + j, .free) :: dropM j HK L)
def fgtB (pins : List Nat) : List Nat → SL → Bool
  | [], _ => true
  | j :: r, L => Nat.blt (j + 1) OB && !pins.contains (OB + j) && noBoxM j HK L && fgtB pins r ((OB + j, .free) :: dropM j HK L)
section
variable {P : Program} {pins : List Nat} {N : Nat} {Q : Exit → SL → Prop} {L L' : SL}
theorem St.fgt1 {w0 : World} {m0 : Mem} {o0 : OwnM} {G : Nat → Prop} {a : Act} {w : World} (hS : St w0 m0 o0 G pins N L a w) {j : Nat} (hc : (Nat.blt (j + 1) OB && !pins.contains (OB + j) && noBoxM j HK L) = true) (hh : heapP L) : St w0 m0 o0 G pins N ((OB + j, .free) :: dropM j HK L) a w := by
  simp only [Bool.and_eq_true, Bool.not_eq_true', List.contains_eq_mem, decide_eq_false_iff_not] at hc
  obtain ⟨⟨c2, c3⟩, c6⟩ := hc
  have c2 : j + 1 < OB := by simpa using c2
  obtain ⟨hN, hlo, m, o, I⟩ := hS
  have hL2 : ∀ s, gt (dropM j HK L) s = gt L s ∨ (gt (dropM j HK L) s = .any ∧ (gt L s).isBox = false) := fun s => by
    rw [gt_dropM]
    cases hm : (Nat.blt s OB && (mentA j (gt L s) && !Nat.beq s HK)) with
    | true => exact .inr ⟨rfl, noBoxM_gt c6 s hm⟩
    | false => exact .inl rfl
  have hk2 : gt (dropM j HK L) HK = gt L HK := gt_dropM_hi L (by unfold HK OB; omega)
  obtain ⟨hlo2, hx2⟩ := hx_less hlo hk2 hL2
  have I2 := I.less hx2
  have hm : ∀ s, mentA j (hx (gt (dropM j HK L)) s) = false := fun s => by
    rcases Nat.lt_or_ge s OB2 with h3 | h3
    · rw [hx_lo h3]
      rcases Nat.lt_or_ge s OB with h4 | h4
      · rw [gt_dropM]
        have hsd : Nat.beq s HK = false := by
          cases hb : Nat.beq s HK with
          | false => rfl
          | true => have := Nat.eq_of_beq_eq_true hb
                    unfold HK at this; unfold OB at h4
                    omega
        have hso : Nat.blt s OB = true := by simpa using h4
        rw [hsd, hso]
        cases hm : mentA j (gt L s) with
        | true => rfl
        | false => exact hm
      · rw [gt_dropM_hi L h4]; exact hh.2 s h4 j
    · obtain ⟨k, rfl⟩ : ∃ k, s = OB2 + k := ⟨s - OB2, by omega⟩
      exact heap_ment hlo2 (by rw [hk2]; exact hh.1) k
  have e1 : OB + j < OB2 := by unfold OB OB2 at *; omega
  have e2 : OB + j ≠ HK := by unfold HK; unfold OB at *; omega
  refine ⟨hN, ?_, m, dropO o j, ?_⟩
  · rw [gt_cons]
    exact hlo2.upd e1
  · rw [gt_cons, hx_updL e1 e2]
    exact I2.forget (by omega) c3 hm
theorem heapP_fgt {j : Nat} (hj : Nat.blt (j + 1) OB = true) (hh : heapP L) : heapP ((OB + j, .free) :: dropM j HK L) := by
  have h2 := (lo_of hj).2.1
  have e : gt ((OB + j, .free) :: dropM j HK L) HK = gt L HK := by
    rw [gt_cons, upd_other (Ne.symm h2), gt_dropM_hi L (by unfold HK OB; omega)]
  unfold heapP
  rw [e]
  exact ⟨hh.1, hh.2.fgt⟩
theorem St.fgt {w0 : World} {m0 : Mem} {o0 : OwnM} {G : Nat → Prop} {a : Act} {w : World} (js : List Nat) : ∀ (L : SL), St w0 m0 o0 G pins N L a w → fgtB pins js L = true → heapP L → St w0 m0 o0 G pins N (fgtL js L) a w := by
  induction js with
  | nil => exact fun L h _ _ => h
  | cons j r ih =>
    intro L h hb hh
    unfold fgtB at hb
    rw [Bool.and_eq_true] at hb
    have hj : Nat.blt (j + 1) OB = true := by have := hb.1; simp only [Bool.and_eq_true] at this; exact this.1.1
    exact ih _ (h.fgt1 hb.1 hh) hb.2 (heapP_fgt hj hh)
/-- A loop, as its model goes. -/
theorem c_fuelH {X : Type} {c : Code} (F : X → SL) (M : Nat → X → Prop) (n0 : Nat) (x0 : X) (js0 : List Nat) (h0 : M n0 x0) (hb : fgtB pins js0 L = true) (hh : heapP L) (hw : WkS (fgtL js0 L) (F x0)) (hr : noRefs (F x0) = true)
    (round : ∀ n x, M n x → CodeOK P pins N c (thenQ (fun L' => ∃ n' x' js, n' < n ∧ M n' x' ∧ fgtB pins js L' = true ∧ heapP L' ∧ WkS (fgtL js L') (F x') ∧ noRefs (F x') = true) Q) (F x)) : CodeOK P pins N (.loop c) Q L := by
  intro w0 m0 o0 G a w hS b k cs
  have hS0 := St.weaken (hS.fgt _ _ hb hh) hw hr
  have key : ∀ n x a w, M n x → St w0 m0 o0 G pins N (F x) a w →
      ∃ e a' w', (∃ L', Q e L' ∧ St w0 m0 o0 G pins N L' a' w') ∧ Arrives P (lone (b.at a (.code c :: .inLoop c :: k)) cs w) b k cs e a' w' := by
    intro n
    induction n using Nat.strongRecOn with
    | _ n ih =>
      intro x a w hI hS
      obtain ⟨e, a₁, w₁, ⟨L₁, hq, hS₁⟩, harr⟩ := round n x hI w0 m0 o0 G a w hS b (.inLoop c :: k) cs
      cases e with
      | normal =>
        obtain ⟨n', x', js, hlt, hI', q1, q2, hw', hr'⟩ := hq
        obtain ⟨e₂, a₂, w₂, hq₂, harr₂⟩ := ih n' hlt x' a₁ w₁ hI' (St.weaken (hS₁.fgt _ _ q1 q2) hw' hr')
        exact ⟨e₂, a₂, w₂, hq₂, .of_steps (Steps.trans harr (.one step_inLoop)) harr₂⟩
      | exit id => exact ⟨_, a₁, w₁, ⟨L₁, hq, hS₁⟩, .pass (x := .inLoop c) rfl (fun _ _ => .inl (by simp)) harr⟩
      | goto l => exact ⟨_, a₁, w₁, ⟨L₁, hq, hS₁⟩, .pass (x := .inLoop c) rfl (fun _ _ => .inl (by simp)) harr⟩
      | ret => exact ⟨_, a₁, w₁, ⟨L₁, hq, hS₁⟩, .pass (x := .inLoop c) rfl (fun _ _ => .inl (by simp)) harr⟩
      | panic ch => exact ⟨_, a₁, w₁, ⟨L₁, hq, hS₁⟩, .pass (x := .inLoop c) rfl (fun _ _ => .inl (by simp)) harr⟩
      | outgrown => exact ⟨_, a₁, w₁, ⟨L₁, hq, hS₁⟩, .pass (x := .inLoop c) rfl (fun _ _ => .inl (by simp)) harr⟩
  obtain ⟨e, a', w', hq, harr⟩ := key n0 x0 a w h0 hS0
  exact ⟨e, a', w', hq, .of_steps (.one step_loop) harr⟩
/-- Ways that meet again. -/
theorem c_cutH {X : Type} {x y : Code} (F : X → SL) (I : X → Prop) (h : CodeOK P pins N x (thenQ (fun L' => ∃ x' js, I x' ∧ fgtB pins js L' = true ∧ heapP L' ∧ WkS (fgtL js L') (F x') ∧ noRefs (F x') = true) Q) L) (h2 : ∀ x', I x' → CodeOK P pins N y Q (F x')) : CodeOK P pins N (.seq x y) Q L := by
  refine c_seq fun w0 m0 o0 G a w hS => wp_mono (h w0 m0 o0 G a w hS) ?_
  rintro e a' w' ⟨L', hq, hS'⟩
  cases e with
  | normal =>
    obtain ⟨x', js, hI, q1, q2, hw, hr⟩ := hq
    exact ⟨F x', h2 x' hI, St.weaken (hS'.fgt _ _ q1 q2) hw hr⟩
  | _ => exact ⟨L', hq, hS'⟩
theorem WkA.vwn {j off E k n n' : Nat} (h : n = n') : WkA (.t (.view j off E k n)) (.t (.view j off E k n')) := by rw [h]; exact .refl _
theorem WkA.of_eq {x y : A} (h : x = y) : WkA x y := by rw [h]; exact .refl _
end
/-- A function that starts with no heap. -/
theorem fc_of_h {P : Program} {fn : FuncId} {args : List A} {f f' : Nat → A} {r : A} (hf : FCH P fn args [] [] f f' r) (h0 : ∀ c, san (f c) = .free) (hp : args.all A.plain = true) (hle : args.length ≤ OB) : FC P fn args [] r := by
  intro w m o vals hsat htbl hlt hinj hsz hrep
  refine (hf w m o vals hsat htbl (fun g l h => (hlt g l h).1) hinj hsz fun s => ?_).mono ?_
  · unfold argH
    split
    · rename_i h
      have h1 := hrep s
      unfold argS at h1
      rw [List.getD_eq_getElem?_getD] at h1 ⊢
      cases hx : args[s]? with
      | none => trivial
      | some x =>
        rw [hx] at h1
        exact plain_rep (List.all_eq_true.1 hp x (List.mem_of_getElem? hx)) h1
    · rename_i h
      have key : RepA m w o (fun s => if s < OB then args.getD s .any else if OB2 ≤ s then san (f (s - OB2)) else match ([] : List A)[s - OB]? with | some x => x | none => .free) s .free (vals.getD s undef) := fun g k e => h (hlt g _ e).2
      split
      · rw [h0]; exact key
      · exact key
  · rintro e w' ⟨u, m', o', S', a', ρ, h1, h2, h3, _⟩
    rw [plain_args hp]
    exact ⟨u, m', o', S', a', ρ, h1, h2, h3, fun i l h => by cases h⟩
end Go.Proofs.YtimdogdplphmoaaDoor
