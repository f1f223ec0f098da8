/-
  Slices that grow and are written: an object that need not be there while the slice is empty.
-/
import Derived.Test.YtimdogdplphmoaaDoorGrw
import Derived.Test.YtimdogdplphmoaaDoorHg
namespace Go.Proofs.YtimdogdplphmoaaDoor
open Go Go.RowKit
set_option linter.unusedVariables false

/-- What is told of the object: nothing is there while the slice is empty. -/
def gbA {α : Type} (c : α → List D) : List α → A
  | [] => .free
  | a :: l => .box (fl (dT c) (a :: l))
theorem gb_ne {α : Type} {c : α → List D} {y : List α} (h : y ≠ []) : gbA c y = .box (fl (dT c) y) := by
  cases y with
  | nil => exact absurd rfl h
  | cons a l => rfl
theorem gb_box {α : Type} {c : α → List D} {y : List α} {z : Int} {a : α} (h : idx y z = some a) : gbA c y = .box (fl (dT c) y) := gb_ne fun e => by
  have := (idx_lt h).2.2
  rw [e] at this
  simp at this
theorem gb_set {α : Type} {c : α → List D} {y : List α} {z : Int} {a b : α} {k : Nat} (h : idx y z = some a) : A.box (fl (dT c) (y.set k b)) = gbA c (y.set k b) := (gb_ne fun e => by
  have h2 := (idx_lt h).2.2
  have : (y.set k b).length = 0 := by rw [e]; rfl
  rw [List.length_set] at this
  rw [List.eq_nil_of_length_eq_zero this] at h2
  simp at h2).symm
theorem ob_gb {α : Type} (c : α → List D) (y : List α) (j : Nat) : mentA j (gbA c y) = false := by
  cases y with
  | nil => rfl
  | cons a l => exact ob_box (fl_noPt c _) j
/-! ### Elements of more than one cell -/
theorem fl_at2 {α : Type} {c : α → List D} {l : List α} {z : Int} {y : α} {k q : Nat} (h : idx l z = some y) {d : D} (hd : (c y)[q]? = some d) (hc : ∀ a, (c a).length = k) : (fl (dT c) l)[0 + z.toNat * k + q]? = some (.d d) := by
  have hq : q < k := by rw [← hc y]; exact (List.getElem?_eq_some_iff.1 hd).1
  have := fl_cell (c := dT c) (k := k) (dT_len hc) (idx_lt h).2.2 hq
  rw [Nat.zero_add, this]
  show ((c y).map T.d)[q]? = _
  rw [List.getElem?_map, hd]
  rfl
theorem fl_put2 {α : Type} {c : α → List D} {l : List α} {z : Int} {y : α} {k q : Nat} (h : idx l z = some y) (v : α) (hc : ∀ a, (c a).length = k) {x : List T} (hx : splice (dT c y) q x = dT c v) (hq : Nat.ble (q + x.length) k = true) : splice (fl (dT c) l) (0 + z.toNat * k + q) x = fl (dT c) (l.set z.toNat v) := by
  have := fl_splice (c := dT c) (k := k) (dT_len hc) (idx_lt h).2.2 (q := q) (b := v) (d := x) hx (by simpa using hq)
  rw [Nat.zero_add]
  exact this
theorem fl_room2 {α : Type} {c : α → List D} {l : List α} {z : Int} {y : α} {k q n : Nat} (h : idx l z = some y) (hc : ∀ a, (c a).length = k) (hq : Nat.ble (q + n) k = true) : 0 + z.toNat * k + q + n ≤ (fl (dT c) l).length := by
  have h1 := idx_lt h
  rw [fl_len (dT_len hc)]
  have h2 : z.toNat + 1 ≤ l.length := by omega
  have h3 := Nat.mul_le_mul_right k h2
  rw [Nat.succ_mul] at h3
  have h4 : q + n ≤ k := by simpa using hq
  omega
theorem nr_nil {L0 : SL} : noRefsIn L0 [] = true := rfl
theorem nr_cons {L0 : SL} {s : Nat} {x : A} {r : SL} (h : (match x with | .ref b _ => (gt L0 b).isBox | _ => true) = true) (hr : noRefsIn L0 r = true) : noRefsIn L0 ((s, x) :: r) = true := by
  unfold noRefsIn
  rw [Bool.and_eq_true]
  exact ⟨h, hr⟩
theorem nr_gb {α : Type} (L0 : SL) (c : α → List D) (y : List α) : (match gbA c y with | .ref b _ => (gt L0 b).isBox | _ => true) = true := by cases y <;> rfl
theorem nr_of {L : SL} (h : noRefsIn L L = true) : noRefs L = true := h
/-- Only these places may tell of object j. -/
def NoM (j : Nat) (ex : List Nat) (L : SL) : Prop := ∀ s, ex.contains s = false → mentA j (gt L s) = false
theorem NoM.nil {j : Nat} {ex : List Nat} : NoM j ex [] := fun _ _ => rfl
theorem NoM.cons {j : Nat} {ex : List Nat} {s : Nat} {x : A} {L : SL} (h : mentA j x = false) (hr : NoM j (s :: ex) L) : NoM j ex ((s, x) :: L) := fun t ht => by
  rw [gt_cons]
  unfold upd
  by_cases e : t = s
  · rw [if_pos e]; exact h
  · rw [if_neg e]
    exact hr t (by rw [List.contains_cons, ht, Bool.or_false]; exact beq_eq_false_iff_ne.2 e)
theorem NoM.skip {j : Nat} {ex : List Nat} {s : Nat} {x : A} {L : SL} (h : ex.contains s = true) (hr : NoM j ex L) : NoM j ex ((s, x) :: L) := fun t ht => by
  rw [gt_cons]
  unfold upd
  by_cases e : t = s
  · rw [e, h] at ht; cases ht
  · rw [if_neg e]; exact hr t ht
theorem ptT_ment (j t : Nat) (p : Option Nat) : mentA j (.t (ptT t p)) = false := by cases p <;> rfl
def anyE (ss : List Nat) : Eff := ss.map fun s => (s, A.any)
theorem app_any (S : Nat → A) : ∀ (ss : List Nat) (t : Nat), app S (anyE ss) t = if ss.contains t then A.any else S t := by
  intro ss
  induction ss generalizing S with
  | nil => intro t; rfl
  | cons s r ih =>
    intro t
    show app (upd S s .any) (anyE r) t = _
    rw [ih]
    by_cases h : r.contains t = true
    · rw [if_pos h, if_pos (by rw [List.contains_cons, h, Bool.or_true])]
    · rw [if_neg h]
      unfold upd
      by_cases e : t = s
      · rw [if_pos e, if_pos (by rw [List.contains_cons, e]; simp)]
      · rw [if_neg e, if_neg (by
          rw [List.contains_cons]
          intro hh
          cases h1 : (t == s) with
          | true => exact e (by simpa using h1)
          | false => rw [h1, Bool.false_or] at hh; exact h hh)]

section
variable {w0 : World} {m0 : Mem} {o0 : OwnM} {G : Nat → Prop} {pins : List Nat} {S M : Nat → A} {P : Program} {N : Nat} {Q : Exit → SL → Prop} {L : SL} {op : Oper} {d : Nat}
theorem OpH.ob {b : Nat} {x x' : A} (h : OpH P pins N op S (app S [(b, x)])) (e : x = x') : OpH P pins N op S (app S [(b, x')]) := e ▸ h
/-- nil, told as a slice of an object that is not there. -/
theorem h_nilv {x : Operand} {j E k : Nat} (hop : op.op = .move x ∨ op.op = .assign x) (hx : x = .const (.slice none 0 0)) (hd : op.dst = some d) (hok : okD N pins S d = true) : OpH P pins N op S (app S [(d, .t (.view j 0 E k 0))]) := by
  subst hx
  refine .of (e := [(d, _)]) fun hN => ⟨?_, eff_1 (okD_lo hN hok)⟩
  refine ok_of_run fun w0 m0 o0 G a w m o hN' I => ?_
  obtain ⟨h1, h2, h3⟩ := okD_iff (okD_hx hN hok)
  refine ⟨.slice none 0 0, w, m, o, ?_, ?_⟩
  · unfold execOp
    rcases hop with e | e <;> (rw [e]; rfl)
  · rw [hd]
    exact I.set d _ _ (by omega) h2 ⟨none, 0, Nat.le_refl _, Nat.zero_le _, rfl, .inl rfl⟩
theorem fl_rows {α : Type} (c : α → List D) (l : List α) : fl (dT c) l = ((l.map c).flatMap id).map T.d := fl_flat c l
/-- append. -/
theorem h_apg {α : Type} {c : α → List D} (hM : Mk M S) {j E k nb t : Nat} {x y : Operand} {l l' : List α} {e : Eff} (ss : List Nat) (hop : op.op = .call { callee := .builtin .append, args := ⟨[x, y]⟩, argTypes := ⟨[t, t]⟩ }) (hE : elF P t = some (E, k, nb)) (hxv : cpO M x = .t (.view j 0 E k l.length)) (hb : M (OB + j) = gbA c l) (hc : ∀ a, (c a).length = k)
    (hy : slD k (dO M y) = some (l'.map c)) (hpos : 0 < l'.length) (hbd : (l.length + l'.length) * nb ≤ 140737488355328) (hd : op.dst = some d) (hok : okD N pins S d = true) (hj : (Nat.blt (j + 1) OB && !pins.contains (OB + j) && ss.all (fun s => Nat.blt s OB && !(S s).isBox)) = true)
    (hm : ∀ s, ((OB + j) :: ss).contains s = false → mentA j (S s) = false) (hh : S HK = .any ∨ ∃ f, S HK = .hp f ∧ pureH f) (he : anyE ss ++ [(OB + j, gbA c (l ++ l')), (d, .t (.view j 0 E k (l ++ l').length))] = e) : OpH P pins N op S (app S e) := by
  subst he
  intro hN hlo
  simp only [Bool.and_eq_true, Bool.not_eq_true', List.contains_eq_mem, decide_eq_false_iff_not] at hj
  obtain ⟨⟨c2, c3⟩, c4⟩ := hj
  obtain ⟨e1, e2, e3⟩ := lo_of c2
  have hdO := okD_lo hN hok
  have hss : ∀ s, ss.contains s = true → s < OB ∧ (S s).isBox = false := fun s hs => by
    have := List.all_eq_true.1 c4 s (by simpa using hs)
    simp only [Bool.and_eq_true, Bool.not_eq_true'] at this
    exact ⟨by simpa using this.1, this.2⟩
  have hne : l ++ l' ≠ [] := fun h => by
    have := (List.append_eq_nil_iff.1 h).2
    rw [this] at hpos
    simp at hpos
  have hlow : Low (app S (anyE ss)) := fun t ht => by
    rw [app_any]
    split
    · rfl
    · exact hlo t ht
  have hS' : app S (anyE ss ++ [(OB + j, gbA c (l ++ l')), (d, .t (.view j 0 E k (l ++ l').length))]) = upd (upd (app S (anyE ss)) (OB + j) (gbA c (l ++ l'))) d (.t (.view j 0 E k (l ++ l').length)) := by
    unfold app
    rw [List.foldl_append]
    rfl
  rw [hS']
  refine ⟨?_, (hlow.upd e1).upd (lt2 hdO)⟩
  rw [hx_updL (lt2 hdO) (by unfold HK; unfold OB at hdO; omega), hx_updL e1 e2]
  have hk1 : app S (anyE ss) HK = S HK := by
    rw [app_any, if_neg]
    intro h
    have := (hss HK h).1
    unfold HK OB at this
    omega
  have hx1 : ∀ s, hx (app S (anyE ss)) s = hx S s ∨ (hx (app S (anyE ss)) s = .any ∧ (hx S s).isBox = false) := fun s => by
    rcases Nat.lt_or_ge s OB2 with h2 | h2
    · rw [hx_lo h2, hx_lo h2, app_any]
      split
      · rename_i h; exact .inr ⟨rfl, (hss s h).2⟩
      · exact .inl rfl
    · refine .inl ?_
      unfold hx
      rw [hlow s h2, hlo s h2]
      simp only
      rw [hk1]
  have hm1 : ∀ s, s ≠ OB + j → mentA j (hx (app S (anyE ss)) s) = false := fun s hs => by
    rcases Nat.lt_or_ge s OB2 with h2 | h2
    · rw [hx_lo h2, app_any]
      split
      · rfl
      · rename_i h
        refine hm s ?_
        rw [List.contains_cons]
        simp only [Bool.or_eq_false_iff]
        exact ⟨beq_eq_false_iff_ne.2 hs, by simpa using h⟩
    · obtain ⟨k, rfl⟩ : ∃ k, s = OB2 + k := ⟨s - OB2, by omega⟩
      exact heap_ment hlow (by rw [hk1]; exact hh) k
  rw [gb_ne hne, fl_rows, List.map_append]
  have hlen : (l ++ l').length = (l.map c ++ l'.map c).length := by simp
  rw [hlen]
  have hSb : S (OB + j) = gbA c l := by
    rcases hM (OB + j) with h | h
    · rw [h] at hb
      cases l with
      | nil => cases hb
      | cons a r => cases hb
    · rw [← h, hb]
  cases l with
  | nil =>
    refine ok_apg1 hM.hx hop hd (okD_hx hN hok) hdO hE hxv (hx_of hSb (by intro h; cases h)) hy (by simpa using hpos) (by simpa using hbd) hx1 ?_
    rcases hx1 (OB + j) with h | ⟨h, _⟩
    · rw [h, hx_of hSb (by intro h; cases h)]
      rfl
    · rw [hx_lo e1, app_any] at h
      split at h
      · rename_i h2
        have := (hss _ h2).1
        omega
      · rw [hSb] at h; cases h
  | cons a r =>
    refine ok_apg (l := (a :: r).map c) hM.hx hop hd (okD_hx hN hok) hdO hE e3 c3 (by rw [List.length_map]; exact hxv) (hx_of (by rw [hSb, gb_ne (by simp), fl_rows]) (by simp)) (fun q hq => by obtain ⟨b, _, rfl⟩ := List.mem_map.1 hq; exact hc b) hy (by simpa using hpos) (by simpa using hbd) hx1 hm1
theorem NoM.get {j : Nat} {ex : List Nat} (h : NoM j ex L) : ∀ s, ex.contains s = false → mentA j (gt L s) = false := h
theorem h_apgI {α : Type} {c : α → List D} (hM : Mk M S) {j E k nb t : Nat} {x y : Operand} {l l' z : List α} {e : Eff} (ss : List Nat) (hz : appI nb l l' = some z) (hop : op.op = .call { callee := .builtin .append, args := ⟨[x, y]⟩, argTypes := ⟨[t, t]⟩ }) (hE : elF P t = some (E, k, nb)) (hx : cpO M x = .t (.view j 0 E k l.length)) (hb : M (OB + j) = gbA c l) (hc : ∀ a, (c a).length = k)
    (hy : slD k (dO M y) = some (l'.map c)) (hpos : 0 < l'.length) (hd : op.dst = some d) (hok : okD N pins S d = true) (hj : (Nat.blt (j + 1) OB && !pins.contains (OB + j) && ss.all (fun s => Nat.blt s OB && !(S s).isBox)) = true)
    (hm : ∀ s, ((OB + j) :: ss).contains s = false → mentA j (S s) = false) (hh : S HK = .any ∨ ∃ f, S HK = .hp f ∧ pureH f) (he : anyE ss ++ [(OB + j, gbA c z), (d, .t (.view j 0 E k z.length))] = e) : OpH P pins N op S (app S e) := by
  obtain ⟨h1, rfl⟩ := appI_iff hz
  exact h_apg hM ss hop hE hx hb hc hy hpos h1 hd hok hj hm hh he
/-- A slice that grew becomes data. -/
theorem c_frzG {α : Type} {cc : α → List D} {c : Code} {L' : SL} {y : List α} (d j : Nat) {E k : Nat} (hd : gt L d = .t (.view j 0 E k y.length)) (hb : gt L (OB + j) = gbA cc y) (hck : ∀ a, (cc a).length = k)
    (hc : (Nat.blt d OB && Nat.blt (j + 1) OB && !pins.contains (OB + j) && !pins.contains d && Nat.blt 0 k && noBoxM j d L) = true) (hh : heapP L) (hL : (d, .t (.d (.seq k (y.map cc)))) :: (OB + j, .free) :: dropM j d L = L') (h : CodeOK P pins N c Q L') : CodeOK P pins N c Q L := by
  cases y with
  | cons b r => exact c_frz d j (l := fl (dT cc) (b :: r)) (rs := (b :: r).map cc) hd hb (by simp) (fl_flat _ _) (map_row hck _) hc hh hL h
  | nil =>
    subst hL
    simp only [Bool.and_eq_true, Bool.not_eq_true', List.contains_eq_mem, decide_eq_false_iff_not] at hc
    obtain ⟨⟨⟨⟨⟨c1, c2⟩, c3⟩, c4⟩, c5⟩, c6⟩ := hc
    have c1 : d < OB := by simpa using c1
    have c2 : j + 1 < OB := by simpa using c2
    intro w0 m0 o0 G a w hS
    obtain ⟨hN, hlo, m, o, I⟩ := hS
    have hL2 : ∀ s, gt (dropM j d L) s = gt L s ∨ (gt (dropM j d L) s = .any ∧ (gt L s).isBox = false) := fun s => by
      rw [gt_dropM]
      cases hm : (Nat.blt s OB && (mentA j (gt L s) && !Nat.beq s d)) with
      | true => exact .inr ⟨rfl, noBoxM_gt c6 s hm⟩
      | false => exact .inl rfl
    have hk2 : gt (dropM j d L) HK = gt L HK := gt_dropM_hi L (by unfold HK OB; omega)
    obtain ⟨hlo2, hx2⟩ := hx_less hlo hk2 hL2
    have I2 := I.less hx2
    have e1 : OB + j < OB2 := by unfold OB OB2 at *; omega
    have e2 : OB + j ≠ HK := by unfold HK; unfold OB at *; omega
    have hdd : hx (gt (dropM j d L)) d = .t (.view j 0 E k 0) := by
      rw [hx_lo (lt2 c1), gt_dropM, hd]
      simp
    have hbb : hx (gt (dropM j d L)) (OB + j) = .free := by
      rw [hx_lo e1, gt_dropM_hi L (Nat.le_add_right _ _), hb]
      rfl
    have hdv := I2.slots d
    rw [hdd] at hdv
    obtain ⟨A', c0, q2, q3, q5, q4⟩ := hdv
    have hf : ∀ g k, o g ≠ some (OB + j, k) := by have := I2.slots (OB + j); rw [hbb] at this; exact this
    have hc0 : c0 = 0 := q4.resolve_right fun ⟨g, cs, z, _⟩ => hf g 0 z
    refine h w0 m0 o0 G a w ⟨hN, ?_, m, o, ?_⟩
    · rw [gt_cons, gt_cons]
      exact (hlo2.upd e1).upd (lt2 c1)
    · rw [gt_cons, gt_cons, hx_updL (lt2 c1) (by unfold HK; unfold OB at c1; omega), hx_updL e1 e2]
      have he : upd (hx (gt (dropM j d L))) (OB + j) .free = hx (gt (dropM j d L)) := by
        funext t
        unfold upd
        split
        · rename_i e; rw [e, hbb]
        · rfl
      rw [he]
      refine ⟨I2.same, I2.sat, I2.mono, I2.old, I2.own, I2.lt, I2.inj, I2.pinned, fun s => ?_, I2.defers, I2.tbl, I2.wide, I2.shps⟩
      by_cases e : s = d
      · subst e
        rw [upd_same, q5]
        exact RepD.seq k [] A' c0 0 0 (fun _ _ => undef) (Nat.zero_le _) q3 (fun h => absurd rfl h) (fun i r h => by simp at h) (fun i r j d h => by simp at h) (fun i r j d h => by simp at h)
      · rw [upd_other e]
        refine (I2.slots s).turn fun b l hb => ⟨l, ?_⟩
        rw [upd_other (fun e3 => by rw [e3, hdd] at hb; cases hb), hb]
end
end Go.Proofs.YtimdogdplphmoaaDoor
