/-
  Texts joined: see the remark at the head of each part.
-/
import Derived.Test.YtjomnccladjpgaaC06
import Derived.RangeFuncSeq
set_option linter.unusedVariables false
set_option linter.unusedSimpArgs false
/-
  Local objects: slices that are made and written by index; forgotten, frozen.
-/
namespace Go.Proofs.Ytjomnccladjpgaa
open Go Go.RowKit
set_option linter.unusedVariables false

/-! ### Rows side by side -/
/-- The cells of elements, side by side. -/
def fl {α β : Type} (c : α → List β) (x : List α) : List β := x.flatMap c
section
variable {α β : Type} {c : α → List β} {k : Nat}
theorem fl_len (hc : ∀ a, (c a).length = k) (x : List α) : (fl c x).length = x.length * k := by
  unfold fl
  induction x with
  | nil => simp
  | cons a r ih => rw [List.flatMap_cons, List.length_append, hc, ih, List.length_cons, Nat.succ_mul]; omega
theorem fl_split (hc : ∀ a, (c a).length = k) {x : List α} {i : Nat} (h : i < x.length) : fl c x = fl c (x.take i) ++ (c x[i] ++ fl c (x.drop (i + 1))) ∧ (fl c (x.take i)).length = i * k := by
  refine ⟨?_, by rw [fl_len hc, List.length_take, Nat.min_eq_left (by omega)]⟩
  conv => lhs; rw [← List.take_append_drop i x, List.drop_eq_getElem_cons h]
  unfold fl
  rw [List.flatMap_append, List.flatMap_cons]
theorem fl_row (hc : ∀ a, (c a).length = k) {x : List α} {i : Nat} {a : α} (h : x[i]? = some a) : ((fl c x).drop (i * k)).take k = c a := by
  obtain ⟨hi, rfl⟩ := List.getElem?_eq_some_iff.1 h
  obtain ⟨e, hl⟩ := fl_split (c := c) hc hi
  rw [e, ← hl, List.drop_left, List.take_append_of_le_length (by rw [hc]; exact Nat.le_refl _), List.take_of_length_le (by rw [hc]; exact Nat.le_refl _)]
theorem fl_cell (hc : ∀ a, (c a).length = k) {x : List α} {i q : Nat} {a : α} (h : x[i]? = some a) (hq : q < k) : (fl c x)[i * k + q]? = (c a)[q]? := by
  obtain ⟨hi, rfl⟩ := List.getElem?_eq_some_iff.1 h
  obtain ⟨e, hl⟩ := fl_split (c := c) hc hi
  rw [e, List.getElem?_append_right (by omega), hl, Nat.add_sub_cancel_left, List.getElem?_append_left (by rw [hc]; exact hq)]
theorem fl_set (hc : ∀ a, (c a).length = k) {x : List α} {i : Nat} (h : i < x.length) (a : α) : fl c (x.set i a) = fl c (x.take i) ++ (c a ++ fl c (x.drop (i + 1))) := by
  rw [List.set_eq_take_append_cons_drop, if_pos h]
  unfold fl
  rw [List.flatMap_append, List.flatMap_cons]
theorem fl_splice (hc : ∀ a, (c a).length = k) {x : List α} {i q : Nat} {a b : α} {d : List β} (h : x[i]? = some a) (hd : splice (c a) q d = c b) (hq : q + d.length ≤ k) : splice (fl c x) (i * k + q) d = fl c (x.set i b) := by
  obtain ⟨hi, rfl⟩ := List.getElem?_eq_some_iff.1 h
  obtain ⟨e, hl⟩ := fl_split (c := c) hc hi
  rw [fl_set hc hi, ← hd, e]
  unfold splice
  have hcl : (c x[i]).length = k := hc _
  have e1 : (fl c (x.take i) ++ (c x[i] ++ fl c (x.drop (i + 1)))).take (i * k + q) = fl c (x.take i) ++ (c x[i]).take q := by
    rw [← hl, List.take_length_add_append, List.take_append_of_le_length (by omega)]
  have e2 : (fl c (x.take i) ++ (c x[i] ++ fl c (x.drop (i + 1)))).drop (i * k + q + d.length) = (c x[i]).drop (q + d.length) ++ fl c (x.drop (i + 1)) := by
    rw [Nat.add_assoc, ← hl, List.drop_length_add_append, List.drop_append_of_le_length (by omega)]
  rw [e1, e2]
  simp [List.append_assoc]
end

theorem fl_len_of {β : Type} {k : Nat} : ∀ {rs : List (List β)}, (∀ r ∈ rs, r.length = k) → (rs.flatMap id).length = rs.length * k
  | [], _ => by simp
  | r :: t, h => by
    rw [List.flatMap_cons, List.length_append, fl_len_of fun x hx => h x (List.mem_cons_of_mem _ hx), List.length_cons, Nat.succ_mul]
    have : r.length = k := h r (by simp)
    show r.length + _ = _
    omega
theorem fl_cell_of {β : Type} {k : Nat} : ∀ {rs : List (List β)} {i q : Nat} {r : List β}, (∀ r ∈ rs, r.length = k) → rs[i]? = some r → q < k → (rs.flatMap id)[i * k + q]? = r[q]?
  | [], i, q, r, _, h, _ => by simp at h
  | x :: t, i, q, r, h, hi, hq => by
    have hx : x.length = k := h x (by simp)
    rw [List.flatMap_cons]
    cases i with
    | zero =>
      injection hi with hi
      subst hi
      rw [Nat.zero_mul, Nat.zero_add]
      exact List.getElem?_append_left (by show q < x.length; omega)
    | succ i =>
      rw [Nat.succ_mul, List.getElem?_append_right (by show x.length ≤ _; omega)]
      have : i * k + k + q - (id x).length = i * k + q := by show i * k + k + q - x.length = _; omega
      rw [this]
      exact fl_cell_of (fun r hr => h r (List.mem_cons_of_mem _ hr)) (by simpa using hi) hq

section
variable {w0 : World} {m0 : Mem} {o0 : OwnM} {G : GD} {pins : List Nat} {S M : Nat → A} {a : Act} {w : World} {m : Mem} {o : OwnM} {P : Program} {N : Nat}
/-- A made slice, held by object j. c0: the cells of a zero element. -/
theorem ok_make (hM : Mk M S) {op : Oper} {d j t e q : Nat} {xn xc : Operand} {kl kc : IntKind} {n : Int} {ie : TypeInfo} {z : Value} {c0 : List T} (hop : op.op = .makeSlice t xn xc) (hn : vO M xn = some (.int kl n)) (hc : vO M xc = some (.int kc n)) (hu : P.underlying t = some (.slice e)) (hie : P.info? e = some ie) (hz : ie.zero = some z)
    (hc0 : cellsT (litA z) = some c0) (hsz : c0.length = ie.size) (hq : mkI ie.bytes n = some q) (hd : op.dst = some d) (hok : okD N pins S d = true) (hdO : Nat.blt d OB = true) (hfree : S (OB + j) = .free) :
    OpOK P pins N op S (app S [(OB + j, .box (fl (fun _ => c0) (List.replicate q ()))), (d, .t (.view j 0 e ie.size q))]) := by
  obtain ⟨q1, q2, q3, rfl⟩ := mkI_iff hq
  refine ok_of_run fun w0 m0 o0 G a w m o hN I => ?_
  obtain ⟨d1, d2, d3⟩ := okD_iff hok
  have hdO : d < OB := by simpa using hdO
  have hcp : cellsP (litA z) = some c0 := by
    revert hc0
    generalize litA z = y
    intro hl
    cases y with
    | t y => cases y <;> first | exact hl | cases hl
    | _ => cases hl
  obtain ⟨k1, k2, k3⟩ := cellsP_rep hcp (litA_rep (m := m) (w := w) (o := o) (S := S) 0 z)
  have hrun := run_make (P := P) (w := w) t e ie z hu hie hz kl kc n n q1 (Int.le_refl _) q2 (by omega)
  have hsize : (madeCells z.cells (n.toNat * ie.size)).size = n.toNat * ie.size := size_madeCells _ _
  have J := I.obj_new (j := j) (l := fl (fun _ => c0) (List.replicate n.toNat ())) (cs := madeCells z.cells (n.toNat * ie.size)) (E := e) hfree ?_ fun i x hi => ?_
  · refine ⟨.slice (some ⟨w.heap.size, 0, none⟩) n.toNat n.toNat, w.alloc (.cells (madeCells z.cells (n.toNat * ie.size)) e), m, newO o (OB + j) w.heap.size, ?_, ?_⟩
    · unfold execOp
      rw [hop]
      simp only [Sem.run_bind]
      rw [vO_eq hM I hn, vO_eq hM I hc, hrun]
      rfl
    · rw [hd]
      exact J.set d _ _ (by omega) (by rw [upd_other (by omega)]; exact d2) ⟨some ⟨w.heap.size, 0, none⟩, n.toNat, Nat.le_refl _, by unfold maxLen; omega, rfl, .inr ⟨w.heap.size, _, e, newO_same _ _ _, rfl, heap_alloc_new w _, by rw [hsize]; omega, .inr rfl⟩⟩
  · rw [hsize, fl_len (k := ie.size) (fun _ => hsz), List.length_replicate]
    exact Nat.le_refl _
  · have hlt : i < n.toNat * ie.size := by
      have := (List.getElem?_eq_some_iff.1 hi).1
      rw [fl_len (k := ie.size) (fun _ => hsz), List.length_replicate] at this
      exact this
    have hpos : 0 < ie.size := Nat.pos_of_ne_zero fun e => by rw [e] at hlt; simp at hlt
    have hi1 : i / ie.size < n.toNat := Nat.div_lt_of_lt_mul (by rw [Nat.mul_comm]; exact hlt)
    have hi2 : i % ie.size < ie.size := Nat.mod_lt _ hpos
    have he : i / ie.size * ie.size + i % ie.size = i := by rw [Nat.mul_comm]; exact Nat.div_add_mod i ie.size
    have h2 := fl_cell (c := fun _ : Unit => c0) (k := ie.size) (fun _ => hsz) (x := List.replicate n.toNat ()) (i := i / ie.size) (q := i % ie.size) (a := ()) (by rw [List.getElem?_replicate, if_pos hi1]) hi2
    rw [he] at h2
    rw [h2] at hi
    obtain ⟨p1, u, p2, p3⟩ := k3 _ x hi
    refine ⟨cellsP_noOwn hcp x (List.mem_of_getElem? hi), u, ?_, p3 _ _ (ShpAt.refl w)⟩
    have hzs : z.cells.size = ie.size := by have := k1; simp at this; omega
    unfold madeCells
    rw [Array.getElem?_map, Array.getElem?_range, if_pos hlt]
    simp only [Option.map_some, hzs]
    have p2 : z.cells[i % ie.size]? = some u := by simpa using p2
    rw [getElem!_def, p2]

/-- The address of an element of a slice of an object. -/
theorem ok_ixv (hM : Mk M S) {op : Oper} {d j off E k n t e : Nat} {x i : Operand} {ki : IntKind} {z : Int} {ie : TypeInfo} (hop : op.op = .indexAddr t x i) (hx : cpO M x = .t (.view j off E k n)) (hi : vO M i = some (.int ki z)) (hu : P.underlying t = some (.slice e)) (hie : P.info? e = some ie) (hz : 0 ≤ z ∧ z < n) (hd : op.dst = some d) (hok : okD N pins S d = true) :
    OpOK P pins N op S (upd S d (.ref (OB + j) (off + z.toNat * ie.size))) := by
  refine ok_of_run fun w0 m0 o0 G a w m o hN I => ?_
  obtain ⟨h1, h2, h3⟩ := okD_iff hok
  have hxr := cpO_rep hM I x 0
  rw [hx] at hxr
  obtain ⟨A', c, k0, _, k3, k4⟩ := hxr
  obtain ⟨g, cs, _, k1, k5, _⟩ := k4.resolve_left fun h => by omega
  subst k5
  refine ⟨.pointer (some ⟨g, off + z.toNat * ie.size, none⟩), w, m, o, ?_, ?_⟩
  · unfold execOp
    rw [hop]
    simp only [Sem.run_bind]
    rw [vO_eq hM I hi, k3]
    simp [Instr.indexAt, asIntOf, run_underlying hu, hz, sizeOf, typeInfo, hie, Addr.add_mid]
  · rw [hd]
    exact I.set d _ _ (by omega) h2 ⟨g, k1, rfl, fun h => absurd h (by omega)⟩
/-- How long a slice of an object is. -/
theorem ok_lnv (hM : Mk M S) {op : Oper} {d j off E k n t e : Nat} {x : Operand} (hop : op.op = .call { callee := .builtin .len, args := ⟨[x]⟩, argTypes := ⟨[t]⟩ }) (hx : cpO M x = .t (.view j off E k n)) (hu : P.underlying t = some (.slice e)) (hd : op.dst = some d) (hok : okD N pins S d = true) :
    OpOK P pins N op S (upd S d (.t (.d (.lit (.int .i64 n))))) := by
  refine ok_of_run fun w0 m0 o0 G a w m o hN I => ?_
  obtain ⟨h1, h2, h3⟩ := okD_iff hok
  have hxr := cpO_rep hM I x 0
  rw [hx] at hxr
  obtain ⟨A', c, _, _, k3, _⟩ := hxr
  refine ⟨.int .i64 n, w, m, o, ?_, by rw [hd]; exact I.set d _ _ (by omega) h2 (.lit _ rfl)⟩
  unfold execOp
  rw [hop]
  simp only [resolve, invoke, builtin, Sem.run_bind, Sem.run_pure, Result.andThen_ok, List.map_toArray, List.map_cons, List.map_nil]
  rw [k3]
  simp [Builtin.len_, run_underlying hu, goInt]
/-- A piece of a slice of an object. -/
theorem ok_slv (hM : Mk M S) {op : Oper} {d j off E k n t e : Nat} {x : Operand} {lo hi : Option Operand} {l0 h0 : Option Int} {ie : TypeInfo} {off' n' : Nat} (hop : op.op = .slice t x lo hi none) (hx : cpO M x = .t (.view j off E k n)) (hk : ie.size = k) (hlo : bndO M lo = some l0) (hhi : bndO M hi = some h0) (hu : P.underlying t = some (.slice e)) (hie : P.info? e = some ie)
    (hc : 0 ≤ l0.getD 0 ∧ l0.getD 0 ≤ h0.getD n ∧ h0.getD n ≤ n) (ho : off + (l0.getD 0).toNat * ie.size = off') (hn' : (h0.getD n).toNat - (l0.getD 0).toNat = n') (hd : op.dst = some d) (hok : okD N pins S d = true) :
    OpOK P pins N op S (upd S d (.t (.view j off' E k n'))) := by
  subst ho hn' hk
  refine ok_of_run fun w0 m0 o0 G a w m o hN I => ?_
  obtain ⟨h1, h2, h3⟩ := okD_iff hok
  have hxr := cpO_rep hM I x 0
  rw [hx] at hxr
  obtain ⟨A', c, k2, k4, k3, k5⟩ := hxr
  obtain ⟨kl, e1⟩ := bndO_eq hM I hlo
  obtain ⟨kh, e2⟩ := bndO_eq hM I hhi
  have hb : (Instr.sliceBounds true n c (l0.map fun z => .int (kl z) z) (h0.map fun z => .int (kh z) z) none).run P w = .ok ((l0.map Int.toNat).getD 0, (h0.map Int.toNat).getD n, c) w := by
    unfold Instr.sliceBounds
    cases l0 <;> cases h0 <;> simp only [Option.getD_none, Option.getD_some, Option.map_none, Option.map_some, Option.isSome_none, Option.isSome_some] at hc ⊢ <;>
      (simp only [Sem.run_bind, Sem.run_pure, Result.andThen_ok]
       repeat (rw [run_sliceBound_ok (by omega) (by omega), Result.andThen_ok]))
  have hlo2 : (l0.map Int.toNat).getD 0 = (l0.getD 0).toNat := by cases l0 <;> rfl
  have hhi2 : (h0.map Int.toNat).getD n = (h0.getD n).toNat := by cases h0 <;> simp
  rw [hlo2, hhi2] at hb
  have hrun : (Instr.sliceAt t (.slice A' n c) (l0.map fun z => .int (kl z) z) (h0.map fun z => .int (kh z) z) none).run P w = .ok (.slice (if c = (l0.getD 0).toNat then A' else A'.map (·.add ((l0.getD 0).toNat * ie.size))) ((h0.getD n).toNat - (l0.getD 0).toNat) (c - (l0.getD 0).toNat)) w := by
    unfold Instr.sliceAt
    simp only [Sem.run_bind, run_underlying hu, Result.andThen_ok]
    unfold Instr.slice
    simp only [Sem.run_bind, run_underlying hu, Result.andThen_ok]
    rw [hb]
    simp [sizeOf, typeInfo, hie]
  refine ⟨.slice (if c = (l0.getD 0).toNat then A' else A'.map (·.add ((l0.getD 0).toNat * ie.size))) ((h0.getD n).toNat - (l0.getD 0).toNat) (c - (l0.getD 0).toNat), w, m, o, ?_, ?_⟩
  · unfold execOp
    rw [hop]
    simp only [Sem.run_bind]
    rw [e1, e2, k3]
    show Result.andThen (Sem.run P (Instr.sliceAt t _ _ _ none) w) _ = _
    rw [hrun]
    rfl
  · rw [hd]
    refine I.set d _ _ (by omega) h2 ?_
    refine ⟨(if c = (l0.getD 0).toNat then A' else A'.map (·.add ((l0.getD 0).toNat * ie.size))), c - (l0.getD 0).toNat, by omega, by omega, rfl, ?_⟩
    rcases k5 with c0 | ⟨g, cs, E1, q1, q2, q3, q4, q6⟩
    · subst c0
      exact .inl (Nat.zero_sub _)
    · by_cases hz : c = (l0.getD 0).toNat
      · exact .inl (by omega)
      · refine .inr ⟨g, cs, E1, q1, ?_, q3, ?_, q6⟩
        · rw [if_neg hz, q2]
          show some ((⟨g, off, none⟩ : Addr).add _) = _
          rw [Addr.add_mid]
        · have : (l0.getD 0).toNat * ie.size + (c - (l0.getD 0).toNat) * ie.size = c * ie.size := by rw [← Nat.add_mul]; congr 1; omega
          omega
/-! ### Objects that nobody knows any more -/
def mentT (j : Nat) : T → Bool
  | .ptr i _ | .view i _ _ _ _ => Nat.beq i j
  | .mpt i => Nat.blt i OB && Nat.beq i j
  | _ => false
def mentA (j : Nat) : A → Bool
  | .t x => mentT j x
  | .tup l | .box l | .ag l | .lst l | .imt l => l.any (mentT j)
  | .cl _ caps => caps.any fun l => l.any (mentT j)
  | .ref b _ => Nat.beq b (OB + j)
  | _ => false
def dropO (o : OwnM) (j : Nat) : OwnM := fun g => if (o g).map (·.1) = some (OB + j) then none else o g
theorem dropO_iff {o : OwnM} {j g : Nat} {l : Nat × Nat} : dropO o j g = some l ↔ o g = some l ∧ l.1 ≠ OB + j := by
  unfold dropO
  constructor
  · intro h
    split at h
    · cases h
    · rename_i hn; exact ⟨h, fun e => hn (by rw [h, ← e]; rfl)⟩
  · rintro ⟨h1, h2⟩
    rw [h1, if_neg (by simpa using h2)]
theorem mentT_rep {j : Nat} (hj : j < OB) {x : T} (hx : mentT j x = false) {loc : Nat × Nat} (hl : loc.1 ≠ OB + j) {v : Value} (h : RepT m w o loc x v) : RepT m w (dropO o j) loc x v := by
  cases x with
  | d x => exact h
  | agg l => exact h
  | own E k l =>
    obtain ⟨A', cap, xs, e, h1, h2, h3⟩ := h
    exact ⟨A', cap, xs, e, h1, fun g hg => ⟨dropO_iff.2 ⟨(h2 g hg).1, hl⟩, (h2 g hg).2⟩, h3⟩
  | ptr i off =>
    obtain ⟨g, h1, h2⟩ := h
    have : i ≠ j := fun e => by subst e; simp [mentT] at hx
    exact ⟨g, dropO_iff.2 ⟨h1, by show OB + i ≠ OB + j; omega⟩, h2⟩
  | view i off E k n =>
    obtain ⟨A', c, h1, h2, h3, h4⟩ := h
    have : i ≠ j := fun e => by subst e; simp [mentT] at hx
    exact ⟨A', c, h1, h2, h3, h4.imp id fun ⟨g, cs, E1, k1, k2⟩ => ⟨g, cs, E1, dropO_iff.2 ⟨k1, by show OB + i ≠ OB + j; omega⟩, k2⟩⟩
  | hpt c off =>
    obtain ⟨g, h1, h2⟩ := h
    exact ⟨g, dropO_iff.2 ⟨h1, by show OB + (OB + c) ≠ OB + j; omega⟩, h2⟩
  | mpt i =>
    obtain ⟨g, h1, h2⟩ := h
    have : i ≠ j := fun e => by
      subst e
      have hx : (Nat.blt i OB && Nat.beq i i) = false := hx
      rw [show Nat.blt i OB = true by simpa using hj, Nat.beq_refl] at hx
      cases hx
    exact ⟨g, dropO_iff.2 ⟨h1, by show OB + i ≠ OB + j; omega⟩, h2⟩
  | hvw c off E k n =>
    obtain ⟨A', q, h1, h2, h3, h4⟩ := h
    exact ⟨A', q, h1, h2, h3, h4.imp id fun ⟨g, cs, E1, k1, k2⟩ => ⟨g, cs, E1, dropO_iff.2 ⟨k1, by show OB + (OB + c) ≠ OB + j; omega⟩, k2⟩⟩
theorem any_false {j : Nat} {l : List T} (h : l.any (mentT j) = false) {q : Nat} {x : T} (hq : l[q]? = some x) : mentT j x = false := by
  cases hb : mentT j x with
  | false => rfl
  | true =>
    have : l.any (mentT j) = true := List.any_eq_true.2 ⟨x, List.mem_of_getElem? hq, hb⟩
    rw [h] at this
    cases this
theorem mentA_rep {j s : Nat} (hj : j < OB) {x : A} (hx : mentA j x = false) (hs : s ≠ OB + j) {S S' : Nat → A} (hS : ∀ b l, b < OB → S b = .box l → ∃ l', S' b = .box l') {v : Value} (h : RepA m w o S s x v) : RepA m w (dropO o j) S' s x v := by
  cases x with
  | t x => exact mentT_rep (loc := (s, 0)) hj hx hs h
  | tup l =>
    obtain ⟨vs, e, h1, h2⟩ := h
    refine ⟨vs, e, h1, fun q x hq => ?_⟩
    obtain ⟨u, k1, k2⟩ := h2 q x hq
    exact ⟨u, k1, mentT_rep hj (any_false hx hq) hs k2⟩
  | imm l => exact h
  | box l =>
    obtain ⟨g, e, h1, h2, cs, E, h3, h4, h5⟩ := h
    refine ⟨g, e, dropO_iff.2 ⟨h1, hs⟩, h2, cs, E, h3, h4, fun q x hq => ?_⟩
    obtain ⟨k0, u, k1, k2⟩ := h5 q x hq
    exact ⟨k0, u, k1, mentT_rep hj (any_false hx hq) hs k2⟩
  | ref b off =>
    obtain ⟨g, h1, h2, h3⟩ := h
    have : b ≠ OB + j := fun e => by subst e; simp [mentA] at hx
    exact ⟨g, dropO_iff.2 ⟨h1, this⟩, h2, fun hb => let ⟨l, hl⟩ := h3 hb; hS b l hb hl⟩
  | free => exact fun g k e => h g k (dropO_iff.1 e).1
  | ag l =>
    obtain ⟨vs, e, h1, h2⟩ := h
    refine ⟨vs, e, h1, fun q x hq => ?_⟩
    obtain ⟨u, k1, k3, k2⟩ := h2 q x hq
    exact ⟨u, k1, k3, mentT_rep hj (any_false hx hq) hs k2⟩
  | lst l =>
    obtain ⟨g, cap, e, h1, h2, h3⟩ := h
    refine ⟨g, cap, e, h1, h2, fun q x hq => ?_⟩
    obtain ⟨u, k1, k2⟩ := h3 q x hq
    exact ⟨u, k1, mentT_rep hj (any_false hx hq) hs k2⟩
  | fr E k =>
    obtain ⟨g, n, cap, cur, h1, h2, h3⟩ := h
    exact ⟨g, n, cap, cur, h1, dropO_iff.2 ⟨h2, hs⟩, h3⟩
  | hp f => trivial
  | mp l => obtain ⟨g, h1, rest⟩ := h; exact ⟨g, dropO_iff.2 ⟨h1, hs⟩, rest⟩
  | cl f caps =>
    obtain ⟨ptrs, e, h1, h2⟩ := h
    refine ⟨ptrs, e, h1, fun i l hi => ?_⟩
    obtain ⟨g, k1, k2⟩ := h2 i l hi
    have hl : l.any (mentT j) = false := by
      cases hb : l.any (mentT j) with
      | false => rfl
      | true =>
        have : caps.any (fun l => l.any (mentT j)) = true := List.any_eq_true.2 ⟨l, List.mem_of_getElem? hi, hb⟩
        have hx : caps.any (fun l => l.any (mentT j)) = false := hx
        rw [hx] at this
        cases this
    refine ⟨g, k1, fun q x hq => ?_⟩
    obtain ⟨u, k3, k4⟩ := k2 q x hq
    exact ⟨u, k3, mentT_rep hj (any_false hl hq) hs k4⟩
  | imt l =>
    obtain ⟨g, k1, k2⟩ := h
    refine ⟨g, k1, fun q x hq => ?_⟩
    obtain ⟨u, k3, k4⟩ := k2 q x hq
    exact ⟨u, k3, mentT_rep hj (any_false hx hq) hs k4⟩
  | rcd b u mE oE =>
    obtain ⟨h1, h2, h3, h4, h5⟩ := h
    exact ⟨dropO_iff.2 ⟨h1, hs⟩, h2, h3, h4, fun g c hg => dropO_iff.2 ⟨h5 g c hg, by show OB + (OB + c) ≠ OB + j; omega⟩⟩
  | any => trivial
theorem Inv.forget (I : Inv w0 m0 o0 G pins S a w m o) {j : Nat} (hj : j < OB) (hp : OB + j ∉ pins) (hm : ∀ s, mentA j (S s) = false) : Inv w0 m0 o0 G pins (upd S (OB + j) .free) a w m (dropO o j) := by
  refine ⟨I.same, I.sat, I.mono, I.old, fun g l h => I.own g l (dropO_iff.1 h).1, fun g l h => I.lt g l (dropO_iff.1 h).1, fun g g' l h h' => I.inj g g' l (dropO_iff.1 h).1 (dropO_iff.1 h').1, fun s hs g hg => dropO_iff.2 ⟨I.pinned s hs g hg, fun e => hs.elim (fun hs => hp (by rw [← e]; exact hs)) fun _ => ((I.shps g j (by have e : s = OB + j := e; rw [← e]; exact hg)).1).elim hp fun h => by unfold OB OB2 at *; omega⟩, fun s => ?_, I.defers, I.tbl, I.wide, I.shps⟩
  by_cases e : s = OB + j
  · subst e
    rw [upd_same]
    exact fun g k h => (dropO_iff.1 h).2 rfl
  · rw [upd_other e]
    exact mentA_rep hj (hm s) e (fun b l hb hl => ⟨l, by rw [upd_other (by omega), hl]⟩) (I.slots s)
end
end Go.Proofs.Ytjomnccladjpgaa

/-
  Steps that only turn what is told: a local object becomes the heap's, becomes data, is forgotten. The rules of local objects.
-/
namespace Go.Proofs.Ytjomnccladjpgaa
open Go Go.RowKit
set_option linter.unusedVariables false

section
variable {w0 : World} {m0 : Mem} {o0 : OwnM} {G : GD} {pins : List Nat} {S M : Nat → A} {a : Act} {w : World} {m : Mem} {o : OwnM} {P : Program} {N : Nat}
/-- Less is told. -/
theorem Inv.less (I : Inv w0 m0 o0 G pins S a w m o) {S' : Nat → A} (h : ∀ s, S' s = S s ∨ (S' s = .any ∧ (S s).isBox = false)) : Inv w0 m0 o0 G pins S' a w m o := by
  refine ⟨I.same, I.sat, I.mono, I.old, I.own, I.lt, I.inj, I.pinned, fun s => ?_, I.defers, I.tbl, I.wide, I.shps⟩
  rcases h s with e | ⟨e, _⟩
  · rw [e]
    refine (I.slots s).turn fun b l hb => ?_
    rcases h b with e2 | ⟨_, e2⟩
    · exact ⟨l, by rw [e2, hb]⟩
    · rw [hb] at e2; cases e2
  · rw [e]; trivial
/-- Object j, a made slice that only slot d knows, becomes a slice that may grow. rs: its rows. -/
theorem Inv.frz (I : Inv w0 m0 o0 G pins S a w m o) {j d E k : Nat} {l : List T} {rs : List (List D)} (hj : j < OB) (hd : d < OB) (hp : OB + j ∉ pins) (hpd : d ∉ pins) (hS : S d = .t (.view j 0 E k rs.length)) (hb : S (OB + j) = .box l) (hm : ∀ s, s ≠ d → s ≠ OB + j → mentA j (S s) = false) (hk : 0 < k) (hrk : ∀ r ∈ rs, r.length = k) (hl : l = (rs.flatMap id).map .d) :
    ∃ m' o', Inv w0 m0 o0 G pins (upd (upd S (OB + j) .free) d (.t (.d (.seq k rs)))) a w m' o' := by
  have hs := I.slots (OB + j)
  rw [hb] at hs
  obtain ⟨g, _, h1, h2, cs, E', h3, h4, h5⟩ := hs
  have hsd := I.slots d
  rw [hS] at hsd
  obtain ⟨A', c, q2, q3, q5, q4⟩ := hsd
  have hlen : l.length = rs.length * k := by
    subst hl
    rw [List.length_map]
    exact fl_len_of hrk
  have hcell : ∀ (i : Nat) (r : List D) (q : Nat) (e : D), rs[i]? = some r → r[q]? = some e → ∃ u, cs[i * k + q]? = some u ∧ RepD m e u := by
    intro i r q e hi hq
    have hrl := hrk r (List.mem_of_getElem? hi)
    have hqk : q < k := by rw [← hrl]; exact (List.getElem?_eq_some_iff.1 hq).1
    have : l[i * k + q]? = some (.d e) := by
      subst hl
      rw [List.getElem?_map, fl_cell_of hrk hi hqk, hq]
      rfl
    obtain ⟨_, u, k1, k2⟩ := h5 _ _ this
    exact ⟨u, k1, k2⟩
  let m' : Mem := newM m g fun p => cs[p]?
  have hmle : Mle m m' := by
    intro b p u hu
    show newM m g (fun p => cs[p]?) b p = some u
    unfold newM
    rw [if_neg]
    · exact hu
    · intro e; subst e; rw [h2] at hu; cases hu
  have hk' : ∀ g1 l1, dropO o j g1 = some l1 → g1 ≠ g ∧ o g1 = some l1 := by
    intro g1 l1 h
    obtain ⟨a1, a2⟩ := dropO_iff.1 h
    exact ⟨fun e => by subst e; rw [h1] at a1; injection a1 with a1; exact a2 (by rw [← a1]), a1⟩
  refine ⟨m', dropO o j, ⟨I.same, fun b p u h => ?_, I.mono.trans hmle, fun b hb' hg => ?_, fun g l h => I.own g l (dropO_iff.1 h).1, fun g l h => I.lt g l (dropO_iff.1 h).1, fun g g' l h h' => I.inj g g' l (dropO_iff.1 h).1 (dropO_iff.1 h').1, fun s hs g hg => dropO_iff.2 ⟨I.pinned s hs g hg, fun e => hs.elim (fun hs => hp (by rw [← e]; exact hs)) fun _ => ((I.shps g j (by have e : s = OB + j := e; rw [← e]; exact hg)).1).elim hp fun h => by unfold OB OB2 at *; omega⟩, fun s => ?_, I.defers, I.tbl, I.wide, I.shps⟩⟩
  · change newM m g (fun p => cs[p]?) b p = some u at h
    unfold newM at h
    split at h
    · rename_i e
      subst e
      rw [cell_of_row w b p cs E' _ h3]
      exact h
    · exact I.sat b p u h
  · rw [← I.old b hb' hg]
    funext p
    show newM m g (fun p => cs[p]?) b p = _
    unfold newM
    rw [if_neg]
    intro e
    subst e
    rcases I.own b _ h1 with h | h
    · exact hg h
    · omega
  · by_cases e : s = d
    · subst e
      rw [upd_same, q5]
      refine .seq k rs _ c g 0 (fun i q => (cs[i * k + q]?).getD undef) q2 q3 (fun hne => ?_) (fun i r hi => hrk r (List.mem_of_getElem? hi)) (fun i r q e hi hq => ?_) (fun i r q e hi hq => ?_)
      · obtain ⟨g', _, _, q1, q6, _⟩ := q4.resolve_left fun h => by have := List.length_pos_iff.2 hne; omega
        have := I.inj _ _ _ h1 q1
        subst this
        exact q6
      · obtain ⟨u, k1, _⟩ := hcell i r q e hi hq
        show newM m g (fun p => cs[p]?) g (0 + i * k + q) = _
        rw [newM_same, Nat.zero_add, k1]
        rfl
      · obtain ⟨u, k1, k2⟩ := hcell i r q e hi hq
        rw [k1]
        exact k2.mono hmle
    · rw [upd_other e]
      by_cases e2 : s = OB + j
      · subst e2
        rw [upd_same]
        exact fun g k h => (dropO_iff.1 h).2 rfl
      · rw [upd_other e2]
        have h := mentA_rep hj (S' := upd (upd S (OB + j) .free) d (.t (.d (.seq k rs)))) (hm s e e2) e2 (fun b l hb hl => ⟨l, by
          rw [upd_other (fun e3 => by subst e3; rw [hS] at hl; cases hl), upd_other (by omega), hl]⟩) (I.slots s)
        have K : Keep (fun _ => False) m w (dropO o j) m' w (dropO o j) := ⟨hmle, fun g1 l1 h _ => by
          funext p
          show newM m g (fun p => cs[p]?) g1 p = _
          unfold newM
          rw [if_neg (hk' g1 l1 h).1], fun _ _ _ _ => rfl, fun _ _ h _ => h, fun _ _ h => h, fun g _ k _ h => ⟨g, k, h⟩, fun g _ _ => .of_eq rfl⟩
        exact RepA.keep K (fun _ => id) (fun b off _ _ => ⟨id, id⟩) h

end

/-! ### What is told turns -/
def dropM (j d : Nat) : SL → SL
  | [] => []
  | (s, x) :: r => (s, bif Nat.blt s OB && (mentA j x && !Nat.beq s d) then .any else x) :: dropM j d r
theorem gt_dropM (j d : Nat) : ∀ (L : SL) (t : Nat), gt (dropM j d L) t = bif Nat.blt t OB && (mentA j (gt L t) && !Nat.beq t d) then .any else gt L t
  | [], t => by show A.any = bif _ && (mentA j .any && _) then .any else .any; cases (Nat.blt t OB && (mentA j .any && !Nat.beq t d)) <;> rfl
  | (s, x) :: r, t => by
    show gt ((s, _) :: dropM j d r) t = _
    rw [gt_cons, gt_cons]
    unfold upd
    by_cases h : t = s
    · subst h; rw [if_pos rfl, if_pos rfl]
    · rw [if_neg h, if_neg h, gt_dropM j d r t]
theorem gt_dropM_hi {j d : Nat} (L : SL) {t : Nat} (h : OB ≤ t) : gt (dropM j d L) t = gt L t := by
  rw [gt_dropM]
  have : Nat.blt t OB = false := by
    cases e : Nat.blt t OB with
    | false => rfl
    | true => have : t < OB := by simpa using e
              omega
  rw [this]
  rfl
/-- No variable of the frame knows object j. -/
def noBoxM (j d : Nat) : SL → Bool
  | [] => true
  | (s, x) :: r => (!Nat.blt s OB || (!x.isBox || !(mentA j x && !Nat.beq s d))) && noBoxM j d r
theorem noBoxM_gt {j d : Nat} : ∀ {L : SL}, noBoxM j d L = true → ∀ t, (Nat.blt t OB && (mentA j (gt L t) && !Nat.beq t d)) = true → (gt L t).isBox = false
  | [], _, t, h => by rfl
  | (s, x) :: r, h, t, hm => by
    unfold noBoxM at h
    rw [Bool.and_eq_true] at h
    rw [gt_cons] at hm ⊢
    unfold upd at hm ⊢
    by_cases e : t = s
    · subst e
      rw [if_pos rfl] at hm ⊢
      have h1 := h.1
      rw [Bool.and_eq_true] at hm
      rw [hm.1, hm.2] at h1
      simpa using h1
    · rw [if_neg e] at hm ⊢
      exact noBoxM_gt h.2 t hm
theorem hx_less {L L' : SL} (hl : Low (gt L)) (hk : gt L' HK = gt L HK) (h : ∀ s, gt L' s = gt L s ∨ (gt L' s = .any ∧ (gt L s).isBox = false)) : Low (gt L') ∧ ∀ s, hx (gt L') s = hx (gt L) s ∨ (hx (gt L') s = .any ∧ (hx (gt L) s).isBox = false) := by
  have hl' : Low (gt L') := fun t ht => by
    rcases h t with e | ⟨e, _⟩
    · rw [e, hl t ht]
    · exact e
  refine ⟨hl', fun s => ?_⟩
  rcases Nat.lt_or_ge s OB2 with h2 | h2
  · rw [hx_lo h2, hx_lo h2]; exact h s
  · refine .inl ?_
    unfold hx
    rw [hl s h2, hl' s h2]
    simp only
    rw [hk]
section
variable {P : Program} {pins : List Nat} {N : Nat} {Q : Exit → SL → Prop} {L : SL}
/-- The heap, if it is told, knows no local object. -/
def ObP (L : SL) : Prop := ∀ t, OB ≤ t → ∀ j, mentA j (gt L t) = false
theorem ObP.nil : ObP [] := fun _ _ _ => rfl
theorem ObP.cons {s : Nat} {x : A} {L : SL} (h : Nat.blt s OB = true ∨ ∀ j, mentA j x = false) (hr : ObP L) : ObP ((s, x) :: L) := fun t ht j => by
  rw [gt_cons]
  unfold upd
  by_cases e : t = s
  · rw [if_pos e]
    subst e
    rcases h with h | h
    · have : t < OB := by simpa using h
      omega
    · exact h j
  · rw [if_neg e]; exact hr t ht j
theorem ob_box {l : List T} (h : noPt l = true) (j : Nat) : mentA j (.box l) = false := by
  show l.any (mentT j) = false
  cases hb : l.any (mentT j) with
  | false => rfl
  | true =>
    obtain ⟨x, h1, h2⟩ := List.any_eq_true.1 hb
    unfold noPt at h
    have h3 := List.all_eq_true.1 h x h1
    cases x <;> first | (cases h2; done) | (cases h3; done)
def heapP (L : SL) : Prop := (gt L HK = .any ∨ ∃ f, gt L HK = .hp f ∧ pureH f) ∧ ObP L
theorem ObP.fgt {L : SL} {j d : Nat} (h : ObP L) : ObP ((OB + j, .free) :: dropM j d L) := .cons (.inr fun _ => rfl) fun t ht i => by
  rw [gt_dropM_hi L ht]
  exact h t ht i
theorem heap_ment {S : Nat → A} (hlo : Low S) (hh : S HK = .any ∨ ∃ f, S HK = .hp f ∧ pureH f) {j : Nat} (k : Nat) : mentA j (hx S (OB2 + k)) = false := by
  rcases hh with e | ⟨f, e, hp⟩
  · unfold hx
    rw [hlo _ (Nat.le_add_right _ _), e]
    simp only
    split <;> rfl
  · rw [ob2_eq, hx_hp hlo e]
    rcases san_cases (f k) with ⟨l, hl⟩ | hl | hl | ⟨l, hl⟩ | ⟨b, u, mE, oE, hl⟩
    · rw [hl]
      have := pure_san hp k l hl
      cases hb : l.any (mentT j) with
      | false => exact hb
      | true =>
        obtain ⟨x, h1, h2⟩ := List.any_eq_true.1 hb
        have h3 := this x h1
        cases x <;> first | (cases h2; done) | (cases h3; done) | (exfalso; simp only [mentT, Bool.and_eq_true] at h2; have h3 : Nat.blt _ OB = false := h3; rw [h2.1] at h3; cases h3)
    · rw [hl]; rfl
    · rw [hl]; rfl
    · rw [hl]; rfl
    · rw [hl]; rfl
/-- A slice that was made becomes data. -/
theorem c_frz {c : Code} {L' : SL} (d j : Nat) {E k n : Nat} {l : List T} {rs : List (List D)} (hd : gt L d = .t (.view j 0 E k n)) (hb : gt L (OB + j) = .box l) (hn : n = rs.length) (hl : l = (rs.flatMap id).map .d) (hrk : ∀ r ∈ rs, r.length = k)
    (hc : (Nat.blt d OB && Nat.blt (j + 1) OB && !pins.contains (OB + j) && !pins.contains d && Nat.blt 0 k && noBoxM j d L) = true) (hh : heapP L) (hL : (d, .t (.d (.seq k rs))) :: (OB + j, .free) :: dropM j d L = L') (h : CodeOK P pins N c Q L') : CodeOK P pins N c Q L := by
  subst hL hn
  simp only [Bool.and_eq_true, Bool.not_eq_true', List.contains_eq_mem, decide_eq_false_iff_not] at hc
  obtain ⟨⟨⟨⟨⟨c1, c2⟩, c3⟩, c4⟩, c5⟩, c6⟩ := hc
  have c1 : d < OB := by simpa using c1
  have c2 : j + 1 < OB := by simpa using c2
  have c5 : 0 < k := by simpa using c5
  intro Fe ne hF w0 m0 o0 G a w hS
  obtain ⟨hN, hlo, m, o, I⟩ := hS
  have hjd : OB + j ≠ d := by omega
  have hL2 : ∀ s, gt (dropM j d L) s = gt L s ∨ (gt (dropM j d L) s = .any ∧ (gt L s).isBox = false) := fun s => by
    rw [gt_dropM]
    cases hm : (Nat.blt s OB && (mentA j (gt L s) && !Nat.beq s d)) with
    | true => exact .inr ⟨rfl, noBoxM_gt c6 s hm⟩
    | false => exact .inl rfl
  have hk2 : gt (dropM j d L) HK = gt L HK := gt_dropM_hi L (by unfold HK OB; omega)
  obtain ⟨hlo2, hx2⟩ := hx_less hlo hk2 hL2
  have I2 := I.less hx2
  have hdd : gt (dropM j d L) d = .t (.view j 0 E k rs.length) := by
    rw [gt_dropM, hd]
    simp
  have hbb : gt (dropM j d L) (OB + j) = .box l := by
    rcases hL2 (OB + j) with e | ⟨_, e⟩
    · rw [e, hb]
    · rw [hb] at e; cases e
  have hm : ∀ s, s ≠ d → s ≠ OB + j → mentA j (hx (gt (dropM j d L)) s) = false := fun s h1 h2 => by
    rcases Nat.lt_or_ge s OB2 with h3 | h3
    · rw [hx_lo h3]
      rcases Nat.lt_or_ge s OB with h4 | h4
      · rw [gt_dropM]
        have hsd : Nat.beq s d = false := by
          cases hb : Nat.beq s d with
          | false => rfl
          | true => exact absurd (Nat.eq_of_beq_eq_true hb) h1
        have hso : Nat.blt s OB = true := by simpa using h4
        rw [hsd, hso]
        cases hm : mentA j (gt L s) with
        | true => rfl
        | false => exact hm
      · rw [gt_dropM_hi L h4]; exact hh.2 s h4 j
    · obtain ⟨k, rfl⟩ : ∃ k, s = OB2 + k := ⟨s - OB2, by omega⟩
      exact heap_ment hlo2 (by rw [hk2]; exact hh.1) k
  obtain ⟨m', o', J⟩ := I2.frz (j := j) (d := d) (E := E) (k := k) (l := l) (rs := rs) (by omega) c1 c3 c4 (hx_of hdd (by simp)) (hx_of hbb (by simp)) hm c5 hrk hl
  have e1 : OB + j < OB2 := by unfold OB OB2 at *; omega
  have e2 : OB + j ≠ HK := by unfold HK; unfold OB at *; omega
  refine h Fe ne hF w0 m0 o0 G a w ⟨hN, ?_, m', o', ?_⟩
  · rw [gt_cons, gt_cons]
    exact (hlo2.upd e1).upd (lt2 c1)
  · rw [gt_cons, gt_cons, hx_updL (lt2 c1) (by unfold HK; unfold OB at c1; omega), hx_updL e1 e2]
    exact J
end
end Go.Proofs.Ytjomnccladjpgaa

/-
  The rules of objects, as a walk uses them.
-/
namespace Go.Proofs.Ytjomnccladjpgaa
open Go Go.RowKit
set_option linter.unusedVariables false

/-! ### A local object becomes the heap's, behind an operation -/
def renL (j c : Nat) : SL → SL
  | [] => []
  | (s, x) :: r => (s, rnA j c x) :: renL j c r
theorem gt_renL (j c : Nat) : ∀ (L : SL) (t : Nat), gt (renL j c L) t = rnA j c (gt L t)
  | [], t => rfl
  | (s, x) :: r, t => by
    show gt ((s, _) :: renL j c r) t = _
    rw [gt_cons, gt_cons]
    unfold upd
    by_cases h : t = s
    · subst h; rw [if_pos rfl, if_pos rfl]
    · rw [if_neg h, if_neg h, gt_renL j c r t]
theorem san_rn (j c : Nat) (x : A) : san (rnA j c x) = rnA j c (san x) := by
  cases x with
  | ref b off => show san (bif Nat.beq b (OB + j) then A.t (.hpt c off) else .ref b off) = .any; cases Nat.beq b (OB + j) <;> rfl
  | _ => rfl
section
variable {P : Program} {pins : List Nat} {N : Nat} {S M : Nat → A} {op : Oper} {e : Eff} {d c : Nat} {f f' : Nat → A} {L : SL}
theorem OpH.pub {L1 : SL} {f1 f2 : Nat → A} {j : Nat} {la : List T} (h : OpH P pins N op S (gt L1)) (hk : gt L1 HK = .hp f1) (hb : gt L1 (OB + j) = .box la) (hc : (Nat.blt (j + 1) OB && !pins.contains (OB + j)) = true) (c6 : noPt la = true) (hfree : f1 c = .free) (hf2 : ∀ k, f2 k = if k = c then .box la else rnA j c (f1 k)) :
    OpH P pins N op S (gt ((HK, .hp f2) :: (OB + j, .free) :: renL j c L1)) := by
  simp only [Bool.and_eq_true, Bool.not_eq_true', List.contains_eq_mem, decide_eq_false_iff_not] at hc
  obtain ⟨c2, c3⟩ := hc
  have c2 : j + 1 < OB := by simpa using c2
  have e1 : OB + j < OB2 := by unfold OB OB2 at *; omega
  have e2 : OB + j ≠ HK := by unfold HK; unfold OB at *; omega
  intro hN hl
  obtain ⟨h, hl1⟩ := h hN hl
  have hlr : Low (gt (renL j c L1)) := fun t ht => by rw [gt_renL, hl1 t ht]; rfl
  have hl2 : Low (gt ((HK, .hp f2) :: (OB + j, .free) :: renL j c L1)) := by
    rw [gt_cons, gt_cons]
    exact (hlr.upd e1).upd hk_lt
  refine ⟨?_, hl2⟩
  have he : hx (gt ((HK, .hp f2) :: (OB + j, .free) :: renL j c L1)) = upd (fun t => if t = OB + j then .free else if t = OB + (OB + c) then .box la else rnA j c (hx (gt L1) t)) HK (.hp f2) := by
    have hkk : gt ((HK, .hp f2) :: (OB + j, .free) :: renL j c L1) HK = .hp f2 := by rw [gt_cons, upd_same]
    funext t
    by_cases e : t = HK
    · subst e
      rw [upd_same]
      exact hx_of hkk (by simp)
    · rw [upd_other e]
      rcases Nat.lt_or_ge t OB2 with h2 | h2
      · rw [hx_lo h2, gt_cons, upd_other e, gt_cons]
        unfold upd
        by_cases e3 : t = OB + j
        · rw [if_pos e3, if_pos e3]
        · rw [if_neg e3, if_neg e3, if_neg (by unfold OB OB2 at *; omega), gt_renL, hx_lo h2]
      · obtain ⟨k, rfl⟩ : ∃ k, t = OB2 + k := ⟨t - OB2, by omega⟩
        rw [if_neg (by unfold OB OB2 at *; omega), ob2_eq, hx_hp hl2 hkk, hf2]
        by_cases e3 : k = c
        · subst e3; rw [if_pos rfl, if_pos rfl]; rfl
        · rw [if_neg e3, if_neg (by omega), hx_hp hl1 hk, san_rn]
  rw [he]
  intro w0 m0 o0 G a w m o hNa I K Q hK
  refine h w0 m0 o0 G a w m o hNa I K Q fun a' w' m' o' hN' I' => ?_
  obtain ⟨o2, J⟩ := I'.pub (j := j) (c := c) (la := la) (by omega) c3 (by rw [hx_hp hl1 hk, hfree]; rfl) (hx_of hb (by simp)) (rnT_flat c6) (S' := fun t => if t = OB + j then .free else if t = OB + (OB + c) then .box la else rnA j c (hx (gt L1) t)) (if_pos rfl) (by
    show (if OB + (OB + c) = OB + j then _ else _) = _
    rw [if_neg (by omega), if_pos rfl]) (fun t h1 h2 => by
    show (if t = OB + j then _ else _) = _
    rw [if_neg h1, if_neg h2])
  refine hK a' w' m' o2 hN' (J.hk (f := f1) ?_ f2)
  show (if HK = OB + j then _ else if HK = OB + (OB + c) then _ else rnA j c (hx (gt L1) HK)) = _
  rw [if_neg (Ne.symm e2), if_neg (by unfold HK OB; omega), hx_of hk (by simp)]
  rfl

/-! ### Local objects -/
theorem lo_of {j : Nat} (h : Nat.blt (j + 1) OB = true) : OB + j < OB2 ∧ OB + j ≠ HK ∧ j < OB := by
  have h : j + 1 < OB := by simpa using h
  refine ⟨by unfold OB OB2 at *; omega, by unfold HK; unfold OB at *; omega, by omega⟩
theorem h_mkl (hM : Mk M S) {j t e q E : Nat} {xn xc : Operand} {kl kc : IntKind} {n : Int} {ie : TypeInfo} {z : Value} {c0 l : List T} (hop : op.op = .makeSlice t xn xc) (hn : vO M xn = some (.int kl n)) (hc : vO M xc = some (.int kc n)) (hu : P.underlying t = some (.slice e)) (hie : P.info? e = some ie) (hz : ie.zero = some z)
    (hc0 : cellsT (litA z) = some c0) (hsz : c0.length = ie.size) (hE : ie.size = E) (hq : mkI ie.bytes n = some q) (hl : fl (fun _ => c0) (List.replicate q ()) = l) (hd : op.dst = some d) (hok : okD N pins S d = true) (hj : Nat.blt (j + 1) OB = true) (hfree : M (OB + j) = .free) :
    OpH P pins N op S (app S [(OB + j, .box l), (d, .t (.view j 0 e E q))]) := by
  subst hl hE
  intro hN hlo
  obtain ⟨e1, e2, e3⟩ := lo_of hj
  have hdO := okD_lo hN hok
  have hfr : hx S (OB + j) = .free := by
    rcases hM (OB + j) with e | e
    · rw [e] at hfree; cases hfree
    · rw [e] at hfree; exact hx_of hfree (by simp)
  refine ⟨?_, (hlo.upd e1).upd (lt2 hdO)⟩
  show OpOK P pins N op (hx S) (hx (upd (upd S (OB + j) _) d _))
  rw [hx_updL (lt2 hdO) (by unfold HK; unfold OB at hdO; omega), hx_updL e1 e2]
  exact ok_make hM.hx hop hn hc hu hie hz hc0 hsz hq hd (okD_hx hN hok) (by simpa using hdO) hfr
theorem h_lix (hM : Mk M S) {j off E k n t e : Nat} {x i : Operand} {ki : IntKind} {z : Int} {ie : TypeInfo} {y : A} (hop : op.op = .indexAddr t x i) (hx : cpO M x = .t (.view j off E k n)) (hi : vO M i = some (.int ki z)) (hu : P.underlying t = some (.slice e)) (hie : P.info? e = some ie) (hz : 0 ≤ z ∧ z < n) (hy : A.ref (OB + j) (off + z.toNat * ie.size) = y) (hd : op.dst = some d) (hok : okD N pins S d = true) : OpH P pins N op S (app S [(d, y)]) := by
  subst hy
  exact .of (e := [(d, _)]) fun hN => ⟨ok_ixv hM.hx hop hx hi hu hie hz hd (okD_hx hN hok), eff_1 (okD_lo hN hok)⟩
theorem h_lst (hM : Mk M S) {t b off : Nat} {x y : Operand} (hop : op.op = .store t x y) (hd : op.dst = none) {i : TypeInfo} (hi : P.info? t = some i) (hx : cpO M x = .ref b off) {l l' : List T} (hb : M b = .box l) {q : List T} (hc : cellsP (cpO M y) = some q) (hsz : q.length = i.size) (hle : off + i.size ≤ l.length) (hl' : splice l off q = l') : OpH P pins N op S (app S [(b, .box l')]) := by
  subst hl'
  refine .of (e := [(b, _)]) fun _ => ⟨ok_store_d hM.hx hop hd hi hx hb hc hsz hle, fun z hz => ?_⟩
  simp at hz
  subst hz
  exact .inr ⟨stb_of hM hb rfl, rfl⟩
theorem h_lln (hM : Mk M S) {j off E k n t e : Nat} {x : Operand} {y : A} (hop : op.op = .call { callee := .builtin .len, args := #[x], argTypes := #[t] }) (hx : cpO M x = .t (.view j off E k n)) (hu : P.underlying t = some (.slice e)) (hy : A.t (.d (.lit (.int .i64 n))) = y) (hd : op.dst = some d) (hok : okD N pins S d = true) : OpH P pins N op S (app S [(d, y)]) := by
  subst hy
  exact .of (e := [(d, _)]) fun hN => ⟨ok_lnv hM.hx hop hx hu hd (okD_hx hN hok), eff_1 (okD_lo hN hok)⟩
theorem h_lsl (hM : Mk M S) {j off E k n t e : Nat} {x : Operand} {lo hi : Option Operand} {l0 h0 : Option Int} {ie : TypeInfo} {off' n' : Nat} (hop : op.op = .slice t x lo hi none) (hx : cpO M x = .t (.view j off E k n)) (hk : ie.size = k) (hlo : bndO M lo = some l0) (hhi : bndO M hi = some h0) (hu : P.underlying t = some (.slice e)) (hie : P.info? e = some ie)
    (hc : 0 ≤ l0.getD 0 ∧ l0.getD 0 ≤ h0.getD n ∧ h0.getD n ≤ n) (ho : off + (l0.getD 0).toNat * ie.size = off') (hn' : (h0.getD n).toNat - (l0.getD 0).toNat = n') (hd : op.dst = some d) (hok : okD N pins S d = true) : OpH P pins N op S (app S [(d, .t (.view j off' E k n'))]) :=
  .of (e := [(d, _)]) fun hN => ⟨ok_slv hM.hx hop hx hk hlo hhi hu hie hc ho hn' hd (okD_hx hN hok), eff_1 (okD_lo hN hok)⟩
end

/-! ### In a region that draws its order -/
section
variable {P : Program} {pins : List Nat} {N : Nat} {l0 : List Oper} {Q : SL → Prop} {r : List Oper} {op : Oper} {L : SL} {acc : List (List Nat × List Nat)} {T : List Nat}
theorem d_h {e : Eff} {ks : List Nat} {L' : SL} (hT : frcNs (HK :: touch l0.toArray (gt L) op) some = some T) (hy : dyes l0 op L T) (hks : keys e = ks) (hk : ks.all T.contains = true)
    (h : ∀ S', Mk (mask T (gt L)) S' → S' HK = gt L HK → (∀ d, T.contains d = true → okD N pins (gt L) d = true → okD N pins S' d = true) → OpH P pins N op S' (app S' e)) (hL : setL L e = L') (k : DOK P pins N l0 Q r ((T, ks) :: acc) L') : DOK P pins N l0 Q (op :: r) acc L := by
  have hT := touch_of hT
  subst hL hks
  have h' : ∀ S', (∀ t ∈ T, S' t = gt L t) → OpH P pins N op S' (app S' e) := fun S' hS => h S' (mask_Mk hS) (hS HK (by rw [← hT]; exact .head _)) fun d hd hok => by
    unfold okD at hok ⊢
    rw [hS d (by simpa using hd)]
    exact hok
  refine ⟨T, e, ⟨all_T hk, ?_⟩, k⟩
  rcases hy with hg | ⟨j, want, t, c, h1, h2, h3, h4, h5⟩
  · exact .inl ⟨hg, h'⟩
  · exact .inr ⟨j, want, t, h1, h2, by simpa using h3, .inl ⟨by rw [h4, h5], h'⟩⟩
theorem d_hm (X : List Nat) {e : Eff} {ks : List Nat} {L' : SL} (hT : frcNs (HK :: (X ++ touch l0.toArray (gt L) op)) some = some T) (hy : dyes l0 op L T) (hks : keys e = ks) (hk : ks.all T.contains = true)
    (h : ∀ S', Mk (mask T (gt L)) S' → S' HK = gt L HK → (∀ d, T.contains d = true → S' d = gt L d) → (∀ d, T.contains d = true → okD N pins (gt L) d = true → okD N pins S' d = true) → OpH P pins N op S' (app S' e)) (hL : setL L e = L') (k : DOK P pins N l0 Q r ((T, ks) :: acc) L') : DOK P pins N l0 Q (op :: r) acc L := by
  have hT := touch_of hT
  subst hL hks
  have h' : ∀ S', (∀ t ∈ T, S' t = gt L t) → OpH P pins N op S' (app S' e) := fun S' hS => h S' (mask_Mk hS) (hS HK (by rw [← hT]; exact .head _)) (fun d hd => hS d (by simpa using hd)) fun d hd hok => by
    unfold okD at hok ⊢
    rw [hS d (by simpa using hd)]
    exact hok
  refine ⟨T, e, ⟨all_T hk, ?_⟩, k⟩
  rcases hy with hg | ⟨j, want, t, c, h1, h2, h3, h4, h5⟩
  · exact .inl ⟨hg, h'⟩
  · exact .inr ⟨j, want, t, h1, h2, by simpa using h3, .inl ⟨by rw [h4, h5], h'⟩⟩theorem cons_eq {α : Type} {a b : α} {l l' : List α} (h : a = b) (k : l = l') : a :: l = b :: l' := by rw [h, k]

end
end Go.Proofs.Ytjomnccladjpgaa

/-
  The heap as models tell it; rules for walks that a program writes, of functions that read and write the heap.
-/
namespace Go.Proofs.Ytjomnccladjpgaa
open Go Go.RowKit
set_option linter.unusedVariables false

/-! ### Addresses in models: a number, or none -/
def ptM {α : Type} (p : Option Nat) (a : Option α) (b : Nat → Option α) : Option α := match p with
  | none => a
  | some i => b i
theorem ptM_some {α : Type} {p : Option Nat} {a : Option α} {b : Nat → Option α} {r : α} (h : ptM p a b = some r) : (p = none ∧ a = some r) ∨ ∃ i, p = some i ∧ b i = some r := by
  cases p with
  | none => exact .inl ⟨rfl, h⟩
  | some i => exact .inr ⟨i, rfl, h⟩
/-- Two lengths are the same. -/
def lenI (n m : Nat) : Option Unit := if n = m then some () else none
theorem lenI_eq {n m : Nat} {u : Unit} (h : lenI n m = some u) : n = m := by
  unfold lenI at h
  by_cases e : n = m
  · exact e
  · rw [if_neg e] at h; cases h
/-- The number under which the heap keeps object i of kind t. -/
def cd (t i : Nat) : Nat := i * 64 + t
theorem cd_mod {t i : Nat} (h : t < 64) : cd t i % 64 = t := by unfold cd; omega
theorem cd_div {t i : Nat} (h : t < 64) : cd t i / 64 = i := by unfold cd; omega
/-- An address, as a cell or a slot holds it. -/
def ptT (t : Nat) : Option Nat → T
  | none => .d (.lit (.pointer none))
  | some i => .hpt (cd t i) 0
theorem ptT_some {t i : Nat} {p : Option Nat} (h : p = some i) : ptT t p = .hpt (cd t i) 0 := by rw [h]; rfl
theorem ptT_loc (t : Nat) (p : Option Nat) : (ptT t p).isLoc = false := by cases p <;> rfl
theorem ptT_pt {τ : List Nat} (t : Nat) (p : Option Nat) : PtR τ (ptT t p) (ptT t p) := by
  cases p with
  | none => exact .flat rfl
  | some i => exact .hpt _ _
theorem ptT_arg {σ : List Nat} (t : Nat) (p : Option Nat) : ArgH σ (.t (ptT t p)) (.t (ptT t p)) := by
  cases p with
  | none => exact .plain (.refl _) rfl
  | some i => exact .hpt _ _
theorem ptT_cp (t : Nat) (p : Option Nat) : cpT (ptT t p) = ptT t p := by cases p <;> rfl
theorem cp_nil : List.map cpT [] = [] := rfl
theorem cp_cons {a a' : T} {l l' : List T} (h : cpT a = a') (hl : List.map cpT l = l') : List.map cpT (a :: l) = a' :: l' := by rw [List.map_cons, h, hl]

theorem cpO_pt {M : Nat → A} {s t : Nat} {p : Option Nat} (h : M s = .t (ptT t p)) : cpO M (.tmp s) = .t (ptT t p) := by
  unfold cpO
  simp only [h]
  cases p <;> rfl
theorem argPt {M : Nat → A} {σ : List Nat} {s t : Nat} {p : Option Nat} (h : M s = .t (ptT t p)) : ArgH σ (cpO M (.tmp s)) (.t (ptT t p)) := by rw [cpO_pt h]; exact ptT_arg t p
theorem norH_pt (t : Nat) (p : Option Nat) : norH (ptT t p) = some (.t (ptT t p)) := by cases p <;> rfl
theorem pn_none {M : Nat → A} {s t : Nat} {p : Option Nat} (h : M s = .t (ptT t p)) (hp : p = none) : ptrN (cpO M (.tmp s)) = some true := by rw [cpO_pt h, hp]; rfl
theorem pn_some {M : Nat → A} {s t i : Nat} {p : Option Nat} (h : M s = .t (ptT t p)) (hp : p = some i) : ptrN (cpO M (.tmp s)) = some false := by rw [cpO_pt h, hp]; rfl
theorem pt_eq_some {t i : Nat} {p : Option Nat} (h : p = some i) : A.t (ptT t p) = .t (.hpt (cd t i) 0) := by rw [h]; rfl
theorem pt_eq_none {t : Nat} {p : Option Nat} (h : p = none) : A.t (ptT t p) = .t (.d (.lit (.pointer none))) := by rw [h]; rfl

/-! ### The heap, by kind and number -/
def hpF (g : Nat → Nat → A) : Nat → A := fun c => g (c % 64) (c / 64)
theorem hpF_cd {g : Nat → Nat → A} {t i : Nat} (h : t < 64) : hpF g (cd t i) = g t i := by unfold hpF; rw [cd_mod h, cd_div h]
theorem hpF_upd {g g' : Nat → Nat → A} {t i : Nat} {x : A} (ht : t < 64) (h1 : g' t i = x) (h2 : ∀ t' j, ¬ (t' = t ∧ j = i) → g' t' j = g t' j) : hpF g' = updF (hpF g) (cd t i) x := by
  funext c
  unfold hpF updF
  by_cases e : c = cd t i
  · subst e
    rw [if_pos rfl, cd_mod ht, cd_div ht, h1]
  · rw [if_neg e]
    refine h2 _ _ fun ⟨e1, e2⟩ => e ?_
    unfold cd
    omega
theorem hpF_pure {g : Nat → Nat → A} (h : ∀ t i l, g t i = .box l → ∀ x ∈ l, x.isLoc = false) : pureH (hpF g) := fun c l hl => h _ _ l hl
theorem rn_pure {x : A} (h : ∀ l, x = .box l → ∀ y ∈ l, y.isLoc = false) (hx : san x = x) (j c : Nat) : rnA j c x = x := by
  cases x with
  | box l =>
    show A.box (l.map (rnT j c)) = _
    congr 1
    conv => rhs; rw [← List.map_id l]
    refine List.map_congr_left fun y hy => ?_
    have := h l rfl y hy
    cases y <;> first | rfl | (cases this; done) | (rename_i i; have this : Nat.blt i OB = false := this; show (bif Nat.blt i OB && Nat.beq i j then T.mpt (OB + c) else .mpt i) = _; rw [this]; rfl)
  | free => rfl
  | mp l => rfl
  | any => rfl
  | rcd b u mE oE => rfl
  | _ => cases hx
/-- Object i of an arena, as cells. -/
def arA {α : Type} (l : List α) (f : Nat → α → List T) (i : Nat) : A := match l[i]? with
  | some x => .box (f i x)
  | none => .free
section
variable {α : Type} {l : List α} {f : Nat → α → List T} {i : Nat} {x x' : α}
theorem arA_get (h : l[i]? = some x) : arA l f i = .box (f i x) := by unfold arA; rw [h]
theorem arA_ne {j : Nat} (h : j ≠ i) : arA (l.set i x') f j = arA l f j := by unfold arA; rw [List.getElem?_set_ne (Ne.symm h)]
theorem set_get (h : l[i]? = some x) : (l.set i x')[i]? = some x' := by
  rw [List.getElem?_set_self (List.getElem?_eq_some_iff.1 h).1]
theorem arA_eq (h : l[i]? = some x) : arA (l.set i x') f i = .box (f i x') := arA_get (set_get h)
theorem arA_free : arA l f l.length = .free := by unfold arA; rw [List.getElem?_eq_none (Nat.le_refl _)]
theorem arA_new : arA (l ++ [x]) f l.length = .box (f l.length x) := by
  unfold arA
  rw [List.getElem?_append_right (Nat.le_refl _)]
  simp
theorem arA_old {j : Nat} (h : j ≠ l.length) : arA (l ++ [x]) f j = arA l f j := by
  unfold arA
  rcases Nat.lt_or_ge j l.length with h1 | h1
  · rw [List.getElem?_append_left h1]
  · rw [List.getElem?_eq_none (by simp; omega), List.getElem?_eq_none h1]
theorem arA_pure (h : ∀ i x, ∀ y ∈ f i x, y.isLoc = false) (q : List T) (e : arA l f i = .box q) : ∀ y ∈ q, y.isLoc = false := by
  unfold arA at e
  split at e
  · injection e with e; subst e; exact h _ _
  · cases e
end

theorem san_arA {α : Type} (l : List α) (f : Nat → α → List T) (i : Nat) : san (arA l f i) = arA l f i := by unfold arA; split <;> rfl
/-! ### Rows as cells -/
def dT {α : Type} (c : α → List D) (a : α) : List T := (c a).map T.d
theorem dT_len {α : Type} {c : α → List D} {k : Nat} (h : ∀ a, (c a).length = k) (a : α) : (dT c a).length = k := by unfold dT; rw [List.length_map, h]
theorem fl_flat {α : Type} (c : α → List D) (l : List α) : fl (dT c) l = ((l.map c).flatMap id).map T.d := by
  unfold fl dT
  induction l with
  | nil => rfl
  | cons a r ih => simp only [List.flatMap_cons, List.map_cons, List.map_append, id_eq, ih]
theorem fl_loc {α : Type} (c : α → List D) (l : List α) : ∀ y ∈ fl (dT c) l, y.isLoc = false := by
  intro y hy
  obtain ⟨a, _, h⟩ := List.mem_flatMap.1 hy
  obtain ⟨d, _, rfl⟩ := List.mem_map.1 h
  rfl
theorem fl_noPt {α : Type} (c : α → List D) (l : List α) : noPt (fl (dT c) l) = true := by
  refine List.all_eq_true.2 fun y hy => ?_
  obtain ⟨a, _, h⟩ := List.mem_flatMap.1 hy
  obtain ⟨d, _, rfl⟩ := List.mem_map.1 h
  rfl
theorem fl_rep {α : Type} {c : α → List D} {c0 : List T} {z : α} (h : dT c z = c0) (q : Nat) : fl (fun _ => c0) (List.replicate q ()) = fl (dT c) (List.replicate q z) := by
  unfold fl
  induction q with
  | zero => rfl
  | succ q ih => rw [List.replicate_succ, List.replicate_succ, List.flatMap_cons, List.flatMap_cons, ih, h]
theorem map_row {α : Type} {c : α → List D} {k : Nat} (h : ∀ a, (c a).length = k) (l : List α) : ∀ r ∈ l.map c, r.length = k := by
  intro r hr
  obtain ⟨a, _, rfl⟩ := List.mem_map.1 hr
  exact h a
theorem fl_put {α : Type} {c : α → List D} {l : List α} {z : Int} {y : α} (h : idx l z = some y) (v : α) (hc : ∀ a, (c a).length = 1) {q : List T} (hq : dT c v = q) : splice (fl (dT c) l) (0 + z.toNat * 1) q = fl (dT c) (l.set z.toNat v) := by
  have hl : q.length = 1 := by rw [← hq]; exact dT_len hc v
  have := fl_splice (c := dT c) (k := 1) (dT_len hc) (idx_lt h).2.2 (q := 0) (b := v) (d := q) (by
    unfold splice
    rw [hq, hl, List.take_zero, List.nil_append, List.drop_of_length_le (by rw [dT_len hc]; omega), List.append_nil]) (by omega)
  rw [Nat.zero_add]
  rw [Nat.add_zero] at this
  exact this
theorem fl_room {α : Type} {c : α → List D} {l : List α} {z : Int} {y : α} (h : idx l z = some y) (hc : ∀ a, (c a).length = 1) : 0 + z.toNat * 1 + 1 ≤ (fl (dT c) l).length := by
  have h1 := idx_lt h
  rw [fl_len (dT_len hc)]
  omega
theorem idxV {α : Type} {l : List α} {z : Int} {y : α} {n : Nat} (hn : l.length = n) (h : idx l z = some y) : 0 ≤ z ∧ z < (n : Int) := by
  subst hn
  exact ⟨(idx_lt h).1, (idx_lt h).2.1⟩

/-! ### Operations -/
section
variable {P : Program} {pins : List Nat} {N : Nat} {S M : Nat → A} {op : Oper} {d c : Nat}
theorem ok_hnc (hM : Mk M S) {off : Nat} {x : Operand} {z : T} (hop : op.op = .nilCheck x) (hx : cpO M x = .t z) (hz : z = .hpt c off) (hd : op.dst = some d) (hok : okD N pins S d = true) : OpOK P pins N op S (upd S d (.t (.hpt c off))) := by
  subst hz
  refine ok_val' hM hd hok ?_
  rw [hop]
  show (match cpO M x with | .imm l => some (A.imm l) | .ref b off => some (.ref b off) | .t (.hpt c off) => some (.t (.hpt c off)) | _ => none) = _
  rw [hx]
theorem h_nc (hM : Mk M S) {off : Nat} {x : Operand} {z : T} (hop : op.op = .nilCheck x) (hx : cpO M x = .t z) (hz : z = .hpt c off) (hd : op.dst = some d) (hok : okD N pins S d = true) : OpH P pins N op S (app S [(d, .t (.hpt c off))]) :=
  .of (e := [(d, _)]) fun hN => ⟨ok_hnc hM.hx hop hx hz hd (okD_hx hN hok), eff_1 (okD_lo hN hok)⟩
/-- (the address is told by a number, or none) -/
theorem h_mv (hM : Mk M S) {x : Operand} {y : A} (hop : op.op = .move x ∨ op.op = .assign x) (hx : cpO M x = y) (hd : op.dst = some d) (hok : okD N pins S d = true) : OpH P pins N op S (app S [(d, y)]) := by
  refine .of (e := [(d, _)]) fun hN => ⟨ok_val' hM.hx hd (okD_hx hN hok) ?_, eff_1 (okD_lo hN hok)⟩
  rcases hop with e | e <;> (rw [e]; show some (cpO M x) = _; rw [hx])
end

/-! ### Loops and joins; objects that are forgotten there -/
def fgtL : List Nat → SL → SL
  | [], L => L
  | j :: r, L => fgtL r ((OB + j, .free) :: dropM j HK L)
def fgtB (pins : List Nat) : List Nat → SL → Bool
  | [], _ => true
  | j :: r, L => Nat.blt (j + 1) OB && !pins.contains (OB + j) && noBoxM j HK L && fgtB pins r ((OB + j, .free) :: dropM j HK L)
section
variable {P : Program} {pins : List Nat} {N : Nat} {Q : Exit → SL → Prop} {L L' : SL}
theorem St.fgt1 {w0 : World} {m0 : Mem} {o0 : OwnM} {G : GD} {a : Act} {w : World} (hS : St w0 m0 o0 G pins N L a w) {j : Nat} (hc : (Nat.blt (j + 1) OB && !pins.contains (OB + j) && noBoxM j HK L) = true) (hh : heapP L) : St w0 m0 o0 G pins N ((OB + j, .free) :: dropM j HK L) a w := by
  simp only [Bool.and_eq_true, Bool.not_eq_true', List.contains_eq_mem, decide_eq_false_iff_not] at hc
  obtain ⟨⟨c2, c3⟩, c6⟩ := hc
  have c2 : j + 1 < OB := by simpa using c2
  obtain ⟨hN, hlo, m, o, I⟩ := hS
  have hL2 : ∀ s, gt (dropM j HK L) s = gt L s ∨ (gt (dropM j HK L) s = .any ∧ (gt L s).isBox = false) := fun s => by
    rw [gt_dropM]
    cases hm : (Nat.blt s OB && (mentA j (gt L s) && !Nat.beq s HK)) with
    | true => exact .inr ⟨rfl, noBoxM_gt c6 s hm⟩
    | false => exact .inl rfl
  have hk2 : gt (dropM j HK L) HK = gt L HK := gt_dropM_hi L (by unfold HK OB; omega)
  obtain ⟨hlo2, hx2⟩ := hx_less hlo hk2 hL2
  have I2 := I.less hx2
  have hm : ∀ s, mentA j (hx (gt (dropM j HK L)) s) = false := fun s => by
    rcases Nat.lt_or_ge s OB2 with h3 | h3
    · rw [hx_lo h3]
      rcases Nat.lt_or_ge s OB with h4 | h4
      · rw [gt_dropM]
        have hsd : Nat.beq s HK = false := by
          cases hb : Nat.beq s HK with
          | false => rfl
          | true => have := Nat.eq_of_beq_eq_true hb
                    unfold HK at this; unfold OB at h4
                    omega
        have hso : Nat.blt s OB = true := by simpa using h4
        rw [hsd, hso]
        cases hm : mentA j (gt L s) with
        | true => rfl
        | false => exact hm
      · rw [gt_dropM_hi L h4]; exact hh.2 s h4 j
    · obtain ⟨k, rfl⟩ : ∃ k, s = OB2 + k := ⟨s - OB2, by omega⟩
      exact heap_ment hlo2 (by rw [hk2]; exact hh.1) k
  have e1 : OB + j < OB2 := by unfold OB OB2 at *; omega
  have e2 : OB + j ≠ HK := by unfold HK; unfold OB at *; omega
  refine ⟨hN, ?_, m, dropO o j, ?_⟩
  · rw [gt_cons]
    exact hlo2.upd e1
  · rw [gt_cons, hx_updL e1 e2]
    exact I2.forget (by omega) c3 hm
theorem heapP_fgt {j : Nat} (hj : Nat.blt (j + 1) OB = true) (hh : heapP L) : heapP ((OB + j, .free) :: dropM j HK L) := by
  have h2 := (lo_of hj).2.1
  have e : gt ((OB + j, .free) :: dropM j HK L) HK = gt L HK := by
    rw [gt_cons, upd_other (Ne.symm h2), gt_dropM_hi L (by unfold HK OB; omega)]
  unfold heapP
  rw [e]
  exact ⟨hh.1, hh.2.fgt⟩
theorem St.fgt {w0 : World} {m0 : Mem} {o0 : OwnM} {G : GD} {a : Act} {w : World} (js : List Nat) : ∀ (L : SL), St w0 m0 o0 G pins N L a w → fgtB pins js L = true → heapP L → St w0 m0 o0 G pins N (fgtL js L) a w := by
  induction js with
  | nil => exact fun L h _ _ => h
  | cons j r ih =>
    intro L h hb hh
    unfold fgtB at hb
    rw [Bool.and_eq_true] at hb
    have hj : Nat.blt (j + 1) OB = true := by have := hb.1; simp only [Bool.and_eq_true] at this; exact this.1.1
    exact ih _ (h.fgt1 hb.1 hh) hb.2 (heapP_fgt hj hh)
/-- A loop, as its model goes. -/
theorem c_fuelH {X : Type} {c : Code} (F : X → SL) (M : Nat → X → Prop) (n0 : Nat) (x0 : X) (js0 : List Nat) (h0 : M n0 x0) (hb : fgtB pins js0 L = true) (hh : heapP L) (hw : WkS (fgtL js0 L) (F x0)) (hr : noRefs (F x0) = true)
    (round : ∀ n x, M n x → CodeOK P pins N c (thenQ (fun L' => ∃ n' x' js, n' < n ∧ M n' x' ∧ fgtB pins js L' = true ∧ heapP L' ∧ WkS (fgtL js L') (F x') ∧ noRefs (F x') = true) Q) (F x)) : CodeOK P pins N (.loop c) Q L := by
  intro Fe ne hF w0 m0 o0 G a w hS
  refine c_loopR (L := F x0) (fun n L => ∃ x, M n x ∧ L = F x) n0 ⟨x0, h0, rfl⟩ ?_ Fe ne hF w0 m0 o0 G a w (St.weaken (hS.fgt _ _ hb hh) hw hr)
  rintro n L ⟨x, hI, rfl⟩
  intro Fe ne hF w0 m0 o0 G a w hS
  refine wpIn_mono (round n x hI Fe ne hF w0 m0 o0 G a w hS) ?_
  rintro e a' w' ⟨L', hq, hS'⟩
  refine ⟨L', ?_, hS'⟩
  cases e with
  | normal =>
    obtain ⟨n', x', js, hlt, hI', q1, q2, hw', hr'⟩ := hq
    exact ⟨n', F x', hlt, ⟨x', hI', rfl⟩, fun _ _ _ _ _ _ h => St.weaken (h.fgt _ _ q1 q2) hw' hr'⟩
  | _ => exact hq
/-- Ways that meet again. -/
theorem c_cutH {X : Type} {x y : Code} (F : X → SL) (I : X → Prop) (h : CodeOK P pins N x (thenQ (fun L' => ∃ x' js, I x' ∧ fgtB pins js L' = true ∧ heapP L' ∧ WkS (fgtL js L') (F x') ∧ noRefs (F x') = true) Q) L) (h2 : ∀ x', I x' → CodeOK P pins N y Q (F x')) : CodeOK P pins N (.seq x y) Q L := by
  refine c_seq fun Fe ne hF w0 m0 o0 G a w hS => wpIn_mono (h Fe ne hF w0 m0 o0 G a w hS) ?_
  rintro e a' w' ⟨L', hq, hS'⟩
  cases e with
  | normal =>
    obtain ⟨x', js, hI, q1, q2, hw, hr⟩ := hq
    exact ⟨F x', h2 x' hI, St.weaken (hS'.fgt _ _ q1 q2) hw hr⟩
  | _ => exact ⟨L', hq, hS'⟩
theorem WkA.vwn {j off E k n n' : Nat} (h : n = n') : WkA (.t (.view j off E k n)) (.t (.view j off E k n')) := by rw [h]; exact .refl _
theorem WkA.of_eq {x y : A} (h : x = y) : WkA x y := by rw [h]; exact .refl _
end
/-- A function that starts with no heap. -/
theorem fc_of_h {P : Program} {fn : FuncId} {args : List A} {f f' : Nat → A} {r : A} (hf : FCH P fn args [] [] f f' r) (h0 : ∀ c, san (f c) = .free) (hp : args.all A.plain = true) (hle : args.length ≤ OB) : FC P fn args [] r := by
  intro w m o vals hsat htbl hlt hinj hsz hrep
  refine (hf w m o vals hsat htbl (fun g l h => (hlt g l h).1) hinj hsz fun s => ?_).mono ?_
  · unfold argH
    split
    · rename_i h
      have h1 := hrep s
      unfold argS at h1
      rw [List.getD_eq_getElem?_getD] at h1 ⊢
      cases hx : args[s]? with
      | none => trivial
      | some x =>
        rw [hx] at h1
        exact plain_rep (List.all_eq_true.1 hp x (List.mem_of_getElem? hx)) h1
    · rename_i h
      have key : RepA m w o (fun s => if s < OB then args.getD s .any else if OB2 ≤ s then san (f (s - OB2)) else match ([] : List A)[s - OB]? with | some x => x | none => .free) s .free (vals.getD s undef) := fun g k e => h (hlt g _ e).2
      split
      · rw [h0]; exact key
      · exact key
  · rintro e w' ⟨u, m', o', S', a', ρ, h1, h2, h3, _⟩
    rw [plain_args hp]
    exact ⟨u, m', o', S', a', ρ, h1, h2, h3, fun i l h => by cases h⟩
end Go.Proofs.Ytjomnccladjpgaa

/-
  Calls of yield within a function that is ranged over: what a round does, told as a call.
-/
namespace Go.Proofs.Ytjomnccladjpgaa
open Go Go.RowKit
set_option linter.unusedVariables false

/-- The value of a loop's yield. -/
def yv (l : Nat) : Value := .func (.yield l) #[] #[]
/-- A round, as what is called. -/
def YK (P : Program) (l : Nat) (vals : Array Value) (w : World) (R : Ending → World → Prop) : Prop :=
  ∃ fn tmps assign body, (Instr.yield l vals).run P w = .ok (.round l fn tmps assign body) w ∧ ∀ n, RoundIn Fence.wide n P l fn tmps assign body w R
theorem YK.mono {P : Program} {l : Nat} {vals : Array Value} {w : World} {R R' : Ending → World → Prop} (h : YK P l vals w R) (k : ∀ e w', R e w' → R' e w') : YK P l vals w R' := by
  obtain ⟨fn, tmps, asn, body, h1, h2⟩ := h
  exact ⟨fn, tmps, asn, body, h1, fun n => (h2 n).mono k⟩
/-- Yield of loop l, handed what args tell, with a heap that f tells: it hands back b, the heap is as f' tells. -/
def YLD (P : Program) (l : Nat) (args : List A) (f f' : Nat → A) (b : Bool) : Prop := FCK (YK P l) args [] [] f f' (.t (.d (.lit (.bool b))))
theorem round_any {F : Fence} (h : WideF F) {n : Nat} {P : Program} {l fn : Nat} {tmps : Array Value} {assign body : Code} {w : World} {R : Ending → World → Prop} (hr : RoundIn Fence.wide n P l fn tmps assign body w R) : RoundIn F n P l fn tmps assign body w R := by
  refine ⟨h.fn _, fun c cs hroom => ?_⟩
  obtain ⟨e, w', r, s⟩ := hr.2 c cs (room_wide _)
  refine ⟨e, w', r, ?_⟩
  rcases h with rfl | ⟨l, rfl⟩
  · exact s
  · exact s
section
variable {P : Program} {pins : List Nat} {N : Nat} {op : Oper} {d : Nat} {S M : Nat → A} {f f' : Nat → A}
theorem y_call (hM : Mk M S) (hk : S HK = .hp f) {l : Nat} {xs : List Operand} {ts : Array TypeId} {fx : Operand} (hop : op.op = .call { callee := .value fx, args := xs.toArray, argTypes := ts }) (hfx : vO M fx = some (yv l)) (hd : op.dst = some d) (hok : okD N pins S d = true)
    {args : List A} {b : Bool} (hf : YLD P l args f f' b) (hp : pureH f) (hp' : pureH f') (hargs : ArgsH [] (xs.map (cpO M)) args) (hle : Nat.ble args.length OB = true) :
    OpY P pins N op S (app S [(HK, .hp f'), (d, .t (.d (.lit (.bool b))))]) := by
  intro hN hlo
  have hdO := okD_lo hN hok
  have hd2 : d ≠ HK := by unfold HK; unfold OB at hdO; omega
  refine ⟨?_, (hlo.upd hk_lt).upd (lt2 hdO)⟩
  intro F n hF w0 m0 o0 G a w m o hNa I K Q hK
  have he : hx (app S [(HK, .hp f'), (d, .t (.d (.lit (.bool b))))]) = upd (upd (app (hpS (hx S) f') (putsO [] [])) d (.t (.d (.lit (.bool b))))) HK (.hp f') := by
    show hx (upd (upd S HK (.hp f')) d _) = _
    rw [hx_updL (lt2 hdO) hd2, upd_comm hd2]
    congr 1
    funext t
    by_cases e : t = HK
    · subst e
      rw [upd_same]
      exact hx_of (upd_same _ _ _) (by simp)
    · rw [upd_other e]
      rcases Nat.lt_or_ge t OB2 with h | h
      · rw [hx_lo h, upd_other e]
        show S t = hpS (hx S) f' t
        unfold hpS
        rw [if_neg (by omega), hx_lo h]
      · obtain ⟨k, rfl⟩ : ∃ k, t = OB2 + k := ⟨t - OB2, by omega⟩
        rw [ob2_eq, hx_hp (hlo.upd hk_lt) (upd_same _ _ _), ← ob2_eq]
        show _ = hpS (hx S) f' _
        unfold hpS
        rw [if_pos (Nat.le_add_right _ _), Nat.add_sub_cancel_left]
  rw [he] at hK
  obtain ⟨h1, h2, h3⟩ := okD_iff (okD_hx hN hok)
  obtain ⟨k1, k2⟩ := argsH_rep hM.hx I List.nodup_nil (Nat.zero_le _) (fun j h => by cases h) (S' := argH args [] f) xs args hargs
  have hc := call_heapK (K := YK P l) I (fun _ _ _ _ h k => YK.mono h k) hf (fun c => hx_hp hlo hk c) hp hp' (σ := []) (fr := []) List.nodup_nil (fun j h => by cases h) rfl rfl rfl (fun j h => by cases h) rfl (Nat.zero_le _) (.plain rfl) (vals := (xs.map a.eval).toArray) (by simpa using k1) (fun k x hk k0 => by simpa using k2 k x hk k0) (Nat.le_of_ble_eq_true hle) (d := d) (by omega) h2 h3
  obtain ⟨fn, tmps, asn, body, q1, q2⟩ := hc
  unfold Oper.wpIn
  refine ⟨fun g _ => hF.fn g, ?_⟩
  have hnd : ∀ c, op.op ≠ .defer c := fun c e => by rw [hop] at e; cases e
  rw [Oper.semAt_eq _ _ _ hnd]
  have hrun : (execOp a.eval op).run P w = .ok (.round l fn tmps asn body) w := by
    unfold execOp
    rw [hop]
    simp only [resolve, vO_eq hM.hx I hfx, yv, Deferred.ofValue, List.map_toArray]
    simp [invoke, q1]
  rw [hrun, Oper.uponIn_round]
  refine ⟨fun h => hF.deep h, RoundIn.mono (round_any hF (q2 _)) ?_⟩
  rintro e w' ⟨u, m', o', rfl, J⟩
  rw [← hd] at J
  show K (a.put op.dst u) w'
  refine hK _ _ _ _ (by rw [put_size, hNa]) (J.hk (f := f) ?_ f')
  rw [upd_other (Ne.symm hd2)]
  show hpS (hx S) f' HK = _
  unfold hpS
  rw [if_neg (by unfold HK OB2; omega)]
  exact hx_of hk (by simp)
end
end Go.Proofs.Ytjomnccladjpgaa
