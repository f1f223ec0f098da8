/-
  Texts joined: see the remark at the head of each part.
-/
import Derived.Test.YtjomnccladjpgaaGreatQ06
set_option linter.unusedVariables false
set_option linter.unusedSimpArgs false
/-
 Local objects: slices that are made and written by index; forgotten, frozen.
-/
namespace Go.Proofs.YtjomnccladjpgaaGreat
open Go Go.RowKit
set_option linter.unusedVariables false
def fl {α β : Type} (c : α → List β) (x : List α) : List β := x.flatMap c
section
variable {α β : Type} {c : α → List β} {k : Nat}
theorem zF7 (hc : ∀ a, (c a).length = k) (x : List α) : (fl c x).length = x.length * k := by
 unfold fl
 induction x with
 | nil => simp
 | cons a r ih => rw [List.flatMap_cons, List.length_append, hc, ih, List.length_cons, Nat.succ_mul]; omega
theorem zId (hc : ∀ a, (c a).length = k) {x : List α} {i : Nat} (h : i < x.length) : fl c x = fl c (x.take i) ++ (c x[i] ++ fl c (x.drop (i + 1))) ∧ (fl c (x.take i)).length = i * k := by
 refine ⟨?_, by rw [zF7 hc, List.length_take, Nat.min_eq_left (by omega)]⟩
 conv => lhs; rw [← List.take_append_drop i x, List.drop_eq_getElem_cons h]
 unfold fl
 rw [List.flatMap_append, List.flatMap_cons]
theorem fl_row (hc : ∀ a, (c a).length = k) {x : List α} {i : Nat} {a : α} (h : x[i]? = some a) : ((fl c x).drop (i * k)).take k = c a := by
 obtain ⟨hi, rfl⟩ := List.getElem?_eq_some_iff.1 h
 obtain ⟨e, hl⟩ := zId (c := c) hc hi
 rw [e, ← hl, List.drop_left, List.take_append_of_le_length (by rw [hc]; exact Nat.le_refl _), List.take_of_length_le (by rw [hc]; exact Nat.le_refl _)]
theorem zJq (hc : ∀ a, (c a).length = k) {x : List α} {i q : Nat} {a : α} (h : x[i]? = some a) (hq : q < k) : (fl c x)[i * k + q]? = (c a)[q]? := by
 obtain ⟨hi, rfl⟩ := List.getElem?_eq_some_iff.1 h
 obtain ⟨e, hl⟩ := zId (c := c) hc hi
 rw [e, List.getElem?_append_right (by omega), hl, Nat.add_sub_cancel_left, List.getElem?_append_left (by rw [hc]; exact hq)]
theorem fl_set (hc : ∀ a, (c a).length = k) {x : List α} {i : Nat} (h : i < x.length) (a : α) : fl c (x.set i a) = fl c (x.take i) ++ (c a ++ fl c (x.drop (i + 1))) := by
 rw [List.set_eq_take_append_cons_drop, if_pos h]
 unfold fl
 rw [List.flatMap_append, List.flatMap_cons]
theorem zJS (hc : ∀ a, (c a).length = k) {x : List α} {i q : Nat} {a b : α} {d : List β} (h : x[i]? = some a) (hd : yA (c a) q d = c b) (hq : q + d.length ≤ k) : yA (fl c x) (i * k + q) d = fl c (x.set i b) := by
 obtain ⟨hi, rfl⟩ := List.getElem?_eq_some_iff.1 h
 obtain ⟨e, hl⟩ := zId (c := c) hc hi
 rw [fl_set hc hi, ← hd, e]
 unfold yA
 have hcl : (c x[i]).length = k := hc _
 have e1 : (fl c (x.take i) ++ (c x[i] ++ fl c (x.drop (i + 1)))).take (i * k + q) = fl c (x.take i) ++ (c x[i]).take q := by
  rw [← hl, List.take_length_add_append, List.take_append_of_le_length (by omega)]
 have e2 : (fl c (x.take i) ++ (c x[i] ++ fl c (x.drop (i + 1)))).drop (i * k + q + d.length) = (c x[i]).drop (q + d.length) ++ fl c (x.drop (i + 1)) := by
  rw [Nat.add_assoc, ← hl, List.drop_length_add_append, List.drop_append_of_le_length (by omega)]
 rw [e1, e2]
 simp [List.append_assoc]
end
theorem zFT {β : Type} {k : Nat} : ∀ {rs : List (List β)}, (∀ r ∈ rs, r.length = k) → (rs.flatMap id).length = rs.length * k
 | [], _ => by simp
 | r :: t, h => by
  rw [List.flatMap_cons, List.length_append, zFT fun x hx => h x (List.mem_cons_of_mem _ hx), List.length_cons, Nat.succ_mul]
  have : r.length = k := h r (by simp)
  show r.length + _ = _
  omega
theorem zD1 {β : Type} {k : Nat} : ∀ {rs : List (List β)} {i q : Nat} {r : List β}, (∀ r ∈ rs, r.length = k) → rs[i]? = some r → q < k → (rs.flatMap id)[i * k + q]? = r[q]?
 | [], i, q, r, _, h, _ => by simp at h
 | x :: t, i, q, r, h, hi, hq => by
  have hx : x.length = k := h x (by simp)
  rw [List.flatMap_cons]
  cases i with
  | zero =>
   injection hi with hi
   subst hi
   rw [Nat.zero_mul, Nat.zero_add]
   exact List.getElem?_append_left (by show q < x.length; omega)
  | succ i =>
   rw [Nat.succ_mul, List.getElem?_append_right (by show x.length ≤ _; omega)]
   have : i * k + k + q - (id x).length = i * k + q := by show i * k + k + q - x.length = _; omega
   rw [this]
   exact zD1 (fun r hr => h r (List.mem_cons_of_mem _ hr)) (by simpa using hi) hq
section
variable {w0 : World} {m0 : Mem} {o0 : OwnM} {G : GD} {pins : List Nat} {S M : Nat → A} {a : Act} {w : World} {m : Mem} {o : OwnM} {P : Program} {N : Nat}
theorem ok_make (hM : Mk M S) {op : Oper} {d j t e q : Nat} {xn xc : Operand} {kl kc : IntKind} {n : Int} {ie : TypeInfo} {z : Value} {c0 : List T} (hop : op.op = .makeSlice t xn xc) (hn : vO M xn = some (.int kl n)) (hc : vO M xc = some (.int kc n)) (hu : P.underlying t = some (.slice e)) (hie : P.info? e = some ie) (hz : ie.zero = some z)
  (hc0 : zFp (litA z) = some c0) (hsz : c0.length = ie.size) (hq : mkI ie.bytes n = some q) (hd : op.dst = some d) (hok : okD N pins S d = true) (hdO : Nat.blt d OB = true) (hfree : S (OB + j) = .free) :
  OpOK P pins N op S (app S [(OB + j, .box (fl (fun _ => c0) (List.replicate q ()))), (d, .t (.view j 0 e ie.size q))]) := by
 obtain ⟨q1, q2, q3, rfl⟩ := mkI_iff hq
 refine zW fun w0 m0 o0 G a w m o hN I => ?_
 obtain ⟨d1, d2, d3⟩ := qH hok
 have hdO : d < OB := by simpa using hdO
 have hcp : zDU (litA z) = some c0 := by
  revert hc0
  generalize litA z = y
  intro hl
  cases y with
  | t y => cases y <;> first | exact hl | cases hl
  | _ => cases hl
 obtain ⟨k1, k2, k3⟩ := zDW hcp (zDy (m := m) (w := w) (o := o) (S := S) 0 z)
 have hrun := run_make (P := P) (w := w) t e ie z hu hie hz kl kc n n q1 (Int.le_refl _) q2 (by omega)
 have hsize : (madeCells z.cells (n.toNat * ie.size)).size = n.toNat * ie.size := size_madeCells _ _
 have J := I.obj_new (j := j) (l := fl (fun _ => c0) (List.replicate n.toNat ())) (cs := madeCells z.cells (n.toNat * ie.size)) (E := e) hfree ?_ fun i x hi => ?_
 ·
  refine ⟨.slice (some ⟨w.heap.size, 0, none⟩) n.toNat n.toNat, w.alloc (.cells (madeCells z.cells (n.toNat * ie.size)) e), m, newO o (OB + j) w.heap.size, ?_, ?_⟩
  ·
   unfold execOp
   rw [hop]
   simp only [Sem.run_bind]
   rw [zCS hM I hn, zCS hM I hc, hrun]
   rfl
  ·
   rw [hd]
   exact J.set d _ _ (by omega) (by rw [zK (by omega)]; exact d2) ⟨some ⟨w.heap.size, 0, none⟩, n.toNat, Nat.le_refl _, by unfold maxLen; omega, rfl, .inr ⟨w.heap.size, _, e, zAt _ _ _, rfl, heap_alloc_new w _, by rw [hsize]; omega, .inr rfl⟩⟩
 ·
  rw [hsize, zF7 (k := ie.size) (fun _ => hsz), List.length_replicate]
  exact Nat.le_refl _
 ·
  have hlt : i < n.toNat * ie.size := by
   have := (List.getElem?_eq_some_iff.1 hi).1
   rw [zF7 (k := ie.size) (fun _ => hsz), List.length_replicate] at this
   exact this
  have hpos : 0 < ie.size := Nat.pos_of_ne_zero fun e => by rw [e] at hlt; simp at hlt
  have hi1 : i / ie.size < n.toNat := Nat.div_lt_of_lt_mul (by rw [Nat.mul_comm]; exact hlt)
  have hi2 : i % ie.size < ie.size := Nat.mod_lt _ hpos
  have he : i / ie.size * ie.size + i % ie.size = i := by rw [Nat.mul_comm]; exact Nat.div_add_mod i ie.size
  have h2 := zJq (c := fun _ : Unit => c0) (k := ie.size) (fun _ => hsz) (x := List.replicate n.toNat ()) (i := i / ie.size) (q := i % ie.size) (a := ()) (by rw [List.getElem?_replicate, if_pos hi1]) hi2
  rw [he] at h2
  rw [h2] at hi
  obtain ⟨p1, u, p2, p3⟩ := k3 _ x hi
  refine ⟨zEB hcp x (List.mem_of_getElem? hi), u, ?_, p3 _ _ (zB2.refl w)⟩
  have hzs : z.cells.size = ie.size := by have := k1; simp at this; omega
  unfold madeCells
  rw [Array.getElem?_map, Array.getElem?_range, if_pos hlt]
  simp only [Option.map_some, hzs]
  have p2 : z.cells[i % ie.size]? = some u := by simpa using p2
  rw [getElem!_def, p2]
theorem ok_ixv (hM : Mk M S) {op : Oper} {d j off E k n t e : Nat} {x i : Operand} {ki : IntKind} {z : Int} {ie : TypeInfo} (hop : op.op = .indexAddr t x i) (hx : cpO M x = .t (.view j off E k n)) (hi : vO M i = some (.int ki z)) (hu : P.underlying t = some (.slice e)) (hie : P.info? e = some ie) (hz : 0 ≤ z ∧ z < n) (hd : op.dst = some d) (hok : okD N pins S d = true) :
  OpOK P pins N op S (upd S d (.ref (OB + j) (off + z.toNat * ie.size))) := by
 refine zW fun w0 m0 o0 G a w m o hN I => ?_
 obtain ⟨h1, h2, h3⟩ := qH hok
 have hxr := qS hM I x 0
 rw [hx] at hxr
 obtain ⟨A', c, k0, _, k3, k4⟩ := hxr
 obtain ⟨g, cs, _, k1, k5, _⟩ := k4.resolve_left fun h => by omega
 subst k5
 refine ⟨.pointer (some ⟨g, off + z.toNat * ie.size, none⟩), w, m, o, ?_, ?_⟩
 ·
  unfold execOp
  rw [hop]
  simp only [Sem.run_bind]
  rw [zCS hM I hi, k3]
  simp [Instr.indexAt, asIntOf, run_underlying hu, hz, sizeOf, typeInfo, hie, Addr.add_mid]
 ·
  rw [hd]
  exact I.set d _ _ (by omega) h2 ⟨g, k1, rfl, fun h => absurd h (by omega)⟩
theorem ok_lnv (hM : Mk M S) {op : Oper} {d j off E k n t e : Nat} {x : Operand} (hop : op.op = .call { callee := .builtin .len, args := ⟨[x]⟩, argTypes := ⟨[t]⟩ }) (hx : cpO M x = .t (.view j off E k n)) (hu : P.underlying t = some (.slice e)) (hd : op.dst = some d) (hok : okD N pins S d = true) :
  OpOK P pins N op S (upd S d (.t (.d (.lit (.int .i64 n))))) := by
 refine zW fun w0 m0 o0 G a w m o hN I => ?_
 obtain ⟨h1, h2, h3⟩ := qH hok
 have hxr := qS hM I x 0
 rw [hx] at hxr
 obtain ⟨A', c, _, _, k3, _⟩ := hxr
 refine ⟨.int .i64 n, w, m, o, ?_, by rw [hd]; exact I.set d _ _ (by omega) h2 (.lit _ rfl)⟩
 unfold execOp
 rw [hop]
 simp only [resolve, invoke, builtin, Sem.run_bind, Sem.run_pure, Result.andThen_ok, List.map_toArray, List.map_cons, List.map_nil]
 rw [k3]
 simp [Builtin.len_, run_underlying hu, goInt]
theorem ok_slv (hM : Mk M S) {op : Oper} {d j off E k n t e : Nat} {x : Operand} {lo hi : Option Operand} {l0 h0 : Option Int} {ie : TypeInfo} {off' n' : Nat} (hop : op.op = .slice t x lo hi none) (hx : cpO M x = .t (.view j off E k n)) (hk : ie.size = k) (hlo : bndO M lo = some l0) (hhi : bndO M hi = some h0) (hu : P.underlying t = some (.slice e)) (hie : P.info? e = some ie)
    (hc : 0 ≤ l0.getD 0 ∧ l0.getD 0 ≤ h0.getD n ∧ h0.getD n ≤ n) (ho : off + (l0.getD 0).toNat * ie.size = off') (hn' : (h0.getD n).toNat - (l0.getD 0).toNat = n') (hd : op.dst = some d) (hok : okD N pins S d = true) :
    OpOK P pins N op S (upd S d (.t (.view j off' E k n'))) := by
  subst ho hn' hk
  refine zW fun w0 m0 o0 G a w m o hN I => ?_
  obtain ⟨h1, h2, h3⟩ := qH hok
  have hxr := qS hM I x 0
  rw [hx] at hxr
  obtain ⟨A', c, k2, k4, k3, k5⟩ := hxr
  obtain ⟨kl, e1⟩ := zDa hM I hlo
  obtain ⟨kh, e2⟩ := zDa hM I hhi
  have hb : (Instr.sliceBounds true n c (l0.map fun z => .int (kl z) z) (h0.map fun z => .int (kh z) z) none).run P w = .ok ((l0.map Int.toNat).getD 0, (h0.map Int.toNat).getD n, c) w := by
    unfold Instr.sliceBounds
    cases l0 <;> cases h0 <;> simp only [Option.getD_none, Option.getD_some, Option.map_none, Option.map_some, Option.isSome_none, Option.isSome_some] at hc ⊢ <;>
      (simp only [Sem.run_bind, Sem.run_pure, Result.andThen_ok]
       repeat (rw [zBD (by omega) (by omega), Result.andThen_ok]))
  have hlo2 : (l0.map Int.toNat).getD 0 = (l0.getD 0).toNat := by cases l0 <;> rfl
  have hhi2 : (h0.map Int.toNat).getD n = (h0.getD n).toNat := by cases h0 <;> simp
  rw [hlo2, hhi2] at hb
  have hrun : (Instr.sliceAt t (.slice A' n c) (l0.map fun z => .int (kl z) z) (h0.map fun z => .int (kh z) z) none).run P w = .ok (.slice (if c = (l0.getD 0).toNat then A' else A'.map (·.add ((l0.getD 0).toNat * ie.size))) ((h0.getD n).toNat - (l0.getD 0).toNat) (c - (l0.getD 0).toNat)) w := by
    unfold Instr.sliceAt
    simp only [Sem.run_bind, run_underlying hu, Result.andThen_ok]
    unfold Instr.slice
    simp only [Sem.run_bind, run_underlying hu, Result.andThen_ok]
    rw [hb]
    simp [sizeOf, typeInfo, hie]
  refine ⟨.slice (if c = (l0.getD 0).toNat then A' else A'.map (·.add ((l0.getD 0).toNat * ie.size))) ((h0.getD n).toNat - (l0.getD 0).toNat) (c - (l0.getD 0).toNat), w, m, o, ?_, ?_⟩
  · unfold execOp
    rw [hop]
    simp only [Sem.run_bind]
    rw [e1, e2, k3]
    show Result.andThen (Sem.run P (Instr.sliceAt t _ _ _ none) w) _ = _
    rw [hrun]
    rfl
  · rw [hd]
    refine I.set d _ _ (by omega) h2 ?_
    refine ⟨(if c = (l0.getD 0).toNat then A' else A'.map (·.add ((l0.getD 0).toNat * ie.size))), c - (l0.getD 0).toNat, by omega, by omega, rfl, ?_⟩
    rcases k5 with c0 | ⟨g, cs, E1, q1, q2, q3, q4, q6⟩
    · subst c0
      exact .inl (Nat.zero_sub _)
    · by_cases hz : c = (l0.getD 0).toNat
      · exact .inl (by omega)
      · refine .inr ⟨g, cs, E1, q1, ?_, q3, ?_, q6⟩
        · rw [if_neg hz, q2]
          show some ((⟨g, off, none⟩ : Addr).add _) = _
          rw [Addr.add_mid]
        · have : (l0.getD 0).toNat * ie.size + (c - (l0.getD 0).toNat) * ie.size = c * ie.size := by rw [← Nat.add_mul]; congr 1; omega
          omega
def zE4 (j : Nat) : T → Bool
 | .ptr i _ | .view i _ _ _ _ => Nat.beq i j
 | .mpt i => Nat.blt i OB && Nat.beq i j
 | _ => false
def zDw (j : Nat) : A → Bool
 | .t x => zE4 j x
 | .tup l | .box l | .ag l | .lst l | .imt l => l.any (zE4 j)
 | .cl _ caps => caps.any fun l => l.any (zE4 j)
 | .ref b _ => Nat.beq b (OB + j)
 | _ => false
def zHq (o : OwnM) (j : Nat) : OwnM := fun g => if (o g).map (·.1) = some (OB + j) then none else o g
theorem yO {o : OwnM} {j g : Nat} {l : Nat × Nat} : zHq o j g = some l ↔ o g = some l ∧ l.1 ≠ OB + j := by
 unfold zHq
 constructor
 ·
  intro h
  split at h
  · cases h
  · rename_i hn; exact ⟨h, fun e => hn (by rw [h, ← e]; rfl)⟩
 ·
  rintro ⟨h1, h2⟩
  rw [h1, if_neg (by simpa using h2)]
theorem zEA {j : Nat} (hj : j < OB) {x : T} (hx : zE4 j x = false) {loc : Nat × Nat} (hl : loc.1 ≠ OB + j) {v : Value} (h : RepT m w o loc x v) : RepT m w (zHq o j) loc x v := by
 cases x with
 | d x => exact h
 | agg l => exact h
 | own E k l =>
  obtain ⟨A', cap, xs, e, h1, h2, h3⟩ := h
  exact ⟨A', cap, xs, e, h1, fun g hg => ⟨yO.2 ⟨(h2 g hg).1, hl⟩, (h2 g hg).2⟩, h3⟩
 | ptr i off =>
  obtain ⟨g, h1, h2⟩ := h
  have : i ≠ j := fun e => by subst e; simp [zE4] at hx
  exact ⟨g, yO.2 ⟨h1, by show OB + i ≠ OB + j; omega⟩, h2⟩
 | view i off E k n =>
  obtain ⟨A', c, h1, h2, h3, h4⟩ := h
  have : i ≠ j := fun e => by subst e; simp [zE4] at hx
  exact ⟨A', c, h1, h2, h3, h4.imp id fun ⟨g, cs, E1, k1, k2⟩ => ⟨g, cs, E1, yO.2 ⟨k1, by show OB + i ≠ OB + j; omega⟩, k2⟩⟩
 | any => exact h
 | hpt c off =>
  obtain ⟨g, h1, h2⟩ := h
  exact ⟨g, yO.2 ⟨h1, by show OB + (OB + c) ≠ OB + j; omega⟩, h2⟩
 | mpt i =>
  obtain ⟨g, h1, h2⟩ := h
  have : i ≠ j := fun e => by
   subst e
   have hx : (Nat.blt i OB && Nat.beq i i) = false := hx
   rw [show Nat.blt i OB = true by simpa using hj, Nat.beq_refl] at hx
   cases hx
  exact ⟨g, yO.2 ⟨h1, by show OB + i ≠ OB + j; omega⟩, h2⟩
 | hvw c off E k n =>
  obtain ⟨A', q, h1, h2, h3, h4⟩ := h
  exact ⟨A', q, h1, h2, h3, h4.imp id fun ⟨g, cs, E1, k1, k2⟩ => ⟨g, cs, E1, yO.2 ⟨k1, by show OB + (OB + c) ≠ OB + j; omega⟩, k2⟩⟩
theorem zEW {j : Nat} {l : List T} (h : l.any (zE4 j) = false) {q : Nat} {x : T} (hq : l[q]? = some x) : zE4 j x = false := by
 cases hb : zE4 j x with
 | false => rfl
 | true =>
  have : l.any (zE4 j) = true := List.any_eq_true.2 ⟨x, List.mem_of_getElem? hq, hb⟩
  rw [h] at this
  cases this
theorem zIw {j s : Nat} (hj : j < OB) {x : A} (hx : zDw j x = false) (hs : s ≠ OB + j) {S S' : Nat → A} (hS : ∀ b l, b < OB → S b = .box l → ∃ l', S' b = .box l') {v : Value} (h : RepA m w o S s x v) : RepA m w (zHq o j) S' s x v := by
 cases x with
 | t x => exact zEA (loc := (s, 0)) hj hx hs h
 | tup l =>
  obtain ⟨vs, e, h1, h2⟩ := h
  refine ⟨vs, e, h1, fun q x hq => ?_⟩
  obtain ⟨u, k1, k2⟩ := h2 q x hq
  exact ⟨u, k1, zEA hj (zEW hx hq) hs k2⟩
 | imm l => exact h
 | box l =>
  obtain ⟨g, e, h1, h2, cs, E, h3, h4, h5⟩ := h
  refine ⟨g, e, yO.2 ⟨h1, hs⟩, h2, cs, E, h3, h4, fun q x hq => ?_⟩
  obtain ⟨k0, u, k1, k2⟩ := h5 q x hq
  exact ⟨k0, u, k1, zEA hj (zEW hx hq) hs k2⟩
 | ref b off =>
  obtain ⟨g, h1, h2, h3⟩ := h
  have : b ≠ OB + j := fun e => by subst e; simp [zDw] at hx
  exact ⟨g, yO.2 ⟨h1, this⟩, h2, fun hb => let ⟨l, hl⟩ := h3 hb; hS b l hb hl⟩
 | free => exact fun g k e => h g k (yO.1 e).1
 | ag l =>
  obtain ⟨vs, e, h1, h2⟩ := h
  refine ⟨vs, e, h1, fun q x hq => ?_⟩
  obtain ⟨u, k1, k3, k2⟩ := h2 q x hq
  exact ⟨u, k1, k3, zEA hj (zEW hx hq) hs k2⟩
 | lst l =>
  obtain ⟨g, cap, e, h1, h2, h3⟩ := h
  refine ⟨g, cap, e, h1, h2, fun q x hq => ?_⟩
  obtain ⟨u, k1, k2⟩ := h3 q x hq
  exact ⟨u, k1, zEA hj (zEW hx hq) hs k2⟩
 | fr E k =>
  obtain ⟨g, n, cap, cur, h1, h2, h3⟩ := h
  exact ⟨g, n, cap, cur, h1, yO.2 ⟨h2, hs⟩, h3⟩
 | hp f => trivial
 | mp l => obtain ⟨g, h1, rest⟩ := h; exact ⟨g, yO.2 ⟨h1, hs⟩, rest⟩
 | cl f caps =>
  obtain ⟨ptrs, e, h1, h2⟩ := h
  refine ⟨ptrs, e, h1, fun i l hi => ?_⟩
  obtain ⟨g, k1, k2⟩ := h2 i l hi
  have hl : l.any (zE4 j) = false := by
   cases hb : l.any (zE4 j) with
   | false => rfl
   | true =>
    have : caps.any (fun l => l.any (zE4 j)) = true := List.any_eq_true.2 ⟨l, List.mem_of_getElem? hi, hb⟩
    have hx : caps.any (fun l => l.any (zE4 j)) = false := hx
    rw [hx] at this
    cases this
  refine ⟨g, k1, fun q x hq => ?_⟩
  obtain ⟨u, k3, k4⟩ := k2 q x hq
  exact ⟨u, k3, zEA hj (zEW hl hq) hs k4⟩
 | imt l =>
  obtain ⟨g, k1, k2⟩ := h
  refine ⟨g, k1, fun q x hq => ?_⟩
  obtain ⟨u, k3, k4⟩ := k2 q x hq
  exact ⟨u, k3, zEA hj (zEW hx hq) hs k4⟩
 | rcd b u mE oE =>
  obtain ⟨h1, h2, h3, h4, h5⟩ := h
  exact ⟨yO.2 ⟨h1, hs⟩, h2, h3, h4, fun g c hg => yO.2 ⟨h5 g c hg, by show OB + (OB + c) ≠ OB + j; omega⟩⟩
 | any => trivial
theorem Inv.forget (I : Inv w0 m0 o0 G pins S a w m o) {j : Nat} (hj : j < OB) (hp : OB + j ∉ pins) (hm : ∀ s, zDw j (S s) = false) : Inv w0 m0 o0 G pins (upd S (OB + j) .free) a w m (zHq o j) := by
 refine ⟨I.same, I.sat, I.mono, I.old, fun g l h => I.own g l (yO.1 h).1, fun g l h => I.lt g l (yO.1 h).1, fun g g' l h h' => I.inj g g' l (yO.1 h).1 (yO.1 h').1, fun s hs g hg => yO.2 ⟨I.pinned s hs g hg, fun e => hs.elim (fun hs => hp (by rw [← e]; exact hs)) fun _ => ((I.shps g j (by have e : s = OB + j := e; rw [← e]; exact hg)).1).elim hp fun h => by unfold OB OB2 at *; omega⟩, fun s => ?_, I.defers, I.tbl, I.wide, I.shps⟩
 by_cases e : s = OB + j
 ·
  subst e
  rw [zY]
  exact fun g k h => (yO.1 h).2 rfl
 ·
  rw [zK e]
  exact zIw hj (hm s) e (fun b l hb hl => ⟨l, by rw [zK (by omega), hl]⟩) (I.slots s)
end
end Go.Proofs.YtjomnccladjpgaaGreat

/-
 Steps that only turn what is told: a local object becomes the heap's, becomes data, is forgotten. The rules of local objects.
-/
namespace Go.Proofs.YtjomnccladjpgaaGreat
open Go Go.RowKit
set_option linter.unusedVariables false
section
variable {w0 : World} {m0 : Mem} {o0 : OwnM} {G : GD} {pins : List Nat} {S M : Nat → A} {a : Act} {w : World} {m : Mem} {o : OwnM} {P : Program} {N : Nat}
theorem Inv.less (I : Inv w0 m0 o0 G pins S a w m o) {S' : Nat → A} (h : ∀ s, S' s = S s ∨ (S' s = .any ∧ (S s).isBox = false)) : Inv w0 m0 o0 G pins S' a w m o := by
 refine ⟨I.same, I.sat, I.mono, I.old, I.own, I.lt, I.inj, I.pinned, fun s => ?_, I.defers, I.tbl, I.wide, I.shps⟩
 rcases h s with e | ⟨e, _⟩
 ·
  rw [e]
  refine (I.slots s).turn fun b l hb => ?_
  rcases h b with e2 | ⟨_, e2⟩
  · exact ⟨l, by rw [e2, hb]⟩
  · rw [hb] at e2; cases e2
 · rw [e]; trivial
theorem Inv.frz (I : Inv w0 m0 o0 G pins S a w m o) {j d E k : Nat} {l : List T} {rs : List (List D)} (hj : j < OB) (hd : d < OB) (hp : OB + j ∉ pins) (hpd : d ∉ pins) (hS : S d = .t (.view j 0 E k rs.length)) (hb : S (OB + j) = .box l) (hm : ∀ s, s ≠ d → s ≠ OB + j → zDw j (S s) = false) (hk : 0 < k) (hrk : ∀ r ∈ rs, r.length = k) (hl : l = (rs.flatMap id).map .d) :
  ∃ m' o', Inv w0 m0 o0 G pins (upd (upd S (OB + j) .free) d (.t (.d (.seq k rs)))) a w m' o' := by
 have hs := I.slots (OB + j)
 rw [hb] at hs
 obtain ⟨g, _, h1, h2, cs, E', h3, h4, h5⟩ := hs
 have hsd := I.slots d
 rw [hS] at hsd
 obtain ⟨A', c, q2, q3, q5, q4⟩ := hsd
 have hlen : l.length = rs.length * k := by
  subst hl
  rw [List.length_map]
  exact zFT hrk
 have hcell : ∀ (i : Nat) (r : List D) (q : Nat) (e : D), rs[i]? = some r → r[q]? = some e → ∃ u, cs[i * k + q]? = some u ∧ RepD m e u := by
  intro i r q e hi hq
  have hrl := hrk r (List.mem_of_getElem? hi)
  have hqk : q < k := by rw [← hrl]; exact (List.getElem?_eq_some_iff.1 hq).1
  have : l[i * k + q]? = some (.d e) := by
   subst hl
   rw [List.getElem?_map, zD1 hrk hi hqk, hq]
   rfl
  obtain ⟨_, u, k1, k2⟩ := h5 _ _ this
  exact ⟨u, k1, k2⟩
 let m' : Mem := newM m g fun p => cs[p]?
 have hmle : Mle m m' := by
  intro b p u hu
  show newM m g (fun p => cs[p]?) b p = some u
  unfold newM
  rw [if_neg]
  · exact hu
  · intro e; subst e; rw [h2] at hu; cases hu
 have hk' : ∀ g1 l1, zHq o j g1 = some l1 → g1 ≠ g ∧ o g1 = some l1 := by
  intro g1 l1 h
  obtain ⟨a1, a2⟩ := yO.1 h
  exact ⟨fun e => by subst e; rw [h1] at a1; injection a1 with a1; exact a2 (by rw [← a1]), a1⟩
 refine ⟨m', zHq o j, ⟨I.same, fun b p u h => ?_, I.mono.trans hmle, fun b hb' hg => ?_, fun g l h => I.own g l (yO.1 h).1, fun g l h => I.lt g l (yO.1 h).1, fun g g' l h h' => I.inj g g' l (yO.1 h).1 (yO.1 h').1, fun s hs g hg => yO.2 ⟨I.pinned s hs g hg, fun e => hs.elim (fun hs => hp (by rw [← e]; exact hs)) fun _ => ((I.shps g j (by have e : s = OB + j := e; rw [← e]; exact hg)).1).elim hp fun h => by unfold OB OB2 at *; omega⟩, fun s => ?_, I.defers, I.tbl, I.wide, I.shps⟩⟩
 ·
  change newM m g (fun p => cs[p]?) b p = some u at h
  unfold newM at h
  split at h
  ·
   rename_i e
   subst e
   rw [cell_of_row w b p cs E' _ h3]
   exact h
  · exact I.sat b p u h
 ·
  rw [← I.old b hb' hg]
  funext p
  show newM m g (fun p => cs[p]?) b p = _
  unfold newM
  rw [if_neg]
  intro e
  subst e
  rcases I.own b _ h1 with h | h
  · exact hg h
  · omega
 ·
  by_cases e : s = d
  ·
   subst e
   rw [zY, q5]
   refine .seq k rs _ c g 0 (fun i q => (cs[i * k + q]?).getD undef) q2 q3 (fun hne => ?_) (fun i r hi => hrk r (List.mem_of_getElem? hi)) (fun i r q e hi hq => ?_) (fun i r q e hi hq => ?_)
   ·
    obtain ⟨g', _, _, q1, q6, _⟩ := q4.resolve_left fun h => by have := List.length_pos_iff.2 hne; omega
    have := I.inj _ _ _ h1 q1
    subst this
    exact q6
   ·
    obtain ⟨u, k1, _⟩ := hcell i r q e hi hq
    show newM m g (fun p => cs[p]?) g (0 + i * k + q) = _
    rw [zBt, Nat.zero_add, k1]
    rfl
   ·
    obtain ⟨u, k1, k2⟩ := hcell i r q e hi hq
    rw [k1]
    exact k2.mono hmle
  ·
   rw [zK e]
   by_cases e2 : s = OB + j
   ·
    subst e2
    rw [zY]
    exact fun g k h => (yO.1 h).2 rfl
   ·
    rw [zK e2]
    have h := zIw hj (S' := upd (upd S (OB + j) .free) d (.t (.d (.seq k rs)))) (hm s e e2) e2 (fun b l hb hl => ⟨l, by
     rw [zK (fun e3 => by subst e3; rw [hS] at hl; cases hl), zK (by omega), hl]⟩) (I.slots s)
    have K : Keep (fun _ => False) m w (zHq o j) m' w (zHq o j) := ⟨hmle, fun g1 l1 h _ => by
     funext p
     show newM m g (fun p => cs[p]?) g1 p = _
     unfold newM
     rw [if_neg (hk' g1 l1 h).1], fun _ _ _ _ => rfl, fun _ _ h _ => h, fun _ _ h => h, fun g _ k _ h => ⟨g, k, h⟩, fun g _ _ => .of_eq rfl⟩
    exact RepA.keep K (fun _ => id) (fun b off _ _ => ⟨id, id⟩) h
end
def zEO (j d : Nat) : SL → SL
 | [] => []
 | (s, x) :: r => (s, bif Nat.blt s OB && (zDw j x && !Nat.beq s d) then .any else x) :: zEO j d r
theorem zEn (j d : Nat) : ∀ (L : SL) (t : Nat), gt (zEO j d L) t = bif Nat.blt t OB && (zDw j (gt L t) && !Nat.beq t d) then .any else gt L t
 | [], t => by show A.any = bif _ && (zDw j .any && _) then .any else .any; cases (Nat.blt t OB && (zDw j .any && !Nat.beq t d)) <;> rfl
 | (s, x) :: r, t => by
  show gt ((s, _) :: zEO j d r) t = _
  rw [qV, qV]
  unfold upd
  by_cases h : t = s
  · subst h; rw [if_pos rfl, if_pos rfl]
  · rw [if_neg h, if_neg h, zEn j d r t]
theorem zDd {j d : Nat} (L : SL) {t : Nat} (h : OB ≤ t) : gt (zEO j d L) t = gt L t := by
  rw [zEn]
  have : Nat.blt t OB = false := by
    cases e : Nat.blt t OB with
    | false => rfl
    | true => have : t < OB := by simpa using e
              omega
  rw [this]
  rfl
def zIA (j d : Nat) : SL → Bool
 | [] => true
 | (s, x) :: r => (!Nat.blt s OB || (!x.isBox || !(zDw j x && !Nat.beq s d))) && zIA j d r
theorem zHo {j d : Nat} : ∀ {L : SL}, zIA j d L = true → ∀ t, (Nat.blt t OB && (zDw j (gt L t) && !Nat.beq t d)) = true → (gt L t).isBox = false
 | [], _, t, h => by rfl
 | (s, x) :: r, h, t, hm => by
  unfold zIA at h
  rw [Bool.and_eq_true] at h
  rw [qV] at hm ⊢
  unfold upd at hm ⊢
  by_cases e : t = s
  ·
   subst e
   rw [if_pos rfl] at hm ⊢
   have h1 := h.1
   rw [Bool.and_eq_true] at hm
   rw [hm.1, hm.2] at h1
   simpa using h1
  ·
   rw [if_neg e] at hm ⊢
   exact zHo h.2 t hm
theorem hx_less {L L' : SL} (hl : Low (gt L)) (hk : gt L' HK = gt L HK) (h : ∀ s, gt L' s = gt L s ∨ (gt L' s = .any ∧ (gt L s).isBox = false)) : Low (gt L') ∧ ∀ s, hx (gt L') s = hx (gt L) s ∨ (hx (gt L') s = .any ∧ (hx (gt L) s).isBox = false) := by
 have hl' : Low (gt L') := fun t ht => by
  rcases h t with e | ⟨e, _⟩
  · rw [e, hl t ht]
  · exact e
 refine ⟨hl', fun s => ?_⟩
 rcases Nat.lt_or_ge s OB2 with h2 | h2
 · rw [zEP h2, zEP h2]; exact h s
 ·
  refine .inl ?_
  unfold hx
  rw [hl s h2, hl' s h2]
  simp only
  rw [hk]
section
variable {P : Program} {pins : List Nat} {N : Nat} {Q : Exit → SL → Prop} {L : SL}
def ObP (L : SL) : Prop := ∀ t, OB ≤ t → ∀ j, zDw j (gt L t) = false
theorem ObP.nil : ObP [] := fun _ _ _ => rfl
theorem ObP.cons {s : Nat} {x : A} {L : SL} (h : Nat.blt s OB = true ∨ ∀ j, zDw j x = false) (hr : ObP L) : ObP ((s, x) :: L) := fun t ht j => by
 rw [qV]
 unfold upd
 by_cases e : t = s
 ·
  rw [if_pos e]
  subst e
  rcases h with h | h
  ·
   have : t < OB := by simpa using h
   omega
  · exact h j
 · rw [if_neg e]; exact hr t ht j
theorem zIG {l : List T} (h : noPt l = true) (j : Nat) : zDw j (.box l) = false := by
 show l.any (zE4 j) = false
 cases hb : l.any (zE4 j) with
 | false => rfl
 | true =>
  obtain ⟨x, h1, h2⟩ := List.any_eq_true.1 hb
  unfold noPt at h
  have h3 := List.all_eq_true.1 h x h1
  cases x <;> first | (cases h2; done) | (cases h3; done)
def zJW (L : SL) : Prop := (gt L HK = .any ∨ ∃ f, gt L HK = .hp f ∧ zGM f) ∧ ObP L
theorem ObP.fgt {L : SL} {j d : Nat} (h : ObP L) : ObP ((OB + j, .free) :: zEO j d L) := .cons (.inr fun _ => rfl) fun t ht i => by
 rw [zDd L ht]
 exact h t ht i
theorem zI5 {S : Nat → A} (hlo : Low S) (hh : S HK = .any ∨ ∃ f, S HK = .hp f ∧ zGM f) {j : Nat} (k : Nat) : zDw j (hx S (OB2 + k)) = false := by
 rcases hh with e | ⟨f, e, hp⟩
 ·
  unfold hx
  rw [hlo _ (Nat.le_add_right _ _), e]
  simp only
  split <;> rfl
 ·
  rw [zCZ, zE3 hlo e]
  rcases zGA (f k) with ⟨l, hl⟩ | hl | hl | ⟨l, hl⟩ | ⟨b, u, mE, oE, hl⟩
  ·
   rw [hl]
   have := zIO hp k l hl
   cases hb : l.any (zE4 j) with
   | false => exact hb
   | true =>
    obtain ⟨x, h1, h2⟩ := List.any_eq_true.1 hb
    have h3 := this x h1
    cases x <;> first | (cases h2; done) | (cases h3; done) | (exfalso; simp only [zE4, Bool.and_eq_true] at h2; have h3 : Nat.blt _ OB = false := h3; rw [h2.1] at h3; cases h3)
  · rw [hl]; rfl
  · rw [hl]; rfl
  · rw [hl]; rfl
  · rw [hl]; rfl
theorem c_frz {c : Code} {L' : SL} (d j : Nat) {E k n : Nat} {l : List T} {rs : List (List D)} (hd : gt L d = .t (.view j 0 E k n)) (hb : gt L (OB + j) = .box l) (hn : n = rs.length) (hl : l = (rs.flatMap id).map .d) (hrk : ∀ r ∈ rs, r.length = k)
  (hc : (Nat.blt d OB && Nat.blt (j + 1) OB && !pins.contains (OB + j) && !pins.contains d && Nat.blt 0 k && zIA j d L) = true) (hh : zJW L) (hL : (d, .t (.d (.seq k rs))) :: (OB + j, .free) :: zEO j d L = L') (h : zAN P pins N c Q L') : zAN P pins N c Q L := by
 subst hL hn
 simp only [Bool.and_eq_true, Bool.not_eq_true', List.contains_eq_mem, decide_eq_false_iff_not] at hc
 obtain ⟨⟨⟨⟨⟨c1, c2⟩, c3⟩, c4⟩, c5⟩, c6⟩ := hc
 have c1 : d < OB := by simpa using c1
 have c2 : j + 1 < OB := by simpa using c2
 have c5 : 0 < k := by simpa using c5
 intro Fe ne hF w0 m0 o0 G a w hS
 obtain ⟨hN, hlo, m, o, I⟩ := hS
 have hjd : OB + j ≠ d := by omega
 have hL2 : ∀ s, gt (zEO j d L) s = gt L s ∨ (gt (zEO j d L) s = .any ∧ (gt L s).isBox = false) := fun s => by
  rw [zEn]
  cases hm : (Nat.blt s OB && (zDw j (gt L s) && !Nat.beq s d)) with
  | true => exact .inr ⟨rfl, zHo c6 s hm⟩
  | false => exact .inl rfl
 have hk2 : gt (zEO j d L) HK = gt L HK := zDd L (by unfold HK OB; omega)
 obtain ⟨hlo2, hx2⟩ := hx_less hlo hk2 hL2
 have I2 := I.less hx2
 have hdd : gt (zEO j d L) d = .t (.view j 0 E k rs.length) := by
  rw [zEn, hd]
  simp
 have hbb : gt (zEO j d L) (OB + j) = .box l := by
  rcases hL2 (OB + j) with e | ⟨_, e⟩
  · rw [e, hb]
  · rw [hb] at e; cases e
 have hm : ∀ s, s ≠ d → s ≠ OB + j → zDw j (hx (gt (zEO j d L)) s) = false := fun s h1 h2 => by
  rcases Nat.lt_or_ge s OB2 with h3 | h3
  ·
   rw [zEP h3]
   rcases Nat.lt_or_ge s OB with h4 | h4
   ·
    rw [zEn]
    have hsd : Nat.beq s d = false := by
     cases hb : Nat.beq s d with
     | false => rfl
     | true => exact absurd (Nat.eq_of_beq_eq_true hb) h1
    have hso : Nat.blt s OB = true := by simpa using h4
    rw [hsd, hso]
    cases hm : zDw j (gt L s) with
    | true => rfl
    | false => exact hm
   · rw [zDd L h4]; exact hh.2 s h4 j
  ·
   obtain ⟨k, rfl⟩ : ∃ k, s = OB2 + k := ⟨s - OB2, by omega⟩
   exact zI5 hlo2 (by rw [hk2]; exact hh.1) k
 obtain ⟨m', o', J⟩ := I2.frz (j := j) (d := d) (E := E) (k := k) (l := l) (rs := rs) (by omega) c1 c3 c4 (zCe hdd (by simp)) (zCe hbb (by simp)) hm c5 hrk hl
 have e1 : OB + j < OB2 := by unfold OB OB2 at *; omega
 have e2 : OB + j ≠ HK := by unfold HK; unfold OB at *; omega
 refine h Fe ne hF w0 m0 o0 G a w ⟨hN, ?_, m', o', ?_⟩
 ·
  rw [qV, qV]
  exact (hlo2.upd e1).upd (lt2 c1)
 ·
  rw [qV, qV, zD3 (lt2 c1) (by unfold HK; unfold OB at c1; omega), zD3 e1 e2]
  exact J
end
end Go.Proofs.YtjomnccladjpgaaGreat

/-
 append onto a slice of an object: the object grows, or its cells move to a new block.
-/
namespace Go.Proofs.YtjomnccladjpgaaGreat
open Go Go.RowKit
set_option linter.unusedVariables false
section
variable {w0 : World} {m0 : Mem} {o0 : OwnM} {G : GD} {pins : List Nat} {S M : Nat → A} {a : Act} {w : World} {m : Mem} {o : OwnM} {P : Program} {N : Nat}
theorem Inv.adopt (I : Inv w0 m0 o0 G pins S a w m o) {j g : Nat} {l : List T} {cs cs' : Array Value} {E : Nat} (hfree : S (OB + j) = .free) (hg : w.heap[g]? = some (.cells cs E (0, 0))) (hsz : cs'.size = cs.size) (ho : o g = none) (hG : G g ∨ w0.heap.size ≤ g) (hm : ∀ p, m g p = none) (hlen : l.length ≤ cs'.size)
  (hc : ∀ (i : Nat) (x : T), l[i]? = some x → ∃ d, x = .d d ∧ ∃ u, cs'[i]? = some u ∧ RepD m d u) :
  Inv w0 m0 o0 G pins (upd S (OB + j) (.box l)) a (w.setRow g cs') m (newO o (OB + j) g) := by
 have hf : ∀ g k, o g ≠ some (OB + j, k) := by have := I.slots (OB + j); rw [hfree] at this; exact this
 have hother : ∀ k, k ≠ g → (w.setRow g cs').heap[k]? = w.heap[k]? := fun k hk => setRow_other w g k cs' hk
 have hS : Same (fun x => G x ∨ w0.heap.size ≤ x) w (w.setRow g cs') := ⟨rfl, rfl, rfl, by simp, fun k _ hk => hother k fun e => hk (by rw [e]; exact hG), fun q => (zBY hg hsz q).w⟩
 have hglt : g < w.heap.size := (Array.getElem?_eq_some_iff.1 hg).1
 have hne : ∀ b l, o b = some l → b ≠ g := fun b l h e => by rw [e, ho] at h; cases h
 have hk : ∀ b l, o b = some l → newO o (OB + j) g b = some l := by
  intro b l h
  unfold newO
  rw [if_neg (hne b l h), h, if_neg]
  intro e
  obtain ⟨s, k⟩ := l
  injection e with e
  subst e
  exact hf b k h
 have hk' : ∀ b l, newO o (OB + j) g b = some l → (b = g ∧ l = (OB + j, 0)) ∨ (b ≠ g ∧ o b = some l) := by
  intro b l h
  unfold newO at h
  split at h
  · rename_i e; injection h with h; exact .inl ⟨e, h.symm⟩
  ·
   split at h
   · cases h
   · rename_i e _; exact .inr ⟨e, h⟩
 have hsh : ∀ g', zB2 w (w.setRow g cs') g' := zBY hg hsz
 have K : Keep (fun l => l.1 = OB + j) m w o m (w.setRow g cs') (newO o (OB + j) g) :=
  ⟨Mle.refl _, fun _ _ _ _ => rfl, fun b l h _ => hother b (hne b l h), fun b l h _ => hk b l h, fun b j' h => hk b _ h, fun b s k hs h => by
   rcases hk' b _ h with ⟨_, e⟩ | ⟨_, e⟩
   · injection e with e _; exact absurd e hs
   · exact ⟨b, k, e⟩, fun g _ _ => hsh g⟩
 refine ⟨I.same.trans hS, fun b p u h => ?_, I.mono, I.old, fun g' l h => ?_, fun g' l h => ?_, fun g1 g2 l h h' => ?_, fun s hs g hg => hk g _ (I.pinned s hs g hg), fun s => ?_, I.defers, I.tbl, I.wide, I.shps.keep I.pinned K.sh⟩
 ·
  have h1 := I.sat b p u h
  have hb : b ≠ g := fun e => by rw [e, hm] at h; cases h
  rw [World.cell?_of_block (w := w) (hother b hb)]
  exact h1
 ·
  rcases hk' g' l h with ⟨e, _⟩ | ⟨_, e⟩
  · subst e; exact hG
  · exact I.own g' l e
 ·
  rcases hk' g' l h with ⟨e, _⟩ | ⟨_, e⟩
  · subst e; exact Nat.lt_of_lt_of_le hglt hS.size
  · exact Nat.lt_of_lt_of_le (I.lt g' l e) hS.size
 ·
  rcases hk' g1 l h with ⟨e, q⟩ | ⟨_, e⟩ <;> rcases hk' g2 l h' with ⟨e', q'⟩ | ⟨_, e'⟩
  · rw [e, e']
  · subst q; exact absurd e' (hf _ _)
  · subst q'; exact absurd e (hf _ _)
  · exact I.inj _ _ _ e e'
 ·
  by_cases e : s = OB + j
  ·
   subst e
   rw [zY]
   refine ⟨g, fun h => absurd h (by omega), zAt _ _ _, hm, cs', E, setRow_heap w g cs cs' E _ hg, hlen, fun i x hi => ?_⟩
   obtain ⟨d, rfl, u, h2, h3⟩ := hc i x hi
   exact ⟨rfl, u, h2, h3⟩
  ·
   rw [zK e]
   exact RepA.keep K (fun _ => e) (fun b off _ hb => ⟨fun e' => by have : b = OB + j := e'; omega, fun ⟨l', hl'⟩ => ⟨l', by rw [zK (by omega), hl']⟩⟩) (I.slots s)
theorem zHO (S : Nat → A) (b : Nat) (x y : A) : upd (upd S b x) b y = upd S b y := by
 funext t
 unfold upd
 split <;> rfl
end
end Go.Proofs.YtjomnccladjpgaaGreat

/-
 The rules of objects, as a walk uses them.
-/
namespace Go.Proofs.YtjomnccladjpgaaGreat
open Go Go.RowKit
set_option linter.unusedVariables false
def renL (j c : Nat) : SL → SL
 | [] => []
 | (s, x) :: r => (s, rnA j c x) :: renL j c r
theorem zHF (j c : Nat) : ∀ (L : SL) (t : Nat), gt (renL j c L) t = rnA j c (gt L t)
 | [], t => rfl
 | (s, x) :: r, t => by
  show gt ((s, _) :: renL j c r) t = _
  rw [qV, qV]
  unfold upd
  by_cases h : t = s
  · subst h; rw [if_pos rfl, if_pos rfl]
  · rw [if_neg h, if_neg h, zHF j c r t]
theorem san_rn (j c : Nat) (x : A) : san (rnA j c x) = rnA j c (san x) := by
 cases x with
 | ref b off => show san (bif Nat.beq b (OB + j) then A.t (.hpt c off) else .ref b off) = .any; cases Nat.beq b (OB + j) <;> rfl
 | _ => rfl
section
variable {P : Program} {pins : List Nat} {N : Nat} {S M : Nat → A} {op : Oper} {e : Eff} {d c : Nat} {f f' : Nat → A} {L : SL}
theorem OpH.pub {L1 : SL} {f1 f2 : Nat → A} {j : Nat} {la : List T} (h : OpH P pins N op S (gt L1)) (hk : gt L1 HK = .hp f1) (hb : gt L1 (OB + j) = .box la) (hc : (Nat.blt (j + 1) OB && !pins.contains (OB + j)) = true) (c6 : noPt la = true) (hfree : f1 c = .free) (hf2 : ∀ k, f2 k = if k = c then .box la else rnA j c (f1 k)) :
  OpH P pins N op S (gt ((HK, .hp f2) :: (OB + j, .free) :: renL j c L1)) := by
 simp only [Bool.and_eq_true, Bool.not_eq_true', List.contains_eq_mem, decide_eq_false_iff_not] at hc
 obtain ⟨c2, c3⟩ := hc
 have c2 : j + 1 < OB := by simpa using c2
 have e1 : OB + j < OB2 := by unfold OB OB2 at *; omega
 have e2 : OB + j ≠ HK := by unfold HK; unfold OB at *; omega
 intro hN hl
 obtain ⟨h, hl1⟩ := h hN hl
 have hlr : Low (gt (renL j c L1)) := fun t ht => by rw [zHF, hl1 t ht]; rfl
 have hl2 : Low (gt ((HK, .hp f2) :: (OB + j, .free) :: renL j c L1)) := by
  rw [qV, qV]
  exact (hlr.upd e1).upd zHu
 refine ⟨?_, hl2⟩
 have he : hx (gt ((HK, .hp f2) :: (OB + j, .free) :: renL j c L1)) = upd (fun t => if t = OB + j then .free else if t = OB + (OB + c) then .box la else rnA j c (hx (gt L1) t)) HK (.hp f2) := by
  have hkk : gt ((HK, .hp f2) :: (OB + j, .free) :: renL j c L1) HK = .hp f2 := by rw [qV, zY]
  funext t
  by_cases e : t = HK
  ·
   subst e
   rw [zY]
   exact zCe hkk (by simp)
  ·
   rw [zK e]
   rcases Nat.lt_or_ge t OB2 with h2 | h2
   ·
    rw [zEP h2, qV, zK e, qV]
    unfold upd
    by_cases e3 : t = OB + j
    · rw [if_pos e3, if_pos e3]
    · rw [if_neg e3, if_neg e3, if_neg (by unfold OB OB2 at *; omega), zHF, zEP h2]
   ·
    obtain ⟨k, rfl⟩ : ∃ k, t = OB2 + k := ⟨t - OB2, by omega⟩
    rw [if_neg (by unfold OB OB2 at *; omega), zCZ, zE3 hl2 hkk, hf2]
    by_cases e3 : k = c
    · subst e3; rw [if_pos rfl, if_pos rfl]; rfl
    · rw [if_neg e3, if_neg (by omega), zE3 hl1 hk, san_rn]
 rw [he]
 intro w0 m0 o0 G a w m o hNa I K Q hK
 refine h w0 m0 o0 G a w m o hNa I K Q fun a' w' m' o' hN' I' => ?_
 obtain ⟨o2, J⟩ := I'.pub (j := j) (c := c) (la := la) (by omega) c3 (by rw [zE3 hl1 hk, hfree]; rfl) (zCe hb (by simp)) (zIa c6) (S' := fun t => if t = OB + j then .free else if t = OB + (OB + c) then .box la else rnA j c (hx (gt L1) t)) (if_pos rfl) (by
  show (if OB + (OB + c) = OB + j then _ else _) = _
  rw [if_neg (by omega), if_pos rfl]) (fun t h1 h2 => by
  show (if t = OB + j then _ else _) = _
  rw [if_neg h1, if_neg h2])
 refine hK a' w' m' o2 hN' (J.hk (f := f1) ?_ f2)
 show (if HK = OB + j then _ else if HK = OB + (OB + c) then _ else rnA j c (hx (gt L1) HK)) = _
 rw [if_neg (Ne.symm e2), if_neg (by unfold HK OB; omega), zCe hk (by simp)]
 rfl
theorem lo_of {j : Nat} (h : Nat.blt (j + 1) OB = true) : OB + j < OB2 ∧ OB + j ≠ HK ∧ j < OB := by
 have h : j + 1 < OB := by simpa using h
 refine ⟨by unfold OB OB2 at *; omega, by unfold HK; unfold OB at *; omega, by omega⟩
theorem zKr (hM : Mk M S) {j t e q E : Nat} {xn xc : Operand} {kl kc : IntKind} {n : Int} {ie : TypeInfo} {z : Value} {c0 l : List T} (hop : op.op = .makeSlice t xn xc) (hn : vO M xn = some (.int kl n)) (hc : vO M xc = some (.int kc n)) (hu : P.underlying t = some (.slice e)) (hie : P.info? e = some ie) (hz : ie.zero = some z)
  (hc0 : zFp (litA z) = some c0) (hsz : c0.length = ie.size) (hE : ie.size = E) (hq : mkI ie.bytes n = some q) (hl : fl (fun _ => c0) (List.replicate q ()) = l) (hd : op.dst = some d) (hok : okD N pins S d = true) (hj : Nat.blt (j + 1) OB = true) (hfree : M (OB + j) = .free) :
  OpH P pins N op S (app S [(OB + j, .box l), (d, .t (.view j 0 e E q))]) := by
 subst hl hE
 intro hN hlo
 obtain ⟨e1, e2, e3⟩ := lo_of hj
 have hdO := qX hN hok
 have hfr : hx S (OB + j) = .free := by
  rcases hM (OB + j) with e | e
  · rw [e] at hfree; cases hfree
  · rw [e] at hfree; exact zCe hfree (by simp)
 refine ⟨?_, (hlo.upd e1).upd (lt2 hdO)⟩
 show OpOK P pins N op (hx S) (hx (upd (upd S (OB + j) _) d _))
 rw [zD3 (lt2 hdO) (by unfold HK; unfold OB at hdO; omega), zD3 e1 e2]
 exact ok_make hM.hx hop hn hc hu hie hz hc0 hsz hq hd (yM hN hok) (by simpa using hdO) hfr
theorem h_lix (hM : Mk M S) {j off E k n t e : Nat} {x i : Operand} {ki : IntKind} {z : Int} {ie : TypeInfo} {y : A} (hop : op.op = .indexAddr t x i) (hx : cpO M x = .t (.view j off E k n)) (hi : vO M i = some (.int ki z)) (hu : P.underlying t = some (.slice e)) (hie : P.info? e = some ie) (hz : 0 ≤ z ∧ z < n) (hy : A.ref (OB + j) (off + z.toNat * ie.size) = y) (hd : op.dst = some d) (hok : okD N pins S d = true) : OpH P pins N op S (app S [(d, y)]) := by
 subst hy
 exact .of (e := [(d, _)]) fun hN => ⟨ok_ixv hM.hx hop hx hi hu hie hz hd (yM hN hok), zB3 (qX hN hok)⟩
theorem h_lst (hM : Mk M S) {t b off : Nat} {x y : Operand} (hop : op.op = .store t x y) (hd : op.dst = none) {i : TypeInfo} (hi : P.info? t = some i) (hx : cpO M x = .ref b off) {l l' : List T} (hb : M b = .box l) {q : List T} (hc : zDU (cpO M y) = some q) (hsz : q.length = i.size) (hle : off + i.size ≤ l.length) (hl' : yA l off q = l') : OpH P pins N op S (app S [(b, .box l')]) := by
 subst hl'
 refine .of (e := [(b, _)]) fun _ => ⟨zIK hM.hx hop hd hi hx hb hc hsz hle, fun z hz => ?_⟩
 simp at hz
 subst hz
 exact .inr ⟨zI9 hM hb rfl, rfl⟩
theorem h_lln (hM : Mk M S) {j off E k n t e : Nat} {x : Operand} {y : A} (hop : op.op = .call { callee := .builtin .len, args := #[x], argTypes := #[t] }) (hx : cpO M x = .t (.view j off E k n)) (hu : P.underlying t = some (.slice e)) (hy : A.t (.d (.lit (.int .i64 n))) = y) (hd : op.dst = some d) (hok : okD N pins S d = true) : OpH P pins N op S (app S [(d, y)]) := by
 subst hy
 exact .of (e := [(d, _)]) fun hN => ⟨ok_lnv hM.hx hop hx hu hd (yM hN hok), zB3 (qX hN hok)⟩
theorem zIi (hM : Mk M S) {j off E k n t e : Nat} {x : Operand} {lo hi : Option Operand} {l0 h0 : Option Int} {ie : TypeInfo} {off' n' : Nat} (hop : op.op = .slice t x lo hi none) (hx : cpO M x = .t (.view j off E k n)) (hk : ie.size = k) (hlo : bndO M lo = some l0) (hhi : bndO M hi = some h0) (hu : P.underlying t = some (.slice e)) (hie : P.info? e = some ie)
  (hc : 0 ≤ l0.getD 0 ∧ l0.getD 0 ≤ h0.getD n ∧ h0.getD n ≤ n) (ho : off + (l0.getD 0).toNat * ie.size = off') (hn' : (h0.getD n).toNat - (l0.getD 0).toNat = n') (hd : op.dst = some d) (hok : okD N pins S d = true) : OpH P pins N op S (app S [(d, .t (.view j off' E k n'))]) :=
 .of (e := [(d, _)]) fun hN => ⟨ok_slv hM.hx hop hx hk hlo hhi hu hie hc ho hn' hd (yM hN hok), zB3 (qX hN hok)⟩
end
section
variable {P : Program} {pins : List Nat} {N : Nat} {l0 : List Oper} {Q : SL → Prop} {r : List Oper} {op : Oper} {L : SL} {acc : List (List Nat × List Nat)} {T : List Nat}
theorem d_h {e : Eff} {ks : List Nat} {L' : SL} (hT : zC6 (HK :: zDS l0.toArray (gt L) op) some = some T) (hy : dyes l0 op L T) (hks : keys e = ks) (hk : ks.all T.contains = true)
  (h : ∀ S', Mk (mask T (gt L)) S' → S' HK = gt L HK → (∀ d, T.contains d = true → okD N pins (gt L) d = true → okD N pins S' d = true) → OpH P pins N op S' (app S' e)) (hL : setL L e = L') (k : DOK P pins N l0 Q r ((T, ks) :: acc) L') : DOK P pins N l0 Q (op :: r) acc L := by
 have hT := zFh hT
 subst hL hks
 have h' : ∀ S', (∀ t ∈ T, S' t = gt L t) → OpH P pins N op S' (app S' e) := fun S' hS => h S' (zFP hS) (hS HK (by rw [← hT]; exact .head _)) fun d hd hok => by
  unfold okD at hok ⊢
  rw [hS d (by simpa using hd)]
  exact hok
 refine ⟨T, e, ⟨all_T hk, ?_⟩, k⟩
 rcases hy with hg | ⟨j, want, t, c, h1, h2, h3, h4, h5⟩
 · exact .inl ⟨hg, h'⟩
 · exact .inr ⟨j, want, t, h1, h2, by simpa using h3, .inl ⟨by rw [h4, h5], h'⟩⟩
theorem d_hm (X : List Nat) {e : Eff} {ks : List Nat} {L' : SL} (hT : zC6 (HK :: (X ++ zDS l0.toArray (gt L) op)) some = some T) (hy : dyes l0 op L T) (hks : keys e = ks) (hk : ks.all T.contains = true)
  (h : ∀ S', Mk (mask T (gt L)) S' → S' HK = gt L HK → (∀ d, T.contains d = true → S' d = gt L d) → (∀ d, T.contains d = true → okD N pins (gt L) d = true → okD N pins S' d = true) → OpH P pins N op S' (app S' e)) (hL : setL L e = L') (k : DOK P pins N l0 Q r ((T, ks) :: acc) L') : DOK P pins N l0 Q (op :: r) acc L := by
 have hT := zFh hT
 subst hL hks
 have h' : ∀ S', (∀ t ∈ T, S' t = gt L t) → OpH P pins N op S' (app S' e) := fun S' hS => h S' (zFP hS) (hS HK (by rw [← hT]; exact .head _)) (fun d hd => hS d (by simpa using hd)) fun d hd hok => by
  unfold okD at hok ⊢
  rw [hS d (by simpa using hd)]
  exact hok
 refine ⟨T, e, ⟨all_T hk, ?_⟩, k⟩
 rcases hy with hg | ⟨j, want, t, c, h1, h2, h3, h4, h5⟩
 · exact .inl ⟨hg, h'⟩
 · exact .inr ⟨j, want, t, h1, h2, by simpa using h3, .inl ⟨by rw [h4, h5], h'⟩⟩theorem cons_eq {α : Type} {a b : α} {l l' : List α} (h : a = b) (k : l = l') : a :: l = b :: l' := by rw [h, k]
end
end Go.Proofs.YtjomnccladjpgaaGreat

/-
 The heap as models tell it; rules for walks that a program writes, of functions that read and write the heap.
-/
namespace Go.Proofs.YtjomnccladjpgaaGreat
open Go Go.RowKit
set_option linter.unusedVariables false
def ptM {α : Type} (p : Option Nat) (a : Option α) (b : Nat → Option α) : Option α := match p with
 | none => a
 | some i => b i
theorem zQ {α : Type} {p : Option Nat} {a : Option α} {b : Nat → Option α} {r : α} (h : ptM p a b = some r) : (p = none ∧ a = some r) ∨ ∃ i, p = some i ∧ b i = some r := by
 cases p with
 | none => exact .inl ⟨rfl, h⟩
 | some i => exact .inr ⟨i, rfl, h⟩
def lenI (n m : Nat) : Option Unit := if n = m then some () else none
theorem zCM {n m : Nat} {u : Unit} (h : lenI n m = some u) : n = m := by
 unfold lenI at h
 by_cases e : n = m
 · exact e
 · rw [if_neg e] at h; cases h
def cd (t i : Nat) : Nat := i * 64 + t
theorem zKV {t i : Nat} (h : t < 64) : cd t i % 64 = t := by unfold cd; omega
theorem cd_div {t i : Nat} (h : t < 64) : cd t i / 64 = i := by unfold cd; omega
def ptT (t : Nat) : Option Nat → T
 | none => .d (.lit (.pointer none))
 | some i => .hpt (cd t i) 0
theorem zCx {t i : Nat} {p : Option Nat} (h : p = some i) : ptT t p = .hpt (cd t i) 0 := by rw [h]; rfl
theorem zGa (t : Nat) (p : Option Nat) : (ptT t p).isLoc = false := by cases p <;> rfl
theorem zHh {τ : List Nat} (t : Nat) (p : Option Nat) : PtR τ (ptT t p) (ptT t p) := by
 cases p with
 | none => exact .flat rfl
 | some i => exact .hpt _ _
theorem ptT_arg {σ : List Nat} (t : Nat) (p : Option Nat) : ArgH σ (.t (ptT t p)) (.t (ptT t p)) := by
 cases p with
 | none => exact .plain (.refl _) rfl
 | some i => exact .hpt _ _
theorem zEw (t : Nat) (p : Option Nat) : cpT (ptT t p) = ptT t p := by cases p <;> rfl
theorem zH2 : List.map cpT [] = [] := rfl
theorem zDn {a a' : T} {l l' : List T} (h : cpT a = a') (hl : List.map cpT l = l') : List.map cpT (a :: l) = a' :: l' := by rw [List.map_cons, h, hl]
theorem zI {M : Nat → A} {s t : Nat} {p : Option Nat} (h : M s = .t (ptT t p)) : cpO M (.tmp s) = .t (ptT t p) := by
 unfold cpO
 simp only [h]
 cases p <;> rfl
theorem qO {M : Nat → A} {σ : List Nat} {s t : Nat} {p : Option Nat} (h : M s = .t (ptT t p)) : ArgH σ (cpO M (.tmp s)) (.t (ptT t p)) := by rw [zI h]; exact ptT_arg t p
theorem qI (t : Nat) (p : Option Nat) : norH (ptT t p) = some (.t (ptT t p)) := by cases p <;> rfl
theorem zCz {M : Nat → A} {s t : Nat} {p : Option Nat} (h : M s = .t (ptT t p)) (hp : p = none) : ptrN (cpO M (.tmp s)) = some true := by rw [zI h, hp]; rfl
theorem zC2 {M : Nat → A} {s t i : Nat} {p : Option Nat} (h : M s = .t (ptT t p)) (hp : p = some i) : ptrN (cpO M (.tmp s)) = some false := by rw [zI h, hp]; rfl
theorem qM {t i : Nat} {p : Option Nat} (h : p = some i) : A.t (ptT t p) = .t (.hpt (cd t i) 0) := by rw [h]; rfl
theorem qL {t : Nat} {p : Option Nat} (h : p = none) : A.t (ptT t p) = .t (.d (.lit (.pointer none))) := by rw [h]; rfl
def hpF (g : Nat → Nat → A) : Nat → A := fun c => g (c % 64) (c / 64)
theorem zDT {g : Nat → Nat → A} {t i : Nat} (h : t < 64) : hpF g (cd t i) = g t i := by unfold hpF; rw [zKV h, cd_div h]
theorem zCK {g g' : Nat → Nat → A} {t i : Nat} {x : A} (ht : t < 64) (h1 : g' t i = x) (h2 : ∀ t' j, ¬ (t' = t ∧ j = i) → g' t' j = g t' j) : hpF g' = updF (hpF g) (cd t i) x := by
 funext c
 unfold hpF updF
 by_cases e : c = cd t i
 ·
  subst e
  rw [if_pos rfl, zKV ht, cd_div ht, h1]
 ·
  rw [if_neg e]
  refine h2 _ _ fun ⟨e1, e2⟩ => e ?_
  unfold cd
  omega
theorem hpF_pure {g : Nat → Nat → A} (h : ∀ t i l, g t i = .box l → ∀ x ∈ l, x.isLoc = false) : zGM (hpF g) := fun c l hl => h _ _ l hl
theorem rn_pure {x : A} (h : ∀ l, x = .box l → ∀ y ∈ l, y.isLoc = false) (hx : san x = x) (j c : Nat) : rnA j c x = x := by
 cases x with
 | box l =>
  show A.box (l.map (rnT j c)) = _
  congr 1
  conv => rhs; rw [← List.map_id l]
  refine List.map_congr_left fun y hy => ?_
  have := h l rfl y hy
  cases y <;> first | rfl | (cases this; done) | (rename_i i; have this : Nat.blt i OB = false := this; show (bif Nat.blt i OB && Nat.beq i j then T.mpt (OB + c) else .mpt i) = _; rw [this]; rfl)
 | free => rfl
 | mp l => rfl
 | any => rfl
 | rcd b u mE oE => rfl
 | _ => cases hx
def arA {α : Type} (l : List α) (f : Nat → α → List T) (i : Nat) : A := match l[i]? with
 | some x => .box (f i x)
 | none => .free
section
variable {α : Type} {l : List α} {f : Nat → α → List T} {i : Nat} {x x' : α}
theorem zEs (h : l[i]? = some x) : arA l f i = .box (f i x) := by unfold arA; rw [h]
theorem zGt {j : Nat} (h : j ≠ i) : arA (l.set i x') f j = arA l f j := by unfold arA; rw [List.getElem?_set_ne (Ne.symm h)]
theorem zR (h : l[i]? = some x) : (l.set i x')[i]? = some x' := by
 rw [List.getElem?_set_self (List.getElem?_eq_some_iff.1 h).1]
theorem zGh (h : l[i]? = some x) : arA (l.set i x') f i = .box (f i x') := zEs (zR h)
theorem zED : arA l f l.length = .free := by unfold arA; rw [List.getElem?_eq_none (Nat.le_refl _)]
theorem zE9 : arA (l ++ [x]) f l.length = .box (f l.length x) := by
 unfold arA
 rw [List.getElem?_append_right (Nat.le_refl _)]
 simp
theorem zFD {j : Nat} (h : j ≠ l.length) : arA (l ++ [x]) f j = arA l f j := by
 unfold arA
 rcases Nat.lt_or_ge j l.length with h1 | h1
 · rw [List.getElem?_append_left h1]
 · rw [List.getElem?_eq_none (by simp; omega), List.getElem?_eq_none h1]
theorem zEE (h : ∀ i x, ∀ y ∈ f i x, y.isLoc = false) (q : List T) (e : arA l f i = .box q) : ∀ y ∈ q, y.isLoc = false := by
 unfold arA at e
 split at e
 · injection e with e; subst e; exact h _ _
 · cases e
end
theorem zFN {α : Type} (l : List α) (f : Nat → α → List T) (i : Nat) : san (arA l f i) = arA l f i := by unfold arA; split <;> rfl
def dT {α : Type} (c : α → List D) (a : α) : List T := (c a).map T.d
theorem zEV {α : Type} {c : α → List D} {k : Nat} (h : ∀ a, (c a).length = k) (a : α) : (dT c a).length = k := by unfold dT; rw [List.length_map, h]
theorem zEM {α : Type} (c : α → List D) (l : List α) : fl (dT c) l = ((l.map c).flatMap id).map T.d := by
 unfold fl dT
 induction l with
 | nil => rfl
 | cons a r ih => simp only [List.flatMap_cons, List.map_cons, List.map_append, id_eq, ih]
theorem fl_loc {α : Type} (c : α → List D) (l : List α) : ∀ y ∈ fl (dT c) l, y.isLoc = false := by
 intro y hy
 obtain ⟨a, _, h⟩ := List.mem_flatMap.1 hy
 obtain ⟨d, _, rfl⟩ := List.mem_map.1 h
 rfl
theorem zBp {α : Type} (c : α → List D) (l : List α) : noPt (fl (dT c) l) = true := by
 refine List.all_eq_true.2 fun y hy => ?_
 obtain ⟨a, _, h⟩ := List.mem_flatMap.1 hy
 obtain ⟨d, _, rfl⟩ := List.mem_map.1 h
 rfl
theorem zH6 {α : Type} {c : α → List D} {c0 : List T} {z : α} (h : dT c z = c0) (q : Nat) : fl (fun _ => c0) (List.replicate q ()) = fl (dT c) (List.replicate q z) := by
 unfold fl
 induction q with
 | zero => rfl
 | succ q ih => rw [List.replicate_succ, List.replicate_succ, List.flatMap_cons, List.flatMap_cons, ih, h]
theorem zEp {α : Type} {c : α → List D} {k : Nat} (h : ∀ a, (c a).length = k) (l : List α) : ∀ r ∈ l.map c, r.length = k := by
 intro r hr
 obtain ⟨a, _, rfl⟩ := List.mem_map.1 hr
 exact h a
theorem fl_at {α : Type} {c : α → List D} {l : List α} {z : Int} {y : α} (h : idx l z = some y) {d : D} (hd : c y = [d]) (hc : ∀ a, (c a).length = 1) : (fl (dT c) l)[0 + z.toNat * 1]? = some (.d d) := by
 have := zJq (c := dT c) (k := 1) (zEV hc) (zFQ h).2.2 (q := 0) (by omega)
 rw [Nat.zero_add]
 rw [Nat.add_zero] at this
 rw [this]
 unfold dT
 rw [hd]
 rfl
theorem zKS {α : Type} {c : α → List D} {l : List α} {z : Int} {y : α} (h : idx l z = some y) (v : α) (hc : ∀ a, (c a).length = 1) {q : List T} (hq : dT c v = q) : yA (fl (dT c) l) (0 + z.toNat * 1) q = fl (dT c) (l.set z.toNat v) := by
 have hl : q.length = 1 := by rw [← hq]; exact zEV hc v
 have := zJS (c := dT c) (k := 1) (zEV hc) (zFQ h).2.2 (q := 0) (b := v) (d := q) (by
  unfold yA
  rw [hq, hl, List.take_zero, List.nil_append, List.drop_of_length_le (by rw [zEV hc]; omega), List.append_nil]) (by omega)
 rw [Nat.zero_add]
 rw [Nat.add_zero] at this
 exact this
theorem zIs {α : Type} {c : α → List D} {l : List α} {z : Int} {y : α} (h : idx l z = some y) (hc : ∀ a, (c a).length = 1) : 0 + z.toNat * 1 + 1 ≤ (fl (dT c) l).length := by
 have h1 := zFQ h
 rw [zF7 (zEV hc)]
 omega
theorem idxV {α : Type} {l : List α} {z : Int} {y : α} {n : Nat} (hn : l.length = n) (h : idx l z = some y) : 0 ≤ z ∧ z < (n : Int) := by
 subst hn
 exact ⟨(zFQ h).1, (zFQ h).2.1⟩
section
variable {P : Program} {pins : List Nat} {N : Nat} {S M : Nat → A} {op : Oper} {d c : Nat}
theorem ok_hnc (hM : Mk M S) {off : Nat} {x : Operand} {z : T} (hop : op.op = .nilCheck x) (hx : cpO M x = .t z) (hz : z = .hpt c off) (hd : op.dst = some d) (hok : okD N pins S d = true) : OpOK P pins N op S (upd S d (.t (.hpt c off))) := by
 subst hz
 refine zFw hM hd hok ?_
 rw [hop]
 show (match cpO M x with | .imm l => some (A.imm l) | .ref b off => some (.ref b off) | .t (.hpt c off) => some (.t (.hpt c off)) | _ => none) = _
 rw [hx]
theorem h_nc (hM : Mk M S) {off : Nat} {x : Operand} {z : T} (hop : op.op = .nilCheck x) (hx : cpO M x = .t z) (hz : z = .hpt c off) (hd : op.dst = some d) (hok : okD N pins S d = true) : OpH P pins N op S (app S [(d, .t (.hpt c off))]) :=
 .of (e := [(d, _)]) fun hN => ⟨ok_hnc hM.hx hop hx hz hd (yM hN hok), zB3 (qX hN hok)⟩
theorem h_mv (hM : Mk M S) {x : Operand} {y : A} (hop : op.op = .move x ∨ op.op = .assign x) (hx : cpO M x = y) (hd : op.dst = some d) (hok : okD N pins S d = true) : OpH P pins N op S (app S [(d, y)]) := by
 refine .of (e := [(d, _)]) fun hN => ⟨zFw hM.hx hd (yM hN hok) ?_, zB3 (qX hN hok)⟩
 rcases hop with e | e <;> (rw [e]; show some (cpO M x) = _; rw [hx])
end
def fgtL : List Nat → SL → SL
 | [], L => L
 | j :: r, L => fgtL r ((OB + j, .free) :: zEO j HK L)
def fgtB (pins : List Nat) : List Nat → SL → Bool
 | [], _ => true
 | j :: r, L => Nat.blt (j + 1) OB && !pins.contains (OB + j) && zIA j HK L && fgtB pins r ((OB + j, .free) :: zEO j HK L)
section
variable {P : Program} {pins : List Nat} {N : Nat} {Q : Exit → SL → Prop} {L L' : SL}
theorem St.fgt1 {w0 : World} {m0 : Mem} {o0 : OwnM} {G : GD} {a : Act} {w : World} (hS : St w0 m0 o0 G pins N L a w) {j : Nat} (hc : (Nat.blt (j + 1) OB && !pins.contains (OB + j) && zIA j HK L) = true) (hh : zJW L) : St w0 m0 o0 G pins N ((OB + j, .free) :: zEO j HK L) a w := by
  simp only [Bool.and_eq_true, Bool.not_eq_true', List.contains_eq_mem, decide_eq_false_iff_not] at hc
  obtain ⟨⟨c2, c3⟩, c6⟩ := hc
  have c2 : j + 1 < OB := by simpa using c2
  obtain ⟨hN, hlo, m, o, I⟩ := hS
  have hL2 : ∀ s, gt (zEO j HK L) s = gt L s ∨ (gt (zEO j HK L) s = .any ∧ (gt L s).isBox = false) := fun s => by
    rw [zEn]
    cases hm : (Nat.blt s OB && (zDw j (gt L s) && !Nat.beq s HK)) with
    | true => exact .inr ⟨rfl, zHo c6 s hm⟩
    | false => exact .inl rfl
  have hk2 : gt (zEO j HK L) HK = gt L HK := zDd L (by unfold HK OB; omega)
  obtain ⟨hlo2, hx2⟩ := hx_less hlo hk2 hL2
  have I2 := I.less hx2
  have hm : ∀ s, zDw j (hx (gt (zEO j HK L)) s) = false := fun s => by
    rcases Nat.lt_or_ge s OB2 with h3 | h3
    · rw [zEP h3]
      rcases Nat.lt_or_ge s OB with h4 | h4
      · rw [zEn]
        have hsd : Nat.beq s HK = false := by
          cases hb : Nat.beq s HK with
          | false => rfl
          | true => have := Nat.eq_of_beq_eq_true hb
                    unfold HK at this; unfold OB at h4
                    omega
        have hso : Nat.blt s OB = true := by simpa using h4
        rw [hsd, hso]
        cases hm : zDw j (gt L s) with
        | true => rfl
        | false => exact hm
      · rw [zDd L h4]; exact hh.2 s h4 j
    · obtain ⟨k, rfl⟩ : ∃ k, s = OB2 + k := ⟨s - OB2, by omega⟩
      exact zI5 hlo2 (by rw [hk2]; exact hh.1) k
  have e1 : OB + j < OB2 := by unfold OB OB2 at *; omega
  have e2 : OB + j ≠ HK := by unfold HK; unfold OB at *; omega
  refine ⟨hN, ?_, m, zHq o j, ?_⟩
  · rw [qV]
    exact hlo2.upd e1
  · rw [qV, zD3 e1 e2]
    exact I2.forget (by omega) c3 hm
theorem heapP_fgt {j : Nat} (hj : Nat.blt (j + 1) OB = true) (hh : zJW L) : zJW ((OB + j, .free) :: zEO j HK L) := by
 have h2 := (lo_of hj).2.1
 have e : gt ((OB + j, .free) :: zEO j HK L) HK = gt L HK := by
  rw [qV, zK (Ne.symm h2), zDd L (by unfold HK OB; omega)]
 unfold zJW
 rw [e]
 exact ⟨hh.1, hh.2.fgt⟩
theorem St.fgt {w0 : World} {m0 : Mem} {o0 : OwnM} {G : GD} {a : Act} {w : World} (js : List Nat) : ∀ (L : SL), St w0 m0 o0 G pins N L a w → fgtB pins js L = true → zJW L → St w0 m0 o0 G pins N (fgtL js L) a w := by
 induction js with
 | nil => exact fun L h _ _ => h
 | cons j r ih =>
  intro L h hb hh
  unfold fgtB at hb
  rw [Bool.and_eq_true] at hb
  have hj : Nat.blt (j + 1) OB = true := by have := hb.1; simp only [Bool.and_eq_true] at this; exact this.1.1
  exact ih _ (h.fgt1 hb.1 hh) hb.2 (heapP_fgt hj hh)
theorem WkA.vwn {j off E k n n' : Nat} (h : n = n') : WkA (.t (.view j off E k n)) (.t (.view j off E k n')) := by rw [h]; exact .refl _
theorem WkA.of_eq {x y : A} (h : x = y) : WkA x y := by rw [h]; exact .refl _
end
theorem fc_of_h {P : Program} {fn : FuncId} {args : List A} {f f' : Nat → A} {r : A} (hf : FCH P fn args [] [] f f' r) (h0 : ∀ c, san (f c) = .free) (hp : args.all A.plain = true) (hle : args.length ≤ OB) : FC P fn args [] r := by
 intro w m o vals hsat htbl hlt hinj hsz hrep
 refine (hf w m o vals hsat htbl (fun g l h => (hlt g l h).1) hinj hsz fun s => ?_).mono ?_
 ·
  unfold argH
  split
  ·
   rename_i h
   have h1 := hrep s
   unfold argS at h1
   rw [List.getD_eq_getElem?_getD] at h1 ⊢
   cases hx : args[s]? with
   | none => trivial
   | some x =>
    rw [hx] at h1
    exact zFM (List.all_eq_true.1 hp x (List.mem_of_getElem? hx)) h1
  ·
   rename_i h
   have key : RepA m w o (fun s => if s < OB then args.getD s .any else if OB2 ≤ s then san (f (s - OB2)) else match ([] : List A)[s - OB]? with | some x => x | none => .free) s .free (vals.getD s undef) := fun g k e => h (hlt g _ e).2
   split
   · rw [h0]; exact key
   · exact key
 ·
  rintro e w' ⟨u, m', o', S', a', ρ, h1, h2, h3, _⟩
  rw [zIF hp]
  exact ⟨u, m', o', S', a', ρ, h1, h2, h3, fun i l h => by cases h⟩
theorem isE_ne {α : Type} {l : List α} (h : l.isEmpty = false) : l ≠ [] := fun e => by rw [e] at h; cases h
end Go.Proofs.YtjomnccladjpgaaGreat

/-
 Slices that grow and are written: an object that need not be there while the slice is empty.
-/
namespace Go.Proofs.YtjomnccladjpgaaGreat
open Go Go.RowKit
set_option linter.unusedVariables false
def gbA {α : Type} (c : α → List D) : List α → A
 | [] => .free
 | a :: l => .box (fl (dT c) (a :: l))
theorem ob_gb {α : Type} (c : α → List D) (y : List α) (j : Nat) : zDw j (gbA c y) = false := by
 cases y with
 | nil => rfl
 | cons a l => exact zIG (zBp c _) j
theorem zHk {α : Type} {c : α → List D} {l : List α} {z : Int} {y : α} {k q : Nat} (h : idx l z = some y) (v : α) (hc : ∀ a, (c a).length = k) {x : List T} (hx : yA (dT c y) q x = dT c v) (hq : Nat.ble (q + x.length) k = true) : yA (fl (dT c) l) (0 + z.toNat * k + q) x = fl (dT c) (l.set z.toNat v) := by
 have := zJS (c := dT c) (k := k) (zEV hc) (zFQ h).2.2 (q := q) (b := v) (d := x) hx (by simpa using hq)
 rw [Nat.zero_add]
 exact this
theorem zFZ {α : Type} {c : α → List D} {l : List α} {z : Int} {y : α} {k q n : Nat} (h : idx l z = some y) (hc : ∀ a, (c a).length = k) (hq : Nat.ble (q + n) k = true) : 0 + z.toNat * k + q + n ≤ (fl (dT c) l).length := by
 have h1 := zFQ h
 rw [zF7 (zEV hc)]
 have h2 : z.toNat + 1 ≤ l.length := by omega
 have h3 := Nat.mul_le_mul_right k h2
 rw [Nat.succ_mul] at h3
 have h4 : q + n ≤ k := by simpa using hq
 omega
def NoM (j : Nat) (ex : List Nat) (L : SL) : Prop := ∀ s, ex.contains s = false → zDw j (gt L s) = false
theorem NoM.nil {j : Nat} {ex : List Nat} : NoM j ex [] := fun _ _ => rfl
theorem NoM.cons {j : Nat} {ex : List Nat} {s : Nat} {x : A} {L : SL} (h : zDw j x = false) (hr : NoM j (s :: ex) L) : NoM j ex ((s, x) :: L) := fun t ht => by
 rw [qV]
 unfold upd
 by_cases e : t = s
 · rw [if_pos e]; exact h
 ·
  rw [if_neg e]
  exact hr t (by rw [List.contains_cons, ht, Bool.or_false]; exact beq_eq_false_iff_ne.2 e)
theorem NoM.skip {j : Nat} {ex : List Nat} {s : Nat} {x : A} {L : SL} (h : ex.contains s = true) (hr : NoM j ex L) : NoM j ex ((s, x) :: L) := fun t ht => by
 rw [qV]
 unfold upd
 by_cases e : t = s
 · rw [e, h] at ht; cases ht
 · rw [if_neg e]; exact hr t ht
section
variable {w0 : World} {m0 : Mem} {o0 : OwnM} {G : GD} {pins : List Nat} {S M : Nat → A} {P : Program} {N : Nat} {Q : Exit → SL → Prop} {L : SL} {op : Oper} {d : Nat}
theorem NoM.get {j : Nat} {ex : List Nat} (h : NoM j ex L) : ∀ s, ex.contains s = false → zDw j (gt L s) = false := h
end
end Go.Proofs.YtjomnccladjpgaaGreat

/-
 A call's own slice, told as a slice of a local object; the greater of two numbers.
-/
namespace Go.Proofs.YtjomnccladjpgaaGreat
open Go Go.RowKit
set_option linter.unusedVariables false
def D.isLit : D → Bool | .lit _ => true | _ => false
section
variable {w0 : World} {m0 : Mem} {o0 : OwnM} {G : GD} {pins : List Nat} {S M : Nat → A} {a : Act} {w : World} {m : Mem} {o : OwnM} {P : Program} {N : Nat} {op : Oper} {d : Nat}
theorem h_max (hM : Mk M S) {ts : Array TypeId} {x y : Operand} {k ky : IntKind} {a b : Int} (hop : op.op = .call { callee := .builtin .max, args := #[x, y], argTypes := ts }) (hx : vO M x = some (.int k a)) (hy : vO M y = some (.int ky b)) (hd : op.dst = some d) (hok : okD N pins S d = true) : OpH P pins N op S (app S [(d, .t (.d (.lit (.int k (if b > a then b else a)))))]) := by
 refine .of (e := [(d, _)]) fun hN => ⟨?_, zB3 (qX hN hok)⟩
 refine zW fun w0 m0 o0 G ac w m o hN' I => ?_
 obtain ⟨h1, h2, h3⟩ := qH (yM hN hok)
 refine ⟨.int k (if b > a then b else a), w, m, o, ?_, by rw [hd]; exact I.set d _ _ (by omega) h2 (.lit _ rfl)⟩
 unfold execOp
 rw [hop]
 simp only [resolve, invoke, builtin, Sem.run_bind, Sem.run_pure, Result.andThen_ok, List.map_toArray, List.map_cons, List.map_nil]
 rw [zCS hM.hx I hx, zCS hM.hx I hy]
 simp [Builtin.max_, Builtin.max2]
end
end Go.Proofs.YtjomnccladjpgaaGreat
