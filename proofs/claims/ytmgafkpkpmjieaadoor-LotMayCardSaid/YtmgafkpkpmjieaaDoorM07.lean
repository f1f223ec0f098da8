/-
  Texts joined: see the remark at the head of each part.
-/
import Derived.Test.YtmgafkpkpmjieaaDoorM06
set_option linter.unusedVariables false
set_option linter.unusedSimpArgs false
/-
 Local objects: slices that are made and written by index; forgotten, frozen.
-/
namespace Go.Proofs.YtmgafkpkpmjieaaDoor
open Go Go.RowKit
set_option linter.unusedVariables false
def fl {α β : Type} (c : α → List β) (x : List α) : List β := x.flatMap c
section
variable {α β : Type} {c : α → List β} {k : Nat}
theorem zEo (hc : ∀ a, (c a).length = k) (x : List α) : (fl c x).length = x.length * k := by
 unfold fl
 induction x with
 | nil => simp
 | cons a r ih => rw [List.flatMap_cons, List.length_append, hc, ih, List.length_cons, Nat.succ_mul]; omega
theorem zGN (hc : ∀ a, (c a).length = k) {x : List α} {i : Nat} (h : i < x.length) : fl c x = fl c (x.take i) ++ (c x[i] ++ fl c (x.drop (i + 1))) ∧ (fl c (x.take i)).length = i * k := by
 refine ⟨?_, by rw [zEo hc, List.length_take, Nat.min_eq_left (by omega)]⟩
 conv => lhs; rw [← List.take_append_drop i x, List.drop_eq_getElem_cons h]
 unfold fl
 rw [List.flatMap_append, List.flatMap_cons]
theorem fl_row (hc : ∀ a, (c a).length = k) {x : List α} {i : Nat} {a : α} (h : x[i]? = some a) : ((fl c x).drop (i * k)).take k = c a := by
 obtain ⟨hi, rfl⟩ := List.getElem?_eq_some_iff.1 h
 obtain ⟨e, hl⟩ := zGN (c := c) hc hi
 rw [e, ← hl, List.drop_left, List.take_append_of_le_length (by rw [hc]; exact Nat.le_refl _), List.take_of_length_le (by rw [hc]; exact Nat.le_refl _)]
theorem zHY (hc : ∀ a, (c a).length = k) {x : List α} {i q : Nat} {a : α} (h : x[i]? = some a) (hq : q < k) : (fl c x)[i * k + q]? = (c a)[q]? := by
 obtain ⟨hi, rfl⟩ := List.getElem?_eq_some_iff.1 h
 obtain ⟨e, hl⟩ := zGN (c := c) hc hi
 rw [e, List.getElem?_append_right (by omega), hl, Nat.add_sub_cancel_left, List.getElem?_append_left (by rw [hc]; exact hq)]
theorem fl_set (hc : ∀ a, (c a).length = k) {x : List α} {i : Nat} (h : i < x.length) (a : α) : fl c (x.set i a) = fl c (x.take i) ++ (c a ++ fl c (x.drop (i + 1))) := by
 rw [List.set_eq_take_append_cons_drop, if_pos h]
 unfold fl
 rw [List.flatMap_append, List.flatMap_cons]
theorem fl_splice (hc : ∀ a, (c a).length = k) {x : List α} {i q : Nat} {a b : α} {d : List β} (h : x[i]? = some a) (hd : yC (c a) q d = c b) (hq : q + d.length ≤ k) : yC (fl c x) (i * k + q) d = fl c (x.set i b) := by
 obtain ⟨hi, rfl⟩ := List.getElem?_eq_some_iff.1 h
 obtain ⟨e, hl⟩ := zGN (c := c) hc hi
 rw [fl_set hc hi, ← hd, e]
 unfold yC
 have hcl : (c x[i]).length = k := hc _
 have e1 : (fl c (x.take i) ++ (c x[i] ++ fl c (x.drop (i + 1)))).take (i * k + q) = fl c (x.take i) ++ (c x[i]).take q := by
  rw [← hl, List.take_length_add_append, List.take_append_of_le_length (by omega)]
 have e2 : (fl c (x.take i) ++ (c x[i] ++ fl c (x.drop (i + 1)))).drop (i * k + q + d.length) = (c x[i]).drop (q + d.length) ++ fl c (x.drop (i + 1)) := by
  rw [Nat.add_assoc, ← hl, List.drop_length_add_append, List.drop_append_of_le_length (by omega)]
 rw [e1, e2]
 simp [List.append_assoc]
end
theorem zDM {β : Type} {k : Nat} : ∀ {rs : List (List β)}, (∀ r ∈ rs, r.length = k) → (rs.flatMap id).length = rs.length * k
 | [], _ => by simp
 | r :: t, h => by
  rw [List.flatMap_cons, List.length_append, zDM fun x hx => h x (List.mem_cons_of_mem _ hx), List.length_cons, Nat.succ_mul]
  have : r.length = k := h r (by simp)
  show r.length + _ = _
  omega
theorem zB2 {β : Type} {k : Nat} : ∀ {rs : List (List β)} {i q : Nat} {r : List β}, (∀ r ∈ rs, r.length = k) → rs[i]? = some r → q < k → (rs.flatMap id)[i * k + q]? = r[q]?
 | [], i, q, r, _, h, _ => by simp at h
 | x :: t, i, q, r, h, hi, hq => by
  have hx : x.length = k := h x (by simp)
  rw [List.flatMap_cons]
  cases i with
  | zero =>
   injection hi with hi
   subst hi
   rw [Nat.zero_mul, Nat.zero_add]
   exact List.getElem?_append_left (by show q < x.length; omega)
  | succ i =>
   rw [Nat.succ_mul, List.getElem?_append_right (by show x.length ≤ _; omega)]
   have : i * k + k + q - (id x).length = i * k + q := by show i * k + k + q - x.length = _; omega
   rw [this]
   exact zB2 (fun r hr => h r (List.mem_cons_of_mem _ hr)) (by simpa using hi) hq
section
variable {w0 : World} {m0 : Mem} {o0 : OwnM} {G : GD} {pins : List Nat} {S M : Nat → A} {a : Act} {w : World} {m : Mem} {o : OwnM} {P : Program} {N : Nat}
theorem ok_make (hM : Mk M S) {op : Oper} {d j t e q : Nat} {xn xc : Operand} {kl kc : IntKind} {n : Int} {ie : TypeInfo} {z : Value} {c0 : List T} (hop : op.op = .makeSlice t xn xc) (hn : vO M xn = some (.int kl n)) (hc : vO M xc = some (.int kc n)) (hu : P.underlying t = some (.slice e)) (hie : P.info? e = some ie) (hz : ie.zero = some z)
  (hc0 : zDS (litA z) = some c0) (hsz : c0.length = ie.size) (hq : mkI ie.bytes n = some q) (hd : op.dst = some d) (hok : okD N pins S d = true) (hdO : Nat.blt d OB = true) (hfree : S (OB + j) = .free) :
  OpOK P pins N op S (app S [(OB + j, .box (fl (fun _ => c0) (List.replicate q ()))), (d, .t (.view j 0 e ie.size q))]) := by
 obtain ⟨q1, q2, q3, rfl⟩ := mkI_iff hq
 refine zP fun w0 m0 o0 G a w m o hN I => ?_
 obtain ⟨d1, d2, d3⟩ := qF hok
 have hdO : d < OB := by simpa using hdO
 have hcp : zC4 (litA z) = some c0 := by
  revert hc0
  generalize litA z = y
  intro hl
  cases y with
  | t y => cases y <;> first | exact hl | cases hl
  | _ => cases hl
 obtain ⟨k1, k2, k3⟩ := zCZ hcp (zB7 (m := m) (w := w) (o := o) (S := S) 0 z)
 have hrun := run_make (P := P) (w := w) t e ie z hu hie hz kl kc n n q1 (Int.le_refl _) q2 (by omega)
 have hsize : (madeCells z.cells (n.toNat * ie.size)).size = n.toNat * ie.size := size_madeCells _ _
 have J := I.obj_new (j := j) (l := fl (fun _ => c0) (List.replicate n.toNat ())) (cs := madeCells z.cells (n.toNat * ie.size)) (E := e) hfree ?_ fun i x hi => ?_
 ·
  refine ⟨.slice (some ⟨w.heap.size, 0, none⟩) n.toNat n.toNat, w.alloc (.cells (madeCells z.cells (n.toNat * ie.size)) e), m, newO o (OB + j) w.heap.size, ?_, ?_⟩
  ·
   unfold execOp
   rw [hop]
   simp only [Sem.run_bind]
   rw [zCG hM I hn, zCG hM I hc, hrun]
   rfl
  ·
   rw [hd]
   exact J.set d _ _ (by omega) (by rw [zI (by omega)]; exact d2) ⟨some ⟨w.heap.size, 0, none⟩, n.toNat, Nat.le_refl _, by unfold maxLen; omega, rfl, .inr ⟨w.heap.size, _, e, yZ _ _ _, rfl, heap_alloc_new w _, by rw [hsize]; omega, .inr rfl⟩⟩
 ·
  rw [hsize, zEo (k := ie.size) (fun _ => hsz), List.length_replicate]
  exact Nat.le_refl _
 ·
  have hlt : i < n.toNat * ie.size := by
   have := (List.getElem?_eq_some_iff.1 hi).1
   rw [zEo (k := ie.size) (fun _ => hsz), List.length_replicate] at this
   exact this
  have hpos : 0 < ie.size := Nat.pos_of_ne_zero fun e => by rw [e] at hlt; simp at hlt
  have hi1 : i / ie.size < n.toNat := Nat.div_lt_of_lt_mul (by rw [Nat.mul_comm]; exact hlt)
  have hi2 : i % ie.size < ie.size := Nat.mod_lt _ hpos
  have he : i / ie.size * ie.size + i % ie.size = i := by rw [Nat.mul_comm]; exact Nat.div_add_mod i ie.size
  have h2 := zHY (c := fun _ : Unit => c0) (k := ie.size) (fun _ => hsz) (x := List.replicate n.toNat ()) (i := i / ie.size) (q := i % ie.size) (a := ()) (by rw [List.getElem?_replicate, if_pos hi1]) hi2
  rw [he] at h2
  rw [h2] at hi
  obtain ⟨p1, u, p2, p3⟩ := k3 _ x hi
  refine ⟨zCt hcp x (List.mem_of_getElem? hi), u, ?_, p3 _ _ (zAq.refl w)⟩
  have hzs : z.cells.size = ie.size := by have := k1; simp at this; omega
  unfold madeCells
  rw [Array.getElem?_map, Array.getElem?_range, if_pos hlt]
  simp only [Option.map_some, hzs]
  have p2 : z.cells[i % ie.size]? = some u := by simpa using p2
  rw [getElem!_def, p2]
theorem ok_ixv (hM : Mk M S) {op : Oper} {d j off E k n t e : Nat} {x i : Operand} {ki : IntKind} {z : Int} {ie : TypeInfo} (hop : op.op = .indexAddr t x i) (hx : cpO M x = .t (.view j off E k n)) (hi : vO M i = some (.int ki z)) (hu : P.underlying t = some (.slice e)) (hie : P.info? e = some ie) (hz : 0 ≤ z ∧ z < n) (hd : op.dst = some d) (hok : okD N pins S d = true) :
  OpOK P pins N op S (upd S d (.ref (OB + j) (off + z.toNat * ie.size))) := by
 refine zP fun w0 m0 o0 G a w m o hN I => ?_
 obtain ⟨h1, h2, h3⟩ := qF hok
 have hxr := yA hM I x 0
 rw [hx] at hxr
 obtain ⟨A', c, k0, _, k3, k4⟩ := hxr
 obtain ⟨g, cs, _, k1, k5, _⟩ := k4.resolve_left fun h => by omega
 subst k5
 refine ⟨.pointer (some ⟨g, off + z.toNat * ie.size, none⟩), w, m, o, ?_, ?_⟩
 ·
  unfold execOp
  rw [hop]
  simp only [Sem.run_bind]
  rw [zCG hM I hi, k3]
  simp [Instr.indexAt, asIntOf, run_underlying hu, hz, sizeOf, typeInfo, hie, Addr.add_mid]
 ·
  rw [hd]
  exact I.set d _ _ (by omega) h2 ⟨g, k1, rfl, fun h => absurd h (by omega)⟩
theorem ok_ixa (hM : Mk M S) {op : Oper} {d b off t e len : Nat} {x i : Operand} {ki : IntKind} {z : Int} {ie : TypeInfo} (hop : op.op = .indexAddr t x i) (hx : cpO M x = .ref b off) (hi : vO M i = some (.int ki z)) (hu : P.underlying t = some (.array len e)) (hie : P.info? e = some ie) (hz : 0 ≤ z ∧ z < len) (hd : op.dst = some d) (hok : okD N pins S d = true) :
  OpOK P pins N op S (upd S d (.ref b (off + z.toNat * ie.size))) := by
 refine zEt hM hd hok ?_
 rw [hop]
 show ixF P M t x i = _
 unfold ixF
 simp only [hi, hu, hie, hx]
 rw [if_pos hz]
theorem ok_ldx (hM : Mk M S) {op : Oper} {d b off t n : Nat} {x : Operand} {l : List T} {z : T} (hop : op.op = .load t x) (ht : tyA P t = some (false, n)) (hx : cpO M x = .ref b off) (hb : M b = .box l) (hl : l[off]? = some z) (hd : op.dst = some d) (hok : okD N pins S d = true) : OpOK P pins N op S (upd S d (norA z)) := by
 refine zEt hM hd hok ?_
 rw [hop]
 show ldF P M t x = _
 unfold ldF
 simp only [hx, ht, hb, hl]
 rfl
theorem ok_ldr (hM : Mk M S) {op : Oper} {d b off t n : Nat} {x : Operand} {l r : List T} (hop : op.op = .load t x) (ht : tyA P t = some (true, n)) (hx : cpO M x = .ref b off) (hb : M b = .box l) (hl : (l.drop off).take n = r) (hr : r.length = n) (hpos : Nat.blt 0 n = true) (hpt : noPt r = true) (hd : op.dst = some d) (hok : okD N pins S d = true) : OpOK P pins N op S (upd S d (.t (.agg (r.map toD)))) := by
 refine zEt hM hd hok ?_
 rw [hop]
 show ldF P M t x = _
 unfold ldF
 simp only [hx, ht, hb, hl]
 rw [if_pos hpt]
 have hle : n = 0 ∨ off + n ≤ l.length := by
  rw [← hl, List.length_take, List.length_drop] at hr
  omega
 split
 ·
  rename_i h0
  obtain ⟨rfl, rfl⟩ := h0
  rw [List.drop_zero, List.take_length] at hl
  rw [hl]
 ·
  rename_i h0
  by_cases h1 : off + n ≤ l.length
  · rw [if_pos h1]
  ·
   rcases hle with rfl | h
   · cases hpos
   · exact absurd h h1
theorem ok_lnv (hM : Mk M S) {op : Oper} {d j off E k n t e : Nat} {x : Operand} (hop : op.op = .call { callee := .builtin .len, args := ⟨[x]⟩, argTypes := ⟨[t]⟩ }) (hx : cpO M x = .t (.view j off E k n)) (hu : P.underlying t = some (.slice e)) (hd : op.dst = some d) (hok : okD N pins S d = true) :
  OpOK P pins N op S (upd S d (.t (.d (.lit (.int .i64 n))))) := by
 refine zP fun w0 m0 o0 G a w m o hN I => ?_
 obtain ⟨h1, h2, h3⟩ := qF hok
 have hxr := yA hM I x 0
 rw [hx] at hxr
 obtain ⟨A', c, _, _, k3, _⟩ := hxr
 refine ⟨.int .i64 n, w, m, o, ?_, by rw [hd]; exact I.set d _ _ (by omega) h2 (.lit _ rfl)⟩
 unfold execOp
 rw [hop]
 simp only [resolve, invoke, builtin, Sem.run_bind, Sem.run_pure, Result.andThen_ok, List.map_toArray, List.map_cons, List.map_nil]
 rw [k3]
 simp [Builtin.len_, run_underlying hu, goInt]
def zD0 (j : Nat) : T → Bool
 | .ptr i _ | .view i _ _ _ _ => Nat.beq i j
 | .mpt i => Nat.blt i OB && Nat.beq i j
 | _ => false
def zBl (j : Nat) : A → Bool
 | .t x => zD0 j x
 | .tup l | .box l | .ag l | .lst l | .imt l => l.any (zD0 j)
 | .cl _ caps => caps.any fun l => l.any (zD0 j)
 | .ref b _ => Nat.beq b (OB + j)
 | _ => false
def zFd (o : OwnM) (j : Nat) : OwnM := fun g => if (o g).map (·.1) = some (OB + j) then none else o g
theorem qT {o : OwnM} {j g : Nat} {l : Nat × Nat} : zFd o j g = some l ↔ o g = some l ∧ l.1 ≠ OB + j := by
 unfold zFd
 constructor
 ·
  intro h
  split at h
  · cases h
  · rename_i hn; exact ⟨h, fun e => hn (by rw [h, ← e]; rfl)⟩
 ·
  rintro ⟨h1, h2⟩
  rw [h1, if_neg (by simpa using h2)]
theorem zCf {j : Nat} (hj : j < OB) {x : T} (hx : zD0 j x = false) {loc : Nat × Nat} (hl : loc.1 ≠ OB + j) {v : Value} (h : RepT m w o loc x v) : RepT m w (zFd o j) loc x v := by
 cases x with
 | d x => exact h
 | agg l => exact h
 | own E k l =>
  obtain ⟨A', cap, xs, e, h1, h2, h3⟩ := h
  exact ⟨A', cap, xs, e, h1, fun g hg => ⟨qT.2 ⟨(h2 g hg).1, hl⟩, (h2 g hg).2⟩, h3⟩
 | ptr i off =>
  obtain ⟨g, h1, h2⟩ := h
  have : i ≠ j := fun e => by subst e; simp [zD0] at hx
  exact ⟨g, qT.2 ⟨h1, by show OB + i ≠ OB + j; omega⟩, h2⟩
 | view i off E k n =>
  obtain ⟨A', c, h1, h2, h3, h4⟩ := h
  have : i ≠ j := fun e => by subst e; simp [zD0] at hx
  exact ⟨A', c, h1, h2, h3, h4.imp id fun ⟨g, cs, E1, k1, k2⟩ => ⟨g, cs, E1, qT.2 ⟨k1, by show OB + i ≠ OB + j; omega⟩, k2⟩⟩
 | any => exact h
 | hpt c off =>
  obtain ⟨g, h1, h2⟩ := h
  exact ⟨g, qT.2 ⟨h1, by show OB + (OB + c) ≠ OB + j; omega⟩, h2⟩
 | mpt i =>
  obtain ⟨g, h1, h2⟩ := h
  have : i ≠ j := fun e => by
   subst e
   have hx : (Nat.blt i OB && Nat.beq i i) = false := hx
   rw [show Nat.blt i OB = true by simpa using hj, Nat.beq_refl] at hx
   cases hx
  exact ⟨g, qT.2 ⟨h1, by show OB + i ≠ OB + j; omega⟩, h2⟩
 | hvw c off E k n =>
  obtain ⟨A', q, h1, h2, h3, h4⟩ := h
  exact ⟨A', q, h1, h2, h3, h4.imp id fun ⟨g, cs, E1, k1, k2⟩ => ⟨g, cs, E1, qT.2 ⟨k1, by show OB + (OB + c) ≠ OB + j; omega⟩, k2⟩⟩
theorem zDR {j : Nat} {l : List T} (h : l.any (zD0 j) = false) {q : Nat} {x : T} (hq : l[q]? = some x) : zD0 j x = false := by
 cases hb : zD0 j x with
 | false => rfl
 | true =>
  have : l.any (zD0 j) = true := List.any_eq_true.2 ⟨x, List.mem_of_getElem? hq, hb⟩
  rw [h] at this
  cases this
theorem zG6 {j s : Nat} (hj : j < OB) {x : A} (hx : zBl j x = false) (hs : s ≠ OB + j) {S S' : Nat → A} (hS : ∀ b l, b < OB → S b = .box l → ∃ l', S' b = .box l') {v : Value} (h : RepA m w o S s x v) : RepA m w (zFd o j) S' s x v := by
 cases x with
 | t x => exact zCf (loc := (s, 0)) hj hx hs h
 | tup l =>
  obtain ⟨vs, e, h1, h2⟩ := h
  refine ⟨vs, e, h1, fun q x hq => ?_⟩
  obtain ⟨u, k1, k2⟩ := h2 q x hq
  exact ⟨u, k1, zCf hj (zDR hx hq) hs k2⟩
 | imm l => exact h
 | box l =>
  obtain ⟨g, e, h1, h2, cs, E, h3, h4, h5⟩ := h
  refine ⟨g, e, qT.2 ⟨h1, hs⟩, h2, cs, E, h3, h4, fun q x hq => ?_⟩
  obtain ⟨k0, u, k1, k2⟩ := h5 q x hq
  exact ⟨k0, u, k1, zCf hj (zDR hx hq) hs k2⟩
 | ref b off =>
  obtain ⟨g, h1, h2, h3⟩ := h
  have : b ≠ OB + j := fun e => by subst e; simp [zBl] at hx
  exact ⟨g, qT.2 ⟨h1, this⟩, h2, fun hb => let ⟨l, hl⟩ := h3 hb; hS b l hb hl⟩
 | free => exact fun g k e => h g k (qT.1 e).1
 | ag l =>
  obtain ⟨vs, e, h1, h2⟩ := h
  refine ⟨vs, e, h1, fun q x hq => ?_⟩
  obtain ⟨u, k1, k3, k2⟩ := h2 q x hq
  exact ⟨u, k1, k3, zCf hj (zDR hx hq) hs k2⟩
 | lst l =>
  obtain ⟨g, cap, e, h1, h2, h3⟩ := h
  refine ⟨g, cap, e, h1, h2, fun q x hq => ?_⟩
  obtain ⟨u, k1, k2⟩ := h3 q x hq
  exact ⟨u, k1, zCf hj (zDR hx hq) hs k2⟩
 | fr E k =>
  obtain ⟨g, n, cap, cur, h1, h2, h3⟩ := h
  exact ⟨g, n, cap, cur, h1, qT.2 ⟨h2, hs⟩, h3⟩
 | hp f => trivial
 | mp l => obtain ⟨g, h1, rest⟩ := h; exact ⟨g, qT.2 ⟨h1, hs⟩, rest⟩
 | ck f cs =>
  obtain ⟨ptrs, e, h1, h2⟩ := h
  refine ⟨ptrs, e, h1, fun i c hi => ?_⟩
  obtain ⟨v, k1, k2⟩ := h2 i c hi
  refine ⟨v, k1, ?_⟩
  cases c with
  | live c => obtain ⟨g, b1, b2⟩ := k2; exact ⟨g, b1, qT.2 ⟨b2, by show OB + (OB + c) ≠ OB + j; omega⟩⟩
  | fz l => exact k2
 | cl f caps =>
  obtain ⟨ptrs, e, h1, h2⟩ := h
  refine ⟨ptrs, e, h1, fun i l hi => ?_⟩
  obtain ⟨g, k1, k2⟩ := h2 i l hi
  have hl : l.any (zD0 j) = false := by
   cases hb : l.any (zD0 j) with
   | false => rfl
   | true =>
    have : caps.any (fun l => l.any (zD0 j)) = true := List.any_eq_true.2 ⟨l, List.mem_of_getElem? hi, hb⟩
    have hx : caps.any (fun l => l.any (zD0 j)) = false := hx
    rw [hx] at this
    cases this
  refine ⟨g, k1, fun q x hq => ?_⟩
  obtain ⟨u, k3, k4⟩ := k2 q x hq
  exact ⟨u, k3, zCf hj (zDR hl hq) hs k4⟩
 | imt l =>
  obtain ⟨g, k1, k2⟩ := h
  refine ⟨g, k1, fun q x hq => ?_⟩
  obtain ⟨u, k3, k4⟩ := k2 q x hq
  exact ⟨u, k3, zCf hj (zDR hx hq) hs k4⟩
 | rcd b u mE oE =>
  obtain ⟨h1, h2, h3, h4, h5⟩ := h
  exact ⟨qT.2 ⟨h1, hs⟩, h2, h3, h4, fun g c hg => qT.2 ⟨h5 g c hg, by show OB + (OB + c) ≠ OB + j; omega⟩⟩
 | any => trivial
theorem Inv.forget (I : Inv w0 m0 o0 G pins S a w m o) {j : Nat} (hj : j < OB) (hp : OB + j ∉ pins) (hm : ∀ s, zBl j (S s) = false) : Inv w0 m0 o0 G pins (upd S (OB + j) .free) a w m (zFd o j) := by
 refine ⟨I.same, I.sat, I.mono, I.old, fun g l h => I.own g l (qT.1 h).1, fun g l h => I.lt g l (qT.1 h).1, fun g g' l h h' => I.inj g g' l (qT.1 h).1 (qT.1 h').1, fun s hs g hg => qT.2 ⟨I.pinned s hs g hg, fun e => hs.elim (fun hs => hp (by rw [← e]; exact hs)) fun _ => ((I.shps g j (by have e : s = OB + j := e; rw [← e]; exact hg)).1).elim hp fun h => by unfold OB OB2 at *; omega⟩, fun s => ?_, I.defers, I.tbl, I.wide, I.shps⟩
 by_cases e : s = OB + j
 ·
  subst e
  rw [zU]
  exact fun g k h => (qT.1 h).2 rfl
 ·
  rw [zI e]
  exact zG6 hj (hm s) e (fun b l hb hl => ⟨l, by rw [zI (by omega), hl]⟩) (I.slots s)
end
end Go.Proofs.YtmgafkpkpmjieaaDoor

/-
 Steps that only turn what is told: a local object becomes the heap's, becomes data, is forgotten. The rules of local objects.
-/
namespace Go.Proofs.YtmgafkpkpmjieaaDoor
open Go Go.RowKit
set_option linter.unusedVariables false
section
variable {w0 : World} {m0 : Mem} {o0 : OwnM} {G : GD} {pins : List Nat} {S M : Nat → A} {a : Act} {w : World} {m : Mem} {o : OwnM} {P : Program} {N : Nat}
theorem Inv.less (I : Inv w0 m0 o0 G pins S a w m o) {S' : Nat → A} (h : ∀ s, S' s = S s ∨ (S' s = .any ∧ (S s).isBox = false)) : Inv w0 m0 o0 G pins S' a w m o := by
 refine ⟨I.same, I.sat, I.mono, I.old, I.own, I.lt, I.inj, I.pinned, fun s => ?_, I.defers, I.tbl, I.wide, I.shps⟩
 rcases h s with e | ⟨e, _⟩
 ·
  rw [e]
  refine (I.slots s).turn fun b l hb => ?_
  rcases h b with e2 | ⟨_, e2⟩
  · exact ⟨l, by rw [e2, hb]⟩
  · rw [hb] at e2; cases e2
 · rw [e]; trivial
theorem Inv.frz (I : Inv w0 m0 o0 G pins S a w m o) {j d E k : Nat} {l : List T} {rs : List (List D)} (hj : j < OB) (hd : d < OB) (hp : OB + j ∉ pins) (hpd : d ∉ pins) (hS : S d = .t (.view j 0 E k rs.length)) (hb : S (OB + j) = .box l) (hm : ∀ s, s ≠ d → s ≠ OB + j → zBl j (S s) = false) (hk : 0 < k) (hrk : ∀ r ∈ rs, r.length = k) (hl : l = (rs.flatMap id).map .d) :
  ∃ m' o', Inv w0 m0 o0 G pins (upd (upd S (OB + j) .free) d (.t (.d (.seq k rs)))) a w m' o' := by
 have hs := I.slots (OB + j)
 rw [hb] at hs
 obtain ⟨g, _, h1, h2, cs, E', h3, h4, h5⟩ := hs
 have hsd := I.slots d
 rw [hS] at hsd
 obtain ⟨A', c, q2, q3, q5, q4⟩ := hsd
 have hlen : l.length = rs.length * k := by
  subst hl
  rw [List.length_map]
  exact zDM hrk
 have hcell : ∀ (i : Nat) (r : List D) (q : Nat) (e : D), rs[i]? = some r → r[q]? = some e → ∃ u, cs[i * k + q]? = some u ∧ RepD m e u := by
  intro i r q e hi hq
  have hrl := hrk r (List.mem_of_getElem? hi)
  have hqk : q < k := by rw [← hrl]; exact (List.getElem?_eq_some_iff.1 hq).1
  have : l[i * k + q]? = some (.d e) := by
   subst hl
   rw [List.getElem?_map, zB2 hrk hi hqk, hq]
   rfl
  obtain ⟨_, u, k1, k2⟩ := h5 _ _ this
  exact ⟨u, k1, k2⟩
 let m' : Mem := newM m g fun p => cs[p]?
 have hmle : Mle m m' := by
  intro b p u hu
  show newM m g (fun p => cs[p]?) b p = some u
  unfold newM
  rw [if_neg]
  · exact hu
  · intro e; subst e; rw [h2] at hu; cases hu
 have hk' : ∀ g1 l1, zFd o j g1 = some l1 → g1 ≠ g ∧ o g1 = some l1 := by
  intro g1 l1 h
  obtain ⟨a1, a2⟩ := qT.1 h
  exact ⟨fun e => by subst e; rw [h1] at a1; injection a1 with a1; exact a2 (by rw [← a1]), a1⟩
 refine ⟨m', zFd o j, ⟨I.same, fun b p u h => ?_, I.mono.trans hmle, fun b hb' hg => ?_, fun g l h => I.own g l (qT.1 h).1, fun g l h => I.lt g l (qT.1 h).1, fun g g' l h h' => I.inj g g' l (qT.1 h).1 (qT.1 h').1, fun s hs g hg => qT.2 ⟨I.pinned s hs g hg, fun e => hs.elim (fun hs => hp (by rw [← e]; exact hs)) fun _ => ((I.shps g j (by have e : s = OB + j := e; rw [← e]; exact hg)).1).elim hp fun h => by unfold OB OB2 at *; omega⟩, fun s => ?_, I.defers, I.tbl, I.wide, I.shps⟩⟩
 ·
  change newM m g (fun p => cs[p]?) b p = some u at h
  unfold newM at h
  split at h
  ·
   rename_i e
   subst e
   rw [cell_of_row w b p cs E' _ h3]
   exact h
  · exact I.sat b p u h
 ·
  rw [← I.old b hb' hg]
  funext p
  show newM m g (fun p => cs[p]?) b p = _
  unfold newM
  rw [if_neg]
  intro e
  subst e
  rcases I.own b _ h1 with h | h
  · exact hg h
  · omega
 ·
  by_cases e : s = d
  ·
   subst e
   rw [zU, q5]
   refine .seq k rs _ c g 0 (fun i q => (cs[i * k + q]?).getD undef) q2 q3 (fun hne => ?_) (fun i r hi => hrk r (List.mem_of_getElem? hi)) (fun i r q e hi hq => ?_) (fun i r q e hi hq => ?_)
   ·
    obtain ⟨g', _, _, q1, q6, _⟩ := q4.resolve_left fun h => by have := List.length_pos_iff.2 hne; omega
    have := I.inj _ _ _ h1 q1
    subst this
    exact q6
   ·
    obtain ⟨u, k1, _⟩ := hcell i r q e hi hq
    show newM m g (fun p => cs[p]?) g (0 + i * k + q) = _
    rw [zDI, Nat.zero_add, k1]
    rfl
   ·
    obtain ⟨u, k1, k2⟩ := hcell i r q e hi hq
    rw [k1]
    exact k2.mono hmle
  ·
   rw [zI e]
   by_cases e2 : s = OB + j
   ·
    subst e2
    rw [zU]
    exact fun g k h => (qT.1 h).2 rfl
   ·
    rw [zI e2]
    have h := zG6 hj (S' := upd (upd S (OB + j) .free) d (.t (.d (.seq k rs)))) (hm s e e2) e2 (fun b l hb hl => ⟨l, by
     rw [zI (fun e3 => by subst e3; rw [hS] at hl; cases hl), zI (by omega), hl]⟩) (I.slots s)
    have K : Keep (fun _ => False) m w (zFd o j) m' w (zFd o j) := ⟨hmle, fun g1 l1 h _ => by
     funext p
     show newM m g (fun p => cs[p]?) g1 p = _
     unfold newM
     rw [if_neg (hk' g1 l1 h).1], fun _ _ _ _ => rfl, fun _ _ h _ => h, fun _ _ h => h, fun g _ k _ h => ⟨g, k, h⟩, fun g _ _ => .of_eq rfl⟩
    exact RepA.keep K (fun _ => id) (fun b off _ _ => ⟨id, id⟩) h
end
def zDG (j d : Nat) : SL → SL
 | [] => []
 | (s, x) :: r => (s, bif Nat.blt s OB && (zBl j x && !Nat.beq s d) then .any else x) :: zDG j d r
theorem zDo (j d : Nat) : ∀ (L : SL) (t : Nat), gt (zDG j d L) t = bif Nat.blt t OB && (zBl j (gt L t) && !Nat.beq t d) then .any else gt L t
 | [], t => by show A.any = bif _ && (zBl j .any && _) then .any else .any; cases (Nat.blt t OB && (zBl j .any && !Nat.beq t d)) <;> rfl
 | (s, x) :: r, t => by
  show gt ((s, _) :: zDG j d r) t = _
  rw [yN, yN]
  unfold upd
  by_cases h : t = s
  · subst h; rw [if_pos rfl, if_pos rfl]
  · rw [if_neg h, if_neg h, zDo j d r t]
theorem zB3 {j d : Nat} (L : SL) {t : Nat} (h : OB ≤ t) : gt (zDG j d L) t = gt L t := by
  rw [zDo]
  have : Nat.blt t OB = false := by
    cases e : Nat.blt t OB with
    | false => rfl
    | true => have : t < OB := by simpa using e
              omega
  rw [this]
  rfl
def zF2 (j d : Nat) : SL → Bool
 | [] => true
 | (s, x) :: r => (!Nat.blt s OB || (!x.isBox || !(zBl j x && !Nat.beq s d))) && zF2 j d r
theorem zFU {j d : Nat} : ∀ {L : SL}, zF2 j d L = true → ∀ t, (Nat.blt t OB && (zBl j (gt L t) && !Nat.beq t d)) = true → (gt L t).isBox = false
 | [], _, t, h => by rfl
 | (s, x) :: r, h, t, hm => by
  unfold zF2 at h
  rw [Bool.and_eq_true] at h
  rw [yN] at hm ⊢
  unfold upd at hm ⊢
  by_cases e : t = s
  ·
   subst e
   rw [if_pos rfl] at hm ⊢
   have h1 := h.1
   rw [Bool.and_eq_true] at hm
   rw [hm.1, hm.2] at h1
   simpa using h1
  ·
   rw [if_neg e] at hm ⊢
   exact zFU h.2 t hm
theorem hx_less {L L' : SL} (hl : Low (gt L)) (hk : gt L' HK = gt L HK) (h : ∀ s, gt L' s = gt L s ∨ (gt L' s = .any ∧ (gt L s).isBox = false)) : Low (gt L') ∧ ∀ s, hx (gt L') s = hx (gt L) s ∨ (hx (gt L') s = .any ∧ (hx (gt L) s).isBox = false) := by
 have hl' : Low (gt L') := fun t ht => by
  rcases h t with e | ⟨e, _⟩
  · rw [e, hl t ht]
  · exact e
 refine ⟨hl', fun s => ?_⟩
 rcases Nat.lt_or_ge s OB2 with h2 | h2
 · rw [zC9 h2, zC9 h2]; exact h s
 ·
  refine .inl ?_
  unfold hx
  rw [hl s h2, hl' s h2]
  simp only
  rw [hk]
section
variable {P : Program} {pins : List Nat} {N : Nat} {Q : Exit → SL → Prop} {L : SL}
def ObP (L : SL) : Prop := ∀ t, OB ≤ t → ∀ j, zBl j (gt L t) = false
theorem ObP.nil : ObP [] := fun _ _ _ => rfl
theorem ObP.cons {s : Nat} {x : A} {L : SL} (h : Nat.blt s OB = true ∨ ∀ j, zBl j x = false) (hr : ObP L) : ObP ((s, x) :: L) := fun t ht j => by
 rw [yN]
 unfold upd
 by_cases e : t = s
 ·
  rw [if_pos e]
  subst e
  rcases h with h | h
  ·
   have : t < OB := by simpa using h
   omega
  · exact h j
 · rw [if_neg e]; exact hr t ht j
theorem zD4 {l : List T} (h : noPt l = true) (j : Nat) : zBl j (.box l) = false := by
 show l.any (zD0 j) = false
 cases hb : l.any (zD0 j) with
 | false => rfl
 | true =>
  obtain ⟨x, h1, h2⟩ := List.any_eq_true.1 hb
  unfold noPt at h
  have h3 := List.all_eq_true.1 h x h1
  cases x <;> first | (cases h2; done) | (cases h3; done)
def zGa (L : SL) : Prop := (gt L HK = .any ∨ ∃ f, gt L HK = .hp f ∧ zDy f) ∧ ObP L
theorem ObP.fgt {L : SL} {j d : Nat} (h : ObP L) : ObP ((OB + j, .free) :: zDG j d L) := .cons (.inr fun _ => rfl) fun t ht i => by
 rw [zB3 L ht]
 exact h t ht i
theorem zFk {S : Nat → A} (hlo : Low S) (hh : S HK = .any ∨ ∃ f, S HK = .hp f ∧ zDy f) {j : Nat} (k : Nat) : zBl j (hx S (OB2 + k)) = false := by
 rcases hh with e | ⟨f, e, hp⟩
 ·
  unfold hx
  rw [hlo _ (Nat.le_add_right _ _), e]
  simp only
  split <;> rfl
 ·
  rw [zBO, zFv hlo e]
  rcases zEq (f k) with ⟨l, hl⟩ | hl | hl | ⟨l, hl⟩ | ⟨b, u, mE, oE, hl⟩
  ·
   rw [hl]
   have := zGP hp k l hl
   cases hb : l.any (zD0 j) with
   | false => exact hb
   | true =>
    obtain ⟨x, h1, h2⟩ := List.any_eq_true.1 hb
    have h3 := this x h1
    cases x <;> first | (cases h2; done) | (cases h3; done) | (exfalso; simp only [zD0, Bool.and_eq_true] at h2; have h3 : Nat.blt _ OB = false := h3; rw [h2.1] at h3; cases h3)
  · rw [hl]; rfl
  · rw [hl]; rfl
  · rw [hl]; rfl
  · rw [hl]; rfl
theorem c_frz {c : Code} {L' : SL} (d j : Nat) {E k n : Nat} {l : List T} {rs : List (List D)} (hd : gt L d = .t (.view j 0 E k n)) (hb : gt L (OB + j) = .box l) (hn : n = rs.length) (hl : l = (rs.flatMap id).map .d) (hrk : ∀ r ∈ rs, r.length = k)
  (hc : (Nat.blt d OB && Nat.blt (j + 1) OB && !pins.contains (OB + j) && !pins.contains d && Nat.blt 0 k && zF2 j d L) = true) (hh : zGa L) (hL : (d, .t (.d (.seq k rs))) :: (OB + j, .free) :: zDG j d L = L') (h : yP P pins N c Q L') : yP P pins N c Q L := by
 subst hL hn
 simp only [Bool.and_eq_true, Bool.not_eq_true', List.contains_eq_mem, decide_eq_false_iff_not] at hc
 obtain ⟨⟨⟨⟨⟨c1, c2⟩, c3⟩, c4⟩, c5⟩, c6⟩ := hc
 have c1 : d < OB := by simpa using c1
 have c2 : j + 1 < OB := by simpa using c2
 have c5 : 0 < k := by simpa using c5
 intro Fe ne hF w0 m0 o0 G a w hS
 obtain ⟨hN, hlo, m, o, I⟩ := hS
 have hjd : OB + j ≠ d := by omega
 have hL2 : ∀ s, gt (zDG j d L) s = gt L s ∨ (gt (zDG j d L) s = .any ∧ (gt L s).isBox = false) := fun s => by
  rw [zDo]
  cases hm : (Nat.blt s OB && (zBl j (gt L s) && !Nat.beq s d)) with
  | true => exact .inr ⟨rfl, zFU c6 s hm⟩
  | false => exact .inl rfl
 have hk2 : gt (zDG j d L) HK = gt L HK := zB3 L (by unfold HK OB; omega)
 obtain ⟨hlo2, hx2⟩ := hx_less hlo hk2 hL2
 have I2 := I.less hx2
 have hdd : gt (zDG j d L) d = .t (.view j 0 E k rs.length) := by
  rw [zDo, hd]
  simp
 have hbb : gt (zDG j d L) (OB + j) = .box l := by
  rcases hL2 (OB + j) with e | ⟨_, e⟩
  · rw [e, hb]
  · rw [hb] at e; cases e
 have hm : ∀ s, s ≠ d → s ≠ OB + j → zBl j (hx (gt (zDG j d L)) s) = false := fun s h1 h2 => by
  rcases Nat.lt_or_ge s OB2 with h3 | h3
  ·
   rw [zC9 h3]
   rcases Nat.lt_or_ge s OB with h4 | h4
   ·
    rw [zDo]
    have hsd : Nat.beq s d = false := by
     cases hb : Nat.beq s d with
     | false => rfl
     | true => exact absurd (Nat.eq_of_beq_eq_true hb) h1
    have hso : Nat.blt s OB = true := by simpa using h4
    rw [hsd, hso]
    cases hm : zBl j (gt L s) with
    | true => rfl
    | false => exact hm
   · rw [zB3 L h4]; exact hh.2 s h4 j
  ·
   obtain ⟨k, rfl⟩ : ∃ k, s = OB2 + k := ⟨s - OB2, by omega⟩
   exact zFk hlo2 (by rw [hk2]; exact hh.1) k
 obtain ⟨m', o', J⟩ := I2.frz (j := j) (d := d) (E := E) (k := k) (l := l) (rs := rs) (by omega) c1 c3 c4 (zB1 hdd (by simp)) (zB1 hbb (by simp)) hm c5 hrk hl
 have e1 : OB + j < OB2 := by unfold OB OB2 at *; omega
 have e2 : OB + j ≠ HK := by unfold HK; unfold OB at *; omega
 refine h Fe ne hF w0 m0 o0 G a w ⟨hN, ?_, m', o', ?_⟩
 ·
  rw [yN, yN]
  exact (hlo2.upd e1).upd (lt2 c1)
 ·
  rw [yN, yN, zCM (lt2 c1) (by unfold HK; unfold OB at c1; omega), zCM e1 e2]
  exact J
end
end Go.Proofs.YtmgafkpkpmjieaaDoor

/-
 append onto a slice of an object: the object grows, or its cells move to a new block.
-/
namespace Go.Proofs.YtmgafkpkpmjieaaDoor
open Go Go.RowKit
set_option linter.unusedVariables false
section
variable {P : Program}
theorem run_app4 (w : World) {t e sz nb : Nat} (E : zDt P t e sz nb) (ty : TypeId) (A' : Option Addr) (n c : Nat) (xs : List Value) (hx : xs.length = n * sz) (hnc : n ≤ c) (hcm : c ≤ maxLen)
    (hA : c = 0 ∨ ∃ (g : Nat) (cur : Array Value), A' = some ⟨g, 0, none⟩ ∧ w.heap[g]? = some (.cells cur e (0, 0)) ∧ c * sz ≤ cur.size ∧ cur.toList.take (n * sz) = xs)
    (B' : Option Addr) (k c' : Nat) (news : List Value) (hk : 0 < k) (hl : news.length = k * sz) (hnews : Row w B' news) (h1 : ∀ u ∈ news, u.oneCell' = true) (hb : (n + k) * nb ≤ 140737488355328) :
    ∃ (A2 : Option Addr) (c2 : Nat) (w' : World), (Builtin.append_ #[t, t] ty #[.slice A' n c, .slice B' k c']).run P w = .ok (.slice A2 (n + k) c2) w' ∧ n + k ≤ c2 ∧ c2 ≤ maxLen ∧ ∃ cur' : Array Value, c2 * sz ≤ cur'.size ∧ cur'.toList.take ((n + k) * sz) = xs ++ news ∧
      ((∃ (g : Nat) (cur : Array Value), A' = some ⟨g, 0, none⟩ ∧ A2 = A' ∧ c ≠ 0 ∧ w.heap[g]? = some (.cells cur e (0, 0)) ∧ w' = w.setRow g cur' ∧ cur'.size = cur.size) ∨
       (A2 = some ⟨w.heap.size, 0, none⟩ ∧ w' = w.drew.alloc (.cells cur' e))) := by
  obtain ⟨i, z, hi, hz, rfl, rfl, hzs⟩ := E.info
  have h63 : n + k ≤ maxLen := by
    have := Nat.le_mul_of_pos_right (n + k) E.posb
    unfold maxLen; omega
  have hsmall : n + k ≤ 9223372036854775807 := by simp only [maxLen] at h63; omega
  have hpos : 0 < news.length := by rw [hl]; exact Nat.mul_pos hk E.pos
  cases B' with
  | none =>
    cases news with
    | nil => simp at hpos
    | cons u r =>
      obtain ⟨ad, h, _⟩ := hnews 0 u rfl
      cases h
  | some ad =>
    have hcells : ∀ j u, news[j]? = some u → w.cell? (ad.add j) = some u := by
      intro j u hu
      obtain ⟨ad', h, hc⟩ := hnews j u hu
      injection h with h
      subst h
      exact hc
    have hlen : (xs ++ news).length = (n + k) * i.size := by rw [List.length_append, hx, hl, Nat.add_mul]
    have grown : ∀ (old : Nat), old < n + k → (Builtin.append_ #[t, t] ty #[.slice A' n c, .slice (some ad) k c']).run P w = .ok (.slice (some ⟨w.heap.size, 0, none⟩) (n + k) (grownCap w (n + k) old e)) (w.drew.alloc (.cells (xs.toArray ++ news.toArray ++ Builtin.zeroCells z.cells (grownCap w (n + k) old e - (n + k))) e)) →
      ∃ (A2 : Option Addr) (c2 : Nat) (w' : World), (Builtin.append_ #[t, t] ty #[.slice A' n c, .slice (some ad) k c']).run P w = .ok (.slice A2 (n + k) c2) w' ∧ n + k ≤ c2 ∧ c2 ≤ maxLen ∧ ∃ cur' : Array Value, c2 * i.size ≤ cur'.size ∧ cur'.toList.take ((n + k) * i.size) = xs ++ news ∧
      ((∃ (g : Nat) (cur : Array Value), A' = some ⟨g, 0, none⟩ ∧ A2 = A' ∧ c ≠ 0 ∧ w.heap[g]? = some (.cells cur e (0, 0)) ∧ w' = w.setRow g cur' ∧ cur'.size = cur.size) ∨
       (A2 = some ⟨w.heap.size, 0, none⟩ ∧ w' = w.drew.alloc (.cells cur' e))) := by
      intro old ho hr
      have hge := grownCap_ge w (n + k) old e
      have hcm : grownCap w (n + k) old e ≤ maxLen := grownCap_le_maxLen w (n + k) old e h63
      refine ⟨_, _, _, hr, hge, hcm, _, ?_, ?_, .inr ⟨rfl, rfl⟩⟩
      · simp only [Array.size_append, List.size_toArray, size_zeroCells, hzs, hx, hl, ← Nat.add_mul]
        exact Nat.mul_le_mul_right _ (by omega)
      · simp only [Array.toList_append, List.append_assoc]
        rw [← List.append_assoc, ← hlen]
        exact List.take_left
    rcases hA with h0 | ⟨g, cur, rfl, hg, hcs, htake⟩
    · have hn0 : n = 0 := by omega
      subst hn0 h0
      have hx0 : xs = [] := List.eq_nil_of_length_eq_zero (by simpa using hx)
      subst hx0
      refine grown 0 (by omega) ?_
      cases A' with
      | none =>
        have hr := run_append_nil (P := P) w t ty e i z E.under hi hz ad k c' news hl hcells (by omega) (by omega) (by have hb := hb; simp only [Nat.zero_add] at hb; omega)
        simp only [Nat.zero_add, List.nil_append, Array.empty_append] at hr ⊢
        exact hr
      | some b =>
        exact run_append_grow (P := P) w t ty e i z E.under hi hz b 0 0 [] (by simp) (fun j u h => by cases h) ad k c' news hl hcells (by omega) (by omega) (growslice_fits (by omega) hb)
    · by_cases hroom : n + k ≤ c
      · have hfit : n * i.size + news.length ≤ cur.size := by
          rw [hl, ← Nat.add_mul]; exact Nat.le_trans (Nat.mul_le_mul_right _ hroom) hcs
        have hr := run_append_room (P := P) w t ty e i E.under hi g n c cur hg ad k c' news hl hcells h1 hroom hfit
        have hsz : (cur.toList.take (n * i.size) ++ news ++ cur.toList.drop (n * i.size + news.length)).toArray.size = cur.size := by
          simp only [List.size_toArray, List.length_append, List.length_take, List.length_drop, Array.length_toList]
          omega
        refine ⟨_, _, _, hr, hroom, hcm, _, ?_, ?_, .inl ⟨g, cur, rfl, rfl, by omega, hg, rfl, hsz⟩⟩
        · rw [hsz]; exact hcs
        · rw [htake, ← hlen]
          exact List.take_left
      · have holds : ∀ j u, xs[j]? = some u → w.cell? ((⟨g, 0, none⟩ : Addr).add j) = some u := by
          intro j u hu
          have hlt : j < n * i.size := by rw [← hx]; exact (List.getElem?_eq_some_iff.1 hu).1
          rw [Addr.add_mid, Nat.zero_add, cell_of_row w g j cur e _ hg]
          rw [← htake, List.getElem?_take, if_pos hlt] at hu
          simpa using hu
        exact grown c (by omega) (run_append_grow (P := P) w t ty e i z E.under hi hz ⟨g, 0, none⟩ n c xs hx holds ad k c' news hl hcells (by omega) (by omega) (growslice_fits (by omega) hb))
end
section
variable {w0 : World} {m0 : Mem} {o0 : OwnM} {G : GD} {pins : List Nat} {S M : Nat → A} {a : Act} {w : World} {m : Mem} {o : OwnM} {P : Program} {N : Nat}
theorem Inv.adopt (I : Inv w0 m0 o0 G pins S a w m o) {j g : Nat} {l : List T} {cs cs' : Array Value} {E : Nat} (hfree : S (OB + j) = .free) (hg : w.heap[g]? = some (.cells cs E (0, 0))) (hsz : cs'.size = cs.size) (ho : o g = none) (hG : G g ∨ w0.heap.size ≤ g) (hm : ∀ p, m g p = none) (hlen : l.length ≤ cs'.size)
  (hc : ∀ (i : Nat) (x : T), l[i]? = some x → ∃ d, x = .d d ∧ ∃ u, cs'[i]? = some u ∧ RepD m d u) :
  Inv w0 m0 o0 G pins (upd S (OB + j) (.box l)) a (w.setRow g cs') m (newO o (OB + j) g) := by
 have hf : ∀ g k, o g ≠ some (OB + j, k) := by have := I.slots (OB + j); rw [hfree] at this; exact this
 have hother : ∀ k, k ≠ g → (w.setRow g cs').heap[k]? = w.heap[k]? := fun k hk => setRow_other w g k cs' hk
 have hS : Same (fun x => G x ∨ w0.heap.size ≤ x) w (w.setRow g cs') := ⟨rfl, rfl, rfl, by simp, fun k _ hk => hother k fun e => hk (by rw [e]; exact hG), fun q => (zAP hg hsz q).w⟩
 have hglt : g < w.heap.size := (Array.getElem?_eq_some_iff.1 hg).1
 have hne : ∀ b l, o b = some l → b ≠ g := fun b l h e => by rw [e, ho] at h; cases h
 have hk : ∀ b l, o b = some l → newO o (OB + j) g b = some l := by
  intro b l h
  unfold newO
  rw [if_neg (hne b l h), h, if_neg]
  intro e
  obtain ⟨s, k⟩ := l
  injection e with e
  subst e
  exact hf b k h
 have hk' : ∀ b l, newO o (OB + j) g b = some l → (b = g ∧ l = (OB + j, 0)) ∨ (b ≠ g ∧ o b = some l) := by
  intro b l h
  unfold newO at h
  split at h
  · rename_i e; injection h with h; exact .inl ⟨e, h.symm⟩
  ·
   split at h
   · cases h
   · rename_i e _; exact .inr ⟨e, h⟩
 have hsh : ∀ g', zAq w (w.setRow g cs') g' := zAP hg hsz
 have K : Keep (fun l => l.1 = OB + j) m w o m (w.setRow g cs') (newO o (OB + j) g) :=
  ⟨Mle.refl _, fun _ _ _ _ => rfl, fun b l h _ => hother b (hne b l h), fun b l h _ => hk b l h, fun b j' h => hk b _ h, fun b s k hs h => by
   rcases hk' b _ h with ⟨_, e⟩ | ⟨_, e⟩
   · injection e with e _; exact absurd e hs
   · exact ⟨b, k, e⟩, fun g _ _ => hsh g⟩
 refine ⟨I.same.trans hS, fun b p u h => ?_, I.mono, I.old, fun g' l h => ?_, fun g' l h => ?_, fun g1 g2 l h h' => ?_, fun s hs g hg => hk g _ (I.pinned s hs g hg), fun s => ?_, I.defers, I.tbl, I.wide, I.shps.keep I.pinned K.sh⟩
 ·
  have h1 := I.sat b p u h
  have hb : b ≠ g := fun e => by rw [e, hm] at h; cases h
  rw [World.cell?_of_block (w := w) (hother b hb)]
  exact h1
 ·
  rcases hk' g' l h with ⟨e, _⟩ | ⟨_, e⟩
  · subst e; exact hG
  · exact I.own g' l e
 ·
  rcases hk' g' l h with ⟨e, _⟩ | ⟨_, e⟩
  · subst e; exact Nat.lt_of_lt_of_le hglt hS.size
  · exact Nat.lt_of_lt_of_le (I.lt g' l e) hS.size
 ·
  rcases hk' g1 l h with ⟨e, q⟩ | ⟨_, e⟩ <;> rcases hk' g2 l h' with ⟨e', q'⟩ | ⟨_, e'⟩
  · rw [e, e']
  · subst q; exact absurd e' (hf _ _)
  · subst q'; exact absurd e (hf _ _)
  · exact I.inj _ _ _ e e'
 ·
  by_cases e : s = OB + j
  ·
   subst e
   rw [zU]
   refine ⟨g, fun h => absurd h (by omega), yZ _ _ _, hm, cs', E, setRow_heap w g cs cs' E _ hg, hlen, fun i x hi => ?_⟩
   obtain ⟨d, rfl, u, h2, h3⟩ := hc i x hi
   exact ⟨rfl, u, h2, h3⟩
  ·
   rw [zI e]
   exact RepA.keep K (fun _ => e) (fun b off _ hb => ⟨fun e' => by have : b = OB + j := e'; omega, fun ⟨l', hl'⟩ => ⟨l', by rw [zI (by omega), hl']⟩⟩) (I.slots s)
theorem app_obj (I : Inv w0 m0 o0 G pins S a w m o) {t e sz nb : Nat} (E : zDt P t e sz nb) (ty : TypeId) {j d : Nat} (hd : d < a.tmps.size) (hdO : d < OB) (hbox : (S d).isBox = false) (hfree : S (OB + j) = .free)
  {A' : Option Addr} {c : Nat} {l : List (List D)} {xs : List Value} (hnc : l.length ≤ c) (hcm : c ≤ maxLen) (hrows : zDj m sz l xs)
  (hA : c = 0 ∨ ∃ (g : Nat) (cur : Array Value), A' = some ⟨g, 0, none⟩ ∧ w.heap[g]? = some (.cells cur e (0, 0)) ∧ c * sz ≤ cur.size ∧ cur.toList.take (l.length * sz) = xs ∧ o g = none ∧ (G g ∨ w0.heap.size ≤ g) ∧ ∀ p, m g p = none)
  {l' : List (List D)} {v' : Value} (hv' : RepD m (.seq sz l') v') (hpos : 0 < l'.length) (hb : (l.length + l'.length) * nb ≤ 140737488355328) :
  ∃ v w' o', (Builtin.append_ #[t, t] ty #[.slice A' l.length c, v']).run P w = .ok v w' ∧ Inv w0 m0 o0 G pins (upd (upd S (OB + j) (.box (((l ++ l').flatMap id).map .d))) d (.t (.view j 0 e sz (l ++ l').length))) (a.put (some d) v) w' m o' := by
 obtain ⟨B', c', news, rfl, _, _, hr', h1, hm'⟩ := hv'.rows
 have hnews : Row w B' news := by
  intro j u hu
  obtain ⟨g, p, e, hmm⟩ := hm' j u hu
  exact ⟨_, e, by rw [Addr.add_mid]; exact I.sat _ _ _ hmm⟩
 obtain ⟨A2, c2, w', hrun, q1, q2, cur', q3, q4, hcase⟩ := run_app4 (P := P) w E ty A' l.length c xs hrows.1 hnc hcm (hA.imp id fun ⟨g, cur, z1, z2, z3, z4, _⟩ => ⟨g, cur, z1, z2, z3, z4⟩) B' l'.length c' news hpos hr'.1 hnews h1 hb
 have hrr := hrows.append hr'
 have hwid : ∀ r ∈ l ++ l', r.length = sz := fun r hr => by
  obtain ⟨i, hi⟩ := List.getElem?_of_mem hr
  exact hrr.2.1 i r hi
 have hlen : (((l ++ l').flatMap id).map T.d).length = (l.length + l'.length) * sz := by rw [List.length_map, zDM hwid, List.length_append]
 have hlen2 : (((l ++ l').flatMap id).map T.d).length ≤ cur'.size := by
  rw [hlen]
  exact Nat.le_trans (Nat.mul_le_mul_right _ q1) q3
 have hcell : ∀ (i : Nat) (x : T), (((l ++ l').flatMap id).map T.d)[i]? = some x → ∃ d, x = .d d ∧ ∃ u, cur'[i]? = some u ∧ RepD m d u := by
  intro i x hi
  have hlt : i < (l.length + l'.length) * sz := by rw [← hlen]; exact (List.getElem?_eq_some_iff.1 hi).1
  have hp : 0 < sz := E.pos
  have hi1 : i / sz < (l ++ l').length := by rw [List.length_append]; exact Nat.div_lt_of_lt_mul (by rw [Nat.mul_comm]; exact hlt)
  have hi2 : i % sz < sz := Nat.mod_lt _ hp
  have he : i / sz * sz + i % sz = i := by rw [Nat.mul_comm]; exact Nat.div_add_mod i sz
  obtain ⟨r, hr⟩ : ∃ r, (l ++ l')[i / sz]? = some r := ⟨_, List.getElem?_eq_getElem hi1⟩
  have hrl : r.length = sz := hwid r (List.mem_of_getElem? hr)
  obtain ⟨dd, hdd⟩ : ∃ dd, r[i % sz]? = some dd := ⟨_, List.getElem?_eq_getElem (by rw [hrl]; exact hi2)⟩
  have h2 := zB2 hwid hr hi2
  rw [he, hdd] at h2
  rw [List.getElem?_map, h2] at hi
  injection hi with hi
  subst hi
  obtain ⟨u, k1, k2⟩ := hrr.2.2 _ r _ dd hr hdd
  rw [he, ← q4, List.getElem?_take, if_pos hlt] at k1
  exact ⟨dd, rfl, u, by simpa using k1, k2⟩
 have hll : (l ++ l').length = l.length + l'.length := List.length_append
 rcases hcase with ⟨g, cur, rfl, rfl, hc0, hg, rfl, hsz⟩ | ⟨rfl, rfl⟩
 ·
  obtain ⟨g', cur2, z1, z2, z3, z4, z5, z6, z7⟩ := hA.resolve_left hc0
  injection z1 with z1
  injection z1 with z1
  subst z1
  have J := I.adopt (j := j) hfree hg hsz z5 z6 z7 hlen2 hcell
  refine ⟨_, _, _, hrun, J.set d _ _ hd (by rw [zI (by omega)]; exact hbox) ?_⟩
  rw [hll]
  exact ⟨_, c2, q1, q2, rfl, .inr ⟨g, cur', e, yZ _ _ _, rfl, setRow_heap w g cur cur' e _ hg, by rw [Nat.zero_add]; exact q3, .inr rfl⟩⟩
 ·
  have J := I.drew.obj_new (j := j) (E := e) hfree hlen2 (fun i x hi => by
   obtain ⟨dd, rfl, u, k1, k2⟩ := hcell i x hi
   exact ⟨rfl, u, k1, k2⟩)
  refine ⟨_, _, _, hrun, J.set d _ _ hd (by rw [zI (by omega)]; exact hbox) ?_⟩
  rw [hll]
  exact ⟨_, c2, q1, q2, rfl, .inr ⟨w.heap.size, cur', e, yZ _ _ _, rfl, heap_alloc_new w.drew _, by rw [Nat.zero_add]; exact q3, .inr rfl⟩⟩
theorem zGn (S : Nat → A) (b : Nat) (x y : A) : upd (upd S b x) b y = upd S b y := by
 funext t
 unfold upd
 split <;> rfl
theorem noPt_d (l : List D) : noPt (l.map T.d) = true := by
 unfold noPt
 rw [List.all_map]
 exact List.all_eq_true.2 fun _ _ => rfl
theorem ok_apg (hM : Mk M S) {op : Oper} {d j E k nb t : Nat} {x y : Operand} {l l' : List (List D)} {S1 : Nat → A} (hop : op.op = .call { callee := .builtin .append, args := #[x, y], argTypes := #[t, t] }) (hd : op.dst = some d) (hok : okD N pins S d = true) (hdO : d < OB) (hE : elF P t = some (E, k, nb))
  (hj : j < OB) (hp : OB + j ∉ pins) (hx : cpO M x = .t (.view j 0 E k l.length)) (hb : S (OB + j) = .box ((l.flatMap id).map .d)) (hrk : ∀ r ∈ l, r.length = k) (hl' : slD k (dO M y) = some l') (hpos : 0 < l'.length) (hbd : (l.length + l'.length) * nb ≤ 140737488355328) (hE0 : Nat.blt 0 E = true)
  (hS1 : ∀ s, S1 s = S s ∨ (S1 s = .any ∧ (S s).isBox = false)) (hm : ∀ s, s ≠ OB + j → zBl j (S1 s) = false) :
  OpOK P pins N op S (upd (upd S1 (OB + j) (.box (((l ++ l').flatMap id).map .d))) d (.t (.view j 0 E k (l ++ l').length))) := by
 refine zP fun w0 m0 o0 G a w m o hN I => ?_
 obtain ⟨h1, h2, h3⟩ := qF hok
 have hv' : RepD m (.seq k l') (a.eval y) := zDq hl' fun d hd => zCs hM I hd
 have hxr := yA hM I x 0
 rw [hx] at hxr
 obtain ⟨A', c, q2, q3, q5, q4⟩ := hxr
 have hbs := I.slots (OB + j)
 rw [hb] at hbs
 obtain ⟨g, _, b1, b2, cs, E', b3, b4, b5⟩ := hbs
 have Ek := zFW hE
 have hlen : ((l.flatMap id).map T.d).length = l.length * k := by rw [List.length_map, zDM hrk]
 rw [hlen] at b4
 have hrows : zDj m k l (cs.toList.take (l.length * k)) := by
  refine ⟨by have e := Array.length_toList (xs := cs); rw [List.length_take]; omega, fun i r hi => hrk r (List.mem_of_getElem? hi), fun i r q e hi hq => ?_⟩
  have hrl := hrk r (List.mem_of_getElem? hi)
  have hqk : q < k := by rw [← hrl]; exact (List.getElem?_eq_some_iff.1 hq).1
  have hc : ((l.flatMap id).map T.d)[i * k + q]? = some (.d e) := by rw [List.getElem?_map, zB2 hrk hi hqk, hq]; rfl
  have hlt : i * k + q < l.length * k := by rw [← hlen]; exact (List.getElem?_eq_some_iff.1 hc).1
  obtain ⟨_, u, k1, k2⟩ := b5 _ _ hc
  exact ⟨u, by rw [List.getElem?_take, if_pos hlt]; simpa using k1, k2⟩
 have hbb : S1 (OB + j) = .box ((l.flatMap id).map .d) := by
  rcases hS1 (OB + j) with e | ⟨_, e⟩
  · rw [e, hb]
  · rw [hb] at e; cases e
 have J0 := (I.less hS1).forget hj hp fun s => by
  by_cases e : s = OB + j
  ·
   subst e
   rw [hbb]
   exact zD4 (noPt_d _) j
  · exact hm s e
 have hdb : (upd S1 (OB + j) .free d).isBox = false := by
  rw [zI (by omega)]
  rcases hS1 d with e | ⟨e, _⟩
  · rw [e]; exact h2
  · rw [e]; rfl
 obtain ⟨v, w', o', hr, J⟩ := app_obj J0 Ek op.type (d := d) (j := j) (by omega) hdO hdb (zU _ _ _) q2 q3 hrows (q4.imp id fun ⟨g', cs', E1, z1, z2, z3, z4, z5⟩ => by
  have := I.inj _ _ _ b1 z1
  subst this
  have hE1 : 0 < E := by simpa using hE0
  have hE2 : E1 = E := z5.resolve_left (by omega)
  rw [hE2] at z3
  refine ⟨g, cs', z2, z3, by omega, ?_, ?_, I.own g _ b1, b2⟩
  ·
   rw [b3] at z3
   injection z3 with z3
   injection z3 with z3
   rw [z3]
  ·
   cases hdr : zFd o j g with
   | none => rfl
   | some l0 =>
    obtain ⟨y1, y2⟩ := qT.1 hdr
    rw [b1] at y1
    injection y1 with y1
    exact absurd (by rw [← y1]) y2) hv' hpos hbd
 rw [zGn] at J
 refine ⟨v, w', m, o', ?_, by rw [hd]; exact J⟩
 unfold execOp
 rw [hop]
 simp only [resolve, invoke, builtin, Sem.run_bind, Sem.run_pure, Result.andThen_ok, List.map_toArray, List.map_cons, List.map_nil]
 rw [q5, hr]
 rfl
theorem ok_apg1 (hM : Mk M S) {op : Oper} {d j E k nb t : Nat} {x y : Operand} {l' : List (List D)} {S1 : Nat → A} (hop : op.op = .call { callee := .builtin .append, args := #[x, y], argTypes := #[t, t] }) (hd : op.dst = some d) (hok : okD N pins S d = true) (hdO : d < OB) (hE : elF P t = some (E, k, nb))
  (hx : cpO M x = .t (.view j 0 E k 0)) (hb : S (OB + j) = .free) (hl' : slD k (dO M y) = some l') (hpos : 0 < l'.length) (hbd : l'.length * nb ≤ 140737488355328)
  (hS1 : ∀ s, S1 s = S s ∨ (S1 s = .any ∧ (S s).isBox = false)) (hb1 : S1 (OB + j) = .free) :
  OpOK P pins N op S (upd (upd S1 (OB + j) (.box ((l'.flatMap id).map .d))) d (.t (.view j 0 E k l'.length))) := by
 refine zP fun w0 m0 o0 G a w m o hN I => ?_
 obtain ⟨h1, h2, h3⟩ := qF hok
 have hv' : RepD m (.seq k l') (a.eval y) := zDq hl' fun d hd => zCs hM I hd
 have hxr := yA hM I x 0
 rw [hx] at hxr
 obtain ⟨A', c, q2, q3, q5, q4⟩ := hxr
 have hf : ∀ g k, o g ≠ some (OB + j, k) := by have := I.slots (OB + j); rw [hb] at this; exact this
 have hc0 : c = 0 := q4.resolve_right fun ⟨g, cs, _, z, _⟩ => hf g 0 z
 have hdb : (S1 d).isBox = false := by
  rcases hS1 d with e | ⟨e, _⟩
  · rw [e]; exact h2
  · rw [e]; rfl
 obtain ⟨v, w', o', hr, J⟩ := app_obj (l := []) (xs := []) (c := c) (A' := A') (I.less hS1) (zFW hE) op.type (d := d) (j := j) (by omega) hdO hdb hb1 q2 q3 ⟨by simp, fun i r h => by simp at h, fun i r j d h => by simp at h⟩ (.inl hc0) hv' hpos (by simpa using hbd)
 refine ⟨v, w', m, o', ?_, by rw [hd]; exact J⟩
 unfold execOp
 rw [hop]
 simp only [resolve, invoke, builtin, Sem.run_bind, Sem.run_pure, Result.andThen_ok, List.map_toArray, List.map_cons, List.map_nil]
 simp only [List.length_nil] at hr
 rw [q5, hr]
 rfl
end
end Go.Proofs.YtmgafkpkpmjieaaDoor

/-
 The rules of objects, as a walk uses them.
-/
namespace Go.Proofs.YtmgafkpkpmjieaaDoor
open Go Go.RowKit
set_option linter.unusedVariables false
section
variable {P : Program} {pins : List Nat} {N : Nat} {S M : Nat → A} {op : Oper} {e : Eff} {d c : Nat} {f f' : Nat → A} {L : SL}
theorem lo_of {j : Nat} (h : Nat.blt (j + 1) OB = true) : OB + j < OB2 ∧ OB + j ≠ HK ∧ j < OB := by
 have h : j + 1 < OB := by simpa using h
 refine ⟨by unfold OB OB2 at *; omega, by unfold HK; unfold OB at *; omega, by omega⟩
theorem h_mkl (hM : Mk M S) {j t e q E : Nat} {xn xc : Operand} {kl kc : IntKind} {n : Int} {ie : TypeInfo} {z : Value} {c0 l : List T} (hop : op.op = .makeSlice t xn xc) (hn : vO M xn = some (.int kl n)) (hc : vO M xc = some (.int kc n)) (hu : P.underlying t = some (.slice e)) (hie : P.info? e = some ie) (hz : ie.zero = some z)
  (hc0 : zDS (litA z) = some c0) (hsz : c0.length = ie.size) (hE : ie.size = E) (hq : mkI ie.bytes n = some q) (hl : fl (fun _ => c0) (List.replicate q ()) = l) (hd : op.dst = some d) (hok : okD N pins S d = true) (hj : Nat.blt (j + 1) OB = true) (hfree : M (OB + j) = .free) :
  OpH P pins N op S (app S [(OB + j, .box l), (d, .t (.view j 0 e E q))]) := by
 subst hl hE
 intro hN hlo
 obtain ⟨e1, e2, e3⟩ := lo_of hj
 have hdO := yG hN hok
 have hfr : hx S (OB + j) = .free := by
  rcases hM (OB + j) with e | e
  · rw [e] at hfree; cases hfree
  · rw [e] at hfree; exact zB1 hfree (by simp)
 refine ⟨?_, (hlo.upd e1).upd (lt2 hdO)⟩
 show OpOK P pins N op (hx S) (hx (upd (upd S (OB + j) _) d _))
 rw [zCM (lt2 hdO) (by unfold HK; unfold OB at hdO; omega), zCM e1 e2]
 exact ok_make hM.hx hop hn hc hu hie hz hc0 hsz hq hd (yL hN hok) (by simpa using hdO) hfr
theorem zHe (hM : Mk M S) {j off E k n t e : Nat} {x i : Operand} {ki : IntKind} {z : Int} {ie : TypeInfo} {y : A} (hop : op.op = .indexAddr t x i) (hx : cpO M x = .t (.view j off E k n)) (hi : vO M i = some (.int ki z)) (hu : P.underlying t = some (.slice e)) (hie : P.info? e = some ie) (hz : 0 ≤ z ∧ z < n) (hy : A.ref (OB + j) (off + z.toNat * ie.size) = y) (hd : op.dst = some d) (hok : okD N pins S d = true) : OpH P pins N op S (app S [(d, y)]) := by
 subst hy
 exact .of (e := [(d, _)]) fun hN => ⟨ok_ixv hM.hx hop hx hi hu hie hz hd (yL hN hok), zB0 (yG hN hok)⟩
theorem zBj (hM : Mk M S) {b off t n : Nat} {x : Operand} {l : List T} {z : T} {y : A} (hop : op.op = .load t x) (ht : tyA P t = some (false, n)) (hx : cpO M x = .ref b off) (hb : M b = .box l) (hl : l[off]? = some z) (hy : norA z = y) (hd : op.dst = some d) (hok : okD N pins S d = true) : OpH P pins N op S (app S [(d, y)]) := by
 subst hy
 exact .of (e := [(d, _)]) fun hN => ⟨ok_ldx hM.hx hop ht hx hb hl hd (yL hN hok), zB0 (yG hN hok)⟩
theorem h_llr (hM : Mk M S) {b off t n : Nat} {x : Operand} {l r : List T} {y : List D} (hop : op.op = .load t x) (ht : tyA P t = some (true, n)) (hx : cpO M x = .ref b off) (hb : M b = .box l) (hl : (l.drop off).take n = r) (hr : r.length = n) (hpos : Nat.blt 0 n = true) (hpt : noPt r = true) (hy : r.map toD = y) (hd : op.dst = some d) (hok : okD N pins S d = true) : OpH P pins N op S (app S [(d, .t (.agg y))]) := by
 subst hy
 exact .of (e := [(d, _)]) fun hN => ⟨ok_ldr hM.hx hop ht hx hb hl hr hpos hpt hd (yL hN hok), zB0 (yG hN hok)⟩
theorem zIk (hM : Mk M S) {t b off : Nat} {x y : Operand} (hop : op.op = .store t x y) (hd : op.dst = none) {i : TypeInfo} (hi : P.info? t = some i) (hx : cpO M x = .ref b off) {l l' : List T} (hb : M b = .box l) {q : List T} (hc : zC4 (cpO M y) = some q) (hsz : q.length = i.size) (hle : off + i.size ≤ l.length) (hl' : yC l off q = l') : OpH P pins N op S (app S [(b, .box l')]) := by
 subst hl'
 refine .of (e := [(b, _)]) fun _ => ⟨zF3 hM.hx hop hd hi hx hb hc hsz hle, fun z hz => ?_⟩
 simp at hz
 subst hz
 exact .inr ⟨zFr hM hb rfl, rfl⟩
theorem h_lln (hM : Mk M S) {j off E k n t e : Nat} {x : Operand} {y : A} (hop : op.op = .call { callee := .builtin .len, args := #[x], argTypes := #[t] }) (hx : cpO M x = .t (.view j off E k n)) (hu : P.underlying t = some (.slice e)) (hy : A.t (.d (.lit (.int .i64 n))) = y) (hd : op.dst = some d) (hok : okD N pins S d = true) : OpH P pins N op S (app S [(d, y)]) := by
 subst hy
 exact .of (e := [(d, _)]) fun hN => ⟨ok_lnv hM.hx hop hx hu hd (yL hN hok), zB0 (yG hN hok)⟩
end
section
variable {P : Program} {pins : List Nat} {N : Nat} {l0 : List Oper} {Q : SL → Prop} {r : List Oper} {op : Oper} {L : SL} {acc : List (List Nat × List Nat)} {T : List Nat}
theorem zG5 (x : Nat × A) : ∀ (e : Eff) (L : SL), setL L (e ++ [x]) = x :: setL L e
 | [], L => rfl
 | y :: e, L => zG5 x e (y :: L)
theorem d_bar {e : Eff} {ks : List Nat} {L' : SL} (hg : op.guard = none) (hks : keys e = ks) (h : OpH P pins N op (gt L) (app (gt L) e)) (hL : setL L e = L') (k : DOK P pins N l0 Q r ((ks ++ [AK], ks ++ [AK]) :: acc) ((AK, .any) :: L')) : DOK P pins N l0 Q (op :: r) acc L := by
 subst hL hks
 refine ⟨keys (e ++ [(AK, .any)]), e ++ [(AK, .any)], ⟨fun x hx => hx, .inr (.inr ⟨by simp [keys], hg, fun hN hlo => ?_⟩)⟩, ?_⟩
 ·
  obtain ⟨h1, h2⟩ := h hN hlo
  have : app (gt L) (e ++ [(AK, .any)]) = app (gt L) e := by
   rw [zEv]
   funext t
   show upd (app (gt L) e) AK .any t = _
   by_cases ht : t = AK
   ·
    subst ht
    rw [zU]
    exact (h2 AK (Nat.le_refl _)).symm
   · rw [zI ht]
  rw [this]
  exact ⟨h1, h2⟩
 ·
  rw [zG5, show keys (e ++ [(AK, A.any)]) = keys e ++ [AK] from by simp [keys]]
  exact k
theorem d_h {e : Eff} {ks : List Nat} {L' : SL} (hT : zB6 (HK :: zCW l0.toArray (gt L) op) some = some T) (hy : dyes l0 op L T) (hks : keys e = ks) (hk : ks.all T.contains = true)
  (h : ∀ S', Mk (mask T (gt L)) S' → S' HK = gt L HK → (∀ d, T.contains d = true → okD N pins (gt L) d = true → okD N pins S' d = true) → OpH P pins N op S' (app S' e)) (hL : setL L e = L') (k : DOK P pins N l0 Q r ((T, ks) :: acc) L') : DOK P pins N l0 Q (op :: r) acc L := by
 have hT := zFN hT
 subst hL hks
 have h' : ∀ S', (∀ t ∈ T, S' t = gt L t) → OpH P pins N op S' (app S' e) := fun S' hS => h S' (zDf hS) (hS HK (by rw [← hT]; exact .head _)) fun d hd hok => by
  unfold okD at hok ⊢
  rw [hS d (by simpa using hd)]
  exact hok
 refine ⟨T, e, ⟨all_T hk, ?_⟩, k⟩
 rcases hy with hg | ⟨j, want, t, c, h1, h2, h3, h4, h5⟩
 · exact .inl ⟨hg, h'⟩
 · exact .inr (.inl ⟨j, want, t, h1, h2, by simpa using h3, .inl ⟨by rw [h4, h5], h'⟩⟩)
end
end Go.Proofs.YtmgafkpkpmjieaaDoor

/-
 The heap as models tell it; rules for walks that a program writes, of functions that read and write the heap.
-/
namespace Go.Proofs.YtmgafkpkpmjieaaDoor
open Go Go.RowKit
set_option linter.unusedVariables false
def lenI (n m : Nat) : Option Unit := if n = m then some () else none
theorem zBt {n m : Nat} {u : Unit} (h : lenI n m = some u) : n = m := by
 unfold lenI at h
 by_cases e : n = m
 · exact e
 · rw [if_neg e] at h; cases h
theorem zFY {n m : Nat} (h : n = m) : lenI n m = some () := if_pos h
def cd (t i : Nat) : Nat := i * 64 + t
def ptT (t : Nat) : Option Nat → T
 | none => .d (.lit (.pointer none))
 | some i => .hpt (cd t i) 0
def dT {α : Type} (c : α → List D) (a : α) : List T := (c a).map T.d
theorem zEm {α : Type} {c : α → List D} {k : Nat} (h : ∀ a, (c a).length = k) (a : α) : (dT c a).length = k := by unfold dT; rw [List.length_map, h]
theorem zHU {α : Type} (c : α → List D) (l : List α) : fl (dT c) l = ((l.map c).flatMap id).map T.d := by
 unfold fl dT
 induction l with
 | nil => rfl
 | cons a r ih => simp only [List.flatMap_cons, List.map_cons, List.map_append, id_eq, ih]
theorem zDD {α : Type} (c : α → List D) (l : List α) : noPt (fl (dT c) l) = true := by
 refine List.all_eq_true.2 fun y hy => ?_
 obtain ⟨a, _, h⟩ := List.mem_flatMap.1 hy
 obtain ⟨d, _, rfl⟩ := List.mem_map.1 h
 rfl
theorem fl_rep {α : Type} {c : α → List D} {c0 : List T} {z : α} (h : dT c z = c0) (q : Nat) : fl (fun _ => c0) (List.replicate q ()) = fl (dT c) (List.replicate q z) := by
 unfold fl
 induction q with
 | zero => rfl
 | succ q ih => rw [List.replicate_succ, List.replicate_succ, List.flatMap_cons, List.flatMap_cons, ih, h]
theorem map_row {α : Type} {c : α → List D} {k : Nat} (h : ∀ a, (c a).length = k) (l : List α) : ∀ r ∈ l.map c, r.length = k := by
 intro r hr
 obtain ⟨a, _, rfl⟩ := List.mem_map.1 hr
 exact h a
theorem zBk {α : Type} {c : α → List D} {l : List α} {z : Int} {y : α} (h : idx l z = some y) {d : D} (hd : c y = [d]) (hc : ∀ a, (c a).length = 1) : (fl (dT c) l)[0 + z.toNat * 1]? = some (.d d) := by
 have := zHY (c := dT c) (k := 1) (zEm hc) (zDu h).2.2 (q := 0) (by omega)
 rw [Nat.zero_add]
 rw [Nat.add_zero] at this
 rw [this]
 unfold dT
 rw [hd]
 rfl
theorem zHM {α : Type} {c : α → List D} {l : List α} {z : Int} {y : α} (h : idx l z = some y) (v : α) (hc : ∀ a, (c a).length = 1) {q : List T} (hq : dT c v = q) : yC (fl (dT c) l) (0 + z.toNat * 1) q = fl (dT c) (l.set z.toNat v) := by
 have hl : q.length = 1 := by rw [← hq]; exact zEm hc v
 have := fl_splice (c := dT c) (k := 1) (zEm hc) (zDu h).2.2 (q := 0) (b := v) (d := q) (by
  unfold yC
  rw [hq, hl, List.take_zero, List.nil_append, List.drop_of_length_le (by rw [zEm hc]; omega), List.append_nil]) (by omega)
 rw [Nat.zero_add]
 rw [Nat.add_zero] at this
 exact this
theorem zFm {α : Type} {c : α → List D} {l : List α} {z : Int} {y : α} (h : idx l z = some y) (hc : ∀ a, (c a).length = 1) : 0 + z.toNat * 1 + 1 ≤ (fl (dT c) l).length := by
 have h1 := zDu h
 rw [zEo (zEm hc)]
 omega
theorem idxV {α : Type} {l : List α} {z : Int} {y : α} {n : Nat} (hn : l.length = n) (h : idx l z = some y) : 0 ≤ z ∧ z < (n : Int) := by
 subst hn
 exact ⟨(zDu h).1, (zDu h).2.1⟩
def fgtL : List Nat → SL → SL
 | [], L => L
 | j :: r, L => fgtL r ((OB + j, .free) :: zDG j HK L)
def fgtB (pins : List Nat) : List Nat → SL → Bool
 | [], _ => true
 | j :: r, L => Nat.blt (j + 1) OB && !pins.contains (OB + j) && zF2 j HK L && fgtB pins r ((OB + j, .free) :: zDG j HK L)
section
variable {P : Program} {pins : List Nat} {N : Nat} {Q : Exit → SL → Prop} {L L' : SL}
theorem St.fgt1 {w0 : World} {m0 : Mem} {o0 : OwnM} {G : GD} {a : Act} {w : World} (hS : St w0 m0 o0 G pins N L a w) {j : Nat} (hc : (Nat.blt (j + 1) OB && !pins.contains (OB + j) && zF2 j HK L) = true) (hh : zGa L) : St w0 m0 o0 G pins N ((OB + j, .free) :: zDG j HK L) a w := by
  simp only [Bool.and_eq_true, Bool.not_eq_true', List.contains_eq_mem, decide_eq_false_iff_not] at hc
  obtain ⟨⟨c2, c3⟩, c6⟩ := hc
  have c2 : j + 1 < OB := by simpa using c2
  obtain ⟨hN, hlo, m, o, I⟩ := hS
  have hL2 : ∀ s, gt (zDG j HK L) s = gt L s ∨ (gt (zDG j HK L) s = .any ∧ (gt L s).isBox = false) := fun s => by
    rw [zDo]
    cases hm : (Nat.blt s OB && (zBl j (gt L s) && !Nat.beq s HK)) with
    | true => exact .inr ⟨rfl, zFU c6 s hm⟩
    | false => exact .inl rfl
  have hk2 : gt (zDG j HK L) HK = gt L HK := zB3 L (by unfold HK OB; omega)
  obtain ⟨hlo2, hx2⟩ := hx_less hlo hk2 hL2
  have I2 := I.less hx2
  have hm : ∀ s, zBl j (hx (gt (zDG j HK L)) s) = false := fun s => by
    rcases Nat.lt_or_ge s OB2 with h3 | h3
    · rw [zC9 h3]
      rcases Nat.lt_or_ge s OB with h4 | h4
      · rw [zDo]
        have hsd : Nat.beq s HK = false := by
          cases hb : Nat.beq s HK with
          | false => rfl
          | true => have := Nat.eq_of_beq_eq_true hb
                    unfold HK at this; unfold OB at h4
                    omega
        have hso : Nat.blt s OB = true := by simpa using h4
        rw [hsd, hso]
        cases hm : zBl j (gt L s) with
        | true => rfl
        | false => exact hm
      · rw [zB3 L h4]; exact hh.2 s h4 j
    · obtain ⟨k, rfl⟩ : ∃ k, s = OB2 + k := ⟨s - OB2, by omega⟩
      exact zFk hlo2 (by rw [hk2]; exact hh.1) k
  have e1 : OB + j < OB2 := by unfold OB OB2 at *; omega
  have e2 : OB + j ≠ HK := by unfold HK; unfold OB at *; omega
  refine ⟨hN, ?_, m, zFd o j, ?_⟩
  · rw [yN]
    exact hlo2.upd e1
  · rw [yN, zCM e1 e2]
    exact I2.forget (by omega) c3 hm
theorem heapP_fgt {j : Nat} (hj : Nat.blt (j + 1) OB = true) (hh : zGa L) : zGa ((OB + j, .free) :: zDG j HK L) := by
 have h2 := (lo_of hj).2.1
 have e : gt ((OB + j, .free) :: zDG j HK L) HK = gt L HK := by
  rw [yN, zI (Ne.symm h2), zB3 L (by unfold HK OB; omega)]
 unfold zGa
 rw [e]
 exact ⟨hh.1, hh.2.fgt⟩
theorem St.fgt {w0 : World} {m0 : Mem} {o0 : OwnM} {G : GD} {a : Act} {w : World} (js : List Nat) : ∀ (L : SL), St w0 m0 o0 G pins N L a w → fgtB pins js L = true → zGa L → St w0 m0 o0 G pins N (fgtL js L) a w := by
 induction js with
 | nil => exact fun L h _ _ => h
 | cons j r ih =>
  intro L h hb hh
  unfold fgtB at hb
  rw [Bool.and_eq_true] at hb
  have hj : Nat.blt (j + 1) OB = true := by have := hb.1; simp only [Bool.and_eq_true] at this; exact this.1.1
  exact ih _ (h.fgt1 hb.1 hh) hb.2 (heapP_fgt hj hh)
theorem c_fuelH {X : Type} {c : Code} (F : X → SL) (M : Nat → X → Prop) (n0 : Nat) (x0 : X) (js0 : List Nat) (h0 : M n0 x0) (hb : fgtB pins js0 L = true) (hh : zGa L) (hw : WkS (fgtL js0 L) (F x0)) (hr : zE9 (F x0) = true)
  (round : ∀ n x, M n x → yP P pins N c (zE0 (fun L' => ∃ n' x' js, n' < n ∧ M n' x' ∧ fgtB pins js L' = true ∧ zGa L' ∧ WkS (fgtL js L') (F x') ∧ zE9 (F x') = true) Q) (F x)) : yP P pins N (.loop c) Q L := by
 intro Fe ne hF w0 m0 o0 G a w hS
 refine c_loopR (L := F x0) (fun n L => ∃ x, M n x ∧ L = F x) n0 ⟨x0, h0, rfl⟩ ?_ Fe ne hF w0 m0 o0 G a w (St.weaken (hS.fgt _ _ hb hh) hw hr)
 rintro n L ⟨x, hI, rfl⟩
 intro Fe ne hF w0 m0 o0 G a w hS
 refine wpIn_mono (round n x hI Fe ne hF w0 m0 o0 G a w hS) ?_
 rintro e a' w' ⟨L', hq, hS'⟩
 refine ⟨L', ?_, hS'⟩
 cases e with
 | normal =>
  obtain ⟨n', x', js, hlt, hI', q1, q2, hw', hr'⟩ := hq
  exact ⟨n', F x', hlt, ⟨x', hI', rfl⟩, fun _ _ _ _ _ _ h => St.weaken (h.fgt _ _ q1 q2) hw' hr'⟩
 | _ => exact hq
theorem WkA.vwn {j off E k n n' : Nat} (h : n = n') : WkA (.t (.view j off E k n)) (.t (.view j off E k n')) := by rw [h]; exact .refl _
theorem WkA.of_eq {x y : A} (h : x = y) : WkA x y := by rw [h]; exact .refl _
end
theorem zHn {P : Program} {fn : FuncId} {args : List A} {f f' : Nat → A} {r : A} (hf : FCH P fn args [] [] f f' r) (h0 : ∀ c, san (f c) = .free) (hp : args.all A.plain = true) (hle : args.length ≤ OB) : FC P fn args [] r := by
 intro w m o vals hsat htbl hlt hinj hsz hrep
 refine (hf w m o vals hsat htbl (fun g l h => (hlt g l h).1) hinj hsz fun s => ?_).mono ?_
 ·
  unfold argH
  split
  ·
   rename_i h
   have h1 := hrep s
   unfold argS at h1
   rw [List.getD_eq_getElem?_getD] at h1 ⊢
   cases hx : args[s]? with
   | none => trivial
   | some x =>
    rw [hx] at h1
    exact zEd (List.all_eq_true.1 hp x (List.mem_of_getElem? hx)) h1
  ·
   rename_i h
   have key : RepA m w o (fun s => if s < OB then args.getD s .any else if OB2 ≤ s then san (f (s - OB2)) else match ([] : List A)[s - OB]? with | some x => x | none => .free) s .free (vals.getD s undef) := fun g k e => h (hlt g _ e).2
   split
   · rw [h0]; exact key
   · exact key
 ·
  rintro e w' ⟨u, m', o', S', a', ρ, h1, h2, h3, _⟩
  rw [zGA hp]
  exact ⟨u, m', o', S', a', ρ, h1, h2, h3, fun i l h => by cases h⟩
end Go.Proofs.YtmgafkpkpmjieaaDoor
