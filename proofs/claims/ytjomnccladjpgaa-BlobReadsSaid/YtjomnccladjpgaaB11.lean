/-
  Texts joined: see the remark at the head of each part.
-/
import Derived.Test.YtjomnccladjpgaaB10
import Derived.Laws.CopyRow
import Derived.Test.YtjomnccladjpgaaB00
import Derived.Test.YtjomnccladjpgaaB04
import Derived.Test.YtjomnccladjpgaaProg
set_option linter.unusedVariables false
set_option linter.unusedSimpArgs false
/-
  Arrays as values; variables and made slices as objects, of the frame or of the heap; slices of arrays; copy.
-/
namespace Go.Proofs.Ytjomnccladjpgaa
open Go Go.RowKit
set_option linter.unusedVariables false

section
variable {α : Type} {c : α → List D} {z : α} {k : Nat}
/-- The cells of an array: n elements from the i-th on, whatever the list. -/
def ar (c : α → List D) (z : α) (l : List α) : Nat → Nat → List D
  | _, 0 => []
  | i, n + 1 => c (l.getD i z) ++ ar c z l (i + 1) n
def padA (z : α) (l : List α) : Nat → Nat → List α
  | _, 0 => []
  | i, n + 1 => l.getD i z :: padA z l (i + 1) n
theorem padA_len (l : List α) : ∀ (n i : Nat), (padA z l i n).length = n
  | 0, _ => rfl
  | n + 1, i => congrArg (· + 1) (padA_len l n (i + 1))
theorem ar_pad (l : List α) : ∀ (n i : Nat), ar c z l i n = fl c (padA z l i n)
  | 0, _ => rfl
  | n + 1, i => congrArg (c (l.getD i z) ++ ·) (ar_pad l n (i + 1))
theorem ar_len (hc : ∀ a, (c a).length = k) (l : List α) (i n : Nat) : (ar c z l i n).length = n * k := by
  rw [ar_pad, fl_len hc, padA_len]
theorem padA_drop (l : List α) : ∀ (n i : Nat), i + n = l.length → padA z l i n = l.drop i
  | 0, i, h => by rw [List.drop_of_length_le (by omega)]; rfl
  | n + 1, i, h => by
    have hi : i < l.length := by omega
    show l.getD i z :: padA z l (i + 1) n = _
    rw [padA_drop l n (i + 1) (by omega), List.drop_eq_getElem_cons hi, List.getD_eq_getElem?_getD, List.getElem?_eq_getElem hi]
    rfl
theorem padA_id {l : List α} {n : Nat} (h : l.length = n) : padA z l 0 n = l := by rw [padA_drop l n 0 (by omega)]; rfl
theorem ar_id {l : List α} {n : Nat} (h : l.length = n) : ar c z l 0 n = fl c l := by rw [ar_pad, padA_id h]
theorem fl_take1 {β : Type} {f : α → List β} (hf : ∀ a, (f a).length = 1) : ∀ (x : List α) (i : Nat), (fl f x).take i = fl f (x.take i)
  | [], i => by simp [fl]
  | a :: t, 0 => by simp [fl]
  | a :: t, i + 1 => by
    have h := hf a
    show (f a ++ fl f t).take (i + 1) = f a ++ fl f (t.take i)
    rw [← fl_take1 hf t i]
    match hfa : f a, h with
    | [b], _ => rfl
theorem fl_drop1 {β : Type} {f : α → List β} (hf : ∀ a, (f a).length = 1) : ∀ (x : List α) (i : Nat), (fl f x).drop i = fl f (x.drop i)
  | [], i => by simp [fl]
  | a :: t, 0 => by simp
  | a :: t, i + 1 => by
    have h := hf a
    show (f a ++ fl f t).drop (i + 1) = fl f (t.drop i)
    rw [← fl_drop1 hf t i]
    match hfa : f a, h with
    | [b], _ => rfl
theorem fl_append {β : Type} (f : α → List β) (x y : List α) : fl f (x ++ y) = fl f x ++ fl f y := List.flatMap_append
theorem flr_at {l : List α} {z : Int} {y : α} {k : Nat} (h : idx l z = some y) (hc : ∀ a, (c a).length = k) : ((fl (dT c) l).drop (0 + z.toNat * k)).take k = dT c y := by
  rw [Nat.zero_add]
  exact fl_row (dT_len hc) (idx_lt h).2.2
/-- A slice as an array. -/
def s2aI (n : Nat) (l : List α) : Option (List α) := if n ≤ l.length then some (l.take n) else none
theorem s2aI_iff {n : Nat} {l x : List α} (h : s2aI n l = some x) : n ≤ l.length ∧ x = l.take n := by
  unfold s2aI at h
  split at h
  · injection h with h; exact ⟨by assumption, h.symm⟩
  · cases h
theorem s2a_row {n : Nat} {l x : List α} (h : s2aI n l = some x) : ((l.map c).take n).flatMap id = ar c z x 0 n := by
  obtain ⟨h1, rfl⟩ := s2aI_iff h
  rw [ar_id (by rw [List.length_take]; omega), ← List.map_take]
  unfold fl
  rw [List.flatMap_map]
  rfl
/-- What copy leaves: n places from off on get what stands first in y. -/
def cpyL (x : List α) (off n : Nat) (y : List α) : List α := x.take off ++ (y.take n ++ x.drop (off + min y.length n))
def cpyI (x : List α) (off n : Nat) (y : List α) : Option (List α) := if off + n ≤ x.length then some (cpyL x off n y) else none
theorem cpyI_iff {x y v : List α} {off n : Nat} (h : cpyI x off n y = some v) : off + n ≤ x.length ∧ v = cpyL x off n y := by
  unfold cpyI at h
  split at h
  · injection h with h; exact ⟨by assumption, h.symm⟩
  · cases h
theorem cpy_row (hc : ∀ a, (c a).length = 1) (x y : List α) (off n : Nat) : splice (fl (dT c) x) off ((((y.map c).take n).flatMap id).map T.d) = fl (dT c) (cpyL x off n y) := by
  have h1 : ((((y.map c).take n).flatMap id).map T.d) = fl (dT c) (y.take n) := by
    rw [← List.map_take, ← fl_flat]
  have hd := dT_len hc
  have h2 : (fl (dT c) (y.take n)).length = min y.length n := by rw [fl_len hd, List.length_take]; omega
  unfold splice cpyL
  rw [h1, h2, fl_take1 hd, fl_drop1 hd, fl_append, fl_append, List.append_assoc]
def pieceI (x : List α) (off n : Nat) : Option (List α) := if off + n ≤ x.length then some ((x.drop off).take n) else none
theorem pieceI_iff {x y : List α} {off n : Nat} (h : pieceI x off n = some y) : off + n ≤ x.length ∧ y = (x.drop off).take n := by
  unfold pieceI at h
  split at h
  · injection h with h; exact ⟨by assumption, h.symm⟩
  · cases h
/-- A cut of a slice of an object. -/
def vcut (n : Nat) (lo hi : Int) : Option Unit := if 0 ≤ lo ∧ lo ≤ hi ∧ hi ≤ n then some () else none
theorem vcut_iff {n : Nat} {lo hi : Int} {u : Unit} (h : vcut n lo hi = some u) : 0 ≤ lo ∧ lo ≤ hi ∧ hi ≤ n := by
  unfold vcut at h
  split at h
  · assumption
  · cases h
end

section
variable {w0 : World} {m0 : Mem} {o0 : OwnM} {G : GD} {pins : List Nat} {S M : Nat → A} {a : Act} {w : World} {m : Mem} {o : OwnM} {P : Program} {N : Nat} {op : Oper} {d c : Nat} {f f' : Nat → A}
/-- A slot is told otherwise. -/
theorem Inv.tell (I : Inv w0 m0 o0 G pins S a w m o) (d : Nat) (x : A) (hbox : (S d).isBox = false) (hx : RepA m w o (upd S d x) d x (a.tmps.getD d undef)) : Inv w0 m0 o0 G pins (upd S d x) a w m o := by
  refine ⟨I.same, I.sat, I.mono, I.old, I.own, I.lt, I.inj, I.pinned, fun s => ?_, I.defers, I.tbl, I.wide, I.shps⟩
  by_cases e : s = d
  · subst e
    rw [upd_same]
    exact hx
  · rw [upd_other e]
    refine (I.slots s).turn fun b l hb => ⟨l, ?_⟩
    rw [upd_other (fun e => by rw [e] at hb; rw [hb] at hbox; cases hbox), hb]
theorem OpOK.post {S1 S2 : Nat → A} (h : OpOK P pins N op S S1) (k : ∀ w0 m0 o0 G a w m o, Inv w0 m0 o0 G pins S1 a w m o → Inv w0 m0 o0 G pins S2 a w m o) : OpOK P pins N op S S2 :=
  fun w0 m0 o0 G a w m o hN I K Q hK => h w0 m0 o0 G a w m o hN I K Q fun a' w' m' o' hN' I' => hK a' w' m' o' hN' (k _ _ _ _ _ _ _ _ I')
/-- An operation that gives object j and slot d. -/
theorem OpH.lo2 {j : Nat} {x1 x2 : A} (hj : Nat.blt (j + 1) OB = true) (hok : okD N pins S d = true) (h : N ≤ OB → Low S → OpOK P pins N op (hx S) (app (hx S) [(OB + j, x1), (d, x2)])) : OpH P pins N op S (app S [(OB + j, x1), (d, x2)]) := by
  intro hN hlo
  obtain ⟨e1, e2, e3⟩ := lo_of hj
  have hdO := okD_lo hN hok
  refine ⟨?_, (hlo.upd e1).upd (lt2 hdO)⟩
  show OpOK P pins N op (hx S) (hx (upd (upd S (OB + j) _) d _))
  rw [hx_updL (lt2 hdO) (by unfold HK; unfold OB at hdO; omega), hx_updL e1 e2]
  exact h hN hlo
theorem hx_freeM (hM : Mk M S) {j : Nat} (h : M (OB + j) = .free) : hx S (OB + j) = .free := by
  rcases hM (OB + j) with e | e
  · rw [e] at h; cases h
  · rw [e] at h; exact hx_of h (by simp)
theorem hx_boxM (hM : Mk M S) {j : Nat} {l : List T} (h : M (OB + j) = .box l) : hx S (OB + j) = .box l := by
  rcases hM (OB + j) with e | e
  · rw [e] at h; cases h
  · rw [e] at h; exact hx_of h (by simp)

/-! ### A slice as an array -/
theorem ok_s2a (hM : Mk M S) {t n e k : Nat} {x : Operand} {l : List (List D)} (hop : op.op = .sliceToArrayPointer t x) (hu : P.underlying t = some (.array n e)) (hx : dO M x = some (.seq k l)) (hk : 0 < k) (hpos : 0 < n) (hn : n ≤ l.length) (hd : op.dst = some d) (hok : okD N pins S d = true) :
    OpOK P pins N op S (upd S d (.imm ((l.take n).flatMap id))) := by
  refine ok_of_run fun w0 m0 o0 G a w m o hN I => ?_
  obtain ⟨h1, h2, h3⟩ := okD_iff hok
  have hr := dO_rep hM I hx
  generalize hv : a.eval x = v at hr
  cases hr with
  | seq _ _ A' cap g p fv hcap hmax hA hw hm hr =>
    have hne : l ≠ [] := fun e => by rw [e] at hn; simp at hn; omega
    have hA := hA hne
    subst hA
    refine ⟨.pointer (some ⟨g, p, none⟩), w, m, o, ?_, by
      rw [hd]
      refine I.set d _ _ (by omega) h2 ⟨g, p, rfl, fun j dd hj => ?_⟩
      have hwt : ∀ r ∈ l.take n, r.length = k := fun r hr => by
        obtain ⟨i, hi⟩ := List.getElem?_of_mem (List.mem_of_mem_take hr)
        exact hw i r hi
      have hlt : j < n * k := by
        have := (List.getElem?_eq_some_iff.1 hj).1
        rw [fl_len_of hwt, List.length_take] at this
        rw [Nat.min_eq_left hn] at this
        exact this
      have hi1 : j / k < n := Nat.div_lt_of_lt_mul (by rw [Nat.mul_comm]; exact hlt)
      have hi2 : j % k < k := Nat.mod_lt _ hk
      have he : j / k * k + j % k = j := by rw [Nat.mul_comm]; exact Nat.div_add_mod j k
      have hil : j / k < l.length := by omega
      obtain ⟨r, hr'⟩ : ∃ r, l[j / k]? = some r := ⟨_, List.getElem?_eq_getElem hil⟩
      have hrt : (l.take n)[j / k]? = some r := by rw [List.getElem?_take, if_pos hi1]; exact hr'
      have h5 := fl_cell_of hwt hrt hi2
      rw [he, hj] at h5
      refine ⟨fv (j / k) (j % k), ?_, hr _ r _ dd hr' h5.symm⟩
      have := hm _ r _ dd hr' h5.symm
      rw [Nat.add_assoc, he] at this
      exact this⟩
    unfold execOp
    rw [hop]
    simp only [Sem.run_bind]
    rw [hv]
    simp [Instr.arrayAt, run_underlying hu]
    intro h
    omega
theorem h_s2a {α : Type} {cc : α → List D} {l y : List α} {z : α} (hM : Mk M S) {t n e k : Nat} {x : Operand} (hop : op.op = .sliceToArrayPointer t x) (hu : P.underlying t = some (.array n e)) (hx : dO M x = some (.seq k (l.map cc))) (hk : (Nat.blt 0 k && Nat.blt 0 n) = true) (hn : s2aI n l = some y) (hd : op.dst = some d) (hok : okD N pins S d = true) :
    OpH P pins N op S (app S [(d, .imm (ar cc z y 0 n))]) := by
  simp only [Bool.and_eq_true] at hk
  rw [← s2a_row (z := z) hn]
  exact .of (e := [(d, _)]) fun hN => ⟨ok_s2a hM.hx hop hu hx (by simpa using hk.1) (by simpa using hk.2) (by rw [List.length_map]; exact (s2aI_iff hn).1) hd (okD_hx hN hok), eff_1 (okD_lo hN hok)⟩
/-- An array behind an address of cells that never change. -/
theorem h_ldim (hM : Mk M S) {t n : Nat} {x : Operand} {l : List D} (hop : op.op = .load t x) (ht : tyA P t = some (true, n)) (hx : cpO M x = .imm l) (hl : l.length = n) (hd : op.dst = some d) (hok : okD N pins S d = true) : OpH P pins N op S (app S [(d, .t (.agg l))]) := by
  refine .of (e := [(d, _)]) fun hN => ⟨?_, eff_1 (okD_lo hN hok)⟩
  refine ok_val' hM.hx hd (okD_hx hN hok) ?_
  rw [hop]
  show ldF P M t x = _
  unfold ldF
  simp only [hx, ht]
  rw [if_pos hl.symm]

/-! ### Made slices in the heap -/
theorem h_mko {α : Type} {c : α → List D} (hM : Mk M S) {t e nb q : Nat} {xn xc : Operand} {kl kc : IntKind} {n : Int} {ie : TypeInfo} {z : Value} {rs : List (List D)} (hop : op.op = .makeSlice t xn xc) (hn : vO M xn = some (.int kl n)) (hc : vO M xc = some (.int kc n)) (hE : elF P t = some (e, 1, nb)) (hie : P.info? e = some ie) (hz : ie.zero = some z) (hz1 : z.cells = #[z]) (hz2 : z.oneCell' = true) (hnb : nb = nb)
    (hq : mkI nb n = some q) (hr : List.replicate q [.lit z] = rs) (hd : op.dst = some d) (hok : okD N pins S d = true) : OpH P pins N op S (app S [(d, .t (.own e 1 rs))]) := by
  subst hr
  exact .of (e := [(d, _)]) fun hN => ⟨ok_mko (sz := 0) hM.hx hop hn hc hE hie hz hz1 hz2 hq hd (okD_hx hN hok), eff_1 (okD_lo hN hok)⟩

/-! ### Variables as objects -/
theorem ok_lmk {j : Nat} {l : List T} (hd : op.dst = some d) (hok : okD N pins S d = true) (hdO : d < OB) (hfree : S (OB + j) = .free)
    (h : ∀ (w0 : World) (m0 : Mem) (o0 : OwnM) (G : GD) (a : Act) (w : World) (m : Mem) (o : OwnM), Inv w0 m0 o0 G pins S a w m o → ∃ v cs E, (execOp a.eval op).run P w = .ok (.value v) (w.alloc (.cells cs E)) ∧ l.length ≤ cs.size ∧
      (∀ (i : Nat) (x : T), l[i]? = some x → x.noOwn = true ∧ ∃ u, cs[i]? = some u ∧ RepT m w o (0, 0) x u) ∧ v = .pointer (some ⟨w.heap.size, 0, none⟩)) :
    OpOK P pins N op S (app S [(OB + j, .box l), (d, .t (.ptr j 0))]) := by
  refine ok_of_run fun w0 m0 o0 G a w m o hN I => ?_
  obtain ⟨h1, h2, h3⟩ := okD_iff hok
  obtain ⟨v, cs, E, hrun, hlen, hc, rfl⟩ := h w0 m0 o0 G a w m o I
  refine ⟨_, w.alloc (.cells cs E), m, newO o (OB + j) w.heap.size, hrun, ?_⟩
  rw [hd]
  have J := I.obj_new (E := E) hfree hlen hc
  exact J.set d _ _ (by omega) (by rw [upd_other (by omega)]; exact h2) ⟨_, newO_same _ _ _, rfl⟩
theorem h_lnew (hM : Mk M S) {j E : Nat} {i : TypeInfo} {z : Value} {l0 l : List T} (hop : op.op = .alloc E) (hi : P.info? E = some i) (hz : i.zero = some z) (hl : cellsT (litA z) = some l0) (hl' : l0 = l) (hd : op.dst = some d) (hok : okD N pins S d = true) (hj : Nat.blt (j + 1) OB = true) (hfree : M (OB + j) = .free) :
    OpH P pins N op S (app S [(OB + j, .box l), (d, .t (.ptr j 0))]) := by
  subst hl'
  refine .lo2 hj hok fun hN hlo => ?_
  refine ok_lmk hd (okD_hx hN hok) (okD_lo hN hok) (hx_freeM hM hfree) fun w0 m0 o0 G a w m o I => ?_
  have hcp : cellsP (litA z) = some l0 := by
    revert hl
    generalize litA z = y
    intro hl
    cases y with
    | t y => cases y <;> first | exact hl | cases hl
    | _ => cases hl
  obtain ⟨k1, k2, k3⟩ := cellsP_rep hcp (litA_rep (m := m) (w := w) (o := o) (S := S) 0 z)
  refine ⟨_, z.cells, E, ?_, by simpa using Nat.le_of_eq k1.symm, fun i x hx => ?_, rfl⟩
  · unfold execOp
    rw [hop]
    simp [Instr.alloc, zeroValue, typeInfo, hi, hz, newVar, newRow]
  · obtain ⟨q1, u, q2, q3⟩ := k3 i x hx
    exact ⟨cellsP_noOwn hcp x (List.mem_of_getElem? hx), u, by simpa using q2, q3 _ _ (ShpAt.refl w)⟩
theorem h_lbox (hM : Mk M S) {j E : Nat} {x : Operand} {l0 l : List T} (hop : op.op = .box E x) (hl : cellsP (cpO M x) = some l0) (hl' : l0 = l) (hd : op.dst = some d) (hok : okD N pins S d = true) (hj : Nat.blt (j + 1) OB = true) (hfree : M (OB + j) = .free) :
    OpH P pins N op S (app S [(OB + j, .box l), (d, .t (.ptr j 0))]) := by
  subst hl'
  refine .lo2 hj hok fun hN hlo => ?_
  refine ok_lmk hd (okD_hx hN hok) (okD_lo hN hok) (hx_freeM hM hfree) fun w0 m0 o0 G a w m o I => ?_
  obtain ⟨k1, k2, k3⟩ := cellsP_rep hl (cpO_rep hM.hx I x 0)
  refine ⟨_, (a.eval x).cells, E, ?_, by simpa using Nat.le_of_eq k1.symm, fun i x hx => ?_, rfl⟩
  · unfold execOp
    rw [hop]
    simp [Instr.box, newVar, newRow]
  · obtain ⟨q1, u, q2, q3⟩ := k3 i x hx
    exact ⟨cellsP_noOwn hl x (List.mem_of_getElem? hx), u, by simpa using q2, q3 _ _ (ShpAt.refl w)⟩

/-! ### Slices of arrays -/
theorem bounds_run {n : Nat} {l0 h0 : Option Int} {kl kh : Int → IntKind} (hc : 0 ≤ l0.getD 0 ∧ l0.getD 0 ≤ h0.getD n ∧ h0.getD n ≤ n) :
    (Instr.sliceBounds false n n (l0.map fun z => .int (kl z) z) (h0.map fun z => .int (kh z) z) none).run P w = .ok ((l0.getD 0).toNat, (h0.getD n).toNat, n) w := by
  have hlo2 : (l0.map Int.toNat).getD 0 = (l0.getD 0).toNat := by cases l0 <;> rfl
  have hhi2 : (h0.map Int.toNat).getD n = (h0.getD n).toNat := by cases h0 <;> simp
  rw [← hlo2, ← hhi2]
  unfold Instr.sliceBounds
  cases l0 <;> cases h0 <;> simp only [Option.getD_none, Option.getD_some, Option.map_none, Option.map_some, Option.isSome_none, Option.isSome_some] at hc ⊢ <;>
    (simp only [Sem.run_bind, Sem.run_pure, Result.andThen_ok]
     repeat (rw [run_sliceBound_ok (by omega) (by omega), Result.andThen_ok]))
theorem sla_run {t n e g off : Nat} {ie : TypeInfo} {l0 h0 : Option Int} {kl kh : Int → IntKind} (hu : P.underlying t = some (.array n e)) (hie : P.info? e = some ie) (hc : 0 ≤ l0.getD 0 ∧ l0.getD 0 ≤ h0.getD n ∧ h0.getD n ≤ n) :
    (Instr.sliceAt t (.pointer (some ⟨g, off, none⟩)) (l0.map fun z => .int (kl z) z) (h0.map fun z => .int (kh z) z) none).run P w = .ok (.slice (some (if n = (l0.getD 0).toNat then ⟨g, off, none⟩ else ⟨g, off + (l0.getD 0).toNat * ie.size, none⟩)) ((h0.getD n).toNat - (l0.getD 0).toNat) (n - (l0.getD 0).toNat)) w := by
  unfold Instr.sliceAt
  simp only [Sem.run_bind, run_underlying hu, Result.andThen_ok]
  rw [show (Instr.sureAddr (.pointer (some ⟨g, off, none⟩))).run P w = .ok ⟨g, off, none⟩ w from rfl, Result.andThen_ok, bounds_run hc]
  simp [sizeOf, typeInfo, hie, Addr.add_mid]
/-- A slice of an array that an object holds (key b; the block's type is not told). -/
theorem ok_sla {j off n t e : Nat} {x : Operand} {lo hi : Option Operand} {l0 h0 : Option Int} {ie : TypeInfo} {l : List T} (hM : Mk M S) (hop : op.op = .slice t x lo hi none) (hx : ∀ {w0 m0 o0 G a w m o}, Inv w0 m0 o0 G pins S a w m o → ∃ g, o g = some (OB + j, 0) ∧ a.eval x = .pointer (some ⟨g, off, none⟩)) (hb : S (OB + j) = .box l) (hlo : bndO M lo = some l0) (hhi : bndO M hi = some h0) (hu : P.underlying t = some (.array n e)) (hie : P.info? e = some ie)
    (hle : off + n * ie.size ≤ l.length) (hn : n ≤ 65536) (hc : 0 ≤ l0.getD 0 ∧ l0.getD 0 ≤ h0.getD n ∧ h0.getD n ≤ n) (hd : op.dst = some d) (hok : okD N pins S d = true) :
    OpOK P pins N op S (upd S d (.t (.view j (off + (l0.getD 0).toNat * ie.size) 0 ie.size ((h0.getD n).toNat - (l0.getD 0).toNat)))) := by
  refine ok_of_run fun w0 m0 o0 G a w m o hN I => ?_
  obtain ⟨h1, h2, h3⟩ := okD_iff hok
  obtain ⟨g, k1, k2⟩ := hx I
  have hs := I.slots (OB + j)
  rw [hb] at hs
  obtain ⟨g', _, q1, q2, cs, E, q3, q4, q5⟩ := hs
  have := I.inj _ _ _ k1 q1
  subst this
  obtain ⟨kl, e1⟩ := bndO_eq hM I hlo
  obtain ⟨kh, e2⟩ := bndO_eq hM I hhi
  refine ⟨.slice (some (if n = (l0.getD 0).toNat then ⟨g, off, none⟩ else ⟨g, off + (l0.getD 0).toNat * ie.size, none⟩)) ((h0.getD n).toNat - (l0.getD 0).toNat) (n - (l0.getD 0).toNat), w, m, o, ?_, ?_⟩
  · unfold execOp
    rw [hop]
    simp only [Sem.run_bind]
    rw [e1, e2, k2]
    show Result.andThen (Sem.run P (Instr.sliceAt t _ _ _ none) w) _ = _
    rw [sla_run hu hie hc]
    rfl
  · rw [hd]
    refine I.set d _ _ (by omega) h2 ?_
    refine ⟨_, n - (l0.getD 0).toNat, by omega, by unfold maxLen; omega, rfl, ?_⟩
    by_cases hz : n = (l0.getD 0).toNat
    · exact .inl (by omega)
    · refine .inr ⟨g, cs, E, k1, by rw [if_neg hz], q3, ?_, .inl rfl⟩
      have : (l0.getD 0).toNat * ie.size + (n - (l0.getD 0).toNat) * ie.size = n * ie.size := by rw [← Nat.add_mul]; congr 1; omega
      omega
theorem h_sla (hM : Mk M S) {j off n t e : Nat} {x : Operand} {lo hi : Option Operand} {l0 h0 : Option Int} {ie : TypeInfo} {l : List T} {y : T} (hop : op.op = .slice t x lo hi none) (hx : cpO M x = .ref (OB + j) off) (hb : M (OB + j) = .box l) (hlo : bndO M lo = some l0) (hhi : bndO M hi = some h0) (hu : P.underlying t = some (.array n e)) (hie : P.info? e = some ie)
    (hle : Nat.ble (off + n * ie.size) l.length = true) (hn : Nat.ble n 65536 = true) (hc : 0 ≤ l0.getD 0 ∧ l0.getD 0 ≤ h0.getD n ∧ h0.getD n ≤ n) (hy : T.view j (off + (l0.getD 0).toNat * ie.size) 0 ie.size ((h0.getD n).toNat - (l0.getD 0).toNat) = y) (hd : op.dst = some d) (hok : okD N pins S d = true) : OpH P pins N op S (app S [(d, .t y)]) := by
  subst hy
  refine .of (e := [(d, _)]) fun hN => ⟨ok_sla hM.hx hop (fun {w0 m0 o0 G a w m o} I => ?_) (hx_boxM hM hb) hlo hhi hu hie (by simpa using hle) (by simpa using hn) hc hd (okD_hx hN hok), eff_1 (okD_lo hN hok)⟩
  have h := cpO_rep hM.hx I x 0
  rw [hx] at h
  obtain ⟨g, h1, h2, _⟩ := h
  exact ⟨g, h1, h2⟩
/-! ### copy -/
theorem Inv.box_spl (I : Inv w0 m0 o0 G pins S a w m o) {b g off E : Nat} {l : List T} {cs : Array Value} {q : List D} {vs : List Value} (hb : S b = .box l) (h1 : o g = some (b, 0)) (h4 : w.heap[g]? = some (.cells cs E (0, 0))) (hlc : l.length ≤ cs.size) (h6 : ∀ (j : Nat) (x : T), l[j]? = some x → x.isAgg = false ∧ ∃ u, cs[j]? = some u ∧ RepT m w o (b, j + 1) x u)
    (hv : RepL m q vs) (hle : off + q.length ≤ l.length) : Inv w0 m0 o0 G pins (upd S b (.box (splice l off (q.map .d)))) a (w.setRow g (splice cs.toList off vs).toArray) m o := by
  have hvl := hv.1
  have hsp : (splice cs.toList off vs).length = cs.toList.length := splice_length cs.toList off vs (by simp only [Array.length_toList]; omega)
  have hss : (splice cs.toList off vs).toArray.size = cs.size := by simpa using hsp
  refine I.box_put hb h1 h4 (cs' := (splice cs.toList off vs).toArray) hss o (fun _ => False) (fun s h => h.elim) (fun g l h _ _ => h) h1 (fun g l h => ⟨l, h⟩) I.inj (fun g l l' h h' k => by rw [h] at h'; injection h' with h'; rw [h']; exact k) ?_ (fun j z hj => ?_)
  · exact splice_length l off _ (by rw [List.length_map]; omega)
  · have hcs2 : (splice cs.toList off vs).toArray[j]? = (splice cs.toList off vs)[j]? := by simp
    rw [hcs2, splice_get cs.toList off vs (by simp only [Array.length_toList]; omega)]
    rw [splice_get l off _ (by rw [List.length_map]; omega), List.length_map] at hj
    rw [hvl]
    split at hj
    · rename_i hjo
      rw [if_pos hjo]
      rw [List.getElem?_map] at hj
      cases hq : q[j - off]? with
      | none => rw [hq] at hj; cases hj
      | some dd =>
        rw [hq] at hj
        injection hj with hj
        subst hj
        obtain ⟨u, k1, k2⟩ := hv.2 _ dd hq
        exact ⟨rfl, u, k1, k2⟩
    · rename_i hjo
      rw [if_neg hjo]
      obtain ⟨k0, u, k1, k2⟩ := h6 j z hj
      exact ⟨k0, u, by simpa using k1, rep_setRow h1 h4 hss (by intro e; injection e with _ e; omega) k0 k2⟩
theorem run_copy0 {t t' e ty : Nat} {ie : TypeInfo} {A1 A2 : Option Addr} {n1 c1 n2 c2 : Nat} (hu : P.underlying t = some (.slice e)) (hie : P.info? e = some ie) (h0 : min n2 n1 = 0) :
    (Builtin.copy_ #[t, t'] ty #[.slice A1 n1 c1, .slice A2 n2 c2]).run P w = .ok (goInt 0) w := by
  have h0' : Nat.min n2 n1 = 0 := h0
  cases A1 with
  | none => cases A2 with
    | none => simp [Builtin.copy_, run_underlying hu, Builtin.lenOf, Builtin.firstCells, sizeOf, typeInfo, hie, h0', storeCells]
    | some a2 =>
      have := run_loadCells_list (P := P) w a2 [] (fun j v h => by simp at h)
      simp only [List.length_nil] at this
      simp [Builtin.copy_, run_underlying hu, Builtin.lenOf, Builtin.firstCells, sizeOf, typeInfo, hie, h0', storeCells, this]
  | some a1 => cases A2 with
    | none => simp [Builtin.copy_, run_underlying hu, Builtin.lenOf, Builtin.firstCells, sizeOf, typeInfo, hie, h0', storeCells]
    | some a2 =>
      have := run_loadCells_list (P := P) w a2 [] (fun j v h => by simp at h)
      simp only [List.length_nil] at this
      simp [Builtin.copy_, run_underlying hu, Builtin.lenOf, Builtin.firstCells, sizeOf, typeInfo, hie, h0', storeCells, this]
theorem flat1 : ∀ {rs : List (List D)}, (∀ r ∈ rs, r.length = 1) → (rs.flatMap id).length = rs.length
  | rs, h => by rw [fl_len_of h, Nat.mul_one]
theorem splice_nil {α : Type} (l : List α) (off : Nat) : splice l off [] = l := by
  unfold splice
  simp
theorem ok_cpy (hM : Mk M S) {j off E n t t' e : Nat} {x y : Operand} {ie : TypeInfo} {l : List T} {l' : List (List D)} (hop : op.op = .call { callee := .builtin .copy, args := #[x, y], argTypes := #[t, t'] }) (hu : P.underlying t = some (.slice e)) (hie : P.info? e = some ie) (hs1 : ie.size = 1) (hx : ∀ {w0 m0 o0 G a w m o}, Inv w0 m0 o0 G pins S a w m o → RepT m w o (0, 0) (.view j off E 1 n) (a.eval x)) (hb : S (OB + j) = .box l) (hy : slD 1 (dO M y) = some l') (hr1 : ∀ r ∈ l', r.length = 1) (hle : off + n ≤ l.length) (hd : op.dst = some d) (hok : okD N pins S d = true) (hdO : d < OB) :
    OpOK P pins N op S (app S [(OB + j, .box (splice l off (((l'.take n).flatMap id).map .d))), (d, .t (.d (.lit (.int .i64 ((min l'.length n : Nat) : Int)))))]) := by
  refine ok_of_run fun w0 m0 o0 G a w m o hN I => ?_
  obtain ⟨h1, h2, h3⟩ := okD_iff hok
  have hv' : RepD m (.seq 1 l') (a.eval y) := slD_rep hy fun d hd => dO_rep hM I hd
  obtain ⟨A2, c2, xs, hyv, _, _, hrows, hone, hmx⟩ := hv'.rows
  obtain ⟨A1, c1, k1, k2, hxv, k4⟩ := hx I
  have hxl : xs.length = l'.length := by have := hrows.1; omega
  have hbox2 : ∀ x, (upd S (OB + j) x d).isBox = false := fun x => by rw [upd_other (by omega)]; exact h2
  by_cases h0 : min l'.length n = 0
  · have he : (l'.take n).flatMap id = [] := by
      have : (l'.take n).length = 0 := by rw [List.length_take]; omega
      rw [List.eq_nil_of_length_eq_zero this]
      rfl
    refine ⟨goInt 0, w, m, o, ?_, ?_⟩
    · unfold execOp
      rw [hop]
      simp only [resolve, invoke, builtin, Sem.run_bind, Sem.run_pure, Result.andThen_ok, List.map_toArray, List.map_cons, List.map_nil]
      rw [hxv, hyv, run_copy0 hu hie h0]
      rfl
    · rw [hd, he, h0]
      show Inv w0 m0 o0 G pins (upd (upd S (OB + j) (.box (splice l off []))) d _) _ w m o
      rw [splice_nil]
      have e1 : upd S (OB + j) (.box l) = S := by
        funext s
        unfold upd
        split
        · rename_i e; rw [e, hb]
        · rfl
      rw [e1]
      exact I.set d _ _ (by omega) h2 (.lit _ rfl)
  · obtain ⟨g, cs, E', q1, q2, q3, q4, _⟩ := k4.resolve_left fun e => by omega
    clear k4
    subst q2
    have hs := I.slots (OB + j)
    rw [hb] at hs
    obtain ⟨g', _, p1, p2, cs', E2, p3, p4, p5⟩ := hs
    have := I.inj _ _ _ q1 p1
    subst this
    rw [q3] at p3
    injection p3 with p3
    injection p3 with p3 p6
    subst p3 p6
    have hlen : (xs.take (min l'.length n)).length = Nat.min l'.length n := by
      rw [List.length_take, hxl]
      show min (min l'.length n) l'.length = min l'.length n
      omega
    have hp2 : 0 < xs.length := by rw [hxl]; exact Nat.lt_of_lt_of_le (Nat.pos_of_ne_zero h0) (Nat.min_le_left _ _)
    have hx0 : ∃ u, xs[0]? = some u := ⟨_, List.getElem?_eq_getElem hp2⟩
    obtain ⟨u0, hu0⟩ := hx0
    obtain ⟨g2, o2, rfl, _⟩ := hmx 0 u0 hu0
    have hrun := run_copy_row P w t t' op.type e g off n c1 ⟨g2, o2, none⟩ l'.length c2 cs E' (xs.take (min l'.length n)) hu (by rw [hie, ← hs1]; rfl) q3 hlen (fun q v hq => by
      rw [List.getElem?_take] at hq
      split at hq
      · obtain ⟨g3, o3, e3, hm3⟩ := hmx q v hq
        injection e3 with e3
        injection e3 with e3 e4
        subst e3 e4
        rw [Addr.add_mid]
        exact I.sat _ _ _ hm3
      · cases hq) (by rw [hlen]; show off + min l'.length n ≤ cs.size; omega) (fun v hv => hone v (List.mem_of_mem_take hv))
    have hwt : ∀ r ∈ l'.take n, r.length = 1 := fun r hr => hr1 r (List.mem_of_mem_take hr)
    have hql : ((l'.take n).flatMap id).length = min l'.length n := by rw [flat1 hwt, List.length_take, Nat.min_comm]
    have hrep : RepL m ((l'.take n).flatMap id) (xs.take (min l'.length n)) := by
      refine ⟨by rw [hlen, hql], fun q dd hq => ?_⟩
      have hlt : q < min l'.length n := by rw [← hql]; exact (List.getElem?_eq_some_iff.1 hq).1
      obtain ⟨r, hr⟩ : ∃ r, l'[q]? = some r := ⟨_, List.getElem?_eq_getElem (by omega)⟩
      have hrt : (l'.take n)[q]? = some r := by rw [List.getElem?_take, if_pos (by omega)]; exact hr
      have h5 := fl_cell_of hwt hrt (q := 0) (by omega)
      rw [Nat.mul_one, Nat.add_zero, hq] at h5
      obtain ⟨u, z1, z2⟩ := hrows.2.2 q r 0 dd hr h5.symm
      rw [Nat.mul_one, Nat.add_zero] at z1
      exact ⟨u, by rw [List.getElem?_take, if_pos hlt]; exact z1, z2⟩
    have J := I.box_spl (off := off) hb q1 q3 p4 p5 hrep (by rw [hql]; omega)
    refine ⟨goInt (xs.take (min l'.length n)).length, w.setRow g (splice cs.toList off (xs.take (min l'.length n))).toArray, m, o, ?_, ?_⟩
    · unfold execOp
      rw [hop]
      simp only [resolve, invoke, builtin, Sem.run_bind, Sem.run_pure, Result.andThen_ok, List.map_toArray, List.map_cons, List.map_nil]
      rw [hxv, hyv, hrun]
      rfl
    · rw [hd]
      have J2 := J.set d (.t (.d (.lit (.int .i64 ((min l'.length n : Nat) : Int))))) (goInt (xs.take (min l'.length n)).length) (by omega) (hbox2 _) (by rw [hlen]; exact RepD.lit _ rfl)
      exact J2
theorem h_cpy {α : Type} {cc : α → List D} {xl yl v : List α} (hM : Mk M S) {j off E n t t' e : Nat} {x y : Operand} {ie : TypeInfo} (hop : op.op = .call { callee := .builtin .copy, args := ⟨[x, y]⟩, argTypes := ⟨[t, t']⟩ }) (hu : P.underlying t = some (.slice e)) (hie : P.info? e = some ie) (hs1 : ie.size = 1) (hx : cpO M x = .t (.view j off E 1 n)) (hb : M (OB + j) = .box (fl (dT cc) xl)) (hc : ∀ a, (cc a).length = 1) (hy : slD 1 (dO M y) = some (yl.map cc)) (hv : cpyI xl off n yl = some v) (hj : Nat.blt (j + 1) OB = true) (hd : op.dst = some d) (hok : okD N pins S d = true) :
    OpH P pins N op S (app S [(OB + j, .box (fl (dT cc) v)), (d, .t (.d (.lit (.int .i64 ((min yl.length n : Nat) : Int)))))]) := by
  obtain ⟨h1, rfl⟩ := cpyI_iff hv
  refine .lo2 hj hok fun hN hlo => ?_
  rw [← cpy_row hc]
  have := ok_cpy (j := j) (off := off) (E := E) (n := n) (l := fl (dT cc) xl) (l' := yl.map cc) hM.hx hop hu hie hs1 (fun {w0 m0 o0 G a w m o} I => by
    have h := cpO_rep hM.hx I x 0
    rw [hx] at h
    exact h) (hx_boxM hM hb) hy (fun r hr => by obtain ⟨a, _, rfl⟩ := List.mem_map.1 hr; exact hc a) (by rw [fl_len (dT_len hc)]; omega) hd (okD_hx hN hok) (okD_lo hN hok)
  rw [List.length_map] at this
  exact this
end
section
variable {P : Program} {pins : List Nat} {N : Nat} {l0 : List Oper} {Q : SL → Prop} {r : List Oper} {op : Oper} {L : SL} {acc : List (List Nat × List Nat)} {T : List Nat}
/-- (an operation that does not look at the heap) -/
theorem d_h0 (X : List Nat) {e : Eff} {ks : List Nat} {L' : SL} (hT : frcNs (X ++ touch l0.toArray (gt L) op) some = some T) (hy : dyes l0 op L T) (hks : keys e = ks) (hk : ks.all T.contains = true)
    (h : ∀ S', Mk (mask T (gt L)) S' → (∀ d, T.contains d = true → okD N pins (gt L) d = true → okD N pins S' d = true) → OpH P pins N op S' (app S' e)) (hL : setL L e = L') (k : DOK P pins N l0 Q r ((T, ks) :: acc) L') : DOK P pins N l0 Q (op :: r) acc L := by
  have hT := touch_of hT
  subst hL hks
  have h' : ∀ S', (∀ t ∈ T, S' t = gt L t) → OpH P pins N op S' (app S' e) := fun S' hS => h S' (mask_Mk hS) fun d hd hok => by
    unfold okD at hok ⊢
    rw [hS d (by simpa using hd)]
    exact hok
  refine ⟨T, e, ⟨all_T hk, ?_⟩, k⟩
  rcases hy with hg | ⟨j, want, t, c, h1, h2, h3, h4, h5⟩
  · exact .inl ⟨hg, h'⟩
  · exact .inr ⟨j, want, t, h1, h2, by simpa using h3, .inl ⟨by rw [h4, h5], h'⟩⟩
end
end Go.Proofs.Ytjomnccladjpgaa

/-
  Calls that only look at what is handed over; slices of slices of objects; own slices in the heap's cells; cells told otherwise.
-/
namespace Go.Proofs.Ytjomnccladjpgaa
open Go Go.RowKit
set_option linter.unusedVariables false

section
variable {w0 : World} {m0 : Mem} {o0 : OwnM} {G : GD} {pins : List Nat} {S M : Nat → A} {a : Act} {w : World} {m : Mem} {o : OwnM} {P : Program} {N : Nat} {op : Oper} {d c : Nat} {f f' : Nat → A}

/-! ### A literal slice of slices of objects -/
def vwsO (M : Nat → A) : Nat → List (Nat × Operand) → Option (List T)
  | _, [] => some []
  | n, (i, x) :: r => if i = n then match cpO M x, vwsO M (n + 1) r with
      | .t (.view j off E k q), some t => some (.view j off E k q :: t)
      | _, _ => none
    else none
theorem vwsO_rep (hM : Mk M S) (I : Inv w0 m0 o0 G pins S a w m o) : ∀ (n : Nat) (parts : List (Nat × Operand)) (l : List T), vwsO M n parts = some l →
    (parts.map fun x => (x.1, a.eval x.2)) = ((parts.map fun x => a.eval x.2).zipIdx n).map (fun x => (x.2, x.1)) ∧ (∀ v ∈ parts.map (fun x => a.eval x.2), v.cells = #[v] ∧ v.oneCell' = true) ∧ l.length = parts.length ∧
      ∀ (i : Nat) (x : T), l[i]? = some x → ∃ u, (parts.map fun x => a.eval x.2)[i]? = some u ∧ ∃ j off E k q, x = .view j off E k q ∧ RepT m w o (0, 0) x u
  | n, [], l, h => by
    injection h with h
    subst h
    exact ⟨rfl, by simp, rfl, fun i x h => by simp at h⟩
  | n, (i, x) :: r, l, h => by
    unfold vwsO at h
    split at h
    case isFalse => cases h
    rename_i e
    subst e
    split at h
    · rename_i j off E k q t hx ht
      injection h with h
      subst h
      obtain ⟨h1, h2, h3, h4⟩ := vwsO_rep hM I (i + 1) r t ht
      have hxr := cpO_rep hM I x 0
      rw [hx] at hxr
      have hxr : RepT m w o (0, 0) (.view j off E k q) (a.eval x) := hxr
      obtain ⟨A', c', k1, k2, k3, k4⟩ := id hxr
      refine ⟨by simp [h1, List.zipIdx_cons], fun v hv => ?_, by simp [h3], fun p y hp => ?_⟩
      · simp only [List.map_cons, List.mem_cons] at hv
        rcases hv with rfl | hv
        · rw [k3]; exact ⟨rfl, rfl⟩
        · exact h2 v hv
      · cases p with
        | zero =>
          injection hp with hp
          subst hp
          exact ⟨_, rfl, j, off, E, k, q, rfl, hxr⟩
        | succ p => simpa using h4 p y (by simpa using hp)
    · cases h
theorem ok_bsv (hM : Mk M S) {t e nb n : Nat} {parts : List (Nat × Operand)} (hop : op.op = .buildSlice t n parts.toArray) (hn : n = parts.length) (hd : op.dst = some d) (hok : okD N pins S d = true) (hE : elF P t = some (e, 1, nb)) {l : List T} (h : vwsO M 0 parts = some l) (hne : parts ≠ []) (hb : parts.length ≤ 16777216) : OpOK P pins N op S (upd S d (.lst l)) := by
  subst hn
  refine ok_of_run fun w0 m0 o0 G a w m o hN I => ?_
  obtain ⟨h1, h2, h3⟩ := okD_iff hok
  have E := elF_of hE
  obtain ⟨i, z, hi, hz, hsz, rfl, hzs⟩ := E.info
  obtain ⟨k1, k2, k3, k4⟩ := vwsO_rep hM I 0 parts l h
  have hlen : (parts.map fun x => a.eval x.2).length = parts.length := by simp
  have hpos : 0 < parts.length := List.length_pos_iff.2 hne
  have hflat : ∀ (vs : List Value), (∀ v ∈ vs, v.cells = #[v] ∧ v.oneCell' = true) → vs.flatMap (fun v => v.cells.toList) = vs := by
    intro vs
    induction vs with
    | nil => intro _; rfl
    | cons v r ih =>
      intro hv
      rw [List.flatMap_cons, (hv v (by simp)).1, ih fun x hx => hv x (by simp [hx])]
      rfl
  have hrun := run_buildSlice (P := P) w t e parts.length (parts.map fun x => (x.1, a.eval x.2)).toArray _ i z E.under hi hz (by first | omega | (rw [hsz]; omega)) (by first | omega | (rw [hsz]; omega)) (by
    rw [show (parts.map fun x => (x.1, a.eval x.2)).toArray.toList = _ from k1]
    exact Great.fill_whole (by rw [hsz]; omega) _ _ (fun v hv => by rw [(k2 v hv).1, hsz]; rfl) (by rw [hlen]; simp))
  rw [hflat _ k2] at hrun
  generalize hvs : (parts.map fun x => a.eval x.2) = vs at hrun k2 k4 hlen
  refine ⟨.slice (some ⟨w.heap.size, 0, none⟩) parts.length parts.length, w.alloc (.cells vs.toArray e), newM m w.heap.size (fun p => vs[p]?), o, ?_, ?_⟩
  · unfold execOp
    rw [hop]
    simp only [List.map_toArray, Sem.run_bind]
    rw [hrun]
    rfl
  rw [hd]
  have hlt : ∀ {b p u}, m b p = some u → b < w.heap.size := fun {b p u} hu => by
    have := World.block_lt_of_cell? w _ (I.sat b p u hu)
    simpa using this
  have hold : ∀ g, g < w.heap.size → (w.alloc (.cells vs.toArray e)).heap[g]? = w.heap[g]? := fun g hg => (Same.alloc (fun _ => False) w (.cells vs.toArray e)).block g hg id
  refine I.put d (.lst l) _ (by omega) h2 ?_ (I.same.trans ((Same.alloc (fun _ => False) w _).weaken fun _ h => h.elim)) ?_ (newM_le I (Nat.le_refl _) _) (fun b hb => ?_) (fun g hg => hold g hg) ?_
  · refine ⟨w.heap.size, parts.length, by rw [k3], by omega, by unfold maxLen; omega, fun q x hq => ?_⟩
    obtain ⟨u, z1, j, off, E1, k, n, rfl, z2⟩ := k4 q x hq
    exact ⟨u, by rw [newM_same]; exact z1, view_keep (loc := (0, 0)) (fun _ _ h => h) (fun g j hg => .of_lt fun _ => hold g (I.lt g _ hg)) z2⟩
  · intro b p u hu
    unfold newM at hu
    split at hu
    · rename_i e2
      subst e2
      rw [cell_of_row _ w.heap.size p vs.toArray e _ (heap_alloc_new w _)]
      simpa using hu
    · rw [World.cell?_of_block (w := w) (hold b (hlt hu))]
      exact I.sat b p u hu
  · funext p
    unfold newM
    rw [if_neg (by omega)]
  · simp
theorem h_bsv (hM : Mk M S) {t e nb n : Nat} {parts : List (Nat × Operand)} (hop : op.op = .buildSlice t n ⟨parts⟩) (hn : n = parts.length) (hd : op.dst = some d) (hok : okD N pins S d = true) (hE : elF P t = some (e, 1, nb)) {l : List T} (h : vwsO M 0 parts = some l) (hne : (!parts.isEmpty && Nat.ble parts.length 16777216) = true) : OpH P pins N op S (app S [(d, .lst l)]) := by
  simp only [Bool.and_eq_true] at hne
  exact .of (e := [(d, _)]) fun hN => ⟨ok_bsv hM.hx hop hn hd (okD_hx hN hok) hE h (fun e => by rw [e] at hne; cases hne.1) (by simpa using hne.2), eff_1 (okD_lo hN hok)⟩

/-! ### Calls that only look -/
/-- All that stands in memory now. -/
def fullM (w : World) : Mem := fun b p => w.cell? ⟨b, p, none⟩
inductive BorD (B : Nat → List T → Prop) : T → D → Prop
  | d (x : D) : BorD B (.d x) x
  | nil (k : Nat) : BorD B (.d (.lit (.slice none 0 0))) (.seq k [])
  | own (E k : Nat) (l : List (List D)) : BorD B (.own E k l) (.seq k l)
  | vw {j off E k n : Nat} {l : List T} {rs : List (List D)} (hb : B j l) (hr : ∀ r ∈ rs, r.length = k) (hn : rs.length = n) (hl : (l.drop off).take (n * k) = (rs.flatMap id).map .d) : BorD B (.view j off E k n) (.seq k rs)
  | hv {c off E k n : Nat} {l : List T} {rs : List (List D)} (hb : B (OB + c) l) (hr : ∀ r ∈ rs, r.length = k) (hn : rs.length = n) (hl : (l.drop off).take (n * k) = (rs.flatMap id).map .d) : BorD B (.hvw c off E k n) (.seq k rs)
inductive BorL (B : Nat → List T → Prop) : List T → List (List D) → Prop
  | nil : BorL B [] []
  | cons {x : T} {y : D} {l : List T} {r : List (List D)} (h : BorD B x y) (t : BorL B l r) : BorL B (x :: l) ([y] :: r)
inductive BorA (B : Nat → List T → Prop) : A → A → Prop
  | d {x : T} {y : D} (h : BorD B x y) : BorA B (.t x) (.t (.d y))
  | lst {l : List T} {rs : List (List D)} (h : BorL B l rs) : BorA B (.lst l) (.t (.d (.seq 1 rs)))
  | pl {x : A} (h : x.plain = true) : BorA B x x
inductive BorAs (B : Nat → List T → Prop) : List A → List A → Prop
  | nil : BorAs B [] []
  | cons {x y : A} {l l' : List A} (h : BorA B x y) (t : BorAs B l l') : BorAs B (x :: l) (y :: l')
theorem full_le (I : Inv w0 m0 o0 G pins S a w m o) : Mle m (fullM w) := fun b p u h => I.sat b p u h
theorem bor_vw (I : Inv w0 m0 o0 G pins S a w m o) {j off E k n : Nat} {l : List T} {rs : List (List D)} (hb : S (OB + j) = .box l) (hr : ∀ r ∈ rs, r.length = k) (hn : rs.length = n) (hl : (l.drop off).take (n * k) = (rs.flatMap id).map .d) {loc : Nat × Nat} {v : Value} (h : RepT m w o loc (.view j off E k n) v) : RepD (fullM w) (.seq k rs) v := by
  obtain ⟨A', q, h1, h2, rfl, h4⟩ := h
  subst hn
  have hs := I.slots (OB + j)
  rw [hb] at hs
  obtain ⟨g, _, p1, p2, cs, E2, p3, p4, p5⟩ := hs
  refine .seq k rs A' q g off (fun i q => (cs[off + i * k + q]?).getD undef) h1 h2 (fun hne => ?_) (fun i r hi => hr r (List.mem_of_getElem? hi)) (fun i r q dd hi hq => ?_) (fun i r q dd hi hq => ?_)
  · obtain ⟨g', cs', E', q1, q2, _⟩ := h4.resolve_left fun e => by have := List.length_pos_iff.2 hne; omega
    have := I.inj _ _ _ p1 q1
    subst this
    exact q2
  all_goals
    have hrl := hr r (List.mem_of_getElem? hi)
    have hqk : q < k := by rw [← hrl]; exact (List.getElem?_eq_some_iff.1 hq).1
    have hir : i < rs.length := (List.getElem?_eq_some_iff.1 hi).1
    have hc : ((rs.flatMap id).map T.d)[i * k + q]? = some (.d dd) := by rw [List.getElem?_map, fl_cell_of hr hi hqk, hq]; rfl
    have hlt : i * k + q < rs.length * k := mul_lt hir hqk
    rw [← hl, List.getElem?_take, if_pos hlt, List.getElem?_drop, ← Nat.add_assoc] at hc
    obtain ⟨_, u, k1, k2⟩ := p5 _ _ hc
  · show w.cell? ⟨g, off + i * k + q, none⟩ = some ((cs[off + i * k + q]?).getD undef)
    rw [cell_of_row w g _ cs E2 _ p3, k1]
    rfl
  · rw [k1]
    exact RepD.mono (full_le I) k2
theorem BorD.rep (I : Inv w0 m0 o0 G pins S a w m o) {x : T} {y : D} {B : Nat → List T → Prop} (hB : ∀ j l, B j l → S (OB + j) = .box l) (h : BorD B x y) {loc : Nat × Nat} {v : Value} (hr : RepT m w o loc x v) : RepD (fullM w) y v := by
  cases h with
  | d x => exact RepD.mono (full_le I) hr
  | nil k =>
    have hr : RepD m (.lit (.slice none 0 0)) v := hr
    cases hr
    exact RepD.nilSeq _ k
  | own E k l => exact RepD.mono (full_le I) (own_seq I.sat hr)
  | vw hb h1 hn hl => exact bor_vw I (hB _ _ hb) h1 hn hl hr
  | @hv c off E k n l rs hb h1 hn hl => exact bor_vw (j := OB + c) I (hB _ _ hb) h1 hn hl (loc := loc) hr
theorem BorL.get {B : Nat → List T → Prop} {l : List T} {rs : List (List D)} (h : BorL B l rs) : rs.length = l.length ∧ ∀ (i : Nat) (r : List D), rs[i]? = some r → ∃ x y, l[i]? = some x ∧ r = [y] ∧ BorD B x y := by
  induction h with
  | nil => exact ⟨rfl, fun i r h => by simp at h⟩
  | cons h t ih =>
    refine ⟨by simp [ih.1], fun i r hi => ?_⟩
    cases i with
    | zero => injection hi with hi; exact ⟨_, _, rfl, hi.symm, h⟩
    | succ i => simpa using ih.2 i r (by simpa using hi)
theorem BorA.rep (I : Inv w0 m0 o0 G pins S a w m o) {x y : A} {B : Nat → List T → Prop} (hB : ∀ j l, B j l → S (OB + j) = .box l) (h : BorA B x y) {s : Nat} {v : Value} (hr : RepA m w o S s x v) (S' : Nat → A) (s' : Nat) : RepA (fullM w) w (fun _ => none) S' s' y v := by
  cases h with
  | d h => exact h.rep I hB (loc := (s, 0)) hr
  | pl h =>
    cases x with
    | t x => cases x with
      | d x => exact RepD.mono (full_le I) hr
      | agg l => obtain ⟨vs, e, k⟩ := hr; exact ⟨vs, e, k.mono (full_le I)⟩
      | _ => cases h
    | imm l =>
      obtain ⟨g, p, e, k⟩ := hr
      exact ⟨g, p, e, fun j d hj => let ⟨u, k1, k2⟩ := k j d hj; ⟨u, full_le I _ _ _ k1, k2.mono (full_le I)⟩⟩
    | any => trivial
    | _ => cases h
  | @lst l rs h =>
    obtain ⟨g, cap, rfl, h1, h2, h3⟩ := hr
    obtain ⟨k1, k2⟩ := h.get
    show RepD (fullM w) (.seq 1 rs) _
    rw [← k1]
    refine .seq 1 rs _ cap g 0 (fun i q => (w.cell? ⟨g, i, none⟩).getD undef) (by omega) h2 (fun _ => rfl) (fun i r hi => ?_) (fun i r q dd hi hq => ?_) (fun i r q dd hi hq => ?_)
    · obtain ⟨x, y, _, rfl, _⟩ := k2 i r hi
      rfl
    all_goals
      obtain ⟨x, y, q1, rfl, q2⟩ := k2 i r hi
      have hq0 : q = 0 ∧ dd = y := by
        cases q with
        | zero => injection hq with hq; exact ⟨rfl, hq.symm⟩
        | succ q => simp at hq
      obtain ⟨rfl, rfl⟩ := hq0
      obtain ⟨u, z1, z2⟩ := h3 i x q1
      have hcell := I.sat _ _ _ z1
    · show w.cell? ⟨g, 0 + i * 1 + 0, none⟩ = some ((w.cell? ⟨g, i, none⟩).getD undef)
      rw [show 0 + i * 1 + 0 = i by omega, hcell]
      rfl
    · show RepD (fullM w) dd ((w.cell? ⟨g, i, none⟩).getD undef)
      rw [hcell]
      exact q2.rep I hB z2
theorem BorAs.rep (hM : Mk M S) (I : Inv w0 m0 o0 G pins S a w m o) {B : Nat → List T → Prop} (hB : ∀ j l, B j l → S (OB + j) = .box l) : ∀ (xs : List Operand) (args : List A), BorAs B (xs.map (cpO M)) args → (xs.map a.eval).length = args.length ∧ ∀ (i : Nat) (x : A), args[i]? = some x → ∀ S' s', RepA (fullM w) w (fun _ => none) S' s' x ((xs.map a.eval).getD i undef)
  | [], args, h => by cases h; exact ⟨rfl, fun i x h => by simp at h⟩
  | x :: r, args, h => by
    cases h with
    | cons h t =>
      obtain ⟨k1, k2⟩ := BorAs.rep hM I hB r _ t
      refine ⟨by simp [← k1], fun i y hi S' s' => ?_⟩
      cases i with
      | zero =>
        injection hi with hi
        subst hi
        exact h.rep I hB (cpO_rep hM I x 0) S' s'
      | succ i => simpa using k2 i y (by simpa using hi) S' s'
/-- What comes back tells nothing of memory. -/
def A.isLits : A → Bool
  | .t (.d (.lit _)) => true
  | .tup l => l.all fun x => match x with | .d (.lit _) => true | _ => false
  | _ => false
theorem lits_rep {r : A} (h : r.isLits = true) {m : Mem} {w w' : World} {o o' : OwnM} {S S' : Nat → A} {s s' : Nat} {v : Value} (hr : RepA m w o S s r v) (m' : Mem) : RepA m' w' o' S' s' r v := by
  cases r with
  | t x => cases x with
    | d x => cases x with
      | lit u => cases hr; exact .lit _ (by assumption)
      | _ => cases h
    | _ => cases h
  | tup l =>
    obtain ⟨vs, e, h1, h2⟩ := hr
    refine ⟨vs, e, h1, fun j x hj => ?_⟩
    obtain ⟨u, k1, k2⟩ := h2 j x hj
    have := List.all_eq_true.1 h x (List.mem_of_getElem? hj)
    refine ⟨u, k1, ?_⟩
    cases x with
    | d x => cases x with
      | lit u => cases k2; exact .lit _ (by assumption)
      | _ => cases this
    | _ => cases this
  | _ => cases h
theorem look_args (I : Inv w0 m0 o0 G pins S a w m o) {fn : FuncId} {args : List A} {r : A} (hf : FC P fn args [] r) {vals : Array Value} (hv : vals.size = args.length) (hr : ∀ i x, args[i]? = some x → ∀ S' s', RepA (fullM w) w (fun _ => none) S' s' x (vals.getD i undef)) :
    Calls P fn vals w fun e w' => ∃ (u : Value) (m' : Mem) (o' : OwnM) (S' : Nat → A) (a' : Act) (ρ : Nat), e = .returned u ∧ Inv w (fullM w) (fun _ => none) ⟨fun g => (fun _ => none : OwnM) g ≠ none, []⟩ (boxIdx 0 args) S' a' w' m' o' ∧ RepA m' w' o' S' ρ r u ∧ ∀ (i : Nat) (l : List T), (i, l) ∈ ([] : List (Nat × List T)) → S' i = .box l ∧ i ≠ ρ :=
  hf w (fullM w) (fun _ => none) vals (fun _ _ _ h => h) ((I.tbl.trans I.mono).trans (full_le I)) (fun _ _ h => by cases h) (fun _ _ _ h => by cases h) hv (fun s => by
    unfold argS
    rw [List.getD_eq_getElem?_getD]
    cases hx : args[s]? with
    | none => trivial
    | some x => exact hr s x hx _ _)
theorem call_lits (I : Inv w0 m0 o0 G pins S a w m o) {fn : FuncId} {args : List A} {r : A} (hf : FC P fn args [] r) (hl : r.isLits = true) {vals : Array Value} (hv : vals.size = args.length) (hr : ∀ i x, args[i]? = some x → ∀ S' s', RepA (fullM w) w (fun _ => none) S' s' x (vals.getD i undef))
    {d : Nat} (hd : d < a.tmps.size) (hbox : (S d).isBox = false) :
    Calls P fn vals w fun e w' => ∃ u, e = .returned u ∧ Inv w0 m0 o0 G pins (upd S d r) (a.put (some d) u) w' m o := by
  refine (look_args I hf hv hr).mono ?_
  rintro e w' ⟨u, m', o', S', a', ρ, rfl, J, hr, _⟩
  have hS : Same (fun _ => False) w w' := J.same.weaken fun g h => h rfl
  refine ⟨u, rfl, I.put d r u hd hbox (lits_rep hl hr m) (I.same.trans (hS.weaken fun _ h => h.elim)) (fun b p v h => ?_) (Mle.refl _) (fun _ _ => rfl) (fun g hg => hS.block g hg id) hS.size⟩
  have hb : b < w.heap.size := by
    have := World.block_lt_of_cell? w _ (I.sat b p v h)
    simpa using this
  rw [World.cell?_of_block (w := w) (hS.block b hb id)]
  exact I.sat b p v h
/-- A call, as an operation. -/
theorem run_enter (hM : Mk M S) (I : Inv w0 m0 o0 G pins S a w m o) {fn : FuncId} {xs : List Operand} {ts : Array TypeId} {fx : Operand} (hop : op.op = .call { callee := .value fx, args := xs.toArray, argTypes := ts }) (hfx : vO M fx = some (.func (.func fn) #[] #[])) {F : Func} (hfn : P.funcs[fn]? = some F) (hbody : F.body.isNone = false) (hname : (F.name == "runtime.NumGoroutine") = false) :
    (execOp a.eval op).run P w = .ok (.enter fn (xs.map a.eval).toArray) w := by
  unfold execOp
  rw [hop]
  simp only [resolve, vO_eq hM I hfx, Deferred.ofValue, List.map_toArray]
  have hb : F.body ≠ none := fun e => by rw [e] at hbody; cases hbody
  have hn : F.name ≠ "runtime.NumGoroutine" := fun e => by rw [e] at hname; simp at hname
  simp [invoke, callFunc, hfn, hn, hb]
/-- Where the boxes of objects are told: among the slots, or by the heap. -/
def boxesAt (M : Nat → A) (f : Nat → A) (j : Nat) (l : List T) : Prop := M (OB + j) = .box l ∨ ∃ c, j = OB + c ∧ f c = .box l
theorem boxes_hx (hM : Mk M S) (hlo : Low S) (hk : S HK = .hp f) (j : Nat) (l : List T) (h : boxesAt M f j l) : hx S (OB + j) = .box l := by
  rcases h with h | ⟨c, rfl, h⟩
  · exact hx_boxM hM h
  · exact hx_box hlo hk h
/-- A call that only looks at what it is handed, and whose answer is plain. -/
theorem h_look (hM : Mk M S) (hk : S HK = .hp f) {fn : Nat} {xs : List Operand} {ts : Array TypeId} {fx : Operand} {r : A} {args : List A} (hop : op.op = .call { callee := .value fx, args := xs.toArray, argTypes := ts }) (hfx : vO M fx = some (.func (.func fn) #[] #[])) (hd : op.dst = some d) (hok : okD N pins S d = true) {F : Func} (hfn : P.funcs[fn]? = some F) (hbody : F.body.isNone = false) (hname : (F.name == "runtime.NumGoroutine") = false)
    (hf : FC P fn args [] r) (hargs : BorAs (boxesAt M f) (xs.map (cpO M)) args) (hl : r.isLits = true) : OpH P pins N op S (app S [(d, r)]) := by
  refine .of' (e := [(d, _)]) fun hN hlo => ⟨?_, eff_1 (okD_lo hN hok)⟩
  intro w0 m0 o0 G a w m o hNa I K Q hK
  obtain ⟨h1, h2, h3⟩ := okD_iff (okD_hx hN hok)
  obtain ⟨k1, k2⟩ := BorAs.rep hM.hx I (boxes_hx hM hlo hk) xs args hargs
  unfold Oper.wp
  rw [run_enter hM.hx I hop hfx hfn hbody hname]
  refine Calls.mono (call_lits I hf hl (vals := (xs.map a.eval).toArray) (by simpa using k1) (fun i x hi S' s' => by simpa using k2 i x hi S' s') (d := d) (by omega) h2) ?_
  rintro e w' ⟨u, rfl, J⟩
  rw [← hd] at J
  exact hK _ _ _ _ (by rw [put_size, hNa]) J
/-! ### Own slices in the cells of the heap's objects -/
theorem h_htake (hM : Mk M S) (hk : S HK = .hp f) {off t n E k : Nat} {x : Operand} {l l' : List T} {ls : List (List D)} (hop : op.op = .load t x) (ht : tyA P t = some (false, n)) (hx : cpO M x = .t (.hpt c off)) (hb : f c = .box l) (hl : l[off]? = some (.own E k ls)) (hl' : l.set off (.d (.seq k ls)) = l') (hd : op.dst = some d) (hok : okD N pins S d = true) (hf' : f' = updF f c (.box l')) :
    OpH P pins N op S (app S [(HK, .hp f'), (d, .t (.own E k ls))]) := by
  subst hl'
  refine h_mk hk hf' hok fun hN hlo => ?_
  refine ok_of_run fun w0 m0 o0 G a w m o hNa I => ?_
  obtain ⟨h1, h2, h3⟩ := okD_iff (okD_hx hN hok)
  have hxr := cpO_rep hM.hx I x 0
  rw [hx] at hxr
  obtain ⟨g, q1, q2⟩ := hxr
  have hdO := okD_lo hN hok
  obtain ⟨g', u, m', o', p1, p2, J⟩ := takeCell_inv (b := OB + (OB + c)) (d := d) I (hx_box hlo hk hb) hl (by omega) (by omega) h2 h3
  have := I.inj _ _ _ q1 p1
  subst this
  refine ⟨u, w, m', o', ?_, by rw [hd]; exact J⟩
  unfold execOp
  rw [hop]
  simp only [Sem.run_bind]
  rw [q2]
  have e1 : (Instr.loadAt t (.pointer (some ⟨g, off, none⟩))).run P w = (loadVar t ⟨g, off, none⟩).run P w := rfl
  rw [e1, run_loadVar_one ht p2]
  rfl
theorem h_hsto (hM : Mk M S) (hk : S HK = .hp f) {off t s E' k : Nat} {x : Operand} {l l' : List T} {ls : List (List D)} {i : TypeInfo} (hop : op.op = .store t x (.tmp s)) (hd : op.dst = none) (hi : P.info? t = some i) (hsz : i.size = 1) (hx : cpO M x = .t (.hpt c off)) (hb : f c = .box l) (hs : M s = .t (.own E' k ls)) (hoff : Nat.blt off l.length = true) (hl' : l.set off (.own E' k ls) = l') (hok : okD N pins S s = true) (hf' : f' = updF f c (.box l')) :
    OpH P pins N op S (app S [(HK, .hp f'), (s, .t (.d (.seq k ls)))]) := by
  subst hl'
  refine h_mk hk hf' hok fun hN hlo => ?_
  have hdO := okD_lo hN hok
  obtain ⟨h1, h2, h3⟩ := okD_iff (okD_hx hN hok)
  have := ok_store_ownG (N := N) (b := OB + (OB + c)) (s := s) hM.hx hop hd hi hsz (fun {w0 m0 o0 G a w m o} I => by
    have h := cpO_rep hM.hx I x 0
    rw [hx] at h
    obtain ⟨g, q1, q2⟩ := h
    exact ⟨g, q1, q2⟩) (hx_box hlo hk hb) hs (by simpa using hoff) (by omega) h3
  rw [upd_comm (by omega)] at this
  exact this

/-! ### Cells told otherwise -/
theorem Inv.wkbox {b : Nat} {l l' : List T} (I : Inv w0 m0 o0 G pins (upd S b (.box l)) a w m o) (h : WkTs l l') (ha : l'.all (fun x => !x.isAgg) = true) : Inv w0 m0 o0 G pins (upd S b (.box l')) a w m o := by
  refine ⟨I.same, I.sat, I.mono, I.old, I.own, I.lt, I.inj, I.pinned, fun s => ?_, I.defers, I.tbl, I.wide, I.shps⟩
  have hs := I.slots s
  by_cases e : s = b
  · subst e
    rw [upd_same] at hs ⊢
    exact ((WkA.box h ha).rep I.sat hs).turn fun b2 l2 hb => by
      by_cases e : b2 = s
      · subst e; exact ⟨_, upd_same ..⟩
      · rw [upd_other e] at hb; exact ⟨l2, by rw [upd_other e, hb]⟩
  · rw [upd_other e] at hs ⊢
    refine hs.turn fun b2 l2 hb => ?_
    by_cases e : b2 = b
    · subst e; exact ⟨_, upd_same ..⟩
    · rw [upd_other e] at hb; exact ⟨l2, by rw [upd_other e, hb]⟩
theorem h_stw (hM : Mk M S) (hk : S HK = .hp f) {t off : Nat} {x y : Operand} (hop : op.op = .store t x y) (hd : op.dst = none) {i : TypeInfo} (hi : P.info? t = some i) (hx : cpO M x = .t (.hpt c off)) {l l' : List T} (hf : f c = .box l) {q : List T} (hc : cellsP (cpO M y) = some q) (hsz : q.length = i.size) (hle : off + i.size ≤ l.length) (hw : WkTs (splice l off q) l') (ha : l'.all (fun x => !x.isAgg) = true) (hf' : f' = updF f c (.box l')) : OpH P pins N op S (app S [(HK, .hp f')]) :=
  h_put hk hf' fun hN hl => (ok_hst hM.hx hop hd hi hx (hx_box hl hk hf) hc hsz hle).post fun w0 m0 o0 G a w m o I => I.wkbox hw ha
end

/-! ### An object of the frame becomes the heap's -/
section
variable {P : Program} {pins : List Nat} {N : Nat} {Q : Exit → SL → Prop} {L L' : SL}
theorem WkTs.rfl' : ∀ (l : List T), WkTs l l
  | [] => .nil
  | x :: l => .cons (.refl x) (WkTs.rfl' l)
theorem pbE {g f2 : Nat → A} {j c : Nat} {la : List T} (hp : ∀ k, rnA j c (g k) = g k) (h2 : f2 = updF g c (.box la)) (k : Nat) : f2 k = if k = c then .box la else rnA j c (g k) := by
  rw [h2, hp]
  rfl
theorem c_pubw {cd : Code} (j : Nat) {c : Nat} {f1 f2 : Nat → A} {la la' : List T} (hk : gt L HK = .hp f1) (hb : gt L (OB + j) = .box la) (hc : (Nat.blt (j + 1) OB && !pins.contains (OB + j)) = true) (hla : la.map (rnT j c) = la) (hfree : f1 c = .free) (hw : WkTs la la') (ha : la'.all (fun x => !x.isAgg) = true) (hf2 : ∀ k, f2 k = if k = c then .box la' else rnA j c (f1 k)) (hL : (HK, .hp f2) :: (OB + j, .free) :: renL j c L = L') (h : CodeOK P pins N cd Q L') : CodeOK P pins N cd Q L := by
  subst hL
  simp only [Bool.and_eq_true, Bool.not_eq_true', List.contains_eq_mem, decide_eq_false_iff_not] at hc
  obtain ⟨c2, c3⟩ := hc
  have c2 : j + 1 < OB := by simpa using c2
  have e1 : OB + j < OB2 := by unfold OB OB2 at *; omega
  have e2 : OB + j ≠ HK := by unfold HK; unfold OB at *; omega
  intro Fe ne hF w0 m0 o0 G a w hS
  obtain ⟨hN, hlo, m, o, I⟩ := hS
  have hlr : Low (gt (renL j c L)) := fun t ht => by rw [gt_renL, hlo t ht]; rfl
  have hl2 : Low (gt ((HK, .hp f2) :: (OB + j, .free) :: renL j c L)) := by
    rw [gt_cons, gt_cons]
    exact (hlr.upd e1).upd hk_lt
  have hkk : gt ((HK, .hp f2) :: (OB + j, .free) :: renL j c L) HK = .hp f2 := by rw [gt_cons, upd_same]
  have he : hx (gt ((HK, .hp f2) :: (OB + j, .free) :: renL j c L)) = upd (upd (fun t => if t = OB + j then .free else if t = OB + (OB + c) then .box la else rnA j c (hx (gt L) t)) (OB + (OB + c)) (.box la')) HK (.hp f2) := by
    funext t
    by_cases e : t = HK
    · subst e
      rw [upd_same]
      exact hx_of hkk (by simp)
    · rw [upd_other e]
      rcases Nat.lt_or_ge t OB2 with h2 | h2
      · have hne : t ≠ OB + (OB + c) := by unfold OB OB2 at *; omega
        rw [hx_lo h2, gt_cons, upd_other e, gt_cons, upd_other hne]
        unfold upd
        by_cases e3 : t = OB + j
        · rw [if_pos e3, if_pos e3]
        · rw [if_neg e3, if_neg e3, if_neg hne, gt_renL, hx_lo h2]
      · obtain ⟨k, rfl⟩ : ∃ k, t = OB2 + k := ⟨t - OB2, by omega⟩
        rw [ob2_eq, hx_hp hl2 hkk, hf2]
        by_cases e3 : k = c
        · subst e3; rw [if_pos rfl, upd_same]; rfl
        · rw [if_neg e3, upd_other (by omega), if_neg (by unfold OB OB2 at *; omega), if_neg (by omega), hx_hp hlo hk, san_rn]
  obtain ⟨o2, J⟩ := I.pub (j := j) (c := c) (la := la) (by omega) c3 (by rw [hx_hp hlo hk, hfree]; rfl) (hx_of hb (by simp)) hla (S' := fun t => if t = OB + j then .free else if t = OB + (OB + c) then .box la else rnA j c (hx (gt L) t)) (if_pos rfl) (by
    show (if OB + (OB + c) = OB + j then _ else _) = _
    rw [if_neg (by omega), if_pos rfl]) (fun t h1 h2 => by
    show (if t = OB + j then _ else _) = _
    rw [if_neg h1, if_neg h2])
  have e5 : (fun t => if t = OB + j then A.free else if t = OB + (OB + c) then .box la else rnA j c (hx (gt L) t)) = upd (fun t => if t = OB + j then A.free else if t = OB + (OB + c) then .box la else rnA j c (hx (gt L) t)) (OB + (OB + c)) (.box la) := by
    funext t
    unfold upd
    by_cases e6 : t = OB + (OB + c)
    · subst e6; rw [if_neg (by omega), if_pos rfl, if_pos rfl]
    · simp only [if_neg e6]
  rw [e5] at J
  have J2 := (J.wkbox hw ha).hk (f := f1) (by
    rw [upd_other (by unfold HK OB; omega)]
    show (if HK = OB + j then _ else if HK = OB + (OB + c) then _ else rnA j c (hx (gt L) HK)) = _
    rw [if_neg (Ne.symm e2), if_neg (by unfold HK OB; omega), hx_of hk (by simp)]
    rfl) f2
  rw [← he] at J2
  exact h Fe ne hF w0 m0 o0 G a w ⟨hN, hl2, m, o2, J2⟩
theorem c_pub {cd : Code} (j : Nat) {c : Nat} {f1 f2 : Nat → A} {la : List T} (hk : gt L HK = .hp f1) (hb : gt L (OB + j) = .box la) (hc : (Nat.blt (j + 1) OB && !pins.contains (OB + j)) = true) (hla : noPt la = true) (ha : la.all (fun x => !x.isAgg) = true) (hfree : f1 c = .free) (hf2 : ∀ k, f2 k = if k = c then .box la else rnA j c (f1 k)) (hL : (HK, .hp f2) :: (OB + j, .free) :: renL j c L = L') (h : CodeOK P pins N cd Q L') : CodeOK P pins N cd Q L :=
  c_pubw j hk hb hc (rnT_flat hla) hfree (WkTs.rfl' la) ha hf2 hL h
theorem fl_noAg {α : Type} (c : α → List D) (l : List α) : (fl (dT c) l).all (fun x => !x.isAgg) = true := by
  rw [fl_flat, List.all_map]
  exact List.all_eq_true.2 fun _ _ => rfl
end

/-! ### Pieces of objects, handed over -/
section
theorem argVw0 {M : Nat → A} {σ : List Nat} {s i j off E k n : Nat} (h : M s = .t (.view j off E k n)) (hi : σ[i]? = some j) : ArgH σ (cpO M (.tmp s)) (.t (.view i off 0 k n)) := by
  have : cpO M (.tmp s) = .t (.view j off E k n) := by unfold cpO; simp only [h]; rfl
  rw [this]
  exact .view0 hi
variable {α : Type} {c : α → List D} {k : Nat}
theorem piece_len {x y : List α} {off n : Nat} (h : pieceI x off n = some y) : (y.map c).length = n := by
  obtain ⟨h1, rfl⟩ := pieceI_iff h
  rw [List.length_map, List.length_take, List.length_drop]
  omega
theorem piece_cells {x y : List α} {off n : Nat} (hc : ∀ a, (c a).length = 1) (h : pieceI x off n = some y) : ((fl (dT c) x).drop off).take (n * 1) = ((y.map c).flatMap id).map .d := by
  obtain ⟨h1, rfl⟩ := pieceI_iff h
  rw [Nat.mul_one, fl_drop1 (dT_len hc), fl_take1 (dT_len hc), fl_flat]
variable {P : Program} {pins : List Nat} {N : Nat} {S M : Nat → A} {op : Oper} {d : Nat}
theorem h_min (hM : Mk M S) {ts : Array TypeId} {x y : Operand} {k ky : IntKind} {a b : Int} (hop : op.op = .call { callee := .builtin .min, args := #[x, y], argTypes := ts }) (hx : vO M x = some (.int k a)) (hy : vO M y = some (.int ky b)) (hd : op.dst = some d) (hok : okD N pins S d = true) : OpH P pins N op S (app S [(d, .t (.d (.lit (.int k (if b < a then b else a)))))]) := by
  refine .of (e := [(d, _)]) fun hN => ⟨?_, eff_1 (okD_lo hN hok)⟩
  refine ok_of_run fun w0 m0 o0 G ac w m o hN' I => ?_
  obtain ⟨h1, h2, h3⟩ := okD_iff (okD_hx hN hok)
  refine ⟨.int k (if b < a then b else a), w, m, o, ?_, by rw [hd]; exact I.set d _ _ (by omega) h2 (.lit _ rfl)⟩
  unfold execOp
  rw [hop]
  simp only [resolve, invoke, builtin, Sem.run_bind, Sem.run_pure, Result.andThen_ok, List.map_toArray, List.map_cons, List.map_nil]
  rw [vO_eq hM.hx I hx, vO_eq hM.hx I hy]
  simp [Builtin.min_, Builtin.min2]
theorem app_same {S : Nat → A} {t : Nat} {x : A} (h : S t = x) : upd S t x = S := by
  funext k
  unfold upd
  split
  · rename_i e; rw [e, h]
  · rfl
/-- A call that leaves the heap as it was. -/
theorem h_callR {f : Nat → A} (hM : Mk M S) (hk : S HK = .hp f) {fn : Nat} {xs : List Operand} {ts : Array TypeId} {fx : Operand} (hop : op.op = .call { callee := .value fx, args := xs.toArray, argTypes := ts }) (hfx : vO M fx = some (.func (.func fn) #[] #[])) (hd : op.dst = some d) (hok : okD N pins S d = true) {F : Func} (hfn : P.funcs[fn]? = some F) (hbody : F.body.isNone = false) (hname : (F.name == "runtime.NumGoroutine") = false)
    {args : List A} {ins outs : List A} {r r' : A} {σ fr : List Nat} (hf : FCH P fn args ins outs f f r) (hp : pureH f) (hb : callB M σ fr outs = true) (b3 : ins.all A.flatO = true) (b4 : outs.all A.flatO = true) (hin : σ.map (fun j => S (OB + j)) = ins) (hargs : ArgsH σ (xs.map (cpO M)) args) (hle : Nat.ble args.length OB = true) (hres : ResH (σ ++ fr) r r') :
    OpH P pins N op S (app S (putsO (σ ++ fr) outs ++ [(d, r')])) := by
  have h := h_call hM hk hop hfx hd hok hfn hbody hname hf hp hp hb b3 b4 hin hargs hle hres
  have hj : ∀ j ∈ σ ++ fr, j + 1 < OB := fun j h => by
    unfold callB at hb
    simp only [Bool.and_eq_true] at hb
    have := List.all_eq_true.1 hb.1.1.1.2 j h
    simpa using this
  have e : app S (putsO (σ ++ fr) outs ++ [(HK, .hp f), (d, r')]) = app S (putsO (σ ++ fr) outs ++ [(d, r')]) := by
    rw [app_append, app_append]
    show upd (upd (app S (putsO (σ ++ fr) outs)) HK (.hp f)) d r' = upd (app S (putsO (σ ++ fr) outs)) d r'
    have e1 : upd (app S (putsO (σ ++ fr) outs)) HK (.hp f) = app S (putsO (σ ++ fr) outs) := app_same (by
      rw [puts_other, hk]
      rintro ⟨h1, h2⟩
      have := hj _ h2
      unfold HK OB at this
      omega)
    rw [e1]
  rw [e] at h
  exact h
end
end Go.Proofs.Ytjomnccladjpgaa

/-
  What calls hand back: bytes, in new memory.
-/
namespace Go.Proofs.Ytjomnccladjpgaa
open Go.RowKit

theorem el_u8 : ElemOf Try.prog 41 5 1 1 := .mk' (z := .int .u8 0) Try.underlying41 (by kernel_rfl) rfl (by decide) (by decide)

/-- Bytes behind A, in memory that is newer than w. -/
def New (w w' : World) (A : Option Addr) (bs : List UInt8) : Prop := Byt w' A bs ∧ ∀ ad, A = some ad → w.heap.size ≤ ad.block
theorem New.from {w w1 w' : World} {A : Option Addr} {bs : List UInt8} (h : New w1 w' A bs) (hs : w.heap.size ≤ w1.heap.size) : New w w' A bs := ⟨h.1, fun ad e => Nat.le_trans hs (h.2 ad e)⟩

/-- The call hands back bytes; nothing that was there has turned. -/
def GivesB (bs : List UInt8) (w : World) (e : Ending) (w' : World) : Prop := ∃ A c, e = .returned (.slice A bs.length c) ∧ New w w' A bs ∧ (bs.length ≤ c ∧ c ≤ maxLen) ∧ Below w.heap.size w w'
/-- .. and an error's number beside them. -/
def GivesBE (bs : List UInt8) (er : Int) (w : World) (e : Ending) (w' : World) : Prop := ∃ A c, e = .returned (.tuple #[.slice A bs.length c, .int .i64 er]) ∧ New w w' A bs ∧ (bs.length ≤ c ∧ c ≤ maxLen) ∧ Below w.heap.size w w'

theorem Own.byt {w : World} {B : Nat} {e : TypeId} {A : Option Addr} {n c : Nat} {bs : List UInt8} (h : Own w B e 1 A n c (u8s bs)) : (Byt w A bs ∧ ∀ ad, A = some ad → B ≤ ad.block) ∧ bs.length = n ∧ (bs.length ≤ c ∧ c ≤ maxLen) :=
  ⟨⟨h.row, fun ad e => (h.lt ad.block (by rw [e]; rfl)).1⟩, by have := h.len; rw [u8s_length] at this; omega, ⟨by have := h.len; have := h.cap; rw [u8s_length] at *; omega, h.capMax⟩⟩

end Go.Proofs.Ytjomnccladjpgaa

/-
  From contracts that name memory to contracts over data.
-/
namespace Go.Proofs.Ytjomnccladjpgaa
open Go Go.RowKit
set_option linter.unusedVariables false

/-- What is known, and the new blocks as they stand. -/
def newAll (m : Mem) (w w' : World) : Mem := fun b p => if b < w.heap.size then m b p else w'.cell? ⟨b, p, none⟩
theorem inv_of_below {w w' : World} {m : Mem} {o : OwnM} {pins : List Nat} (hsat : ∀ b p u, m b p = some u → w.cell? ⟨b, p, none⟩ = some u) (htbl : Mle TBL m) (hlt : ∀ g l, o g = some l → g < w.heap.size ∧ l.1 < OB) (hinj : ∀ g g' l, o g = some l → o g' = some l → g = g') (hb : Below w.heap.size w w') :
    Inv w m o ⟨fun g => o g ≠ none, []⟩ pins (fun _ => .any) { tmps := #[], defers := [] } w' (newAll m w w') o := by
  have hlow : ∀ b p u, m b p = some u → b < w.heap.size := fun b p u h => by
    have := World.block_lt_of_cell? w _ (hsat b p u h)
    simpa using this
  refine ⟨Same.of_below hb, fun b p u h => ?_, fun b p u h => ?_, fun b hb' _ => ?_, fun g l h => .inl (by show o g ≠ none; rw [h]; simp), fun g l h => Nat.lt_of_lt_of_le (hlt g l h).1 hb.size, hinj, fun s _ g hg => hg, fun s => trivial, rfl, htbl, Nat.zero_le _, fun g j h => absurd (hlt g _ h).2 (by show ¬ OB + j < OB; omega)⟩
  · unfold newAll at h
    split at h
    · rename_i hlt
      rw [hb.cell (p := ⟨b, p, none⟩) hlt]
      exact hsat b p u h
    · exact h
  · unfold newAll
    rw [if_pos (hlow b p u h)]
    exact h
  · funext p
    unfold newAll
    rw [if_pos hb']

theorem seq_of_new {w w' : World} {m : Mem} {A' : Option Addr} {bs : List UInt8} {c : Nat} (h : New w w' A' bs) (hc : bs.length ≤ c ∧ c ≤ maxLen) : RepD (newAll m w w') (.seq 1 (bytesD bs)) (.slice A' bs.length c) := by
  have hl : (bytesD bs).length = bs.length := bytesD_length bs
  have key : ∀ A0 : Option Addr, (bytesD bs ≠ [] → ∃ g p, A0 = some ⟨g, p, none⟩ ∧ w.heap.size ≤ g ∧ ∀ i (hi : i < bs.length), w'.cell? ⟨g, p + i, none⟩ = some (.int .u8 (bs[i].toNat : Int))) → RepD (newAll m w w') (.seq 1 (bytesD bs)) (.slice A0 (bytesD bs).length c) := by
    intro A0 hA0
    by_cases he : bytesD bs = []
    · rw [he]
      exact .seq 1 [] A0 c 0 0 (fun _ _ => undef) (by simp) hc.2 (fun h => absurd rfl h) (fun i r h => by simp at h) (fun i r j d h => by simp at h) (fun i r j d h => by simp at h)
    · obtain ⟨g, p, e, hg, hcell⟩ := hA0 he
      have hb : ∀ (i : Nat) (r : List D), (bytesD bs)[i]? = some r → ∃ hi : i < bs.length, r = [D.lit (.int .u8 (bs[i].toNat : Int))] := by
        intro i r hi
        have hlt : i < bs.length := by rw [← hl]; exact (List.getElem?_eq_some_iff.1 hi).1
        refine ⟨hlt, ?_⟩
        unfold bytesD at hi
        rw [List.getElem?_map, List.getElem?_eq_getElem hlt] at hi
        injection hi with hi
        exact hi.symm
      refine .seq 1 _ A0 c g p (fun i _ => if h : i < bs.length then .int .u8 (bs[i].toNat : Int) else undef) (by rw [hl]; exact hc.1) hc.2 (fun _ => e) (fun i r hi => ?_) (fun i r j d hi hj => ?_) (fun i r j d hi hj => ?_)
      · obtain ⟨_, rfl⟩ := hb i r hi
        rfl
      · obtain ⟨hlt, rfl⟩ := hb i r hi
        cases j with
        | succ j => simp at hj
        | zero =>
          unfold newAll
          rw [if_neg (by omega), Nat.mul_one, Nat.add_zero, hcell i hlt]
          simp [hlt]
      · obtain ⟨hlt, rfl⟩ := hb i r hi
        cases j with
        | succ j => simp at hj
        | zero =>
          injection hj with hj
          subst hj
          simp only [hlt, dif_pos]
          exact .lit _ rfl
  rw [← hl]
  refine key A' fun hne => ?_
  have hpos : 0 < bs.length := by rw [← hl]; exact List.length_pos_iff.2 hne
  obtain ⟨ad, e, hc0⟩ := h.1.at_ (j := 0) hpos
  have hs : ad.spot = none := by
    have := World.cell?_spot hc0
    simpa [Addr.add] using this
  obtain ⟨g, p, sp⟩ := ad
  simp only at hs
  subst hs
  refine ⟨g, p, e, h.2 _ e, fun i hi => ?_⟩
  obtain ⟨ad', e', hci⟩ := h.1.at_ (j := i) hi
  rw [e] at e'
  injection e' with e'
  subst e'
  rwa [Addr.add_mid] at hci

theorem fc_bytes_err {f : FuncId} {args : List A} {bs : List UInt8} {er : Int} (h : ∀ (w : World) (m : Mem) (o : OwnM) (vals : Array Value), vals.size = args.length → (∀ s, RepA m w o (argS args) s (argS args s) (vals.getD s undef)) → Calls Try.prog f vals w (GivesBE bs er w)) : FC Try.prog f args [] (.tup [.d (.seq 1 (bytesD bs)), .d (.lit (.int .i64 er))]) := by
  intro w m o vals hsat htbl hlt hinj hsz hrep
  refine (h w m o vals hsz hrep).mono ?_
  rintro e w' ⟨A', c, rfl, hnew, hc, hb⟩
  refine ⟨_, newAll m w w', o, _, _, 0, rfl, inv_of_below hsat htbl hlt hinj hb, ⟨_, rfl, rfl, fun j x hj => ?_⟩, fun i l h => by cases h⟩
  match j, hj with
  | 0, hj => injection hj with hj; subst hj; exact ⟨_, rfl, seq_of_new hnew hc⟩
  | 1, hj => injection hj with hj; subst hj; exact ⟨_, rfl, .lit _ rfl⟩
  | j + 2, hj => simp at hj
theorem vals2 {x y : Value} {vals : Array Value} (hs : vals.size = 2) (h0 : vals.getD 0 undef = x) (h1 : vals.getD 1 undef = y) : vals = #[x, y] := by
  obtain ⟨l⟩ := vals
  match l, hs with
  | [p, q], _ => simp at h0 h1; rw [h0, h1]
theorem int_of {m : Mem} {w : World} {o : OwnM} {S : Nat → A} {s : Nat} {n : Int} {v : Value} (h : RepA m w o S s (intA n) v) : v = .int .i64 n := by
  have h : RepD m (.lit (.int .i64 n)) v := h
  cases h
  rfl
end Go.Proofs.Ytjomnccladjpgaa
