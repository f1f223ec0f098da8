/-
  Texts joined: see the remark at the head of each part.
-/
import Derived.Test.YtjomnccladjpgaaGreatQ07
import Derived.Laws.CopyRow
import Derived.Test.YtjomnccladjpgaaGreatQ06
import Derived.Test.YtjomnccladjpgaaGreatQ05
set_option linter.unusedVariables false
set_option linter.unusedSimpArgs false
/-
 Arrays as values; variables and made slices as objects, of the frame or of the heap; slices of arrays; copy.
-/
namespace Go.Proofs.YtjomnccladjpgaaGreat
open Go Go.RowKit
set_option linter.unusedVariables false
section
variable {α : Type} {c : α → List D} {z : α} {k : Nat}
def ar (c : α → List D) (z : α) (l : List α) : Nat → Nat → List D
 | _, 0 => []
 | i, n + 1 => c (l.getD i z) ++ ar c z l (i + 1) n
def padA (z : α) (l : List α) : Nat → Nat → List α
 | _, 0 => []
 | i, n + 1 => l.getD i z :: padA z l (i + 1) n
theorem zEg (l : List α) : ∀ (n i : Nat), (padA z l i n).length = n
 | 0, _ => rfl
 | n + 1, i => congrArg (· + 1) (zEg l n (i + 1))
theorem zJ3 (l : List α) : ∀ (n i : Nat), ar c z l i n = fl c (padA z l i n)
 | 0, _ => rfl
 | n + 1, i => congrArg (c (l.getD i z) ++ ·) (zJ3 l n (i + 1))
theorem ar_dT (l : List α) : ∀ (n i : Nat), (ar c z l i n).map T.d = fl (dT c) (padA z l i n)
 | 0, _ => rfl
 | n + 1, i => by
  show (c (l.getD i z) ++ ar c z l (i + 1) n).map T.d = dT c (l.getD i z) ++ fl (dT c) (padA z l (i + 1) n)
  rw [List.map_append, ar_dT l n (i + 1)]
  rfl
theorem ar_len (hc : ∀ a, (c a).length = k) (l : List α) (i n : Nat) : (ar c z l i n).length = n * k := by
 rw [zJ3, zF7 hc, zEg]
theorem zI2 (l : List α) : ∀ (n i : Nat), i + n = l.length → padA z l i n = l.drop i
 | 0, i, h => by rw [List.drop_of_length_le (by omega)]; rfl
 | n + 1, i, h => by
  have hi : i < l.length := by omega
  show l.getD i z :: padA z l (i + 1) n = _
  rw [zI2 l n (i + 1) (by omega), List.drop_eq_getElem_cons hi, List.getD_eq_getElem?_getD, List.getElem?_eq_getElem hi]
  rfl
theorem zJx {l : List α} {n : Nat} (h : l.length = n) : padA z l 0 n = l := by rw [zI2 l n 0 (by omega)]; rfl
theorem ar_id {l : List α} {n : Nat} (h : l.length = n) : ar c z l 0 n = fl c l := by rw [zJ3, zJx h]
theorem zIc {β : Type} {f : α → List β} (hf : ∀ a, (f a).length = 1) : ∀ (x : List α) (i : Nat), (fl f x).take i = fl f (x.take i)
 | [], i => by simp [fl]
 | a :: t, 0 => by simp [fl]
 | a :: t, i + 1 => by
  have h := hf a
  show (f a ++ fl f t).take (i + 1) = f a ++ fl f (t.take i)
  rw [← zIc hf t i]
  match hfa : f a, h with
  | [b], _ => rfl
theorem zIR {β : Type} {f : α → List β} (hf : ∀ a, (f a).length = 1) : ∀ (x : List α) (i : Nat), (fl f x).drop i = fl f (x.drop i)
 | [], i => by simp [fl]
 | a :: t, 0 => by simp
 | a :: t, i + 1 => by
  have h := hf a
  show (f a ++ fl f t).drop (i + 1) = fl f (t.drop i)
  rw [← zIR hf t i]
  match hfa : f a, h with
  | [b], _ => rfl
theorem zJA {β : Type} (f : α → List β) (x y : List α) : fl f (x ++ y) = fl f x ++ fl f y := List.flatMap_append
theorem flr_at {l : List α} {z : Int} {y : α} {k : Nat} (h : idx l z = some y) (hc : ∀ a, (c a).length = k) : ((fl (dT c) l).drop (0 + z.toNat * k)).take k = dT c y := by
 rw [Nat.zero_add]
 exact fl_row (zEV hc) (zFQ h).2.2
def s2aI (n : Nat) (l : List α) : Option (List α) := if n ≤ l.length then some (l.take n) else none
theorem zKC {n : Nat} {l x : List α} (h : s2aI n l = some x) : n ≤ l.length ∧ x = l.take n := by
 unfold s2aI at h
 split at h
 · injection h with h; exact ⟨by assumption, h.symm⟩
 · cases h
theorem s2a_row {n : Nat} {l x : List α} (h : s2aI n l = some x) : ((l.map c).take n).flatMap id = ar c z x 0 n := by
 obtain ⟨h1, rfl⟩ := zKC h
 rw [ar_id (by rw [List.length_take]; omega), ← List.map_take]
 unfold fl
 rw [List.flatMap_map]
 rfl
def cpyL (x : List α) (off n : Nat) (y : List α) : List α := x.take off ++ (y.take n ++ x.drop (off + min y.length n))
def cpyI (x : List α) (off n : Nat) (y : List α) : Option (List α) := if off + n ≤ x.length then some (cpyL x off n y) else none
theorem cpyI_iff {x y v : List α} {off n : Nat} (h : cpyI x off n y = some v) : off + n ≤ x.length ∧ v = cpyL x off n y := by
 unfold cpyI at h
 split at h
 · injection h with h; exact ⟨by assumption, h.symm⟩
 · cases h
theorem cpy_row (hc : ∀ a, (c a).length = 1) (x y : List α) (off n : Nat) : yA (fl (dT c) x) off ((((y.map c).take n).flatMap id).map T.d) = fl (dT c) (cpyL x off n y) := by
 have h1 : ((((y.map c).take n).flatMap id).map T.d) = fl (dT c) (y.take n) := by
  rw [← List.map_take, ← zEM]
 have hd := zEV hc
 have h2 : (fl (dT c) (y.take n)).length = min y.length n := by rw [zF7 hd, List.length_take]; omega
 unfold yA cpyL
 rw [h1, h2, zIc hd, zIR hd, zJA, zJA, List.append_assoc]
def zE0 (x : List α) (off n : Nat) : Option (List α) := if off + n ≤ x.length then some ((x.drop off).take n) else none
theorem zIL {x y : List α} {off n : Nat} (h : zE0 x off n = some y) : off + n ≤ x.length ∧ y = (x.drop off).take n := by
 unfold zE0 at h
 split at h
 · injection h with h; exact ⟨by assumption, h.symm⟩
 · cases h
def vcut (n : Nat) (lo hi : Int) : Option Unit := if 0 ≤ lo ∧ lo ≤ hi ∧ hi ≤ n then some () else none
theorem zCi {n : Nat} {lo hi : Int} {u : Unit} (h : vcut n lo hi = some u) : 0 ≤ lo ∧ lo ≤ hi ∧ hi ≤ n := by
 unfold vcut at h
 split at h
 · assumption
 · cases h
end
section
variable {w0 : World} {m0 : Mem} {o0 : OwnM} {G : GD} {pins : List Nat} {S M : Nat → A} {a : Act} {w : World} {m : Mem} {o : OwnM} {P : Program} {N : Nat} {op : Oper} {d c : Nat} {f f' : Nat → A}
theorem Inv.tell (I : Inv w0 m0 o0 G pins S a w m o) (d : Nat) (x : A) (hbox : (S d).isBox = false) (hx : RepA m w o (upd S d x) d x (a.tmps.getD d undef)) : Inv w0 m0 o0 G pins (upd S d x) a w m o := by
 refine ⟨I.same, I.sat, I.mono, I.old, I.own, I.lt, I.inj, I.pinned, fun s => ?_, I.defers, I.tbl, I.wide, I.shps⟩
 by_cases e : s = d
 ·
  subst e
  rw [zY]
  exact hx
 ·
  rw [zK e]
  refine (I.slots s).turn fun b l hb => ⟨l, ?_⟩
  rw [zK (fun e => by rw [e] at hb; rw [hb] at hbox; cases hbox), hb]
theorem OpOK.post {S1 S2 : Nat → A} (h : OpOK P pins N op S S1) (k : ∀ w0 m0 o0 G a w m o, Inv w0 m0 o0 G pins S1 a w m o → Inv w0 m0 o0 G pins S2 a w m o) : OpOK P pins N op S S2 :=
 fun w0 m0 o0 G a w m o hN I K Q hK => h w0 m0 o0 G a w m o hN I K Q fun a' w' m' o' hN' I' => hK a' w' m' o' hN' (k _ _ _ _ _ _ _ _ I')
theorem OpH.lo2 {j : Nat} {x1 x2 : A} (hj : Nat.blt (j + 1) OB = true) (hok : okD N pins S d = true) (h : N ≤ OB → Low S → OpOK P pins N op (hx S) (app (hx S) [(OB + j, x1), (d, x2)])) : OpH P pins N op S (app S [(OB + j, x1), (d, x2)]) := by
 intro hN hlo
 obtain ⟨e1, e2, e3⟩ := lo_of hj
 have hdO := qX hN hok
 refine ⟨?_, (hlo.upd e1).upd (lt2 hdO)⟩
 show OpOK P pins N op (hx S) (hx (upd (upd S (OB + j) _) d _))
 rw [zD3 (lt2 hdO) (by unfold HK; unfold OB at hdO; omega), zD3 e1 e2]
 exact h hN hlo
theorem zJ4 (hM : Mk M S) {j : Nat} (h : M (OB + j) = .free) : hx S (OB + j) = .free := by
 rcases hM (OB + j) with e | e
 · rw [e] at h; cases h
 · rw [e] at h; exact zCe h (by simp)
theorem zJh (hM : Mk M S) {j : Nat} {l : List T} (h : M (OB + j) = .box l) : hx S (OB + j) = .box l := by
 rcases hM (OB + j) with e | e
 · rw [e] at h; cases h
 · rw [e] at h; exact zCe h (by simp)
theorem ok_s2a (hM : Mk M S) {t n e k : Nat} {x : Operand} {l : List (List D)} (hop : op.op = .sliceToArrayPointer t x) (hu : P.underlying t = some (.array n e)) (hx : dO M x = some (.seq k l)) (hk : 0 < k) (hpos : 0 < n) (hn : n ≤ l.length) (hd : op.dst = some d) (hok : okD N pins S d = true) :
  OpOK P pins N op S (upd S d (.imm ((l.take n).flatMap id))) := by
 refine zW fun w0 m0 o0 G a w m o hN I => ?_
 obtain ⟨h1, h2, h3⟩ := qH hok
 have hr := zEX hM I hx
 generalize hv : a.eval x = v at hr
 cases hr with
 | seq _ _ A' cap g p fv hcap hmax hA hw hm hr =>
  have hne : l ≠ [] := fun e => by rw [e] at hn; simp at hn; omega
  have hA := hA hne
  subst hA
  refine ⟨.pointer (some ⟨g, p, none⟩), w, m, o, ?_, by
   rw [hd]
   refine I.set d _ _ (by omega) h2 ⟨g, p, rfl, fun j dd hj => ?_⟩
   have hwt : ∀ r ∈ l.take n, r.length = k := fun r hr => by
    obtain ⟨i, hi⟩ := List.getElem?_of_mem (List.mem_of_mem_take hr)
    exact hw i r hi
   have hlt : j < n * k := by
    have := (List.getElem?_eq_some_iff.1 hj).1
    rw [zFT hwt, List.length_take] at this
    rw [Nat.min_eq_left hn] at this
    exact this
   have hi1 : j / k < n := Nat.div_lt_of_lt_mul (by rw [Nat.mul_comm]; exact hlt)
   have hi2 : j % k < k := Nat.mod_lt _ hk
   have he : j / k * k + j % k = j := by rw [Nat.mul_comm]; exact Nat.div_add_mod j k
   have hil : j / k < l.length := by omega
   obtain ⟨r, hr'⟩ : ∃ r, l[j / k]? = some r := ⟨_, List.getElem?_eq_getElem hil⟩
   have hrt : (l.take n)[j / k]? = some r := by rw [List.getElem?_take, if_pos hi1]; exact hr'
   have h5 := zD1 hwt hrt hi2
   rw [he, hj] at h5
   refine ⟨fv (j / k) (j % k), ?_, hr _ r _ dd hr' h5.symm⟩
   have := hm _ r _ dd hr' h5.symm
   rw [Nat.add_assoc, he] at this
   exact this⟩
  unfold execOp
  rw [hop]
  simp only [Sem.run_bind]
  rw [hv]
  simp [Instr.arrayAt, run_underlying hu]
  intro h
  omega
theorem h_s2a {α : Type} {cc : α → List D} {l y : List α} {z : α} (hM : Mk M S) {t n e k : Nat} {x : Operand} (hop : op.op = .sliceToArrayPointer t x) (hu : P.underlying t = some (.array n e)) (hx : dO M x = some (.seq k (l.map cc))) (hk : (Nat.blt 0 k && Nat.blt 0 n) = true) (hn : s2aI n l = some y) (hd : op.dst = some d) (hok : okD N pins S d = true) :
  OpH P pins N op S (app S [(d, .imm (ar cc z y 0 n))]) := by
 simp only [Bool.and_eq_true] at hk
 rw [← s2a_row (z := z) hn]
 exact .of (e := [(d, _)]) fun hN => ⟨ok_s2a hM.hx hop hu hx (by simpa using hk.1) (by simpa using hk.2) (by rw [List.length_map]; exact (zKC hn).1) hd (yM hN hok), zB3 (qX hN hok)⟩
theorem h_ldim (hM : Mk M S) {t n : Nat} {x : Operand} {l : List D} (hop : op.op = .load t x) (ht : tyA P t = some (true, n)) (hx : cpO M x = .imm l) (hl : l.length = n) (hd : op.dst = some d) (hok : okD N pins S d = true) : OpH P pins N op S (app S [(d, .t (.agg l))]) := by
 refine .of (e := [(d, _)]) fun hN => ⟨?_, zB3 (qX hN hok)⟩
 refine zFw hM.hx hd (yM hN hok) ?_
 rw [hop]
 show ldF P M t x = _
 unfold ldF
 simp only [hx, ht]
 rw [if_pos hl.symm]
theorem zJt {α : Type} {c : α → List D} (hM : Mk M S) {t e nb q : Nat} {xn xc : Operand} {kl kc : IntKind} {n : Int} {ie : TypeInfo} {z : Value} {rs : List (List D)} (hop : op.op = .makeSlice t xn xc) (hn : vO M xn = some (.int kl n)) (hc : vO M xc = some (.int kc n)) (hE : elF P t = some (e, 1, nb)) (hie : P.info? e = some ie) (hz : ie.zero = some z) (hz1 : z.cells = #[z]) (hz2 : z.oneCell' = true) (hnb : nb = nb)
  (hq : mkI nb n = some q) (hr : List.replicate q [.lit z] = rs) (hd : op.dst = some d) (hok : okD N pins S d = true) : OpH P pins N op S (app S [(d, .t (.own e 1 rs))]) := by
 subst hr
 exact .of (e := [(d, _)]) fun hN => ⟨ok_mko (sz := 0) hM.hx hop hn hc hE hie hz hz1 hz2 hq hd (yM hN hok), zB3 (qX hN hok)⟩
theorem ok_lmk {j : Nat} {l : List T} (hd : op.dst = some d) (hok : okD N pins S d = true) (hdO : d < OB) (hfree : S (OB + j) = .free)
  (h : ∀ (w0 : World) (m0 : Mem) (o0 : OwnM) (G : GD) (a : Act) (w : World) (m : Mem) (o : OwnM), Inv w0 m0 o0 G pins S a w m o → ∃ v cs E, (execOp a.eval op).run P w = .ok (.value v) (w.alloc (.cells cs E)) ∧ l.length ≤ cs.size ∧
   (∀ (i : Nat) (x : T), l[i]? = some x → x.noOwn = true ∧ ∃ u, cs[i]? = some u ∧ RepT m w o (0, 0) x u) ∧ v = .pointer (some ⟨w.heap.size, 0, none⟩)) :
  OpOK P pins N op S (app S [(OB + j, .box l), (d, .t (.ptr j 0))]) := by
 refine zW fun w0 m0 o0 G a w m o hN I => ?_
 obtain ⟨h1, h2, h3⟩ := qH hok
 obtain ⟨v, cs, E, hrun, hlen, hc, rfl⟩ := h w0 m0 o0 G a w m o I
 refine ⟨_, w.alloc (.cells cs E), m, newO o (OB + j) w.heap.size, hrun, ?_⟩
 rw [hd]
 have J := I.obj_new (E := E) hfree hlen hc
 exact J.set d _ _ (by omega) (by rw [zK (by omega)]; exact h2) ⟨_, zAt _ _ _, rfl⟩
theorem h_lnew (hM : Mk M S) {j E : Nat} {i : TypeInfo} {z : Value} {l0 l : List T} (hop : op.op = .alloc E) (hi : P.info? E = some i) (hz : i.zero = some z) (hl : zFp (litA z) = some l0) (hl' : l0 = l) (hd : op.dst = some d) (hok : okD N pins S d = true) (hj : Nat.blt (j + 1) OB = true) (hfree : M (OB + j) = .free) :
  OpH P pins N op S (app S [(OB + j, .box l), (d, .t (.ptr j 0))]) := by
 subst hl'
 refine .lo2 hj hok fun hN hlo => ?_
 refine ok_lmk hd (yM hN hok) (qX hN hok) (zJ4 hM hfree) fun w0 m0 o0 G a w m o I => ?_
 have hcp : zDU (litA z) = some l0 := by
  revert hl
  generalize litA z = y
  intro hl
  cases y with
  | t y => cases y <;> first | exact hl | cases hl
  | _ => cases hl
 obtain ⟨k1, k2, k3⟩ := zDW hcp (zDy (m := m) (w := w) (o := o) (S := S) 0 z)
 refine ⟨_, z.cells, E, ?_, by simpa using Nat.le_of_eq k1.symm, fun i x hx => ?_, rfl⟩
 ·
  unfold execOp
  rw [hop]
  simp [Instr.alloc, zeroValue, typeInfo, hi, hz, newVar, newRow]
 ·
  obtain ⟨q1, u, q2, q3⟩ := k3 i x hx
  exact ⟨zEB hcp x (List.mem_of_getElem? hx), u, by simpa using q2, q3 _ _ (zB2.refl w)⟩
theorem h_lbox (hM : Mk M S) {j E : Nat} {x : Operand} {l0 l : List T} (hop : op.op = .box E x) (hl : zDU (cpO M x) = some l0) (hl' : l0 = l) (hd : op.dst = some d) (hok : okD N pins S d = true) (hj : Nat.blt (j + 1) OB = true) (hfree : M (OB + j) = .free) :
  OpH P pins N op S (app S [(OB + j, .box l), (d, .t (.ptr j 0))]) := by
 subst hl'
 refine .lo2 hj hok fun hN hlo => ?_
 refine ok_lmk hd (yM hN hok) (qX hN hok) (zJ4 hM hfree) fun w0 m0 o0 G a w m o I => ?_
 obtain ⟨k1, k2, k3⟩ := zDW hl (qS hM.hx I x 0)
 refine ⟨_, (a.eval x).cells, E, ?_, by simpa using Nat.le_of_eq k1.symm, fun i x hx => ?_, rfl⟩
 ·
  unfold execOp
  rw [hop]
  simp [Instr.box, newVar, newRow]
 ·
  obtain ⟨q1, u, q2, q3⟩ := k3 i x hx
  exact ⟨zEB hl x (List.mem_of_getElem? hx), u, by simpa using q2, q3 _ _ (zB2.refl w)⟩
theorem zK3 {n : Nat} {l0 h0 : Option Int} {kl kh : Int → IntKind} (hc : 0 ≤ l0.getD 0 ∧ l0.getD 0 ≤ h0.getD n ∧ h0.getD n ≤ n) :
    (Instr.sliceBounds false n n (l0.map fun z => .int (kl z) z) (h0.map fun z => .int (kh z) z) none).run P w = .ok ((l0.getD 0).toNat, (h0.getD n).toNat, n) w := by
  have hlo2 : (l0.map Int.toNat).getD 0 = (l0.getD 0).toNat := by cases l0 <;> rfl
  have hhi2 : (h0.map Int.toNat).getD n = (h0.getD n).toNat := by cases h0 <;> simp
  rw [← hlo2, ← hhi2]
  unfold Instr.sliceBounds
  cases l0 <;> cases h0 <;> simp only [Option.getD_none, Option.getD_some, Option.map_none, Option.map_some, Option.isSome_none, Option.isSome_some] at hc ⊢ <;>
    (simp only [Sem.run_bind, Sem.run_pure, Result.andThen_ok]
     repeat (rw [zBD (by omega) (by omega), Result.andThen_ok]))
theorem sla_run {t n e g off : Nat} {ie : TypeInfo} {l0 h0 : Option Int} {kl kh : Int → IntKind} (hu : P.underlying t = some (.array n e)) (hie : P.info? e = some ie) (hc : 0 ≤ l0.getD 0 ∧ l0.getD 0 ≤ h0.getD n ∧ h0.getD n ≤ n) :
  (Instr.sliceAt t (.pointer (some ⟨g, off, none⟩)) (l0.map fun z => .int (kl z) z) (h0.map fun z => .int (kh z) z) none).run P w = .ok (.slice (some (if n = (l0.getD 0).toNat then ⟨g, off, none⟩ else ⟨g, off + (l0.getD 0).toNat * ie.size, none⟩)) ((h0.getD n).toNat - (l0.getD 0).toNat) (n - (l0.getD 0).toNat)) w := by
 unfold Instr.sliceAt
 simp only [Sem.run_bind, run_underlying hu, Result.andThen_ok]
 rw [show (Instr.sureAddr (.pointer (some ⟨g, off, none⟩))).run P w = .ok ⟨g, off, none⟩ w from rfl, Result.andThen_ok, zK3 hc]
 simp [sizeOf, typeInfo, hie, Addr.add_mid]
theorem ok_sla {j off n t e : Nat} {x : Operand} {lo hi : Option Operand} {l0 h0 : Option Int} {ie : TypeInfo} {l : List T} (hM : Mk M S) (hop : op.op = .slice t x lo hi none) (hx : ∀ {w0 m0 o0 G a w m o}, Inv w0 m0 o0 G pins S a w m o → ∃ g, o g = some (OB + j, 0) ∧ a.eval x = .pointer (some ⟨g, off, none⟩)) (hb : S (OB + j) = .box l) (hlo : bndO M lo = some l0) (hhi : bndO M hi = some h0) (hu : P.underlying t = some (.array n e)) (hie : P.info? e = some ie)
  (hle : off + n * ie.size ≤ l.length) (hn : n ≤ 65536) (hc : 0 ≤ l0.getD 0 ∧ l0.getD 0 ≤ h0.getD n ∧ h0.getD n ≤ n) (hd : op.dst = some d) (hok : okD N pins S d = true) :
  OpOK P pins N op S (upd S d (.t (.view j (off + (l0.getD 0).toNat * ie.size) 0 ie.size ((h0.getD n).toNat - (l0.getD 0).toNat)))) := by
 refine zW fun w0 m0 o0 G a w m o hN I => ?_
 obtain ⟨h1, h2, h3⟩ := qH hok
 obtain ⟨g, k1, k2⟩ := hx I
 have hs := I.slots (OB + j)
 rw [hb] at hs
 obtain ⟨g', _, q1, q2, cs, E, q3, q4, q5⟩ := hs
 have := I.inj _ _ _ k1 q1
 subst this
 obtain ⟨kl, e1⟩ := zDa hM I hlo
 obtain ⟨kh, e2⟩ := zDa hM I hhi
 refine ⟨.slice (some (if n = (l0.getD 0).toNat then ⟨g, off, none⟩ else ⟨g, off + (l0.getD 0).toNat * ie.size, none⟩)) ((h0.getD n).toNat - (l0.getD 0).toNat) (n - (l0.getD 0).toNat), w, m, o, ?_, ?_⟩
 ·
  unfold execOp
  rw [hop]
  simp only [Sem.run_bind]
  rw [e1, e2, k2]
  show Result.andThen (Sem.run P (Instr.sliceAt t _ _ _ none) w) _ = _
  rw [sla_run hu hie hc]
  rfl
 ·
  rw [hd]
  refine I.set d _ _ (by omega) h2 ?_
  refine ⟨_, n - (l0.getD 0).toNat, by omega, by unfold maxLen; omega, rfl, ?_⟩
  by_cases hz : n = (l0.getD 0).toNat
  · exact .inl (by omega)
  ·
   refine .inr ⟨g, cs, E, k1, by rw [if_neg hz], q3, ?_, .inl rfl⟩
   have : (l0.getD 0).toNat * ie.size + (n - (l0.getD 0).toNat) * ie.size = n * ie.size := by rw [← Nat.add_mul]; congr 1; omega
   omega
theorem h_sla (hM : Mk M S) {j off n t e : Nat} {x : Operand} {lo hi : Option Operand} {l0 h0 : Option Int} {ie : TypeInfo} {l : List T} {y : T} (hop : op.op = .slice t x lo hi none) (hx : cpO M x = .ref (OB + j) off) (hb : M (OB + j) = .box l) (hlo : bndO M lo = some l0) (hhi : bndO M hi = some h0) (hu : P.underlying t = some (.array n e)) (hie : P.info? e = some ie)
  (hle : Nat.ble (off + n * ie.size) l.length = true) (hn : Nat.ble n 65536 = true) (hc : 0 ≤ l0.getD 0 ∧ l0.getD 0 ≤ h0.getD n ∧ h0.getD n ≤ n) (hy : T.view j (off + (l0.getD 0).toNat * ie.size) 0 ie.size ((h0.getD n).toNat - (l0.getD 0).toNat) = y) (hd : op.dst = some d) (hok : okD N pins S d = true) : OpH P pins N op S (app S [(d, .t y)]) := by
 subst hy
 refine .of (e := [(d, _)]) fun hN => ⟨ok_sla hM.hx hop (fun {w0 m0 o0 G a w m o} I => ?_) (zJh hM hb) hlo hhi hu hie (by simpa using hle) (by simpa using hn) hc hd (yM hN hok), zB3 (qX hN hok)⟩
 have h := qS hM.hx I x 0
 rw [hx] at h
 obtain ⟨g, h1, h2, _⟩ := h
 exact ⟨g, h1, h2⟩
theorem h_slah (hM : Mk M S) (hk : S HK = .hp f) {off n t e : Nat} {x : Operand} {lo hi : Option Operand} {l0 h0 : Option Int} {ie : TypeInfo} {l : List T} {y : T} (hop : op.op = .slice t x lo hi none) (hx : cpO M x = .t (.hpt c off)) (hb : f c = .box l) (hlo : bndO M lo = some l0) (hhi : bndO M hi = some h0) (hu : P.underlying t = some (.array n e)) (hie : P.info? e = some ie)
  (hle : off + n * ie.size ≤ l.length) (hn : Nat.ble n 65536 = true) (hc : 0 ≤ l0.getD 0 ∧ l0.getD 0 ≤ h0.getD n ∧ h0.getD n ≤ n) (hy : T.hvw c (off + (l0.getD 0).toNat * ie.size) 0 ie.size ((h0.getD n).toNat - (l0.getD 0).toNat) = y) (hd : op.dst = some d) (hok : okD N pins S d = true) : OpH P pins N op S (app S [(d, .t y)]) := by
 subst hy
 refine .of' (e := [(d, _)]) fun hN hl => ⟨(ok_sla (j := OB + c) (d := d) hM.hx hop (fun {w0 m0 o0 G a w m o} I => ?_) (zFx hl hk hb) hlo hhi hu hie hle (by simpa using hn) hc hd (yM hN hok)).post fun w0 m0 o0 G a w m o I => ?_, zB3 (qX hN hok)⟩
 ·
  have h := qS hM.hx I x 0
  rw [hx] at h
  obtain ⟨g, h1, h2⟩ := h
  exact ⟨g, h1, h2⟩
 ·
  have h := I.slots d
  rw [zY] at h
  have J := I.tell d (.t (.hvw c (off + (l0.getD 0).toNat * ie.size) 0 ie.size ((h0.getD n).toNat - (l0.getD 0).toNat))) (by rw [zY]; rfl) h
  rw [zHO] at J
  exact J
theorem Inv.box_spl (I : Inv w0 m0 o0 G pins S a w m o) {b g off E : Nat} {l : List T} {cs : Array Value} {q : List D} {vs : List Value} (hb : S b = .box l) (h1 : o g = some (b, 0)) (h4 : w.heap[g]? = some (.cells cs E (0, 0))) (hlc : l.length ≤ cs.size) (h6 : ∀ (j : Nat) (x : T), l[j]? = some x → x.isAgg = false ∧ ∃ u, cs[j]? = some u ∧ RepT m w o (b, j + 1) x u)
  (hv : RepL m q vs) (hle : off + q.length ≤ l.length) : Inv w0 m0 o0 G pins (upd S b (.box (yA l off (q.map .d)))) a (w.setRow g (yA cs.toList off vs).toArray) m o := by
 have hvl := hv.1
 have hsp : (yA cs.toList off vs).length = cs.toList.length := zA5 cs.toList off vs (by simp only [Array.length_toList]; omega)
 have hss : (yA cs.toList off vs).toArray.size = cs.size := by simpa using hsp
 refine I.box_put hb h1 h4 (cs' := (yA cs.toList off vs).toArray) hss o (fun _ => False) (fun s h => h.elim) (fun g l h _ _ => h) h1 (fun g l h => ⟨l, h⟩) I.inj (fun g l l' h h' k => by rw [h] at h'; injection h' with h'; rw [h']; exact k) ?_ (fun j z hj => ?_)
 · exact zA5 l off _ (by rw [List.length_map]; omega)
 ·
  have hcs2 : (yA cs.toList off vs).toArray[j]? = (yA cs.toList off vs)[j]? := by simp
  rw [hcs2, zCf cs.toList off vs (by simp only [Array.length_toList]; omega)]
  rw [zCf l off _ (by rw [List.length_map]; omega), List.length_map] at hj
  rw [hvl]
  split at hj
  ·
   rename_i hjo
   rw [if_pos hjo]
   rw [List.getElem?_map] at hj
   cases hq : q[j - off]? with
   | none => rw [hq] at hj; cases hj
   | some dd =>
    rw [hq] at hj
    injection hj with hj
    subst hj
    obtain ⟨u, k1, k2⟩ := hv.2 _ dd hq
    exact ⟨rfl, u, k1, k2⟩
  ·
   rename_i hjo
   rw [if_neg hjo]
   obtain ⟨k0, u, k1, k2⟩ := h6 j z hj
   exact ⟨k0, u, by simpa using k1, zHy h1 h4 hss (by intro e; injection e with _ e; omega) k0 k2⟩
theorem run_copy0 {t t' e ty : Nat} {ie : TypeInfo} {A1 A2 : Option Addr} {n1 c1 n2 c2 : Nat} (hu : P.underlying t = some (.slice e)) (hie : P.info? e = some ie) (h0 : min n2 n1 = 0) :
  (Builtin.copy_ #[t, t'] ty #[.slice A1 n1 c1, .slice A2 n2 c2]).run P w = .ok (goInt 0) w := by
 have h0' : Nat.min n2 n1 = 0 := h0
 cases A1 with
 | none => cases A2 with
  | none => simp [Builtin.copy_, run_underlying hu, Builtin.lenOf, Builtin.firstCells, sizeOf, typeInfo, hie, h0', storeCells]
  | some a2 =>
   have := run_loadCells_list (P := P) w a2 [] (fun j v h => by simp at h)
   simp only [List.length_nil] at this
   simp [Builtin.copy_, run_underlying hu, Builtin.lenOf, Builtin.firstCells, sizeOf, typeInfo, hie, h0', storeCells, this]
 | some a1 => cases A2 with
  | none => simp [Builtin.copy_, run_underlying hu, Builtin.lenOf, Builtin.firstCells, sizeOf, typeInfo, hie, h0', storeCells]
  | some a2 =>
   have := run_loadCells_list (P := P) w a2 [] (fun j v h => by simp at h)
   simp only [List.length_nil] at this
   simp [Builtin.copy_, run_underlying hu, Builtin.lenOf, Builtin.firstCells, sizeOf, typeInfo, hie, h0', storeCells, this]
theorem flat1 : ∀ {rs : List (List D)}, (∀ r ∈ rs, r.length = 1) → (rs.flatMap id).length = rs.length
 | rs, h => by rw [zFT h, Nat.mul_one]
theorem zLH {α : Type} (l : List α) (off : Nat) : yA l off [] = l := by
 unfold yA
 simp
theorem ok_cpy (hM : Mk M S) {j off E n t t' e : Nat} {x y : Operand} {ie : TypeInfo} {l : List T} {l' : List (List D)} (hop : op.op = .call { callee := .builtin .copy, args := #[x, y], argTypes := #[t, t'] }) (hu : P.underlying t = some (.slice e)) (hie : P.info? e = some ie) (hs1 : ie.size = 1) (hx : ∀ {w0 m0 o0 G a w m o}, Inv w0 m0 o0 G pins S a w m o → RepT m w o (0, 0) (.view j off E 1 n) (a.eval x)) (hb : S (OB + j) = .box l) (hy : slD 1 (dO M y) = some l') (hr1 : ∀ r ∈ l', r.length = 1) (hle : off + n ≤ l.length) (hd : op.dst = some d) (hok : okD N pins S d = true) (hdO : d < OB) :
  OpOK P pins N op S (app S [(OB + j, .box (yA l off (((l'.take n).flatMap id).map .d))), (d, .t (.d (.lit (.int .i64 ((min l'.length n : Nat) : Int)))))]) := by
 refine zW fun w0 m0 o0 G a w m o hN I => ?_
 obtain ⟨h1, h2, h3⟩ := qH hok
 have hv' : RepD m (.seq 1 l') (a.eval y) := zGO hy fun d hd => zEX hM I hd
 obtain ⟨A2, c2, xs, hyv, _, _, hrows, hone, hmx⟩ := hv'.rows
 obtain ⟨A1, c1, k1, k2, hxv, k4⟩ := hx I
 have hxl : xs.length = l'.length := by have := hrows.1; omega
 have hbox2 : ∀ x, (upd S (OB + j) x d).isBox = false := fun x => by rw [zK (by omega)]; exact h2
 by_cases h0 : min l'.length n = 0
 ·
  have he : (l'.take n).flatMap id = [] := by
   have : (l'.take n).length = 0 := by rw [List.length_take]; omega
   rw [List.eq_nil_of_length_eq_zero this]
   rfl
  refine ⟨goInt 0, w, m, o, ?_, ?_⟩
  ·
   unfold execOp
   rw [hop]
   simp only [resolve, invoke, builtin, Sem.run_bind, Sem.run_pure, Result.andThen_ok, List.map_toArray, List.map_cons, List.map_nil]
   rw [hxv, hyv, run_copy0 hu hie h0]
   rfl
  ·
   rw [hd, he, h0]
   show Inv w0 m0 o0 G pins (upd (upd S (OB + j) (.box (yA l off []))) d _) _ w m o
   rw [zLH]
   have e1 : upd S (OB + j) (.box l) = S := by
    funext s
    unfold upd
    split
    · rename_i e; rw [e, hb]
    · rfl
   rw [e1]
   exact I.set d _ _ (by omega) h2 (.lit _ rfl)
 ·
  obtain ⟨g, cs, E', q1, q2, q3, q4, _⟩ := k4.resolve_left fun e => by omega
  clear k4
  subst q2
  have hs := I.slots (OB + j)
  rw [hb] at hs
  obtain ⟨g', _, p1, p2, cs', E2, p3, p4, p5⟩ := hs
  have := I.inj _ _ _ q1 p1
  subst this
  rw [q3] at p3
  injection p3 with p3
  injection p3 with p3 p6
  subst p3 p6
  have hlen : (xs.take (min l'.length n)).length = Nat.min l'.length n := by
   rw [List.length_take, hxl]
   show min (min l'.length n) l'.length = min l'.length n
   omega
  have hp2 : 0 < xs.length := by rw [hxl]; exact Nat.lt_of_lt_of_le (Nat.pos_of_ne_zero h0) (Nat.min_le_left _ _)
  have hx0 : ∃ u, xs[0]? = some u := ⟨_, List.getElem?_eq_getElem hp2⟩
  obtain ⟨u0, hu0⟩ := hx0
  obtain ⟨g2, o2, rfl, _⟩ := hmx 0 u0 hu0
  have hrun := run_copy_row P w t t' op.type e g off n c1 ⟨g2, o2, none⟩ l'.length c2 cs E' (xs.take (min l'.length n)) hu (by rw [hie, ← hs1]; rfl) q3 hlen (fun q v hq => by
   rw [List.getElem?_take] at hq
   split at hq
   ·
    obtain ⟨g3, o3, e3, hm3⟩ := hmx q v hq
    injection e3 with e3
    injection e3 with e3 e4
    subst e3 e4
    rw [Addr.add_mid]
    exact I.sat _ _ _ hm3
   · cases hq) (by rw [hlen]; show off + min l'.length n ≤ cs.size; omega) (fun v hv => hone v (List.mem_of_mem_take hv))
  have hwt : ∀ r ∈ l'.take n, r.length = 1 := fun r hr => hr1 r (List.mem_of_mem_take hr)
  have hql : ((l'.take n).flatMap id).length = min l'.length n := by rw [flat1 hwt, List.length_take, Nat.min_comm]
  have hrep : RepL m ((l'.take n).flatMap id) (xs.take (min l'.length n)) := by
   refine ⟨by rw [hlen, hql], fun q dd hq => ?_⟩
   have hlt : q < min l'.length n := by rw [← hql]; exact (List.getElem?_eq_some_iff.1 hq).1
   obtain ⟨r, hr⟩ : ∃ r, l'[q]? = some r := ⟨_, List.getElem?_eq_getElem (by omega)⟩
   have hrt : (l'.take n)[q]? = some r := by rw [List.getElem?_take, if_pos (by omega)]; exact hr
   have h5 := zD1 hwt hrt (q := 0) (by omega)
   rw [Nat.mul_one, Nat.add_zero, hq] at h5
   obtain ⟨u, z1, z2⟩ := hrows.2.2 q r 0 dd hr h5.symm
   rw [Nat.mul_one, Nat.add_zero] at z1
   exact ⟨u, by rw [List.getElem?_take, if_pos hlt]; exact z1, z2⟩
  have J := I.box_spl (off := off) hb q1 q3 p4 p5 hrep (by rw [hql]; omega)
  refine ⟨goInt (xs.take (min l'.length n)).length, w.setRow g (yA cs.toList off (xs.take (min l'.length n))).toArray, m, o, ?_, ?_⟩
  ·
   unfold execOp
   rw [hop]
   simp only [resolve, invoke, builtin, Sem.run_bind, Sem.run_pure, Result.andThen_ok, List.map_toArray, List.map_cons, List.map_nil]
   rw [hxv, hyv, hrun]
   rfl
  ·
   rw [hd]
   have J2 := J.set d (.t (.d (.lit (.int .i64 ((min l'.length n : Nat) : Int))))) (goInt (xs.take (min l'.length n)).length) (by omega) (hbox2 _) (by rw [hlen]; exact RepD.lit _ rfl)
   exact J2
theorem h_cpy {α : Type} {cc : α → List D} {xl yl v : List α} (hM : Mk M S) {j off E n t t' e : Nat} {x y : Operand} {ie : TypeInfo} (hop : op.op = .call { callee := .builtin .copy, args := ⟨[x, y]⟩, argTypes := ⟨[t, t']⟩ }) (hu : P.underlying t = some (.slice e)) (hie : P.info? e = some ie) (hs1 : ie.size = 1) (hx : cpO M x = .t (.view j off E 1 n)) (hb : M (OB + j) = .box (fl (dT cc) xl)) (hc : ∀ a, (cc a).length = 1) (hy : slD 1 (dO M y) = some (yl.map cc)) (hv : cpyI xl off n yl = some v) (hj : Nat.blt (j + 1) OB = true) (hd : op.dst = some d) (hok : okD N pins S d = true) :
  OpH P pins N op S (app S [(OB + j, .box (fl (dT cc) v)), (d, .t (.d (.lit (.int .i64 ((min yl.length n : Nat) : Int)))))]) := by
 obtain ⟨h1, rfl⟩ := cpyI_iff hv
 refine .lo2 hj hok fun hN hlo => ?_
 rw [← cpy_row hc]
 have := ok_cpy (j := j) (off := off) (E := E) (n := n) (l := fl (dT cc) xl) (l' := yl.map cc) hM.hx hop hu hie hs1 (fun {w0 m0 o0 G a w m o} I => by
  have h := qS hM.hx I x 0
  rw [hx] at h
  exact h) (zJh hM hb) hy (fun r hr => by obtain ⟨a, _, rfl⟩ := List.mem_map.1 hr; exact hc a) (by rw [zF7 (zEV hc)]; omega) hd (yM hN hok) (qX hN hok)
 rw [List.length_map] at this
 exact this
theorem h_cpyh (hM : Mk M S) (hk : S HK = .hp f) {off E n t t' e : Nat} {x y : Operand} {ie : TypeInfo} {l : List T} {l' : List (List D)} {l2 : List T} {z : Int} (hop : op.op = .call { callee := .builtin .copy, args := ⟨[x, y]⟩, argTypes := ⟨[t, t']⟩ }) (hu : P.underlying t = some (.slice e)) (hie : P.info? e = some ie) (hs1 : ie.size = 1) (hx : cpO M x = .t (.hvw c off E 1 n)) (hb : f c = .box l) (hy : slD 1 (dO M y) = some l') (hr1 : ∀ r ∈ l', r.length = 1) (hle : off + n ≤ l.length) (hl2 : yA l off (((l'.take n).flatMap id).map .d) = l2) (hz : ((min l'.length n : Nat) : Int) = z) (hf' : f' = updF f c (.box l2)) (hd : op.dst = some d) (hok : okD N pins S d = true) :
  OpH P pins N op S (app S [(HK, .hp f'), (d, .t (.d (.lit (.int .i64 z))))]) := by
 subst hl2 hz
 refine h_mk hk hf' hok fun hN hlo => ?_
 exact ok_cpy (j := OB + c) hM.hx hop hu hie hs1 (fun {w0 m0 o0 G a w m o} I => by
  have h := qS hM.hx I x 0
  rw [hx] at h
  exact h) (zFx hlo hk hb) hy hr1 hle hd (yM hN hok) (qX hN hok)
end
section
variable {P : Program} {pins : List Nat} {N : Nat} {l0 : List Oper} {Q : SL → Prop} {r : List Oper} {op : Oper} {L : SL} {acc : List (List Nat × List Nat)} {T : List Nat}
theorem d_h0 (X : List Nat) {e : Eff} {ks : List Nat} {L' : SL} (hT : zC6 (X ++ zDS l0.toArray (gt L) op) some = some T) (hy : dyes l0 op L T) (hks : keys e = ks) (hk : ks.all T.contains = true)
  (h : ∀ S', Mk (mask T (gt L)) S' → (∀ d, T.contains d = true → okD N pins (gt L) d = true → okD N pins S' d = true) → OpH P pins N op S' (app S' e)) (hL : setL L e = L') (k : DOK P pins N l0 Q r ((T, ks) :: acc) L') : DOK P pins N l0 Q (op :: r) acc L := by
 have hT := zFh hT
 subst hL hks
 have h' : ∀ S', (∀ t ∈ T, S' t = gt L t) → OpH P pins N op S' (app S' e) := fun S' hS => h S' (zFP hS) fun d hd hok => by
  unfold okD at hok ⊢
  rw [hS d (by simpa using hd)]
  exact hok
 refine ⟨T, e, ⟨all_T hk, ?_⟩, k⟩
 rcases hy with hg | ⟨j, want, t, c, h1, h2, h3, h4, h5⟩
 · exact .inl ⟨hg, h'⟩
 · exact .inr ⟨j, want, t, h1, h2, by simpa using h3, .inl ⟨by rw [h4, h5], h'⟩⟩
end
end Go.Proofs.YtjomnccladjpgaaGreat

/-
 Several steps at once: moves, checks and fields of the heap's objects; what is passed by.
-/
namespace Go.Proofs.YtjomnccladjpgaaGreat
open Go Go.RowKit
set_option linter.unusedVariables false
abbrev A.p (c o : Nat) : A := .t (.hpt c o)
theorem pq {M : Nat → A} {s t i : Nat} {p : Option Nat} (h : M s = .t (ptT t p)) (e : p = some i) : cpO M (.tmp s) = .t (.hpt (cd t i) 0) := (zI h).trans (qM e)
theorem gt_hd (L : SL) (d : Nat) (x : A) : gt ((d, x) :: L) d = x := by simp [gt]
theorem cpO_hd {L : SL} {d c o : Nat} : cpO (gt ((d, .t (.hpt c o)) :: L)) (.tmp d) = .t (.hpt c o) := by
 unfold cpO
 simp only [gt_hd]
 rfl
section
variable {P : Program} {pins : List Nat} {N : Nat} {ops : Array Oper} {Q : SL → Prop} {r : List Oper} {op p1 p2 p3 p4 : Oper} {L : SL}
theorem o_mv {d : Nat} {x : Operand} {y : A} (h : (op.guard, op.op, op.dst, okD N pins (gt L) d) = (none, .move x, some d, true)) (hx : cpO (gt L) x = y) (k : yG P pins N ops Q r ((d, y) :: L)) : yG P pins N ops Q (op :: r) L := by
 simp only [Prod.mk.injEq] at h
 obtain ⟨h1, h2, h3, h4⟩ := h
 exact o_of (e := [(d, y)]) (g0 h1) (h_mv mR (.inl h2) hx h3 h4) rfl k
theorem o_nf {d1 d2 c off t i m : Nat} {x : Operand} (n : Nat) (h : (p1.guard, p1.op, p1.dst, p2.guard, p2.op, p2.dst) = (none, .nilCheck x, some d1, none, .fieldAddr t (.tmp d1) i, some d2)) (hx : cpO (gt L) x = .t (.hpt c off)) (h2 : (okD N pins (gt L) d1, okD N pins (gt ((d1, .t (.hpt c off)) :: L)) d2, fdH P t i, off + m) = (true, true, some m, n)) (k : yG P pins N ops Q r ((d2, .t (.hpt c n)) :: (d1, .t (.hpt c off)) :: L)) : yG P pins N ops Q (p1 :: p2 :: r) L := by
 simp only [Prod.mk.injEq] at h h2
 obtain ⟨a1, a2, a3, a4, a5, a6⟩ := h
 obtain ⟨b1, b2, b3, rfl⟩ := h2
 refine o_of (e := [(d1, .t (.hpt c off))]) (g0 a1) (h_nc mR a2 hx rfl a3 b1) rfl ?_
 exact o_of (e := [(d2, .t (.hpt c (off + m)))]) (g0 a4) (h_fd mR a5 cpO_hd b3 rfl a6 b2) rfl k
theorem o_f3 {d1 d2 d3 c off t i m : Nat} {x : Operand} (n : Nat) (h : (p1.guard, p1.op, p1.dst, p2.guard, p2.op, p2.dst, p3.guard, p3.op, p3.dst) = (none, .move x, some d1, none, .nilCheck (.tmp d1), some d2, none, .fieldAddr t (.tmp d2) i, some d3)) (hx : cpO (gt L) x = .t (.hpt c off)) (h2 : (okD N pins (gt L) d1, okD N pins (gt ((d1, .t (.hpt c off)) :: L)) d2, okD N pins (gt ((d2, .t (.hpt c off)) :: (d1, .t (.hpt c off)) :: L)) d3, fdH P t i, off + m) = (true, true, true, some m, n)) (k : yG P pins N ops Q r ((d3, .t (.hpt c n)) :: (d2, .t (.hpt c off)) :: (d1, .t (.hpt c off)) :: L)) : yG P pins N ops Q (p1 :: p2 :: p3 :: r) L := by
 simp only [Prod.mk.injEq] at h h2
 obtain ⟨a1, a2, a3, a4, a5, a6, a7, a8, a9⟩ := h
 obtain ⟨b1, b2, b3, b4, rfl⟩ := h2
 refine o_mv (by rw [a1, a2, a3, b1]) hx ?_
 exact o_nf (off + m) (by rw [a4, a5, a6, a7, a8, a9]) cpO_hd (by rw [b2, b3, b4]) k
theorem o_ld {d c off t n : Nat} {x : Operand} {f : Nat → A} {l : List T} {z : T} (y : A) (h : (op.guard, op.op, op.dst) = (none, .load t x, some d)) (hf : f c = .box l) (h2 : (gt L HK, cpO (gt L) x, tyA P t, l[off]?, norH z, okD N pins (gt L) d) = (.hp f, .t (.hpt c off), some (false, n), some z, some y, true)) (k : yG P pins N ops Q r ((d, y) :: L)) : yG P pins N ops Q (op :: r) L := by
 simp only [Prod.mk.injEq] at h h2
 obtain ⟨a1, a2, a3⟩ := h
 obtain ⟨b1, b2, b3, b4, b5, b6⟩ := h2
 exact o_of (e := [(d, y)]) (g0 a1) (h_ld mR b1 a2 b3 b2 hf b4 b5 a3 b6) rfl k
theorem o_k1 {j t d : Nat} {c want : Bool} (h : (op.guard, (ops[j]?).bind (·.dst), gt L t, op.dst, okD N pins (gt L) d) = (some (j, want), some t, .t (.d (.lit (.bool c))), some d, true)) (hw : c = !want) (k : yG P pins N ops Q r ((d, .tup []) :: L)) : yG P pins N ops Q (op :: r) L := by
 simp only [Prod.mk.injEq] at h
 obtain ⟨a1, a2, a3, a4, a5⟩ := h
 exact o_skip a1 a2 a3 hw a4 a5 k
end
section
variable {P : Program} {pins : List Nat} {N : Nat} {l0 : List Oper} {Q : SL → Prop} {r : List Oper} {op p1 p2 p3 : Oper} {L : SL} {acc : List (List Nat × List Nat)} {T T1 T2 T3 : List Nat}
theorem d_1 {d : Nat} (x : A) (hT : zC6 (zDS l0.toArray (gt L) op) some = some T) (h : (op.guard, op.dst, T.contains d, okD N pins (gt L) d, opF P pins false (mask T (gt L)) d op.op) = (none, some d, true, true, some (True, [(d, x)]))) (k : DOK P pins N l0 Q r ((T, [d]) :: acc) ((d, x) :: L)) : DOK P pins N l0 Q (op :: r) acc L := by
 simp only [Prod.mk.injEq] at h
 obtain ⟨a1, a2, a3, a4, a5⟩ := h
 exact d_s x hT (dg0 a1) a2 a3 a4 a5 k
theorem d_mv {d : Nat} {x : Operand} {y : A} (hT : zC6 (zDS l0.toArray (gt L) op) some = some T) (h : (op.guard, op.op, op.dst, T.contains d, okD N pins (gt L) d) = (none, .move x, some d, true, true)) (hx : cpO (mask T (gt L)) x = y) (k : DOK P pins N l0 Q r ((T, [d]) :: acc) ((d, y) :: L)) : DOK P pins N l0 Q (op :: r) acc L := by
 simp only [Prod.mk.injEq] at h
 obtain ⟨a1, a2, a3, a4, a5⟩ := h
 exact d_h0 [] (e := [(d, y)]) (ks := [d]) hT (dg0 a1) rfl (by simp only [List.all_cons, List.all_nil, a4]; rfl) (fun S' hM hok => h_mv hM (.inl a2) hx a3 (hok _ a4 a5)) rfl k
theorem d_nc {d c off : Nat} {x : Operand} (hT : zC6 (zDS l0.toArray (gt L) op) some = some T) (h : (op.guard, op.op, op.dst, T.contains d, okD N pins (gt L) d) = (none, .nilCheck x, some d, true, true)) (hx : cpO (mask T (gt L)) x = .t (.hpt c off)) (k : DOK P pins N l0 Q r ((T, [d]) :: acc) ((d, .t (.hpt c off)) :: L)) : DOK P pins N l0 Q (op :: r) acc L := by
 simp only [Prod.mk.injEq] at h
 obtain ⟨a1, a2, a3, a4, a5⟩ := h
 exact d_h0 [] (e := [(d, .t (.hpt c off))]) (ks := [d]) hT (dg0 a1) rfl (by simp only [List.all_cons, List.all_nil, a4]; rfl) (fun S' hM hok => h_nc hM a2 hx rfl a3 (hok _ a4 a5)) rfl k
theorem d_fd {d c off t i m : Nat} {x : Operand} (n : Nat) (hT : zC6 (zDS l0.toArray (gt L) op) some = some T) (h : (op.guard, op.op, op.dst, T.contains d, okD N pins (gt L) d) = (none, .fieldAddr t x i, some d, true, true)) (h2 : (cpO (mask T (gt L)) x, fdH P t i, off + m) = (.t (.hpt c off), some m, n)) (k : DOK P pins N l0 Q r ((T, [d]) :: acc) ((d, .t (.hpt c n)) :: L)) : DOK P pins N l0 Q (op :: r) acc L := by
 simp only [Prod.mk.injEq] at h h2
 obtain ⟨a1, a2, a3, a4, a5⟩ := h
 obtain ⟨b1, b2, rfl⟩ := h2
 exact d_h0 [] (e := [(d, .t (.hpt c (off + m)))]) (ks := [d]) hT (dg0 a1) rfl (by simp only [List.all_cons, List.all_nil, a4]; rfl) (fun S' hM hok => h_fd hM a2 b1 b2 rfl a3 (hok _ a4 a5)) rfl k
theorem d_ld {d c off t n : Nat} {x : Operand} {f : Nat → A} {l : List _root_.Go.Proofs.YtjomnccladjpgaaGreat.T} {z : _root_.Go.Proofs.YtjomnccladjpgaaGreat.T} (y : A) (hT : zC6 (HK :: zDS l0.toArray (gt L) op) some = some T) (h : (op.guard, op.op, op.dst, T.contains d, okD N pins (gt L) d) = (none, .load t x, some d, true, true)) (hf : f c = .box l) (h2 : (gt L HK, cpO (mask T (gt L)) x, tyA P t, l[off]?, norH z) = (.hp f, .t (.hpt c off), some (false, n), some z, some y)) (k : DOK P pins N l0 Q r ((T, [d]) :: acc) ((d, y) :: L)) : DOK P pins N l0 Q (op :: r) acc L := by
 simp only [Prod.mk.injEq] at h h2
 obtain ⟨a1, a2, a3, a4, a5⟩ := h
 obtain ⟨b1, b2, b3, b4, b5⟩ := h2
 exact d_h (e := [(d, y)]) (ks := [d]) hT (dg0 a1) rfl (by simp only [List.all_cons, List.all_nil, a4]; rfl) (fun S' hM hk hok => h_ld hM (hk.trans b1) a2 b3 b2 hf b4 b5 a3 (hok _ a4 a5)) rfl k
theorem d_k1 {j t d : Nat} {c want : Bool} (hT : zC6 (zDS l0.toArray (gt L) op) some = some T) (h : (op.guard, (l0.toArray[j]?).bind (·.dst), T.contains t, gt L t, op.dst, T.contains d, okD N pins (gt L) d) = (some (j, want), some t, true, .t (.d (.lit (.bool c))), some d, true, true)) (hw : c = !want) (k : DOK P pins N l0 Q r ((T, [d]) :: acc) ((d, .tup []) :: L)) : DOK P pins N l0 Q (op :: r) acc L := by
 simp only [Prod.mk.injEq] at h
 obtain ⟨a1, a2, a3, a4, a5, a6, a7⟩ := h
 exact d_skip a1 a2 hT a3 a4 hw a5 a6 a7 k
end
end Go.Proofs.YtjomnccladjpgaaGreat
