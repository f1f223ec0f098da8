/-
  Texts joined: see the remark at the head of each part.
-/
import Derived.Test.YtmgafkpkpmjieaaDoorM07
import Derived.Laws.CopyRow
import Derived.Test.YtmgafkpkpmjieaaDoorM06
import Derived.Test.YtmgafkpkpmjieaaDoorM05
import Derived.Test.YtmgafkpkpmjieaaDoorM00
import Derived.Test.YtmgafkpkpmjieaaDoorM04
import Derived.Test.YtmgafkpkpmjieaaDoorProg
set_option linter.unusedVariables false
set_option linter.unusedSimpArgs false
/-
 Slices that grow and are written: an object that need not be there while the slice is empty.
-/
namespace Go.Proofs.YtmgafkpkpmjieaaDoor
open Go Go.RowKit
set_option linter.unusedVariables false
def gbA {α : Type} (c : α → List D) : List α → A
 | [] => .free
 | a :: l => .box (fl (dT c) (a :: l))
theorem gb_ne {α : Type} {c : α → List D} {y : List α} (h : y ≠ []) : gbA c y = .box (fl (dT c) y) := by
 cases y with
 | nil => exact absurd rfl h
 | cons a l => rfl
theorem zG8 {α : Type} {c : α → List D} {y : List α} {z : Int} {a : α} (h : idx y z = some a) : gbA c y = .box (fl (dT c) y) := gb_ne fun e => by
 have := (zDu h).2.2
 rw [e] at this
 simp at this
theorem zGc {α : Type} (c : α → List D) (y : List α) (j : Nat) : zBl j (gbA c y) = false := by
 cases y with
 | nil => rfl
 | cons a l => exact zD4 (zDD c _) j
theorem zCR {L0 : SL} : zCX L0 [] = true := rfl
theorem yM {L0 : SL} {s : Nat} {x : A} {r : SL} (h : (match x with | .ref b _ => (gt L0 b).isBox | _ => true) = true) (hr : zCX L0 r = true) : zCX L0 ((s, x) :: r) = true := by
 unfold zCX
 rw [Bool.and_eq_true]
 exact ⟨h, hr⟩
theorem zEP {α : Type} (L0 : SL) (c : α → List D) (y : List α) : (match gbA c y with | .ref b _ => (gt L0 b).isBox | _ => true) = true := by cases y <;> rfl
theorem zER {L : SL} (h : zCX L L = true) : zE9 L = true := h
def NoM (j : Nat) (ex : List Nat) (L : SL) : Prop := ∀ s, ex.contains s = false → zBl j (gt L s) = false
theorem NoM.nil {j : Nat} {ex : List Nat} : NoM j ex [] := fun _ _ => rfl
theorem NoM.cons {j : Nat} {ex : List Nat} {s : Nat} {x : A} {L : SL} (h : zBl j x = false) (hr : NoM j (s :: ex) L) : NoM j ex ((s, x) :: L) := fun t ht => by
 rw [yN]
 unfold upd
 by_cases e : t = s
 · rw [if_pos e]; exact h
 ·
  rw [if_neg e]
  exact hr t (by rw [List.contains_cons, ht, Bool.or_false]; exact beq_eq_false_iff_ne.2 e)
theorem NoM.skip {j : Nat} {ex : List Nat} {s : Nat} {x : A} {L : SL} (h : ex.contains s = true) (hr : NoM j ex L) : NoM j ex ((s, x) :: L) := fun t ht => by
 rw [yN]
 unfold upd
 by_cases e : t = s
 · rw [e, h] at ht; cases ht
 · rw [if_neg e]; exact hr t ht
theorem zIL (j t : Nat) (p : Option Nat) : zBl j (.t (ptT t p)) = false := by cases p <;> rfl
def anyE (ss : List Nat) : Eff := ss.map fun s => (s, A.any)
theorem zFa (S : Nat → A) : ∀ (ss : List Nat) (t : Nat), app S (anyE ss) t = if ss.contains t then A.any else S t := by
 intro ss
 induction ss generalizing S with
 | nil => intro t; rfl
 | cons s r ih =>
  intro t
  show app (upd S s .any) (anyE r) t = _
  rw [ih]
  by_cases h : r.contains t = true
  · rw [if_pos h, if_pos (by rw [List.contains_cons, h, Bool.or_true])]
  ·
   rw [if_neg h]
   unfold upd
   by_cases e : t = s
   · rw [if_pos e, if_pos (by rw [List.contains_cons, e]; simp)]
   · rw [if_neg e, if_neg (by
     rw [List.contains_cons]
     intro hh
     cases h1 : (t == s) with
     | true => exact e (by simpa using h1)
     | false => rw [h1, Bool.false_or] at hh; exact h hh)]
section
variable {w0 : World} {m0 : Mem} {o0 : OwnM} {G : GD} {pins : List Nat} {S M : Nat → A} {P : Program} {N : Nat} {Q : Exit → SL → Prop} {L : SL} {op : Oper} {d : Nat}
theorem h_nilv {x : Operand} {j E k : Nat} (hop : op.op = .move x ∨ op.op = .assign x) (hx : x = .const (.slice none 0 0)) (hd : op.dst = some d) (hok : okD N pins S d = true) : OpH P pins N op S (app S [(d, .t (.view j 0 E k 0))]) := by
 subst hx
 refine .of (e := [(d, _)]) fun hN => ⟨?_, zB0 (yG hN hok)⟩
 refine zP fun w0 m0 o0 G a w m o hN' I => ?_
 obtain ⟨h1, h2, h3⟩ := qF (yL hN hok)
 refine ⟨.slice none 0 0, w, m, o, ?_, ?_⟩
 ·
  unfold execOp
  rcases hop with e | e <;> (rw [e]; rfl)
 ·
  rw [hd]
  exact I.set d _ _ (by omega) h2 ⟨none, 0, Nat.le_refl _, Nat.zero_le _, rfl, .inl rfl⟩
theorem fl_rows {α : Type} (c : α → List D) (l : List α) : fl (dT c) l = ((l.map c).flatMap id).map T.d := zHU c l
theorem h_apg {α : Type} {c : α → List D} (hM : Mk M S) {j E k nb t : Nat} {x y : Operand} {l l' : List α} {e : Eff} (ss : List Nat) (hop : op.op = .call { callee := .builtin .append, args := ⟨[x, y]⟩, argTypes := ⟨[t, t]⟩ }) (hE : elF P t = some (E, k, nb)) (hxv : cpO M x = .t (.view j 0 E k l.length)) (hb : M (OB + j) = gbA c l) (hc : ∀ a, (c a).length = k)
  (hy : slD k (dO M y) = some (l'.map c)) (hpos : 0 < l'.length) (hbd : (l.length + l'.length) * nb ≤ 140737488355328) (hd : op.dst = some d) (hok : okD N pins S d = true) (hj : (Nat.blt 0 E && Nat.blt (j + 1) OB && !pins.contains (OB + j) && ss.all (fun s => Nat.blt s OB && !(S s).isBox)) = true)
  (hm : ∀ s, ((OB + j) :: ss).contains s = false → zBl j (S s) = false) (hh : S HK = .any ∨ ∃ f, S HK = .hp f ∧ zDy f) (he : anyE ss ++ [(OB + j, gbA c (l ++ l')), (d, .t (.view j 0 E k (l ++ l').length))] = e) : OpH P pins N op S (app S e) := by
 subst he
 intro hN hlo
 simp only [Bool.and_eq_true, Bool.not_eq_true', List.contains_eq_mem, decide_eq_false_iff_not] at hj
 obtain ⟨⟨⟨c1, c2⟩, c3⟩, c4⟩ := hj
 obtain ⟨e1, e2, e3⟩ := lo_of c2
 have hdO := yG hN hok
 have hss : ∀ s, ss.contains s = true → s < OB ∧ (S s).isBox = false := fun s hs => by
  have := List.all_eq_true.1 c4 s (by simpa using hs)
  simp only [Bool.and_eq_true, Bool.not_eq_true'] at this
  exact ⟨by simpa using this.1, this.2⟩
 have hne : l ++ l' ≠ [] := fun h => by
  have := (List.append_eq_nil_iff.1 h).2
  rw [this] at hpos
  simp at hpos
 have hlow : Low (app S (anyE ss)) := fun t ht => by
  rw [zFa]
  split
  · rfl
  · exact hlo t ht
 have hS' : app S (anyE ss ++ [(OB + j, gbA c (l ++ l')), (d, .t (.view j 0 E k (l ++ l').length))]) = upd (upd (app S (anyE ss)) (OB + j) (gbA c (l ++ l'))) d (.t (.view j 0 E k (l ++ l').length)) := by
  unfold app
  rw [List.foldl_append]
  rfl
 rw [hS']
 refine ⟨?_, (hlow.upd e1).upd (lt2 hdO)⟩
 rw [zCM (lt2 hdO) (by unfold HK; unfold OB at hdO; omega), zCM e1 e2]
 have hk1 : app S (anyE ss) HK = S HK := by
  rw [zFa, if_neg]
  intro h
  have := (hss HK h).1
  unfold HK OB at this
  omega
 have hx1 : ∀ s, hx (app S (anyE ss)) s = hx S s ∨ (hx (app S (anyE ss)) s = .any ∧ (hx S s).isBox = false) := fun s => by
  rcases Nat.lt_or_ge s OB2 with h2 | h2
  ·
   rw [zC9 h2, zC9 h2, zFa]
   split
   · rename_i h; exact .inr ⟨rfl, (hss s h).2⟩
   · exact .inl rfl
  ·
   refine .inl ?_
   unfold hx
   rw [hlow s h2, hlo s h2]
   simp only
   rw [hk1]
 have hm1 : ∀ s, s ≠ OB + j → zBl j (hx (app S (anyE ss)) s) = false := fun s hs => by
  rcases Nat.lt_or_ge s OB2 with h2 | h2
  ·
   rw [zC9 h2, zFa]
   split
   · rfl
   ·
    rename_i h
    refine hm s ?_
    rw [List.contains_cons]
    simp only [Bool.or_eq_false_iff]
    exact ⟨beq_eq_false_iff_ne.2 hs, by simpa using h⟩
  ·
   obtain ⟨k, rfl⟩ : ∃ k, s = OB2 + k := ⟨s - OB2, by omega⟩
   exact zFk hlow (by rw [hk1]; exact hh) k
 rw [gb_ne hne, fl_rows, List.map_append]
 have hlen : (l ++ l').length = (l.map c ++ l'.map c).length := by simp
 rw [hlen]
 have hSb : S (OB + j) = gbA c l := by
  rcases hM (OB + j) with h | h
  ·
   rw [h] at hb
   cases l with
   | nil => cases hb
   | cons a r => cases hb
  · rw [← h, hb]
 cases l with
 | nil =>
  refine ok_apg1 hM.hx hop hd (yL hN hok) hdO hE hxv (zB1 hSb (by intro h; cases h)) hy (by simpa using hpos) (by simpa using hbd) hx1 ?_
  rcases hx1 (OB + j) with h | ⟨h, _⟩
  ·
   rw [h, zB1 hSb (by intro h; cases h)]
   rfl
  ·
   rw [zC9 e1, zFa] at h
   split at h
   ·
    rename_i h2
    have := (hss _ h2).1
    omega
   · rw [hSb] at h; cases h
 | cons a r =>
  refine ok_apg (l := (a :: r).map c) hM.hx hop hd (yL hN hok) hdO hE e3 c3 (by rw [List.length_map]; exact hxv) (zB1 (by rw [hSb, gb_ne (by simp), fl_rows]) (by simp)) (fun q hq => by obtain ⟨b, _, rfl⟩ := List.mem_map.1 hq; exact hc b) hy (by simpa using hpos) (by simpa using hbd) c1 hx1 hm1
theorem NoM.get {j : Nat} {ex : List Nat} (h : NoM j ex L) : ∀ s, ex.contains s = false → zBl j (gt L s) = false := h
theorem h_apgI {α : Type} {c : α → List D} (hM : Mk M S) {j E k nb t : Nat} {x y : Operand} {l l' z : List α} {e : Eff} (ss : List Nat) (hz : appI nb l l' = some z) (hop : op.op = .call { callee := .builtin .append, args := ⟨[x, y]⟩, argTypes := ⟨[t, t]⟩ }) (hE : elF P t = some (E, k, nb)) (hx : cpO M x = .t (.view j 0 E k l.length)) (hb : M (OB + j) = gbA c l) (hc : ∀ a, (c a).length = k)
  (hy : slD k (dO M y) = some (l'.map c)) (hpos : 0 < l'.length) (hd : op.dst = some d) (hok : okD N pins S d = true) (hj : (Nat.blt 0 E && Nat.blt (j + 1) OB && !pins.contains (OB + j) && ss.all (fun s => Nat.blt s OB && !(S s).isBox)) = true)
  (hm : ∀ s, ((OB + j) :: ss).contains s = false → zBl j (S s) = false) (hh : S HK = .any ∨ ∃ f, S HK = .hp f ∧ zDy f) (he : anyE ss ++ [(OB + j, gbA c z), (d, .t (.view j 0 E k z.length))] = e) : OpH P pins N op S (app S e) := by
 obtain ⟨h1, rfl⟩ := zEN hz
 exact h_apg hM ss hop hE hx hb hc hy hpos h1 hd hok hj hm hh he
end
end Go.Proofs.YtmgafkpkpmjieaaDoor

/-
 A call's own slice, told as a slice of a local object; the greater of two numbers.
-/
namespace Go.Proofs.YtmgafkpkpmjieaaDoor
open Go Go.RowKit
set_option linter.unusedVariables false
def D.isLit : D → Bool | .lit _ => true | _ => false
end Go.Proofs.YtmgafkpkpmjieaaDoor

/-
 Arrays as values; variables and made slices as objects, of the frame or of the heap; slices of arrays; copy.
-/
namespace Go.Proofs.YtmgafkpkpmjieaaDoor
open Go Go.RowKit
set_option linter.unusedVariables false
section
variable {α : Type} {c : α → List D} {z : α} {k : Nat}
def ar (c : α → List D) (z : α) (l : List α) : Nat → Nat → List D
 | _, 0 => []
 | i, n + 1 => c (l.getD i z) ++ ar c z l (i + 1) n
def padA (z : α) (l : List α) : Nat → Nat → List α
 | _, 0 => []
 | i, n + 1 => l.getD i z :: padA z l (i + 1) n
theorem zGb (l : List α) : ∀ (n i : Nat), (padA z l i n).length = n
 | 0, _ => rfl
 | n + 1, i => congrArg (· + 1) (zGb l n (i + 1))
theorem zHP (l : List α) : ∀ (n i : Nat), ar c z l i n = fl c (padA z l i n)
 | 0, _ => rfl
 | n + 1, i => congrArg (c (l.getD i z) ++ ·) (zHP l n (i + 1))
theorem ar_dT (l : List α) : ∀ (n i : Nat), (ar c z l i n).map T.d = fl (dT c) (padA z l i n)
 | 0, _ => rfl
 | n + 1, i => by
  show (c (l.getD i z) ++ ar c z l (i + 1) n).map T.d = dT c (l.getD i z) ++ fl (dT c) (padA z l (i + 1) n)
  rw [List.map_append, ar_dT l n (i + 1)]
  rfl
theorem ar_len (hc : ∀ a, (c a).length = k) (l : List α) (i n : Nat) : (ar c z l i n).length = n * k := by
 rw [zHP, zEo hc, zGb]
theorem zHN (l : List α) : ∀ (n i : Nat), i + n = l.length → padA z l i n = l.drop i
 | 0, i, h => by rw [List.drop_of_length_le (by omega)]; rfl
 | n + 1, i, h => by
  have hi : i < l.length := by omega
  show l.getD i z :: padA z l (i + 1) n = _
  rw [zHN l n (i + 1) (by omega), List.drop_eq_getElem_cons hi, List.getD_eq_getElem?_getD, List.getElem?_eq_getElem hi]
  rfl
theorem zCl {l : List α} {n : Nat} (h : l.length = n) : padA z l 0 n = l := by rw [zHN l n 0 (by omega)]; rfl
theorem ar_id {l : List α} {n : Nat} (h : l.length = n) : ar c z l 0 n = fl c l := by rw [zHP, zCl h]
theorem zHr {β : Type} {f : α → List β} (hf : ∀ a, (f a).length = 1) : ∀ (x : List α) (i : Nat), (fl f x).take i = fl f (x.take i)
 | [], i => by simp [fl]
 | a :: t, 0 => by simp [fl]
 | a :: t, i + 1 => by
  have h := hf a
  show (f a ++ fl f t).take (i + 1) = f a ++ fl f (t.take i)
  rw [← zHr hf t i]
  match hfa : f a, h with
  | [b], _ => rfl
theorem zH7 {β : Type} {f : α → List β} (hf : ∀ a, (f a).length = 1) : ∀ (x : List α) (i : Nat), (fl f x).drop i = fl f (x.drop i)
 | [], i => by simp [fl]
 | a :: t, 0 => by simp
 | a :: t, i + 1 => by
  have h := hf a
  show (f a ++ fl f t).drop (i + 1) = fl f (t.drop i)
  rw [← zH7 hf t i]
  match hfa : f a, h with
  | [b], _ => rfl
theorem zGo {β : Type} (f : α → List β) (x y : List α) : fl f (x ++ y) = fl f x ++ fl f y := List.flatMap_append
def s2aI (n : Nat) (l : List α) : Option (List α) := if n ≤ l.length then some (l.take n) else none
theorem zHp {n : Nat} {l x : List α} (h : s2aI n l = some x) : n ≤ l.length ∧ x = l.take n := by
 unfold s2aI at h
 split at h
 · injection h with h; exact ⟨by assumption, h.symm⟩
 · cases h
theorem s2a_row {n : Nat} {l x : List α} (h : s2aI n l = some x) : ((l.map c).take n).flatMap id = ar c z x 0 n := by
 obtain ⟨h1, rfl⟩ := zHp h
 rw [ar_id (by rw [List.length_take]; omega), ← List.map_take]
 unfold fl
 rw [List.flatMap_map]
 rfl
def cpyL (x : List α) (off n : Nat) (y : List α) : List α := x.take off ++ (y.take n ++ x.drop (off + min y.length n))
def cpyI (x : List α) (off n : Nat) (y : List α) : Option (List α) := if off + n ≤ x.length then some (cpyL x off n y) else none
theorem cpyI_iff {x y v : List α} {off n : Nat} (h : cpyI x off n y = some v) : off + n ≤ x.length ∧ v = cpyL x off n y := by
 unfold cpyI at h
 split at h
 · injection h with h; exact ⟨by assumption, h.symm⟩
 · cases h
theorem cpy_row (hc : ∀ a, (c a).length = 1) (x y : List α) (off n : Nat) : yC (fl (dT c) x) off ((((y.map c).take n).flatMap id).map T.d) = fl (dT c) (cpyL x off n y) := by
 have h1 : ((((y.map c).take n).flatMap id).map T.d) = fl (dT c) (y.take n) := by
  rw [← List.map_take, ← zHU]
 have hd := zEm hc
 have h2 : (fl (dT c) (y.take n)).length = min y.length n := by rw [zEo hd, List.length_take]; omega
 unfold yC cpyL
 rw [h1, h2, zHr hd, zH7 hd, zGo, zGo, List.append_assoc]
end
section
variable {w0 : World} {m0 : Mem} {o0 : OwnM} {G : GD} {pins : List Nat} {S M : Nat → A} {a : Act} {w : World} {m : Mem} {o : OwnM} {P : Program} {N : Nat} {op : Oper} {d c : Nat} {f f' : Nat → A}
theorem Inv.tell (I : Inv w0 m0 o0 G pins S a w m o) (d : Nat) (x : A) (hbox : (S d).isBox = false) (hx : RepA m w o (upd S d x) d x (a.tmps.getD d undef)) : Inv w0 m0 o0 G pins (upd S d x) a w m o := by
 refine ⟨I.same, I.sat, I.mono, I.old, I.own, I.lt, I.inj, I.pinned, fun s => ?_, I.defers, I.tbl, I.wide, I.shps⟩
 by_cases e : s = d
 ·
  subst e
  rw [zU]
  exact hx
 ·
  rw [zI e]
  refine (I.slots s).turn fun b l hb => ⟨l, ?_⟩
  rw [zI (fun e => by rw [e] at hb; rw [hb] at hbox; cases hbox), hb]
theorem OpOK.post {S1 S2 : Nat → A} (h : OpOK P pins N op S S1) (k : ∀ w0 m0 o0 G a w m o, Inv w0 m0 o0 G pins S1 a w m o → Inv w0 m0 o0 G pins S2 a w m o) : OpOK P pins N op S S2 :=
 fun w0 m0 o0 G a w m o hN I K Q hK => h w0 m0 o0 G a w m o hN I K Q fun a' w' m' o' hN' I' => hK a' w' m' o' hN' (k _ _ _ _ _ _ _ _ I')
theorem OpH.lo2 {j : Nat} {x1 x2 : A} (hj : Nat.blt (j + 1) OB = true) (hok : okD N pins S d = true) (h : N ≤ OB → Low S → OpOK P pins N op (hx S) (app (hx S) [(OB + j, x1), (d, x2)])) : OpH P pins N op S (app S [(OB + j, x1), (d, x2)]) := by
 intro hN hlo
 obtain ⟨e1, e2, e3⟩ := lo_of hj
 have hdO := yG hN hok
 refine ⟨?_, (hlo.upd e1).upd (lt2 hdO)⟩
 show OpOK P pins N op (hx S) (hx (upd (upd S (OB + j) _) d _))
 rw [zCM (lt2 hdO) (by unfold HK; unfold OB at hdO; omega), zCM e1 e2]
 exact h hN hlo
theorem zH1 (hM : Mk M S) {j : Nat} (h : M (OB + j) = .free) : hx S (OB + j) = .free := by
 rcases hM (OB + j) with e | e
 · rw [e] at h; cases h
 · rw [e] at h; exact zB1 h (by simp)
theorem zHo (hM : Mk M S) {j : Nat} {l : List T} (h : M (OB + j) = .box l) : hx S (OB + j) = .box l := by
 rcases hM (OB + j) with e | e
 · rw [e] at h; cases h
 · rw [e] at h; exact zB1 h (by simp)
theorem ok_s2a (hM : Mk M S) {t n e k : Nat} {x : Operand} {l : List (List D)} (hop : op.op = .sliceToArrayPointer t x) (hu : P.underlying t = some (.array n e)) (hx : dO M x = some (.seq k l)) (hk : 0 < k) (hpos : 0 < n) (hn : n ≤ l.length) (hd : op.dst = some d) (hok : okD N pins S d = true) :
  OpOK P pins N op S (upd S d (.imm ((l.take n).flatMap id))) := by
 refine zP fun w0 m0 o0 G a w m o hN I => ?_
 obtain ⟨h1, h2, h3⟩ := qF hok
 have hr := zCs hM I hx
 generalize hv : a.eval x = v at hr
 cases hr with
 | seq _ _ A' cap g p fv hcap hmax hA hw hm hr =>
  have hne : l ≠ [] := fun e => by rw [e] at hn; simp at hn; omega
  have hA := hA hne
  subst hA
  refine ⟨.pointer (some ⟨g, p, none⟩), w, m, o, ?_, by
   rw [hd]
   refine I.set d _ _ (by omega) h2 ⟨g, p, rfl, fun j dd hj => ?_⟩
   have hwt : ∀ r ∈ l.take n, r.length = k := fun r hr => by
    obtain ⟨i, hi⟩ := List.getElem?_of_mem (List.mem_of_mem_take hr)
    exact hw i r hi
   have hlt : j < n * k := by
    have := (List.getElem?_eq_some_iff.1 hj).1
    rw [zDM hwt, List.length_take] at this
    rw [Nat.min_eq_left hn] at this
    exact this
   have hi1 : j / k < n := Nat.div_lt_of_lt_mul (by rw [Nat.mul_comm]; exact hlt)
   have hi2 : j % k < k := Nat.mod_lt _ hk
   have he : j / k * k + j % k = j := by rw [Nat.mul_comm]; exact Nat.div_add_mod j k
   have hil : j / k < l.length := by omega
   obtain ⟨r, hr'⟩ : ∃ r, l[j / k]? = some r := ⟨_, List.getElem?_eq_getElem hil⟩
   have hrt : (l.take n)[j / k]? = some r := by rw [List.getElem?_take, if_pos hi1]; exact hr'
   have h5 := zB2 hwt hrt hi2
   rw [he, hj] at h5
   refine ⟨fv (j / k) (j % k), ?_, hr _ r _ dd hr' h5.symm⟩
   have := hm _ r _ dd hr' h5.symm
   rw [Nat.add_assoc, he] at this
   exact this⟩
  unfold execOp
  rw [hop]
  simp only [Sem.run_bind]
  rw [hv]
  simp [Instr.arrayAt, run_underlying hu]
  intro h
  omega
theorem h_s2a {α : Type} {cc : α → List D} {l y : List α} {z : α} (hM : Mk M S) {t n e k : Nat} {x : Operand} (hop : op.op = .sliceToArrayPointer t x) (hu : P.underlying t = some (.array n e)) (hx : dO M x = some (.seq k (l.map cc))) (hk : (Nat.blt 0 k && Nat.blt 0 n) = true) (hn : s2aI n l = some y) (hd : op.dst = some d) (hok : okD N pins S d = true) :
  OpH P pins N op S (app S [(d, .imm (ar cc z y 0 n))]) := by
 simp only [Bool.and_eq_true] at hk
 rw [← s2a_row (z := z) hn]
 exact .of (e := [(d, _)]) fun hN => ⟨ok_s2a hM.hx hop hu hx (by simpa using hk.1) (by simpa using hk.2) (by rw [List.length_map]; exact (zHp hn).1) hd (yL hN hok), zB0 (yG hN hok)⟩
theorem ok_lmk {j : Nat} {l : List T} (hd : op.dst = some d) (hok : okD N pins S d = true) (hdO : d < OB) (hfree : S (OB + j) = .free)
  (h : ∀ (w0 : World) (m0 : Mem) (o0 : OwnM) (G : GD) (a : Act) (w : World) (m : Mem) (o : OwnM), Inv w0 m0 o0 G pins S a w m o → ∃ v cs E, (execOp a.eval op).run P w = .ok (.value v) (w.alloc (.cells cs E)) ∧ l.length ≤ cs.size ∧
   (∀ (i : Nat) (x : T), l[i]? = some x → x.noOwn = true ∧ ∃ u, cs[i]? = some u ∧ RepT m w o (0, 0) x u) ∧ v = .pointer (some ⟨w.heap.size, 0, none⟩)) :
  OpOK P pins N op S (app S [(OB + j, .box l), (d, .t (.ptr j 0))]) := by
 refine zP fun w0 m0 o0 G a w m o hN I => ?_
 obtain ⟨h1, h2, h3⟩ := qF hok
 obtain ⟨v, cs, E, hrun, hlen, hc, rfl⟩ := h w0 m0 o0 G a w m o I
 refine ⟨_, w.alloc (.cells cs E), m, newO o (OB + j) w.heap.size, hrun, ?_⟩
 rw [hd]
 have J := I.obj_new (E := E) hfree hlen hc
 exact J.set d _ _ (by omega) (by rw [zI (by omega)]; exact h2) ⟨_, yZ _ _ _, rfl⟩
theorem zGD (hM : Mk M S) {j E : Nat} {i : TypeInfo} {z : Value} {l0 l : List T} (hop : op.op = .alloc E) (hi : P.info? E = some i) (hz : i.zero = some z) (hl : zDS (litA z) = some l0) (hl' : l0 = l) (hd : op.dst = some d) (hok : okD N pins S d = true) (hj : Nat.blt (j + 1) OB = true) (hfree : M (OB + j) = .free) :
  OpH P pins N op S (app S [(OB + j, .box l), (d, .t (.ptr j 0))]) := by
 subst hl'
 refine .lo2 hj hok fun hN hlo => ?_
 refine ok_lmk hd (yL hN hok) (yG hN hok) (zH1 hM hfree) fun w0 m0 o0 G a w m o I => ?_
 have hcp : zC4 (litA z) = some l0 := by
  revert hl
  generalize litA z = y
  intro hl
  cases y with
  | t y => cases y <;> first | exact hl | cases hl
  | _ => cases hl
 obtain ⟨k1, k2, k3⟩ := zCZ hcp (zB7 (m := m) (w := w) (o := o) (S := S) 0 z)
 refine ⟨_, z.cells, E, ?_, by simpa using Nat.le_of_eq k1.symm, fun i x hx => ?_, rfl⟩
 ·
  unfold execOp
  rw [hop]
  simp [Instr.alloc, zeroValue, typeInfo, hi, hz, newVar, newRow]
 ·
  obtain ⟨q1, u, q2, q3⟩ := k3 i x hx
  exact ⟨zCt hcp x (List.mem_of_getElem? hx), u, by simpa using q2, q3 _ _ (zAq.refl w)⟩
theorem h_lbox (hM : Mk M S) {j E : Nat} {x : Operand} {l0 l : List T} (hop : op.op = .box E x) (hl : zC4 (cpO M x) = some l0) (hl' : l0 = l) (hd : op.dst = some d) (hok : okD N pins S d = true) (hj : Nat.blt (j + 1) OB = true) (hfree : M (OB + j) = .free) :
  OpH P pins N op S (app S [(OB + j, .box l), (d, .t (.ptr j 0))]) := by
 subst hl'
 refine .lo2 hj hok fun hN hlo => ?_
 refine ok_lmk hd (yL hN hok) (yG hN hok) (zH1 hM hfree) fun w0 m0 o0 G a w m o I => ?_
 obtain ⟨k1, k2, k3⟩ := zCZ hl (yA hM.hx I x 0)
 refine ⟨_, (a.eval x).cells, E, ?_, by simpa using Nat.le_of_eq k1.symm, fun i x hx => ?_, rfl⟩
 ·
  unfold execOp
  rw [hop]
  simp [Instr.box, newVar, newRow]
 ·
  obtain ⟨q1, u, q2, q3⟩ := k3 i x hx
  exact ⟨zCt hl x (List.mem_of_getElem? hx), u, by simpa using q2, q3 _ _ (zAq.refl w)⟩
theorem zIT {n : Nat} {l0 h0 : Option Int} {kl kh : Int → IntKind} (hc : 0 ≤ l0.getD 0 ∧ l0.getD 0 ≤ h0.getD n ∧ h0.getD n ≤ n) :
    (Instr.sliceBounds false n n (l0.map fun z => .int (kl z) z) (h0.map fun z => .int (kh z) z) none).run P w = .ok ((l0.getD 0).toNat, (h0.getD n).toNat, n) w := by
  have hlo2 : (l0.map Int.toNat).getD 0 = (l0.getD 0).toNat := by cases l0 <;> rfl
  have hhi2 : (h0.map Int.toNat).getD n = (h0.getD n).toNat := by cases h0 <;> simp
  rw [← hlo2, ← hhi2]
  unfold Instr.sliceBounds
  cases l0 <;> cases h0 <;> simp only [Option.getD_none, Option.getD_some, Option.map_none, Option.map_some, Option.isSome_none, Option.isSome_some] at hc ⊢ <;>
    (simp only [Sem.run_bind, Sem.run_pure, Result.andThen_ok]
     repeat (rw [zBG (by omega) (by omega), Result.andThen_ok]))
theorem sla_run {t n e g off : Nat} {ie : TypeInfo} {l0 h0 : Option Int} {kl kh : Int → IntKind} (hu : P.underlying t = some (.array n e)) (hie : P.info? e = some ie) (hc : 0 ≤ l0.getD 0 ∧ l0.getD 0 ≤ h0.getD n ∧ h0.getD n ≤ n) :
  (Instr.sliceAt t (.pointer (some ⟨g, off, none⟩)) (l0.map fun z => .int (kl z) z) (h0.map fun z => .int (kh z) z) none).run P w = .ok (.slice (some (if n = (l0.getD 0).toNat then ⟨g, off, none⟩ else ⟨g, off + (l0.getD 0).toNat * ie.size, none⟩)) ((h0.getD n).toNat - (l0.getD 0).toNat) (n - (l0.getD 0).toNat)) w := by
 unfold Instr.sliceAt
 simp only [Sem.run_bind, run_underlying hu, Result.andThen_ok]
 rw [show (Instr.sureAddr (.pointer (some ⟨g, off, none⟩))).run P w = .ok ⟨g, off, none⟩ w from rfl, Result.andThen_ok, zIT hc]
 simp [sizeOf, typeInfo, hie, Addr.add_mid]
theorem ok_sla {j off n t e : Nat} {x : Operand} {lo hi : Option Operand} {l0 h0 : Option Int} {ie : TypeInfo} {l : List T} (hM : Mk M S) (hop : op.op = .slice t x lo hi none) (hx : ∀ {w0 m0 o0 G a w m o}, Inv w0 m0 o0 G pins S a w m o → ∃ g, o g = some (OB + j, 0) ∧ a.eval x = .pointer (some ⟨g, off, none⟩)) (hb : S (OB + j) = .box l) (hlo : bndO M lo = some l0) (hhi : bndO M hi = some h0) (hu : P.underlying t = some (.array n e)) (hie : P.info? e = some ie)
  (hle : off + n * ie.size ≤ l.length) (hn : n ≤ 65536) (hc : 0 ≤ l0.getD 0 ∧ l0.getD 0 ≤ h0.getD n ∧ h0.getD n ≤ n) (hd : op.dst = some d) (hok : okD N pins S d = true) :
  OpOK P pins N op S (upd S d (.t (.view j (off + (l0.getD 0).toNat * ie.size) 0 ie.size ((h0.getD n).toNat - (l0.getD 0).toNat)))) := by
 refine zP fun w0 m0 o0 G a w m o hN I => ?_
 obtain ⟨h1, h2, h3⟩ := qF hok
 obtain ⟨g, k1, k2⟩ := hx I
 have hs := I.slots (OB + j)
 rw [hb] at hs
 obtain ⟨g', _, q1, q2, cs, E, q3, q4, q5⟩ := hs
 have := I.inj _ _ _ k1 q1
 subst this
 obtain ⟨kl, e1⟩ := zDa hM I hlo
 obtain ⟨kh, e2⟩ := zDa hM I hhi
 refine ⟨.slice (some (if n = (l0.getD 0).toNat then ⟨g, off, none⟩ else ⟨g, off + (l0.getD 0).toNat * ie.size, none⟩)) ((h0.getD n).toNat - (l0.getD 0).toNat) (n - (l0.getD 0).toNat), w, m, o, ?_, ?_⟩
 ·
  unfold execOp
  rw [hop]
  simp only [Sem.run_bind]
  rw [e1, e2, k2]
  show Result.andThen (Sem.run P (Instr.sliceAt t _ _ _ none) w) _ = _
  rw [sla_run hu hie hc]
  rfl
 ·
  rw [hd]
  refine I.set d _ _ (by omega) h2 ?_
  refine ⟨_, n - (l0.getD 0).toNat, by omega, by unfold maxLen; omega, rfl, ?_⟩
  by_cases hz : n = (l0.getD 0).toNat
  · exact .inl (by omega)
  ·
   refine .inr ⟨g, cs, E, k1, by rw [if_neg hz], q3, ?_, .inl rfl⟩
   have : (l0.getD 0).toNat * ie.size + (n - (l0.getD 0).toNat) * ie.size = n * ie.size := by rw [← Nat.add_mul]; congr 1; omega
   omega
theorem h_sla (hM : Mk M S) {j off n t e : Nat} {x : Operand} {lo hi : Option Operand} {l0 h0 : Option Int} {ie : TypeInfo} {l : List T} {y : T} (hop : op.op = .slice t x lo hi none) (hx : cpO M x = .ref (OB + j) off) (hb : M (OB + j) = .box l) (hlo : bndO M lo = some l0) (hhi : bndO M hi = some h0) (hu : P.underlying t = some (.array n e)) (hie : P.info? e = some ie)
  (hle : Nat.ble (off + n * ie.size) l.length = true) (hn : Nat.ble n 65536 = true) (hc : 0 ≤ l0.getD 0 ∧ l0.getD 0 ≤ h0.getD n ∧ h0.getD n ≤ n) (hy : T.view j (off + (l0.getD 0).toNat * ie.size) 0 ie.size ((h0.getD n).toNat - (l0.getD 0).toNat) = y) (hd : op.dst = some d) (hok : okD N pins S d = true) : OpH P pins N op S (app S [(d, .t y)]) := by
 subst hy
 refine .of (e := [(d, _)]) fun hN => ⟨ok_sla hM.hx hop (fun {w0 m0 o0 G a w m o} I => ?_) (zHo hM hb) hlo hhi hu hie (by simpa using hle) (by simpa using hn) hc hd (yL hN hok), zB0 (yG hN hok)⟩
 have h := yA hM.hx I x 0
 rw [hx] at h
 obtain ⟨g, h1, h2, _⟩ := h
 exact ⟨g, h1, h2⟩
theorem h_slah (hM : Mk M S) (hk : S HK = .hp f) {off n t e : Nat} {x : Operand} {lo hi : Option Operand} {l0 h0 : Option Int} {ie : TypeInfo} {l : List T} {y : T} (hop : op.op = .slice t x lo hi none) (hx : cpO M x = .t (.hpt c off)) (hb : f c = .box l) (hlo : bndO M lo = some l0) (hhi : bndO M hi = some h0) (hu : P.underlying t = some (.array n e)) (hie : P.info? e = some ie)
  (hle : off + n * ie.size ≤ l.length) (hn : Nat.ble n 65536 = true) (hc : 0 ≤ l0.getD 0 ∧ l0.getD 0 ≤ h0.getD n ∧ h0.getD n ≤ n) (hy : T.hvw c (off + (l0.getD 0).toNat * ie.size) 0 ie.size ((h0.getD n).toNat - (l0.getD 0).toNat) = y) (hd : op.dst = some d) (hok : okD N pins S d = true) : OpH P pins N op S (app S [(d, .t y)]) := by
 subst hy
 refine .of' (e := [(d, _)]) fun hN hl => ⟨(ok_sla (j := OB + c) (d := d) hM.hx hop (fun {w0 m0 o0 G a w m o} I => ?_) (zFn hl hk hb) hlo hhi hu hie hle (by simpa using hn) hc hd (yL hN hok)).post fun w0 m0 o0 G a w m o I => ?_, zB0 (yG hN hok)⟩
 ·
  have h := yA hM.hx I x 0
  rw [hx] at h
  obtain ⟨g, h1, h2⟩ := h
  exact ⟨g, h1, h2⟩
 ·
  have h := I.slots d
  rw [zU] at h
  have J := I.tell d (.t (.hvw c (off + (l0.getD 0).toNat * ie.size) 0 ie.size ((h0.getD n).toNat - (l0.getD 0).toNat))) (by rw [zU]; rfl) h
  rw [zGn] at J
  exact J
theorem Inv.box_spl (I : Inv w0 m0 o0 G pins S a w m o) {b g off E : Nat} {l : List T} {cs : Array Value} {q : List D} {vs : List Value} (hb : S b = .box l) (h1 : o g = some (b, 0)) (h4 : w.heap[g]? = some (.cells cs E (0, 0))) (hlc : l.length ≤ cs.size) (h6 : ∀ (j : Nat) (x : T), l[j]? = some x → x.isAgg = false ∧ ∃ u, cs[j]? = some u ∧ RepT m w o (b, j + 1) x u)
  (hv : RepL m q vs) (hle : off + q.length ≤ l.length) : Inv w0 m0 o0 G pins (upd S b (.box (yC l off (q.map .d)))) a (w.setRow g (yC cs.toList off vs).toArray) m o := by
 have hvl := hv.1
 have hsp : (yC cs.toList off vs).length = cs.toList.length := zAS cs.toList off vs (by simp only [Array.length_toList]; omega)
 have hss : (yC cs.toList off vs).toArray.size = cs.size := by simpa using hsp
 refine I.box_put hb h1 h4 (cs' := (yC cs.toList off vs).toArray) hss o (fun _ => False) (fun s h => h.elim) (fun g l h _ _ => h) h1 (fun g l h => ⟨l, h⟩) I.inj (fun g l l' h h' k => by rw [h] at h'; injection h' with h'; rw [h']; exact k) ?_ (fun j z hj => ?_)
 · exact zAS l off _ (by rw [List.length_map]; omega)
 ·
  have hcs2 : (yC cs.toList off vs).toArray[j]? = (yC cs.toList off vs)[j]? := by simp
  rw [hcs2, zBf cs.toList off vs (by simp only [Array.length_toList]; omega)]
  rw [zBf l off _ (by rw [List.length_map]; omega), List.length_map] at hj
  rw [hvl]
  split at hj
  ·
   rename_i hjo
   rw [if_pos hjo]
   rw [List.getElem?_map] at hj
   cases hq : q[j - off]? with
   | none => rw [hq] at hj; cases hj
   | some dd =>
    rw [hq] at hj
    injection hj with hj
    subst hj
    obtain ⟨u, k1, k2⟩ := hv.2 _ dd hq
    exact ⟨rfl, u, k1, k2⟩
  ·
   rename_i hjo
   rw [if_neg hjo]
   obtain ⟨k0, u, k1, k2⟩ := h6 j z hj
   exact ⟨k0, u, by simpa using k1, zF9 h1 h4 hss (by intro e; injection e with _ e; omega) k0 k2⟩
theorem run_copy0 {t t' e ty : Nat} {ie : TypeInfo} {A1 A2 : Option Addr} {n1 c1 n2 c2 : Nat} (hu : P.underlying t = some (.slice e)) (hie : P.info? e = some ie) (h0 : min n2 n1 = 0) :
  (Builtin.copy_ #[t, t'] ty #[.slice A1 n1 c1, .slice A2 n2 c2]).run P w = .ok (goInt 0) w := by
 have h0' : Nat.min n2 n1 = 0 := h0
 cases A1 with
 | none => cases A2 with
  | none => simp [Builtin.copy_, run_underlying hu, Builtin.lenOf, Builtin.firstCells, sizeOf, typeInfo, hie, h0', storeCells]
  | some a2 =>
   have := run_loadCells_list (P := P) w a2 [] (fun j v h => by simp at h)
   simp only [List.length_nil] at this
   simp [Builtin.copy_, run_underlying hu, Builtin.lenOf, Builtin.firstCells, sizeOf, typeInfo, hie, h0', storeCells, this]
 | some a1 => cases A2 with
  | none => simp [Builtin.copy_, run_underlying hu, Builtin.lenOf, Builtin.firstCells, sizeOf, typeInfo, hie, h0', storeCells]
  | some a2 =>
   have := run_loadCells_list (P := P) w a2 [] (fun j v h => by simp at h)
   simp only [List.length_nil] at this
   simp [Builtin.copy_, run_underlying hu, Builtin.lenOf, Builtin.firstCells, sizeOf, typeInfo, hie, h0', storeCells, this]
theorem flat1 : ∀ {rs : List (List D)}, (∀ r ∈ rs, r.length = 1) → (rs.flatMap id).length = rs.length
 | rs, h => by rw [zDM h, Nat.mul_one]
theorem zIu {α : Type} (l : List α) (off : Nat) : yC l off [] = l := by
 unfold yC
 simp
theorem ok_cpy (hM : Mk M S) {j off E n t t' e : Nat} {x y : Operand} {ie : TypeInfo} {l : List T} {l' : List (List D)} (hop : op.op = .call { callee := .builtin .copy, args := #[x, y], argTypes := #[t, t'] }) (hu : P.underlying t = some (.slice e)) (hie : P.info? e = some ie) (hs1 : ie.size = 1) (hx : ∀ {w0 m0 o0 G a w m o}, Inv w0 m0 o0 G pins S a w m o → RepT m w o (0, 0) (.view j off E 1 n) (a.eval x)) (hb : S (OB + j) = .box l) (hy : slD 1 (dO M y) = some l') (hr1 : ∀ r ∈ l', r.length = 1) (hle : off + n ≤ l.length) (hd : op.dst = some d) (hok : okD N pins S d = true) (hdO : d < OB) :
  OpOK P pins N op S (app S [(OB + j, .box (yC l off (((l'.take n).flatMap id).map .d))), (d, .t (.d (.lit (.int .i64 ((min l'.length n : Nat) : Int)))))]) := by
 refine zP fun w0 m0 o0 G a w m o hN I => ?_
 obtain ⟨h1, h2, h3⟩ := qF hok
 have hv' : RepD m (.seq 1 l') (a.eval y) := zDq hy fun d hd => zCs hM I hd
 obtain ⟨A2, c2, xs, hyv, _, _, hrows, hone, hmx⟩ := hv'.rows
 obtain ⟨A1, c1, k1, k2, hxv, k4⟩ := hx I
 have hxl : xs.length = l'.length := by have := hrows.1; omega
 have hbox2 : ∀ x, (upd S (OB + j) x d).isBox = false := fun x => by rw [zI (by omega)]; exact h2
 by_cases h0 : min l'.length n = 0
 ·
  have he : (l'.take n).flatMap id = [] := by
   have : (l'.take n).length = 0 := by rw [List.length_take]; omega
   rw [List.eq_nil_of_length_eq_zero this]
   rfl
  refine ⟨goInt 0, w, m, o, ?_, ?_⟩
  ·
   unfold execOp
   rw [hop]
   simp only [resolve, invoke, builtin, Sem.run_bind, Sem.run_pure, Result.andThen_ok, List.map_toArray, List.map_cons, List.map_nil]
   rw [hxv, hyv, run_copy0 hu hie h0]
   rfl
  ·
   rw [hd, he, h0]
   show Inv w0 m0 o0 G pins (upd (upd S (OB + j) (.box (yC l off []))) d _) _ w m o
   rw [zIu]
   have e1 : upd S (OB + j) (.box l) = S := by
    funext s
    unfold upd
    split
    · rename_i e; rw [e, hb]
    · rfl
   rw [e1]
   exact I.set d _ _ (by omega) h2 (.lit _ rfl)
 ·
  obtain ⟨g, cs, E', q1, q2, q3, q4, _⟩ := k4.resolve_left fun e => by omega
  clear k4
  subst q2
  have hs := I.slots (OB + j)
  rw [hb] at hs
  obtain ⟨g', _, p1, p2, cs', E2, p3, p4, p5⟩ := hs
  have := I.inj _ _ _ q1 p1
  subst this
  rw [q3] at p3
  injection p3 with p3
  injection p3 with p3 p6
  subst p3 p6
  have hlen : (xs.take (min l'.length n)).length = Nat.min l'.length n := by
   rw [List.length_take, hxl]
   show min (min l'.length n) l'.length = min l'.length n
   omega
  have hp2 : 0 < xs.length := by rw [hxl]; exact Nat.lt_of_lt_of_le (Nat.pos_of_ne_zero h0) (Nat.min_le_left _ _)
  have hx0 : ∃ u, xs[0]? = some u := ⟨_, List.getElem?_eq_getElem hp2⟩
  obtain ⟨u0, hu0⟩ := hx0
  obtain ⟨g2, o2, rfl, _⟩ := hmx 0 u0 hu0
  have hrun := run_copy_row P w t t' op.type e g off n c1 ⟨g2, o2, none⟩ l'.length c2 cs E' (xs.take (min l'.length n)) hu (by rw [hie, ← hs1]; rfl) q3 hlen (fun q v hq => by
   rw [List.getElem?_take] at hq
   split at hq
   ·
    obtain ⟨g3, o3, e3, hm3⟩ := hmx q v hq
    injection e3 with e3
    injection e3 with e3 e4
    subst e3 e4
    rw [Addr.add_mid]
    exact I.sat _ _ _ hm3
   · cases hq) (by rw [hlen]; show off + min l'.length n ≤ cs.size; omega) (fun v hv => hone v (List.mem_of_mem_take hv))
  have hwt : ∀ r ∈ l'.take n, r.length = 1 := fun r hr => hr1 r (List.mem_of_mem_take hr)
  have hql : ((l'.take n).flatMap id).length = min l'.length n := by rw [flat1 hwt, List.length_take, Nat.min_comm]
  have hrep : RepL m ((l'.take n).flatMap id) (xs.take (min l'.length n)) := by
   refine ⟨by rw [hlen, hql], fun q dd hq => ?_⟩
   have hlt : q < min l'.length n := by rw [← hql]; exact (List.getElem?_eq_some_iff.1 hq).1
   obtain ⟨r, hr⟩ : ∃ r, l'[q]? = some r := ⟨_, List.getElem?_eq_getElem (by omega)⟩
   have hrt : (l'.take n)[q]? = some r := by rw [List.getElem?_take, if_pos (by omega)]; exact hr
   have h5 := zB2 hwt hrt (q := 0) (by omega)
   rw [Nat.mul_one, Nat.add_zero, hq] at h5
   obtain ⟨u, z1, z2⟩ := hrows.2.2 q r 0 dd hr h5.symm
   rw [Nat.mul_one, Nat.add_zero] at z1
   exact ⟨u, by rw [List.getElem?_take, if_pos hlt]; exact z1, z2⟩
  have J := I.box_spl (off := off) hb q1 q3 p4 p5 hrep (by rw [hql]; omega)
  refine ⟨goInt (xs.take (min l'.length n)).length, w.setRow g (yC cs.toList off (xs.take (min l'.length n))).toArray, m, o, ?_, ?_⟩
  ·
   unfold execOp
   rw [hop]
   simp only [resolve, invoke, builtin, Sem.run_bind, Sem.run_pure, Result.andThen_ok, List.map_toArray, List.map_cons, List.map_nil]
   rw [hxv, hyv, hrun]
   rfl
  ·
   rw [hd]
   have J2 := J.set d (.t (.d (.lit (.int .i64 ((min l'.length n : Nat) : Int))))) (goInt (xs.take (min l'.length n)).length) (by omega) (hbox2 _) (by rw [hlen]; exact RepD.lit _ rfl)
   exact J2
theorem h_cpy {α : Type} {cc : α → List D} {xl yl v : List α} (hM : Mk M S) {j off E n t t' e : Nat} {x y : Operand} {ie : TypeInfo} (hop : op.op = .call { callee := .builtin .copy, args := ⟨[x, y]⟩, argTypes := ⟨[t, t']⟩ }) (hu : P.underlying t = some (.slice e)) (hie : P.info? e = some ie) (hs1 : ie.size = 1) (hx : cpO M x = .t (.view j off E 1 n)) (hb : M (OB + j) = .box (fl (dT cc) xl)) (hc : ∀ a, (cc a).length = 1) (hy : slD 1 (dO M y) = some (yl.map cc)) (hv : cpyI xl off n yl = some v) (hj : Nat.blt (j + 1) OB = true) (hd : op.dst = some d) (hok : okD N pins S d = true) :
  OpH P pins N op S (app S [(OB + j, .box (fl (dT cc) v)), (d, .t (.d (.lit (.int .i64 ((min yl.length n : Nat) : Int)))))]) := by
 obtain ⟨h1, rfl⟩ := cpyI_iff hv
 refine .lo2 hj hok fun hN hlo => ?_
 rw [← cpy_row hc]
 have := ok_cpy (j := j) (off := off) (E := E) (n := n) (l := fl (dT cc) xl) (l' := yl.map cc) hM.hx hop hu hie hs1 (fun {w0 m0 o0 G a w m o} I => by
  have h := yA hM.hx I x 0
  rw [hx] at h
  exact h) (zHo hM hb) hy (fun r hr => by obtain ⟨a, _, rfl⟩ := List.mem_map.1 hr; exact hc a) (by rw [zEo (zEm hc)]; omega) hd (yL hN hok) (yG hN hok)
 rw [List.length_map] at this
 exact this
end
section
variable {P : Program} {pins : List Nat} {N : Nat} {l0 : List Oper} {Q : SL → Prop} {r : List Oper} {op : Oper} {L : SL} {acc : List (List Nat × List Nat)} {T : List Nat}
theorem d_h0 (X : List Nat) {e : Eff} {ks : List Nat} {L' : SL} (hT : zB6 (X ++ zCW l0.toArray (gt L) op) some = some T) (hy : dyes l0 op L T) (hks : keys e = ks) (hk : ks.all T.contains = true)
  (h : ∀ S', Mk (mask T (gt L)) S' → (∀ d, T.contains d = true → okD N pins (gt L) d = true → okD N pins S' d = true) → OpH P pins N op S' (app S' e)) (hL : setL L e = L') (k : DOK P pins N l0 Q r ((T, ks) :: acc) L') : DOK P pins N l0 Q (op :: r) acc L := by
 have hT := zFN hT
 subst hL hks
 have h' : ∀ S', (∀ t ∈ T, S' t = gt L t) → OpH P pins N op S' (app S' e) := fun S' hS => h S' (zDf hS) fun d hd hok => by
  unfold okD at hok ⊢
  rw [hS d (by simpa using hd)]
  exact hok
 refine ⟨T, e, ⟨all_T hk, ?_⟩, k⟩
 rcases hy with hg | ⟨j, want, t, c, h1, h2, h3, h4, h5⟩
 · exact .inl ⟨hg, h'⟩
 · exact .inr (.inl ⟨j, want, t, h1, h2, by simpa using h3, .inl ⟨by rw [h4, h5], h'⟩⟩)
end
end Go.Proofs.YtmgafkpkpmjieaaDoor

/-
 Several steps at once: moves, checks and fields of the heap's objects; what is passed by.
-/
namespace Go.Proofs.YtmgafkpkpmjieaaDoor
open Go Go.RowKit
set_option linter.unusedVariables false
abbrev A.p (c o : Nat) : A := .t (.hpt c o)
section
variable {P : Program} {pins : List Nat} {N : Nat} {ops : Array Oper} {Q : SL → Prop} {r : List Oper} {op p1 p2 p3 p4 : Oper} {L : SL}
theorem o_k1 {j t d : Nat} {c want : Bool} (h : (op.guard, (ops[j]?).bind (·.dst), gt L t, op.dst, okD N pins (gt L) d) = (some (j, want), some t, .t (.d (.lit (.bool c))), some d, true)) (hw : c = !want) (k : qY P pins N ops Q r ((d, .tup []) :: L)) : qY P pins N ops Q (op :: r) L := by
 simp only [Prod.mk.injEq] at h
 obtain ⟨a1, a2, a3, a4, a5⟩ := h
 exact o_skip a1 a2 a3 hw a4 a5 k
end
section
variable {P : Program} {pins : List Nat} {N : Nat} {l0 : List Oper} {Q : SL → Prop} {r : List Oper} {op p1 p2 p3 : Oper} {L : SL} {acc : List (List Nat × List Nat)} {T T1 T2 T3 : List Nat}
theorem d_1 {d : Nat} (x : A) (hT : zB6 (zCW l0.toArray (gt L) op) some = some T) (h : (op.guard, op.dst, T.contains d, okD N pins (gt L) d, opF P pins false (mask T (gt L)) d op.op) = (none, some d, true, true, some (True, [(d, x)]))) (k : DOK P pins N l0 Q r ((T, [d]) :: acc) ((d, x) :: L)) : DOK P pins N l0 Q (op :: r) acc L := by
 simp only [Prod.mk.injEq] at h
 obtain ⟨a1, a2, a3, a4, a5⟩ := h
 exact d_s x hT (dg0 a1) a2 a3 a4 a5 k
theorem d_k1 {j t d : Nat} {c want : Bool} (hT : zB6 (zCW l0.toArray (gt L) op) some = some T) (h : (op.guard, (l0.toArray[j]?).bind (·.dst), T.contains t, gt L t, op.dst, T.contains d, okD N pins (gt L) d) = (some (j, want), some t, true, .t (.d (.lit (.bool c))), some d, true, true)) (hw : c = !want) (k : DOK P pins N l0 Q r ((T, [d]) :: acc) ((d, .tup []) :: L)) : DOK P pins N l0 Q (op :: r) acc L := by
 simp only [Prod.mk.injEq] at h
 obtain ⟨a1, a2, a3, a4, a5, a6, a7⟩ := h
 exact d_skip a1 a2 hT a3 a4 hw a5 a6 a7 k
end
end Go.Proofs.YtmgafkpkpmjieaaDoor

/-
 Calls that only look at what is handed over; slices of slices of objects; own slices in the heap's cells; cells told otherwise.
-/
namespace Go.Proofs.YtmgafkpkpmjieaaDoor
open Go Go.RowKit
set_option linter.unusedVariables false
section
variable {w0 : World} {m0 : Mem} {o0 : OwnM} {G : GD} {pins : List Nat} {S M : Nat → A} {a : Act} {w : World} {m : Mem} {o : OwnM} {P : Program} {N : Nat} {op : Oper} {d c : Nat} {f f' : Nat → A}
def zFb (w : World) : Mem := fun b p => w.cell? ⟨b, p, none⟩
inductive BorD (B : Nat → List T → Prop) : T → D → Prop
 | d (x : D) : BorD B (.d x) x
 | nil (k : Nat) : BorD B (.d (.lit (.slice none 0 0))) (.seq k [])
 | own (E k : Nat) (l : List (List D)) : BorD B (.own E k l) (.seq k l)
 | vw {j off E k n : Nat} {l : List T} {rs : List (List D)} (hb : B j l) (hr : ∀ r ∈ rs, r.length = k) (hn : rs.length = n) (hl : (l.drop off).take (n * k) = (rs.flatMap id).map .d) : BorD B (.view j off E k n) (.seq k rs)
 | hv {c off E k n : Nat} {l : List T} {rs : List (List D)} (hb : B (OB + c) l) (hr : ∀ r ∈ rs, r.length = k) (hn : rs.length = n) (hl : (l.drop off).take (n * k) = (rs.flatMap id).map .d) : BorD B (.hvw c off E k n) (.seq k rs)
inductive BorL (B : Nat → List T → Prop) : List T → List (List D) → Prop
 | nil : BorL B [] []
 | cons {x : T} {y : D} {l : List T} {r : List (List D)} (h : BorD B x y) (t : BorL B l r) : BorL B (x :: l) ([y] :: r)
inductive BorA (B : Nat → List T → Prop) : A → A → Prop
 | d {x : T} {y : D} (h : BorD B x y) : BorA B (.t x) (.t (.d y))
 | lst {l : List T} {rs : List (List D)} (h : BorL B l rs) : BorA B (.lst l) (.t (.d (.seq 1 rs)))
 | pl {x : A} (h : x.plain = true) : BorA B x x
inductive zGm (B : Nat → List T → Prop) : List A → List A → Prop
 | nil : zGm B [] []
 | cons {x y : A} {l l' : List A} (h : BorA B x y) (t : zGm B l l') : zGm B (x :: l) (y :: l')
theorem zED (I : Inv w0 m0 o0 G pins S a w m o) : Mle m (zFb w) := fun b p u h => I.sat b p u h
theorem bor_vw (I : Inv w0 m0 o0 G pins S a w m o) {j off E k n : Nat} {l : List T} {rs : List (List D)} (hb : S (OB + j) = .box l) (hr : ∀ r ∈ rs, r.length = k) (hn : rs.length = n) (hl : (l.drop off).take (n * k) = (rs.flatMap id).map .d) {loc : Nat × Nat} {v : Value} (h : RepT m w o loc (.view j off E k n) v) : RepD (zFb w) (.seq k rs) v := by
 obtain ⟨A', q, h1, h2, rfl, h4⟩ := h
 subst hn
 have hs := I.slots (OB + j)
 rw [hb] at hs
 obtain ⟨g, _, p1, p2, cs, E2, p3, p4, p5⟩ := hs
 refine .seq k rs A' q g off (fun i q => (cs[off + i * k + q]?).getD undef) h1 h2 (fun hne => ?_) (fun i r hi => hr r (List.mem_of_getElem? hi)) (fun i r q dd hi hq => ?_) (fun i r q dd hi hq => ?_)
 ·
  obtain ⟨g', cs', E', q1, q2, _⟩ := h4.resolve_left fun e => by have := List.length_pos_iff.2 hne; omega
  have := I.inj _ _ _ p1 q1
  subst this
  exact q2
 all_goals
  have hrl := hr r (List.mem_of_getElem? hi)
  have hqk : q < k := by rw [← hrl]; exact (List.getElem?_eq_some_iff.1 hq).1
  have hir : i < rs.length := (List.getElem?_eq_some_iff.1 hi).1
  have hc : ((rs.flatMap id).map T.d)[i * k + q]? = some (.d dd) := by rw [List.getElem?_map, zB2 hr hi hqk, hq]; rfl
  have hlt : i * k + q < rs.length * k := mul_lt hir hqk
  rw [← hl, List.getElem?_take, if_pos hlt, List.getElem?_drop, ← Nat.add_assoc] at hc
  obtain ⟨_, u, k1, k2⟩ := p5 _ _ hc
 ·
  show w.cell? ⟨g, off + i * k + q, none⟩ = some ((cs[off + i * k + q]?).getD undef)
  rw [cell_of_row w g _ cs E2 _ p3, k1]
  rfl
 ·
  rw [k1]
  exact RepD.mono (zED I) k2
theorem BorD.rep (I : Inv w0 m0 o0 G pins S a w m o) {x : T} {y : D} {B : Nat → List T → Prop} (hB : ∀ j l, B j l → S (OB + j) = .box l) (h : BorD B x y) {loc : Nat × Nat} {v : Value} (hr : RepT m w o loc x v) : RepD (zFb w) y v := by
 cases h with
 | d x => exact RepD.mono (zED I) hr
 | nil k =>
  have hr : RepD m (.lit (.slice none 0 0)) v := hr
  cases hr
  exact RepD.nilSeq _ k
 | own E k l => exact RepD.mono (zED I) (zDY I.sat hr)
 | vw hb h1 hn hl => exact bor_vw I (hB _ _ hb) h1 hn hl hr
 | @hv c off E k n l rs hb h1 hn hl => exact bor_vw (j := OB + c) I (hB _ _ hb) h1 hn hl (loc := loc) hr
theorem BorL.get {B : Nat → List T → Prop} {l : List T} {rs : List (List D)} (h : BorL B l rs) : rs.length = l.length ∧ ∀ (i : Nat) (r : List D), rs[i]? = some r → ∃ x y, l[i]? = some x ∧ r = [y] ∧ BorD B x y := by
 induction h with
 | nil => exact ⟨rfl, fun i r h => by simp at h⟩
 | cons h t ih =>
  refine ⟨by simp [ih.1], fun i r hi => ?_⟩
  cases i with
  | zero => injection hi with hi; exact ⟨_, _, rfl, hi.symm, h⟩
  | succ i => simpa using ih.2 i r (by simpa using hi)
theorem BorA.rep (I : Inv w0 m0 o0 G pins S a w m o) {x y : A} {B : Nat → List T → Prop} (hB : ∀ j l, B j l → S (OB + j) = .box l) (h : BorA B x y) {s : Nat} {v : Value} (hr : RepA m w o S s x v) (S' : Nat → A) (s' : Nat) : RepA (zFb w) w (fun _ => none) S' s' y v := by
 cases h with
 | d h => exact h.rep I hB (loc := (s, 0)) hr
 | pl h =>
  cases x with
  | t x => cases x with
   | d x => exact RepD.mono (zED I) hr
   | agg l => obtain ⟨vs, e, k⟩ := hr; exact ⟨vs, e, k.mono (zED I)⟩
   | _ => cases h
  | imm l =>
   obtain ⟨g, p, e, k⟩ := hr
   exact ⟨g, p, e, fun j d hj => let ⟨u, k1, k2⟩ := k j d hj; ⟨u, zED I _ _ _ k1, k2.mono (zED I)⟩⟩
  | any => trivial
  | _ => cases h
 | @lst l rs h =>
  obtain ⟨g, cap, rfl, h1, h2, h3⟩ := hr
  obtain ⟨k1, k2⟩ := h.get
  show RepD (zFb w) (.seq 1 rs) _
  rw [← k1]
  refine .seq 1 rs _ cap g 0 (fun i q => (w.cell? ⟨g, i, none⟩).getD undef) (by omega) h2 (fun _ => rfl) (fun i r hi => ?_) (fun i r q dd hi hq => ?_) (fun i r q dd hi hq => ?_)
  ·
   obtain ⟨x, y, _, rfl, _⟩ := k2 i r hi
   rfl
  all_goals
   obtain ⟨x, y, q1, rfl, q2⟩ := k2 i r hi
   have hq0 : q = 0 ∧ dd = y := by
    cases q with
    | zero => injection hq with hq; exact ⟨rfl, hq.symm⟩
    | succ q => simp at hq
   obtain ⟨rfl, rfl⟩ := hq0
   obtain ⟨u, z1, z2⟩ := h3 i x q1
   have hcell := I.sat _ _ _ z1
  ·
   show w.cell? ⟨g, 0 + i * 1 + 0, none⟩ = some ((w.cell? ⟨g, i, none⟩).getD undef)
   rw [show 0 + i * 1 + 0 = i by omega, hcell]
   rfl
  ·
   show RepD (zFb w) dd ((w.cell? ⟨g, i, none⟩).getD undef)
   rw [hcell]
   exact q2.rep I hB z2
theorem zGm.rep (hM : Mk M S) (I : Inv w0 m0 o0 G pins S a w m o) {B : Nat → List T → Prop} (hB : ∀ j l, B j l → S (OB + j) = .box l) : ∀ (xs : List Operand) (args : List A), zGm B (xs.map (cpO M)) args → (xs.map a.eval).length = args.length ∧ ∀ (i : Nat) (x : A), args[i]? = some x → ∀ S' s', RepA (zFb w) w (fun _ => none) S' s' x ((xs.map a.eval).getD i undef)
 | [], args, h => by cases h; exact ⟨rfl, fun i x h => by simp at h⟩
 | x :: r, args, h => by
  cases h with
  | cons h t =>
   obtain ⟨k1, k2⟩ := zGm.rep hM I hB r _ t
   refine ⟨by simp [← k1], fun i y hi S' s' => ?_⟩
   cases i with
   | zero =>
    injection hi with hi
    subst hi
    exact h.rep I hB (yA hM I x 0) S' s'
   | succ i => simpa using k2 i y (by simpa using hi) S' s'
theorem look_args (I : Inv w0 m0 o0 G pins S a w m o) {fn : FuncId} {args : List A} {r : A} (hf : FC P fn args [] r) {vals : Array Value} (hv : vals.size = args.length) (hr : ∀ i x, args[i]? = some x → ∀ S' s', RepA (zFb w) w (fun _ => none) S' s' x (vals.getD i undef)) :
  Calls P fn vals w fun e w' => ∃ (u : Value) (m' : Mem) (o' : OwnM) (S' : Nat → A) (a' : Act) (ρ : Nat), e = .returned u ∧ Inv w (zFb w) (fun _ => none) ⟨fun g => (fun _ => none : OwnM) g ≠ none, []⟩ (zDr 0 args) S' a' w' m' o' ∧ RepA m' w' o' S' ρ r u ∧ ∀ (i : Nat) (l : List T), (i, l) ∈ ([] : List (Nat × List T)) → S' i = .box l ∧ i ≠ ρ :=
 hf w (zFb w) (fun _ => none) vals (fun _ _ _ h => h) ((I.tbl.trans I.mono).trans (zED I)) (fun _ _ h => by cases h) (fun _ _ _ h => by cases h) hv (fun s => by
  unfold argS
  rw [List.getD_eq_getElem?_getD]
  cases hx : args[s]? with
  | none => trivial
  | some x => exact hr s x hx _ _)
theorem run_enter (hM : Mk M S) (I : Inv w0 m0 o0 G pins S a w m o) {fn : FuncId} {xs : List Operand} {ts : Array TypeId} {fx : Operand} (hop : op.op = .call { callee := .value fx, args := xs.toArray, argTypes := ts }) (hfx : vO M fx = some (.func (.func fn) #[] #[])) {F : Func} (hfn : P.funcs[fn]? = some F) (hbody : F.body.isNone = false) (hname : (F.name == "runtime.NumGoroutine") = false) :
  (execOp a.eval op).run P w = .ok (.enter fn (xs.map a.eval).toArray) w := by
 unfold execOp
 rw [hop]
 simp only [resolve, zCG hM I hfx, Deferred.ofValue, List.map_toArray]
 have hb : F.body ≠ none := fun e => by rw [e] at hbody; cases hbody
 have hn : F.name ≠ "runtime.NumGoroutine" := fun e => by rw [e] at hname; simp at hname
 simp [invoke, callFunc, hfn, hn, hb]
def boxesAt (M : Nat → A) (f : Nat → A) (j : Nat) (l : List T) : Prop := M (OB + j) = .box l ∨ ∃ c, j = OB + c ∧ f c = .box l
theorem boxes_hx (hM : Mk M S) (hlo : Low S) (hk : S HK = .hp f) (j : Nat) (l : List T) (h : boxesAt M f j l) : hx S (OB + j) = .box l := by
 rcases h with h | ⟨c, rfl, h⟩
 · exact zHo hM h
 · exact zFn hlo hk h
theorem h_htake (hM : Mk M S) (hk : S HK = .hp f) {off t n E k : Nat} {x : Operand} {l l' : List T} {ls : List (List D)} (hop : op.op = .load t x) (ht : tyA P t = some (false, n)) (hx : cpO M x = .t (.hpt c off)) (hb : f c = .box l) (hl : l[off]? = some (.own E k ls)) (hl' : l.set off (.d (.seq k ls)) = l') (hd : op.dst = some d) (hok : okD N pins S d = true) (hf' : f' = updF f c (.box l')) :
  OpH P pins N op S (app S [(HK, .hp f'), (d, .t (.own E k ls))]) := by
 subst hl'
 refine h_mk hk hf' hok fun hN hlo => ?_
 refine zP fun w0 m0 o0 G a w m o hNa I => ?_
 obtain ⟨h1, h2, h3⟩ := qF (yL hN hok)
 have hxr := yA hM.hx I x 0
 rw [hx] at hxr
 obtain ⟨g, q1, q2⟩ := hxr
 have hdO := yG hN hok
 obtain ⟨g', u, m', o', p1, p2, J⟩ := zFD (b := OB + (OB + c)) (d := d) I (zFn hlo hk hb) hl (by omega) (by omega) h2 h3
 have := I.inj _ _ _ q1 p1
 subst this
 refine ⟨u, w, m', o', ?_, by rw [hd]; exact J⟩
 unfold execOp
 rw [hop]
 simp only [Sem.run_bind]
 rw [q2]
 have e1 : (Instr.loadAt t (.pointer (some ⟨g, off, none⟩))).run P w = (loadVar t ⟨g, off, none⟩).run P w := rfl
 rw [e1, zA4 ht p2]
 rfl
theorem h_hsto (hM : Mk M S) (hk : S HK = .hp f) {off t s E' k : Nat} {x : Operand} {l l' : List T} {ls : List (List D)} {i : TypeInfo} (hop : op.op = .store t x (.tmp s)) (hd : op.dst = none) (hi : P.info? t = some i) (hsz : i.size = 1) (hx : cpO M x = .t (.hpt c off)) (hb : f c = .box l) (hs : M s = .t (.own E' k ls)) (hoff : Nat.blt off l.length = true) (hl' : l.set off (.own E' k ls) = l') (hok : okD N pins S s = true) (hf' : f' = updF f c (.box l')) :
  OpH P pins N op S (app S [(HK, .hp f'), (s, .t (.d (.seq k ls)))]) := by
 subst hl'
 refine h_mk hk hf' hok fun hN hlo => ?_
 have hdO := yG hN hok
 obtain ⟨h1, h2, h3⟩ := qF (yL hN hok)
 have := zEp (N := N) (b := OB + (OB + c)) (s := s) hM.hx hop hd hi hsz (fun {w0 m0 o0 G a w m o} I => by
  have h := yA hM.hx I x 0
  rw [hx] at h
  obtain ⟨g, q1, q2⟩ := h
  exact ⟨g, q1, q2⟩) (zFn hlo hk hb) hs (by simpa using hoff) (by omega) h3
 rw [zFQ (by omega)] at this
 exact this
theorem Inv.wkbox {b : Nat} {l l' : List T} (I : Inv w0 m0 o0 G pins (upd S b (.box l)) a w m o) (h : WkTs l l') (ha : l'.all (fun x => !x.isAgg) = true) : Inv w0 m0 o0 G pins (upd S b (.box l')) a w m o := by
 refine ⟨I.same, I.sat, I.mono, I.old, I.own, I.lt, I.inj, I.pinned, fun s => ?_, I.defers, I.tbl, I.wide, I.shps⟩
 have hs := I.slots s
 by_cases e : s = b
 ·
  subst e
  rw [zU] at hs ⊢
  exact ((WkA.box h ha).rep I.sat hs).turn fun b2 l2 hb => by
   by_cases e : b2 = s
   · subst e; exact ⟨_, zU ..⟩
   · rw [zI e] at hb; exact ⟨l2, by rw [zI e, hb]⟩
 ·
  rw [zI e] at hs ⊢
  refine hs.turn fun b2 l2 hb => ?_
  by_cases e : b2 = b
  · subst e; exact ⟨_, zU ..⟩
  · rw [zI e] at hb; exact ⟨l2, by rw [zI e, hb]⟩
end
section
variable {α : Type} {c : α → List D} {k : Nat}
variable {P : Program} {pins : List Nat} {N : Nat} {S M : Nat → A} {op : Oper} {d : Nat}
theorem ok_slim {α : Type} {c : α → List D} {p v : List α} (hM : Mk M S) {t n e : Nat} {x : Operand} {lo hi : Option Operand} {l0 h0 : Option Int} {ie : TypeInfo} {l : List D} (hop : op.op = .slice t x lo hi none) (hx : cpO M x = .imm l) (hlp : l = fl c p) (hc1 : ∀ a, (c a).length = 1) (hlo : bndO M lo = some l0) (hhi : bndO M hi = some h0) (hu : P.underlying t = some (.array n e)) (hie : P.info? e = some ie) (hs1 : ie.size = 1) (hpn : p.length = n) (hn : n ≤ 65536) (hv : cutI p (l0.getD 0) (h0.getD n) = some v) (hd : op.dst = some d) (hok : okD N pins S d = true) :
  OpOK P pins N op S (upd S d (.t (.d (.seq 1 (v.map c))))) := by
 obtain ⟨⟨b1, b2, b3⟩, hv⟩ := zDg hv
 rw [hpn] at b3
 refine zP fun w0 m0 o0 G a w m o hN I => ?_
 obtain ⟨h1, h2, h3⟩ := qF hok
 have hxr := yA hM I x 0
 rw [hx] at hxr
 obtain ⟨g, q, k1, k2⟩ := hxr
 obtain ⟨kl, e1⟩ := zDa hM I hlo
 obtain ⟨kh, e2⟩ := zDa hM I hhi
 generalize hL : (l0.getD 0).toNat = lo' at *
 generalize hH : (h0.getD n).toNat = hi' at *
 have hlo' : lo' ≤ hi' := by omega
 have hhi' : hi' ≤ n := by omega
 have hvl : v.length = hi' - lo' := by rw [hv, List.length_drop, List.length_take]; omega
 refine ⟨.slice (some (if n = lo' then ⟨g, q, none⟩ else ⟨g, q + lo' * ie.size, none⟩)) (hi' - lo') (n - lo'), w, m, o, ?_, ?_⟩
 ·
  unfold execOp
  rw [hop]
  simp only [Sem.run_bind]
  rw [e1, e2, k1]
  show Result.andThen (Sem.run P (Instr.sliceAt t _ _ _ none) w) _ = _
  rw [sla_run hu hie ⟨b1, b2, b3⟩, hL, hH]
  rfl
 ·
  rw [hd]
  refine I.set d _ _ (by omega) h2 ?_
  show RepD m (.seq 1 (v.map c)) _
  have hvm : (v.map c).length = hi' - lo' := by rw [List.length_map, hvl]
  rw [← hvm]
  have cell : ∀ (i : Nat) (r : List D) (j : Nat) (dd : D), (v.map c)[i]? = some r → r[j]? = some dd → ∃ u, m g (q + lo' * ie.size + i * 1 + j) = some u ∧ RepD m dd u := by
   intro i r j dd hi hj
   rw [List.getElem?_map] at hi
   cases hvi : v[i]? with
   | none => rw [hvi] at hi; cases hi
   | some y =>
    rw [hvi] at hi
    injection hi with hi
    subst hi
    have hj1 : j < 1 := by rw [← hc1 y]; exact (List.getElem?_eq_some_iff.1 hj).1
    have hpi : p[lo' + i]? = some y := by
     have hlt := (List.getElem?_eq_some_iff.1 hvi).1
     rw [hv, List.getElem?_drop, List.getElem?_take, if_pos (by omega)] at hvi
     exact hvi
    have h5 := zHY hc1 hpi hj1
    rw [hj, ← hlp] at h5
    obtain ⟨u, z1, z2⟩ := k2 _ dd h5
    refine ⟨u, ?_, z2⟩
    rw [hs1, show q + lo' * 1 + i * 1 + j = q + ((lo' + i) * 1 + j) by omega]
    exact z1
  refine .seq 1 _ _ (n - lo') g (q + lo' * ie.size) (fun i j => (m g (q + lo' * ie.size + i * 1 + j)).getD undef) (by rw [hvm]; omega) (by unfold maxLen; omega) (fun hne => ?_) (fun i r hi => ?_) (fun i r j dd hi hj => ?_) (fun i r j dd hi hj => ?_)
  ·
   rw [if_neg]
   intro e
   refine hne (List.eq_nil_of_length_eq_zero ?_)
   rw [hvm]
   omega
  ·
   rw [List.getElem?_map] at hi
   cases hvi : v[i]? with
   | none => rw [hvi] at hi; cases hi
   | some y => rw [hvi] at hi; injection hi with hi; subst hi; exact hc1 y
  ·
   obtain ⟨u, z1, _⟩ := cell i r j dd hi hj
   rw [z1]
   rfl
  ·
   obtain ⟨u, z1, z2⟩ := cell i r j dd hi hj
   rw [z1]
   exact z2
theorem zFF {α : Type} {c : α → List D} {z : α} {y v : List α} (hM : Mk M S) {t n e : Nat} {x : Operand} {lo hi : Option Operand} {l0 h0 : Option Int} {ie : TypeInfo} {z1 z2 : Int} (hop : op.op = .slice t x lo hi none) (hx : cpO M x = .imm (ar c z y 0 n)) (hc1 : ∀ a, (c a).length = 1) (hlo : bndO M lo = some l0) (hhi : bndO M hi = some h0) (hu : P.underlying t = some (.array n e)) (hie : P.info? e = some ie) (hs1 : ie.size = 1) (hn : Nat.ble n 65536 = true) (hz1 : l0.getD 0 = z1) (hz2 : h0.getD n = z2) (hv : cutI (padA z y 0 n) z1 z2 = some v) (hd : op.dst = some d) (hok : okD N pins S d = true) :
  OpH P pins N op S (app S [(d, .t (.d (.seq 1 (v.map c))))]) := by
 subst hz1 hz2
 exact .of (e := [(d, _)]) fun hN => ⟨ok_slim hM.hx hop hx (zHP _ _ _) hc1 hlo hhi hu hie hs1 (zGb _ _ _) (by simpa using hn) hv hd (yL hN hok), zB0 (yG hN hok)⟩
end
end Go.Proofs.YtmgafkpkpmjieaaDoor

/-
 Calls, stores, picks and runs of steps told in few words.
-/
namespace Go.Proofs.YtmgafkpkpmjieaaDoor
open Go Go.RowKit
set_option linter.unusedVariables false
class PuH (f : Nat → A) : Prop where
 h : zDy f
theorem aR {σ : List Nat} {x : A} (h : x.plain = true) : ArgH σ x x := .plain .r h
theorem a1 {σ : List Nat} {x y : A} (h : ArgH σ x y) : zFg σ [x] [y] := .cons h .nil
theorem a2 {σ : List Nat} {x y x' y' : A} (h : ArgH σ x y) (h' : ArgH σ x' y') : zFg σ [x, x'] [y, y'] := .cons h (a1 h')
theorem a3 {σ : List Nat} {x y x' y' x2 y2 : A} (h : ArgH σ x y) (h' : ArgH σ x' y') (h2 : ArgH σ x2 y2) : zFg σ [x, x', x2] [y, y', y2] := .cons h (a2 h' h2)
theorem r1 {τ : List Nat} {x : T} (h : x.isPt = false) : ResH τ (.t x) (.t x) := .t (.flat h)
theorem r2 {τ : List Nat} {x y : T} (h : (x.isPt, y.isPt) = (false, false)) : ResH τ (.tup [x, y]) (.tup [x, y]) := .tup (.cons (.flat (Prod.mk.inj h).1) (.cons (.flat (Prod.mk.inj h).2) .nil))
theorem r3 {τ : List Nat} {x y z : T} (h : (x.isPt, y.isPt, z.isPt) = (false, false, false)) : ResH τ (.tup [x, y, z]) (.tup [x, y, z]) := .tup (.cons (.flat (Prod.mk.inj h).1) (.cons (.flat (Prod.mk.inj (Prod.mk.inj h).2).1) (.cons (.flat (Prod.mk.inj (Prod.mk.inj h).2).2) .nil)))
theorem callB0 {M : Nat → A} : callB M [] [] [] = true := rfl
section
variable {P : Program} {pins : List Nat} {N : Nat} {ops : Array Oper} {Q : SL → Prop} {r : List Oper} {op : Oper} {L : SL} {f f' : Nat → A} {fn d : Nat} {args : List A} {y y' : A} {xs : List Operand} {ts : Array TypeId} {fx : Operand} {F : Func}
theorem o_cH (hf : FCH P fn args [] [] f f' y) (hy : yes ops op L true) (h : (gt L HK, op.op, vO (gt L) fx, op.dst, okD N pins (gt L) d, P.funcs[fn]?, F.body.isNone, (F.name == "runtime.NumGoroutine"), Nat.ble args.length OB) = (.hp f, .call { callee := .value fx, args := xs.toArray, argTypes := ts }, some (.func (.func fn) #[] #[]), some d, true, some F, false, false, true)) (ha : zFg [] (xs.map (cpO (gt L))) args) (hr : ResH [] y y') [p : PuH f] [p' : PuH f'] (k : qY P pins N ops Q r ((d, y') :: (HK, .hp f') :: L)) : qY P pins N ops Q (op :: r) L := by
 simp only [Prod.mk.injEq] at h
 obtain ⟨e1, e2, e3, e4, e5, e6, e7, e8, e9⟩ := h
 exact o_of (e := [(HK, .hp f'), (d, y')]) hy (h_call mR e1 (σ := []) (fr := []) e2 e3 e4 e5 e6 e7 e8 hf p.h p'.h callB0 rfl rfl rfl ha e9 hr) rfl k
theorem o_pF {d : Nat} {c : Bool} {cx x z : Operand} (u : A) (hw : c = false) (h : (op.guard, op.op, op.dst, okD N pins (gt L) d, vO (gt L) cx, cpO (gt L) z) = (none, .pick cx x z, some d, true, some (.bool c), u)) (k : qY P pins N ops Q r ((d, u) :: L)) : qY P pins N ops Q (op :: r) L := by
 simp only [Prod.mk.injEq] at h
 obtain ⟨e1, e2, e3, e4, e5, e6⟩ := h
 exact o_pk u hw (g0 e1) e2 e3 e4 e5 e6 k
theorem o_pT {d : Nat} {c : Bool} {cx x z : Operand} (u : A) (hw : c = true) (h : (op.guard, op.op, op.dst, okD N pins (gt L) d, vO (gt L) cx, cpO (gt L) x) = (none, .pick cx x z, some d, true, some (.bool c), u)) (k : qY P pins N ops Q r ((d, u) :: L)) : qY P pins N ops Q (op :: r) L := by
 simp only [Prod.mk.injEq] at h
 obtain ⟨e1, e2, e3, e4, e5, e6⟩ := h
 exact o_pk u hw (g0 e1) e2 e3 e4 e5 e6 k
abbrev kT (ops : Array Oper) (pins : List Nat) (N : Nat) (L : SL) (op : Oper) (j t d : Nat) := (op.guard, (ops[j]?).bind (·.dst), gt L t, op.dst, okD N pins (gt L) d)
abbrev kE (j : Nat) (want : Bool) (t : Nat) (c : Bool) (d : Nat) : Option (Nat × Bool) × Option Nat × A × Option Nat × Bool := (some (j, want), some t, .t (.d (.lit (.bool c))), some d, true)
abbrev tu (d : Nat) : Nat × A := (d, .tup [])
theorem o_k2 {p1 p2 : Oper} {j1 j2 t1 t2 d1 d2 : Nat} {c want : Bool} (h : (kT ops pins N L p1 j1 t1 d1, kT ops pins N (tu d1 :: L) p2 j2 t2 d2) = (kE j1 want t1 c d1, kE j2 want t2 c d2)) (hw : c = !want) (k : qY P pins N ops Q r (tu d2 :: tu d1 :: L)) : qY P pins N ops Q (p1 :: p2 :: r) L :=
 o_k1 (Prod.mk.inj h).1 hw (o_k1 (Prod.mk.inj h).2 hw k)
theorem o_k3 {p1 p2 p3 : Oper} {j1 j2 j3 t1 t2 t3 d1 d2 d3 : Nat} {c want : Bool} (h : (kT ops pins N L p1 j1 t1 d1, kT ops pins N (tu d1 :: L) p2 j2 t2 d2, kT ops pins N (tu d2 :: tu d1 :: L) p3 j3 t3 d3) = (kE j1 want t1 c d1, kE j2 want t2 c d2, kE j3 want t3 c d3)) (hw : c = !want) (k : qY P pins N ops Q r (tu d3 :: tu d2 :: tu d1 :: L)) : qY P pins N ops Q (p1 :: p2 :: p3 :: r) L :=
 o_k1 (Prod.mk.inj h).1 hw (o_k2 (Prod.mk.inj h).2 hw k)
theorem o_k4 {p1 p2 p3 p4 : Oper} {j1 j2 j3 j4 t1 t2 t3 t4 d1 d2 d3 d4 : Nat} {c want : Bool} (h : (kT ops pins N L p1 j1 t1 d1, kT ops pins N (tu d1 :: L) p2 j2 t2 d2, kT ops pins N (tu d2 :: tu d1 :: L) p3 j3 t3 d3, kT ops pins N (tu d3 :: tu d2 :: tu d1 :: L) p4 j4 t4 d4) = (kE j1 want t1 c d1, kE j2 want t2 c d2, kE j3 want t3 c d3, kE j4 want t4 c d4)) (hw : c = !want) (k : qY P pins N ops Q r (tu d4 :: tu d3 :: tu d2 :: tu d1 :: L)) : qY P pins N ops Q (p1 :: p2 :: p3 :: p4 :: r) L :=
 o_k1 (Prod.mk.inj h).1 hw (o_k3 (Prod.mk.inj h).2 hw k)
theorem o_cA (hf : FC P fn args [] y) (hy : yes ops op L true) (h : (op.op, vO (gt L) fx, op.dst, okD N pins (gt L) d, P.funcs[fn]?, F.body.isNone, (F.name == "runtime.NumGoroutine")) = (.call { callee := .value fx, args := xs.toArray, argTypes := ts }, some (.func (.func fn) #[] #[]), some d, true, some F, false, false)) (ha : zC0 (xs.map (cpO (gt L))) args) (h2 : (args.all A.plain, y.noRef) = (true, true)) (k : qY P pins N ops Q r ((d, y) :: L)) : qY P pins N ops Q (op :: r) L := by
 simp only [Prod.mk.injEq] at h h2
 obtain ⟨e2, e3, e4, e5, e6, e7, e8⟩ := h
 exact o_ca hf hy e2 e3 e4 e5 e6 e7 e8 ha h2.1 h2.2 k
end
section
variable {P : Program} {pins : List Nat} {N : Nat} {l0 : List Oper} {Q : SL → Prop} {r : List Oper} {op : Oper} {L : SL} {acc : List (List Nat × List Nat)} {T : List Nat} {f f' : Nat → A} {fn d : Nat} {args : List A} {y y' : A} {xs : List Operand} {ts : Array TypeId} {fx : Operand} {F : Func}
theorem d_cH (hf : FCH P fn args [] [] f f' y) (hT : zB6 (HK :: zCW l0.toArray (gt L) op) some = some T) (hy : dyes l0 op L T) (h : (gt L HK, op.op, vO (mask T (gt L)) fx, op.dst, okD N pins (gt L) d, P.funcs[fn]?, F.body.isNone, (F.name == "runtime.NumGoroutine"), Nat.ble args.length OB, T.contains d) = (.hp f, .call { callee := .value fx, args := xs.toArray, argTypes := ts }, some (.func (.func fn) #[] #[]), some d, true, some F, false, false, true, true)) (ha : zFg [] (xs.map (cpO (mask T (gt L)))) args) (hr : ResH [] y y') [p : PuH f] [p' : PuH f'] (k : DOK P pins N l0 Q r ((T, [HK, d]) :: acc) ((d, y') :: (HK, .hp f') :: L)) : DOK P pins N l0 Q (op :: r) acc L := by
 simp only [Prod.mk.injEq] at h
 obtain ⟨e1, e2, e3, e4, e5, e6, e7, e8, e9, e10⟩ := h
 have hk : T.contains HK = true := by
  rw [zGe] at hT
  injection hT with hT
  rw [← hT]
  simp
 exact d_h (e := [(HK, .hp f'), (d, y')]) (ks := [HK, d]) hT hy rfl (by simp only [List.all_cons, List.all_nil, e10, hk]; rfl) (fun S' hM hk hok => h_call hM (hk.trans e1) (σ := []) (fr := []) e2 e3 e4 (hok _ e10 e5) e6 e7 e8 hf p.h p'.h callB0 rfl rfl rfl ha e9 hr) rfl k
theorem d_pF {c : Bool} {cx x z : Operand} (u : A) (hw : c = false) (hT : zB6 (zCW l0.toArray (gt L) op) some = some T) (h : (op.guard, op.op, op.dst, T.contains d, okD N pins (gt L) d, vO (mask T (gt L)) cx, cpO (mask T (gt L)) z) = (none, .pick cx x z, some d, true, true, some (.bool c), u)) (k : DOK P pins N l0 Q r ((T, [d]) :: acc) ((d, u) :: L)) : DOK P pins N l0 Q (op :: r) acc L := by
 simp only [Prod.mk.injEq] at h
 obtain ⟨e1, e2, e3, e4, e5, e6, e7⟩ := h
 exact d_pk u hw hT (dg0 e1) e2 e3 e4 e5 e6 e7 k
theorem d_pT {c : Bool} {cx x z : Operand} (u : A) (hw : c = true) (hT : zB6 (zCW l0.toArray (gt L) op) some = some T) (h : (op.guard, op.op, op.dst, T.contains d, okD N pins (gt L) d, vO (mask T (gt L)) cx, cpO (mask T (gt L)) x) = (none, .pick cx x z, some d, true, true, some (.bool c), u)) (k : DOK P pins N l0 Q r ((T, [d]) :: acc) ((d, u) :: L)) : DOK P pins N l0 Q (op :: r) acc L := by
 simp only [Prod.mk.injEq] at h
 obtain ⟨e1, e2, e3, e4, e5, e6, e7⟩ := h
 exact d_pk u hw hT (dg0 e1) e2 e3 e4 e5 e6 e7 k
end
def hpJ (js : List Nat) (L : SL) : Prop := match js with | [] => True | _ => zGa L
theorem St.fgJ {pins : List Nat} {N : Nat} {w0 : World} {m0 : Mem} {o0 : OwnM} {G : GD} {a : Act} {w : World} {js : List Nat} {L : SL} (h : St w0 m0 o0 G pins N L a w) (hb : fgtB pins js L = true) (hh : hpJ js L) : St w0 m0 o0 G pins N (fgtL js L) a w := by
 cases js with
 | nil => exact h
 | cons j r => exact h.fgt _ _ hb hh
def LpE {X R : Type} (F : X → SL) (M : X → Option R) (r : R) (pins : List Nat) (L : SL) : Prop := ∃ x js, M x = some r ∧ fgtB pins js L = true ∧ hpJ js L ∧ WkS (fgtL js L) (F x) ∧ zE9 (F x) = true
theorem wkEq {L : SL} : ∀ {F : SL}, F.map (fun p => gt L p.1) = F.map (·.2) → WkS L F
 | [], _ => trivial
 | (s, y) :: r, h => by
  simp only [List.map_cons, List.cons.injEq] at h
  exact ⟨by rw [h.1]; exact .r, wkEq h.2⟩
theorem lE {X R : Type} {F : X → SL} {M : X → Option R} {r : R} {pins : List Nat} {L : SL} (x : X) (h : M x = some r) (hw : (F x).map (fun p => gt L p.1) = (F x).map (·.2)) (hr : zE9 (F x) = true) : LpE F M r pins L := ⟨x, [], h, rfl, trivial, wkEq hw, hr⟩
theorem bi {α β : Type} {G : Prop} {a : Option α} {f : α → Option β} {r : β} (h : Option.bind a f = some r) (k : ∀ y, a = some y → f y = some r → G) : G := by
 obtain ⟨y, h1, h2⟩ := bind_some h
 exact k y h1 h2
theorem eR {P : Program} {rs : List ResultVar} {f' : Nat → A} {y : A} {L : SL} (h : resA P (gt L) rs = some y) (h2 : gt L HK = .hp f') : endH P rs [] f' y .ret L := ⟨⟨_, h, .r⟩, trivial, h2⟩
section
variable {P : Program} {pins : List Nat} {N : Nat} {Q : Exit → SL → Prop} {L : SL}
theorem c_if {R : Type} {b : Bool} {x' y' : Option R} {r : R} {c : Nat} {x y : Code} (h : (bif b then x' else y') = some r) (hc : gt L c = .t (.d (.lit (.bool b)))) (hx : b = true → x' = some r → yP P pins N x Q L) (hy : b = false → y' = some r → yP P pins N y Q L) : yP P pins N (.cond (.tmp c) x y) Q L := by
 rcases zE h with ⟨e, h⟩ | ⟨e, h⟩
 · exact c_t e hc (hx e h)
 · exact c_f e hc (hy e h)
theorem zA7 {X R : Type} {c : Code} (F : X → SL) (M : Nat → X → Option R) (n0 : Nat) (x0 : X) (js : List Nat) {r : R} (h0 : M n0 x0 = some r) (hz : ∀ x, M 0 x = none) (hb : fgtB pins js L = true) (hh : hpJ js L) (hw : WkS (fgtL js L) (F x0)) (hr : zE9 (F x0) = true)
  (round : ∀ n x, M (n + 1) x = some r → yP P pins N c (zE0 (LpE F (M n) r pins) Q) (F x)) : yP P pins N (.loop c) Q L := by
 intro Fe ne hF w0 m0 o0 G a w hS
 refine c_loopR (L := F x0) (fun n L => ∃ x, M n x = some r ∧ L = F x) n0 ⟨x0, h0, rfl⟩ ?_ Fe ne hF w0 m0 o0 G a w (St.weaken (hS.fgJ hb hh) hw hr)
 rintro n L ⟨x, hI, rfl⟩
 cases n with
 | zero => rw [hz] at hI; cases hI
 | succ n =>
  intro Fe ne hF w0 m0 o0 G a w hS
  refine wpIn_mono (round n x hI Fe ne hF w0 m0 o0 G a w hS) ?_
  rintro e a' w' ⟨L', hq, hS'⟩
  refine ⟨L', ?_, hS'⟩
  cases e with
  | normal =>
   obtain ⟨x', js, hI', q1, q2, hw', hr'⟩ := hq
   exact ⟨n, F x', Nat.lt_succ_self n, ⟨x', hI', rfl⟩, fun _ _ _ _ _ _ h => St.weaken (h.fgJ q1 q2) hw' hr'⟩
  | _ => exact hq
theorem c_lp {X R : Type} {c : Code} (F : X → SL) (M : Nat → X → Option R) (n0 : Nat) (x0 : X) {r : R} (h0 : M n0 x0 = some r) (hz : ∀ x, M 0 x = none) (hw : (F x0).map (fun p => gt L p.1) = (F x0).map (·.2)) (hr : zE9 (F x0) = true)
  (round : ∀ n x, M (n + 1) x = some r → yP P pins N c (zE0 (LpE F (M n) r pins) Q) (F x)) : yP P pins N (.loop c) Q L := zA7 F M n0 x0 [] h0 hz rfl trivial (wkEq hw) hr round
theorem zX {X R : Type} {x y : Code} (r : R) (F : X → SL) (M : X → Option R) (h : yP P pins N x (zE0 (LpE F M r pins) Q) L) (h2 : ∀ x', M x' = some r → yP P pins N y Q (F x')) : yP P pins N (.seq x y) Q L := by
 refine zM fun Fe ne hF w0 m0 o0 G a w hS => wpIn_mono (h Fe ne hF w0 m0 o0 G a w hS) ?_
 rintro e a' w' ⟨L', hq, hS'⟩
 cases e with
 | normal =>
  obtain ⟨x', js, hI, q1, q2, hw, hr⟩ := hq
  exact ⟨F x', h2 x' hI, St.weaken (hS'.fgJ q1 q2) hw hr⟩
 | _ => exact ⟨L', hq, hS'⟩
end
end Go.Proofs.YtmgafkpkpmjieaaDoor

/-
 What calls hand back: bytes, in new memory.
-/
namespace Go.Proofs.YtmgafkpkpmjieaaDoor
open Go.RowKit
theorem el_u8 : zDt Tryd.prog 27 5 1 1 := .mk' (z := .int .u8 0) Tryd.underlying27 (by kernel_rfl) rfl (by decide) (by decide)
def New (w w' : World) (A : Option Addr) (bs : List UInt8) : Prop := Byt w' A bs ∧ ∀ ad, A = some ad → w.heap.size ≤ ad.block
theorem New.from {w w1 w' : World} {A : Option Addr} {bs : List UInt8} (h : New w1 w' A bs) (hs : w.heap.size ≤ w1.heap.size) : New w w' A bs := ⟨h.1, fun ad e => Nat.le_trans hs (h.2 ad e)⟩
def GivesB (bs : List UInt8) (w : World) (e : Ending) (w' : World) : Prop := ∃ A c, e = .returned (.slice A bs.length c) ∧ New w w' A bs ∧ (bs.length ≤ c ∧ c ≤ maxLen) ∧ Below w.heap.size w w'
def zHW (bs : List UInt8) (er : Int) (w : World) (e : Ending) (w' : World) : Prop := ∃ A c, e = .returned (.tuple #[.slice A bs.length c, .int .i64 er]) ∧ New w w' A bs ∧ (bs.length ≤ c ∧ c ≤ maxLen) ∧ Below w.heap.size w w'
theorem Own.byt {w : World} {B : Nat} {e : TypeId} {A : Option Addr} {n c : Nat} {bs : List UInt8} (h : Own w B e 1 A n c (u8s bs)) : (Byt w A bs ∧ ∀ ad, A = some ad → B ≤ ad.block) ∧ bs.length = n ∧ (bs.length ≤ c ∧ c ≤ maxLen) :=
 ⟨⟨h.row, fun ad e => (h.lt ad.block (by rw [e]; rfl)).1⟩, by have := h.len; rw [zEG] at this; omega, ⟨by have := h.len; have := h.cap; rw [zEG] at *; omega, h.capMax⟩⟩
end Go.Proofs.YtmgafkpkpmjieaaDoor
