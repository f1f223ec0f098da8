/-
  Texts joined: see the remark at the head of each part.
-/
import Derived.Test.YtjomnccladjpgaaD01
import Derived.Laws.BytesArg
import Derived.TacticsIn
import Derived.OrdersIn
import Derived.LoopNIn
import Derived.RangeFuncCalls
import Derived.Test.YtjomnccladjpgaaD00
set_option linter.unusedVariables false
set_option linter.unusedSimpArgs false
/-
 The step of one operation as a function on the slots' data; the model's operation does just that.
-/
namespace Go.Proofs.Ytjomnccladjpgaa
open Go Go.RowKit
set_option linter.unusedVariables false
def elF (P : Program) (t : TypeId) : Option (TypeId × Nat × Nat) := match P.underlying t with
 | some (.slice e) => match P.info? e with
  | some i => match i.zero with
   | some z => if z.cells.size = i.size ∧ 0 < i.size ∧ 0 < i.bytes then some (e, i.size, i.bytes) else none
   | none => none
  | none => none
 | _ => none
theorem zGr {P : Program} {t e sz nb : Nat} (h : elF P t = some (e, sz, nb)) : zEY P t e sz nb := by
 unfold elF at h
 split at h
 ·
  rename_i e' hu
  split at h
  ·
   rename_i i hi
   split at h
   ·
    rename_i z hz
    split at h
    ·
     rename_i hc
     injection h with h
     injection h with h1 h
     injection h with h2 h3
     subst h1 h2 h3
     exact ⟨hu, ⟨i, z, hi, hz, rfl, rfl, hc.1⟩, hc.2.1, hc.2.2⟩
    · cases h
   · cases h
  · cases h
 · cases h
def cvF (P : Program) (M : Nat → A) (src dst : TypeId) (x : Operand) : Option Value := match P.underlying src, P.underlying dst, vO M x with
 | some _, some (.int k), some (.int _ n) => some (.int k (k.wrap n))
 | some _, some .string, some (.string s) => some (.string s)
 | _, _, _ => none
def valF (P : Program) (M : Nat → A) : Op → Option A
 | .move x | .assign x => some (cpO M x)
 | .pick c x y => match vO M c with
  | some (.bool t) => some (cpO M (if t then x else y))
  | _ => none
 | .binOp op t x y _ => match vO M x, vO M y with
  | some (.bool u), some (.bool v) => match P.underlying t, op with
   | some .bool, .eql => some (.t (.d (.lit (.bool (u == v)))))
   | some .bool, .neq => some (.t (.d (.lit (.bool (!(u == v))))))
   | _, _ => none
  | some u, some v => (binV op u v).map fun r => litA r
  | _, _ => none
 | .unOp op _ x => match vO M x with
  | some u => (unV op u).map fun r => litA r
  | none => none
 | .convert src dst x => (cvF P M src dst x).map fun r => litA r
 | .extract x i => match cpO M x with
  | .tup l => (l[i]?).map .t
  | _ => none
 | .load t x => ldF P M t x
 | .fieldAddr t x f => fdF P M t x f
 | .indexAddr t x i => ixF P M t x i
 | .nilCheck x => match cpO M x with
  | .imm l => some (.imm l)
  | .ref b off => some (.ref b off)
  | .t (.hpt c off) => some (.t (.hpt c off))
  | _ => none
 | .call { callee := .builtin .len, args := ⟨[x]⟩, argTypes := ⟨[t]⟩ } => (lnF P M t x).map fun r => litA r
 | _ => none
section
variable {w0 : World} {m0 : Mem} {o0 : OwnM} {G : GD} {pins : List Nat} {S M : Nat → A} {a : Act} {w : World} {m : Mem} {o : OwnM} {P : Program}
theorem valF_run (hM : Mk M S) (I : Inv w0 m0 o0 G pins S a w m o) (op : Oper) {y : A} (h : valF P M op.op = some y) : ∀ s, ∃ v, (execOp a.eval op).run P w = .ok (.value v) w ∧ RepA m w o S s y v := by
 intro s
 obtain ⟨dst, op, ty, pos, after, guard⟩ := op
 simp only at h
 cases op with
 | move x => injection h with h; subst h; exact ⟨_, rfl, qG hM I x s⟩
 | assign x => injection h with h; subst h; exact ⟨_, rfl, qG hM I x s⟩
 | pick c x y =>
  dsimp only [execOp]
  unfold valF at h
  simp only at h
  split at h
  ·
   rename_i t ht
   injection h with h
   subst h
   rw [zB1 hM I ht]
   refine ⟨a.eval (if t then x else y), ?_, qG hM I _ s⟩
   cases t <;> rfl
  · cases h
 | binOp op t x y yt =>
  dsimp only [execOp]
  unfold valF at h
  simp only at h
  split at h
  ·
   rename_i u v hu hv
   rw [zB1 hM I hu, zB1 hM I hv]
   have hg : ∀ op : BinOp, (eqGuard op t x y (.bool u) (.bool v)).run P w = .ok () w := by
    intro op
    unfold eqGuard
    cases op <;> rfl
   split at h
   ·
    rename_i hb
    injection h with h
    subst h
    refine ⟨.bool (u == v), ?_, .lit _ rfl⟩
    simp only [Sem.run_bind, hg, Result.andThen_ok, run_eql_bool w t u v hb]
    rfl
   ·
    rename_i hb
    injection h with h
    subst h
    refine ⟨.bool (!(u == v)), ?_, .lit _ rfl⟩
    simp only [Sem.run_bind, hg, Result.andThen_ok, run_neq_bool w t u v hb]
    rfl
   · cases h
  ·
   rename_i u v _ hu hv
   rw [zB1 hM I hu, zB1 hM I hv]
   cases hr : binV op u v with
   | none => rw [hr] at h; cases h
   | some r =>
    rw [hr] at h
    injection h with h
    subst h
    refine ⟨r, ?_, zCs s r⟩
    rw [Sem.run_bind, binV_run hr P w t x y]
    rfl
  · cases h
 | unOp op t x =>
  dsimp only [execOp]
  unfold valF at h
  simp only at h
  split at h
  ·
   rename_i u hu
   rw [zB1 hM I hu]
   cases hr : unV op u with
   | none => rw [hr] at h; cases h
   | some r =>
    rw [hr] at h
    injection h with h
    subst h
    refine ⟨r, ?_, zCs s r⟩
    rw [Sem.run_bind, zEt hr P w]
    rfl
  · cases h
 | convert src dst x =>
  dsimp only [execOp]
  unfold valF cvF at h
  simp only at h
  split at h
  ·
   rename_i _ k _ n h1 h2 h3
   injection h with h
   subst h
   rw [zB1 hM I h3]
   refine ⟨.int k (k.wrap n), ?_, zCs s _⟩
   simp [convert, run_underlying h1, run_underlying h2, Conv.intToInt]
  ·
   rename_i b h1 h2 h3
   injection h with h
   subst h
   rw [zB1 hM I h3]
   refine ⟨.string b, ?_, zCs s _⟩
   simp [convert, run_underlying h1, run_underlying h2]
  · cases h
 | extract x i =>
  dsimp only [execOp]
  unfold valF at h
  simp only at h
  have hx := qG hM I x s
  split at h
  ·
   rename_i l hl
   rw [hl] at hx
   obtain ⟨vs, e, h1, h2⟩ := hx
   cases hi : l[i]? with
   | none => rw [hi] at h; cases h
   | some z =>
    rw [hi] at h
    injection h with h
    subst h
    obtain ⟨u, h3, h4⟩ := h2 i z hi
    refine ⟨u, ?_, ?_⟩
    ·
     rw [e]
     simp [Instr.extract, h3]
    ·
     -- a copy owns nothing
     have hz : ∃ z', z = cpT z' := by
      unfold cpO at hl
      split at hl
      ·
       split at hl
       ·
        rename_i t _ _ _
        cases hb : Nat.blt t OB <;> rw [hb] at hl <;> cases hl
       · cases hl
       ·
        rename_i t _ _ _
        cases hS : M t with
        | tup l' =>
         rw [hS] at hl
         injection hl with hl
         rw [← hl, List.getElem?_map] at hi
         cases hq : l'[i]? with
         | none => rw [hq] at hi; cases hi
         | some q => rw [hq] at hi; injection hi with hi; exact ⟨q, hi.symm⟩
        | _ => rw [hS] at hl; cases hl
      · unfold litA at hl; split at hl <;> first | (split at hl <;> cases hl) | cases hl
      · cases hl
      · cases hl
     obtain ⟨z', rfl⟩ := hz
     show RepT m w o (s, 0) (cpT z') u
     cases z' with
     | d x => exact h4
     | agg l => exact h4
     | own E k l => exact h4
     | ptr j off => exact h4
     | view j off E k n => exact h4
     | hpt c off => exact h4
     | mpt c => exact h4
     | xs E k l rv => (first | exact h | exact hr | exact k2 | exact k3 | exact h4 | exact h5 | exact id | trivial | (cases hp; done) | (cases hx; done) | (cases hl; done) | (obtain ⟨A1, c1, xs1, e1, _⟩ := h; subst e1; rfl) | (obtain ⟨A1, c1, xs1, e1, _⟩ := hr; subst e1; rfl) | rfl)
     | any => exact h4
     | hvw c off E k n => exact h4
  · cases h
 | load t x =>
  dsimp only [execOp]
  obtain ⟨v, h1, h2⟩ := zIz (P := P) hM I (t := t) (x := x) (y := y) h s
  exact ⟨v, by rw [Sem.run_bind, h1]; rfl, h2⟩
 | fieldAddr t x f =>
  dsimp only [execOp]
  obtain ⟨v, h1, h2⟩ := fdF_rep (P := P) hM I (t := t) (x := x) (f := f) (y := y) h s
  exact ⟨v, by rw [Sem.run_bind, h1]; rfl, h2⟩
 | indexAddr t x i =>
  dsimp only [execOp]
  obtain ⟨v, h1, h2⟩ := ixF_rep (P := P) hM I (t := t) (x := x) (i := i) (y := y) h s
  exact ⟨v, by rw [Sem.run_bind, h1]; rfl, h2⟩
 | nilCheck x =>
  dsimp only [execOp]
  unfold valF at h
  simp only at h
  have hx := qG hM I x s
  split at h
  ·
   rename_i l hl
   injection h with h
   subst h
   rw [hl] at hx
   have hx2 := hx
   obtain ⟨g, p, e, _⟩ := hx
   refine ⟨_, ?_, hx2⟩
   rw [e]
   rfl
  ·
   rename_i b off hl
   injection h with h
   subst h
   rw [hl] at hx
   have hx2 := hx
   obtain ⟨g, _, e, _⟩ := hx
   refine ⟨_, ?_, hx2⟩
   rw [e]
   rfl
  ·
   rename_i c off hl
   injection h with h
   subst h
   rw [hl] at hx
   have hx2 := hx
   obtain ⟨g, _, e⟩ := hx
   refine ⟨_, ?_, hx2⟩
   rw [e]
   rfl
  · cases h
 | call c =>
  dsimp only [execOp]
  unfold valF at h
  split at h <;> try (rename_i hh; cases hh; done)
  all_goals try (cases h; done)
  rename_i x t hc
  injection hc with hc
  subst hc
  cases hr : lnF P M t x with
  | none => rw [hr] at h; cases h
  | some r =>
   rw [hr] at h
   injection h with h
   subst h
   refine ⟨r, ?_, zCs s r⟩
   simp only [resolve, invoke, builtin, Sem.run_bind, Sem.run_pure, Result.andThen_ok, List.map_toArray, List.map_cons, List.map_nil]
   rw [lnF_run (P := P) hM I hr]
   rfl
 | _ => cases h
end
end Go.Proofs.Ytjomnccladjpgaa

/-
 The step of one operation as a function on the slots' data: operations that make or write memory.
-/
namespace Go.Proofs.Ytjomnccladjpgaa
open Go Go.RowKit
set_option linter.unusedVariables false
abbrev Eff := List (Nat × A)
def app (S : Nat → A) (e : Eff) : Nat → A := e.foldl (fun S x => upd S x.1 x.2) S
def OpOK (P : Program) (pins : List Nat) (N : Nat) (op : Oper) (S S' : Nat → A) : Prop :=
 ∀ (w0 : World) (m0 : Mem) (o0 : OwnM) (G : GD) (a : Act) (w : World) (m : Mem) (o : OwnM), a.tmps.size = N → Inv w0 m0 o0 G pins S a w m o →
  ∀ (K : Act → World → Prop) (Q : Exit → Act → World → Prop), (∀ a' w' m' o', a'.tmps.size = N → Inv w0 m0 o0 G pins S' a' w' m' o' → K a' w') → op.wp P a w K Q
def okD (N : Nat) (pins : List Nat) (S : Nat → A) (d : Nat) : Bool := decide (d < N) && !(S d).isBox && !pins.contains d
theorem qA {N : Nat} {pins : List Nat} {S : Nat → A} {d : Nat} (h : okD N pins S d = true) : d < N ∧ (S d).isBox = false ∧ d ∉ pins := by
 unfold okD at h
 simp only [Bool.and_eq_true, decide_eq_true_eq, Bool.not_eq_true', List.contains_eq_mem] at h
 exact ⟨h.1.1, h.1.2, by simpa using h.2⟩
section
variable {w0 : World} {m0 : Mem} {o0 : OwnM} {G : GD} {pins : List Nat} {S M : Nat → A} {a : Act} {w : World} {m : Mem} {o : OwnM} {P : Program} {N : Nat}
theorem zV {op : Oper} {S' : Nat → A}
  (h : ∀ (w0 : World) (m0 : Mem) (o0 : OwnM) (G : GD) (a : Act) (w : World) (m : Mem) (o : OwnM), a.tmps.size = N → Inv w0 m0 o0 G pins S a w m o → ∃ v w' m' o', (execOp a.eval op).run P w = .ok (.value v) w' ∧ Inv w0 m0 o0 G pins S' (a.put op.dst v) w' m' o') : OpOK P pins N op S S' := by
 intro w0 m0 o0 G a w m o hN I K Q hK
 obtain ⟨v, w', m', o', h1, h2⟩ := h w0 m0 o0 G a w m o hN I
 unfold Oper.wp
 rw [h1]
 exact hK _ _ _ _ (by rw [zA6, hN]) h2
theorem zDv {op : Oper} {S' : Nat → A} (hd : op.dst = none)
  (h : ∀ (w0 : World) (m0 : Mem) (o0 : OwnM) (G : GD) (a : Act) (w : World) (m : Mem) (o : OwnM), a.tmps.size = N → Inv w0 m0 o0 G pins S a w m o → ∃ w' m' o', (execOp a.eval op).run P w = .ok .skip w' ∧ Inv w0 m0 o0 G pins S' a w' m' o') : OpOK P pins N op S S' := by
 intro w0 m0 o0 G a w m o hN I K Q hK
 obtain ⟨w', m', o', h1, h2⟩ := h w0 m0 o0 G a w m o hN I
 unfold Oper.wp
 rw [h1]
 show K (a.put op.dst undef) w'
 rw [hd]
 exact hK _ _ _ _ hN h2
theorem zFE (hM : Mk M S) {op : Oper} {d : Nat} (hd : op.dst = some d) (hok : okD N pins S d = true) {y : A} (h : valF P M op.op = some y) : OpOK P pins N op S (upd S d y) := by
 refine zV fun w0 m0 o0 G a w m o hN I => ?_
 obtain ⟨h1, h2, h3⟩ := qA hok
 obtain ⟨v, hv, hr⟩ := valF_run hM I op h d
 refine ⟨v, w, m, o, hv, ?_⟩
 rw [hd]
 refine I.set d y v (by omega) h2 ?_
 cases y with
 | ref b off =>
  obtain ⟨g, k1, k2, k3⟩ := hr
  refine ⟨g, k1, k2, fun hb => ?_⟩
  obtain ⟨l, k3⟩ := k3 hb
  have : b ≠ d := fun e => by subst e; rw [k3] at h2; cases h2
  exact ⟨l, by rw [zH this, k3]⟩
 | _ => exact hr
theorem take_inv (I : Inv w0 m0 o0 G pins S a w m o) {s d E k : Nat} {l : List (List D)} (hs : S s = .t (.own E k l)) (hne : s ≠ d) (hsp : s ∉ pins) (hd : d < a.tmps.size) (hbox : (S d).isBox = false) (hpin : d ∉ pins) :
  ∃ m' o', Inv w0 m0 o0 G pins (upd (upd S s (.t (.d (.seq k l)))) d (.t (.own E k l))) (a.put (some d) (a.tmps.getD s undef)) w m' o' := by
 have hown : zJ0 m w o (s, 0) E k l (a.tmps.getD s undef) := by
  have := I.slots s
  rw [hs] at this
  exact this
 have hsO : s < OB := by
  rcases Nat.lt_or_ge s a.tmps.size with h | h
  · exact Nat.lt_of_lt_of_le h I.wide
  ·
   obtain ⟨A', cap, xs, e, _⟩ := hown
   rw [Array.getD_eq_getD_getElem?, Array.getElem?_eq_none h] at e
   cases e
 have I1 := I.degrade s (by rw [hs]; rfl)
 rw [hs] at I1
 obtain ⟨o1, I2, ho1⟩ := I1.drop s hsp hsO (x := .seq k l) (by simp [upd, cpA, cpT])
 have hbox2 : (upd S s (cpA (.t (.own E k l))) d).isBox = false := by rw [zH (Ne.symm hne)]; exact hbox
 obtain ⟨A', cap, xs, e, h1, h2, h3, h4⟩ := hown
 rw [e]
 rcases zGg (w := w) (e := E) (sz := k) (n := l.length) (c := cap) (xs := xs) (by rw [e] at h1; exact h1) with rfl | ⟨g, q, rfl⟩
 · refine ⟨m, o1, I2.set d _ _ hd hbox2 ⟨none, cap, xs, rfl, by rw [e] at h1; exact h1, fun g hg => (by cases hg), h3, h4⟩⟩
 ·
  obtain ⟨hg, hm⟩ := h2 g rfl
  have hlt := I.lt g _ hg
  refine ⟨_, _, I2.own_put d _ _ (fun p => m g p) g w hd hbox2 hpin (fun l hl => ?_) (I.own g _ hg) (Same.refl _ _) hlt (fun p u h => h) (fun p u h => I.sat g p u h) ?_⟩
  ·
   obtain ⟨k1, k2⟩ := ho1 g l hl
   rw [hg] at k2
   injection k2 with k2
   exact absurd (by rw [← k2]) k1
  ·
   have hme : newM m g (fun p => m g p) = m := by
    funext b p
    unfold newM
    split
    · rename_i e; rw [e]
    · rfl
   rw [hme]
   exact ⟨some ⟨g, q, none⟩, cap, xs, rfl, by rw [e] at h1; exact h1, fun g' hg' => by injection hg' with hg'; subst hg'; exact ⟨zAD _ _ _, hm⟩, h3, h4⟩
theorem ok_take {op : Oper} {s d E k : Nat} {l : List (List D)} (hop : op.op = .move (.tmp s) ∨ op.op = .assign (.tmp s)) (hd : op.dst = some d) (hok : okD N pins S d = true) (hs : S s = .t (.own E k l)) (hne : s ≠ d) (hsp : s ∉ pins) :
  OpOK P pins N op S (upd (upd S s (.t (.d (.seq k l)))) d (.t (.own E k l))) := by
 refine zV fun w0 m0 o0 G a w m o hN I => ?_
 obtain ⟨h1, h2, h3⟩ := qA hok
 obtain ⟨m', o', J⟩ := take_inv I hs hne hsp (by omega) h2 h3
 refine ⟨_, w, m', o', ?_, by rw [hd]; exact J⟩
 unfold execOp
 rcases hop with e | e <;> (rw [e]; rfl)
theorem ok_box (hM : Mk M S) {op : Oper} {d E : Nat} {x : Operand} (hop : op.op = .box E x) (hd : op.dst = some d) (hok : okD N pins S d = true) {l : List T} (h : zEL (cpO M x) = some l) : OpOK P pins N op S (upd S d (.box l)) := by
 refine zV fun w0 m0 o0 G a w m o hN I => ?_
 obtain ⟨h1, h2, h3⟩ := qA hok
 obtain ⟨m', o', J⟩ := box_ok I E (by omega) h2 h3 (qG hM I x 0) h
 refine ⟨_, _, m', o', ?_, by rw [hd]; exact J⟩
 unfold execOp
 rw [hop]
 simp only [Sem.run_bind, box_run, Result.andThen_ok]
 rfl
theorem ok_alloc {op : Oper} {d E : Nat} (hop : op.op = .alloc E) (hd : op.dst = some d) (hok : okD N pins S d = true) {i : TypeInfo} {z : Value} (hi : P.info? E = some i) (hz : i.zero = some z) {l : List T} (h : zEL (litA z) = some l) : OpOK P pins N op S (upd S d (.box l)) := by
 refine zV fun w0 m0 o0 G a w m o hN I => ?_
 obtain ⟨h1, h2, h3⟩ := qA hok
 obtain ⟨m', o', J⟩ := box_ok I E (by omega) h2 h3 (zCs 0 z) h
 refine ⟨_, _, m', o', ?_, by rw [hd]; exact J⟩
 unfold execOp
 rw [hop]
 simp [Instr.alloc, zeroValue, typeInfo, hi, hz, newVar, newRow]
theorem ok_bsl (hM : Mk M S) {op : Oper} {d t e sz nb n : Nat} {parts : List (Nat × Operand)} (hop : op.op = .buildSlice t n parts.toArray) (hn : n = parts.length) (hd : op.dst = some d) (hok : okD N pins S d = true) (hE : elF P t = some (e, sz, nb)) {l : List (List D)}
  (h : zJw M sz 0 parts = some l) (hne : parts ≠ []) (hb : parts.length * sz ≤ 16777216) : OpOK P pins N op S (upd S d (.t (.own e sz l))) := by
 subst hn
 refine zV fun w0 m0 o0 G a w m o hN I => ?_
 obtain ⟨h1, h2, h3⟩ := qA hok
 obtain ⟨v, w', m', o', hr, J⟩ := bsl_ok hM I (zGr hE) (by omega) h2 h3 h hne hb
 refine ⟨v, w', m', o', ?_, by rw [hd]; exact J⟩
 unfold execOp
 rw [hop]
 simp only [List.map_toArray, Sem.run_bind]
 rw [hr]
 rfl
theorem ok_str (hM : Mk M S) {op : Oper} {d src dst e : Nat} {x : Operand} (hop : op.op = .convert src dst x) (hd : op.dst = some d) (hok : okD N pins S d = true) (hs : P.underlying src = some .string) (hdst : P.underlying dst = some (.slice e)) (he : P.underlying e = some (.int .u8)) {s : ByteArray}
  (h : vO M x = some (.string s)) (hsz : s.size ≤ maxLen) : OpOK P pins N op S (upd S d (.t (.d (.seq 1 (qE s.data.toList))))) := by
 refine zV fun w0 m0 o0 G a w m o hN I => ?_
 obtain ⟨h1, h2, h3⟩ := qA hok
 obtain ⟨v, w', m', o', hr, J⟩ := str_ok (P := P) I hs hdst he s hsz (by omega) h2 h3
 refine ⟨v, w', m', o', ?_, by rw [hd]; exact J⟩
 unfold execOp
 rw [hop]
 simp only [Sem.run_bind]
 rw [zB1 hM I h, hr]
 rfl
theorem ok_app (hM : Mk M S) {op : Oper} {d s t e sz nb : Nat} {y : Operand} (hop : op.op = .call { callee := .builtin .append, args := #[.tmp s, y], argTypes := #[t, t] }) (hd : op.dst = some d) (hok : okD N pins S d = true) (hE : elF P t = some (e, sz, nb))
  {l l' : List (List D)} (hs : M s = .t (.own e sz l)) (hne : s ≠ d) (hsp : s ∉ pins) (hl' : slD sz (dO M y) = some l') (hb : (l.length + l'.length) * nb ≤ 140737488355328) :
  OpOK P pins N op S (upd (upd S s (.t (.d (.seq sz l)))) d (.t (.own e sz (l ++ l')))) := by
 refine zV fun w0 m0 o0 G a w m o hN I => ?_
 obtain ⟨h1, h2, h3⟩ := qA hok
 have hS : S s = .t (.own e sz l) := by
  rcases hM s with k | k
  · rw [k] at hs; cases hs
  · rw [← k]; exact hs
 have hown : zJ0 m w o (s, 0) e sz l (a.tmps.getD s undef) := by
  have := I.slots s
  rw [hS] at this
  exact this
 have hv' : RepD m (.seq sz l') (a.eval y) := zFD hl' fun d hd => zD1 hM I hd
 have hsO : s < OB := by
  rcases Nat.lt_or_ge s a.tmps.size with h | h
  · exact Nat.lt_of_lt_of_le h I.wide
  ·
   obtain ⟨A', cap, xs, e, _⟩ := hown
   rw [Array.getD_eq_getD_getElem?, Array.getElem?_eq_none h] at e
   cases e
 have I1 := I.degrade s (by rw [hS]; rfl)
 rw [hS] at I1
 obtain ⟨o1, I2, ho1⟩ := I1.drop s hsp hsO (x := .seq sz l) (by simp [upd, cpA, cpT])
 obtain ⟨A', cap, xs, e1, k1, k2, k3, k4⟩ := hown
 have hrows : zFX m sz l xs := ⟨k1.1, k3, k4⟩
 rw [e1] at k1
 obtain ⟨v, w', m', o', hr, J⟩ := app_ok (d := d) I2 (zGr hE) (.inl rfl) op.type (by omega) (by rw [zH (Ne.symm hne)]; exact h2) h3 k1 hrows (fun g hg => by
  obtain ⟨q1, q2⟩ := k2 g hg
  refine ⟨fun l hl => ?_, I.own g _ q1, I.lt g _ q1, q2⟩
  obtain ⟨z1, z2⟩ := ho1 g l hl
  rw [q1] at z2
  injection z2 with z2
  exact absurd (by rw [← z2]) z1) hv' hb
 refine ⟨v, w', m', o', ?_, by rw [hd]; exact J⟩
 unfold execOp
 rw [hop]
 simp only [resolve, invoke, builtin, Sem.run_bind, Sem.run_pure, Result.andThen_ok, List.map_toArray, List.map_cons, List.map_nil]
 rw [show a.eval (.tmp s) = .slice A' l.length cap from e1, hr]
 rfl
theorem ok_app0 (hM : Mk M S) {op : Oper} {d t e sz nb : Nat} {x y : Operand} (hop : op.op = .call { callee := .builtin .append, args := #[x, y], argTypes := #[t, t] }) (hd : op.dst = some d) (hok : okD N pins S d = true) (hE : elF P t = some (e, sz, nb))
  {l' : List (List D)} (hs : vO M x = some (.slice none 0 0)) (hl' : slD sz (dO M y) = some l') (hb : l'.length * nb ≤ 140737488355328) :
  OpOK P pins N op S (upd S d (.t (.own e sz l'))) := by
 refine zV fun w0 m0 o0 G a w m o hN I => ?_
 obtain ⟨h1, h2, h3⟩ := qA hok
 have hv' : RepD m (.seq sz l') (a.eval y) := zFD hl' fun d hd => zD1 hM I hd
 obtain ⟨v, w', m', o', hr, J⟩ := app_ok (d := d) (l := []) I (zGr hE) (.inl rfl) op.type (by omega) h2 h3 (zE0 (World.ownsRow_nil w 0 e sz)) ⟨by simp, fun i r h => by simp at h, fun i r j d h => by simp at h⟩ (fun g hg => by cases hg) hv' (by simpa using hb)
 refine ⟨v, w', m', o', ?_, by rw [hd]; exact J⟩
 unfold execOp
 rw [hop]
 simp only [resolve, invoke, builtin, Sem.run_bind, Sem.run_pure, Result.andThen_ok, List.map_toArray, List.map_cons, List.map_nil]
 rw [zB1 hM I hs]
 simp only [List.length_nil] at hr
 rw [hr]
 rfl
theorem ok_call (hM : Mk M S) {op : Oper} {d f : Nat} {xs : List Operand} {ts : Array TypeId} {fx : Operand} (hop : op.op = .call { callee := .value fx, args := xs.toArray, argTypes := ts }) (hfx : vO M fx = some (.func (.func f) #[] #[])) (hd : op.dst = some d) (hok : okD N pins S d = true) {fn : Func} (hfn : P.funcs[f]? = some fn) (hbody : fn.body.isNone = false) (hname : (fn.name == "runtime.NumGoroutine") = false)
  {args : List A} {r : A} (hargs : zCw (xs.map (cpO M)) args) (hp : args.all A.plain = true) (hf : FC P f args [] r) (hnr : r.noRef = true) : OpOK P pins N op S (upd S d r) := by
 intro w0 m0 o0 G a w m o hN I K Q hK
 obtain ⟨h1, h2, h3⟩ := qA hok
 have key : ∀ (xs : List Operand) (args : List A), zCw (xs.map (cpO M)) args → (xs.map a.eval).length = args.length ∧ ∀ i x, args[i]? = some x → ∃ s, RepA m w o S s x ((xs.map a.eval).getD i undef) := by
  intro xs
  induction xs with
  | nil => intro args h; cases h; exact ⟨rfl, fun i x h => by simp at h⟩
  | cons y ys ih =>
   intro args h
   cases h with
   | cons hx ht =>
    obtain ⟨k1, k2⟩ := ih _ ht
    refine ⟨by simpa using k1, fun i x hi => ?_⟩
    cases i with
    | zero => injection hi with hi; subst hi; exact ⟨0, hx.rep I.sat (qG hM I y 0)⟩
    | succ i => simpa using k2 i x (by simpa using hi)
 obtain ⟨k1, k2⟩ := key xs args hargs
 have hc := zHB I hf hp (vals := (xs.map a.eval).toArray) (by simpa using k1) (fun i x hi => by simpa using k2 i x hi) (d := d) (by omega) h2 h3 hnr
 unfold Oper.wp
 have hrun : (execOp a.eval op).run P w = .ok (.enter f (xs.map a.eval).toArray) w := by
  unfold execOp
  rw [hop]
  simp only [resolve, zB1 hM I hfx, Deferred.ofValue, List.map_toArray]
  have hb : fn.body ≠ none := fun e => by rw [e] at hbody; cases hbody
  have hn : fn.name ≠ "runtime.NumGoroutine" := fun e => by rw [e] at hname; simp at hname
  simp [invoke, callFunc, hfn, hn, hb]
 rw [hrun]
 refine Calls.mono hc ?_
 rintro e w' ⟨u, m', o', rfl, J⟩
 rw [← hd] at J
 exact hK _ _ _ _ (by rw [zA6, hN]) J
end
end Go.Proofs.Ytjomnccladjpgaa

/-
 Struct literals and stores, told by data.
-/
namespace Go.Proofs.Ytjomnccladjpgaa
open Go Go.RowKit
set_option linter.unusedVariables false
def qT {α : Type} (l : List α) (off : Nat) (c : List α) : List α := l.take off ++ c ++ l.drop (off + c.length)
theorem zAV {α : Type} (l : List α) (off : Nat) (c : List α) (h : off + c.length ≤ l.length) : (qT l off c).length = l.length := by
 unfold qT
 simp
 omega
theorem zBi {α : Type} (l : List α) (off : Nat) (c : List α) (h : off + c.length ≤ l.length) (k : Nat) : (qT l off c)[k]? = if off ≤ k ∧ k < off + c.length then c[k - off]? else l[k]? := by
 unfold qT
 by_cases h1 : k < off
 · rw [if_neg (by omega), List.append_assoc, List.getElem?_append_left (by simp; omega), List.getElem?_take, if_pos h1]
 ·
  by_cases h2 : k < off + c.length
  ·
   rw [if_pos ⟨by omega, h2⟩, List.getElem?_append_left (by simp; omega), List.getElem?_append_right (by simp; omega)]
   simp [Nat.min_eq_left (show off ≤ l.length by omega)]
  ·
   rw [if_neg (by omega), List.getElem?_append_right (by simp; omega), List.getElem?_drop]
   congr 1
   simp
   omega
def fillD (M : Nat → A) (place : Nat → Option (Nat × Nat)) : List D → List (Nat × Operand) → Option (List D)
 | ds, [] => some ds
 | ds, (i, x) :: r => match place i, cellsO (cpO M x) with
  | some (off, size), some c => if c.length = size ∧ off + size ≤ ds.length then fillD M place (qT ds off c) r else none
  | _, _ => none
def zHs (P : Program) (t : TypeId) : Option (Nat → Option (Nat × Nat)) := match P.underlying t with
 | some (.struct fields) => (fields.toList.mapM (fun f => (P.info? f.type).map fun i => (f.offset, i.size))).map fun l => (l[·]?)
 | some (.array _ e) => (P.info? e).map fun i => fun k => some (k * i.size, i.size)
 | _ => none
def bdF (P : Program) (M : Nat → A) (t : TypeId) (parts : List (Nat × Operand)) : Option A := match P.info? t with
 | some it => match it.zero, zHs P t with
  | some z, some place => match z with
   | .agg cs => if cs.toList.all (·.oneCell') then (fillD M place (cs.toList.map .lit) parts).map fun l => .t (.agg l) else none
   | _ => none
  | _, _ => none
 | none => none
section
variable {w0 : World} {m0 : Mem} {o0 : OwnM} {G : GD} {pins : List Nat} {S M : Nat → A} {a : Act} {w : World} {m : Mem} {o : OwnM} {P : Program} {N : Nat}
theorem zHu (hM : Mk M S) (I : Inv w0 m0 o0 G pins S a w m o) {place : Nat → Option (Nat × Nat)} : ∀ (parts : List (Nat × Operand)) (ds ds' : List D) (cells : Array Value), fillD M place ds parts = some ds' → RepL m ds cells.toList →
  ∃ cells', Instr.fill place cells (parts.map fun x => (x.1, a.eval x.2)) = some cells' ∧ RepL m ds' cells'.toList
 | [], ds, ds', cells, h, hr => by injection h with h; subst h; exact ⟨cells, rfl, hr⟩
 | (i, x) :: r, ds, ds', cells, h, hr => by
  unfold fillD at h
  split at h
  ·
   rename_i off size c hp hc
   split at h
   ·
    rename_i hsz
    have hx := zGx hc (qG hM I x 0)
    have hvl : (a.eval x).cells.size = size := by have := hx.1; simp at this; omega
    have hcl : ds.length = cells.size := by have := hr.1; simpa using this.symm
    obtain ⟨g1, g2⟩ := Great.foldl_set off (a.eval x).cells.toList 0 cells
    have hr2 : RepL m (qT ds off c) (((a.eval x).cells.toList.zipIdx 0).foldl (fun cs (x : Value × Nat) => cs.setIfInBounds (off + x.2) x.1) cells).toList := by
     refine ⟨by simp only [Array.length_toList]; rw [g1, zAV _ _ _ (by omega), hcl], fun j d hj => ?_⟩
     rw [zBi _ _ _ (by omega)] at hj
     rw [Array.getElem?_toList, g2 j]
     simp only [Nat.add_zero, Array.length_toList, hvl]
     split at hj
     ·
      rename_i hjo
      rw [if_pos (by omega)]
      exact hx.2 _ d hj
     ·
      rename_i hjo
      rw [if_neg (by omega)]
      have := hr.2 j d hj
      simpa using this
    obtain ⟨cells', h1, h2⟩ := zHu hM I r _ ds' _ h hr2
    refine ⟨cells', ?_, h2⟩
    rw [List.map_cons]
    unfold Instr.fill
    simp only [hp, hvl]
    rw [if_neg (by simp; omega), ← h1]
    congr 1
    rw [← Array.foldl_toList, Array.toList_zipIdx]
   · cases h
  · cases h
theorem bdF_run (hM : Mk M S) (I : Inv w0 m0 o0 G pins S a w m o) {t : TypeId} {parts : List (Nat × Operand)} {y : A} (h : bdF P M t parts = some y) : ∀ s, ∃ v, (Instr.build t (parts.map fun x => (x.1, a.eval x.2)).toArray).run P w = .ok v w ∧ RepA m w o S s y v := by
 intro s
 unfold bdF at h
 split at h
 case h_2 => cases h
 rename_i it hit
 split at h
 case h_2 => cases h
 rename_i z place hz hp
 split at h
 case h_2 => cases h
 rename_i cs
 split at h
 case isFalse => cases h
 rename_i hall
 cases hf : fillD M place (cs.toList.map .lit) parts with
 | none => rw [hf] at h; cases h
 | some ds' =>
  rw [hf] at h
  injection h with h
  subst h
  have hr0 : RepL m (cs.toList.map .lit) cs.toList := by
   refine ⟨by simp, fun j d hj => ?_⟩
   rw [List.getElem?_map] at hj
   cases hu : cs.toList[j]? with
   | none => rw [hu] at hj; cases hj
   | some u =>
    rw [hu] at hj
    injection hj with hj
    subst hj
    exact ⟨u, rfl, .lit u (List.all_eq_true.1 hall u (List.mem_of_getElem? hu))⟩
  obtain ⟨cells', h1, h2⟩ := zHu hM I parts _ ds' cs hf hr0
  refine ⟨.agg cells', run_build w t _ cells' ?_, cells', rfl, h2⟩
  unfold Program.built
  unfold zHs at hp
  split at hp
  ·
   rename_i fields hu
   rw [hit, hu]
   simp only [hz]
   cases hq : fields.toList.mapM (fun f => (P.info? f.type).map fun i => (f.offset, i.size)) with
   | none => rw [hq] at hp; cases hp
   | some places =>
    rw [hq] at hp
    injection hp with hp
    subst hp
    simp only [Value.cells]
    rw [← h1]
    congr 1
    funext k
    simp
  ·
   rename_i n e hu
   rw [hit, hu]
   simp only [hz]
   cases hq : P.info? e with
   | none => rw [hq] at hp; cases hp
   | some ie =>
    rw [hq] at hp
    injection hp with hp
    subst hp
    exact h1
  · cases hp
theorem bdF_shape {t : TypeId} {parts : List (Nat × Operand)} {y : A} (h : bdF P M t parts = some y) : ∃ ds, y = .t (.agg ds) := by
 unfold bdF at h
 split at h
 case h_2 => cases h
 split at h
 case h_2 => cases h
 split at h
 case h_2 => cases h
 split at h
 case isFalse => cases h
 obtain ⟨ds, _, e⟩ := Option.map_eq_some_iff.1 h
 exact ⟨ds, e.symm⟩
theorem ok_build (hM : Mk M S) {op : Oper} {d t : Nat} {parts : List (Nat × Operand)} (hop : op.op = .build t parts.toArray) (hd : op.dst = some d) (hok : okD N pins S d = true) {y : A} (h : bdF P M t parts = some y) : OpOK P pins N op S (upd S d y) := by
 refine zV fun w0 m0 o0 G a w m o hN I => ?_
 obtain ⟨h1, h2, h3⟩ := qA hok
 obtain ⟨v, hv, hr⟩ := bdF_run hM I h d
 refine ⟨v, w, m, o, ?_, ?_⟩
 ·
  unfold execOp
  rw [hop]
  simp only [List.map_toArray, Sem.run_bind]
  rw [hv]
  rfl
 ·
  rw [hd]
  refine I.set d y v (by omega) h2 ?_
  obtain ⟨ds, rfl⟩ := bdF_shape h
  exact hr
def T.cell : T → Bool
 | .own _ _ _ | .agg _ | .xs _ _ _ _ => false
 | _ => true
def zCY : A → Option (List T)
 | .t (.d x) => some [.d x]
 | .t (.agg l) => some (l.map .d)
 | .ref b off => if OB ≤ b then some [.ptr (b - OB) off] else none
 | .t (.view j off E k n) => some [.view j off E k n]
 | .t (.hpt c off) => some [.hpt c off]
 | .t (.hvw c off E k n) => some [.hvw c off E k n]
 | .t (.mpt j) => some [.mpt j]
 | .ag l => if l.all T.cell then some l else none
 | _ => none
theorem zCS {s : Nat} {y : A} {v : Value} {l : List T} (hl : zCY y = some l) (hy : RepA m w o S s y v) : v.cells.toList.length = l.length ∧ (∀ u ∈ v.cells.toList, u.oneCell' = true) ∧ ∀ (j : Nat) (x : T), l[j]? = some x → x.isAgg = false ∧ ∃ u, v.cells.toList[j]? = some u ∧ ∀ (w' : World) (loc : Nat × Nat), (∀ g, zBA w w' g) → RepT m w' o loc x u := by
 have one : ∀ u : Value, v.cells = #[u] → u.oneCell' = true → ∀ x : T, l = [x] → x.isAgg = false → (∀ (w' : World) (loc : Nat × Nat), (∀ g, zBA w w' g) → RepT m w' o loc x u) → v.cells.toList.length = l.length ∧ (∀ u ∈ v.cells.toList, u.oneCell' = true) ∧ ∀ (j : Nat) (x : T), l[j]? = some x → x.isAgg = false ∧ ∃ u, v.cells.toList[j]? = some u ∧ ∀ (w' : World) (loc : Nat × Nat), (∀ g, zBA w w' g) → RepT m w' o loc x u := by
  intro u hv h1 x e ha hr
  subst e
  rw [hv]
  refine ⟨rfl, fun u' hu => by simp at hu; subst hu; exact h1, fun j y hj => ?_⟩
  cases j with
  | zero => injection hj with hj; subst hj; exact ⟨ha, u, rfl, hr⟩
  | succ j => simp at hj
 cases y with
 | t z =>
  cases z with
  | d x =>
   injection hl with hl
   have hy : RepD m x v := hy
   exact one v hy.cells hy.one (.d x) hl.symm rfl fun _ _ _ => hy
  | agg ds =>
   injection hl with hl
   subst hl
   obtain ⟨vs, e, h⟩ := hy
   subst e
   refine ⟨by rw [List.length_map]; exact h.1, fun u hu => ?_, fun j x hj => ?_⟩
   ·
    obtain ⟨j, hj⟩ := List.getElem?_of_mem hu
    have hlt : j < ds.length := by rw [← h.1]; exact (List.getElem?_eq_some_iff.1 hj).1
    obtain ⟨u', h1, h2⟩ := h.2 j _ (List.getElem?_eq_getElem hlt)
    have hj : vs.toList[j]? = some u := hj
    rw [h1] at hj
    injection hj with hj
    subst hj
    exact h2.one
   ·
    rw [List.getElem?_map] at hj
    cases hd : ds[j]? with
    | none => rw [hd] at hj; cases hj
    | some e =>
     rw [hd] at hj
     injection hj with hj
     subst hj
     obtain ⟨u, h1, h2⟩ := h.2 j e hd
     exact ⟨rfl, u, h1, fun _ _ _ => h2⟩
  | own E k l => cases hl
  | xs E k l rv => (first | exact h | exact hr | exact k2 | exact k3 | exact h4 | exact h5 | exact id | trivial | (cases hp; done) | (cases hx; done) | (cases hl; done) | (obtain ⟨A1, c1, xs1, e1, _⟩ := h; subst e1; rfl) | (obtain ⟨A1, c1, xs1, e1, _⟩ := hr; subst e1; rfl) | rfl)
  | any => cases hl
  | ptr j off => cases hl
  | view j off E k n =>
   injection hl with hl
   have hy2 := hy
   obtain ⟨A', c, h1, h2, h3, h4⟩ := hy
   subst h3
   exact one _ rfl rfl (.view j off E k n) hl.symm rfl fun w2 loc hs => zCG (m := m) (m' := m) (o := o) (loc := (0, 0)) (fun _ _ h => h) (fun g _ _ => hs g) hy2
  | hpt c off =>
   injection hl with hl
   obtain ⟨g, h1, h2⟩ := hy
   subst h2
   exact one _ rfl rfl (.hpt c off) hl.symm rfl fun _ _ _ => ⟨g, h1, rfl⟩
  | mpt c =>
   injection hl with hl
   obtain ⟨g, h1, h2⟩ := hy
   subst h2
   exact one _ rfl rfl (.mpt c) hl.symm rfl fun _ _ _ => ⟨g, h1, rfl⟩
  | hvw c off E k n =>
   injection hl with hl
   have hy2 := hy
   obtain ⟨A', q, h1, h2, h3, h4⟩ := hy
   subst h3
   exact one _ rfl rfl (.hvw c off E k n) hl.symm rfl fun w2 loc hs => zDe (m := m) (m' := m) (o := o) (loc := (0, 0)) (fun _ _ h => h) (fun g _ _ => hs g) hy2
 | ref b off =>
  have hl : (if OB ≤ b then some [T.ptr (b - OB) off] else none) = some l := hl
  split at hl
  case isFalse => cases hl
  rename_i hb
  injection hl with hl
  obtain ⟨g, h1, h2, _⟩ := hy
  subst h2
  refine one _ rfl rfl (.ptr (b - OB) off) hl.symm rfl fun _ _ _ => ⟨g, ?_, rfl⟩
  rw [show OB + (b - OB) = b by omega]
  exact h1
 | ag ls =>
  have hl : (if ls.all T.cell then some ls else none) = some l := hl
  split at hl
  case isFalse => cases hl
  rename_i hc
  injection hl with hl
  subst hl
  obtain ⟨vs, e, h1, h2⟩ := hy
  subst e
  refine ⟨(show vs.toList.length = ls.length by simpa using h1), fun u hu => ?_, fun j x hj => ?_⟩
  ·
   obtain ⟨j, hj⟩ := List.getElem?_of_mem hu
   have hj : vs.toList[j]? = some u := hj
   have hlt : j < ls.length := by rw [← h1]; simpa using (List.getElem?_eq_some_iff.1 hj).1
   obtain ⟨u', k1, k2, _⟩ := h2 j _ (List.getElem?_eq_getElem hlt)
   rw [Array.getElem?_toList, k1] at hj
   injection hj with hj
   subst hj
   exact k2
  ·
   have hx := List.all_eq_true.1 hc x (List.mem_of_getElem? hj)
   obtain ⟨u, k1, k2, k3⟩ := h2 j x hj
   refine ⟨(by cases x <;> first | rfl | (cases hx; done)), u, (show vs.toList[j]? = some u by simpa using k1), fun w' loc hs => ?_⟩
   cases x with
   | d x => exact k3
   | own E k l => cases hx
   | agg l => cases hx
   | ptr j off => exact k3
   | hpt c off => exact k3
   | mpt c => exact k3
   | xs E k l rv => (first | exact h | exact hr | exact k2 | exact k3 | exact h4 | exact h5 | exact id | trivial | (cases hp; done) | (cases hx; done) | (cases hl; done) | (obtain ⟨A1, c1, xs1, e1, _⟩ := h; subst e1; rfl) | (obtain ⟨A1, c1, xs1, e1, _⟩ := hr; subst e1; rfl) | rfl)
   | any => exact k3
   | view j off E k n => exact zCG (m' := m) (fun _ _ h => h) (fun g _ _ => hs g) k3
   | hvw c off E k n => exact zDe (m' := m) (fun _ _ h => h) (fun g _ _ => hs g) k3
 | _ => cases hl
def stF (P : Program) (pins : List Nat) (M : Nat → A) (t : TypeId) (x y : Operand) : Option Eff := match cpO M x, P.info? t with
 | .ref b off, some i => match M b with
  | .box l => match y with
   | .tmp s => match M s with
    | .t (.own E k ls) => if i.size = 1 ∧ off < l.length ∧ s ≠ b ∧ pins.contains s = false then some [(s, .t (.d (.seq k ls))), (b, .box (l.set off (.own E k ls)))] else none
    | _ => match zCY (cpO M (.tmp s)) with
     | some c => if c.length = i.size ∧ off + i.size ≤ l.length then some [(b, .box (qT l off c))] else none
     | none => none
   | y => match zCY (cpO M y) with
    | some c => if c.length = i.size ∧ off + i.size ≤ l.length then some [(b, .box (qT l off c))] else none
    | none => none
  | _ => none
 | _, _ => none
theorem zDF {t : TypeId} {i : TypeInfo} (hi : P.info? t = some i) {g off : Nat} {cs : Array Value} {E : Nat} (hcs : w.heap[g]? = some (.cells cs E (0, 0))) {v : Value} (hv : v.cells.size = i.size) (h1 : ∀ u ∈ v.cells.toList, u.oneCell' = true) (hle : off + i.size ≤ cs.size) :
  (Instr.storeAt t (.pointer (some ⟨g, off, none⟩)) v).run P w = .ok () (w.setRow g (qT cs.toList off v.cells.toList).toArray) := by
 have hst := run_storeCells_at P g off E v.cells.toList 0 cs w hcs (by simp; omega) h1
 simp only [Nat.add_zero] at hst
 simp only [Instr.storeAt, Instr.sureAddr, Sem.run_bind, Sem.run_pure, Result.andThen_ok]
 simp only [storeVar, sizeOf, typeInfo, Sem.run_bind, run_program, Result.andThen_ok, hi, Sem.run_pure, hv]
 rw [if_neg (by simp)]
 exact hst
theorem zG8 (hM : Mk M S) {op : Oper} {t b off : Nat} {x y : Operand} (hop : op.op = .store t x y) (hd : op.dst = none) {i : TypeInfo} (hi : P.info? t = some i) (hx : cpO M x = .ref b off) {l : List T} (hb : M b = .box l) {c : List T} (hc : zCY (cpO M y) = some c) (hsz : c.length = i.size) (hle : off + i.size ≤ l.length) :
  OpOK P pins N op S (upd S b (.box (qT l off c))) := by
 refine zDv hd fun w0 m0 o0 G a w m o hN I => ?_
 have hxr := qG hM I x 0
 rw [hx] at hxr
 obtain ⟨g, h1, e, _⟩ := hxr
 have hSb := zJT hM hb
 have hs := I.slots b
 rw [hSb] at hs
 obtain ⟨g', hv', h2, h3, cs, E, h4, h5, h6⟩ := hs
 have := I.inj _ _ _ h1 h2
 subst this
 have hyr := zCS hc (qG hM I y 0)
 have hvl : (a.eval y).cells.size = i.size := by have := hyr.1; simp at this; omega
 have hone := hyr.2.1
 have hrun := zDF (P := P) (w := w) (off := off) hi h4 hvl hone (by omega)
 have hcl : (a.eval y).cells.toList.length = c.length := hyr.1
 have hsp : (qT cs.toList off (a.eval y).cells.toList).length = cs.toList.length := zAV cs.toList off (a.eval y).cells.toList (by simp only [Array.length_toList]; omega)
 refine ⟨_, m, o, ?_, I.box_put hSb h1 h4 (cs' := (qT cs.toList off (a.eval y).cells.toList).toArray) ?_ o (fun _ => False) (fun s h => h.elim) (fun g l h _ _ => h) h1 (fun g l h => ⟨l, h⟩) I.inj (fun g l l' h h' k => by rw [h] at h'; injection h' with h'; rw [h']; exact k) ?_ (fun j z hj => ?_)⟩
 ·
  unfold execOp
  rw [hop]
  simp only [Sem.run_bind]
  rw [e, hrun]
  rfl
 · simpa using hsp
 · exact zAV l off c (by omega)
 ·
  have hcs2 : (qT cs.toList off (a.eval y).cells.toList).toArray[j]? = (qT cs.toList off (a.eval y).cells.toList)[j]? := by simp
  rw [hcs2, zBi cs.toList off (a.eval y).cells.toList (by simp only [Array.length_toList] at hcl ⊢; omega)]
  rw [zBi l off c (by omega)] at hj
  rw [hcl]
  split at hj
  ·
   rename_i hjo
   rw [if_pos hjo]
   obtain ⟨k0, u, k1, k2⟩ := hyr.2.2 _ z hj
   exact ⟨k0, u, k1, k2 _ _ (zAb h4 (by simpa using hsp))⟩
  ·
   rename_i hjo
   rw [if_neg hjo]
   obtain ⟨k0, u, k1, k2⟩ := h6 j z hj
   refine ⟨k0, u, by simpa using k1, ?_⟩
   cases z with
   | d x => exact k2
   | agg l => cases k0
   | ptr j off => exact k2
   | view j off E k n => exact zCG (m' := m) (fun _ _ h => h) (fun g _ _ => zAb h4 (by simpa using hsp) g) k2
   | hpt c off => exact k2
   | mpt c => exact k2
   | xs E' k ls rv =>
    obtain ⟨A', cap, xs, e1, q1, q2, q3, q4⟩ := k2
    refine ⟨A', cap, xs, e1, zA3 q1 fun g2 hg2 => ?_, q2, q3, q4⟩
    rw [e1, qR] at hg2
    refine setRow_other w g g2 _ fun e2 => ?_
    subst e2
    have := (q2 _ hg2).1
    rw [h1] at this
    injection this with this
    injection this with _ this
    cases this
   | any => exact k2
   | hvw c off E k n => exact zDe (m' := m) (fun _ _ h => h) (fun g _ _ => zAb h4 (by simpa using hsp) g) k2
   | own E' k ls =>
    obtain ⟨A', cap, xs, e1, q1, q2, q3, q4⟩ := k2
    refine ⟨A', cap, xs, e1, zA3 q1 fun g2 hg2 => ?_, q2, q3, q4⟩
    rw [e1, qR] at hg2
    refine setRow_other w g g2 _ fun e2 => ?_
    subst e2
    have := (q2 _ hg2).1
    rw [h1] at this
    injection this with this
    injection this with _ this
    cases this
theorem zFa (hM : Mk M S) {op : Oper} {t b off s E' k : Nat} {ls : List (List D)} {x : Operand} (hop : op.op = .store t x (.tmp s)) (hd : op.dst = none) {i : TypeInfo} (hi : P.info? t = some i) (hsz : i.size = 1) (hx : ∀ {w0 m0 o0 G a w m o}, Inv w0 m0 o0 G pins S a w m o → ∃ g, o g = some (b, 0) ∧ a.eval x = .pointer (some ⟨g, off, none⟩)) {l : List T} (hSb : S b = .box l) (hs : M s = .t (.own E' k ls)) (hoff : off < l.length) (hne : s ≠ b) (hsp : s ∉ pins) :
  OpOK P pins N op S (upd (upd S s (.t (.d (.seq k ls)))) b (.box (l.set off (.own E' k ls)))) := by
 refine zDv hd fun w0 m0 o0 G a w m o hN I => ?_
 obtain ⟨g, h1, e⟩ := hx I
 have hss : S s = .t (.own E' k ls) := by
  rcases hM s with q | q
  · rw [q] at hs; cases hs
  · rw [← q]; exact hs
 have hsl := I.slots b
 rw [hSb] at hsl
 obtain ⟨g', hv', h2, h3, cs, E, h4, h5, h6⟩ := hsl
 have := I.inj _ _ _ h1 h2
 subst this
 have hown : zJ0 m w o (s, 0) E' k ls (a.tmps.getD s undef) := by
  have := I.slots s
  rw [hss] at this
  exact this
 have I1 := I.degrade s (by rw [hss]; rfl)
 rw [hss] at I1
 obtain ⟨A', cap, xs, e1, q1, q2, q3, q4⟩ := hown
 have hev : a.eval (.tmp s) = .slice A' ls.length cap := e1
 have hrun := zDF (P := P) (w := w) (off := off) hi h4 (v := a.eval (.tmp s)) (by rw [hev, hsz]; rfl) (by rw [hev]; intro u hu; simp [Value.cells] at hu; subst hu; rfl) (by omega)
 have hcells : (a.eval (.tmp s)).cells.toList = [.slice A' ls.length cap] := by rw [hev]; rfl
 rw [hcells] at hrun
 let o' : OwnM := fun x => if o x = some (s, 0) then some (b, off + 1) else if o x = some (b, off + 1) ∨ (o x).map (·.1) = some s then none else o x
 have ho1 : ∀ x loc, o x = some loc → loc.1 ≠ s → loc ≠ (b, off + 1) → o' x = some loc := by
  intro x loc h ha hb
  show (if _ then _ else _) = _
  rw [if_neg (by rw [h]; intro e; injection e with e; exact ha (by rw [e])), if_neg, h]
  rintro (e | e)
  · rw [h] at e; injection e with e; exact hb e
  · rw [h] at e; injection e with e; exact ha e
 have ho2 : ∀ x loc, o' x = some loc → (o x = some (s, 0) ∧ loc = (b, off + 1)) ∨ (o x = some loc ∧ loc ≠ (b, off + 1)) := by
  intro x loc h
  change (if _ then _ else _) = _ at h
  split at h
  ·
   rename_i h'
   injection h with h
   exact .inl ⟨h', h.symm⟩
  ·
   split at h
   · cases h
   ·
    rename_i hn
    exact .inr ⟨h, fun e => hn (.inl (by rw [h, e]))⟩
 have hsp1 : (qT cs.toList off [Value.slice A' ls.length cap]).length = cs.toList.length := zAV cs.toList off _ (by simp; omega)
 have hsO : s < OB := by
  rcases Nat.lt_or_ge s a.tmps.size with h | h
  · exact Nat.lt_of_lt_of_le h I.wide
  ·
   rw [Array.getD_eq_getD_getElem?, Array.getElem?_eq_none h] at e1
   cases e1
 refine ⟨_, m, o', ?_, I1.box_put (b := b) (l := l) (l' := l.set off (.own E' k ls)) (by rw [zH (Ne.symm hne)]; exact hSb) h1 h4 (cs' := (qT cs.toList off [Value.slice A' ls.length cap]).toArray) (by simpa using hsp1) o' (fun x => x = s) (fun x hx => ?_) (fun x loc h ha hb => ho1 x loc h ha (fun e => hb (by rw [e]))) ?_ (fun x loc h => ?_) (fun x y loc h h' => ?_) (fun x loc loc' h h' k => ?_) (by simp) (fun j z hj => ?_)⟩
 ·
  unfold execOp
  rw [hop]
  simp only [Sem.run_bind]
  rw [e, hrun]
  rfl
 ·
  subst hx
  exact ⟨hsO, hsp, .seq k ls, by rw [zZ]; rfl⟩
 · exact ho1 g _ h1 (fun e => hne e.symm) (by intro e; injection e with _ e; omega)
 · rcases ho2 x loc h with ⟨h, _⟩ | ⟨h, _⟩ <;> exact ⟨_, h⟩
 ·
  rcases ho2 x loc h with ⟨k1, k2⟩ | ⟨k1, k2⟩ <;> rcases ho2 y loc h' with ⟨k3, k4⟩ | ⟨k3, k4⟩
  · exact I.inj _ _ _ k1 k3
  · exact absurd k2 k4
  · exact absurd k4 k2
  · exact I.inj _ _ _ k1 k3
 ·
  rcases ho2 x loc h with ⟨k1, k2⟩ | ⟨k1, k2⟩
  · rw [k2]; exact .inr rfl
  · rw [k1] at h'; injection h' with h'; rw [h']; exact k
 ·
  have hcs2 : (qT cs.toList off [Value.slice A' ls.length cap]).toArray[j]? = (qT cs.toList off [Value.slice A' ls.length cap])[j]? := by simp
  rw [hcs2, zBi cs.toList off _ (by simp; omega)]
  simp only [List.length_cons, List.length_nil, Nat.zero_add]
  rw [List.getElem?_set] at hj
  by_cases hjo : off = j
  ·
   subst hjo
   rw [if_pos rfl, if_pos hoff] at hj
   injection hj with hj
   subst hj
   rw [if_pos ⟨Nat.le_refl _, by omega⟩]
   refine ⟨rfl, .slice A' ls.length cap, by simp, A', cap, xs, rfl, zA3 (by rw [← e1]; exact q1) fun g2 hg2 => ?_, fun g2 hg2 => ?_, q3, q4⟩
   ·
    rw [qR] at hg2
    refine setRow_other w g g2 _ fun e2 => ?_
    subst e2
    have := (q2 _ hg2).1
    rw [h1] at this
    injection this with this
    injection this with this _
    exact hne this.symm
   ·
    obtain ⟨z1, z2⟩ := q2 g2 hg2
    refine ⟨?_, z2⟩
    show (if _ then _ else _) = _
    rw [if_pos z1]
  ·
   rw [if_neg hjo] at hj
   rw [if_neg (by omega)]
   obtain ⟨k0, u, k1, k2⟩ := h6 j z hj
   refine ⟨k0, u, by simpa using k1, ?_⟩
   cases z with
   | d x => exact k2
   | agg l => cases k0
   | ptr j2 off2 =>
    obtain ⟨g2, z1, z2⟩ := k2
    exact ⟨g2, ho1 g2 _ z1 (zE1 hsO) (fun e => by injection e with _ e; omega), z2⟩
   | view j2 off2 E2 k2 n2 =>
    exact zCG (m' := m) (fun g2 j2 y1 => ho1 g2 _ y1 (zE1 hsO) (fun e => by injection e with _ e; omega)) (fun g2 _ _ => zAb h4 (by simp [qT]; omega) g2) k2
   | hpt c off2 =>
    obtain ⟨g2, z1, z2⟩ := k2
    exact ⟨g2, ho1 g2 _ z1 (zE1 hsO) (fun e => by injection e with _ e; omega), z2⟩
   | xs E2 k ls rv =>
    obtain ⟨A', cap, xs, e1, q1, q2, q3, q4⟩ := k2
    refine ⟨A', cap, xs, e1, zA3 q1 fun g2 hg2 => ?_, fun g2 hg2 => ?_, q3, q4⟩
    ·
     rw [e1, qR] at hg2
     refine setRow_other w g g2 _ fun e2 => ?_
     subst e2
     have := (q2 _ hg2).1
     rw [h1] at this
     injection this with this
     injection this with _ this
     cases this
    ·
     obtain ⟨z1, z2⟩ := q2 g2 hg2
     refine ⟨ho1 g2 _ z1 (fun e => hne e.symm) (fun e => ?_), z2⟩
     injection e with _ e
     omega
   | any => exact k2
   | mpt c =>
    obtain ⟨g2, z1, z2⟩ := k2
    exact ⟨g2, ho1 g2 _ z1 (zE1 hsO) (fun e => by injection e with _ e; omega), z2⟩
   | hvw c off2 E2 k9 n2 =>
    exact zDe (m' := m) (fun g2 j2 y1 => ho1 g2 _ y1 (zE1 hsO) (fun e => by injection e with _ e; omega)) (fun g2 _ _ => zAb h4 (by simp [qT]; omega) g2) k2
   | own E2 k ls =>
    obtain ⟨A', cap, xs, e1, q1, q2, q3, q4⟩ := k2
    refine ⟨A', cap, xs, e1, zA3 q1 fun g2 hg2 => ?_, fun g2 hg2 => ?_, q3, q4⟩
    ·
     rw [e1, qR] at hg2
     refine setRow_other w g g2 _ fun e2 => ?_
     subst e2
     have := (q2 _ hg2).1
     rw [h1] at this
     injection this with this
     injection this with _ this
     cases this
    ·
     obtain ⟨z1, z2⟩ := q2 g2 hg2
     refine ⟨ho1 g2 _ z1 (fun e => hne e.symm) (fun e => ?_), z2⟩
     injection e with _ e
     omega
theorem zIE (hM : Mk M S) {op : Oper} {t b off s E' k : Nat} {ls : List (List D)} {x : Operand} (hop : op.op = .store t x (.tmp s)) (hd : op.dst = none) {i : TypeInfo} (hi : P.info? t = some i) (hsz : i.size = 1) (hx : cpO M x = .ref b off) {l : List T} (hb : M b = .box l) (hs : M s = .t (.own E' k ls)) (hoff : off < l.length) (hne : s ≠ b) (hsp : s ∉ pins) :
  OpOK P pins N op S (upd (upd S s (.t (.d (.seq k ls)))) b (.box (l.set off (.own E' k ls)))) := by
 refine zFa hM hop hd hi hsz (fun {w0 m0 o0 G a w m o} I => ?_) (zJT hM hb) hs hoff hne hsp
 have hxr := qG hM I x 0
 rw [hx] at hxr
 obtain ⟨g, h1, e, _⟩ := hxr
 exact ⟨g, h1, e⟩
theorem stF_ok (hM : Mk M S) {op : Oper} {t : Nat} {x y : Operand} (hop : op.op = .store t x y) (hd : op.dst = none) {eff : Eff} (h : stF P pins M t x y = some eff) : OpOK P pins N op S (app S eff) := by
 unfold stF at h
 split at h
 case h_2 => cases h
 rename_i b off i hx hi
 split at h
 case h_2 => cases h
 rename_i l hb
 have hdat : ∀ y, op.op = .store t x y → ∀ c, zCY (cpO M y) = some c → (if c.length = i.size ∧ off + i.size ≤ l.length then some [(b, A.box (qT l off c))] else none) = some eff → OpOK P pins N op S (app S eff) := by
  intro y hop c hc h
  split at h
  ·
   rename_i hcond
   injection h with h
   subst h
   exact zG8 hM hop hd hi hx hb hc hcond.1 hcond.2
  · cases h
 split at h
 ·
  rename_i s
  split at h
  ·
   rename_i E k ls hs
   split at h
   ·
    rename_i hc
    injection h with h
    subst h
    exact zIE hM hop hd hi hc.1 hx hb hs hc.2.1 hc.2.2.1 (by simpa using hc.2.2.2)
   · cases h
  ·
   split at h
   ·
    rename_i c hc
    exact hdat _ hop c hc h
   · cases h
 ·
  split at h
  ·
   rename_i c hc
   exact hdat _ hop c hc h
  · cases h
end
end Go.Proofs.Ytjomnccladjpgaa

/-
 Bytes to text, cutting slices and texts, told by data.
-/
namespace Go.Proofs.Ytjomnccladjpgaa
open Go Go.RowKit
set_option linter.unusedVariables false
def isB (l : List (List D)) : Prop := ∀ r, r ∈ l → ∃ n, r = [.lit (.int .u8 n)]
def numR : List D → Int | [.lit (.int _ n)] => n | _ => 0
def strD (l : List (List D)) : ByteArray := strOfNums (l.map numR)
theorem isB_bytes (x : List UInt8) : isB (qE x) := by
 intro r hr
 obtain ⟨b, _, rfl⟩ := List.mem_map.1 hr
 exact ⟨_, rfl⟩
theorem zJm (x : List UInt8) : strD (qE x) = ⟨x.toArray⟩ := by
 unfold strD strOfNums qE
 rw [List.map_map, List.map_map]
 congr 1
 congr 1
 conv => rhs; rw [← List.map_id x]
 refine List.map_congr_left fun b _ => ?_
 simp [numR]
def bndO (M : Nat → A) : Option Operand → Option (Option Int)
 | none => some none
 | some x => match vO M x with
  | some (.int _ n) => some (some n)
  | _ => none
def cutL (l : List (List D)) (lo hi : Option Int) : List (List D) := (l.take ((hi.map Int.toNat).getD l.length)).drop ((lo.map Int.toNat).getD 0)
def cutOK (len : Nat) (lo hi mx : Option Int) : Prop := 0 ≤ lo.getD 0 ∧ lo.getD 0 ≤ hi.getD len ∧ hi.getD len ≤ mx.getD len ∧ mx.getD len ≤ len ∧ (mx.isSome = true → hi.isSome = true)
section
variable {w0 : World} {m0 : Mem} {o0 : OwnM} {G : GD} {pins : List Nat} {S M : Nat → A} {a : Act} {w : World} {m : Mem} {o : OwnM} {P : Program} {N : Nat}
theorem cvB_run (hsat : ∀ b p u, m b p = some u → w.cell? ⟨b, p, none⟩ = some u) {src dst e : TypeId} {l : List (List D)} {v : Value} (hv : RepD m (.seq 1 l) v) (hl : isB l) (hs : P.underlying src = some (.slice e)) (he : P.underlying e = some (.int .u8)) (hd : P.underlying dst = some .string) :
  (convert src dst v).run P w = .ok (.string (strD l)) w := by
 cases hv with
 | seq _ _ A' cap g p f h1 h2 hA hw hm hr =>
  by_cases hne : l = []
  ·
   subst hne
   rw [run_convert_bytes_string w src dst e _ _ _ hs he hd]
   cases A' <;> simp [Conv.bytesToString, loadCells]
   all_goals rfl
  ·
   rw [hA hne]
   refine run_convert_bytes_arg w src e hs he g p l.length cap (l.map numR) (by simp) (fun i hi => ?_) dst hd
   obtain ⟨n, hn⟩ := hl l[i] (List.getElem_mem hi)
   have h3 := hm i l[i] 0 (.lit (.int .u8 n)) (List.getElem?_eq_getElem hi) (by rw [hn]; rfl)
   have h4 := hr i l[i] 0 (.lit (.int .u8 n)) (List.getElem?_eq_getElem hi) (by rw [hn]; rfl)
   rw [Nat.mul_one, Nat.add_zero] at h3
   rw [hsat _ _ _ h3]
   generalize f i 0 = u at h4
   cases h4
   rw [List.getD_eq_getElem?_getD, List.getElem?_map, List.getElem?_eq_getElem hi]
   simp [hn, numR]
theorem zDQ (hM : Mk M S) (I : Inv w0 m0 o0 G pins S a w m o) {x : Option Operand} {n : Option Int} (h : bndO M x = some n) : ∃ k : Int → IntKind, (x.map a.eval) = n.map (fun z => Value.int (k z) z) := by
 cases x with
 | none => injection h with h; subst h; exact ⟨fun _ => IntKind.i64, rfl⟩
 | some y =>
  unfold bndO at h
  simp only at h
  split at h
  ·
   rename_i k z hy
   injection h with h
   subst h
   exact ⟨fun _ => k, by simp [zB1 hM I hy]⟩
  · cases h
theorem zAq {k : IntKind} {i : Int} {y : Nat} {c : BoundsCode} (h0 : 0 ≤ i) (h1 : i ≤ y) : (Instr.sliceBound (.int k i) y c).run P w = .ok i.toNat w := by
 simp [Instr.sliceBound, asIntOf, h0, h1]
theorem cut_rep {k : Nat} {l : List (List D)} {A' : Option Addr} {cap g p : Nat} {f : Nat → Nat → Value} (hcap : l.length ≤ cap) (hmax : cap ≤ maxLen) (hA : l ≠ [] → A' = some ⟨g, p, none⟩) (hw : ∀ (i : Nat) (r : List D), l[i]? = some r → r.length = k)
  (hm : ∀ (i : Nat) (r : List D) (j : Nat) (d : D), l[i]? = some r → r[j]? = some d → m g (p + i * k + j) = some (f i j)) (hr : ∀ (i : Nat) (r : List D) (j : Nat) (d : D), l[i]? = some r → r[j]? = some d → RepD m d (f i j)) {lo hi mx : Nat} (h1 : lo ≤ hi) (h2 : hi ≤ l.length) (h3 : hi ≤ mx) (h4 : mx ≤ cap) :
  RepD m (.seq k ((l.take hi).drop lo)) (.slice (if mx = lo then A' else A'.map (·.add (lo * k))) (hi - lo) (mx - lo)) := by
 have hlen : ((l.take hi).drop lo).length = hi - lo := by simp; omega
 have hget : ∀ (i : Nat) (r : List D), ((l.take hi).drop lo)[i]? = some r → l[lo + i]? = some r := by
  intro i r h
  rw [List.getElem?_drop, List.getElem?_take] at h
  split at h
  · exact h
  · cases h
 have := RepD.seq (m := m) k ((l.take hi).drop lo) (if mx = lo then A' else A'.map (·.add (lo * k))) (mx - lo) g (p + lo * k) (fun i j => f (lo + i) j) (by omega) (by omega) (fun hne => ?_) (fun i r h => hw _ r (hget i r h)) (fun i r j d h hj => ?_) (fun i r j d h hj => hr _ r j d (hget i r h) hj)
 ·
  rw [hlen] at this
  exact this
 ·
  have hpos : 0 < hi - lo := by rw [← hlen]; exact List.length_pos_iff.2 hne
  rw [if_neg (by omega), hA (by intro e; subst e; simp at h2; omega)]
  show some ((⟨g, p, none⟩ : Addr).add (lo * k)) = _
  rw [Addr.add_mid]
 ·
  have := hm _ r j d (hget i r h) hj
  rw [Nat.add_mul] at this
  rw [← this]
  congr 1
  omega
theorem cut_run (hsat : ∀ b p u, m b p = some u → w.cell? ⟨b, p, none⟩ = some u) {t e : TypeId} {ie : TypeInfo} (hu : P.underlying t = some (.slice e)) (hie : P.info? e = some ie) {l : List (List D)} {v : Value} (hv : RepD m (.seq ie.size l) v) {lo hi mx : Option Int} (h : cutOK l.length lo hi mx) {kl kh km : Int → IntKind} :
    ∃ v', (Instr.sliceAt t v (lo.map fun z => .int (kl z) z) (hi.map fun z => .int (kh z) z) (mx.map fun z => .int (km z) z)).run P w = .ok v' w ∧ RepD m (.seq ie.size (cutL l lo hi)) v' := by
  obtain ⟨h0, h1, h2, h3, h4⟩ := h
  cases hv with
  | seq _ _ A' cap g p f hcap hmax hA hw hm hr =>
    have hb : (Instr.sliceBounds true l.length cap (lo.map fun z => .int (kl z) z) (hi.map fun z => .int (kh z) z) (mx.map fun z => .int (km z) z)).run P w = .ok ((lo.map Int.toNat).getD 0, (hi.map Int.toNat).getD l.length, (mx.map Int.toNat).getD cap) w := by
      unfold Instr.sliceBounds
      cases lo <;> cases hi <;> cases mx <;> simp only [Option.getD_none, Option.getD_some, Option.map_none, Option.map_some, Option.isSome_none, Option.isSome_some] at h0 h1 h2 h3 h4 ⊢ <;>
        first
          | (simp at h4; done)
          | (simp only [Sem.run_bind, Sem.run_pure, Result.andThen_ok]
             repeat (rw [zAq (by omega) (by omega), Result.andThen_ok])
             )
    refine ⟨_, ?_, cut_rep (lo := (lo.map Int.toNat).getD 0) (hi := (hi.map Int.toNat).getD l.length) (mx := (mx.map Int.toNat).getD cap) hcap hmax hA hw hm hr ?_ ?_ ?_ ?_⟩
    · unfold Instr.sliceAt
      simp only [Sem.run_bind, run_underlying hu, Result.andThen_ok]
      unfold Instr.slice
      simp only [Sem.run_bind, run_underlying hu, Result.andThen_ok]
      rw [hb]
      simp [sizeOf, typeInfo, hie]
    all_goals (cases lo <;> cases hi <;> cases mx <;> simp at h0 h1 h2 h3 h4 ⊢ <;> omega)
theorem cutS_run {t : TypeId} (hu : P.underlying t = some .string) (s : ByteArray) {lo hi : Option Int} (h0 : 0 ≤ lo.getD 0) (h1 : lo.getD 0 ≤ hi.getD s.size) (h2 : hi.getD s.size ≤ s.size) {kl kh : Int → IntKind} :
    (Instr.sliceAt t (.string s) (lo.map fun z => .int (kl z) z) (hi.map fun z => .int (kh z) z) none).run P w = .ok (.string (s.extract (lo.getD 0).toNat (hi.getD s.size).toNat)) w := by
  have hb : (Instr.sliceBounds false s.size s.size (lo.map fun z => .int (kl z) z) (hi.map fun z => .int (kh z) z) none).run P w = .ok ((lo.getD 0).toNat, (hi.getD s.size).toNat, s.size) w := by
    unfold Instr.sliceBounds
    cases lo <;> cases hi <;> simp only [Option.getD_none, Option.getD_some, Option.map_none, Option.map_some, Option.isSome_none] at h0 h1 h2 ⊢ <;>
      (simp only [Sem.run_bind, Sem.run_pure, Result.andThen_ok]
       repeat (rw [zAq (by omega) (by omega), Result.andThen_ok])
       ) <;> simp
  unfold Instr.sliceAt
  simp only [Sem.run_bind, run_underlying hu, Result.andThen_ok]
  unfold Instr.slice
  simp only [Sem.run_bind, run_underlying hu, Result.andThen_ok]
  simp [hb]
theorem idxS_run {t : TypeId} (hu : P.underlying t = some .string) (s : ByteArray) {k : IntKind} {n : Int} (h0 : 0 ≤ n) (h1 : n < s.size) : (Instr.index t (.string s) (.int k n)).run P w = .ok (.int .u8 ((s.data.toList.getD n.toNat 0).toNat : Int)) w := by
 have hlt : n.toNat < s.size := by omega
 have hg : s[n.toNat]? = some (s.data.toList.getD n.toNat 0) := by
  have hlt2 : n.toNat < s.data.toList.length := by simpa using hlt
  rw [List.getD_eq_getElem?_getD, List.getElem?_eq_getElem hlt2, Option.getD_some]
  rw [getElem?_pos s n.toNat hlt]
  congr 1
 simp [Instr.index, asIntOf, run_underlying hu, h0, hg]
end
end Go.Proofs.Ytjomnccladjpgaa

/-
 Walks within a round of a range over a function: what is told of an operation outside of it holds there too.
-/
namespace Go.Proofs.Ytjomnccladjpgaa
open Go Go.RowKit
set_option linter.unusedVariables false
def zE2 (F : Fence) : Prop := F = Fence.wide ∨ ∃ l, F = Fence.wide.inRound l
section
variable {F : Fence} {n : Nat} {P : Program}
theorem zE2.wide : zE2 Fence.wide := .inl rfl
theorem zE2.inRound (l : Nat) : zE2 (Fence.wide.inRound l) := .inr ⟨l, rfl⟩
theorem zE2.fn (h : zE2 F) (g : FuncId) : F.fn g := by rcases h with rfl | ⟨l, rfl⟩ <;> trivial
theorem zE2.deep (h : zE2 F) {p : Prop} (hd : F.depth.isSome = true) : p := by rcases h with rfl | ⟨l, rfl⟩ <;> cases hd
theorem zIa (h : zE2 F) {f : FuncId} {args : Array Value} {w : World} {R : Ending → World → Prop} (hc : Calls P f args w R) : CallsIn F n P f args w R := by
 rcases h with rfl | ⟨l, rfl⟩
 · exact callsIn_wide.2 hc
 · exact CallsIn.inRound l (callsIn_wide.2 hc)
theorem zJ9 (h : zE2 F) {row : String} {args : Array Value} {w : World} {R : Value → World → Prop} (hc : Rows P row args w R) : RowsIn F n P row args w R := by
 intro c cs _
 obtain ⟨v, w', r, s⟩ := hc c cs
 refine ⟨v, w', r, ?_⟩
 rcases h with rfl | ⟨l, rfl⟩
 · exact stepsIn_wide.2 s
 ·
  rw [fenced_inRound]
  exact stepsIn_wide.2 s
theorem op_in (hF : zE2 F) {o : Oper} {a : Act} {w : World} {K : Act → World → Prop} {Q : Exit → Act → World → Prop} (h : o.wp P a w (fun a' w' => a'.defers = a.defers ∧ K a' w') (fun _ _ _ => False)) : o.wpIn F n P a w K Q := by
 have hnd : ∀ c, o.op ≠ .defer c := by
  intro c hc
  unfold Oper.wp execOp at h
  rw [hc] at h
  simp only [Sem.run_bind] at h
  cases hr : (resolve a.eval c o.type).run P w with
  | ok d w1 =>
   rw [hr, Result.andThen_ok, Sem.run_pure] at h
   have h1 := h.1
   have : ({ a with defers := d :: a.defers }.put o.dst undef).defers = d :: a.defers := by cases o.dst <;> rfl
   rw [this] at h1
   have := congrArg List.length h1
   simp at this
  | halt x w1 =>
   rw [hr] at h
   cases x <;> exact h.elim
 unfold Oper.wpIn
 refine ⟨fun f _ => hF.fn f, ?_⟩
 rw [Oper.semAt_eq _ _ _ hnd]
 unfold Oper.wp at h
 revert h
 generalize (execOp a.eval o).run P w = r
 intro h
 cases r with
 | ok x w1 =>
  cases x with
  | value v => exact h.2
  | skip => exact h.2
  | defer d => exact h.2
  | enter f args =>
   refine ⟨fun hd => hF.deep hd, zIa hF (Calls.mono h ?_)⟩
   rintro e w' he
   cases e with
   | returned v => exact he.2
   | panicked chain => exact he.elim
   | outgrown => obtain ⟨_, _, he⟩ := he; exact he.elim
  | row row args => exact ⟨fun hd => hF.deep hd, zJ9 hF (Rows.mono h fun v w' he => he.2)⟩
  | _ => exact h.elim
 | halt x w1 => cases x <;> exact h.elim
end
end Go.Proofs.Ytjomnccladjpgaa

/-
 What may grow goes from a cell of a variable to a slot.
-/
namespace Go.Proofs.Ytjomnccladjpgaa
open Go Go.RowKit
set_option linter.unusedVariables false
section
variable {w0 : World} {m0 : Mem} {o0 : OwnM} {G : GD} {pins : List Nat} {S M : Nat → A} {a : Act} {w : World} {m : Mem} {o : OwnM} {P : Program} {N : Nat}
theorem Inv.dropCell (I : Inv w0 m0 o0 G pins S a w m o) {b off E k : Nat} {l : List T} {ls : List (List D)} (hb : S b = .box l) (hl : l[off]? = some (.own E k ls)) :
  ∃ o', Inv w0 m0 o0 G pins (upd S b (.box (l.set off (.d (.seq k ls))))) a w m o' ∧ (∀ g x, o' g = some x → x ≠ (b, off + 1) ∧ o g = some x) := by
 have hk : ∀ g x, (fun g => if o g = some (b, off + 1) then none else o g) g = some x → x ≠ (b, off + 1) ∧ o g = some x := by
  intro g x h
  simp only at h
  split at h
  · cases h
  ·
   rename_i hn
   exact ⟨fun e => hn (by rw [h, e]), h⟩
 have K : Keep (fun x => x = (b, off + 1)) m w o m w (fun g => if o g = some (b, off + 1) then none else o g) :=
  ⟨Mle.refl _, fun _ _ _ _ => rfl, fun _ _ _ _ => rfl, fun g x h hn => by
   show (if o g = some (b, off + 1) then none else o g) = _
   rw [h, if_neg (by simpa using hn)], fun g j h => by
   show (if o g = some (b, off + 1) then none else o g) = _
   rw [h, if_neg (by intro e; injection e with e; injection e with _ e; omega)], fun g s k _ h => ⟨g, k, (hk g _ h).2⟩, fun g _ _ => .of_eq rfl⟩
 refine ⟨_, ⟨I.same, I.sat, I.mono, I.old, fun g x h => I.own g x (hk g x h).2, fun g x h => I.lt g x (hk g x h).2, fun g g' x h h' => I.inj g g' x (hk g x h).2 (hk g' x h').2, fun p hp g hg => ?_, fun t => ?_, I.defers, I.tbl, I.wide, I.shps⟩, hk⟩
 · exact K.own g _ (I.pinned p hp g hg) (fun e => by injection e with _ e; omega)
 ·
  have h := I.slots t
  by_cases e : t = b
  ·
   subst e
   rw [hb] at h
   rw [zZ]
   obtain ⟨g, hv, h1, h2, cs, E', h3, h4, h5⟩ := h
   refine ⟨g, hv, K.own g _ h1 (fun e => by injection e with _ e; omega), h2, cs, E', h3, by simpa using h4, fun j x hj => ?_⟩
   rw [List.getElem?_set] at hj
   split at hj
   ·
    rename_i e
    subst e
    split at hj
    ·
     injection hj with hj
     subst hj
     obtain ⟨_, u, h6, h7⟩ := h5 off _ hl
     exact ⟨rfl, u, h6, zEC I.sat h7⟩
    · cases hj
   ·
    rename_i e
    obtain ⟨h6, u, h7, h8⟩ := h5 j x hj
    exact ⟨h6, u, h7, h8.keep K (fun e2 => by injection e2 with _ e2; omega)⟩
  ·
   rw [zH e]
   refine RepA.keep K (fun j e2 => by injection e2 with e2 _; exact e e2) (fun b' off' he _ => ⟨fun e2 => by injection e2 with _ e2; omega, fun ⟨l', hl'⟩ => ?_⟩) h
   by_cases e3 : b' = b
   · subst e3; exact ⟨_, zZ ..⟩
   · exact ⟨l', by rw [zH e3, hl']⟩
theorem zFv (I : Inv w0 m0 o0 G pins S a w m o) {b off d E k : Nat} {l : List T} {ls : List (List D)} (hb : S b = .box l) (hl : l[off]? = some (.own E k ls)) (hne : b ≠ d) (hd : d < a.tmps.size) (hbox : (S d).isBox = false) (hpin : d ∉ pins) :
  ∃ g u m' o', o g = some (b, 0) ∧ w.cell? ⟨g, off, none⟩ = some u ∧ Inv w0 m0 o0 G pins (upd (upd S b (.box (l.set off (.d (.seq k ls))))) d (.t (.own E k ls))) (a.put (some d) u) w m' o' := by
 have hs := I.slots b
 rw [hb] at hs
 obtain ⟨gb, hv, k1, k2, cs, E', k3, k4, k5⟩ := hs
 obtain ⟨_, u, k6, hown⟩ := k5 off _ hl
 have hown : zJ0 m w o (b, off + 1) E k ls u := hown
 obtain ⟨o1, I2, ho1⟩ := I.dropCell hb hl
 have hbox2 : (upd S b (.box (l.set off (.d (.seq k ls)))) d).isBox = false := by rw [zH (Ne.symm hne)]; exact hbox
 obtain ⟨A', cap, xs, e, h1, h2, h3, h4⟩ := hown
 suffices h : ∃ m' o', Inv w0 m0 o0 G pins (upd (upd S b (.box (l.set off (.d (.seq k ls))))) d (.t (.own E k ls))) (a.put (some d) u) w m' o' by
  obtain ⟨m', o', h⟩ := h
  exact ⟨gb, u, m', o', k1, by rw [cell_of_row w gb off cs E' _ k3]; exact k6, h⟩
 rw [e]
 rcases zGg (w := w) (e := E) (sz := k) (n := ls.length) (c := cap) (xs := xs) (by rw [e] at h1; exact h1) with rfl | ⟨g, q, rfl⟩
 · refine ⟨m, o1, I2.set d _ _ hd hbox2 ⟨none, cap, xs, rfl, by rw [e] at h1; exact h1, fun g hg => (by cases hg), h3, h4⟩⟩
 ·
  obtain ⟨hg, hm⟩ := h2 g rfl
  have hlt := I.lt g _ hg
  refine ⟨_, _, I2.own_put d _ _ (fun p => m g p) g w hd hbox2 hpin (fun x hx => ?_) (I.own g _ hg) (Same.refl _ _) hlt (fun p u h => h) (fun p u h => I.sat g p u h) ?_⟩
  ·
   obtain ⟨q1, q2⟩ := ho1 g x hx
   rw [hg] at q2
   injection q2 with q2
   exact absurd q2.symm q1
  ·
   have hme : newM m g (fun p => m g p) = m := by
    funext b p
    unfold newM
    split
    · rename_i e; rw [e]
    · rfl
   rw [hme]
   exact ⟨some ⟨g, q, none⟩, cap, xs, rfl, by rw [e] at h1; exact h1, fun g' hg' => by injection hg' with hg'; subst hg'; exact ⟨zAD _ _ _, hm⟩, h3, h4⟩
theorem zIr (hM : Mk M S) {op : Oper} {t b off d E k n : Nat} {x : Operand} {l : List T} {ls : List (List D)} (hop : op.op = .load t x) (ht : tyA P t = some (false, n)) (hx : cpO M x = .ref b off) (hb : S b = .box l) (hl : l[off]? = some (.own E k ls)) (hne : b ≠ d) (hd : op.dst = some d) (hok : okD N pins S d = true) :
  OpOK P pins N op S (upd (upd S b (.box (l.set off (.d (.seq k ls))))) d (.t (.own E k ls))) := by
 refine zV fun w0 m0 o0 G a w m o hN I => ?_
 obtain ⟨h1, h2, h3⟩ := qA hok
 obtain ⟨g, u, m', o', k1, k2, J⟩ := zFv I hb hl hne (by omega) h2 h3
 have he := qG hM I x 0
 rw [hx] at he
 obtain ⟨g', k3, k4, _⟩ := he
 have := I.inj _ _ _ k1 k3
 subst this
 refine ⟨u, w, m', o', ?_, by rw [hd]; exact J⟩
 have hrun : (Instr.loadAt t (a.eval x)).run P w = .ok u w := by
  rw [k4]
  simp only [Instr.loadAt, Instr.sureAddr, Sem.run_bind, Sem.run_pure, Result.andThen_ok]
  exact zAw ht k2
 unfold execOp
 rw [hop]
 simp only [Sem.run_bind, hrun, Result.andThen_ok]
 rfl
end
end Go.Proofs.Ytjomnccladjpgaa
