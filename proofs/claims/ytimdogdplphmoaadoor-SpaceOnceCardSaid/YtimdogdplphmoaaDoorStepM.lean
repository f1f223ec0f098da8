/-
  The step of one operation as a function on the slots' data: operations that make or write memory.
-/
import Derived.Test.YtimdogdplphmoaaDoorStepF
namespace Go.Proofs.YtimdogdplphmoaaDoor
open Go Go.RowKit
set_option linter.unusedVariables false

abbrev Eff := List (Nat × A)
def app (S : Nat → A) (e : Eff) : Nat → A := e.foldl (fun S x => upd S x.1 x.2) S

/-- The model's operation does what S' tells. -/
def OpOK (P : Program) (pins : List Nat) (N : Nat) (op : Oper) (S S' : Nat → A) : Prop :=
  ∀ (w0 : World) (m0 : Mem) (o0 : OwnM) (G : Nat → Prop) (a : Act) (w : World) (m : Mem) (o : OwnM), a.tmps.size = N → Inv w0 m0 o0 G pins S a w m o →
    ∀ (K : Act → World → Prop) (Q : Exit → Act → World → Prop), (∀ a' w' m' o', a'.tmps.size = N → Inv w0 m0 o0 G pins S' a' w' m' o' → K a' w') → op.wp P a w K Q

def okD (N : Nat) (pins : List Nat) (S : Nat → A) (d : Nat) : Bool := decide (d < N) && !(S d).isBox && !pins.contains d
theorem okD_iff {N : Nat} {pins : List Nat} {S : Nat → A} {d : Nat} (h : okD N pins S d = true) : d < N ∧ (S d).isBox = false ∧ d ∉ pins := by
  unfold okD at h
  simp only [Bool.and_eq_true, decide_eq_true_eq, Bool.not_eq_true', List.contains_eq_mem] at h
  exact ⟨h.1.1, h.1.2, by simpa using h.2⟩

section
variable {w0 : World} {m0 : Mem} {o0 : OwnM} {G : Nat → Prop} {pins : List Nat} {S M : Nat → A} {a : Act} {w : World} {m : Mem} {o : OwnM} {P : Program} {N : Nat}
theorem ok_of_run {op : Oper} {S' : Nat → A}
    (h : ∀ (w0 : World) (m0 : Mem) (o0 : OwnM) (G : Nat → Prop) (a : Act) (w : World) (m : Mem) (o : OwnM), a.tmps.size = N → Inv w0 m0 o0 G pins S a w m o → ∃ v w' m' o', (execOp a.eval op).run P w = .ok (.value v) w' ∧ Inv w0 m0 o0 G pins S' (a.put op.dst v) w' m' o') : OpOK P pins N op S S' := by
  intro w0 m0 o0 G a w m o hN I K Q hK
  obtain ⟨v, w', m', o', h1, h2⟩ := h w0 m0 o0 G a w m o hN I
  unfold Oper.wp
  rw [h1]
  exact hK _ _ _ _ (by rw [put_size, hN]) h2
theorem ok_of_skip {op : Oper} {S' : Nat → A} (hd : op.dst = none)
    (h : ∀ (w0 : World) (m0 : Mem) (o0 : OwnM) (G : Nat → Prop) (a : Act) (w : World) (m : Mem) (o : OwnM), a.tmps.size = N → Inv w0 m0 o0 G pins S a w m o → ∃ w' m' o', (execOp a.eval op).run P w = .ok .skip w' ∧ Inv w0 m0 o0 G pins S' a w' m' o') : OpOK P pins N op S S' := by
  intro w0 m0 o0 G a w m o hN I K Q hK
  obtain ⟨w', m', o', h1, h2⟩ := h w0 m0 o0 G a w m o hN I
  unfold Oper.wp
  rw [h1]
  show K (a.put op.dst undef) w'
  rw [hd]
  exact hK _ _ _ _ hN h2

theorem ok_val (hM : Mk M S) {op : Oper} {d : Nat} (hd : op.dst = some d) (hok : okD N pins S d = true) {y : A} (h : valF P M op.op = some y) (href : ∀ b off, y = .ref b off → b ≠ d) : OpOK P pins N op S (upd S d y) := by
  refine ok_of_run fun w0 m0 o0 G a w m o hN I => ?_
  obtain ⟨h1, h2, h3⟩ := okD_iff hok
  obtain ⟨v, hv, hr⟩ := valF_run hM I op h d
  refine ⟨v, w, m, o, hv, ?_⟩
  rw [hd]
  refine I.set d y v (by omega) h2 ?_
  cases y with
  | ref b off => obtain ⟨g, k1, k2, k3⟩ := hr; exact ⟨g, k1, k2, fun hb => let ⟨l, k3⟩ := k3 hb; ⟨l, by rw [upd_other (href b off rfl), k3]⟩⟩
  | _ => exact hr
/-- (A ref to slot d needs that slot d is a variable: it is not.) -/
theorem ok_val' (hM : Mk M S) {op : Oper} {d : Nat} (hd : op.dst = some d) (hok : okD N pins S d = true) {y : A} (h : valF P M op.op = some y) : OpOK P pins N op S (upd S d y) := by
  refine ok_of_run fun w0 m0 o0 G a w m o hN I => ?_
  obtain ⟨h1, h2, h3⟩ := okD_iff hok
  obtain ⟨v, hv, hr⟩ := valF_run hM I op h d
  refine ⟨v, w, m, o, hv, ?_⟩
  rw [hd]
  refine I.set d y v (by omega) h2 ?_
  cases y with
  | ref b off =>
    obtain ⟨g, k1, k2, k3⟩ := hr
    refine ⟨g, k1, k2, fun hb => ?_⟩
    obtain ⟨l, k3⟩ := k3 hb
    have : b ≠ d := fun e => by subst e; rw [k3] at h2; cases h2
    exact ⟨l, by rw [upd_other this, k3]⟩
  | _ => exact hr

/-- What may grow goes from slot s to slot d. -/
theorem take_inv (I : Inv w0 m0 o0 G pins S a w m o) {s d E k : Nat} {l : List (List D)} (hs : S s = .t (.own E k l)) (hne : s ≠ d) (hsp : s ∉ pins) (hd : d < a.tmps.size) (hbox : (S d).isBox = false) (hpin : d ∉ pins) :
    ∃ m' o', Inv w0 m0 o0 G pins (upd (upd S s (.t (.d (.seq k l)))) d (.t (.own E k l))) (a.put (some d) (a.tmps.getD s undef)) w m' o' := by
  have hown : OwnAt m w o (s, 0) E k l (a.tmps.getD s undef) := by
    have := I.slots s
    rw [hs] at this
    exact this
  have hsO : s < OB := by
    rcases Nat.lt_or_ge s a.tmps.size with h | h
    · exact Nat.lt_of_lt_of_le h I.wide
    · obtain ⟨A', cap, xs, e, _⟩ := hown
      rw [Array.getD_eq_getD_getElem?, Array.getElem?_eq_none h] at e
      cases e
  have I1 := I.degrade s (by rw [hs]; rfl)
  rw [hs] at I1
  obtain ⟨o1, I2, ho1⟩ := I1.drop s hsp hsO (x := .seq k l) (by simp [upd, cpA, cpT])
  have hbox2 : (upd S s (cpA (.t (.own E k l))) d).isBox = false := by rw [upd_other (Ne.symm hne)]; exact hbox
  obtain ⟨A', cap, xs, e, h1, h2, h3, h4⟩ := hown
  rw [e]
  rcases blk_addr (w := w) (e := E) (sz := k) (n := l.length) (c := cap) (xs := xs) (by rw [e] at h1; exact h1) with rfl | ⟨g, rfl⟩
  · refine ⟨m, o1, I2.set d _ _ hd hbox2 ⟨none, cap, xs, rfl, by rw [e] at h1; exact h1, fun g hg => (by cases hg), h3, h4⟩⟩
  · obtain ⟨hg, hm⟩ := h2 g rfl
    have hlt := I.lt g _ hg
    refine ⟨_, _, I2.own_put d _ _ (fun p => m g p) g w hd hbox2 hpin (fun l hl => ?_) (I.own g _ hg) (Same.refl _ _) hlt (fun p u h => h) (fun p u h => I.sat g p u h) ?_⟩
    · obtain ⟨k1, k2⟩ := ho1 g l hl
      rw [hg] at k2
      injection k2 with k2
      exact absurd (by rw [← k2]) k1
    · have hme : newM m g (fun p => m g p) = m := by
        funext b p
        unfold newM
        split
        · rename_i e; rw [e]
        · rfl
      rw [hme]
      exact ⟨some ⟨g, 0, none⟩, cap, xs, rfl, by rw [e] at h1; exact h1, fun g' hg' => by injection hg' with hg'; subst hg'; exact ⟨newO_same _ _ _, hm⟩, h3, h4⟩
theorem ok_take {op : Oper} {s d E k : Nat} {l : List (List D)} (hop : op.op = .move (.tmp s) ∨ op.op = .assign (.tmp s)) (hd : op.dst = some d) (hok : okD N pins S d = true) (hs : S s = .t (.own E k l)) (hne : s ≠ d) (hsp : s ∉ pins) :
    OpOK P pins N op S (upd (upd S s (.t (.d (.seq k l)))) d (.t (.own E k l))) := by
  refine ok_of_run fun w0 m0 o0 G a w m o hN I => ?_
  obtain ⟨h1, h2, h3⟩ := okD_iff hok
  obtain ⟨m', o', J⟩ := take_inv I hs hne hsp (by omega) h2 h3
  refine ⟨_, w, m', o', ?_, by rw [hd]; exact J⟩
  unfold execOp
  rcases hop with e | e <;> (rw [e]; rfl)

theorem ok_box (hM : Mk M S) {op : Oper} {d E : Nat} {x : Operand} (hop : op.op = .box E x) (hd : op.dst = some d) (hok : okD N pins S d = true) {l : List T} (h : cellsT (cpO M x) = some l) : OpOK P pins N op S (upd S d (.box l)) := by
  refine ok_of_run fun w0 m0 o0 G a w m o hN I => ?_
  obtain ⟨h1, h2, h3⟩ := okD_iff hok
  obtain ⟨m', o', J⟩ := box_ok I E (by omega) h2 h3 (cpO_rep hM I x 0) h
  refine ⟨_, _, m', o', ?_, by rw [hd]; exact J⟩
  unfold execOp
  rw [hop]
  simp only [Sem.run_bind, box_run, Result.andThen_ok]
  rfl
theorem ok_alloc {op : Oper} {d E : Nat} (hop : op.op = .alloc E) (hd : op.dst = some d) (hok : okD N pins S d = true) {i : TypeInfo} {z : Value} (hi : P.info? E = some i) (hz : i.zero = some z) {l : List T} (h : cellsT (litA z) = some l) : OpOK P pins N op S (upd S d (.box l)) := by
  refine ok_of_run fun w0 m0 o0 G a w m o hN I => ?_
  obtain ⟨h1, h2, h3⟩ := okD_iff hok
  obtain ⟨m', o', J⟩ := box_ok I E (by omega) h2 h3 (litA_rep 0 z) h
  refine ⟨_, _, m', o', ?_, by rw [hd]; exact J⟩
  unfold execOp
  rw [hop]
  simp [Instr.alloc, zeroValue, typeInfo, hi, hz, newVar, newRow]
theorem ok_bsl (hM : Mk M S) {op : Oper} {d t e sz nb n : Nat} {parts : List (Nat × Operand)} (hop : op.op = .buildSlice t n parts.toArray) (hn : n = parts.length) (hd : op.dst = some d) (hok : okD N pins S d = true) (hE : elF P t = some (e, sz, nb)) {l : List (List D)}
    (h : rowsO M sz 0 parts = some l) (hne : parts ≠ []) (hb : parts.length * sz ≤ 16777216) : OpOK P pins N op S (upd S d (.t (.own e sz l))) := by
  subst hn
  refine ok_of_run fun w0 m0 o0 G a w m o hN I => ?_
  obtain ⟨h1, h2, h3⟩ := okD_iff hok
  obtain ⟨v, w', m', o', hr, J⟩ := bsl_ok hM I (elF_of hE) (by omega) h2 h3 h hne hb
  refine ⟨v, w', m', o', ?_, by rw [hd]; exact J⟩
  unfold execOp
  rw [hop]
  simp only [List.map_toArray, Sem.run_bind]
  rw [hr]
  rfl
theorem ok_str (hM : Mk M S) {op : Oper} {d src dst e : Nat} {x : Operand} (hop : op.op = .convert src dst x) (hd : op.dst = some d) (hok : okD N pins S d = true) (hs : P.underlying src = some .string) (hdst : P.underlying dst = some (.slice e)) (he : P.underlying e = some (.int .u8)) {s : ByteArray}
    (h : vO M x = some (.string s)) (hsz : s.size ≤ maxLen) : OpOK P pins N op S (upd S d (.t (.d (.seq 1 (bytesD s.data.toList))))) := by
  refine ok_of_run fun w0 m0 o0 G a w m o hN I => ?_
  obtain ⟨h1, h2, h3⟩ := okD_iff hok
  obtain ⟨v, w', m', o', hr, J⟩ := str_ok (P := P) I hs hdst he s hsz (by omega) h2 h3
  refine ⟨v, w', m', o', ?_, by rw [hd]; exact J⟩
  unfold execOp
  rw [hop]
  simp only [Sem.run_bind]
  rw [vO_eq hM I h, hr]
  rfl
/-- append, to what slot s may let grow. -/
theorem ok_app (hM : Mk M S) {op : Oper} {d s t e sz nb : Nat} {y : Operand} (hop : op.op = .call { callee := .builtin .append, args := #[.tmp s, y], argTypes := #[t, t] }) (hd : op.dst = some d) (hok : okD N pins S d = true) (hE : elF P t = some (e, sz, nb))
    {l l' : List (List D)} (hs : M s = .t (.own e sz l)) (hne : s ≠ d) (hsp : s ∉ pins) (hl' : slD sz (dO M y) = some l') (hb : (l.length + l'.length) * nb ≤ 140737488355328) :
    OpOK P pins N op S (upd (upd S s (.t (.d (.seq sz l)))) d (.t (.own e sz (l ++ l')))) := by
  refine ok_of_run fun w0 m0 o0 G a w m o hN I => ?_
  obtain ⟨h1, h2, h3⟩ := okD_iff hok
  have hS : S s = .t (.own e sz l) := by
    rcases hM s with k | k
    · rw [k] at hs; cases hs
    · rw [← k]; exact hs
  have hown : OwnAt m w o (s, 0) e sz l (a.tmps.getD s undef) := by
    have := I.slots s
    rw [hS] at this
    exact this
  have hv' : RepD m (.seq sz l') (a.eval y) := slD_rep hl' fun d hd => dO_rep hM I hd
  have hsO : s < OB := by
    rcases Nat.lt_or_ge s a.tmps.size with h | h
    · exact Nat.lt_of_lt_of_le h I.wide
    · obtain ⟨A', cap, xs, e, _⟩ := hown
      rw [Array.getD_eq_getD_getElem?, Array.getElem?_eq_none h] at e
      cases e
  have I1 := I.degrade s (by rw [hS]; rfl)
  rw [hS] at I1
  obtain ⟨o1, I2, ho1⟩ := I1.drop s hsp hsO (x := .seq sz l) (by simp [upd, cpA, cpT])
  obtain ⟨A', cap, xs, e1, k1, k2, k3, k4⟩ := hown
  have hrows : RowsR m sz l xs := ⟨k1.1, k3, k4⟩
  rw [e1] at k1
  obtain ⟨v, w', m', o', hr, J⟩ := app_ok (d := d) I2 (elF_of hE) op.type (by omega) (by rw [upd_other (Ne.symm hne)]; exact h2) h3 k1 hrows (fun g hg => by
    obtain ⟨q1, q2⟩ := k2 g hg
    refine ⟨fun l hl => ?_, I.own g _ q1, I.lt g _ q1, q2⟩
    obtain ⟨z1, z2⟩ := ho1 g l hl
    rw [q1] at z2
    injection z2 with z2
    exact absurd (by rw [← z2]) z1) hv' hb
  refine ⟨v, w', m', o', ?_, by rw [hd]; exact J⟩
  unfold execOp
  rw [hop]
  simp only [resolve, invoke, builtin, Sem.run_bind, Sem.run_pure, Result.andThen_ok, List.map_toArray, List.map_cons, List.map_nil]
  rw [show a.eval (.tmp s) = .slice A' l.length cap from e1, hr]
  rfl
/-- append, to nil. -/
theorem ok_app0 (hM : Mk M S) {op : Oper} {d t e sz nb : Nat} {x y : Operand} (hop : op.op = .call { callee := .builtin .append, args := #[x, y], argTypes := #[t, t] }) (hd : op.dst = some d) (hok : okD N pins S d = true) (hE : elF P t = some (e, sz, nb))
    {l' : List (List D)} (hs : vO M x = some (.slice none 0 0)) (hl' : slD sz (dO M y) = some l') (hb : l'.length * nb ≤ 140737488355328) :
    OpOK P pins N op S (upd S d (.t (.own e sz l'))) := by
  refine ok_of_run fun w0 m0 o0 G a w m o hN I => ?_
  obtain ⟨h1, h2, h3⟩ := okD_iff hok
  have hv' : RepD m (.seq sz l') (a.eval y) := slD_rep hl' fun d hd => dO_rep hM I hd
  obtain ⟨v, w', m', o', hr, J⟩ := app_ok (d := d) (l := []) I (elF_of hE) op.type (by omega) h2 h3 (World.ownsRow_nil w 0 e sz) ⟨by simp, fun i r h => by simp at h, fun i r j d h => by simp at h⟩ (fun g hg => by cases hg) hv' (by simpa using hb)
  refine ⟨v, w', m', o', ?_, by rw [hd]; exact J⟩
  unfold execOp
  rw [hop]
  simp only [resolve, invoke, builtin, Sem.run_bind, Sem.run_pure, Result.andThen_ok, List.map_toArray, List.map_cons, List.map_nil]
  rw [vO_eq hM I hs]
  simp only [List.length_nil] at hr
  rw [hr]
  rfl
/-- A call of a function whose contract is known. -/
theorem ok_call (hM : Mk M S) {op : Oper} {d f : Nat} {xs : List Operand} {ts : Array TypeId} {fx : Operand} (hop : op.op = .call { callee := .value fx, args := xs.toArray, argTypes := ts }) (hfx : vO M fx = some (.func (.func f) #[] #[])) (hd : op.dst = some d) (hok : okD N pins S d = true) {fn : Func} (hfn : P.funcs[f]? = some fn) (hbody : fn.body.isNone = false) (hname : (fn.name == "runtime.NumGoroutine") = false)
    {args : List A} {r : A} (hargs : WkArgs (xs.map (cpO M)) args) (hp : args.all A.plain = true) (hf : FC P f args [] r) (hnr : r.noRef = true) : OpOK P pins N op S (upd S d r) := by
  intro w0 m0 o0 G a w m o hN I K Q hK
  obtain ⟨h1, h2, h3⟩ := okD_iff hok
  have key : ∀ (xs : List Operand) (args : List A), WkArgs (xs.map (cpO M)) args → (xs.map a.eval).length = args.length ∧ ∀ i x, args[i]? = some x → ∃ s, RepA m w o S s x ((xs.map a.eval).getD i undef) := by
    intro xs
    induction xs with
    | nil => intro args h; cases h; exact ⟨rfl, fun i x h => by simp at h⟩
    | cons y ys ih =>
      intro args h
      cases h with
      | cons hx ht =>
        obtain ⟨k1, k2⟩ := ih _ ht
        refine ⟨by simpa using k1, fun i x hi => ?_⟩
        cases i with
        | zero => injection hi with hi; subst hi; exact ⟨0, hx.rep I.sat (cpO_rep hM I y 0)⟩
        | succ i => simpa using k2 i x (by simpa using hi)
  obtain ⟨k1, k2⟩ := key xs args hargs
  have hc := call_plain I hf hp (vals := (xs.map a.eval).toArray) (by simpa using k1) (fun i x hi => by simpa using k2 i x hi) (d := d) (by omega) h2 h3 hnr
  unfold Oper.wp
  have hrun : (execOp a.eval op).run P w = .ok (.enter f (xs.map a.eval).toArray) w := by
    unfold execOp
    rw [hop]
    simp only [resolve, vO_eq hM I hfx, Deferred.ofValue, List.map_toArray]
    have hb : fn.body ≠ none := fun e => by rw [e] at hbody; cases hbody
    have hn : fn.name ≠ "runtime.NumGoroutine" := fun e => by rw [e] at hname; simp at hname
    simp [invoke, callFunc, hfn, hn, hb]
  rw [hrun]
  refine Calls.mono hc ?_
  rintro e w' ⟨u, m', o', rfl, J⟩
  rw [← hd] at J
  exact hK _ _ _ _ (by rw [put_size, hN]) J
end
end Go.Proofs.YtimdogdplphmoaaDoor
