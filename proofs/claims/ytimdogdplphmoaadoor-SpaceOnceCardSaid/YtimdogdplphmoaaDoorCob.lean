/-
  A call's own slice, told as a slice of a local object; the greater of two numbers.
-/
import Derived.Test.YtimdogdplphmoaaDoorGrv
namespace Go.Proofs.YtimdogdplphmoaaDoor
open Go Go.RowKit
set_option linter.unusedVariables false

def D.isLit : D → Bool | .lit _ => true | _ => false
section
variable {w0 : World} {m0 : Mem} {o0 : OwnM} {G : Nat → Prop} {pins : List Nat} {S M : Nat → A} {a : Act} {w : World} {m : Mem} {o : OwnM} {P : Program} {N : Nat} {op : Oper} {d : Nat}
theorem call_obj (I : Inv w0 m0 o0 G pins S a w m o) {f : FuncId} {args : List A} {E k j : Nat} {rs : List (List D)} (hf : FC P f args [] (.t (.own E k rs))) (hp : args.all A.plain = true) {vals : Array Value} (hv : vals.size = args.length) (hr : ∀ i x, args[i]? = some x → ∃ s, RepA m w o S s x (vals.getD i undef))
    {d : Nat} (hd : d < a.tmps.size) (hdO : d < OB) (hbox : (S d).isBox = false) (hfree : S (OB + j) = .free) (hne : rs ≠ []) (hk : 0 < k) (hlit : ∀ r ∈ rs, ∀ x ∈ r, x.isLit = true) :
    Calls P f vals w fun e w' => ∃ u o', e = .returned u ∧ Inv w0 m0 o0 G pins (upd (upd S (OB + j) (.box ((rs.flatMap id).map .d))) d (.t (.view j 0 E k rs.length))) (a.put (some d) u) w' m o' := by
  have hrep : ∀ s, RepA m w (fun _ => none) (argS args) s (argS args s) (vals.getD s undef) := by
    intro s
    unfold argS
    rw [List.getD_eq_getElem?_getD]
    cases hx : args[s]? with
    | none => trivial
    | some x =>
      obtain ⟨s', h⟩ := hr s x hx
      exact plain_rep (List.all_eq_true.1 hp x (List.mem_of_getElem? hx)) h
  refine (hf w m (fun _ => none) vals I.sat (I.tbl.trans I.mono) (fun _ _ h => by cases h) (fun _ _ _ h => by cases h) hv hrep).mono ?_
  rintro e w' ⟨u, m', o', S', a', ρ, rfl, J, hr, _⟩
  rw [plain_args hp] at J
  have hS : Same (fun _ => False) w w' := J.same.weaken fun g h => h rfl
  have hnew : ∀ g l, o' g = some l → w.heap.size ≤ g := fun g l h => (J.own g l h).resolve_left fun h => h rfl
  have hlow : ∀ b p u, m b p = some u → b < w.heap.size := fun b p u h => by
    have := World.block_lt_of_cell? w _ (I.sat b p u h)
    simpa using this
  obtain ⟨A', cap, xs, rfl, hown, hblk, hwid, hel⟩ := hr
  have hlen0 : rs.length ≠ 0 := fun e => hne (List.eq_nil_of_length_eq_zero e)
  obtain ⟨g, cap', cur, e1, -, hg, hcap, hmax, hsz, htk⟩ := hown.2.resolve_left fun h => hlen0 h.2
  injection e1 with e1 _ e2
  subst e1 e2
  obtain ⟨ho', hmg⟩ := hblk g rfl
  have hgn := hnew g _ ho'
  -- the slot told as nothing
  have J1 := I.put (w' := w') (m' := m) d .any (.slice (some ⟨g, 0, none⟩) rs.length cap) hd hbox trivial (I.same.trans (hS.weaken fun _ h => h.elim)) (fun b p v h => by
    have hb := hlow b p v h
    rw [World.cell?_of_block (w := w) (hS.block b hb id)]
    exact I.sat b p v h) (Mle.refl _) (fun _ _ => rfl) (fun g hg => hS.block g hg id) hS.size
  have hrl : ∀ r ∈ rs, r.length = k := fun r hr => by
    obtain ⟨i, hi⟩ := List.getElem?_of_mem hr
    exact hwid i r hi
  have hlen : ((rs.flatMap id).map T.d).length = rs.length * k := by rw [List.length_map, fl_len_of hrl]
  have J2 := J1.adopt (j := j) (g := g) (l := (rs.flatMap id).map T.d) (cs := cur) (cs' := cur) (E := E) (by rw [upd_other (by omega)]; exact hfree) hg rfl (by
    cases h : o g with
    | none => rfl
    | some l => exact absurd (I.lt g l h) (by omega)) (.inr (Nat.le_trans I.same.size hgn)) (fun p => by
    cases h : m g p with
    | none => rfl
    | some u => exact absurd (hlow g p u h) (by omega)) (by rw [hlen, hsz]; exact Nat.mul_le_mul_right _ hcap) (fun i x hi => by
    have hlt : i < rs.length * k := by rw [← hlen]; exact (List.getElem?_eq_some_iff.1 hi).1
    have hi1 : i / k < rs.length := Nat.div_lt_of_lt_mul (by rw [Nat.mul_comm]; exact hlt)
    have hi2 : i % k < k := Nat.mod_lt _ hk
    have he : i / k * k + i % k = i := by rw [Nat.mul_comm]; exact Nat.div_add_mod i k
    obtain ⟨r, hr⟩ : ∃ r, rs[i / k]? = some r := ⟨_, List.getElem?_eq_getElem hi1⟩
    have hrm := List.mem_of_getElem? hr
    obtain ⟨dd, hdd⟩ : ∃ dd, r[i % k]? = some dd := ⟨_, List.getElem?_eq_getElem (by rw [hrl r hrm]; exact hi2)⟩
    have h2 := fl_cell_of hrl hr hi2
    rw [he, hdd] at h2
    rw [List.getElem?_map, h2] at hi
    injection hi with hi
    subst hi
    obtain ⟨u, k1, k2⟩ := hel _ r _ dd hr hdd
    rw [he, ← htk, List.getElem?_take, if_pos hlt] at k1
    refine ⟨dd, rfl, u, by simpa using k1, ?_⟩
    have hl := hlit r hrm dd (List.mem_of_getElem? hdd)
    cases k2 with
    | lit u hu => exact .lit u hu
    | seq => cases hl
    | clo => cases hl)
  rw [setRow_self w' g cur E _ hg] at J2
  have J3 := J2.set d (.t (.view j 0 E k rs.length)) (.slice (some ⟨g, 0, none⟩) rs.length cap) (by rw [put_size]; exact hd) (by rw [upd_other (by omega), upd_same]; rfl) ⟨_, cap, hcap, hmax, rfl, .inr ⟨g, cur, newO_same _ _ _, rfl, hg, by rw [hsz]; omega⟩⟩
  refine ⟨_, newO o (OB + j) g, rfl, ?_⟩
  have ea : ((a.put (some d) (.slice (some ⟨g, 0, none⟩) rs.length cap)).put (some d) (.slice (some ⟨g, 0, none⟩) rs.length cap)) = a.put (some d) (.slice (some ⟨g, 0, none⟩) rs.length cap) := by
    simp [Act.put]
  rw [ea] at J3
  have eS : upd (upd (upd S d .any) (OB + j) (.box ((rs.flatMap id).map .d))) d (.t (.view j 0 E k rs.length)) = upd (upd S (OB + j) (.box ((rs.flatMap id).map .d))) d (.t (.view j 0 E k rs.length)) := by
    rw [upd_comm (s := d) (t := OB + j) (by omega), upd_twice]
  rw [eS] at J3
  exact J3
theorem ok_callobj (hM : Mk M S) {f j E k : Nat} {xs : List Operand} {ts : Array TypeId} {fx : Operand} (hop : op.op = .call { callee := .value fx, args := xs.toArray, argTypes := ts }) (hfx : vO M fx = some (.func (.func f) #[] #[])) (hd : op.dst = some d) (hok : okD N pins S d = true) (hdO : d < OB) {fn : Func} (hfn : P.funcs[f]? = some fn) (hbody : fn.body.isNone = false) (hname : (fn.name == "runtime.NumGoroutine") = false)
    {args : List A} {rs : List (List D)} (hargs : WkArgs (xs.map (cpO M)) args) (hp : args.all A.plain = true) (hf : FC P f args [] (.t (.own E k rs))) (hfree : S (OB + j) = .free) (hne : rs ≠ []) (hk : 0 < k) (hlit : ∀ r ∈ rs, ∀ x ∈ r, x.isLit = true) : OpOK P pins N op S (upd (upd S (OB + j) (.box ((rs.flatMap id).map .d))) d (.t (.view j 0 E k rs.length))) := by
  intro w0 m0 o0 G a w m o hN I K Q hK
  obtain ⟨h1, h2, h3⟩ := okD_iff hok
  obtain ⟨k1, k2⟩ := wkargs_rep hM I xs args hargs
  have hc := call_obj I hf hp (vals := (xs.map a.eval).toArray) (by simpa using k1) (fun i x hi => by simpa using k2 i x hi) (d := d) (by omega) hdO h2 hfree hne hk hlit
  unfold Oper.wp
  have hrun : (execOp a.eval op).run P w = .ok (.enter f (xs.map a.eval).toArray) w := by
    unfold execOp
    rw [hop]
    simp only [resolve, vO_eq hM I hfx, Deferred.ofValue, List.map_toArray]
    have hb : fn.body ≠ none := fun e => by rw [e] at hbody; cases hbody
    have hn : fn.name ≠ "runtime.NumGoroutine" := fun e => by rw [e] at hname; simp at hname
    simp [invoke, callFunc, hfn, hn, hb]
  rw [hrun]
  refine Calls.mono hc ?_
  rintro e w' ⟨u, o', rfl, J⟩
  rw [← hd] at J
  exact hK _ _ _ _ (by rw [put_size, hN]) J
/-- (as models' walks want it) -/
theorem h_callobj {α : Type} {c : α → List D} {l : List α} (hM : Mk M S) {f j E k : Nat} {xs : List Operand} {ts : Array TypeId} {fx : Operand} (hop : op.op = .call { callee := .value fx, args := xs.toArray, argTypes := ts }) (hfx : vO M fx = some (.func (.func f) #[] #[])) (hd : op.dst = some d) (hok : okD N pins S d = true) {fn : Func} (hfn : P.funcs[f]? = some fn) (hbody : fn.body.isNone = false) (hname : (fn.name == "runtime.NumGoroutine") = false)
    {args : List A} (hf : FC P f args [] (.t (.own E k (l.map c)))) (hargs : WkArgs (xs.map (cpO M)) args) (hp : args.all A.plain = true) (hj : Nat.blt (j + 1) OB = true) (hfree : M (OB + j) = .free) (hne : (!l.isEmpty) = true) (hk : Nat.blt 0 k = true) (hlit : ∀ a, (c a).all D.isLit = true) :
    OpH P pins N op S (app S [(OB + j, gbA c l), (d, .t (.view j 0 E k l.length))]) := by
  intro hN hlo
  obtain ⟨e1, e2, e3⟩ := lo_of hj
  have hdO := okD_lo hN hok
  have hl : l ≠ [] := fun e => by rw [e] at hne; cases hne
  have hfr : hx S (OB + j) = .free := by
    rcases hM (OB + j) with e | e
    · rw [e] at hfree; cases hfree
    · rw [e] at hfree; exact hx_of hfree (by simp)
  refine ⟨?_, (hlo.upd e1).upd (lt2 hdO)⟩
  show OpOK P pins N op (hx S) (hx (upd (upd S (OB + j) _) d _))
  rw [hx_updL (lt2 hdO) (by unfold HK; unfold OB at hdO; omega), hx_updL e1 e2, gb_ne hl, fl_rows]
  have := ok_callobj (j := j) hM.hx hop hfx hd (okD_hx hN hok) (by simpa using hdO) hfn hbody hname hargs hp hf hfr (by simpa using hl) (by simpa using hk) (fun r hr x hx => by
    obtain ⟨a, _, rfl⟩ := List.mem_map.1 hr
    exact List.all_eq_true.1 (hlit a) x hx)
  rw [List.length_map] at this
  exact this
theorem h_max (hM : Mk M S) {ts : Array TypeId} {x y : Operand} {k ky : IntKind} {a b : Int} (hop : op.op = .call { callee := .builtin .max, args := #[x, y], argTypes := ts }) (hx : vO M x = some (.int k a)) (hy : vO M y = some (.int ky b)) (hd : op.dst = some d) (hok : okD N pins S d = true) : OpH P pins N op S (app S [(d, .t (.d (.lit (.int k (if b > a then b else a)))))]) := by
  refine .of (e := [(d, _)]) fun hN => ⟨?_, eff_1 (okD_lo hN hok)⟩
  refine ok_of_run fun w0 m0 o0 G ac w m o hN' I => ?_
  obtain ⟨h1, h2, h3⟩ := okD_iff (okD_hx hN hok)
  refine ⟨.int k (if b > a then b else a), w, m, o, ?_, by rw [hd]; exact I.set d _ _ (by omega) h2 (.lit _ rfl)⟩
  unfold execOp
  rw [hop]
  simp only [resolve, invoke, builtin, Sem.run_bind, Sem.run_pure, Result.andThen_ok, List.map_toArray, List.map_cons, List.map_nil]
  rw [vO_eq hM.hx I hx, vO_eq hM.hx I hy]
  simp [Builtin.max_, Builtin.max2]
end
end Go.Proofs.YtimdogdplphmoaaDoor
