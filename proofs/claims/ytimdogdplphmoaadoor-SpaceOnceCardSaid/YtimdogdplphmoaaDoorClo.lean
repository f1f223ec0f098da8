/-
  Functions that have caught variables: made, handed over, called. A caught variable never changes again: it is frozen first.
-/
import Derived.Test.YtimdogdplphmoaaDoorGen3
namespace Go.Proofs.YtimdogdplphmoaaDoor
open Go Go.RowKit
set_option linter.unusedVariables false

def frzD : T → D
  | .d x => x
  | .own _ k l => .seq k l
  | _ => default
section
variable {w0 : World} {m0 : Mem} {o0 : OwnM} {G : Nat → Prop} {pins : List Nat} {S M : Nat → A} {a : Act} {w : World} {m : Mem} {o : OwnM} {P : Program} {N : Nat}
/-- A variable that nothing writes any more. -/
theorem Inv.freeze (I : Inv w0 m0 o0 G pins S a w m o) (s : Nat) (hsO : s < OB) (hs : s ∉ pins) {l : List T} (hpt : noPt l = true) (hbox : S s = .box l) (hno : ∀ t off, S t ≠ .ref s off) : ∃ m' o', Inv w0 m0 o0 G pins (upd S s (.imm (l.map frzD))) a w m' o' := by
  have hb := I.slots s
  rw [hbox] at hb
  obtain ⟨g, e, h1, h2, cs, E, h3, h4, h5⟩ := hb
  have hk : ∀ b l, (fun b => if (o b).map (·.1) = some s then none else o b) b = some l → l.1 ≠ s ∧ o b = some l := by
    intro b l h
    simp only at h
    split at h
    · cases h
    · rename_i hn
      exact ⟨fun e => hn (by rw [h, ← e]; rfl), h⟩
  have hko : ∀ b l, o b = some l → l.1 ≠ s → (if (o b).map (·.1) = some s then none else o b) = some l := fun b l h hn => by rw [h, if_neg (by simpa using hn)]
  have K : Keep (fun l => l.1 = s) m w o (newM m g fun p => cs[p]?) w (fun b => if (o b).map (·.1) = some s then none else o b) := by
    refine ⟨fun b p u h => ?_, fun b l h hn => ?_, fun _ _ _ _ => rfl, fun b l h hn => hko b l h hn, fun b j h => hko b _ h (OB_ne hsO), fun b t k _ h => ⟨b, k, (hk b _ h).2⟩, fun b j _ => .of_eq rfl⟩
    · unfold newM
      split
      · rename_i hb
        rw [hb, h2 p] at h
        cases h
      · exact h
    · have : b ≠ g := fun e => by
        subst e
        rw [h1] at h
        injection h with h
        exact hn (by rw [← h])
      funext p
      unfold newM
      rw [if_neg this]
  refine ⟨_, _, ⟨I.same, fun b p u h => ?_, I.mono.trans K.mle, fun b hb hg => ?_, fun b l h => I.own b l (hk b l h).2, fun b l h => I.lt b l (hk b l h).2, fun b b' l h h' => I.inj b b' l (hk b l h).2 (hk b' l h').2, fun p hp b hb => ?_, fun t => ?_, I.defers, I.tbl, I.wide, I.shps⟩⟩
  · unfold newM at h
    split at h
    · rename_i hb
      subst hb
      unfold World.cell?
      simp only [h3]
      exact h
    · exact I.sat b p u h
  · have : b ≠ g := fun e => by
      subst e
      rcases I.own b _ h1 with h | h
      · exact hg h
      · omega
    rw [← I.old b hb hg]
    funext p
    unfold newM
    rw [if_neg this]
  · exact hko b _ (I.pinned p hp b hb) fun e => hp.elim (fun hp => hs (by rw [← e]; exact hp)) fun hp => by have e : p = s := e; omega
  · by_cases ht : t = s
    · subst ht
      rw [upd_same]
      refine ⟨g, 0, e hsO, fun j d hj => ?_⟩
      rw [List.getElem?_map] at hj
      cases hx : l[j]? with
      | none => rw [hx] at hj; cases hj
      | some x =>
        rw [hx] at hj
        injection hj with hj
        subst hj
        obtain ⟨ha, u, hu, hr⟩ := h5 j x hx
        refine ⟨u, by rw [Nat.zero_add, newM_same]; exact hu, ?_⟩
        refine RepD.mono K.mle ?_
        cases x with
        | d y => exact hr
        | agg l => cases ha
        | own E k l => exact own_seq I.sat hr
        | ptr => exact absurd (noPt_get hpt hx) (by simp [T.isPt])
        | view => exact absurd (noPt_get hpt hx) (by simp [T.isPt])
        | hpt => exact absurd (noPt_get hpt hx) (by simp [T.isPt])
        | hvw => exact absurd (noPt_get hpt hx) (by simp [T.isPt])
        | mpt => exact absurd (noPt_get hpt hx) (by simp [T.isPt])
    · rw [upd_other ht]
      refine RepA.keep K (fun j e => ht e) (fun b off e _ => ?_) (I.slots t)
      have hbs : b ≠ s := fun e' => hno t off (by rw [e, e'])
      exact ⟨hbs, fun ⟨l, hl⟩ => ⟨l, by rw [upd_other hbs, hl]⟩⟩
def noRefTo (s : Nat) : SL → Bool
  | [] => true
  | (_, x) :: r => (match x with | .ref b _ => b != s | _ => true) && noRefTo s r
theorem noRefTo_of {s : Nat} {L : SL} (h : noRefTo s L = true) (t off : Nat) : gt L t ≠ .ref s off := by
  induction L with
  | nil => intro h; cases h
  | cons x r ih =>
    obtain ⟨t', y⟩ := x
    simp only [noRefTo, Bool.and_eq_true] at h
    rw [gt_cons, upd]
    split
    · intro e
      rw [e] at h
      simp at h
    · exact ih h.2
/-- From here on the variable of slot s doesn't change. -/
theorem c_fz {c : Code} {Q : Exit → SL → Prop} {L : SL} (s : Nat) {l : List T} (z : A) (hb : gt L s = .box l) (hp : (pins.contains s || !Nat.blt s OB) = false) (hr : (noRefTo s L && noPt l) = true) (hz : A.imm (l.map frzD) = z) (h : CodeOK P pins N c Q ((s, z) :: L)) : CodeOK P pins N c Q L := by
  subst hz
  intro w0 m0 o0 G a w hS
  obtain ⟨hN, hlo, m, o, I⟩ := hS
  rw [Bool.or_eq_false_iff] at hp
  rw [Bool.and_eq_true] at hr
  obtain ⟨m', o', J⟩ := I.freeze s (by simpa using hp.2) (by simpa using hp.1) hr.2 (hx_of hb (by simp)) (fun t off e => noRefTo_of hr.1 t off (hx_ref e))
  exact h w0 m0 o0 G a w ⟨hN, by rw [gt_cons]; exact hlo.upd (lt2 (by simpa using hp.2)), m', o', by rw [gt_cons, hx_upd (.inl (by simpa using hp.2))]; exact J⟩

/-- What slots hold the addresses of. -/
def capsF (M : Nat → A) : List Operand → Option (List (List D))
  | [] => some []
  | x :: r => match cpO M x, capsF M r with
    | .imm l, some k => some (l :: k)
    | _, _ => none
theorem capsF_get (hM : Mk M S) (I : Inv w0 m0 o0 G pins S a w m o) : ∀ {xs : List Operand} {caps : List (List D)}, capsF M xs = some caps → xs.length = caps.length ∧ ∀ i l, caps[i]? = some l → RepA m w o S 0 (.imm l) ((xs.map a.eval).getD i undef)
  | [], caps, h => by injection h with h; subst h; exact ⟨rfl, fun i l h => by simp at h⟩
  | x :: r, caps, h => by
    unfold capsF at h
    split at h
    case h_2 => cases h
    rename_i l k h1 h2
    injection h with h
    subst h
    obtain ⟨k1, k2⟩ := capsF_get hM I h2
    refine ⟨by simpa using k1, fun i l' hi => ?_⟩
    cases i with
    | zero =>
      injection hi with hi
      subst hi
      have := cpO_rep hM I x 0
      rw [h1] at this
      simpa using this
    | succ i => simpa using k2 i l' (by simpa using hi)
theorem clo_rep {m : Mem} {f : FuncId} {caps : List (List D)} {ptrs : Array Value} (hsz : ptrs.size = caps.length) (h : ∀ (i : Nat) (l : List D), caps[i]? = some l → ∃ g p, ptrs[i]? = some (Value.pointer (some ⟨g, p, none⟩)) ∧ ∀ (j : Nat) (d : D), l[j]? = some d → ∃ u, m g (p + j) = some u ∧ RepD m d u) : RepD m (.clo f caps) (.func (.func f) #[] ptrs) := by
  have H : ∀ i : Nat, ∃ x : Nat × Nat, ∀ l : List D, caps[i]? = some l → ptrs[i]? = some (Value.pointer (some ⟨x.1, x.2, none⟩)) ∧ ∀ (j : Nat) (d : D), l[j]? = some d → ∃ u, m x.1 (x.2 + j) = some u ∧ RepD m d u := by
    intro i
    cases hc : caps[i]? with
    | none => exact ⟨(0, 0), fun l h => by cases h⟩
    | some l =>
      obtain ⟨g, p, h1, h2⟩ := h i l hc
      exact ⟨(g, p), fun l' h => by injection h with h; subst h; exact ⟨h1, h2⟩⟩
  refine .clo f caps ptrs (fun i => (H i).choose.1) (fun i => (H i).choose.2) (fun i j => (m (H i).choose.1 ((H i).choose.2 + j)).getD undef) hsz (fun i r hr => ((H i).choose_spec r hr).1) (fun i r j d hr hd => ?_) (fun i r j d hr hd => ?_)
  · obtain ⟨u, h1, h2⟩ := ((H i).choose_spec r hr).2 j d hd
    rw [h1]; rfl
  · obtain ⟨u, h1, h2⟩ := ((H i).choose_spec r hr).2 j d hd
    rw [h1]; exact h2
theorem ok_mfc (hM : Mk M S) {op : Oper} {d f : Nat} {xs : List Operand} (hop : op.op = .makeFunc (.func f) #[] xs.toArray) (hd : op.dst = some d) (hok : okD N pins S d = true) {caps : List (List D)} (hc : capsF M xs = some caps) : OpOK P pins N op S (upd S d (.t (.d (.clo f caps)))) := by
  refine ok_of_run fun w0 m0 o0 G a w m o hN I => ?_
  obtain ⟨k1, k2, k3⟩ := okD_iff hok
  obtain ⟨c1, c2⟩ := capsF_get hM I hc
  have hrep : RepD m (.clo f caps) (.func (.func f) #[] (xs.map a.eval).toArray) := by
    refine clo_rep (by simpa using c1) fun i l hi => ?_
    have hlt : i < xs.length := by rw [c1]; exact (List.getElem?_eq_some_iff.1 hi).1
    obtain ⟨g, p, e, h⟩ := c2 i l hi
    refine ⟨g, p, ?_, h⟩
    rw [← e, List.getElem?_toArray, List.getD_eq_getElem?_getD, List.getElem?_eq_getElem (by simpa using hlt)]
    rfl
  refine ⟨.func (.func f) #[] (xs.map a.eval).toArray, w, m, o, ?_, by rw [hd]; exact I.set d _ _ (by omega) k2 hrep⟩
  unfold execOp
  rw [hop]
  simp [Instr.makeFunc]
/-- A call of a function that has caught variables. -/
theorem ok_callc (hM : Mk M S) {op : Oper} {d f : Nat} {xs : List Operand} {ts : Array TypeId} {fx : Operand} {caps : List (List D)} (hop : op.op = .call { callee := .value fx, args := xs.toArray, argTypes := ts }) (hfx : dO M fx = some (.clo f caps)) (hd : op.dst = some d) (hok : okD N pins S d = true) {fn : Func} (hfn : P.funcs[f]? = some fn) (hbody : fn.body.isNone = false) (hname : (fn.name == "runtime.NumGoroutine") = false)
    {args : List A} {r : A} (hargs : WkArgs (xs.map (cpO M)) args) (hp : args.all A.plain = true) (hf : FC P f (args ++ caps.map A.imm) [] r) (hnr : r.noRef = true) : OpOK P pins N op S (upd S d r) := by
  intro w0 m0 o0 G a w m o hN I K Q hK
  obtain ⟨h1, h2, h3⟩ := okD_iff hok
  have key : ∀ (xs : List Operand) (args : List A), WkArgs (xs.map (cpO M)) args → (xs.map a.eval).length = args.length ∧ ∀ i x, args[i]? = some x → ∃ s, RepA m w o S s x ((xs.map a.eval).getD i undef) := by
    intro xs
    induction xs with
    | nil => intro args h; cases h; exact ⟨rfl, fun i x h => by simp at h⟩
    | cons y ys ih =>
      intro args h
      cases h with
      | cons hx ht =>
        obtain ⟨k1, k2⟩ := ih _ ht
        refine ⟨by simpa using k1, fun i x hi => ?_⟩
        cases i with
        | zero => injection hi with hi; subst hi; exact ⟨0, hx.rep I.sat (cpO_rep hM I y 0)⟩
        | succ i => simpa using k2 i x (by simpa using hi)
  obtain ⟨k1, k2⟩ := key xs args hargs
  have hfv := dO_rep hM I hfx
  generalize hfe : a.eval fx = fv at hfv
  cases hfv with
  | clo _ _ ptrs g p fu q1 q2 q3 q4 =>
    have hpl : (args ++ caps.map A.imm).all A.plain = true := by
      rw [List.all_append, hp, Bool.true_and, List.all_eq_true]
      intro x hx
      obtain ⟨l, _, rfl⟩ := List.mem_map.1 hx
      rfl
    have hc := call_plain I hf hpl (vals := (xs.map a.eval).toArray ++ ptrs) (by simp [q1]; simpa using k1) (fun i x hi => by
      rw [List.getElem?_append] at hi
      rw [Array.getD_eq_getD_getElem?, Array.getElem?_append]
      split at hi
      · rename_i hlt
        rw [if_pos (by simp at k1 ⊢; omega)]
        have := k2 i x hi
        simpa [List.getD_eq_getElem?_getD] using this
      · rename_i hlt
        rw [if_neg (by simp at k1 ⊢; omega)]
        rw [List.getElem?_map] at hi
        cases hc : caps[i - args.length]? with
        | none => rw [hc] at hi; cases hi
        | some l =>
          rw [hc] at hi
          injection hi with hi
          subst hi
          have e : i - (xs.map a.eval).toArray.size = i - args.length := by simp at k1 ⊢; omega
          rw [e, q2 _ l hc]
          exact ⟨0, g _, p _, rfl, fun j d hj => ⟨_, q3 _ l j d hc hj, q4 _ l j d hc hj⟩⟩) (d := d) (by omega) h2 h3 hnr
    unfold Oper.wp
    have hrun : (execOp a.eval op).run P w = .ok (.enter f ((xs.map a.eval).toArray ++ ptrs)) w := by
      unfold execOp
      rw [hop]
      simp only [resolve, hfe, Deferred.ofValue, List.map_toArray]
      have hb : fn.body ≠ none := fun e => by rw [e] at hbody; cases hbody
      have hn : fn.name ≠ "runtime.NumGoroutine" := fun e => by rw [e] at hname; simp at hname
      simp [invoke, callFunc, hfn, hn, hb]
    rw [hrun]
    refine Calls.mono hc ?_
    rintro e w' ⟨u, m', o', rfl, J⟩
    rw [← hd] at J
    exact hK _ _ _ _ (by rw [put_size, hN]) J
end
section
variable {P : Program} {pins : List Nat} {N : Nat} {ops : Array Oper} {Q : SL → Prop} {r : List Oper} {op : Oper} {L : SL}
theorem o_mfc {d f : Nat} {xs : List Operand} {caps : List (List D)} (x : A) (hy : yes ops op L true) (hop : op.op = .makeFunc (.func f) #[] xs.toArray) (hd : op.dst = some d) (hok : okD N pins (gt L) d = true) (hc : capsF (gt L) xs = some caps) (hx : A.t (.d (.clo f caps)) = x) (k : OpsOK P pins N ops Q r ((d, x) :: L)) : OpsOK P pins N ops Q (op :: r) L := by
  subst hx
  exact o_of (e := [(d, _)]) hy (.of (e := [(d, _)]) fun hN => ⟨ok_mfc (Mk_hx _) hop hd (okD_hx hN hok) hc, eff_1 (okD_lo hN hok)⟩) rfl k
theorem o_cc {d f : Nat} {xs : List Operand} {ts : Array TypeId} {args : List A} {caps : List (List D)} {y : A} (hf : FC P f (args ++ caps.map A.imm) [] y) (hy : yes ops op L true) {fx : Operand} (hop : op.op = .call { callee := .value fx, args := xs.toArray, argTypes := ts }) (hfx : dO (gt L) fx = some (.clo f caps)) (hd : op.dst = some d) (hok : okD N pins (gt L) d = true)
    {fn : Func} (hfn : P.funcs[f]? = some fn) (hbody : fn.body.isNone = false) (hname : (fn.name == "runtime.NumGoroutine") = false) (hargs : WkArgs (xs.map (cpO (gt L))) args) (hp : args.all A.plain = true) (hnr : y.noRef = true) (k : OpsOK P pins N ops Q r ((d, y) :: L)) : OpsOK P pins N ops Q (op :: r) L :=
  o_of (e := [(d, y)]) hy (.of (e := [(d, y)]) fun hN => ⟨ok_callc (Mk_hx _) hop hfx hd (okD_hx hN hok) hfn hbody hname hargs hp hf hnr, eff_1 (okD_lo hN hok)⟩) rfl k
end
section
variable {P : Program} {pins : List Nat} {N : Nat} {l0 : List Oper} {Q : SL → Prop} {r : List Oper} {op : Oper} {L : SL} {acc : List (List Nat × List Nat)} {T : List Nat}
theorem d_mfc {d f : Nat} {xs : List Operand} {caps : List (List D)} (x : A) (hT : frcNs (touch l0.toArray (gt L) op) some = some T) (hy : dyes l0 op L T) (hop : op.op = .makeFunc (.func f) #[] xs.toArray) (hd : op.dst = some d) (hdT : T.contains d = true) (hok : okD N pins (gt L) d = true) (hc : capsF (mask T (gt L)) xs = some caps) (hx : A.t (.d (.clo f caps)) = x) (k : DOK P pins N l0 Q r ((T, [d]) :: acc) ((d, x) :: L)) : DOK P pins N l0 Q (op :: r) acc L := by
  subst hx
  exact d_of (ks := [d]) hT hy (e := [(d, _)]) rfl (by simp only [List.all_cons, List.all_nil, hdT]; rfl) (fun S' hS => have hok := d_mf.okD_of hS (by simpa using hdT) hok; .of (e := [(d, _)]) fun hN => ⟨ok_mfc (mask_Mk hS).hx hop hd (okD_hx hN hok) hc, eff_1 (okD_lo hN hok)⟩) rfl k
theorem d_cc {d f : Nat} {xs : List Operand} {ts : Array TypeId} {args : List A} {caps : List (List D)} {y : A} (hf : FC P f (args ++ caps.map A.imm) [] y) (hT : frcNs (touch l0.toArray (gt L) op) some = some T) (hy : dyes l0 op L T) {fx : Operand} (hop : op.op = .call { callee := .value fx, args := xs.toArray, argTypes := ts }) (hfx : dO (mask T (gt L)) fx = some (.clo f caps)) (hd : op.dst = some d) (hdT : T.contains d = true) (hok : okD N pins (gt L) d = true)
    {fn : Func} (hfn : P.funcs[f]? = some fn) (hbody : fn.body.isNone = false) (hname : (fn.name == "runtime.NumGoroutine") = false) (hargs : WkArgs (xs.map (cpO (mask T (gt L)))) args) (hp : args.all A.plain = true) (hnr : y.noRef = true) (k : DOK P pins N l0 Q r ((T, [d]) :: acc) ((d, y) :: L)) : DOK P pins N l0 Q (op :: r) acc L :=
  d_of (ks := [d]) hT hy (e := [(d, y)]) rfl (by simp only [List.all_cons, List.all_nil, hdT]; rfl) (fun S' hS => have hok := d_mf.okD_of hS (by simpa using hdT) hok; .of (e := [(d, y)]) fun hN => ⟨ok_callc (mask_Mk hS).hx hop hfx hd (okD_hx hN hok) hfn hbody hname hargs hp hf hnr, eff_1 (okD_lo hN hok)⟩) rfl k
end
end Go.Proofs.YtimdogdplphmoaaDoor
