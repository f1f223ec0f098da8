/-
  The rules of the walk inside a region that draws its order.
-/
import Derived.Test.YtimdogdplphmoaaDoorDraw
namespace Go.Proofs.YtimdogdplphmoaaDoor
open Go Go.RowKit
set_option linter.unusedVariables false

def DOK (P : Program) (pins : List Nat) (N : Nat) (l0 : List Oper) (Q : SL → Prop) : List Oper → List (List Nat × List Nat) → SL → Prop
  | [], acc, L => okOrd l0 acc.reverse = true ∧ Q L
  | op :: r, acc, L => ∃ T e, LStep P pins N l0.toArray op T (gt L) e ∧ DOK P pins N l0 Q r ((T, keys e) :: acc) (setL L e)

section
variable {P : Program} {pins : List Nat} {N : Nat} {l0 : List Oper} {Q : SL → Prop} {r : List Oper} {op : Oper} {L L' : SL} {acc : List (List Nat × List Nat)}
theorem dok_trace : ∀ (r : List Oper) (acc : List (List Nat × List Nat)) (L : SL), DOK P pins N l0 Q r acc L → ∃ tr L', Trace P pins N l0.toArray r (gt L) tr ∧ okOrd l0 (acc.reverse ++ tr.map fun x => (x.1, keys x.2)) = true ∧ Q L' ∧ gt L' = stL (fun _ => true) 0 (tr.map (·.2)) (gt L)
  | [], acc, L, ⟨h1, h2⟩ => ⟨[], L, .nil _, by simpa using h1, h2, rfl⟩
  | op :: r, acc, L, ⟨T, e, h1, h3⟩ => by
    obtain ⟨tr, L', k1, k2, k3, k5⟩ := dok_trace r _ _ h3
    have hg : gt (setL L e) = app (gt L) e := gt_setL L e
    rw [hg] at k1 k5
    refine ⟨(T, e) :: tr, L', .cons h1 k1, by simpa using k2, k3, ?_⟩
    rw [k5, List.map_cons]
    show _ = stL _ 1 _ (if true = true then app (gt L) e else gt L)
    rw [if_pos rfl]
    have shift : ∀ (l : List Eff) (a : Nat) (S : Nat → A), stL (fun _ => true) (a + 1) l S = stL (fun _ => true) a l S := by
      intro l
      induction l with
      | nil => intro a S; rfl
      | cons x l ih => intro a S; simp only [stL, ih]
    exact (shift _ 0 _).symm
theorem c_draw {id : Nat} {Q : Exit → SL → Prop} (hm : P.follows .mixedOrders = true) (hback : backB l0.toArray = true) (h : DOK P pins N l0 (Q .normal) l0 [] L) : CodeOK P pins N (.region id l0.toArray true) Q L := by
  intro w0 m0 o0 G a w hS
  obtain ⟨tr, L', k1, k2, k3, k5⟩ := dok_trace l0 [] L h
  refine draw_sound hm hback hS k1 (by simpa using k2) fun a' w' hN' ⟨hl, m, o, I⟩ => ⟨L', k3, hN', by rw [k5]; exact hl, m, o, by rw [k5]; exact I⟩

theorem all_T {e : Eff} {T : List Nat} (h : (keys e).all T.contains = true) : ∀ x ∈ keys e, x ∈ T := fun x hx => by simpa using List.all_eq_true.1 h x hx
theorem l_step {T : List Nat} {d : Nat} {C : Prop} {eff : Eff} (tk : Bool) (hd : op.dst = some d) (hdT : T.contains d = true) (hok : okD N pins (gt L) d = true) (h : opF P pins tk (mask T (gt L)) d op.op = some (C, eff)) (hC : C) : ∀ S', (∀ t ∈ T, S' t = gt L t) → OpH P pins N op S' (app S' eff) := by
  intro S' hS
  have hok' : okD N pins S' d = true := by
    unfold okD at hok ⊢
    rw [hS d (by simpa using hdT)]
    exact hok
  exact .of fun hN => ⟨opF_ok (mask_Mk hS).hx hd (okD_hx hN hok') h hC, opF_eff (mask_Mk hS) (okD_lo hN hok') h⟩
theorem l_store {T : List Nat} {t : Nat} {x y : Operand} {eff : Eff} (hop : op.op = .store t x y) (hd : op.dst = none) (h : stF P pins (mask T (gt L)) t x y = some eff) : ∀ S', (∀ t ∈ T, S' t = gt L t) → OpH P pins N op S' (app S' eff) :=
  fun S' hS => .of fun _ => ⟨stF_ok (mask_Mk hS).hx hop hd h, stF_eff (mask_Mk hS) h⟩
theorem l_call {T : List Nat} {d f : Nat} {xs : List Operand} {ts : Array TypeId} {args : List A} {y : A} (hf : FC P f args [] y) {fx : Operand} (hop : op.op = .call { callee := .value fx, args := xs.toArray, argTypes := ts }) (hfx : vO (mask T (gt L)) fx = some (.func (.func f) #[] #[])) (hd : op.dst = some d) (hdT : T.contains d = true) (hok : okD N pins (gt L) d = true)
    {fn : Func} (hfn : P.funcs[f]? = some fn) (hbody : fn.body.isNone = false) (hname : (fn.name == "runtime.NumGoroutine") = false) (hargs : WkArgs (xs.map (cpO (mask T (gt L)))) args) (hp : args.all A.plain = true) (hnr : y.noRef = true) : ∀ S', (∀ t ∈ T, S' t = gt L t) → OpH P pins N op S' (app S' [(d, y)]) := by
  intro S' hS
  have hok' : okD N pins S' d = true := by
    unfold okD at hok ⊢
    rw [hS d (by simpa using hdT)]
    exact hok
  exact .of (e := [(d, y)]) fun hN => ⟨ok_call (mask_Mk hS).hx hop hfx hd (okD_hx hN hok') hfn hbody hname hargs hp hf hnr, eff_1 (okD_lo hN hok')⟩

theorem opF_okh {S M : Nat → A} {tk : Bool} {d : Nat} (hM : Mk M S) (hd : op.dst = some d) (hok : okD N pins S d = true) {C : Prop} {eff : Eff} (h : opF P pins tk M d op.op = some (C, eff)) (hC : C) : OpH P pins N op S (app S eff) :=
  .of fun hN => ⟨opF_ok hM.hx hd (okD_hx hN hok) h hC, opF_eff hM (okD_lo hN hok) h⟩
theorem stF_okh {S M : Nat → A} (hM : Mk M S) {t : TypeId} {x y : Operand} (hop : op.op = .store t x y) (hd : op.dst = none) {eff : Eff} (h : stF P pins M t x y = some eff) : OpH P pins N op S (app S eff) :=
  .of fun _ => ⟨stF_ok hM.hx hop hd h, stF_eff hM h⟩
theorem ok_callh {S M : Nat → A} (hM : Mk M S) {d f : Nat} {xs : List Operand} {ts : Array TypeId} {fx : Operand} (hop : op.op = .call { callee := .value fx, args := xs.toArray, argTypes := ts }) (hfx : vO M fx = some (.func (.func f) #[] #[])) (hd : op.dst = some d) (hok : okD N pins S d = true) {fn : Func} (hfn : P.funcs[f]? = some fn) (hbody : fn.body.isNone = false) (hname : (fn.name == "runtime.NumGoroutine") = false)
    {args : List A} {y : A} (hargs : WkArgs (xs.map (cpO M)) args) (hp : args.all A.plain = true) (hf : FC P f args [] y) (hnr : y.noRef = true) : OpH P pins N op S (app S [(d, y)]) :=
  .of (e := [(d, y)]) fun hN => ⟨ok_call hM.hx hop hfx hd (okD_hx hN hok) hfn hbody hname hargs hp hf hnr, eff_1 (okD_lo hN hok)⟩
theorem ok_callmh {S M : Nat → A} (hM : Mk M S) {d f s i : Nat} {xs : List Operand} {ts : Array TypeId} {fx : Operand} (hop : op.op = .call { callee := .value fx, args := xs.toArray, argTypes := ts }) (hfx : vO M fx = some (.func (.func f) #[] #[])) (hd : op.dst = some d) (hok : okD N pins S d = true) {fn : Func} (hfn : P.funcs[f]? = some fn) (hbody : fn.body.isNone = false) (hname : (fn.name == "runtime.NumGoroutine") = false)
    {args : List A} {outs : List (Nat × List T)} {y z : A} (hargs : MvArgs M s i xs args) (hz : leftF pins M outs s i = some z) (hds : (d == s || !Nat.blt s OB || !Nat.blt i OB) = false) (hf : FC P f args outs y) (hnr : y.noRef = true) : OpH P pins N op S (app S [(s, z), (d, y)]) :=
  .of (e := [(s, z), (d, y)]) fun hN => ⟨ok_callm hM.hx hop hfx hd (okD_hx hN hok) hfn hbody hname hargs hz hds hf hnr, leftF_eff hM hz (okD_lo hN hok)⟩
/-- A list of numbers, spelled out. -/
def frcNs {R : Sort _} : List Nat → (List Nat → R) → R
  | [], K => K []
  | x :: r, K => frcNs r fun r => K (x :: r)
theorem frcNs_of : ∀ {R : Sort _} (l : List Nat) (K : List Nat → R), frcNs l K = K l
  | _, [], _ => rfl
  | _, x :: r, K => by unfold frcNs; rw [frcNs_of]
def keysN {R : Sort _} : Eff → (List Nat → R) → R
  | [], K => K []
  | (s, _) :: r, K => keysN r fun r => K (s :: r)
theorem keysN_eq : ∀ {R : Sort _} (e : Eff) (K : List Nat → R), keysN e K = K (keys e)
  | _, [], _ => rfl
  | _, (s, x) :: r, K => by unfold keysN; rw [keysN_eq]; rfl
theorem keys_of {e : Eff} {l' : List Nat} (h : keysN e some = some l') : keys e = l' := by
  rw [keysN_eq] at h
  injection h
theorem touch_of {l l' : List Nat} (h : frcNs l some = some l') : l = l' := by
  rw [frcNs_of] at h
  injection h

theorem d_step {T ks : List Nat} {d : Nat} {C : Prop} {eff eff' : Eff} (hg : op.guard = none) (hT : frcNs (touch l0.toArray (gt L) op) some = some T) (hd : op.dst = some d) (hdT : T.contains d = true) (hok : okD N pins (gt L) d = true) (h0 : opF P pins (wants d r) (gt L) d op.op = some (C, eff)) (h : opF P pins (wants d r) (mask T (gt L)) d op.op = some (C, eff)) (hks : keysN eff some = some ks) (hk : ks.all T.contains = true) (he : eff = eff') (hL : setN false L eff' some = some L') (hC : C) (k : DOK P pins N l0 Q r ((T, ks) :: acc) L') : DOK P pins N l0 Q (op :: r) acc L := by
  have hT := touch_of hT
  have hks := keys_of hks
  have hL := setN_of hL
  subst he hL
  subst hks
  exact ⟨T, eff, ⟨all_T hk, .inl ⟨hg, l_step _ hd hdT hok h hC⟩⟩, k⟩
theorem d_stepN (b : Bool) {T ks : List Nat} {d : Nat} {C : Prop} {eff eff' : Eff} (hg : op.guard = none) (hT : frcNs (touch l0.toArray (gt L) op) some = some T) (hd : op.dst = some d) (hdT : T.contains d = true) (hok : okD N pins (gt L) d = true) (h0 : opN b P pins (wants d r) (gt L) d op.op = some (C, eff)) (h : opN b P pins (wants d r) (mask T (gt L)) d op.op = some (C, eff)) (hks : keysN eff some = some ks) (hk : ks.all T.contains = true) (he : eff = eff') (hL : setN false L eff' some = some L') (hC : C) (k : DOK P pins N l0 Q r ((T, ks) :: acc) L') : DOK P pins N l0 Q (op :: r) acc L := by
  have hT := touch_of hT
  have hks := keys_of hks
  have hL := setN_of hL
  subst he hL
  subst hks
  exact ⟨T, eff, ⟨all_T hk, .inl ⟨hg, l_step _ hd hdT hok (opN_of h) hC⟩⟩, k⟩
theorem d_store {T ks : List Nat} {t : Nat} {x y : Operand} {eff : Eff} (hg : op.guard = none) (hT : frcNs (touch l0.toArray (gt L) op) some = some T) (hop : op.op = .store t x y) (hd : op.dst = none) (h0 : stF P pins (gt L) t x y = some eff) (h : stF P pins (mask T (gt L)) t x y = some eff) (hks : keysN eff some = some ks) (hk : ks.all T.contains = true) (hL : setL L eff = L') (k : DOK P pins N l0 Q r ((T, ks) :: acc) L') : DOK P pins N l0 Q (op :: r) acc L := by
  have hT := touch_of hT
  have hks := keys_of hks
  subst hL
  subst hks
  exact ⟨T, eff, ⟨all_T hk, .inl ⟨hg, l_store hop hd h⟩⟩, k⟩
theorem d_storeN (b : Bool) {T ks : List Nat} {t : Nat} {x y : Operand} {eff : Eff} (hg : op.guard = none) (hT : frcNs (touch l0.toArray (gt L) op) some = some T) (hop : op.op = .store t x y) (hd : op.dst = none) (h0 : stN b P pins (gt L) t x y = some eff) (h : stN b P pins (mask T (gt L)) t x y = some eff) (hks : keysN eff some = some ks) (hk : ks.all T.contains = true) (hL : setN false L eff some = some L') (k : DOK P pins N l0 Q r ((T, ks) :: acc) L') : DOK P pins N l0 Q (op :: r) acc L := by
  have hT := touch_of hT
  have hks := keys_of hks
  have hL := setN_of hL
  subst hL
  subst hks
  exact ⟨T, eff, ⟨all_T hk, .inl ⟨hg, l_store hop hd (stN_of h)⟩⟩, k⟩
theorem d_call {T : List Nat} {d f : Nat} {xs : List Operand} {ts : Array TypeId} {args : List A} {y : A} (hf : FC P f args [] y) (hg : op.guard = none) (hT : frcNs (touch l0.toArray (gt L) op) some = some T) {fx : Operand} (hop : op.op = .call { callee := .value fx, args := xs.toArray, argTypes := ts }) (hfx : vO (mask T (gt L)) fx = some (.func (.func f) #[] #[])) (hd : op.dst = some d) (hdT : T.contains d = true) (hok : okD N pins (gt L) d = true)
    {fn : Func} (hfn : P.funcs[f]? = some fn) (hbody : fn.body.isNone = false) (hname : (fn.name == "runtime.NumGoroutine") = false) (hargs : WkArgs (xs.map (cpO (mask T (gt L)))) args) (hp : args.all A.plain = true) (hnr : y.noRef = true) (hL : (d, y) :: L = L') (k : DOK P pins N l0 Q r ((T, [d]) :: acc) L') : DOK P pins N l0 Q (op :: r) acc L := by
  have hT := touch_of hT
  subst hL
  exact ⟨T, [(d, y)], ⟨fun x hx => by simp [keys] at hx; subst hx; simpa using hdT, .inl ⟨hg, l_call hf hop hfx hd hdT hok hfn hbody hname hargs hp hnr⟩⟩, k⟩
theorem l_callm {Ts : List Nat} {d f s i : Nat} {xs : List Operand} {ts : Array TypeId} {fx : Operand} {args : List A} {outs : List (Nat × List T)} {y z : A} (hf : FC P f args outs y) (hop : op.op = .call { callee := .value fx, args := xs.toArray, argTypes := ts }) (hfx : vO (mask Ts (gt L)) fx = some (.func (.func f) #[] #[])) (hd : op.dst = some d) (hdT : Ts.contains d = true) (hok : okD N pins (gt L) d = true)
    {fn : Func} (hfn : P.funcs[f]? = some fn) (hbody : fn.body.isNone = false) (hname : (fn.name == "runtime.NumGoroutine") = false) (hargs : MvArgs (mask Ts (gt L)) s i xs args) (hz : leftF pins (mask Ts (gt L)) outs s i = some z) (hds : (d == s || !Nat.blt s OB || !Nat.blt i OB) = false) (hnr : y.noRef = true) : ∀ S', (∀ t ∈ Ts, S' t = gt L t) → OpH P pins N op S' (app S' [(s, z), (d, y)]) := by
  intro S' hS
  have hok' : okD N pins S' d = true := by
    unfold okD at hok ⊢
    rw [hS d (by simpa using hdT)]
    exact hok
  exact .of (e := [(s, z), (d, y)]) fun hN => ⟨ok_callm (mask_Mk hS).hx hop hfx hd (okD_hx hN hok') hfn hbody hname hargs hz hds hf hnr, leftF_eff (mask_Mk hS) hz (okD_lo hN hok')⟩
theorem d_callm (b : Bool) {Ts : List Nat} {d f s i : Nat} {xs : List Operand} {ts : Array TypeId} {fx : Operand} {args : List A} {outs : List (Nat × List T)} {y z : A} (hf : FC P f args outs y) (hg : op.guard = none) (hT : frcNs (touch l0.toArray (gt L) op) some = some Ts) (hop : op.op = .call { callee := .value fx, args := xs.toArray, argTypes := ts }) (hfx : vO (mask Ts (gt L)) fx = some (.func (.func f) #[] #[])) (hd : op.dst = some d) (hdT : Ts.contains d = true) (hok : okD N pins (gt L) d = true)
    {fn : Func} (hfn : P.funcs[f]? = some fn) (hbody : fn.body.isNone = false) (hname : (fn.name == "runtime.NumGoroutine") = false) (hargs : MvArgs (mask Ts (gt L)) s i xs args) (hz0 : leftF pins (gt L) outs s i = some z) (hz : leftF pins (mask Ts (gt L)) outs s i = some z) (hds : (d == s || !Nat.blt s OB || !Nat.blt i OB) = false) (hsT : Ts.contains s = true) (hnr : y.noRef = true) (hL : setN b L [(s, z), (d, y)] some = some L') (k : DOK P pins N l0 Q r ((Ts, [s, d]) :: acc) L') : DOK P pins N l0 Q (op :: r) acc L := by
  have hT := touch_of hT
  have hL := setN_of hL
  subst hL
  refine ⟨Ts, [(s, z), (d, y)], ⟨fun x hx => ?_, .inl ⟨hg, l_callm hf hop hfx hd hdT hok hfn hbody hname hargs hz hds hnr⟩⟩, k⟩
  simp [keys] at hx
  rcases hx with rfl | rfl
  · simpa using hsT
  · simpa using hdT
theorem d_yes_step {T ks : List Nat} {d j t : Nat} {c want : Bool} {C : Prop} {eff eff' : Eff} (hg : op.guard = some (j, want)) (ht : (l0.toArray[j]?).bind (·.dst) = some t) (hT : frcNs (touch l0.toArray (gt L) op) some = some T) (htT : T.contains t = true) (hc : gt L t = .t (.d (.lit (.bool c)))) (hw : c = want) (hd : op.dst = some d) (hdT : T.contains d = true) (hok : okD N pins (gt L) d = true) (h0 : opF P pins (wants d r) (gt L) d op.op = some (C, eff)) (h : opF P pins (wants d r) (mask T (gt L)) d op.op = some (C, eff)) (hks : keysN eff some = some ks) (hk : ks.all T.contains = true) (he : eff = eff') (hL : setN false L eff' some = some L') (hC : C) (k : DOK P pins N l0 Q r ((T, ks) :: acc) L') : DOK P pins N l0 Q (op :: r) acc L := by
  have hT := touch_of hT
  have hks := keys_of hks
  have hL := setN_of hL
  subst he hL
  subst hks
  exact ⟨T, eff, ⟨all_T hk, .inr ⟨j, want, t, hg, ht, by simpa using htT, .inl ⟨by rw [hc, hw], l_step _ hd hdT hok h hC⟩⟩⟩, k⟩
theorem d_yes_stepN (b : Bool) {T ks : List Nat} {d j t : Nat} {c want : Bool} {C : Prop} {eff eff' : Eff} (hg : op.guard = some (j, want)) (ht : (l0.toArray[j]?).bind (·.dst) = some t) (hT : frcNs (touch l0.toArray (gt L) op) some = some T) (htT : T.contains t = true) (hc : gt L t = .t (.d (.lit (.bool c)))) (hw : c = want) (hd : op.dst = some d) (hdT : T.contains d = true) (hok : okD N pins (gt L) d = true) (h0 : opN b P pins (wants d r) (gt L) d op.op = some (C, eff)) (h : opN b P pins (wants d r) (mask T (gt L)) d op.op = some (C, eff)) (hks : keysN eff some = some ks) (hk : ks.all T.contains = true) (he : eff = eff') (hL : setN false L eff' some = some L') (hC : C) (k : DOK P pins N l0 Q r ((T, ks) :: acc) L') : DOK P pins N l0 Q (op :: r) acc L := by
  have hT := touch_of hT
  have hks := keys_of hks
  have hL := setN_of hL
  subst he hL
  subst hks
  exact ⟨T, eff, ⟨all_T hk, .inr ⟨j, want, t, hg, ht, by simpa using htT, .inl ⟨by rw [hc, hw], l_step _ hd hdT hok (opN_of h) hC⟩⟩⟩, k⟩
theorem d_yes_call {T : List Nat} {d f j t : Nat} {c want : Bool} {xs : List Operand} {ts : Array TypeId} {args : List A} {y : A} (hf : FC P f args [] y) (hg : op.guard = some (j, want)) (ht : (l0.toArray[j]?).bind (·.dst) = some t) (hT : frcNs (touch l0.toArray (gt L) op) some = some T) (htT : T.contains t = true) (hc : gt L t = .t (.d (.lit (.bool c)))) (hw : c = want) {fx : Operand} (hop : op.op = .call { callee := .value fx, args := xs.toArray, argTypes := ts }) (hfx : vO (mask T (gt L)) fx = some (.func (.func f) #[] #[])) (hd : op.dst = some d) (hdT : T.contains d = true) (hok : okD N pins (gt L) d = true)
    {fn : Func} (hfn : P.funcs[f]? = some fn) (hbody : fn.body.isNone = false) (hname : (fn.name == "runtime.NumGoroutine") = false) (hargs : WkArgs (xs.map (cpO (mask T (gt L)))) args) (hp : args.all A.plain = true) (hnr : y.noRef = true) (hL : (d, y) :: L = L') (k : DOK P pins N l0 Q r ((T, [d]) :: acc) L') : DOK P pins N l0 Q (op :: r) acc L := by
  have hT := touch_of hT
  subst hL
  exact ⟨T, [(d, y)], ⟨fun x hx => by simp [keys] at hx; subst hx; simpa using hdT, .inr ⟨j, want, t, hg, ht, by simpa using htT, .inl ⟨by rw [hc, hw], l_call hf hop hfx hd hdT hok hfn hbody hname hargs hp hnr⟩⟩⟩, k⟩
theorem d_no {T : List Nat} {d j t : Nat} {c want : Bool} (hg : op.guard = some (j, want)) (ht : (l0.toArray[j]?).bind (·.dst) = some t) (hT : frcNs (touch l0.toArray (gt L) op) some = some T) (htT : T.contains t = true) (hc : gt L t = .t (.d (.lit (.bool c)))) (hw : c = !want) (hd : op.dst = some d) (hdT : T.contains d = true) (hok : okD N pins (gt L) d = true) (hL : (d, .tup []) :: L = L') (k : DOK P pins N l0 Q r ((T, [d]) :: acc) L') : DOK P pins N l0 Q (op :: r) acc L := by
  have hT := touch_of hT
  subst hL
  exact ⟨T, [(d, .tup [])], ⟨fun x hx => by simp [keys] at hx; subst hx; simpa using hdT, .inr ⟨j, want, t, hg, ht, by simpa using htT, .inr ⟨.inl (by rw [hc, hw]), d, hd, by simpa using hdT, hok, rfl⟩⟩⟩, k⟩
theorem d_un {T : List Nat} {d j t : Nat} {want : Bool} (hg : op.guard = some (j, want)) (ht : (l0.toArray[j]?).bind (·.dst) = some t) (hT : frcNs (touch l0.toArray (gt L) op) some = some T) (htT : T.contains t = true) (hc : gt L t = .tup []) (hd : op.dst = some d) (hdT : T.contains d = true) (hok : okD N pins (gt L) d = true) (k : DOK P pins N l0 Q r ((T, [d]) :: acc) ((d, .tup []) :: L)) : DOK P pins N l0 Q (op :: r) acc L := by
  have hT := touch_of hT
  exact ⟨T, [(d, .tup [])], ⟨fun x hx => by simp [keys] at hx; subst hx; simpa using hdT, .inr ⟨j, want, t, hg, ht, by simpa using htT, .inr ⟨.inr hc, d, hd, by simpa using hdT, hok, rfl⟩⟩⟩, k⟩
theorem d_nil (ho : okB l0 acc.reverse = true) (h : Q L) : DOK P pins N l0 Q [] acc L := ⟨okB_ord ho, h⟩
end
end Go.Proofs.YtimdogdplphmoaaDoor
