/-
  The heap in a walk: the rules.
-/
import Derived.Test.YtimdogdplphmoaaDoorHpe
namespace Go.Proofs.YtimdogdplphmoaaDoor
open Go Go.RowKit
set_option linter.unusedVariables false

section
variable {P : Program} {pins : List Nat} {N : Nat} {S M : Nat → A} {op : Oper} {e : Eff} {d c : Nat} {f f' : Nat → A}
theorem OpH.of' (h : N ≤ OB → Low S → OpOK P pins N op (hx S) (app (hx S) e) ∧ effOK S e) : OpH P pins N op S (app S e) :=
  fun hN hl => by
    obtain ⟨h1, h2⟩ := h hN hl
    rw [hx_app h2]
    exact ⟨h1, hl.app h2⟩
theorem OpOK.hkpost {S1 : Nat → A} (h : OpOK P pins N op S S1) (hk : S1 HK = .hp f) : OpOK P pins N op S (upd S1 HK (.hp f')) :=
  fun w0 m0 o0 G a w m o hN I K Q hK => h w0 m0 o0 G a w m o hN I K Q fun a' w' m' o' hN' I' => hK a' w' m' o' hN' (I'.hk hk f')
theorem upd_comm {S : Nat → A} {s t : Nat} {x y : A} (h : s ≠ t) : upd (upd S s x) t y = upd (upd S t y) s x := by
  funext k
  unfold upd
  by_cases h1 : k = s
  · subst h1; simp [h]
  · simp [h1]
theorem hx_updL {x : A} (hd : d < OB2) (hk : d ≠ HK) : hx (upd S d x) = upd (hx S) d x := by
  funext t
  by_cases e : t = d
  · subst e
    rw [hx_lo hd, upd_same, upd_same]
  · rw [upd_other e]
    unfold hx
    rw [upd_other e, upd_other (Ne.symm hk)]
/-- One operation that writes the heap. -/
theorem h_put {l' : List T} (hk : S HK = .hp f) (hf' : f' = updF f c (.box l')) (h : N ≤ OB → Low S → OpOK P pins N op (hx S) (upd (hx S) (OB + (OB + c)) (.box l'))) : OpH P pins N op S (app S [(HK, .hp f')]) := by
  subst hf'
  intro hN hl
  refine ⟨?_, hl.upd hk_lt⟩
  show OpOK P pins N op (hx S) (hx (upd S HK _))
  rw [hx_set hl hk rfl]
  refine (h hN hl).hkpost (f := f) ?_
  rw [upd_other (by unfold HK OB; omega)]
  exact hx_of hk (by simp)
theorem h_mk {l' : List T} {x : A} (hk : S HK = .hp f) (hf' : f' = updF f c (.box l')) (hok : okD N pins S d = true) (h : N ≤ OB → Low S → OpOK P pins N op (hx S) (app (hx S) [(OB + (OB + c), .box l'), (d, x)])) : OpH P pins N op S (app S [(HK, .hp f'), (d, x)]) := by
  subst hf'
  intro hN hl
  have hdO := okD_lo hN hok
  have hd2 : d ≠ HK := by unfold HK; unfold OB at hdO; omega
  refine ⟨?_, (hl.upd hk_lt).upd (lt2 hdO)⟩
  show OpOK P pins N op (hx S) (hx (upd (upd S HK _) d x))
  rw [hx_updL (lt2 hdO) hd2, hx_set hl hk rfl, upd_comm (Ne.symm hd2)]
  refine (h hN hl).hkpost (f := f) ?_
  show upd (upd (hx S) (OB + (OB + c)) _) d x HK = _
  rw [upd_other (Ne.symm hd2), upd_other (by unfold HK OB; omega)]
  exact hx_of hk (by simp)
theorem hx_free (hl : Low S) (hk : S HK = .hp f) (hf : f c = .free) : hx S (OB + (OB + c)) = .free := by rw [hx_hp hl hk, hf]; rfl
theorem hx_box {l : List T} (hl : Low S) (hk : S HK = .hp f) (hf : f c = .box l) : hx S (OB + (OB + c)) = .box l := by rw [hx_hp hl hk, hf]; rfl

theorem h_fd (hM : Mk M S) {off t k q : Nat} {x : Operand} {y : A} (hop : op.op = .fieldAddr t x k) (hx : cpO M x = .t (.hpt c off)) (hq : fdH P t k = some q) (hy : A.t (.hpt c (off + q)) = y) (hd : op.dst = some d) (hok : okD N pins S d = true) : OpH P pins N op S (app S [(d, y)]) := by
  subst hy
  exact .of fun hN => ⟨ok_hfd hM.hx hop hx hq hd (okD_hx hN hok), eff_1 (okD_lo hN hok)⟩
theorem h_ix (hM : Mk M S) {off E k n t : Nat} {x i : Operand} {ki : IntKind} {z : Int} {y : A} (hop : op.op = .indexAddr t x i) (hx : cpO M x = .t (.hvw c off E k n)) (hi : vO M i = some (.int ki z)) (hq : ixH P t = some (none, k)) (hz : 0 ≤ z ∧ z < n) (hy : A.t (.hpt c (off + z.toNat * k)) = y) (hd : op.dst = some d) (hok : okD N pins S d = true) : OpH P pins N op S (app S [(d, y)]) := by
  subst hy
  exact .of fun hN => ⟨ok_hix hM.hx hop hx hi hq hz hd (okD_hx hN hok), eff_1 (okD_lo hN hok)⟩
theorem h_ia (hM : Mk M S) {off k len t : Nat} {x i : Operand} {ki : IntKind} {z : Int} {y : A} (hop : op.op = .indexAddr t x i) (hx : cpO M x = .t (.hpt c off)) (hi : vO M i = some (.int ki z)) (hq : ixH P t = some (some len, k)) (hz : 0 ≤ z ∧ z < len) (hy : A.t (.hpt c (off + z.toNat * k)) = y) (hd : op.dst = some d) (hok : okD N pins S d = true) : OpH P pins N op S (app S [(d, y)]) := by
  subst hy
  exact .of fun hN => ⟨ok_hia hM.hx hop hx hi hq hz hd (okD_hx hN hok), eff_1 (okD_lo hN hok)⟩
theorem h_ln (hM : Mk M S) {off E k n t e : Nat} {x : Operand} {y : A} (hop : op.op = .call { callee := .builtin .len, args := #[x], argTypes := #[t] }) (hx : cpO M x = .t (.hvw c off E k n)) (hu : P.underlying t = some (.slice e)) (hy : A.t (.d (.lit (.int .i64 n))) = y) (hd : op.dst = some d) (hok : okD N pins S d = true) : OpH P pins N op S (app S [(d, y)]) := by
  subst hy
  exact .of fun hN => ⟨ok_hln hM.hx hop hx hu hd (okD_hx hN hok), eff_1 (okD_lo hN hok)⟩
theorem h_pn (hM : Mk M S) {bop : BinOp} {t yt e : Nat} {x : Operand} {b ng : Bool} (hop : op.op = .binOp bop t x (.const (.pointer none)) yt) (hb : bop = bif ng then .neq else .eql) (ht : P.underlying t = some (.pointer e)) (hx : ptrN (cpO M x) = some b) (hd : op.dst = some d) (hok : okD N pins S d = true) : OpH P pins N op S (app S [(d, .t (.d (.lit (.bool (b != ng)))))]) :=
  .of (e := [(d, _)]) fun hN => ⟨ok_hpn hM.hx hop hb ht hx hd (okD_hx hN hok), eff_1 (okD_lo hN hok)⟩
theorem h_ld (hM : Mk M S) (hk : S HK = .hp f) {off t n : Nat} {x : Operand} {l : List T} {z : T} {y : A} (hop : op.op = .load t x) (ht : tyA P t = some (false, n)) (hx : cpO M x = .t (.hpt c off)) (hf : f c = .box l) (hz : l[off]? = some z) (hy : norH z = some y) (hd : op.dst = some d) (hok : okD N pins S d = true) : OpH P pins N op S (app S [(d, y)]) :=
  .of' (e := [(d, y)]) fun hN hl => ⟨ok_hld hM.hx hop ht hx (hx_box hl hk hf) hz hy hd (okD_hx hN hok), eff_1 (okD_lo hN hok)⟩
theorem h_lr (hM : Mk M S) (hk : S HK = .hp f) {off t n : Nat} {x : Operand} {l r : List T} {y : List D} (hop : op.op = .load t x) (ht : tyA P t = some (true, n)) (hx : cpO M x = .t (.hpt c off)) (hf : f c = .box l) (hl : (l.drop off).take n = r) (hr : r.length = n) (hpt : noPt r = true) (hy : r.map toD = y) (hd : op.dst = some d) (hok : okD N pins S d = true) : OpH P pins N op S (app S [(d, .t (.agg y))]) :=
  .of' (e := [(d, _)]) fun hN hlo => ⟨ok_hlr hM.hx hop ht hx (hx_box hlo hk hf) hl hr hpt hy hd (okD_hx hN hok), eff_1 (okD_lo hN hok)⟩
theorem h_st (hM : Mk M S) (hk : S HK = .hp f) {t off : Nat} {x y : Operand} (hop : op.op = .store t x y) (hd : op.dst = none) {i : TypeInfo} (hi : P.info? t = some i) (hx : cpO M x = .t (.hpt c off)) {l l' : List T} (hf : f c = .box l) {q : List T} (hc : cellsP (cpO M y) = some q) (hsz : q.length = i.size) (hle : off + i.size ≤ l.length) (hl' : splice l off q = l') (hf' : f' = updF f c (.box l')) : OpH P pins N op S (app S [(HK, .hp f')]) := by
  subst hl'
  exact h_put hk hf' fun hN hl => ok_hst hM.hx hop hd hi hx (hx_box hl hk hf) hc hsz hle
theorem h_new (hk : S HK = .hp f) {E : Nat} {i : TypeInfo} {z : Value} {l : List T} (hop : op.op = .alloc E) (hi : P.info? E = some i) (hz : i.zero = some z) (hl : cellsT (litA z) = some l) (hd : op.dst = some d) (hok : okD N pins S d = true) (hf : f c = .free) (hf' : f' = updF f c (.box l)) : OpH P pins N op S (app S [(HK, .hp f'), (d, .t (.hpt c 0))]) :=
  h_mk hk hf' hok fun hN hlo => ok_hnew hop hi hz hl hd (okD_hx hN hok) (okD_lo hN hok) (hx_free hlo hk hf)
theorem h_box (hM : Mk M S) (hk : S HK = .hp f) {E : Nat} {x : Operand} {l : List T} (hop : op.op = .box E x) (hl : cellsP (cpO M x) = some l) (hd : op.dst = some d) (hok : okD N pins S d = true) (hf : f c = .free) (hf' : f' = updF f c (.box l)) : OpH P pins N op S (app S [(HK, .hp f'), (d, .t (.hpt c 0))]) :=
  h_mk hk hf' hok fun hN hlo => ok_hbox hM.hx hop hl hd (okD_hx hN hok) (okD_lo hN hok) (hx_free hlo hk hf)
theorem h_bd (hM : Mk M S) {t : Nat} {parts : List (Nat × Operand)} (hop : op.op = .build t parts.toArray) (hd : op.dst = some d) (hok : okD N pins S d = true) {l : List T} (h : bdT P M t parts = some l) : OpH P pins N op S (app S [(d, .ag l)]) :=
  .of (e := [(d, _)]) fun hN => ⟨ok_buildT hM.hx hop hd (okD_hx hN hok) h, eff_1 (okD_lo hN hok)⟩

/-! ### Calls -/
def nodupB : List Nat → Bool
  | [] => true
  | x :: r => !(r.any fun y => Nat.beq y x) && nodupB r
theorem nodupB_of : ∀ {l : List Nat}, nodupB l = true → l.Nodup
  | [], _ => .nil
  | x :: r, h => by
    simp only [nodupB, Bool.and_eq_true] at h
    rw [List.nodup_cons]
    refine ⟨fun hm => ?_, nodupB_of h.2⟩
    have : (r.any fun y => Nat.beq y x) = true := List.any_eq_true.2 ⟨x, hm, Nat.beq_refl x⟩
    rw [this] at h
    cases h.1
/-- What the call asks of the objects that are handed over (σ), and of the free ones (fr) that it may take. -/
def callB (M : Nat → A) (σ fr : List Nat) (outs : List A) : Bool :=
  nodupB (σ ++ fr) && (σ ++ fr).all (fun j => Nat.blt (j + 1) OB) && fr.all (fun j => match M (OB + j) with | .free => true | _ => false) && Nat.beq outs.length (σ ++ fr).length && Nat.ble outs.length OB
theorem hx_puts : ∀ {τ : List Nat} {outs : List A} {S : Nat → A}, (∀ j ∈ τ, j + 1 < OB) → hx (app S (putsO τ outs)) = app (hx S) (putsO τ outs)
  | [], outs, S, _ => by cases outs <;> rfl
  | j :: τ, [], S, _ => rfl
  | j :: τ, x :: r, S, h => by
    have hj := h j (by simp)
    show hx (app (upd S (OB + j) x) (putsO τ r)) = app (upd (hx S) (OB + j) x) (putsO τ r)
    rw [hx_puts (fun j hj => h j (List.mem_cons_of_mem _ hj)), hx_updL (by unfold OB OB2 at *; omega) (by unfold HK; unfold OB at *; omega)]
theorem low_puts : ∀ {τ : List Nat} {outs : List A} {S : Nat → A}, (∀ j ∈ τ, j + 1 < OB) → Low S → Low (app S (putsO τ outs))
  | [], outs, S, _, h => by cases outs <;> exact h
  | j :: τ, [], S, _, h => h
  | j :: τ, x :: r, S, h, hl => by
    have hj := h j (by simp)
    exact low_puts (S := upd S (OB + j) x) (fun j hj => h j (List.mem_cons_of_mem _ hj)) (hl.upd (by unfold OB OB2 at *; omega))
theorem puts_hk : ∀ {τ : List Nat} {outs : List A} {S : Nat → A}, (∀ j ∈ τ, j + 1 < OB) → app S (putsO τ outs) HK = S HK := fun h => puts_other fun e => by
  have := h _ e.2
  have h2 := e.1
  unfold HK at this
  unfold OB at this
  omega
theorem app_hpS : ∀ {τ : List Nat} {outs : List A} {S : Nat → A} {f' : Nat → A}, (∀ j ∈ τ, j + 1 < OB) → app (hpS S f') (putsO τ outs) = hpS (app S (putsO τ outs)) f'
  | [], outs, S, f', _ => by cases outs <;> rfl
  | j :: τ, [], S, f', _ => rfl
  | j :: τ, x :: r, S, f', h => by
    have hj := h j (by simp)
    show app (upd (hpS S f') (OB + j) x) (putsO τ r) = hpS (app (upd S (OB + j) x) (putsO τ r)) f'
    rw [← app_hpS (fun j hj => h j (List.mem_cons_of_mem _ hj))]
    congr 1
    funext t
    unfold upd hpS
    by_cases e : t = OB + j
    · subst e
      rw [if_pos rfl, if_neg (by unfold OB OB2 at *; omega)]
      simp
    · rw [if_neg e]
      simp [e]
theorem argsH_rep {w0 : World} {m0 : Mem} {o0 : OwnM} {G : Nat → Prop} {a : Act} {w : World} {m : Mem} {o : OwnM} (hM : Mk M S) (I : Inv w0 m0 o0 G pins S a w m o) {σ : List Nat} (hσ : σ.Nodup) (hl : σ.length ≤ OB) (hs : ∀ j ∈ σ, j < OB) {S' : Nat → A} : ∀ (xs : List Operand) (args : List A), ArgsH σ (xs.map (cpO M)) args → (xs.map a.eval).length = args.length ∧ ∀ (k : Nat) (x : A), args[k]? = some x → ∀ k0, RepA m w (movH σ o) S' k0 x ((xs.map a.eval).getD k undef)
  | [], args, h => by cases h; exact ⟨rfl, fun k x h => by simp at h⟩
  | y :: ys, args, h => by
    cases h with
    | cons hx ht =>
      obtain ⟨k1, k2⟩ := argsH_rep hM I hσ hl hs (S' := S') ys _ ht
      refine ⟨by simpa using k1, fun k x hk k0 => ?_⟩
      cases k with
      | succ k => simpa using k2 k x (by simpa using hk) k0
      | zero =>
        injection hk with hk
        subst hk
        have hr := cpO_rep hM I y 0
        show RepA m w (movH σ o) _ k0 _ (a.eval y)
        revert hx hr
        generalize cpO M y = z
        intro hx hr
        cases hx with
        | plain h hp => exact plain_rep hp (h.rep I.sat hr)
        | hpt c off => obtain ⟨g, q1, q2⟩ := hr; exact ⟨g, (movH_iff hσ hl hs).2 (.inl ⟨_, rfl, q1⟩), q2⟩
        | hvw c off E k n =>
          obtain ⟨A', q, q1, q2, q3, q4⟩ := hr
          exact ⟨A', q, q1, q2, q3, q4.imp id fun ⟨g, cs, k1, k2⟩ => ⟨g, cs, (movH_iff hσ hl hs).2 (.inl ⟨_, rfl, k1⟩), k2⟩⟩
        | view h =>
          obtain ⟨A', q, q1, q2, q3, q4⟩ := hr
          exact ⟨A', q, q1, q2, q3, q4.imp id fun ⟨g, cs, k1, k2⟩ => ⟨g, cs, (movH_iff hσ hl hs).2 (.inr ⟨_, _, rfl, by have := (List.getElem?_eq_some_iff.1 h).1; omega, h, k1⟩), k2⟩⟩
theorem h_call (hM : Mk M S) (hk : S HK = .hp f) {fn : Nat} {xs : List Operand} {ts : Array TypeId} {fx : Operand} (hop : op.op = .call { callee := .value fx, args := xs.toArray, argTypes := ts }) (hfx : vO M fx = some (.func (.func fn) #[] #[])) (hd : op.dst = some d) (hok : okD N pins S d = true) {F : Func} (hfn : P.funcs[fn]? = some F) (hbody : F.body.isNone = false) (hname : (F.name == "runtime.NumGoroutine") = false)
    {args : List A} {ins outs : List A} {r r' : A} {σ fr : List Nat} (hf : FCH P fn args ins outs f f' r) (hp : pureH f) (hp' : pureH f') (hb : callB M σ fr outs = true) (b3 : ins.all A.flatO = true) (b4 : outs.all A.flatO = true) (hin : σ.map (fun j => S (OB + j)) = ins) (hargs : ArgsH σ (xs.map (cpO M)) args) (hle : Nat.ble args.length OB = true) (hres : ResH (σ ++ fr) r r') :
    OpH P pins N op S (app S (putsO (σ ++ fr) outs ++ [(HK, .hp f'), (d, r')])) := by
  intro hN hlo
  unfold callB at hb
  simp only [Bool.and_eq_true] at hb
  obtain ⟨⟨⟨⟨b1, b2⟩, b5⟩, b6⟩, b7⟩ := hb
  have hnd := nodupB_of b1
  have hj : ∀ j ∈ σ ++ fr, j + 1 < OB := fun j h => by have := List.all_eq_true.1 b2 j h; simpa using this
  have hj' : ∀ j ∈ σ ++ fr, j < OB := fun j h => by have := hj j h; omega
  have hlen : outs.length = (σ ++ fr).length := Nat.eq_of_beq_eq_true b6
  have hlO : outs.length ≤ OB := Nat.le_of_ble_eq_true b7
  have hσl : σ.length ≤ OB := by have : σ.length ≤ (σ ++ fr).length := by simp
                                 omega
  have hdO := okD_lo hN hok
  have hd2 : d ≠ HK := by unfold HK; unfold OB at hdO; omega
  refine ⟨?_, ?_⟩
  · rw [app_append]
    show OpOK P pins N op (hx S) (hx (upd (upd (app S (putsO (σ ++ fr) outs)) HK (.hp f')) d r'))
    have hl1 : Low (app S (putsO (σ ++ fr) outs)) := low_puts hj hlo
    have he : hx (upd (upd (app S (putsO (σ ++ fr) outs)) HK (.hp f')) d r') = upd (upd (app (hpS (hx S) f') (putsO (σ ++ fr) outs)) d r') HK (.hp f') := by
      rw [hx_updL (lt2 hdO) hd2, upd_comm hd2, app_hpS hj, ← hx_puts hj]
      congr 1
      funext t
      by_cases e : t = HK
      · subst e
        rw [upd_same]
        exact hx_of (upd_same _ _ _) (by simp)
      · rw [upd_other e]
        rcases Nat.lt_or_ge t OB2 with h | h
        · rw [hx_lo h, upd_other e]
          unfold hpS
          rw [if_neg (by omega), hx_lo h]
        · obtain ⟨k, rfl⟩ : ∃ k, t = OB2 + k := ⟨t - OB2, by omega⟩
          rw [ob2_eq, hx_hp (hl1.upd hk_lt) (upd_same _ _ _), ← ob2_eq]
          unfold hpS
          rw [if_pos (Nat.le_add_right _ _), Nat.add_sub_cancel_left]
    rw [he]
    refine OpOK.hkpost (f := f) ?_ ?_
    · intro w0 m0 o0 G a w m o hNa I K Q hK
      obtain ⟨h1, h2, h3⟩ := okD_iff (okD_hx hN hok)
      obtain ⟨k1, k2⟩ := argsH_rep hM.hx I (List.nodup_append.1 hnd).1 hσl (fun j h => hj' j (List.mem_append_left _ h)) (S' := argH args ins f) xs args hargs
      have hfr : ∀ j ∈ fr, hx S (OB + j) = .free := fun j h => by
        have := List.all_eq_true.1 b5 j h
        have hm : M (OB + j) = .free := by
          revert this
          cases M (OB + j) <;> intro this <;> first | rfl | cases this
        rcases hM.hx (OB + j) with e | e
        · rw [e] at hm; cases hm
        · rw [← e]; exact hm
      have hc := call_heap I hf (fun c => hx_hp hlo hk c) hp hp' hnd hj' (by
        rw [← hin]
        refine List.map_congr_left fun j h => ?_
        exact hx_lo (by have := hj' j (List.mem_append_left _ h); unfold OB OB2 at *; omega)) b3 b4 hfr hlen hlO hres (vals := (xs.map a.eval).toArray) (by simpa using k1) (fun k x hk k0 => by simpa using k2 k x hk k0) (Nat.le_of_ble_eq_true hle) (d := d) (by omega) h2 h3
      unfold Oper.wp
      have hrun : (execOp a.eval op).run P w = .ok (.enter fn (xs.map a.eval).toArray) w := by
        unfold execOp
        rw [hop]
        simp only [resolve, vO_eq hM.hx I hfx, Deferred.ofValue, List.map_toArray]
        have hb : F.body ≠ none := fun e => by rw [e] at hbody; cases hbody
        have hn : F.name ≠ "runtime.NumGoroutine" := fun e => by rw [e] at hname; simp at hname
        simp [invoke, callFunc, hfn, hn, hb]
      rw [hrun]
      refine Calls.mono hc ?_
      rintro e w' ⟨u, m', o', rfl, J⟩
      rw [← hd] at J
      exact hK _ _ _ _ (by rw [put_size, hNa]) J
    · rw [upd_other (Ne.symm hd2), puts_hk hj]
      unfold hpS
      rw [if_neg (by unfold HK OB2; omega)]
      exact hx_of hk (by simp)
  · rw [app_append]
    exact ((low_puts hj hlo).upd hk_lt).upd (lt2 hdO)
end
end Go.Proofs.YtimdogdplphmoaaDoor
