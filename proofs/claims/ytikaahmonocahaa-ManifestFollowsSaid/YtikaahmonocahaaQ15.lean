/-
  Texts joined: see the remark at the head of each part.
-/
import Derived.Test.YtikaahmonocahaaQ14
/-
  The heap in a walk: the rules.
-/
namespace Go.Proofs.Ytikaahmonocahaa
open Go Go.RowKit
set_option linter.unusedVariables false

section
variable {P : Program} {pins : List Nat} {N : Nat} {S M : Nat → A} {op : Oper} {e : Eff} {d c : Nat} {f f' : Nat → A}
theorem OpH.of' (h : N ≤ OB → Low S → OpOK P pins N op (hx S) (app (hx S) e) ∧ effOK S e) : OpH P pins N op S (app S e) :=
  fun hN hl => by
    obtain ⟨h1, h2⟩ := h hN hl
    rw [hx_app h2]
    exact ⟨h1, hl.app h2⟩
theorem OpOK.hkpost {S1 : Nat → A} (h : OpOK P pins N op S S1) (hk : S1 HK = .hp f) : OpOK P pins N op S (upd S1 HK (.hp f')) :=
  fun w0 m0 o0 G a w m o hN I K Q hK => h w0 m0 o0 G a w m o hN I K Q fun a' w' m' o' hN' I' => hK a' w' m' o' hN' (I'.hk hk f')
theorem upd_comm {S : Nat → A} {s t : Nat} {x y : A} (h : s ≠ t) : upd (upd S s x) t y = upd (upd S t y) s x := by
  funext k
  unfold upd
  by_cases h1 : k = s
  · subst h1; simp [h]
  · simp [h1]
theorem hx_updL {x : A} (hd : d < OB2) (hk : d ≠ HK) : hx (upd S d x) = upd (hx S) d x := by
  funext t
  by_cases e : t = d
  · subst e
    rw [hx_lo hd, upd_same, upd_same]
  · rw [upd_other e]
    unfold hx
    rw [upd_other e, upd_other (Ne.symm hk)]
/-- One operation that writes the heap. -/
theorem h_put {l' : List T} (hk : S HK = .hp f) (hf' : f' = updF f c (.box l')) (h : N ≤ OB → Low S → OpOK P pins N op (hx S) (upd (hx S) (OB + (OB + c)) (.box l'))) : OpH P pins N op S (app S [(HK, .hp f')]) := by
  subst hf'
  intro hN hl
  refine ⟨?_, hl.upd hk_lt⟩
  show OpOK P pins N op (hx S) (hx (upd S HK _))
  rw [hx_set hl hk rfl]
  refine (h hN hl).hkpost (f := f) ?_
  rw [upd_other (by unfold HK OB; omega)]
  exact hx_of hk (by simp)
theorem h_mk {l' : List T} {x : A} (hk : S HK = .hp f) (hf' : f' = updF f c (.box l')) (hok : okD N pins S d = true) (h : N ≤ OB → Low S → OpOK P pins N op (hx S) (app (hx S) [(OB + (OB + c), .box l'), (d, x)])) : OpH P pins N op S (app S [(HK, .hp f'), (d, x)]) := by
  subst hf'
  intro hN hl
  have hdO := okD_lo hN hok
  have hd2 : d ≠ HK := by unfold HK; unfold OB at hdO; omega
  refine ⟨?_, (hl.upd hk_lt).upd (lt2 hdO)⟩
  show OpOK P pins N op (hx S) (hx (upd (upd S HK _) d x))
  rw [hx_updL (lt2 hdO) hd2, hx_set hl hk rfl, upd_comm (Ne.symm hd2)]
  refine (h hN hl).hkpost (f := f) ?_
  show upd (upd (hx S) (OB + (OB + c)) _) d x HK = _
  rw [upd_other (Ne.symm hd2), upd_other (by unfold HK OB; omega)]
  exact hx_of hk (by simp)
theorem hx_free (hl : Low S) (hk : S HK = .hp f) (hf : f c = .free) : hx S (OB + (OB + c)) = .free := by rw [hx_hp hl hk, hf]; rfl
theorem hx_box {l : List T} (hl : Low S) (hk : S HK = .hp f) (hf : f c = .box l) : hx S (OB + (OB + c)) = .box l := by rw [hx_hp hl hk, hf]; rfl

theorem h_fd (hM : Mk M S) {off t k q : Nat} {x : Operand} {y : A} (hop : op.op = .fieldAddr t x k) (hx : cpO M x = .t (.hpt c off)) (hq : fdH P t k = some q) (hy : A.t (.hpt c (off + q)) = y) (hd : op.dst = some d) (hok : okD N pins S d = true) : OpH P pins N op S (app S [(d, y)]) := by
  subst hy
  exact .of fun hN => ⟨ok_hfd hM.hx hop hx hq hd (okD_hx hN hok), eff_1 (okD_lo hN hok)⟩
theorem h_ix (hM : Mk M S) {off E k n t : Nat} {x i : Operand} {ki : IntKind} {z : Int} {y : A} (hop : op.op = .indexAddr t x i) (hx : cpO M x = .t (.hvw c off E k n)) (hi : vO M i = some (.int ki z)) (hq : ixH P t = some (none, k)) (hz : 0 ≤ z ∧ z < n) (hy : A.t (.hpt c (off + z.toNat * k)) = y) (hd : op.dst = some d) (hok : okD N pins S d = true) : OpH P pins N op S (app S [(d, y)]) := by
  subst hy
  exact .of fun hN => ⟨ok_hix hM.hx hop hx hi hq hz hd (okD_hx hN hok), eff_1 (okD_lo hN hok)⟩
theorem h_ia (hM : Mk M S) {off k len t : Nat} {x i : Operand} {ki : IntKind} {z : Int} {y : A} (hop : op.op = .indexAddr t x i) (hx : cpO M x = .t (.hpt c off)) (hi : vO M i = some (.int ki z)) (hq : ixH P t = some (some len, k)) (hz : 0 ≤ z ∧ z < len) (hy : A.t (.hpt c (off + z.toNat * k)) = y) (hd : op.dst = some d) (hok : okD N pins S d = true) : OpH P pins N op S (app S [(d, y)]) := by
  subst hy
  exact .of fun hN => ⟨ok_hia hM.hx hop hx hi hq hz hd (okD_hx hN hok), eff_1 (okD_lo hN hok)⟩
theorem h_ln (hM : Mk M S) {off E k n t e : Nat} {x : Operand} {y : A} (hop : op.op = .call { callee := .builtin .len, args := #[x], argTypes := #[t] }) (hx : cpO M x = .t (.hvw c off E k n)) (hu : P.underlying t = some (.slice e)) (hy : A.t (.d (.lit (.int .i64 n))) = y) (hd : op.dst = some d) (hok : okD N pins S d = true) : OpH P pins N op S (app S [(d, y)]) := by
  subst hy
  exact .of fun hN => ⟨ok_hln hM.hx hop hx hu hd (okD_hx hN hok), eff_1 (okD_lo hN hok)⟩
theorem h_pn (hM : Mk M S) {bop : BinOp} {t yt e : Nat} {x : Operand} {b ng : Bool} (hop : op.op = .binOp bop t x (.const (.pointer none)) yt) (hb : bop = bif ng then .neq else .eql) (ht : P.underlying t = some (.pointer e)) (hx : ptrN (cpO M x) = some b) (hd : op.dst = some d) (hok : okD N pins S d = true) : OpH P pins N op S (app S [(d, .t (.d (.lit (.bool (b != ng)))))]) :=
  .of (e := [(d, _)]) fun hN => ⟨ok_hpn hM.hx hop hb ht hx hd (okD_hx hN hok), eff_1 (okD_lo hN hok)⟩
theorem h_ld (hM : Mk M S) (hk : S HK = .hp f) {off t n : Nat} {x : Operand} {l : List T} {z : T} {y : A} (hop : op.op = .load t x) (ht : tyA P t = some (false, n)) (hx : cpO M x = .t (.hpt c off)) (hf : f c = .box l) (hz : l[off]? = some z) (hy : norH z = some y) (hd : op.dst = some d) (hok : okD N pins S d = true) : OpH P pins N op S (app S [(d, y)]) :=
  .of' (e := [(d, y)]) fun hN hl => ⟨ok_hld hM.hx hop ht hx (hx_box hl hk hf) hz hy hd (okD_hx hN hok), eff_1 (okD_lo hN hok)⟩
theorem h_lr (hM : Mk M S) (hk : S HK = .hp f) {off t n : Nat} {x : Operand} {l r : List T} {y : List D} (hop : op.op = .load t x) (ht : tyA P t = some (true, n)) (hx : cpO M x = .t (.hpt c off)) (hf : f c = .box l) (hl : (l.drop off).take n = r) (hr : r.length = n) (hpt : noPt r = true) (hy : r.map toD = y) (hd : op.dst = some d) (hok : okD N pins S d = true) : OpH P pins N op S (app S [(d, .t (.agg y))]) :=
  .of' (e := [(d, _)]) fun hN hlo => ⟨ok_hlr hM.hx hop ht hx (hx_box hlo hk hf) hl hr hpt hy hd (okD_hx hN hok), eff_1 (okD_lo hN hok)⟩
theorem h_st (hM : Mk M S) (hk : S HK = .hp f) {t off : Nat} {x y : Operand} (hop : op.op = .store t x y) (hd : op.dst = none) {i : TypeInfo} (hi : P.info? t = some i) (hx : cpO M x = .t (.hpt c off)) {l l' : List T} (hf : f c = .box l) {q : List T} (hc : cellsP (cpO M y) = some q) (hsz : q.length = i.size) (hle : off + i.size ≤ l.length) (hl' : splice l off q = l') (hf' : f' = updF f c (.box l')) : OpH P pins N op S (app S [(HK, .hp f')]) := by
  subst hl'
  exact h_put hk hf' fun hN hl => ok_hst hM.hx hop hd hi hx (hx_box hl hk hf) hc hsz hle
theorem h_new (hk : S HK = .hp f) {E : Nat} {i : TypeInfo} {z : Value} {l : List T} (hop : op.op = .alloc E) (hi : P.info? E = some i) (hz : i.zero = some z) (hl : cellsT (litA z) = some l) (hd : op.dst = some d) (hok : okD N pins S d = true) (hf : f c = .free) (hf' : f' = updF f c (.box l)) : OpH P pins N op S (app S [(HK, .hp f'), (d, .t (.hpt c 0))]) :=
  h_mk hk hf' hok fun hN hlo => ok_hnew hop hi hz hl hd (okD_hx hN hok) (okD_lo hN hok) (hx_free hlo hk hf)
theorem h_box (hM : Mk M S) (hk : S HK = .hp f) {E : Nat} {x : Operand} {l : List T} (hop : op.op = .box E x) (hl : cellsP (cpO M x) = some l) (hd : op.dst = some d) (hok : okD N pins S d = true) (hf : f c = .free) (hf' : f' = updF f c (.box l)) : OpH P pins N op S (app S [(HK, .hp f'), (d, .t (.hpt c 0))]) :=
  h_mk hk hf' hok fun hN hlo => ok_hbox hM.hx hop hl hd (okD_hx hN hok) (okD_lo hN hok) (hx_free hlo hk hf)
theorem h_bd (hM : Mk M S) {t : Nat} {parts : List (Nat × Operand)} (hop : op.op = .build t parts.toArray) (hd : op.dst = some d) (hok : okD N pins S d = true) {l : List T} (h : bdT P M t parts = some l) : OpH P pins N op S (app S [(d, .ag l)]) :=
  .of (e := [(d, _)]) fun hN => ⟨ok_buildT hM.hx hop hd (okD_hx hN hok) h, eff_1 (okD_lo hN hok)⟩

/-! ### Calls -/
def nodupB : List Nat → Bool
  | [] => true
  | x :: r => !(r.any fun y => Nat.beq y x) && nodupB r
theorem nodupB_of : ∀ {l : List Nat}, nodupB l = true → l.Nodup
  | [], _ => .nil
  | x :: r, h => by
    simp only [nodupB, Bool.and_eq_true] at h
    rw [List.nodup_cons]
    refine ⟨fun hm => ?_, nodupB_of h.2⟩
    have : (r.any fun y => Nat.beq y x) = true := List.any_eq_true.2 ⟨x, hm, Nat.beq_refl x⟩
    rw [this] at h
    cases h.1
/-- What the call asks of the objects that are handed over (σ), and of the free ones (fr) that it may take. -/
def callB (M : Nat → A) (σ fr : List Nat) (outs : List A) : Bool :=
  nodupB (σ ++ fr) && (σ ++ fr).all (fun j => Nat.blt (j + 1) OB) && fr.all (fun j => match M (OB + j) with | .free => true | _ => false) && Nat.beq outs.length (σ ++ fr).length && Nat.ble outs.length OB
theorem hx_puts : ∀ {τ : List Nat} {outs : List A} {S : Nat → A}, (∀ j ∈ τ, j + 1 < OB) → hx (app S (putsO τ outs)) = app (hx S) (putsO τ outs)
  | [], outs, S, _ => by cases outs <;> rfl
  | j :: τ, [], S, _ => rfl
  | j :: τ, x :: r, S, h => by
    have hj := h j (by simp)
    show hx (app (upd S (OB + j) x) (putsO τ r)) = app (upd (hx S) (OB + j) x) (putsO τ r)
    rw [hx_puts (fun j hj => h j (List.mem_cons_of_mem _ hj)), hx_updL (by unfold OB OB2 at *; omega) (by unfold HK; unfold OB at *; omega)]
theorem low_puts : ∀ {τ : List Nat} {outs : List A} {S : Nat → A}, (∀ j ∈ τ, j + 1 < OB) → Low S → Low (app S (putsO τ outs))
  | [], outs, S, _, h => by cases outs <;> exact h
  | j :: τ, [], S, _, h => h
  | j :: τ, x :: r, S, h, hl => by
    have hj := h j (by simp)
    exact low_puts (S := upd S (OB + j) x) (fun j hj => h j (List.mem_cons_of_mem _ hj)) (hl.upd (by unfold OB OB2 at *; omega))
theorem puts_hk : ∀ {τ : List Nat} {outs : List A} {S : Nat → A}, (∀ j ∈ τ, j + 1 < OB) → app S (putsO τ outs) HK = S HK := fun h => puts_other fun e => by
  have := h _ e.2
  have h2 := e.1
  unfold HK at this
  unfold OB at this
  omega
theorem app_hpS : ∀ {τ : List Nat} {outs : List A} {S : Nat → A} {f' : Nat → A}, (∀ j ∈ τ, j + 1 < OB) → app (hpS S f') (putsO τ outs) = hpS (app S (putsO τ outs)) f'
  | [], outs, S, f', _ => by cases outs <;> rfl
  | j :: τ, [], S, f', _ => rfl
  | j :: τ, x :: r, S, f', h => by
    have hj := h j (by simp)
    show app (upd (hpS S f') (OB + j) x) (putsO τ r) = hpS (app (upd S (OB + j) x) (putsO τ r)) f'
    rw [← app_hpS (fun j hj => h j (List.mem_cons_of_mem _ hj))]
    congr 1
    funext t
    unfold upd hpS
    by_cases e : t = OB + j
    · subst e
      rw [if_pos rfl, if_neg (by unfold OB OB2 at *; omega)]
      simp
    · rw [if_neg e]
      simp [e]
theorem argsH_rep {w0 : World} {m0 : Mem} {o0 : OwnM} {G : Nat → Prop} {a : Act} {w : World} {m : Mem} {o : OwnM} (hM : Mk M S) (I : Inv w0 m0 o0 G pins S a w m o) {σ : List Nat} (hσ : σ.Nodup) (hl : σ.length ≤ OB) (hs : ∀ j ∈ σ, j < OB) {S' : Nat → A} : ∀ (xs : List Operand) (args : List A), ArgsH σ (xs.map (cpO M)) args → (xs.map a.eval).length = args.length ∧ ∀ (k : Nat) (x : A), args[k]? = some x → ∀ k0, RepA m w (movH σ o) S' k0 x ((xs.map a.eval).getD k undef)
  | [], args, h => by cases h; exact ⟨rfl, fun k x h => by simp at h⟩
  | y :: ys, args, h => by
    cases h with
    | cons hx ht =>
      obtain ⟨k1, k2⟩ := argsH_rep hM I hσ hl hs (S' := S') ys _ ht
      refine ⟨by simpa using k1, fun k x hk k0 => ?_⟩
      cases k with
      | succ k => simpa using k2 k x (by simpa using hk) k0
      | zero =>
        injection hk with hk
        subst hk
        have hr := cpO_rep hM I y 0
        show RepA m w (movH σ o) _ k0 _ (a.eval y)
        revert hx hr
        generalize cpO M y = z
        intro hx hr
        cases hx with
        | plain h hp => exact plain_rep hp (h.rep I.sat hr)
        | hpt c off => obtain ⟨g, q1, q2⟩ := hr; exact ⟨g, (movH_iff hσ hl hs).2 (.inl ⟨_, rfl, q1⟩), q2⟩
        | hvw c off E k n =>
          obtain ⟨A', q, q1, q2, q3, q4⟩ := hr
          exact ⟨A', q, q1, q2, q3, q4.imp id fun ⟨g, cs, k1, k2⟩ => ⟨g, cs, (movH_iff hσ hl hs).2 (.inl ⟨_, rfl, k1⟩), k2⟩⟩
        | view h =>
          obtain ⟨A', q, q1, q2, q3, q4⟩ := hr
          exact ⟨A', q, q1, q2, q3, q4.imp id fun ⟨g, cs, k1, k2⟩ => ⟨g, cs, (movH_iff hσ hl hs).2 (.inr ⟨_, _, rfl, by have := (List.getElem?_eq_some_iff.1 h).1; omega, h, k1⟩), k2⟩⟩
theorem h_call (hM : Mk M S) (hk : S HK = .hp f) {fn : Nat} {xs : List Operand} {ts : Array TypeId} {fx : Operand} (hop : op.op = .call { callee := .value fx, args := xs.toArray, argTypes := ts }) (hfx : vO M fx = some (.func (.func fn) #[] #[])) (hd : op.dst = some d) (hok : okD N pins S d = true) {F : Func} (hfn : P.funcs[fn]? = some F) (hbody : F.body.isNone = false) (hname : (F.name == "runtime.NumGoroutine") = false)
    {args : List A} {ins outs : List A} {r r' : A} {σ fr : List Nat} (hf : FCH P fn args ins outs f f' r) (hp : pureH f) (hp' : pureH f') (hb : callB M σ fr outs = true) (b3 : ins.all A.flatO = true) (b4 : outs.all A.flatO = true) (hin : σ.map (fun j => S (OB + j)) = ins) (hargs : ArgsH σ (xs.map (cpO M)) args) (hle : Nat.ble args.length OB = true) (hres : ResH (σ ++ fr) r r') :
    OpH P pins N op S (app S (putsO (σ ++ fr) outs ++ [(HK, .hp f'), (d, r')])) := by
  intro hN hlo
  unfold callB at hb
  simp only [Bool.and_eq_true] at hb
  obtain ⟨⟨⟨⟨b1, b2⟩, b5⟩, b6⟩, b7⟩ := hb
  have hnd := nodupB_of b1
  have hj : ∀ j ∈ σ ++ fr, j + 1 < OB := fun j h => by have := List.all_eq_true.1 b2 j h; simpa using this
  have hj' : ∀ j ∈ σ ++ fr, j < OB := fun j h => by have := hj j h; omega
  have hlen : outs.length = (σ ++ fr).length := Nat.eq_of_beq_eq_true b6
  have hlO : outs.length ≤ OB := Nat.le_of_ble_eq_true b7
  have hσl : σ.length ≤ OB := by have : σ.length ≤ (σ ++ fr).length := by simp
                                 omega
  have hdO := okD_lo hN hok
  have hd2 : d ≠ HK := by unfold HK; unfold OB at hdO; omega
  refine ⟨?_, ?_⟩
  · rw [app_append]
    show OpOK P pins N op (hx S) (hx (upd (upd (app S (putsO (σ ++ fr) outs)) HK (.hp f')) d r'))
    have hl1 : Low (app S (putsO (σ ++ fr) outs)) := low_puts hj hlo
    have he : hx (upd (upd (app S (putsO (σ ++ fr) outs)) HK (.hp f')) d r') = upd (upd (app (hpS (hx S) f') (putsO (σ ++ fr) outs)) d r') HK (.hp f') := by
      rw [hx_updL (lt2 hdO) hd2, upd_comm hd2, app_hpS hj, ← hx_puts hj]
      congr 1
      funext t
      by_cases e : t = HK
      · subst e
        rw [upd_same]
        exact hx_of (upd_same _ _ _) (by simp)
      · rw [upd_other e]
        rcases Nat.lt_or_ge t OB2 with h | h
        · rw [hx_lo h, upd_other e]
          unfold hpS
          rw [if_neg (by omega), hx_lo h]
        · obtain ⟨k, rfl⟩ : ∃ k, t = OB2 + k := ⟨t - OB2, by omega⟩
          rw [ob2_eq, hx_hp (hl1.upd hk_lt) (upd_same _ _ _), ← ob2_eq]
          unfold hpS
          rw [if_pos (Nat.le_add_right _ _), Nat.add_sub_cancel_left]
    rw [he]
    refine OpOK.hkpost (f := f) ?_ ?_
    · intro w0 m0 o0 G a w m o hNa I K Q hK
      obtain ⟨h1, h2, h3⟩ := okD_iff (okD_hx hN hok)
      obtain ⟨k1, k2⟩ := argsH_rep hM.hx I (List.nodup_append.1 hnd).1 hσl (fun j h => hj' j (List.mem_append_left _ h)) (S' := argH args ins f) xs args hargs
      have hfr : ∀ j ∈ fr, hx S (OB + j) = .free := fun j h => by
        have := List.all_eq_true.1 b5 j h
        have hm : M (OB + j) = .free := by
          revert this
          cases M (OB + j) <;> intro this <;> first | rfl | cases this
        rcases hM.hx (OB + j) with e | e
        · rw [e] at hm; cases hm
        · rw [← e]; exact hm
      have hc := call_heap I hf (fun c => hx_hp hlo hk c) hp hp' hnd hj' (by
        rw [← hin]
        refine List.map_congr_left fun j h => ?_
        exact hx_lo (by have := hj' j (List.mem_append_left _ h); unfold OB OB2 at *; omega)) b3 b4 hfr hlen hlO hres (vals := (xs.map a.eval).toArray) (by simpa using k1) (fun k x hk k0 => by simpa using k2 k x hk k0) (Nat.le_of_ble_eq_true hle) (d := d) (by omega) h2 h3
      unfold Oper.wp
      have hrun : (execOp a.eval op).run P w = .ok (.enter fn (xs.map a.eval).toArray) w := by
        unfold execOp
        rw [hop]
        simp only [resolve, vO_eq hM.hx I hfx, Deferred.ofValue, List.map_toArray]
        have hb : F.body ≠ none := fun e => by rw [e] at hbody; cases hbody
        have hn : F.name ≠ "runtime.NumGoroutine" := fun e => by rw [e] at hname; simp at hname
        simp [invoke, callFunc, hfn, hn, hb]
      rw [hrun]
      refine Calls.mono hc ?_
      rintro e w' ⟨u, m', o', rfl, J⟩
      rw [← hd] at J
      exact hK _ _ _ _ (by rw [put_size, hNa]) J
    · rw [upd_other (Ne.symm hd2), puts_hk hj]
      unfold hpS
      rw [if_neg (by unfold HK OB2; omega)]
      exact hx_of hk (by simp)
  · rw [app_append]
    exact ((low_puts hj hlo).upd hk_lt).upd (lt2 hdO)
end
end Go.Proofs.Ytikaahmonocahaa

/-
  Local objects: slices that are made and written by index; forgotten, frozen.
-/
namespace Go.Proofs.Ytikaahmonocahaa
open Go Go.RowKit
set_option linter.unusedVariables false

/-! ### Rows side by side -/
/-- The cells of elements, side by side. -/
def fl {α β : Type} (c : α → List β) (x : List α) : List β := x.flatMap c
section
variable {α β : Type} {c : α → List β} {k : Nat}
theorem fl_len (hc : ∀ a, (c a).length = k) (x : List α) : (fl c x).length = x.length * k := by
  unfold fl
  induction x with
  | nil => simp
  | cons a r ih => rw [List.flatMap_cons, List.length_append, hc, ih, List.length_cons, Nat.succ_mul]; omega
theorem fl_split (hc : ∀ a, (c a).length = k) {x : List α} {i : Nat} (h : i < x.length) : fl c x = fl c (x.take i) ++ (c x[i] ++ fl c (x.drop (i + 1))) ∧ (fl c (x.take i)).length = i * k := by
  refine ⟨?_, by rw [fl_len hc, List.length_take, Nat.min_eq_left (by omega)]⟩
  conv => lhs; rw [← List.take_append_drop i x, List.drop_eq_getElem_cons h]
  unfold fl
  rw [List.flatMap_append, List.flatMap_cons]
theorem fl_row (hc : ∀ a, (c a).length = k) {x : List α} {i : Nat} {a : α} (h : x[i]? = some a) : ((fl c x).drop (i * k)).take k = c a := by
  obtain ⟨hi, rfl⟩ := List.getElem?_eq_some_iff.1 h
  obtain ⟨e, hl⟩ := fl_split (c := c) hc hi
  rw [e, ← hl, List.drop_left, List.take_append_of_le_length (by rw [hc]; exact Nat.le_refl _), List.take_of_length_le (by rw [hc]; exact Nat.le_refl _)]
theorem fl_cell (hc : ∀ a, (c a).length = k) {x : List α} {i q : Nat} {a : α} (h : x[i]? = some a) (hq : q < k) : (fl c x)[i * k + q]? = (c a)[q]? := by
  obtain ⟨hi, rfl⟩ := List.getElem?_eq_some_iff.1 h
  obtain ⟨e, hl⟩ := fl_split (c := c) hc hi
  rw [e, List.getElem?_append_right (by omega), hl, Nat.add_sub_cancel_left, List.getElem?_append_left (by rw [hc]; exact hq)]
theorem fl_set (hc : ∀ a, (c a).length = k) {x : List α} {i : Nat} (h : i < x.length) (a : α) : fl c (x.set i a) = fl c (x.take i) ++ (c a ++ fl c (x.drop (i + 1))) := by
  rw [List.set_eq_take_append_cons_drop, if_pos h]
  unfold fl
  rw [List.flatMap_append, List.flatMap_cons]
theorem fl_splice (hc : ∀ a, (c a).length = k) {x : List α} {i q : Nat} {a b : α} {d : List β} (h : x[i]? = some a) (hd : splice (c a) q d = c b) (hq : q + d.length ≤ k) : splice (fl c x) (i * k + q) d = fl c (x.set i b) := by
  obtain ⟨hi, rfl⟩ := List.getElem?_eq_some_iff.1 h
  obtain ⟨e, hl⟩ := fl_split (c := c) hc hi
  rw [fl_set hc hi, ← hd, e]
  unfold splice
  have hcl : (c x[i]).length = k := hc _
  have e1 : (fl c (x.take i) ++ (c x[i] ++ fl c (x.drop (i + 1)))).take (i * k + q) = fl c (x.take i) ++ (c x[i]).take q := by
    rw [← hl, List.take_length_add_append, List.take_append_of_le_length (by omega)]
  have e2 : (fl c (x.take i) ++ (c x[i] ++ fl c (x.drop (i + 1)))).drop (i * k + q + d.length) = (c x[i]).drop (q + d.length) ++ fl c (x.drop (i + 1)) := by
    rw [Nat.add_assoc, ← hl, List.drop_length_add_append, List.drop_append_of_le_length (by omega)]
  rw [e1, e2]
  simp [List.append_assoc]
end

theorem fl_len_of {β : Type} {k : Nat} : ∀ {rs : List (List β)}, (∀ r ∈ rs, r.length = k) → (rs.flatMap id).length = rs.length * k
  | [], _ => by simp
  | r :: t, h => by
    rw [List.flatMap_cons, List.length_append, fl_len_of fun x hx => h x (List.mem_cons_of_mem _ hx), List.length_cons, Nat.succ_mul]
    have : r.length = k := h r (by simp)
    show r.length + _ = _
    omega
theorem fl_cell_of {β : Type} {k : Nat} : ∀ {rs : List (List β)} {i q : Nat} {r : List β}, (∀ r ∈ rs, r.length = k) → rs[i]? = some r → q < k → (rs.flatMap id)[i * k + q]? = r[q]?
  | [], i, q, r, _, h, _ => by simp at h
  | x :: t, i, q, r, h, hi, hq => by
    have hx : x.length = k := h x (by simp)
    rw [List.flatMap_cons]
    cases i with
    | zero =>
      injection hi with hi
      subst hi
      rw [Nat.zero_mul, Nat.zero_add]
      exact List.getElem?_append_left (by show q < x.length; omega)
    | succ i =>
      rw [Nat.succ_mul, List.getElem?_append_right (by show x.length ≤ _; omega)]
      have : i * k + k + q - (id x).length = i * k + q := by show i * k + k + q - x.length = _; omega
      rw [this]
      exact fl_cell_of (fun r hr => h r (List.mem_cons_of_mem _ hr)) (by simpa using hi) hq

section
variable {w0 : World} {m0 : Mem} {o0 : OwnM} {G : Nat → Prop} {pins : List Nat} {S M : Nat → A} {a : Act} {w : World} {m : Mem} {o : OwnM} {P : Program} {N : Nat}
/-- A made slice, held by object j. c0: the cells of a zero element. -/
theorem ok_make (hM : Mk M S) {op : Oper} {d j t e q : Nat} {xn xc : Operand} {kl kc : IntKind} {n : Int} {ie : TypeInfo} {z : Value} {c0 : List T} (hop : op.op = .makeSlice t xn xc) (hn : vO M xn = some (.int kl n)) (hc : vO M xc = some (.int kc n)) (hu : P.underlying t = some (.slice e)) (hie : P.info? e = some ie) (hz : ie.zero = some z)
    (hc0 : cellsT (litA z) = some c0) (hsz : c0.length = ie.size) (hq : mkI ie.bytes n = some q) (hd : op.dst = some d) (hok : okD N pins S d = true) (hdO : Nat.blt d OB = true) (hfree : S (OB + j) = .free) :
    OpOK P pins N op S (app S [(OB + j, .box (fl (fun _ => c0) (List.replicate q ()))), (d, .t (.view j 0 e ie.size q))]) := by
  obtain ⟨q1, q2, q3, rfl⟩ := mkI_iff hq
  refine ok_of_run fun w0 m0 o0 G a w m o hN I => ?_
  obtain ⟨d1, d2, d3⟩ := okD_iff hok
  have hdO : d < OB := by simpa using hdO
  have hcp : cellsP (litA z) = some c0 := by
    revert hc0
    generalize litA z = y
    intro hl
    cases y with
    | t y => cases y <;> first | exact hl | cases hl
    | _ => cases hl
  obtain ⟨k1, k2, k3⟩ := cellsP_rep hcp (litA_rep (m := m) (w := w) (o := o) (S := S) 0 z)
  have hrun := run_make (P := P) (w := w) t e ie z hu hie hz kl kc n n q1 (Int.le_refl _) q2 (by omega)
  have hsize : (madeCells z.cells (n.toNat * ie.size)).size = n.toNat * ie.size := size_madeCells _ _
  have J := I.obj_new (j := j) (l := fl (fun _ => c0) (List.replicate n.toNat ())) (cs := madeCells z.cells (n.toNat * ie.size)) (E := e) hfree ?_ fun i x hi => ?_
  · refine ⟨.slice (some ⟨w.heap.size, 0, none⟩) n.toNat n.toNat, w.alloc (.cells (madeCells z.cells (n.toNat * ie.size)) e), m, newO o (OB + j) w.heap.size, ?_, ?_⟩
    · unfold execOp
      rw [hop]
      simp only [Sem.run_bind]
      rw [vO_eq hM I hn, vO_eq hM I hc, hrun]
      rfl
    · rw [hd]
      exact J.set d _ _ (by omega) (by rw [upd_other (by omega)]; exact d2) ⟨some ⟨w.heap.size, 0, none⟩, n.toNat, Nat.le_refl _, by unfold maxLen; omega, rfl, .inr ⟨w.heap.size, _, newO_same _ _ _, rfl, heap_alloc_new w _, by rw [hsize]; omega⟩⟩
  · rw [hsize, fl_len (k := ie.size) (fun _ => hsz), List.length_replicate]
    exact Nat.le_refl _
  · have hlt : i < n.toNat * ie.size := by
      have := (List.getElem?_eq_some_iff.1 hi).1
      rw [fl_len (k := ie.size) (fun _ => hsz), List.length_replicate] at this
      exact this
    have hpos : 0 < ie.size := Nat.pos_of_ne_zero fun e => by rw [e] at hlt; simp at hlt
    have hi1 : i / ie.size < n.toNat := Nat.div_lt_of_lt_mul (by rw [Nat.mul_comm]; exact hlt)
    have hi2 : i % ie.size < ie.size := Nat.mod_lt _ hpos
    have he : i / ie.size * ie.size + i % ie.size = i := by rw [Nat.mul_comm]; exact Nat.div_add_mod i ie.size
    have h2 := fl_cell (c := fun _ : Unit => c0) (k := ie.size) (fun _ => hsz) (x := List.replicate n.toNat ()) (i := i / ie.size) (q := i % ie.size) (a := ()) (by rw [List.getElem?_replicate, if_pos hi1]) hi2
    rw [he] at h2
    rw [h2] at hi
    obtain ⟨p1, u, p2, p3⟩ := k3 _ x hi
    refine ⟨cellsP_noOwn hcp x (List.mem_of_getElem? hi), u, ?_, p3 _ _ (ShpAt.refl w)⟩
    have hzs : z.cells.size = ie.size := by have := k1; simp at this; omega
    unfold madeCells
    rw [Array.getElem?_map, Array.getElem?_range, if_pos hlt]
    simp only [Option.map_some, hzs]
    have p2 : z.cells[i % ie.size]? = some u := by simpa using p2
    rw [getElem!_def, p2]

/-- The address of an element of a slice of an object. -/
theorem ok_ixv (hM : Mk M S) {op : Oper} {d j off E k n t e : Nat} {x i : Operand} {ki : IntKind} {z : Int} {ie : TypeInfo} (hop : op.op = .indexAddr t x i) (hx : cpO M x = .t (.view j off E k n)) (hi : vO M i = some (.int ki z)) (hu : P.underlying t = some (.slice e)) (hie : P.info? e = some ie) (hz : 0 ≤ z ∧ z < n) (hd : op.dst = some d) (hok : okD N pins S d = true) :
    OpOK P pins N op S (upd S d (.ref (OB + j) (off + z.toNat * ie.size))) := by
  refine ok_of_run fun w0 m0 o0 G a w m o hN I => ?_
  obtain ⟨h1, h2, h3⟩ := okD_iff hok
  have hxr := cpO_rep hM I x 0
  rw [hx] at hxr
  obtain ⟨A', c, k0, _, k3, k4⟩ := hxr
  obtain ⟨g, cs, k1, k5, _⟩ : ∃ g cs, o g = some (OB + j, 0) ∧ A' = some ⟨g, off, none⟩ ∧ w.heap[g]? = some (.cells cs E (0, 0)) ∧ off + c * k ≤ cs.size := k4.resolve_left fun h => by omega
  subst k5
  refine ⟨.pointer (some ⟨g, off + z.toNat * ie.size, none⟩), w, m, o, ?_, ?_⟩
  · unfold execOp
    rw [hop]
    simp only [Sem.run_bind]
    rw [vO_eq hM I hi, k3]
    simp [Instr.indexAt, asIntOf, run_underlying hu, hz, sizeOf, typeInfo, hie, Addr.add_mid]
  · rw [hd]
    exact I.set d _ _ (by omega) h2 ⟨g, k1, rfl, fun h => absurd h (by omega)⟩
/-- The address of an element of an array. -/
theorem ok_ixa (hM : Mk M S) {op : Oper} {d b off t e len : Nat} {x i : Operand} {ki : IntKind} {z : Int} {ie : TypeInfo} (hop : op.op = .indexAddr t x i) (hx : cpO M x = .ref b off) (hi : vO M i = some (.int ki z)) (hu : P.underlying t = some (.array len e)) (hie : P.info? e = some ie) (hz : 0 ≤ z ∧ z < len) (hd : op.dst = some d) (hok : okD N pins S d = true) :
    OpOK P pins N op S (upd S d (.ref b (off + z.toNat * ie.size))) := by
  refine ok_val' hM hd hok ?_
  rw [hop]
  show ixF P M t x i = _
  unfold ixF
  simp only [hi, hu, hie, hx]
  rw [if_pos hz]
theorem ok_ldx (hM : Mk M S) {op : Oper} {d b off t n : Nat} {x : Operand} {l : List T} {z : T} (hop : op.op = .load t x) (ht : tyA P t = some (false, n)) (hx : cpO M x = .ref b off) (hb : M b = .box l) (hl : l[off]? = some z) (hd : op.dst = some d) (hok : okD N pins S d = true) : OpOK P pins N op S (upd S d (norA z)) := by
  refine ok_val' hM hd hok ?_
  rw [hop]
  show ldF P M t x = _
  unfold ldF
  simp only [hx, ht, hb, hl]
  rfl
theorem ok_ldr (hM : Mk M S) {op : Oper} {d b off t n : Nat} {x : Operand} {l r : List T} (hop : op.op = .load t x) (ht : tyA P t = some (true, n)) (hx : cpO M x = .ref b off) (hb : M b = .box l) (hl : (l.drop off).take n = r) (hr : r.length = n) (hpos : Nat.blt 0 n = true) (hpt : noPt r = true) (hd : op.dst = some d) (hok : okD N pins S d = true) : OpOK P pins N op S (upd S d (.t (.agg (r.map toD)))) := by
  refine ok_val' hM hd hok ?_
  rw [hop]
  show ldF P M t x = _
  unfold ldF
  simp only [hx, ht, hb, hl]
  rw [if_pos hpt]
  have hle : n = 0 ∨ off + n ≤ l.length := by
    rw [← hl, List.length_take, List.length_drop] at hr
    omega
  split
  · rename_i h0
    obtain ⟨rfl, rfl⟩ := h0
    rw [List.drop_zero, List.take_length] at hl
    rw [hl]
  · rename_i h0
    by_cases h1 : off + n ≤ l.length
    · rw [if_pos h1]
    · rcases hle with rfl | h
      · cases hpos
      · exact absurd h h1
/-- How long a slice of an object is. -/
theorem ok_lnv (hM : Mk M S) {op : Oper} {d j off E k n t e : Nat} {x : Operand} (hop : op.op = .call { callee := .builtin .len, args := ⟨[x]⟩, argTypes := ⟨[t]⟩ }) (hx : cpO M x = .t (.view j off E k n)) (hu : P.underlying t = some (.slice e)) (hd : op.dst = some d) (hok : okD N pins S d = true) :
    OpOK P pins N op S (upd S d (.t (.d (.lit (.int .i64 n))))) := by
  refine ok_of_run fun w0 m0 o0 G a w m o hN I => ?_
  obtain ⟨h1, h2, h3⟩ := okD_iff hok
  have hxr := cpO_rep hM I x 0
  rw [hx] at hxr
  obtain ⟨A', c, _, _, k3, _⟩ := hxr
  refine ⟨.int .i64 n, w, m, o, ?_, by rw [hd]; exact I.set d _ _ (by omega) h2 (.lit _ rfl)⟩
  unfold execOp
  rw [hop]
  simp only [resolve, invoke, builtin, Sem.run_bind, Sem.run_pure, Result.andThen_ok, List.map_toArray, List.map_cons, List.map_nil]
  rw [k3]
  simp [Builtin.len_, run_underlying hu, goInt]
/-- A piece of a slice of an object. -/
theorem ok_slv (hM : Mk M S) {op : Oper} {d j off E k n t e : Nat} {x : Operand} {lo hi : Option Operand} {l0 h0 : Option Int} {ie : TypeInfo} {off' n' : Nat} (hop : op.op = .slice t x lo hi none) (hx : cpO M x = .t (.view j off E k n)) (hk : ie.size = k) (hlo : bndO M lo = some l0) (hhi : bndO M hi = some h0) (hu : P.underlying t = some (.slice e)) (hie : P.info? e = some ie)
    (hc : 0 ≤ l0.getD 0 ∧ l0.getD 0 ≤ h0.getD n ∧ h0.getD n ≤ n) (ho : off + (l0.getD 0).toNat * ie.size = off') (hn' : (h0.getD n).toNat - (l0.getD 0).toNat = n') (hd : op.dst = some d) (hok : okD N pins S d = true) :
    OpOK P pins N op S (upd S d (.t (.view j off' E k n'))) := by
  subst ho hn' hk
  refine ok_of_run fun w0 m0 o0 G a w m o hN I => ?_
  obtain ⟨h1, h2, h3⟩ := okD_iff hok
  have hxr := cpO_rep hM I x 0
  rw [hx] at hxr
  obtain ⟨A', c, k2, k4, k3, k5⟩ := hxr
  obtain ⟨kl, e1⟩ := bndO_eq hM I hlo
  obtain ⟨kh, e2⟩ := bndO_eq hM I hhi
  have hb : (Instr.sliceBounds true n c (l0.map fun z => .int (kl z) z) (h0.map fun z => .int (kh z) z) none).run P w = .ok ((l0.map Int.toNat).getD 0, (h0.map Int.toNat).getD n, c) w := by
    unfold Instr.sliceBounds
    cases l0 <;> cases h0 <;> simp only [Option.getD_none, Option.getD_some, Option.map_none, Option.map_some, Option.isSome_none, Option.isSome_some] at hc ⊢ <;>
      (simp only [Sem.run_bind, Sem.run_pure, Result.andThen_ok]
       repeat (rw [run_sliceBound_ok (by omega) (by omega), Result.andThen_ok]))
  have hlo2 : (l0.map Int.toNat).getD 0 = (l0.getD 0).toNat := by cases l0 <;> rfl
  have hhi2 : (h0.map Int.toNat).getD n = (h0.getD n).toNat := by cases h0 <;> simp
  rw [hlo2, hhi2] at hb
  have hrun : (Instr.sliceAt t (.slice A' n c) (l0.map fun z => .int (kl z) z) (h0.map fun z => .int (kh z) z) none).run P w = .ok (.slice (if c = (l0.getD 0).toNat then A' else A'.map (·.add ((l0.getD 0).toNat * ie.size))) ((h0.getD n).toNat - (l0.getD 0).toNat) (c - (l0.getD 0).toNat)) w := by
    unfold Instr.sliceAt
    simp only [Sem.run_bind, run_underlying hu, Result.andThen_ok]
    unfold Instr.slice
    simp only [Sem.run_bind, run_underlying hu, Result.andThen_ok]
    rw [hb]
    simp [sizeOf, typeInfo, hie]
  refine ⟨.slice (if c = (l0.getD 0).toNat then A' else A'.map (·.add ((l0.getD 0).toNat * ie.size))) ((h0.getD n).toNat - (l0.getD 0).toNat) (c - (l0.getD 0).toNat), w, m, o, ?_, ?_⟩
  · unfold execOp
    rw [hop]
    simp only [Sem.run_bind]
    rw [e1, e2, k3]
    show Result.andThen (Sem.run P (Instr.sliceAt t _ _ _ none) w) _ = _
    rw [hrun]
    rfl
  · rw [hd]
    refine I.set d _ _ (by omega) h2 ?_
    refine ⟨(if c = (l0.getD 0).toNat then A' else A'.map (·.add ((l0.getD 0).toNat * ie.size))), c - (l0.getD 0).toNat, by omega, by omega, rfl, ?_⟩
    rcases k5 with c0 | ⟨g, cs, q1, q2, q3, q4⟩
    · subst c0
      exact .inl (Nat.zero_sub _)
    · by_cases hz : c = (l0.getD 0).toNat
      · exact .inl (by omega)
      · refine .inr ⟨g, cs, q1, ?_, q3, ?_⟩
        · rw [if_neg hz, q2]
          show some ((⟨g, off, none⟩ : Addr).add _) = _
          rw [Addr.add_mid]
        · have : (l0.getD 0).toNat * ie.size + (c - (l0.getD 0).toNat) * ie.size = c * ie.size := by rw [← Nat.add_mul]; congr 1; omega
          omega
/-! ### Objects that nobody knows any more -/
def mentT (j : Nat) : T → Bool
  | .ptr i _ | .view i _ _ _ _ => Nat.beq i j
  | .mpt i => Nat.blt i OB && Nat.beq i j
  | _ => false
def mentA (j : Nat) : A → Bool
  | .t x => mentT j x
  | .tup l | .box l | .ag l => l.any (mentT j)
  | .ref b _ => Nat.beq b (OB + j)
  | _ => false
/-- Does anything that is told tell of object j? -/
def mentL (j : Nat) : SL → Bool
  | [] => false
  | (s, x) :: r => Nat.beq s (OB + j) || mentA j x || mentL j r
def dropO (o : OwnM) (j : Nat) : OwnM := fun g => if (o g).map (·.1) = some (OB + j) then none else o g
theorem dropO_iff {o : OwnM} {j g : Nat} {l : Nat × Nat} : dropO o j g = some l ↔ o g = some l ∧ l.1 ≠ OB + j := by
  unfold dropO
  constructor
  · intro h
    split at h
    · cases h
    · rename_i hn; exact ⟨h, fun e => hn (by rw [h, ← e]; rfl)⟩
  · rintro ⟨h1, h2⟩
    rw [h1, if_neg (by simpa using h2)]
theorem mentT_rep {j : Nat} (hj : j < OB) {x : T} (hx : mentT j x = false) {loc : Nat × Nat} (hl : loc.1 ≠ OB + j) {v : Value} (h : RepT m w o loc x v) : RepT m w (dropO o j) loc x v := by
  cases x with
  | d x => exact h
  | agg l => exact h
  | own E k l =>
    obtain ⟨A', cap, xs, e, h1, h2, h3⟩ := h
    exact ⟨A', cap, xs, e, h1, fun g hg => ⟨dropO_iff.2 ⟨(h2 g hg).1, hl⟩, (h2 g hg).2⟩, h3⟩
  | ptr i off =>
    obtain ⟨g, h1, h2⟩ := h
    have : i ≠ j := fun e => by subst e; simp [mentT] at hx
    exact ⟨g, dropO_iff.2 ⟨h1, by show OB + i ≠ OB + j; omega⟩, h2⟩
  | view i off E k n =>
    obtain ⟨A', c, h1, h2, h3, h4⟩ := h
    have : i ≠ j := fun e => by subst e; simp [mentT] at hx
    exact ⟨A', c, h1, h2, h3, h4.imp id fun ⟨g, cs, k1, k2⟩ => ⟨g, cs, dropO_iff.2 ⟨k1, by show OB + i ≠ OB + j; omega⟩, k2⟩⟩
  | hpt c off =>
    obtain ⟨g, h1, h2⟩ := h
    exact ⟨g, dropO_iff.2 ⟨h1, by show OB + (OB + c) ≠ OB + j; omega⟩, h2⟩
  | mpt i =>
    obtain ⟨g, h1, h2⟩ := h
    have : i ≠ j := fun e => by
      subst e
      have hx : (Nat.blt i OB && Nat.beq i i) = false := hx
      rw [show Nat.blt i OB = true by simpa using hj, Nat.beq_refl] at hx
      cases hx
    exact ⟨g, dropO_iff.2 ⟨h1, by show OB + i ≠ OB + j; omega⟩, h2⟩
  | hvw c off E k n =>
    obtain ⟨A', q, h1, h2, h3, h4⟩ := h
    exact ⟨A', q, h1, h2, h3, h4.imp id fun ⟨g, cs, k1, k2⟩ => ⟨g, cs, dropO_iff.2 ⟨k1, by show OB + (OB + c) ≠ OB + j; omega⟩, k2⟩⟩
theorem any_false {j : Nat} {l : List T} (h : l.any (mentT j) = false) {q : Nat} {x : T} (hq : l[q]? = some x) : mentT j x = false := by
  cases hb : mentT j x with
  | false => rfl
  | true =>
    have : l.any (mentT j) = true := List.any_eq_true.2 ⟨x, List.mem_of_getElem? hq, hb⟩
    rw [h] at this
    cases this
theorem mentA_rep {j s : Nat} (hj : j < OB) {x : A} (hx : mentA j x = false) (hs : s ≠ OB + j) {S S' : Nat → A} (hS : ∀ b l, b < OB → S b = .box l → ∃ l', S' b = .box l') {v : Value} (h : RepA m w o S s x v) : RepA m w (dropO o j) S' s x v := by
  cases x with
  | t x => exact mentT_rep (loc := (s, 0)) hj hx hs h
  | tup l =>
    obtain ⟨vs, e, h1, h2⟩ := h
    refine ⟨vs, e, h1, fun q x hq => ?_⟩
    obtain ⟨u, k1, k2⟩ := h2 q x hq
    exact ⟨u, k1, mentT_rep hj (any_false hx hq) hs k2⟩
  | imm l => exact h
  | box l =>
    obtain ⟨g, e, h1, h2, cs, E, h3, h4, h5⟩ := h
    refine ⟨g, e, dropO_iff.2 ⟨h1, hs⟩, h2, cs, E, h3, h4, fun q x hq => ?_⟩
    obtain ⟨k0, u, k1, k2⟩ := h5 q x hq
    exact ⟨k0, u, k1, mentT_rep hj (any_false hx hq) hs k2⟩
  | ref b off =>
    obtain ⟨g, h1, h2, h3⟩ := h
    have : b ≠ OB + j := fun e => by subst e; simp [mentA] at hx
    exact ⟨g, dropO_iff.2 ⟨h1, this⟩, h2, fun hb => let ⟨l, hl⟩ := h3 hb; hS b l hb hl⟩
  | free => exact fun g k e => h g k (dropO_iff.1 e).1
  | ag l =>
    obtain ⟨vs, e, h1, h2⟩ := h
    refine ⟨vs, e, h1, fun q x hq => ?_⟩
    obtain ⟨u, k1, k3, k2⟩ := h2 q x hq
    exact ⟨u, k1, k3, mentT_rep hj (any_false hx hq) hs k2⟩
  | hp f => trivial
  | mp l => obtain ⟨g, h1, rest⟩ := h; exact ⟨g, dropO_iff.2 ⟨h1, hs⟩, rest⟩
  | any => trivial
theorem mentL_get {j : Nat} : ∀ {L : SL}, mentL j L = false → (∀ s, mentA j (gt L s) = false) ∧ gt L (OB + j) = .any
  | [], _ => ⟨fun s => rfl, rfl⟩
  | (t, x) :: r, h => by
    unfold mentL at h
    rw [Bool.or_eq_false_iff, Bool.or_eq_false_iff] at h
    obtain ⟨⟨h1, h2⟩, h3⟩ := h
    obtain ⟨k1, k2⟩ := mentL_get h3
    have ht : t ≠ OB + j := fun e => by rw [e, Nat.beq_refl] at h1; cases h1
    refine ⟨fun s => ?_, ?_⟩
    · rw [gt_cons, upd]
      split
      · exact h2
      · exact k1 s
    · rw [gt_cons, upd_other (Ne.symm ht)]
      exact k2
theorem Inv.forget (I : Inv w0 m0 o0 G pins S a w m o) {j : Nat} (hj : j < OB) (hp : OB + j ∉ pins) (hm : ∀ s, mentA j (S s) = false) : Inv w0 m0 o0 G pins (upd S (OB + j) .free) a w m (dropO o j) := by
  refine ⟨I.same, I.sat, I.mono, I.old, fun g l h => I.own g l (dropO_iff.1 h).1, fun g l h => I.lt g l (dropO_iff.1 h).1, fun g g' l h h' => I.inj g g' l (dropO_iff.1 h).1 (dropO_iff.1 h').1, fun s hs g hg => dropO_iff.2 ⟨I.pinned s hs g hg, fun e => hs.elim (fun hs => hp (by rw [← e]; exact hs)) fun _ => ((I.shps g j (by have e : s = OB + j := e; rw [← e]; exact hg)).1).elim hp fun h => by unfold OB OB2 at *; omega⟩, fun s => ?_, I.defers, I.tbl, I.wide, I.shps⟩
  by_cases e : s = OB + j
  · subst e
    rw [upd_same]
    exact fun g k h => (dropO_iff.1 h).2 rfl
  · rw [upd_other e]
    exact mentA_rep hj (hm s) e (fun b l hb hl => ⟨l, by rw [upd_other (by omega), hl]⟩) (I.slots s)
end
end Go.Proofs.Ytikaahmonocahaa
