/-
  Texts joined: see the remark at the head of each part.
-/
import Derived.Test.YtjomnccladjpgaaD06
set_option linter.unusedVariables false
set_option linter.unusedSimpArgs false
/-
 The heap in a walk: the rules.
-/
namespace Go.Proofs.Ytjomnccladjpgaa
open Go Go.RowKit
set_option linter.unusedVariables false
section
variable {P : Program} {pins : List Nat} {N : Nat} {S M : Nat → A} {op : Oper} {e : Eff} {d c : Nat} {f f' : Nat → A}
theorem OpH.of' (h : N ≤ OB → Low S → OpOK P pins N op (hx S) (app (hx S) e) ∧ zHX S e) : OpH P pins N op S (app S e) :=
 fun hN hl => by
  obtain ⟨h1, h2⟩ := h hN hl
  rw [hx_app h2]
  exact ⟨h1, hl.app h2⟩
theorem OpOK.hkpost {S1 : Nat → A} (h : OpOK P pins N op S S1) (hk : S1 HK = .hp f) : OpOK P pins N op S (upd S1 HK (.hp f')) :=
 fun w0 m0 o0 G a w m o hN I K Q hK => h w0 m0 o0 G a w m o hN I K Q fun a' w' m' o' hN' I' => hK a' w' m' o' hN' (I'.hk hk f')
theorem zDi {S : Nat → A} {s t : Nat} {x y : A} (h : s ≠ t) : upd (upd S s x) t y = upd (upd S t y) s x := by
 funext k
 unfold upd
 by_cases h1 : k = s
 · subst h1; simp [h]
 · simp [h1]
theorem zBt {x : A} (hd : d < OB2) (hk : d ≠ HK) : hx (upd S d x) = upd (hx S) d x := by
 funext t
 by_cases e : t = d
 ·
  subst e
  rw [zDZ hd, zZ, zZ]
 ·
  rw [zH e]
  unfold hx
  rw [zH e, zH (Ne.symm hk)]
theorem h_put {l' : List T} (hk : S HK = .hp f) (hf' : f' = updF f c (.box l')) (h : N ≤ OB → Low S → OpOK P pins N op (hx S) (upd (hx S) (OB + (OB + c)) (.box l'))) : OpH P pins N op S (app S [(HK, .hp f')]) := by
 subst hf'
 intro hN hl
 refine ⟨?_, hl.upd zFm⟩
 show OpOK P pins N op (hx S) (hx (upd S HK _))
 rw [zGl hl hk rfl]
 refine (h hN hl).hkpost (f := f) ?_
 rw [zH (by unfold HK OB; omega)]
 exact zBq hk (by simp)
theorem h_mk {l' : List T} {x : A} (hk : S HK = .hp f) (hf' : f' = updF f c (.box l')) (hok : okD N pins S d = true) (h : N ≤ OB → Low S → OpOK P pins N op (hx S) (app (hx S) [(OB + (OB + c), .box l'), (d, x)])) : OpH P pins N op S (app S [(HK, .hp f'), (d, x)]) := by
 subst hf'
 intro hN hl
 have hdO := qN hN hok
 have hd2 : d ≠ HK := by unfold HK; unfold OB at hdO; omega
 refine ⟨?_, (hl.upd zFm).upd (lt2 hdO)⟩
 show OpOK P pins N op (hx S) (hx (upd (upd S HK _) d x))
 rw [zBt (lt2 hdO) hd2, zGl hl hk rfl, zDi (Ne.symm hd2)]
 refine (h hN hl).hkpost (f := f) ?_
 show upd (upd (hx S) (OB + (OB + c)) _) d x HK = _
 rw [zH (Ne.symm hd2), zH (by unfold HK OB; omega)]
 exact zBq hk (by simp)
theorem zIq (hl : Low S) (hk : S HK = .hp f) (hf : f c = .free) : hx S (OB + (OB + c)) = .free := by rw [zEc hl hk, hf]; rfl
theorem zCy {l : List T} (hl : Low S) (hk : S HK = .hp f) (hf : f c = .box l) : hx S (OB + (OB + c)) = .box l := by rw [zEc hl hk, hf]; rfl
theorem h_fd (hM : Mk M S) {off t k q : Nat} {x : Operand} {y : A} (hop : op.op = .fieldAddr t x k) (hx : cpO M x = .t (.hpt c off)) (hq : fdH P t k = some q) (hy : A.t (.hpt c (off + q)) = y) (hd : op.dst = some d) (hok : okD N pins S d = true) : OpH P pins N op S (app S [(d, y)]) := by
 subst hy
 exact .of fun hN => ⟨ok_hfd hM.hx hop hx hq hd (qX hN hok), zBU (qN hN hok)⟩
theorem h_ix (hM : Mk M S) {off E k n t : Nat} {x i : Operand} {ki : IntKind} {z : Int} {y : A} (hop : op.op = .indexAddr t x i) (hx : cpO M x = .t (.hvw c off E k n)) (hi : vO M i = some (.int ki z)) (hq : ixH P t = some (none, k)) (hz : 0 ≤ z ∧ z < n) (hy : A.t (.hpt c (off + z.toNat * k)) = y) (hd : op.dst = some d) (hok : okD N pins S d = true) : OpH P pins N op S (app S [(d, y)]) := by
 subst hy
 exact .of fun hN => ⟨ok_hix hM.hx hop hx hi hq hz hd (qX hN hok), zBU (qN hN hok)⟩
theorem h_ln (hM : Mk M S) {off E k n t e : Nat} {x : Operand} {y : A} (hop : op.op = .call { callee := .builtin .len, args := #[x], argTypes := #[t] }) (hx : cpO M x = .t (.hvw c off E k n)) (hu : P.underlying t = some (.slice e)) (hy : A.t (.d (.lit (.int .i64 n))) = y) (hd : op.dst = some d) (hok : okD N pins S d = true) : OpH P pins N op S (app S [(d, y)]) := by
 subst hy
 exact .of fun hN => ⟨ok_hln hM.hx hop hx hu hd (qX hN hok), zBU (qN hN hok)⟩
theorem h_pn (hM : Mk M S) {bop : BinOp} {t yt e : Nat} {x : Operand} {b ng : Bool} (hop : op.op = .binOp bop t x (.const (.pointer none)) yt) (hb : bop = bif ng then .neq else .eql) (ht : P.underlying t = some (.pointer e)) (hx : ptrN (cpO M x) = some b) (hd : op.dst = some d) (hok : okD N pins S d = true) : OpH P pins N op S (app S [(d, .t (.d (.lit (.bool (b != ng)))))]) :=
 .of (e := [(d, _)]) fun hN => ⟨ok_hpn hM.hx hop hb ht hx hd (qX hN hok), zBU (qN hN hok)⟩
theorem h_ld (hM : Mk M S) (hk : S HK = .hp f) {off t n : Nat} {x : Operand} {l : List T} {z : T} {y : A} (hop : op.op = .load t x) (ht : tyA P t = some (false, n)) (hx : cpO M x = .t (.hpt c off)) (hf : f c = .box l) (hz : l[off]? = some z) (hy : norH z = some y) (hd : op.dst = some d) (hok : okD N pins S d = true) : OpH P pins N op S (app S [(d, y)]) :=
 .of' (e := [(d, y)]) fun hN hl => ⟨ok_hld hM.hx hop ht hx (zCy hl hk hf) hz hy hd (qX hN hok), zBU (qN hN hok)⟩
theorem h_lr (hM : Mk M S) (hk : S HK = .hp f) {off t n : Nat} {x : Operand} {l r : List T} {y : List D} (hop : op.op = .load t x) (ht : tyA P t = some (true, n)) (hx : cpO M x = .t (.hpt c off)) (hf : f c = .box l) (hl : (l.drop off).take n = r) (hr : r.length = n) (hpt : noPt r = true) (hy : r.map toD = y) (hd : op.dst = some d) (hok : okD N pins S d = true) : OpH P pins N op S (app S [(d, .t (.agg y))]) :=
 .of' (e := [(d, _)]) fun hN hlo => ⟨ok_hlr hM.hx hop ht hx (zCy hlo hk hf) hl hr hpt hy hd (qX hN hok), zBU (qN hN hok)⟩
theorem h_st (hM : Mk M S) (hk : S HK = .hp f) {t off : Nat} {x y : Operand} (hop : op.op = .store t x y) (hd : op.dst = none) {i : TypeInfo} (hi : P.info? t = some i) (hx : cpO M x = .t (.hpt c off)) {l l' : List T} (hf : f c = .box l) {q : List T} (hc : zCY (cpO M y) = some q) (hsz : q.length = i.size) (hle : off + i.size ≤ l.length) (hl' : qT l off q = l') (hf' : f' = updF f c (.box l')) : OpH P pins N op S (app S [(HK, .hp f')]) := by
 subst hl'
 exact h_put hk hf' fun hN hl => ok_hst hM.hx hop hd hi hx (zCy hl hk hf) hc hsz hle
theorem h_box (hM : Mk M S) (hk : S HK = .hp f) {E : Nat} {x : Operand} {l : List T} (hop : op.op = .box E x) (hl : zCY (cpO M x) = some l) (hd : op.dst = some d) (hok : okD N pins S d = true) (hf : f c = .free) (hf' : f' = updF f c (.box l)) : OpH P pins N op S (app S [(HK, .hp f'), (d, .t (.hpt c 0))]) :=
 h_mk hk hf' hok fun hN hlo => ok_hbox hM.hx hop hl hd (qX hN hok) (qN hN hok) (zIq hlo hk hf)
theorem h_bd (hM : Mk M S) {t : Nat} {parts : List (Nat × Operand)} (hop : op.op = .build t parts.toArray) (hd : op.dst = some d) (hok : okD N pins S d = true) {l : List T} (h : bdT P M t parts = some l) : OpH P pins N op S (app S [(d, .ag l)]) :=
 .of (e := [(d, _)]) fun hN => ⟨ok_buildT hM.hx hop hd (qX hN hok) h, zBU (qN hN hok)⟩
def zI8 : List Nat → Bool
 | [] => true
 | x :: r => !(r.any fun y => Nat.beq y x) && zI8 r
theorem zIU : ∀ {l : List Nat}, zI8 l = true → l.Nodup
 | [], _ => .nil
 | x :: r, h => by
  simp only [zI8, Bool.and_eq_true] at h
  rw [List.nodup_cons]
  refine ⟨fun hm => ?_, zIU h.2⟩
  have : (r.any fun y => Nat.beq y x) = true := List.any_eq_true.2 ⟨x, hm, Nat.beq_refl x⟩
  rw [this] at h
  cases h.1
def zKJ (M : Nat → A) (σ fr : List Nat) (outs : List A) : Bool :=
 zI8 (σ ++ fr) && (σ ++ fr).all (fun j => Nat.blt (j + 1) OB) && fr.all (fun j => match M (OB + j) with | .free => true | _ => false) && Nat.beq outs.length (σ ++ fr).length && Nat.ble outs.length OB
theorem hx_puts : ∀ {τ : List Nat} {outs : List A} {S : Nat → A}, (∀ j ∈ τ, j + 1 < OB) → hx (app S (zCU τ outs)) = app (hx S) (zCU τ outs)
 | [], outs, S, _ => by cases outs <;> rfl
 | j :: τ, [], S, _ => rfl
 | j :: τ, x :: r, S, h => by
  have hj := h j (by simp)
  show hx (app (upd S (OB + j) x) (zCU τ r)) = app (upd (hx S) (OB + j) x) (zCU τ r)
  rw [hx_puts (fun j hj => h j (List.mem_cons_of_mem _ hj)), zBt (by unfold OB OB2 at *; omega) (by unfold HK; unfold OB at *; omega)]
theorem zHr : ∀ {τ : List Nat} {outs : List A} {S : Nat → A}, (∀ j ∈ τ, j + 1 < OB) → Low S → Low (app S (zCU τ outs))
 | [], outs, S, _, h => by cases outs <;> exact h
 | j :: τ, [], S, _, h => h
 | j :: τ, x :: r, S, h, hl => by
  have hj := h j (by simp)
  exact zHr (S := upd S (OB + j) x) (fun j hj => h j (List.mem_cons_of_mem _ hj)) (hl.upd (by unfold OB OB2 at *; omega))
theorem puts_hk : ∀ {τ : List Nat} {outs : List A} {S : Nat → A}, (∀ j ∈ τ, j + 1 < OB) → app S (zCU τ outs) HK = S HK := fun h => zDK fun e => by
 have := h _ e.2
 have h2 := e.1
 unfold HK at this
 unfold OB at this
 omega
theorem app_hpS : ∀ {τ : List Nat} {outs : List A} {S : Nat → A} {f' : Nat → A}, (∀ j ∈ τ, j + 1 < OB) → app (hpS S f') (zCU τ outs) = hpS (app S (zCU τ outs)) f'
 | [], outs, S, f', _ => by cases outs <;> rfl
 | j :: τ, [], S, f', _ => rfl
 | j :: τ, x :: r, S, f', h => by
  have hj := h j (by simp)
  show app (upd (hpS S f') (OB + j) x) (zCU τ r) = hpS (app (upd S (OB + j) x) (zCU τ r)) f'
  rw [← app_hpS (fun j hj => h j (List.mem_cons_of_mem _ hj))]
  congr 1
  funext t
  unfold upd hpS
  by_cases e : t = OB + j
  ·
   subst e
   rw [if_pos rfl, if_neg (by unfold OB OB2 at *; omega)]
   simp
  ·
   rw [if_neg e]
   simp [e]
theorem zGZ {w0 : World} {m0 : Mem} {o0 : OwnM} {G : GD} {a : Act} {w : World} {m : Mem} {o : OwnM} (hM : Mk M S) (I : Inv w0 m0 o0 G pins S a w m o) {σ : List Nat} (hσ : σ.Nodup) (hl : σ.length ≤ OB) (hs : ∀ j ∈ σ, j < OB) {S' : Nat → A} : ∀ (xs : List Operand) (args : List A), zFM σ (xs.map (cpO M)) args → (xs.map a.eval).length = args.length ∧ ∀ (k : Nat) (x : A), args[k]? = some x → ∀ k0, RepA m w (movH σ o) S' k0 x ((xs.map a.eval).getD k undef)
 | [], args, h => by cases h; exact ⟨rfl, fun k x h => by simp at h⟩
 | y :: ys, args, h => by
  cases h with
  | cons hx ht =>
   obtain ⟨k1, k2⟩ := zGZ hM I hσ hl hs (S' := S') ys _ ht
   refine ⟨by simpa using k1, fun k x hk k0 => ?_⟩
   cases k with
   | succ k => simpa using k2 k x (by simpa using hk) k0
   | zero =>
    injection hk with hk
    subst hk
    have hr := qG hM I y 0
    show RepA m w (movH σ o) _ k0 _ (a.eval y)
    revert hx hr
    generalize cpO M y = z
    intro hx hr
    cases hx with
    | plain h hp => exact zEs hp (h.rep I.sat hr)
    | hpt c off => obtain ⟨g, q1, q2⟩ := hr; exact ⟨g, (zEA hσ hl hs).2 (.inl ⟨_, rfl, q1⟩), q2⟩
    | hvw c off E k n =>
     obtain ⟨A', q, q1, q2, q3, q4⟩ := hr
     exact ⟨A', q, q1, q2, q3, q4.imp id fun ⟨g, cs, E1, k1, k2⟩ => ⟨g, cs, E1, (zEA hσ hl hs).2 (.inl ⟨_, rfl, k1⟩), k2⟩⟩
    | ck f cs =>
     obtain ⟨ptrs, q1, q2, q3⟩ := hr
     refine ⟨ptrs, q1, q2, fun i c hi => ?_⟩
     obtain ⟨v, q4, q5⟩ := q3 i c hi
     refine ⟨v, q4, ?_⟩
     cases c with
     | live c => obtain ⟨g, b1, b2⟩ := q5; exact ⟨g, b1, (zEA hσ hl hs).2 (.inl ⟨_, rfl, b2⟩)⟩
     | fz l => exact q5
    | view h =>
     obtain ⟨A', q, q1, q2, q3, q4⟩ := hr
     exact ⟨A', q, q1, q2, q3, q4.imp id fun ⟨g, cs, E1, k1, k2⟩ => ⟨g, cs, E1, (zEA hσ hl hs).2 (.inr ⟨_, _, rfl, by have := (List.getElem?_eq_some_iff.1 h).1; omega, h, k1⟩), k2⟩⟩
    | view0 h =>
     obtain ⟨A', q, q1, q2, q3, q4⟩ := hr
     exact ⟨A', q, q1, q2, q3, q4.imp id fun ⟨g, cs, E1, k1, k3, k4, k5, _⟩ => ⟨g, cs, E1, (zEA hσ hl hs).2 (.inr ⟨_, _, rfl, by have := (List.getElem?_eq_some_iff.1 h).1; omega, h, k1⟩), k3, k4, k5, .inl rfl⟩⟩
theorem h_callV (hM : Mk M S) (hk : S HK = .hp f) {fn : Nat} (hd : op.dst = some d) (hok : okD N pins S d = true)
    {args : List A} {ins outs : List A} {r r' : A} {σ fr : List Nat} (hf : FCH P fn args ins outs f f' r) (hp : zDa f) (hp' : zDa f') (hb : zKJ M σ fr outs = true) (b3 : ins.all A.flatO = true) (b4 : outs.all A.flatO = true) (hin : σ.map (fun j => S (OB + j)) = ins) (hle : Nat.ble args.length OB = true) (hres : ResH (σ ++ fr) r r')
    (hrun : ∀ (w0 : World) (m0 : Mem) (o0 : OwnM) (G : GD) (a : Act) (w : World) (m : Mem) (o : OwnM), Inv w0 m0 o0 G pins (hx S) a w m o → σ.Nodup → σ.length ≤ OB → (∀ j ∈ σ, j < OB) → ∃ vals : Array Value, (execOp a.eval op).run P w = .ok (.enter fn vals) w ∧ vals.size = args.length ∧ ∀ k x, args[k]? = some x → ∀ k0, RepA m w (movH σ o) (argH args ins f) k0 x (vals.getD k undef)) :
    OpH P pins N op S (app S (zCU (σ ++ fr) outs ++ [(HK, .hp f'), (d, r')])) := by
  intro hN hlo
  unfold zKJ at hb
  simp only [Bool.and_eq_true] at hb
  obtain ⟨⟨⟨⟨b1, b2⟩, b5⟩, b6⟩, b7⟩ := hb
  have hnd := zIU b1
  have hj : ∀ j ∈ σ ++ fr, j + 1 < OB := fun j h => by have := List.all_eq_true.1 b2 j h; simpa using this
  have hj' : ∀ j ∈ σ ++ fr, j < OB := fun j h => by have := hj j h; omega
  have hlen : outs.length = (σ ++ fr).length := Nat.eq_of_beq_eq_true b6
  have hlO : outs.length ≤ OB := Nat.le_of_ble_eq_true b7
  have hσl : σ.length ≤ OB := by have : σ.length ≤ (σ ++ fr).length := by simp
                                 omega
  have hdO := qN hN hok
  have hd2 : d ≠ HK := by unfold HK; unfold OB at hdO; omega
  refine ⟨?_, ?_⟩
  · rw [zEv]
    show OpOK P pins N op (hx S) (hx (upd (upd (app S (zCU (σ ++ fr) outs)) HK (.hp f')) d r'))
    have hl1 : Low (app S (zCU (σ ++ fr) outs)) := zHr hj hlo
    have he : hx (upd (upd (app S (zCU (σ ++ fr) outs)) HK (.hp f')) d r') = upd (upd (app (hpS (hx S) f') (zCU (σ ++ fr) outs)) d r') HK (.hp f') := by
      rw [zBt (lt2 hdO) hd2, zDi hd2, app_hpS hj, ← hx_puts hj]
      congr 1
      funext t
      by_cases e : t = HK
      · subst e
        rw [zZ]
        exact zBq (zZ _ _ _) (by simp)
      · rw [zH e]
        rcases Nat.lt_or_ge t OB2 with h | h
        · rw [zDZ h, zH e]
          unfold hpS
          rw [if_neg (by omega), zDZ h]
        · obtain ⟨k, rfl⟩ : ∃ k, t = OB2 + k := ⟨t - OB2, by omega⟩
          rw [zAZ, zEc (hl1.upd zFm) (zZ _ _ _), ← zAZ]
          unfold hpS
          rw [if_pos (Nat.le_add_right _ _), Nat.add_sub_cancel_left]
    rw [he]
    refine OpOK.hkpost (f := f) ?_ ?_
    · intro w0 m0 o0 G a w m o hNa I K Q hK
      obtain ⟨h1, h2, h3⟩ := qA (qX hN hok)
      obtain ⟨vals, hrun, k1, k2⟩ := hrun w0 m0 o0 G a w m o I (List.nodup_append.1 hnd).1 hσl (fun j h => hj' j (List.mem_append_left _ h))
      have hfr : ∀ j ∈ fr, hx S (OB + j) = .free := fun j h => by
        have := List.all_eq_true.1 b5 j h
        have hm : M (OB + j) = .free := by
          revert this
          cases M (OB + j) <;> intro this <;> first | rfl | cases this
        rcases hM.hx (OB + j) with e | e
        · rw [e] at hm; cases hm
        · rw [← e]; exact hm
      have hc := call_heap I hf (fun c => zEc hlo hk c) hp hp' hnd hj' (by
        rw [← hin]
        refine List.map_congr_left fun j h => ?_
        exact zDZ (by have := hj' j (List.mem_append_left _ h); unfold OB OB2 at *; omega)) b3 b4 hfr hlen hlO hres (vals := vals) k1 k2 (Nat.le_of_ble_eq_true hle) (d := d) (by omega) h2 h3
      unfold Oper.wp
      rw [hrun]
      refine Calls.mono hc ?_
      rintro e w' ⟨u, m', o', rfl, J⟩
      rw [← hd] at J
      exact hK _ _ _ _ (by rw [zA6, hNa]) J
    · rw [zH (Ne.symm hd2), puts_hk hj]
      unfold hpS
      rw [if_neg (by unfold HK OB2; omega)]
      exact zBq hk (by simp)
  · rw [zEv]
    exact ((zHr hj hlo).upd zFm).upd (lt2 hdO)
theorem zBS (hM : Mk M S) (hk : S HK = .hp f) {fn : Nat} {xs : List Operand} {ts : Array TypeId} {fx : Operand} (hop : op.op = .call { callee := .value fx, args := xs.toArray, argTypes := ts }) (hfx : vO M fx = some (.func (.func fn) #[] #[])) (hd : op.dst = some d) (hok : okD N pins S d = true) {F : Func} (hfn : P.funcs[fn]? = some F) (hbody : F.body.isNone = false) (hname : (F.name == "runtime.NumGoroutine") = false)
  {args : List A} {ins outs : List A} {r r' : A} {σ fr : List Nat} (hf : FCH P fn args ins outs f f' r) (hp : zDa f) (hp' : zDa f') (hb : zKJ M σ fr outs = true) (b3 : ins.all A.flatO = true) (b4 : outs.all A.flatO = true) (hin : σ.map (fun j => S (OB + j)) = ins) (hargs : zFM σ (xs.map (cpO M)) args) (hle : Nat.ble args.length OB = true) (hres : ResH (σ ++ fr) r r') :
  OpH P pins N op S (app S (zCU (σ ++ fr) outs ++ [(HK, .hp f'), (d, r')])) := by
 refine h_callV hM hk hd hok hf hp hp' hb b3 b4 hin hle hres fun w0 m0 o0 G a w m o I hn hl hs => ?_
 obtain ⟨k1, k2⟩ := zGZ hM.hx I hn hl hs (S' := argH args ins f) xs args hargs
 refine ⟨(xs.map a.eval).toArray, ?_, by simpa using k1, fun k x hk k0 => by simpa using k2 k x hk k0⟩
 unfold execOp
 rw [hop]
 simp only [resolve, zB1 hM.hx I hfx, Deferred.ofValue, List.map_toArray]
 have hb : F.body ≠ none := fun e => by rw [e] at hbody; cases hbody
 have hn : F.name ≠ "runtime.NumGoroutine" := fun e => by rw [e] at hname; simp at hname
 simp [invoke, callFunc, hfn, hn, hb]
def CkE.a : CkE → A
 | .live c => .t (.hpt c 0)
 | .fz l => .imm l
abbrev ckA (cs : List CkE) : List A := cs.map CkE.a
theorem h_callC (hM : Mk M S) (hk : S HK = .hp f) {fn t : Nat} {cs : List CkE} {xs : List Operand} {ts : Array TypeId} (hop : op.op = .call { callee := .value (.tmp t), args := xs.toArray, argTypes := ts }) (hfx : cpO M (.tmp t) = .ck fn cs) (hd : op.dst = some d) (hok : okD N pins S d = true) (hfn : ∃ F, P.funcs[fn]? = some F ∧ F.body.isNone = false ∧ (F.name == "runtime.NumGoroutine") = false)
  {args : List A} {r r' : A} (hf : FCH P fn (args ++ ckA cs) [] [] f f' r) (hp : zDa f) (hp' : zDa f') (hargs : zFM [] (xs.map (cpO M)) args) (hle : Nat.ble (args ++ ckA cs).length OB = true) (hres : ResH [] r r') :
  OpH P pins N op S (app S [(HK, .hp f'), (d, r')]) := by
 obtain ⟨F, hfn, hbody, hname⟩ := hfn
 refine h_callV (σ := []) (fr := []) hM hk hd hok hf hp hp' rfl rfl rfl rfl hle hres fun w0 m0 o0 G a w m o I hn hl hs => ?_
 obtain ⟨k1, k2⟩ := zGZ hM.hx I hn hl hs (S' := argH (args ++ ckA cs) [] f) xs args hargs
 have hc := qG hM.hx I (.tmp t) 0
 rw [hfx] at hc
 obtain ⟨ptrs, e, q1, q2⟩ := hc
 refine ⟨(xs.map a.eval).toArray ++ ptrs, ?_, ?_, fun k x hk k0 => ?_⟩
 ·
  unfold execOp
  rw [hop]
  simp only [resolve, e, Deferred.ofValue, List.map_toArray]
  have hb : F.body ≠ none := fun e => by rw [e] at hbody; cases hbody
  have hn : F.name ≠ "runtime.NumGoroutine" := fun e => by rw [e] at hname; simp at hname
  simp [invoke, callFunc, hfn, hn, hb]
 ·
  simp only [Array.size_append, List.size_toArray, List.length_map, List.length_append, q1]
  have : (xs.map a.eval).length = args.length := k1
  simp only [List.length_map] at this
  omega
 ·
  have hl1 : (xs.map a.eval).length = args.length := k1
  rcases Nat.lt_or_ge k args.length with h | h
  ·
   rw [List.getElem?_append_left h] at hk
   have := k2 k x hk k0
   rw [Array.getD_eq_getD_getElem?, Array.getElem?_append_left (by simp only [List.size_toArray]; omega)]
   rw [List.getD_eq_getElem?_getD] at this
   simpa using this
  ·
   rw [List.getElem?_append_right h, List.getElem?_map] at hk
   cases hc : cs[k - args.length]? with
   | none => rw [hc] at hk; cases hk
   | some c =>
    rw [hc] at hk
    injection hk with hk
    subst hk
    obtain ⟨v, q3, q4⟩ := q2 _ c hc
    have hv : ((xs.map a.eval).toArray ++ ptrs).getD k undef = v := by
     rw [Array.getD_eq_getD_getElem?, Array.getElem?_append_right (by simp only [List.size_toArray]; omega)]
     simp only [List.size_toArray, hl1, q3]
     rfl
    rw [hv]
    cases c with
    | live c => obtain ⟨g, b1, b2⟩ := q4; exact ⟨g, (zEA hn hl hs).2 (.inl ⟨_, rfl, b2⟩), b1⟩
    | fz l => exact q4
def ckF (M : Nat → A) : List Operand → Option (List CkE)
 | [] => some []
 | x :: r => match cpO M x, ckF M r with
  | .t (.hpt c 0), some k => some (.live c :: k)
  | .imm l, some k => some (.fz l :: k)
  | _, _ => none
theorem zIX {w0 : World} {m0 : Mem} {o0 : OwnM} {G : GD} {a : Act} {w : World} {m : Mem} {o : OwnM} (hM : Mk M S) (I : Inv w0 m0 o0 G pins S a w m o) : ∀ {xs : List Operand} {cs : List CkE}, ckF M xs = some cs → xs.length = cs.length ∧ ∀ (i : Nat) (c : CkE), cs[i]? = some c → ∃ v, (xs.map a.eval)[i]? = some v ∧ RepC m o c v
 | [], cs, h => by injection h with h; subst h; exact ⟨rfl, fun i c h => by simp at h⟩
 | x :: r, cs, h => by
  unfold ckF at h
  have hr := qG hM I x 0
  split at h
  case h_3 => cases h
  ·
   rename_i c k h1 h2
   injection h with h
   subst h
   obtain ⟨k1, k2⟩ := zIX hM I h2
   refine ⟨by simp [k1], fun i c' hi => ?_⟩
   cases i with
   | zero =>
    injection hi with hi
    subst hi
    rw [h1] at hr
    obtain ⟨g, q1, q2⟩ := hr
    exact ⟨_, rfl, g, q2, q1⟩
   | succ i => simpa using k2 i c' (by simpa using hi)
  ·
   rename_i l k h1 h2
   injection h with h
   subst h
   obtain ⟨k1, k2⟩ := zIX hM I h2
   refine ⟨by simp [k1], fun i c' hi => ?_⟩
   cases i with
   | zero =>
    injection hi with hi
    subst hi
    rw [h1] at hr
    exact ⟨_, rfl, hr⟩
   | succ i => simpa using k2 i c' (by simpa using hi)
theorem h_mfK {fn : Nat} (hM : Mk M S) {xs : List Operand} {cs : List CkE} (hop : op.op = .makeFunc (.func fn) #[] xs.toArray) (hd : op.dst = some d) (hok : okD N pins S d = true) (hc : ckF M xs = some cs) : OpH P pins N op S (app S [(d, .ck fn cs)]) :=
 .of (e := [(d, .ck fn cs)]) fun hNO => ⟨by
  refine zV fun w0 m0 o0 G a w m o hN I => ?_
  obtain ⟨k1, k2, k3⟩ := qA (qX hNO hok)
  obtain ⟨c1, c2⟩ := zIX hM.hx I hc
  refine ⟨.func (.func fn) #[] (xs.map a.eval).toArray, w, m, o, ?_, by rw [hd]; exact I.set d _ _ (by omega) k2 ⟨_, rfl, by simpa using c1, fun i c hi => let ⟨v, h1, h2⟩ := c2 i c hi; ⟨v, by simpa using h1, h2⟩⟩⟩
  unfold execOp
  rw [hop]
  simp [Instr.makeFunc], zBU (qN hNO hok)⟩
end
end Go.Proofs.Ytjomnccladjpgaa

/-
 Local objects: slices that are made and written by index; forgotten, frozen.
-/
namespace Go.Proofs.Ytjomnccladjpgaa
open Go Go.RowKit
set_option linter.unusedVariables false
def fl {α β : Type} (c : α → List β) (x : List α) : List β := x.flatMap c
section
variable {α β : Type} {c : α → List β} {k : Nat}
theorem zFL (hc : ∀ a, (c a).length = k) (x : List α) : (fl c x).length = x.length * k := by
 unfold fl
 induction x with
 | nil => simp
 | cons a r ih => rw [List.flatMap_cons, List.length_append, hc, ih, List.length_cons, Nat.succ_mul]; omega
theorem zHV (hc : ∀ a, (c a).length = k) {x : List α} {i : Nat} (h : i < x.length) : fl c x = fl c (x.take i) ++ (c x[i] ++ fl c (x.drop (i + 1))) ∧ (fl c (x.take i)).length = i * k := by
 refine ⟨?_, by rw [zFL hc, List.length_take, Nat.min_eq_left (by omega)]⟩
 conv => lhs; rw [← List.take_append_drop i x, List.drop_eq_getElem_cons h]
 unfold fl
 rw [List.flatMap_append, List.flatMap_cons]
theorem fl_row (hc : ∀ a, (c a).length = k) {x : List α} {i : Nat} {a : α} (h : x[i]? = some a) : ((fl c x).drop (i * k)).take k = c a := by
 obtain ⟨hi, rfl⟩ := List.getElem?_eq_some_iff.1 h
 obtain ⟨e, hl⟩ := zHV (c := c) hc hi
 rw [e, ← hl, List.drop_left, List.take_append_of_le_length (by rw [hc]; exact Nat.le_refl _), List.take_of_length_le (by rw [hc]; exact Nat.le_refl _)]
theorem fl_cell (hc : ∀ a, (c a).length = k) {x : List α} {i q : Nat} {a : α} (h : x[i]? = some a) (hq : q < k) : (fl c x)[i * k + q]? = (c a)[q]? := by
 obtain ⟨hi, rfl⟩ := List.getElem?_eq_some_iff.1 h
 obtain ⟨e, hl⟩ := zHV (c := c) hc hi
 rw [e, List.getElem?_append_right (by omega), hl, Nat.add_sub_cancel_left, List.getElem?_append_left (by rw [hc]; exact hq)]
theorem fl_set (hc : ∀ a, (c a).length = k) {x : List α} {i : Nat} (h : i < x.length) (a : α) : fl c (x.set i a) = fl c (x.take i) ++ (c a ++ fl c (x.drop (i + 1))) := by
 rw [List.set_eq_take_append_cons_drop, if_pos h]
 unfold fl
 rw [List.flatMap_append, List.flatMap_cons]
theorem zIK (hc : ∀ a, (c a).length = k) {x : List α} {i q : Nat} {a b : α} {d : List β} (h : x[i]? = some a) (hd : qT (c a) q d = c b) (hq : q + d.length ≤ k) : qT (fl c x) (i * k + q) d = fl c (x.set i b) := by
 obtain ⟨hi, rfl⟩ := List.getElem?_eq_some_iff.1 h
 obtain ⟨e, hl⟩ := zHV (c := c) hc hi
 rw [fl_set hc hi, ← hd, e]
 unfold qT
 have hcl : (c x[i]).length = k := hc _
 have e1 : (fl c (x.take i) ++ (c x[i] ++ fl c (x.drop (i + 1)))).take (i * k + q) = fl c (x.take i) ++ (c x[i]).take q := by
  rw [← hl, List.take_length_add_append, List.take_append_of_le_length (by omega)]
 have e2 : (fl c (x.take i) ++ (c x[i] ++ fl c (x.drop (i + 1)))).drop (i * k + q + d.length) = (c x[i]).drop (q + d.length) ++ fl c (x.drop (i + 1)) := by
  rw [Nat.add_assoc, ← hl, List.drop_length_add_append, List.drop_append_of_le_length (by omega)]
 rw [e1, e2]
 simp [List.append_assoc]
end
theorem zDR {β : Type} {k : Nat} : ∀ {rs : List (List β)}, (∀ r ∈ rs, r.length = k) → (rs.flatMap id).length = rs.length * k
 | [], _ => by simp
 | r :: t, h => by
  rw [List.flatMap_cons, List.length_append, zDR fun x hx => h x (List.mem_cons_of_mem _ hx), List.length_cons, Nat.succ_mul]
  have : r.length = k := h r (by simp)
  show r.length + _ = _
  omega
theorem zCP {β : Type} {k : Nat} : ∀ {rs : List (List β)} {i q : Nat} {r : List β}, (∀ r ∈ rs, r.length = k) → rs[i]? = some r → q < k → (rs.flatMap id)[i * k + q]? = r[q]?
 | [], i, q, r, _, h, _ => by simp at h
 | x :: t, i, q, r, h, hi, hq => by
  have hx : x.length = k := h x (by simp)
  rw [List.flatMap_cons]
  cases i with
  | zero =>
   injection hi with hi
   subst hi
   rw [Nat.zero_mul, Nat.zero_add]
   exact List.getElem?_append_left (by show q < x.length; omega)
  | succ i =>
   rw [Nat.succ_mul, List.getElem?_append_right (by show x.length ≤ _; omega)]
   have : i * k + k + q - (id x).length = i * k + q := by show i * k + k + q - x.length = _; omega
   rw [this]
   exact zCP (fun r hr => h r (List.mem_cons_of_mem _ hr)) (by simpa using hi) hq
section
variable {w0 : World} {m0 : Mem} {o0 : OwnM} {G : GD} {pins : List Nat} {S M : Nat → A} {a : Act} {w : World} {m : Mem} {o : OwnM} {P : Program} {N : Nat}
theorem ok_make (hM : Mk M S) {op : Oper} {d j t e q : Nat} {xn xc : Operand} {kl kc : IntKind} {n : Int} {ie : TypeInfo} {z : Value} {c0 : List T} (hop : op.op = .makeSlice t xn xc) (hn : vO M xn = some (.int kl n)) (hc : vO M xc = some (.int kc n)) (hu : P.underlying t = some (.slice e)) (hie : P.info? e = some ie) (hz : ie.zero = some z)
  (hc0 : zEL (litA z) = some c0) (hsz : c0.length = ie.size) (hq : mkI ie.bytes n = some q) (hd : op.dst = some d) (hok : okD N pins S d = true) (hdO : Nat.blt d OB = true) (hfree : S (OB + j) = .free) :
  OpOK P pins N op S (app S [(OB + j, .box (fl (fun _ => c0) (List.replicate q ()))), (d, .t (.view j 0 e ie.size q))]) := by
 obtain ⟨q1, q2, q3, rfl⟩ := mkI_iff hq
 refine zV fun w0 m0 o0 G a w m o hN I => ?_
 obtain ⟨d1, d2, d3⟩ := qA hok
 have hdO : d < OB := by simpa using hdO
 have hcp : zCY (litA z) = some c0 := by
  revert hc0
  generalize litA z = y
  intro hl
  cases y with
  | t y => cases y <;> first | exact hl | cases hl
  | _ => cases hl
 obtain ⟨k1, k2, k3⟩ := zCS hcp (zCs (m := m) (w := w) (o := o) (S := S) 0 z)
 have hrun := run_make (P := P) (w := w) t e ie z hu hie hz kl kc n n q1 (Int.le_refl _) q2 (by omega)
 have hsize : (madeCells z.cells (n.toNat * ie.size)).size = n.toNat * ie.size := size_madeCells _ _
 have J := I.obj_new (j := j) (l := fl (fun _ => c0) (List.replicate n.toNat ())) (cs := madeCells z.cells (n.toNat * ie.size)) (E := e) hfree ?_ fun i x hi => ?_
 ·
  refine ⟨.slice (some ⟨w.heap.size, 0, none⟩) n.toNat n.toNat, w.alloc (.cells (madeCells z.cells (n.toNat * ie.size)) e), m, newO o (OB + j) w.heap.size, ?_, ?_⟩
  ·
   unfold execOp
   rw [hop]
   simp only [Sem.run_bind]
   rw [zB1 hM I hn, zB1 hM I hc, hrun]
   rfl
  ·
   rw [hd]
   exact J.set d _ _ (by omega) (by rw [zH (by omega)]; exact d2) ⟨some ⟨w.heap.size, 0, none⟩, n.toNat, Nat.le_refl _, by unfold maxLen; omega, rfl, .inr ⟨w.heap.size, _, e, zAD _ _ _, rfl, heap_alloc_new w _, by rw [hsize]; omega, .inr rfl⟩⟩
 ·
  rw [hsize, zFL (k := ie.size) (fun _ => hsz), List.length_replicate]
  exact Nat.le_refl _
 ·
  have hlt : i < n.toNat * ie.size := by
   have := (List.getElem?_eq_some_iff.1 hi).1
   rw [zFL (k := ie.size) (fun _ => hsz), List.length_replicate] at this
   exact this
  have hpos : 0 < ie.size := Nat.pos_of_ne_zero fun e => by rw [e] at hlt; simp at hlt
  have hi1 : i / ie.size < n.toNat := Nat.div_lt_of_lt_mul (by rw [Nat.mul_comm]; exact hlt)
  have hi2 : i % ie.size < ie.size := Nat.mod_lt _ hpos
  have he : i / ie.size * ie.size + i % ie.size = i := by rw [Nat.mul_comm]; exact Nat.div_add_mod i ie.size
  have h2 := fl_cell (c := fun _ : Unit => c0) (k := ie.size) (fun _ => hsz) (x := List.replicate n.toNat ()) (i := i / ie.size) (q := i % ie.size) (a := ()) (by rw [List.getElem?_replicate, if_pos hi1]) hi2
  rw [he] at h2
  rw [h2] at hi
  obtain ⟨p1, u, p2, p3⟩ := k3 _ x hi
  refine ⟨zCu hcp x (List.mem_of_getElem? hi), u, ?_, p3 _ _ (zBA.refl w)⟩
  have hzs : z.cells.size = ie.size := by have := k1; simp at this; omega
  unfold madeCells
  rw [Array.getElem?_map, Array.getElem?_range, if_pos hlt]
  simp only [Option.map_some, hzs]
  have p2 : z.cells[i % ie.size]? = some u := by simpa using p2
  rw [getElem!_def, p2]
theorem ok_ixv (hM : Mk M S) {op : Oper} {d j off E k n t e : Nat} {x i : Operand} {ki : IntKind} {z : Int} {ie : TypeInfo} (hop : op.op = .indexAddr t x i) (hx : cpO M x = .t (.view j off E k n)) (hi : vO M i = some (.int ki z)) (hu : P.underlying t = some (.slice e)) (hie : P.info? e = some ie) (hz : 0 ≤ z ∧ z < n) (hd : op.dst = some d) (hok : okD N pins S d = true) :
  OpOK P pins N op S (upd S d (.ref (OB + j) (off + z.toNat * ie.size))) := by
 refine zV fun w0 m0 o0 G a w m o hN I => ?_
 obtain ⟨h1, h2, h3⟩ := qA hok
 have hxr := qG hM I x 0
 rw [hx] at hxr
 obtain ⟨A', c, k0, _, k3, k4⟩ := hxr
 obtain ⟨g, cs, _, k1, k5, _⟩ := k4.resolve_left fun h => by omega
 subst k5
 refine ⟨.pointer (some ⟨g, off + z.toNat * ie.size, none⟩), w, m, o, ?_, ?_⟩
 ·
  unfold execOp
  rw [hop]
  simp only [Sem.run_bind]
  rw [zB1 hM I hi, k3]
  simp [Instr.indexAt, asIntOf, run_underlying hu, hz, sizeOf, typeInfo, hie, Addr.add_mid]
 ·
  rw [hd]
  exact I.set d _ _ (by omega) h2 ⟨g, k1, rfl, fun h => absurd h (by omega)⟩
theorem ok_ldr (hM : Mk M S) {op : Oper} {d b off t n : Nat} {x : Operand} {l r : List T} (hop : op.op = .load t x) (ht : tyA P t = some (true, n)) (hx : cpO M x = .ref b off) (hb : M b = .box l) (hl : (l.drop off).take n = r) (hr : r.length = n) (hpos : Nat.blt 0 n = true) (hpt : noPt r = true) (hd : op.dst = some d) (hok : okD N pins S d = true) : OpOK P pins N op S (upd S d (.t (.agg (r.map toD)))) := by
 refine zFE hM hd hok ?_
 rw [hop]
 show ldF P M t x = _
 unfold ldF
 simp only [hx, ht, hb, hl]
 rw [if_pos hpt]
 have hle : n = 0 ∨ off + n ≤ l.length := by
  rw [← hl, List.length_take, List.length_drop] at hr
  omega
 split
 ·
  rename_i h0
  obtain ⟨rfl, rfl⟩ := h0
  rw [List.drop_zero, List.take_length] at hl
  rw [hl]
 ·
  rename_i h0
  by_cases h1 : off + n ≤ l.length
  · rw [if_pos h1]
  ·
   rcases hle with rfl | h
   · cases hpos
   · exact absurd h h1
theorem ok_lnv (hM : Mk M S) {op : Oper} {d j off E k n t e : Nat} {x : Operand} (hop : op.op = .call { callee := .builtin .len, args := ⟨[x]⟩, argTypes := ⟨[t]⟩ }) (hx : cpO M x = .t (.view j off E k n)) (hu : P.underlying t = some (.slice e)) (hd : op.dst = some d) (hok : okD N pins S d = true) :
  OpOK P pins N op S (upd S d (.t (.d (.lit (.int .i64 n))))) := by
 refine zV fun w0 m0 o0 G a w m o hN I => ?_
 obtain ⟨h1, h2, h3⟩ := qA hok
 have hxr := qG hM I x 0
 rw [hx] at hxr
 obtain ⟨A', c, _, _, k3, _⟩ := hxr
 refine ⟨.int .i64 n, w, m, o, ?_, by rw [hd]; exact I.set d _ _ (by omega) h2 (.lit _ rfl)⟩
 unfold execOp
 rw [hop]
 simp only [resolve, invoke, builtin, Sem.run_bind, Sem.run_pure, Result.andThen_ok, List.map_toArray, List.map_cons, List.map_nil]
 rw [k3]
 simp [Builtin.len_, run_underlying hu, goInt]
theorem ok_slv (hM : Mk M S) {op : Oper} {d j off E k n t e : Nat} {x : Operand} {lo hi : Option Operand} {l0 h0 : Option Int} {ie : TypeInfo} {off' n' : Nat} (hop : op.op = .slice t x lo hi none) (hx : cpO M x = .t (.view j off E k n)) (hk : ie.size = k) (hlo : bndO M lo = some l0) (hhi : bndO M hi = some h0) (hu : P.underlying t = some (.slice e)) (hie : P.info? e = some ie)
    (hc : 0 ≤ l0.getD 0 ∧ l0.getD 0 ≤ h0.getD n ∧ h0.getD n ≤ n) (ho : off + (l0.getD 0).toNat * ie.size = off') (hn' : (h0.getD n).toNat - (l0.getD 0).toNat = n') (hd : op.dst = some d) (hok : okD N pins S d = true) :
    OpOK P pins N op S (upd S d (.t (.view j off' E k n'))) := by
  subst ho hn' hk
  refine zV fun w0 m0 o0 G a w m o hN I => ?_
  obtain ⟨h1, h2, h3⟩ := qA hok
  have hxr := qG hM I x 0
  rw [hx] at hxr
  obtain ⟨A', c, k2, k4, k3, k5⟩ := hxr
  obtain ⟨kl, e1⟩ := zDQ hM I hlo
  obtain ⟨kh, e2⟩ := zDQ hM I hhi
  have hb : (Instr.sliceBounds true n c (l0.map fun z => .int (kl z) z) (h0.map fun z => .int (kh z) z) none).run P w = .ok ((l0.map Int.toNat).getD 0, (h0.map Int.toNat).getD n, c) w := by
    unfold Instr.sliceBounds
    cases l0 <;> cases h0 <;> simp only [Option.getD_none, Option.getD_some, Option.map_none, Option.map_some, Option.isSome_none, Option.isSome_some] at hc ⊢ <;>
      (simp only [Sem.run_bind, Sem.run_pure, Result.andThen_ok]
       repeat (rw [zAq (by omega) (by omega), Result.andThen_ok]))
  have hlo2 : (l0.map Int.toNat).getD 0 = (l0.getD 0).toNat := by cases l0 <;> rfl
  have hhi2 : (h0.map Int.toNat).getD n = (h0.getD n).toNat := by cases h0 <;> simp
  rw [hlo2, hhi2] at hb
  have hrun : (Instr.sliceAt t (.slice A' n c) (l0.map fun z => .int (kl z) z) (h0.map fun z => .int (kh z) z) none).run P w = .ok (.slice (if c = (l0.getD 0).toNat then A' else A'.map (·.add ((l0.getD 0).toNat * ie.size))) ((h0.getD n).toNat - (l0.getD 0).toNat) (c - (l0.getD 0).toNat)) w := by
    unfold Instr.sliceAt
    simp only [Sem.run_bind, run_underlying hu, Result.andThen_ok]
    unfold Instr.slice
    simp only [Sem.run_bind, run_underlying hu, Result.andThen_ok]
    rw [hb]
    simp [sizeOf, typeInfo, hie]
  refine ⟨.slice (if c = (l0.getD 0).toNat then A' else A'.map (·.add ((l0.getD 0).toNat * ie.size))) ((h0.getD n).toNat - (l0.getD 0).toNat) (c - (l0.getD 0).toNat), w, m, o, ?_, ?_⟩
  · unfold execOp
    rw [hop]
    simp only [Sem.run_bind]
    rw [e1, e2, k3]
    show Result.andThen (Sem.run P (Instr.sliceAt t _ _ _ none) w) _ = _
    rw [hrun]
    rfl
  · rw [hd]
    refine I.set d _ _ (by omega) h2 ?_
    refine ⟨(if c = (l0.getD 0).toNat then A' else A'.map (·.add ((l0.getD 0).toNat * ie.size))), c - (l0.getD 0).toNat, by omega, by omega, rfl, ?_⟩
    rcases k5 with c0 | ⟨g, cs, E1, q1, q2, q3, q4, q6⟩
    · subst c0
      exact .inl (Nat.zero_sub _)
    · by_cases hz : c = (l0.getD 0).toNat
      · exact .inl (by omega)
      · refine .inr ⟨g, cs, E1, q1, ?_, q3, ?_, q6⟩
        · rw [if_neg hz, q2]
          show some ((⟨g, off, none⟩ : Addr).add _) = _
          rw [Addr.add_mid]
        · have : (l0.getD 0).toNat * ie.size + (c - (l0.getD 0).toNat) * ie.size = c * ie.size := by rw [← Nat.add_mul]; congr 1; omega
          omega
def zEQ (j : Nat) : T → Bool
 | .ptr i _ | .view i _ _ _ _ => Nat.beq i j
 | .mpt i => Nat.blt i OB && Nat.beq i j
 | _ => false
def zDH (j : Nat) : A → Bool
 | .t x => zEQ j x
 | .tup l | .box l | .ag l | .lst l | .imt l => l.any (zEQ j)
 | .cl _ caps => caps.any fun l => l.any (zEQ j)
 | .ref b _ => Nat.beq b (OB + j)
 | _ => false
def zGu (o : OwnM) (j : Nat) : OwnM := fun g => if (o g).map (·.1) = some (OB + j) then none else o g
theorem yD {o : OwnM} {j g : Nat} {l : Nat × Nat} : zGu o j g = some l ↔ o g = some l ∧ l.1 ≠ OB + j := by
 unfold zGu
 constructor
 ·
  intro h
  split at h
  · cases h
  · rename_i hn; exact ⟨h, fun e => hn (by rw [h, ← e]; rfl)⟩
 ·
  rintro ⟨h1, h2⟩
  rw [h1, if_neg (by simpa using h2)]
theorem zDP {j : Nat} (hj : j < OB) {x : T} (hx : zEQ j x = false) {loc : Nat × Nat} (hl : loc.1 ≠ OB + j) {v : Value} (h : RepT m w o loc x v) : RepT m w (zGu o j) loc x v := by
 cases x with
 | d x => exact h
 | agg l => exact h
 | own E k l =>
  obtain ⟨A', cap, xs, e, h1, h2, h3⟩ := h
  exact ⟨A', cap, xs, e, h1, fun g hg => ⟨yD.2 ⟨(h2 g hg).1, hl⟩, (h2 g hg).2⟩, h3⟩
 | ptr i off =>
  obtain ⟨g, h1, h2⟩ := h
  have : i ≠ j := fun e => by subst e; simp [zEQ] at hx
  exact ⟨g, yD.2 ⟨h1, by show OB + i ≠ OB + j; omega⟩, h2⟩
 | view i off E k n =>
  obtain ⟨A', c, h1, h2, h3, h4⟩ := h
  have : i ≠ j := fun e => by subst e; simp [zEQ] at hx
  exact ⟨A', c, h1, h2, h3, h4.imp id fun ⟨g, cs, E1, k1, k2⟩ => ⟨g, cs, E1, yD.2 ⟨k1, by show OB + i ≠ OB + j; omega⟩, k2⟩⟩
 | xs E k l rv =>
  obtain ⟨A', cap, xs, e, h1, h2, h3⟩ := h
  exact ⟨A', cap, xs, e, h1, fun g hg => ⟨yD.2 ⟨(h2 g hg).1, hl⟩, (h2 g hg).2⟩, h3⟩
 | any => exact h
 | hpt c off =>
  obtain ⟨g, h1, h2⟩ := h
  exact ⟨g, yD.2 ⟨h1, by show OB + (OB + c) ≠ OB + j; omega⟩, h2⟩
 | mpt i =>
  obtain ⟨g, h1, h2⟩ := h
  have : i ≠ j := fun e => by
   subst e
   have hx : (Nat.blt i OB && Nat.beq i i) = false := hx
   rw [show Nat.blt i OB = true by simpa using hj, Nat.beq_refl] at hx
   cases hx
  exact ⟨g, yD.2 ⟨h1, by show OB + i ≠ OB + j; omega⟩, h2⟩
 | hvw c off E k n =>
  obtain ⟨A', q, h1, h2, h3, h4⟩ := h
  exact ⟨A', q, h1, h2, h3, h4.imp id fun ⟨g, cs, E1, k1, k2⟩ => ⟨g, cs, E1, yD.2 ⟨k1, by show OB + (OB + c) ≠ OB + j; omega⟩, k2⟩⟩
theorem zDy {j : Nat} {l : List T} (h : l.any (zEQ j) = false) {q : Nat} {x : T} (hq : l[q]? = some x) : zEQ j x = false := by
 cases hb : zEQ j x with
 | false => rfl
 | true =>
  have : l.any (zEQ j) = true := List.any_eq_true.2 ⟨x, List.mem_of_getElem? hq, hb⟩
  rw [h] at this
  cases this
theorem zIA {j s : Nat} (hj : j < OB) {x : A} (hx : zDH j x = false) (hs : s ≠ OB + j) {S S' : Nat → A} (hS : ∀ b l, b < OB → S b = .box l → ∃ l', S' b = .box l') {v : Value} (h : RepA m w o S s x v) : RepA m w (zGu o j) S' s x v := by
 cases x with
 | t x => exact zDP (loc := (s, 0)) hj hx hs h
 | tup l =>
  obtain ⟨vs, e, h1, h2⟩ := h
  refine ⟨vs, e, h1, fun q x hq => ?_⟩
  obtain ⟨u, k1, k2⟩ := h2 q x hq
  exact ⟨u, k1, zDP hj (zDy hx hq) hs k2⟩
 | imm l => exact h
 | box l =>
  obtain ⟨g, e, h1, h2, cs, E, h3, h4, h5⟩ := h
  refine ⟨g, e, yD.2 ⟨h1, hs⟩, h2, cs, E, h3, h4, fun q x hq => ?_⟩
  obtain ⟨k0, u, k1, k2⟩ := h5 q x hq
  exact ⟨k0, u, k1, zDP hj (zDy hx hq) hs k2⟩
 | ref b off =>
  obtain ⟨g, h1, h2, h3⟩ := h
  have : b ≠ OB + j := fun e => by subst e; simp [zDH] at hx
  exact ⟨g, yD.2 ⟨h1, this⟩, h2, fun hb => let ⟨l, hl⟩ := h3 hb; hS b l hb hl⟩
 | free => exact fun g k e => h g k (yD.1 e).1
 | ag l =>
  obtain ⟨vs, e, h1, h2⟩ := h
  refine ⟨vs, e, h1, fun q x hq => ?_⟩
  obtain ⟨u, k1, k3, k2⟩ := h2 q x hq
  exact ⟨u, k1, k3, zDP hj (zDy hx hq) hs k2⟩
 | lst l =>
  obtain ⟨g, cap, e, h1, h2, h3⟩ := h
  refine ⟨g, cap, e, h1, h2, fun q x hq => ?_⟩
  obtain ⟨u, k1, k2⟩ := h3 q x hq
  exact ⟨u, k1, zDP hj (zDy hx hq) hs k2⟩
 | fr E k =>
  obtain ⟨g, n, cap, cur, h1, h2, h3⟩ := h
  exact ⟨g, n, cap, cur, h1, yD.2 ⟨h2, hs⟩, h3⟩
 | hp f => trivial
 | mp l => obtain ⟨g, h1, rest⟩ := h; exact ⟨g, yD.2 ⟨h1, hs⟩, rest⟩
 | ck f cs =>
  obtain ⟨ptrs, e, h1, h2⟩ := h
  refine ⟨ptrs, e, h1, fun i c hi => ?_⟩
  obtain ⟨v, k1, k2⟩ := h2 i c hi
  refine ⟨v, k1, ?_⟩
  cases c with
  | live c => obtain ⟨g, b1, b2⟩ := k2; exact ⟨g, b1, yD.2 ⟨b2, by show OB + (OB + c) ≠ OB + j; omega⟩⟩
  | fz l => exact k2
 | cl f caps =>
  obtain ⟨ptrs, e, h1, h2⟩ := h
  refine ⟨ptrs, e, h1, fun i l hi => ?_⟩
  obtain ⟨g, k1, k2⟩ := h2 i l hi
  have hl : l.any (zEQ j) = false := by
   cases hb : l.any (zEQ j) with
   | false => rfl
   | true =>
    have : caps.any (fun l => l.any (zEQ j)) = true := List.any_eq_true.2 ⟨l, List.mem_of_getElem? hi, hb⟩
    have hx : caps.any (fun l => l.any (zEQ j)) = false := hx
    rw [hx] at this
    cases this
  refine ⟨g, k1, fun q x hq => ?_⟩
  obtain ⟨u, k3, k4⟩ := k2 q x hq
  exact ⟨u, k3, zDP hj (zDy hl hq) hs k4⟩
 | imt l =>
  obtain ⟨g, k1, k2⟩ := h
  refine ⟨g, k1, fun q x hq => ?_⟩
  obtain ⟨u, k3, k4⟩ := k2 q x hq
  exact ⟨u, k3, zDP hj (zDy hx hq) hs k4⟩
 | rcd b u mE oE =>
  obtain ⟨h1, h2, h3, h4, h5⟩ := h
  exact ⟨yD.2 ⟨h1, hs⟩, h2, h3, h4, fun g c hg => yD.2 ⟨h5 g c hg, by show OB + (OB + c) ≠ OB + j; omega⟩⟩
 | any => trivial
theorem Inv.forget (I : Inv w0 m0 o0 G pins S a w m o) {j : Nat} (hj : j < OB) (hp : OB + j ∉ pins) (hm : ∀ s, zDH j (S s) = false) : Inv w0 m0 o0 G pins (upd S (OB + j) .free) a w m (zGu o j) := by
 refine ⟨I.same, I.sat, I.mono, I.old, fun g l h => I.own g l (yD.1 h).1, fun g l h => I.lt g l (yD.1 h).1, fun g g' l h h' => I.inj g g' l (yD.1 h).1 (yD.1 h').1, fun s hs g hg => yD.2 ⟨I.pinned s hs g hg, fun e => hs.elim (fun hs => hp (by rw [← e]; exact hs)) fun _ => ((I.shps g j (by have e : s = OB + j := e; rw [← e]; exact hg)).1).elim hp fun h => by unfold OB OB2 at *; omega⟩, fun s => ?_, I.defers, I.tbl, I.wide, I.shps⟩
 by_cases e : s = OB + j
 ·
  subst e
  rw [zZ]
  exact fun g k h => (yD.1 h).2 rfl
 ·
  rw [zH e]
  exact zIA hj (hm s) e (fun b l hb hl => ⟨l, by rw [zH (by omega), hl]⟩) (I.slots s)
end
end Go.Proofs.Ytjomnccladjpgaa

/-
 Steps that only turn what is told: a local object becomes the heap's, becomes data, is forgotten. The rules of local objects.
-/
namespace Go.Proofs.Ytjomnccladjpgaa
open Go Go.RowKit
set_option linter.unusedVariables false
section
variable {w0 : World} {m0 : Mem} {o0 : OwnM} {G : GD} {pins : List Nat} {S M : Nat → A} {a : Act} {w : World} {m : Mem} {o : OwnM} {P : Program} {N : Nat}
theorem Inv.less (I : Inv w0 m0 o0 G pins S a w m o) {S' : Nat → A} (h : ∀ s, S' s = S s ∨ (S' s = .any ∧ (S s).isBox = false)) : Inv w0 m0 o0 G pins S' a w m o := by
 refine ⟨I.same, I.sat, I.mono, I.old, I.own, I.lt, I.inj, I.pinned, fun s => ?_, I.defers, I.tbl, I.wide, I.shps⟩
 rcases h s with e | ⟨e, _⟩
 ·
  rw [e]
  refine (I.slots s).turn fun b l hb => ?_
  rcases h b with e2 | ⟨_, e2⟩
  · exact ⟨l, by rw [e2, hb]⟩
  · rw [hb] at e2; cases e2
 · rw [e]; trivial
theorem Inv.frz (I : Inv w0 m0 o0 G pins S a w m o) {j d E k : Nat} {l : List T} {rs : List (List D)} (hj : j < OB) (hd : d < OB) (hp : OB + j ∉ pins) (hpd : d ∉ pins) (hS : S d = .t (.view j 0 E k rs.length)) (hb : S (OB + j) = .box l) (hm : ∀ s, s ≠ d → s ≠ OB + j → zDH j (S s) = false) (hk : 0 < k) (hrk : ∀ r ∈ rs, r.length = k) (hl : l = (rs.flatMap id).map .d) :
  ∃ m' o', Inv w0 m0 o0 G pins (upd (upd S (OB + j) .free) d (.t (.d (.seq k rs)))) a w m' o' := by
 have hs := I.slots (OB + j)
 rw [hb] at hs
 obtain ⟨g, _, h1, h2, cs, E', h3, h4, h5⟩ := hs
 have hsd := I.slots d
 rw [hS] at hsd
 obtain ⟨A', c, q2, q3, q5, q4⟩ := hsd
 have hlen : l.length = rs.length * k := by
  subst hl
  rw [List.length_map]
  exact zDR hrk
 have hcell : ∀ (i : Nat) (r : List D) (q : Nat) (e : D), rs[i]? = some r → r[q]? = some e → ∃ u, cs[i * k + q]? = some u ∧ RepD m e u := by
  intro i r q e hi hq
  have hrl := hrk r (List.mem_of_getElem? hi)
  have hqk : q < k := by rw [← hrl]; exact (List.getElem?_eq_some_iff.1 hq).1
  have : l[i * k + q]? = some (.d e) := by
   subst hl
   rw [List.getElem?_map, zCP hrk hi hqk, hq]
   rfl
  obtain ⟨_, u, k1, k2⟩ := h5 _ _ this
  exact ⟨u, k1, k2⟩
 let m' : Mem := newM m g fun p => cs[p]?
 have hmle : Mle m m' := by
  intro b p u hu
  show newM m g (fun p => cs[p]?) b p = some u
  unfold newM
  rw [if_neg]
  · exact hu
  · intro e; subst e; rw [h2] at hu; cases hu
 have hk' : ∀ g1 l1, zGu o j g1 = some l1 → g1 ≠ g ∧ o g1 = some l1 := by
  intro g1 l1 h
  obtain ⟨a1, a2⟩ := yD.1 h
  exact ⟨fun e => by subst e; rw [h1] at a1; injection a1 with a1; exact a2 (by rw [← a1]), a1⟩
 refine ⟨m', zGu o j, ⟨I.same, fun b p u h => ?_, I.mono.trans hmle, fun b hb' hg => ?_, fun g l h => I.own g l (yD.1 h).1, fun g l h => I.lt g l (yD.1 h).1, fun g g' l h h' => I.inj g g' l (yD.1 h).1 (yD.1 h').1, fun s hs g hg => yD.2 ⟨I.pinned s hs g hg, fun e => hs.elim (fun hs => hp (by rw [← e]; exact hs)) fun _ => ((I.shps g j (by have e : s = OB + j := e; rw [← e]; exact hg)).1).elim hp fun h => by unfold OB OB2 at *; omega⟩, fun s => ?_, I.defers, I.tbl, I.wide, I.shps⟩⟩
 ·
  change newM m g (fun p => cs[p]?) b p = some u at h
  unfold newM at h
  split at h
  ·
   rename_i e
   subst e
   rw [cell_of_row w b p cs E' _ h3]
   exact h
  · exact I.sat b p u h
 ·
  rw [← I.old b hb' hg]
  funext p
  show newM m g (fun p => cs[p]?) b p = _
  unfold newM
  rw [if_neg]
  intro e
  subst e
  rcases I.own b _ h1 with h | h
  · exact hg h
  · omega
 ·
  by_cases e : s = d
  ·
   subst e
   rw [zZ, q5]
   refine .seq k rs _ c g 0 (fun i q => (cs[i * k + q]?).getD undef) q2 q3 (fun hne => ?_) (fun i r hi => hrk r (List.mem_of_getElem? hi)) (fun i r q e hi hq => ?_) (fun i r q e hi hq => ?_)
   ·
    obtain ⟨g', _, _, q1, q6, _⟩ := q4.resolve_left fun h => by have := List.length_pos_iff.2 hne; omega
    have := I.inj _ _ _ h1 q1
    subst this
    exact q6
   ·
    obtain ⟨u, k1, _⟩ := hcell i r q e hi hq
    show newM m g (fun p => cs[p]?) g (0 + i * k + q) = _
    rw [zCt, Nat.zero_add, k1]
    rfl
   ·
    obtain ⟨u, k1, k2⟩ := hcell i r q e hi hq
    rw [k1]
    exact k2.mono hmle
  ·
   rw [zH e]
   by_cases e2 : s = OB + j
   ·
    subst e2
    rw [zZ]
    exact fun g k h => (yD.1 h).2 rfl
   ·
    rw [zH e2]
    have h := zIA hj (S' := upd (upd S (OB + j) .free) d (.t (.d (.seq k rs)))) (hm s e e2) e2 (fun b l hb hl => ⟨l, by
     rw [zH (fun e3 => by subst e3; rw [hS] at hl; cases hl), zH (by omega), hl]⟩) (I.slots s)
    have K : Keep (fun _ => False) m w (zGu o j) m' w (zGu o j) := ⟨hmle, fun g1 l1 h _ => by
     funext p
     show newM m g (fun p => cs[p]?) g1 p = _
     unfold newM
     rw [if_neg (hk' g1 l1 h).1], fun _ _ _ _ => rfl, fun _ _ h _ => h, fun _ _ h => h, fun g _ k _ h => ⟨g, k, h⟩, fun g _ _ => .of_eq rfl⟩
    exact RepA.keep K (fun _ => id) (fun b off _ _ => ⟨id, id⟩) h
end
def zDk (j d : Nat) : SL → SL
 | [] => []
 | (s, x) :: r => (s, bif Nat.blt s OB && (zDH j x && !Nat.beq s d) then .any else x) :: zDk j d r
theorem zD7 (j d : Nat) : ∀ (L : SL) (t : Nat), gt (zDk j d L) t = bif Nat.blt t OB && (zDH j (gt L t) && !Nat.beq t d) then .any else gt L t
 | [], t => by show A.any = bif _ && (zDH j .any && _) then .any else .any; cases (Nat.blt t OB && (zDH j .any && !Nat.beq t d)) <;> rfl
 | (s, x) :: r, t => by
  show gt ((s, _) :: zDk j d r) t = _
  rw [qH, qH]
  unfold upd
  by_cases h : t = s
  · subst h; rw [if_pos rfl, if_pos rfl]
  · rw [if_neg h, if_neg h, zD7 j d r t]
theorem zCp {j d : Nat} (L : SL) {t : Nat} (h : OB ≤ t) : gt (zDk j d L) t = gt L t := by
  rw [zD7]
  have : Nat.blt t OB = false := by
    cases e : Nat.blt t OB with
    | false => rfl
    | true => have : t < OB := by simpa using e
              omega
  rw [this]
  rfl
def zHE (j d : Nat) : SL → Bool
 | [] => true
 | (s, x) :: r => (!Nat.blt s OB || (!x.isBox || !(zDH j x && !Nat.beq s d))) && zHE j d r
theorem zGs {j d : Nat} : ∀ {L : SL}, zHE j d L = true → ∀ t, (Nat.blt t OB && (zDH j (gt L t) && !Nat.beq t d)) = true → (gt L t).isBox = false
 | [], _, t, h => by rfl
 | (s, x) :: r, h, t, hm => by
  unfold zHE at h
  rw [Bool.and_eq_true] at h
  rw [qH] at hm ⊢
  unfold upd at hm ⊢
  by_cases e : t = s
  ·
   subst e
   rw [if_pos rfl] at hm ⊢
   have h1 := h.1
   rw [Bool.and_eq_true] at hm
   rw [hm.1, hm.2] at h1
   simpa using h1
  ·
   rw [if_neg e] at hm ⊢
   exact zGs h.2 t hm
theorem hx_less {L L' : SL} (hl : Low (gt L)) (hk : gt L' HK = gt L HK) (h : ∀ s, gt L' s = gt L s ∨ (gt L' s = .any ∧ (gt L s).isBox = false)) : Low (gt L') ∧ ∀ s, hx (gt L') s = hx (gt L) s ∨ (hx (gt L') s = .any ∧ (hx (gt L) s).isBox = false) := by
 have hl' : Low (gt L') := fun t ht => by
  rcases h t with e | ⟨e, _⟩
  · rw [e, hl t ht]
  · exact e
 refine ⟨hl', fun s => ?_⟩
 rcases Nat.lt_or_ge s OB2 with h2 | h2
 · rw [zDZ h2, zDZ h2]; exact h s
 ·
  refine .inl ?_
  unfold hx
  rw [hl s h2, hl' s h2]
  simp only
  rw [hk]
section
variable {P : Program} {pins : List Nat} {N : Nat} {Q : Exit → SL → Prop} {L : SL}
def ObP (L : SL) : Prop := ∀ t, OB ≤ t → ∀ j, zDH j (gt L t) = false
theorem ObP.nil : ObP [] := fun _ _ _ => rfl
theorem ObP.cons {s : Nat} {x : A} {L : SL} (h : Nat.blt s OB = true ∨ ∀ j, zDH j x = false) (hr : ObP L) : ObP ((s, x) :: L) := fun t ht j => by
 rw [qH]
 unfold upd
 by_cases e : t = s
 ·
  rw [if_pos e]
  subst e
  rcases h with h | h
  ·
   have : t < OB := by simpa using h
   omega
  · exact h j
 · rw [if_neg e]; exact hr t ht j
theorem qW {l : List T} (h : noPt l = true) (j : Nat) : zDH j (.box l) = false := by
 show l.any (zEQ j) = false
 cases hb : l.any (zEQ j) with
 | false => rfl
 | true =>
  obtain ⟨x, h1, h2⟩ := List.any_eq_true.1 hb
  unfold noPt at h
  have h3 := List.all_eq_true.1 h x h1
  cases x <;> first | (cases h2; done) | (cases h3; done)
def zF3 (L : SL) : Prop := (gt L HK = .any ∨ ∃ f, gt L HK = .hp f ∧ zDa f) ∧ ObP L
theorem ObP.fgt {L : SL} {j d : Nat} (h : ObP L) : ObP ((OB + j, .free) :: zDk j d L) := .cons (.inr fun _ => rfl) fun t ht i => by
 rw [zCp L ht]
 exact h t ht i
theorem zHv {S : Nat → A} (hlo : Low S) (hh : S HK = .any ∨ ∃ f, S HK = .hp f ∧ zDa f) {j : Nat} (k : Nat) : zDH j (hx S (OB2 + k)) = false := by
 rcases hh with e | ⟨f, e, hp⟩
 ·
  unfold hx
  rw [hlo _ (Nat.le_add_right _ _), e]
  simp only
  split <;> rfl
 ·
  rw [zAZ, zEc hlo e]
  rcases zDY (f k) with ⟨l, hl⟩ | hl | hl | ⟨l, hl⟩ | ⟨b, u, mE, oE, hl⟩
  ·
   rw [hl]
   have := zHe hp k l hl
   cases hb : l.any (zEQ j) with
   | false => exact hb
   | true =>
    obtain ⟨x, h1, h2⟩ := List.any_eq_true.1 hb
    have h3 := this x h1
    cases x <;> first | (cases h2; done) | (cases h3; done) | (exfalso; simp only [zEQ, Bool.and_eq_true] at h2; have h3 : Nat.blt _ OB = false := h3; rw [h2.1] at h3; cases h3)
  · rw [hl]; rfl
  · rw [hl]; rfl
  · rw [hl]; rfl
  · rw [hl]; rfl
theorem zJs {c : Code} {L' : SL} (d j : Nat) {E k n : Nat} {l : List T} {rs : List (List D)} (hd : gt L d = .t (.view j 0 E k n)) (hb : gt L (OB + j) = .box l) (hn : n = rs.length) (hl : l = (rs.flatMap id).map .d) (hrk : ∀ r ∈ rs, r.length = k)
  (hc : (Nat.blt d OB && Nat.blt (j + 1) OB && !pins.contains (OB + j) && !pins.contains d && Nat.blt 0 k && zHE j d L) = true) (hh : zF3 L) (hL : (d, .t (.d (.seq k rs))) :: (OB + j, .free) :: zDk j d L = L') (h : qI P pins N c Q L') : qI P pins N c Q L := by
 subst hL hn
 simp only [Bool.and_eq_true, Bool.not_eq_true', List.contains_eq_mem, decide_eq_false_iff_not] at hc
 obtain ⟨⟨⟨⟨⟨c1, c2⟩, c3⟩, c4⟩, c5⟩, c6⟩ := hc
 have c1 : d < OB := by simpa using c1
 have c2 : j + 1 < OB := by simpa using c2
 have c5 : 0 < k := by simpa using c5
 intro Fe ne hF w0 m0 o0 G a w hS
 obtain ⟨hN, hlo, m, o, I⟩ := hS
 have hjd : OB + j ≠ d := by omega
 have hL2 : ∀ s, gt (zDk j d L) s = gt L s ∨ (gt (zDk j d L) s = .any ∧ (gt L s).isBox = false) := fun s => by
  rw [zD7]
  cases hm : (Nat.blt s OB && (zDH j (gt L s) && !Nat.beq s d)) with
  | true => exact .inr ⟨rfl, zGs c6 s hm⟩
  | false => exact .inl rfl
 have hk2 : gt (zDk j d L) HK = gt L HK := zCp L (by unfold HK OB; omega)
 obtain ⟨hlo2, hx2⟩ := hx_less hlo hk2 hL2
 have I2 := I.less hx2
 have hdd : gt (zDk j d L) d = .t (.view j 0 E k rs.length) := by
  rw [zD7, hd]
  simp
 have hbb : gt (zDk j d L) (OB + j) = .box l := by
  rcases hL2 (OB + j) with e | ⟨_, e⟩
  · rw [e, hb]
  · rw [hb] at e; cases e
 have hm : ∀ s, s ≠ d → s ≠ OB + j → zDH j (hx (gt (zDk j d L)) s) = false := fun s h1 h2 => by
  rcases Nat.lt_or_ge s OB2 with h3 | h3
  ·
   rw [zDZ h3]
   rcases Nat.lt_or_ge s OB with h4 | h4
   ·
    rw [zD7]
    have hsd : Nat.beq s d = false := by
     cases hb : Nat.beq s d with
     | false => rfl
     | true => exact absurd (Nat.eq_of_beq_eq_true hb) h1
    have hso : Nat.blt s OB = true := by simpa using h4
    rw [hsd, hso]
    cases hm : zDH j (gt L s) with
    | true => rfl
    | false => exact hm
   · rw [zCp L h4]; exact hh.2 s h4 j
  ·
   obtain ⟨k, rfl⟩ : ∃ k, s = OB2 + k := ⟨s - OB2, by omega⟩
   exact zHv hlo2 (by rw [hk2]; exact hh.1) k
 obtain ⟨m', o', J⟩ := I2.frz (j := j) (d := d) (E := E) (k := k) (l := l) (rs := rs) (by omega) c1 c3 c4 (zBq hdd (by simp)) (zBq hbb (by simp)) hm c5 hrk hl
 have e1 : OB + j < OB2 := by unfold OB OB2 at *; omega
 have e2 : OB + j ≠ HK := by unfold HK; unfold OB at *; omega
 refine h Fe ne hF w0 m0 o0 G a w ⟨hN, ?_, m', o', ?_⟩
 ·
  rw [qH, qH]
  exact (hlo2.upd e1).upd (lt2 c1)
 ·
  rw [qH, qH, zBt (lt2 c1) (by unfold HK; unfold OB at c1; omega), zBt e1 e2]
  exact J
end
end Go.Proofs.Ytjomnccladjpgaa

/-
 The rules of objects, as a walk uses them.
-/
namespace Go.Proofs.Ytjomnccladjpgaa
open Go Go.RowKit
set_option linter.unusedVariables false
def renL (j c : Nat) : SL → SL
 | [] => []
 | (s, x) :: r => (s, rnA j c x) :: renL j c r
theorem zGq (j c : Nat) : ∀ (L : SL) (t : Nat), gt (renL j c L) t = rnA j c (gt L t)
 | [], t => rfl
 | (s, x) :: r, t => by
  show gt ((s, _) :: renL j c r) t = _
  rw [qH, qH]
  unfold upd
  by_cases h : t = s
  · subst h; rw [if_pos rfl, if_pos rfl]
  · rw [if_neg h, if_neg h, zGq j c r t]
theorem san_rn (j c : Nat) (x : A) : san (rnA j c x) = rnA j c (san x) := by
 cases x with
 | ref b off => show san (bif Nat.beq b (OB + j) then A.t (.hpt c off) else .ref b off) = .any; cases Nat.beq b (OB + j) <;> rfl
 | _ => rfl
section
variable {P : Program} {pins : List Nat} {N : Nat} {S M : Nat → A} {op : Oper} {e : Eff} {d c : Nat} {f f' : Nat → A} {L : SL}
theorem OpH.pub {L1 : SL} {f1 f2 : Nat → A} {j : Nat} {la : List T} (h : OpH P pins N op S (gt L1)) (hk : gt L1 HK = .hp f1) (hb : gt L1 (OB + j) = .box la) (hc : (Nat.blt (j + 1) OB && !pins.contains (OB + j)) = true) (c6 : noPt la = true) (hfree : f1 c = .free) (hf2 : ∀ k, f2 k = if k = c then .box la else rnA j c (f1 k)) :
  OpH P pins N op S (gt ((HK, .hp f2) :: (OB + j, .free) :: renL j c L1)) := by
 simp only [Bool.and_eq_true, Bool.not_eq_true', List.contains_eq_mem, decide_eq_false_iff_not] at hc
 obtain ⟨c2, c3⟩ := hc
 have c2 : j + 1 < OB := by simpa using c2
 have e1 : OB + j < OB2 := by unfold OB OB2 at *; omega
 have e2 : OB + j ≠ HK := by unfold HK; unfold OB at *; omega
 intro hN hl
 obtain ⟨h, hl1⟩ := h hN hl
 have hlr : Low (gt (renL j c L1)) := fun t ht => by rw [zGq, hl1 t ht]; rfl
 have hl2 : Low (gt ((HK, .hp f2) :: (OB + j, .free) :: renL j c L1)) := by
  rw [qH, qH]
  exact (hlr.upd e1).upd zFm
 refine ⟨?_, hl2⟩
 have he : hx (gt ((HK, .hp f2) :: (OB + j, .free) :: renL j c L1)) = upd (fun t => if t = OB + j then .free else if t = OB + (OB + c) then .box la else rnA j c (hx (gt L1) t)) HK (.hp f2) := by
  have hkk : gt ((HK, .hp f2) :: (OB + j, .free) :: renL j c L1) HK = .hp f2 := by rw [qH, zZ]
  funext t
  by_cases e : t = HK
  ·
   subst e
   rw [zZ]
   exact zBq hkk (by simp)
  ·
   rw [zH e]
   rcases Nat.lt_or_ge t OB2 with h2 | h2
   ·
    rw [zDZ h2, qH, zH e, qH]
    unfold upd
    by_cases e3 : t = OB + j
    · rw [if_pos e3, if_pos e3]
    · rw [if_neg e3, if_neg e3, if_neg (by unfold OB OB2 at *; omega), zGq, zDZ h2]
   ·
    obtain ⟨k, rfl⟩ : ∃ k, t = OB2 + k := ⟨t - OB2, by omega⟩
    rw [if_neg (by unfold OB OB2 at *; omega), zAZ, zEc hl2 hkk, hf2]
    by_cases e3 : k = c
    · subst e3; rw [if_pos rfl, if_pos rfl]; rfl
    · rw [if_neg e3, if_neg (by omega), zEc hl1 hk, san_rn]
 rw [he]
 intro w0 m0 o0 G a w m o hNa I K Q hK
 refine h w0 m0 o0 G a w m o hNa I K Q fun a' w' m' o' hN' I' => ?_
 obtain ⟨o2, J⟩ := I'.pub (j := j) (c := c) (la := la) (by omega) c3 (by rw [zEc hl1 hk, hfree]; rfl) (zBq hb (by simp)) (zHh c6) (S' := fun t => if t = OB + j then .free else if t = OB + (OB + c) then .box la else rnA j c (hx (gt L1) t)) (if_pos rfl) (by
  show (if OB + (OB + c) = OB + j then _ else _) = _
  rw [if_neg (by omega), if_pos rfl]) (fun t h1 h2 => by
  show (if t = OB + j then _ else _) = _
  rw [if_neg h1, if_neg h2])
 refine hK a' w' m' o2 hN' (J.hk (f := f1) ?_ f2)
 show (if HK = OB + j then _ else if HK = OB + (OB + c) then _ else rnA j c (hx (gt L1) HK)) = _
 rw [if_neg (Ne.symm e2), if_neg (by unfold HK OB; omega), zBq hk (by simp)]
 rfl
theorem zKI {j : Nat} (h : Nat.blt (j + 1) OB = true) : OB + j < OB2 ∧ OB + j ≠ HK ∧ j < OB := by
 have h : j + 1 < OB := by simpa using h
 refine ⟨by unfold OB OB2 at *; omega, by unfold HK; unfold OB at *; omega, by omega⟩
theorem h_mkl (hM : Mk M S) {j t e q E : Nat} {xn xc : Operand} {kl kc : IntKind} {n : Int} {ie : TypeInfo} {z : Value} {c0 l : List T} (hop : op.op = .makeSlice t xn xc) (hn : vO M xn = some (.int kl n)) (hc : vO M xc = some (.int kc n)) (hu : P.underlying t = some (.slice e)) (hie : P.info? e = some ie) (hz : ie.zero = some z)
  (hc0 : zEL (litA z) = some c0) (hsz : c0.length = ie.size) (hE : ie.size = E) (hq : mkI ie.bytes n = some q) (hl : fl (fun _ => c0) (List.replicate q ()) = l) (hd : op.dst = some d) (hok : okD N pins S d = true) (hj : Nat.blt (j + 1) OB = true) (hfree : M (OB + j) = .free) :
  OpH P pins N op S (app S [(OB + j, .box l), (d, .t (.view j 0 e E q))]) := by
 subst hl hE
 intro hN hlo
 obtain ⟨e1, e2, e3⟩ := zKI hj
 have hdO := qN hN hok
 have hfr : hx S (OB + j) = .free := by
  rcases hM (OB + j) with e | e
  · rw [e] at hfree; cases hfree
  · rw [e] at hfree; exact zBq hfree (by simp)
 refine ⟨?_, (hlo.upd e1).upd (lt2 hdO)⟩
 show OpOK P pins N op (hx S) (hx (upd (upd S (OB + j) _) d _))
 rw [zBt (lt2 hdO) (by unfold HK; unfold OB at hdO; omega), zBt e1 e2]
 exact ok_make hM.hx hop hn hc hu hie hz hc0 hsz hq hd (qX hN hok) (by simpa using hdO) hfr
theorem zIH (hM : Mk M S) {j off E k n t e : Nat} {x i : Operand} {ki : IntKind} {z : Int} {ie : TypeInfo} {y : A} (hop : op.op = .indexAddr t x i) (hx : cpO M x = .t (.view j off E k n)) (hi : vO M i = some (.int ki z)) (hu : P.underlying t = some (.slice e)) (hie : P.info? e = some ie) (hz : 0 ≤ z ∧ z < n) (hy : A.ref (OB + j) (off + z.toNat * ie.size) = y) (hd : op.dst = some d) (hok : okD N pins S d = true) : OpH P pins N op S (app S [(d, y)]) := by
 subst hy
 exact .of (e := [(d, _)]) fun hN => ⟨ok_ixv hM.hx hop hx hi hu hie hz hd (qX hN hok), zBU (qN hN hok)⟩
theorem h_llr (hM : Mk M S) {b off t n : Nat} {x : Operand} {l r : List T} {y : List D} (hop : op.op = .load t x) (ht : tyA P t = some (true, n)) (hx : cpO M x = .ref b off) (hb : M b = .box l) (hl : (l.drop off).take n = r) (hr : r.length = n) (hpos : Nat.blt 0 n = true) (hpt : noPt r = true) (hy : r.map toD = y) (hd : op.dst = some d) (hok : okD N pins S d = true) : OpH P pins N op S (app S [(d, .t (.agg y))]) := by
 subst hy
 exact .of (e := [(d, _)]) fun hN => ⟨ok_ldr hM.hx hop ht hx hb hl hr hpos hpt hd (qX hN hok), zBU (qN hN hok)⟩
theorem zKC (hM : Mk M S) {t b off : Nat} {x y : Operand} (hop : op.op = .store t x y) (hd : op.dst = none) {i : TypeInfo} (hi : P.info? t = some i) (hx : cpO M x = .ref b off) {l l' : List T} (hb : M b = .box l) {q : List T} (hc : zCY (cpO M y) = some q) (hsz : q.length = i.size) (hle : off + i.size ≤ l.length) (hl' : qT l off q = l') : OpH P pins N op S (app S [(b, .box l')]) := by
 subst hl'
 refine .of (e := [(b, _)]) fun _ => ⟨zG8 hM.hx hop hd hi hx hb hc hsz hle, fun z hz => ?_⟩
 simp at hz
 subst hz
 exact .inr ⟨zG2 hM hb rfl, rfl⟩
theorem h_lln (hM : Mk M S) {j off E k n t e : Nat} {x : Operand} {y : A} (hop : op.op = .call { callee := .builtin .len, args := #[x], argTypes := #[t] }) (hx : cpO M x = .t (.view j off E k n)) (hu : P.underlying t = some (.slice e)) (hy : A.t (.d (.lit (.int .i64 n))) = y) (hd : op.dst = some d) (hok : okD N pins S d = true) : OpH P pins N op S (app S [(d, y)]) := by
 subst hy
 exact .of (e := [(d, _)]) fun hN => ⟨ok_lnv hM.hx hop hx hu hd (qX hN hok), zBU (qN hN hok)⟩
theorem zFB (hM : Mk M S) {j off E k n t e : Nat} {x : Operand} {lo hi : Option Operand} {l0 h0 : Option Int} {ie : TypeInfo} {off' n' : Nat} (hop : op.op = .slice t x lo hi none) (hx : cpO M x = .t (.view j off E k n)) (hk : ie.size = k) (hlo : bndO M lo = some l0) (hhi : bndO M hi = some h0) (hu : P.underlying t = some (.slice e)) (hie : P.info? e = some ie)
  (hc : 0 ≤ l0.getD 0 ∧ l0.getD 0 ≤ h0.getD n ∧ h0.getD n ≤ n) (ho : off + (l0.getD 0).toNat * ie.size = off') (hn' : (h0.getD n).toNat - (l0.getD 0).toNat = n') (hd : op.dst = some d) (hok : okD N pins S d = true) : OpH P pins N op S (app S [(d, .t (.view j off' E k n'))]) :=
 .of (e := [(d, _)]) fun hN => ⟨ok_slv hM.hx hop hx hk hlo hhi hu hie hc ho hn' hd (qX hN hok), zBU (qN hN hok)⟩
end
section
variable {P : Program} {pins : List Nat} {N : Nat} {l0 : List Oper} {Q : SL → Prop} {r : List Oper} {op : Oper} {L : SL} {acc : List (List Nat × List Nat)} {T : List Nat}
theorem d_h {e : Eff} {ks : List Nat} {L' : SL} (hT : zCM (HK :: zCi l0.toArray (gt L) op) some = some T) (hy : dyes l0 op L T) (hks : keys e = ks) (hk : ks.all T.contains = true)
  (h : ∀ S', Mk (mask T (gt L)) S' → S' HK = gt L HK → (∀ d, T.contains d = true → okD N pins (gt L) d = true → okD N pins S' d = true) → OpH P pins N op S' (app S' e)) (hL : setL L e = L') (k : DOK P pins N l0 Q r ((T, ks) :: acc) L') : DOK P pins N l0 Q (op :: r) acc L := by
 have hT := zEx hT
 subst hL hks
 have h' : ∀ S', (∀ t ∈ T, S' t = gt L t) → OpH P pins N op S' (app S' e) := fun S' hS => h S' (zDo hS) (hS HK (by rw [← hT]; exact .head _)) fun d hd hok => by
  unfold okD at hok ⊢
  rw [hS d (by simpa using hd)]
  exact hok
 refine ⟨T, e, ⟨all_T hk, ?_⟩, k⟩
 rcases hy with hg | ⟨j, want, t, c, h1, h2, h3, h4, h5⟩
 · exact .inl ⟨hg, h'⟩
 · exact .inr (.inl ⟨j, want, t, h1, h2, by simpa using h3, .inl ⟨by rw [h4, h5], h'⟩⟩)
theorem d_hm (X : List Nat) {e : Eff} {ks : List Nat} {L' : SL} (hT : zCM (HK :: (X ++ zCi l0.toArray (gt L) op)) some = some T) (hy : dyes l0 op L T) (hks : keys e = ks) (hk : ks.all T.contains = true)
  (h : ∀ S', Mk (mask T (gt L)) S' → S' HK = gt L HK → (∀ d, T.contains d = true → S' d = gt L d) → (∀ d, T.contains d = true → okD N pins (gt L) d = true → okD N pins S' d = true) → OpH P pins N op S' (app S' e)) (hL : setL L e = L') (k : DOK P pins N l0 Q r ((T, ks) :: acc) L') : DOK P pins N l0 Q (op :: r) acc L := by
 have hT := zEx hT
 subst hL hks
 have h' : ∀ S', (∀ t ∈ T, S' t = gt L t) → OpH P pins N op S' (app S' e) := fun S' hS => h S' (zDo hS) (hS HK (by rw [← hT]; exact .head _)) (fun d hd => hS d (by simpa using hd)) fun d hd hok => by
  unfold okD at hok ⊢
  rw [hS d (by simpa using hd)]
  exact hok
 refine ⟨T, e, ⟨all_T hk, ?_⟩, k⟩
 rcases hy with hg | ⟨j, want, t, c, h1, h2, h3, h4, h5⟩
 · exact .inl ⟨hg, h'⟩
 · exact .inr (.inl ⟨j, want, t, h1, h2, by simpa using h3, .inl ⟨by rw [h4, h5], h'⟩⟩)theorem cons_eq {α : Type} {a b : α} {l l' : List α} (h : a = b) (k : l = l') : a :: l = b :: l' := by rw [h, k]
end
end Go.Proofs.Ytjomnccladjpgaa
