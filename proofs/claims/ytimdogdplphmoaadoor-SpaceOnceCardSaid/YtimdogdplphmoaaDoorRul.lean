/-
  The rules of objects, as a walk uses them.
-/
import Derived.Test.YtimdogdplphmoaaDoorGho
namespace Go.Proofs.YtimdogdplphmoaaDoor
open Go Go.RowKit
set_option linter.unusedVariables false

/-! ### A local object becomes the heap's, behind an operation -/
def renL (j c : Nat) : SL → SL
  | [] => []
  | (s, x) :: r => (s, rnA j c x) :: renL j c r
theorem gt_renL (j c : Nat) : ∀ (L : SL) (t : Nat), gt (renL j c L) t = rnA j c (gt L t)
  | [], t => rfl
  | (s, x) :: r, t => by
    show gt ((s, _) :: renL j c r) t = _
    rw [gt_cons, gt_cons]
    unfold upd
    by_cases h : t = s
    · subst h; rw [if_pos rfl, if_pos rfl]
    · rw [if_neg h, if_neg h, gt_renL j c r t]
theorem san_rn (j c : Nat) (x : A) : san (rnA j c x) = rnA j c (san x) := by
  cases x with
  | ref b off => show san (bif Nat.beq b (OB + j) then A.t (.hpt c off) else .ref b off) = .any; cases Nat.beq b (OB + j) <;> rfl
  | _ => rfl
section
variable {P : Program} {pins : List Nat} {N : Nat} {S M : Nat → A} {op : Oper} {e : Eff} {d c : Nat} {f f' : Nat → A} {L : SL}
theorem OpH.pub {L1 : SL} {f1 f2 : Nat → A} {j : Nat} {la : List T} (h : OpH P pins N op S (gt L1)) (hk : gt L1 HK = .hp f1) (hb : gt L1 (OB + j) = .box la) (hc : (Nat.blt (j + 1) OB && !pins.contains (OB + j)) = true) (c6 : noPt la = true) (hfree : f1 c = .free) (hf2 : ∀ k, f2 k = if k = c then .box la else rnA j c (f1 k)) :
    OpH P pins N op S (gt ((HK, .hp f2) :: (OB + j, .free) :: renL j c L1)) := by
  simp only [Bool.and_eq_true, Bool.not_eq_true', List.contains_eq_mem, decide_eq_false_iff_not] at hc
  obtain ⟨c2, c3⟩ := hc
  have c2 : j + 1 < OB := by simpa using c2
  have e1 : OB + j < OB2 := by unfold OB OB2 at *; omega
  have e2 : OB + j ≠ HK := by unfold HK; unfold OB at *; omega
  intro hN hl
  obtain ⟨h, hl1⟩ := h hN hl
  have hlr : Low (gt (renL j c L1)) := fun t ht => by rw [gt_renL, hl1 t ht]; rfl
  have hl2 : Low (gt ((HK, .hp f2) :: (OB + j, .free) :: renL j c L1)) := by
    rw [gt_cons, gt_cons]
    exact (hlr.upd e1).upd hk_lt
  refine ⟨?_, hl2⟩
  have he : hx (gt ((HK, .hp f2) :: (OB + j, .free) :: renL j c L1)) = upd (fun t => if t = OB + j then .free else if t = OB + (OB + c) then .box la else rnA j c (hx (gt L1) t)) HK (.hp f2) := by
    have hkk : gt ((HK, .hp f2) :: (OB + j, .free) :: renL j c L1) HK = .hp f2 := by rw [gt_cons, upd_same]
    funext t
    by_cases e : t = HK
    · subst e
      rw [upd_same]
      exact hx_of hkk (by simp)
    · rw [upd_other e]
      rcases Nat.lt_or_ge t OB2 with h2 | h2
      · rw [hx_lo h2, gt_cons, upd_other e, gt_cons]
        unfold upd
        by_cases e3 : t = OB + j
        · rw [if_pos e3, if_pos e3]
        · rw [if_neg e3, if_neg e3, if_neg (by unfold OB OB2 at *; omega), gt_renL, hx_lo h2]
      · obtain ⟨k, rfl⟩ : ∃ k, t = OB2 + k := ⟨t - OB2, by omega⟩
        rw [if_neg (by unfold OB OB2 at *; omega), ob2_eq, hx_hp hl2 hkk, hf2]
        by_cases e3 : k = c
        · subst e3; rw [if_pos rfl, if_pos rfl]; rfl
        · rw [if_neg e3, if_neg (by omega), hx_hp hl1 hk, san_rn]
  rw [he]
  intro w0 m0 o0 G a w m o hNa I K Q hK
  refine h w0 m0 o0 G a w m o hNa I K Q fun a' w' m' o' hN' I' => ?_
  obtain ⟨o2, J⟩ := I'.pub (j := j) (c := c) (la := la) (by omega) c3 (by rw [hx_hp hl1 hk, hfree]; rfl) (hx_of hb (by simp)) c6 (S' := fun t => if t = OB + j then .free else if t = OB + (OB + c) then .box la else rnA j c (hx (gt L1) t)) (if_pos rfl) (by
    show (if OB + (OB + c) = OB + j then _ else _) = _
    rw [if_neg (by omega), if_pos rfl]) (fun t h1 h2 => by
    show (if t = OB + j then _ else _) = _
    rw [if_neg h1, if_neg h2])
  refine hK a' w' m' o2 hN' (J.hk (f := f1) ?_ f2)
  show (if HK = OB + j then _ else if HK = OB + (OB + c) then _ else rnA j c (hx (gt L1) HK)) = _
  rw [if_neg (Ne.symm e2), if_neg (by unfold HK OB; omega), hx_of hk (by simp)]
  rfl

/-! ### Local objects -/
theorem lo_of {j : Nat} (h : Nat.blt (j + 1) OB = true) : OB + j < OB2 ∧ OB + j ≠ HK ∧ j < OB := by
  have h : j + 1 < OB := by simpa using h
  refine ⟨by unfold OB OB2 at *; omega, by unfold HK; unfold OB at *; omega, by omega⟩
theorem h_mkl (hM : Mk M S) {j t e q E : Nat} {xn xc : Operand} {kl kc : IntKind} {n : Int} {ie : TypeInfo} {z : Value} {c0 l : List T} (hop : op.op = .makeSlice t xn xc) (hn : vO M xn = some (.int kl n)) (hc : vO M xc = some (.int kc n)) (hu : P.underlying t = some (.slice e)) (hie : P.info? e = some ie) (hz : ie.zero = some z)
    (hc0 : cellsT (litA z) = some c0) (hsz : c0.length = ie.size) (hE : ie.size = E) (hq : mkI ie.bytes n = some q) (hl : fl (fun _ => c0) (List.replicate q ()) = l) (hd : op.dst = some d) (hok : okD N pins S d = true) (hj : Nat.blt (j + 1) OB = true) (hfree : M (OB + j) = .free) :
    OpH P pins N op S (app S [(OB + j, .box l), (d, .t (.view j 0 e E q))]) := by
  subst hl hE
  intro hN hlo
  obtain ⟨e1, e2, e3⟩ := lo_of hj
  have hdO := okD_lo hN hok
  have hfr : hx S (OB + j) = .free := by
    rcases hM (OB + j) with e | e
    · rw [e] at hfree; cases hfree
    · rw [e] at hfree; exact hx_of hfree (by simp)
  refine ⟨?_, (hlo.upd e1).upd (lt2 hdO)⟩
  show OpOK P pins N op (hx S) (hx (upd (upd S (OB + j) _) d _))
  rw [hx_updL (lt2 hdO) (by unfold HK; unfold OB at hdO; omega), hx_updL e1 e2]
  exact ok_make hM.hx hop hn hc hu hie hz hc0 hsz hq hd (okD_hx hN hok) (by simpa using hdO) hfr
theorem h_lix (hM : Mk M S) {j off E k n t e : Nat} {x i : Operand} {ki : IntKind} {z : Int} {ie : TypeInfo} {y : A} (hop : op.op = .indexAddr t x i) (hx : cpO M x = .t (.view j off E k n)) (hi : vO M i = some (.int ki z)) (hu : P.underlying t = some (.slice e)) (hie : P.info? e = some ie) (hz : 0 ≤ z ∧ z < n) (hy : A.ref (OB + j) (off + z.toNat * ie.size) = y) (hd : op.dst = some d) (hok : okD N pins S d = true) : OpH P pins N op S (app S [(d, y)]) := by
  subst hy
  exact .of (e := [(d, _)]) fun hN => ⟨ok_ixv hM.hx hop hx hi hu hie hz hd (okD_hx hN hok), eff_1 (okD_lo hN hok)⟩
theorem h_lld (hM : Mk M S) {b off t n : Nat} {x : Operand} {l : List T} {z : T} {y : A} (hop : op.op = .load t x) (ht : tyA P t = some (false, n)) (hx : cpO M x = .ref b off) (hb : M b = .box l) (hl : l[off]? = some z) (hy : norA z = y) (hd : op.dst = some d) (hok : okD N pins S d = true) : OpH P pins N op S (app S [(d, y)]) := by
  subst hy
  exact .of (e := [(d, _)]) fun hN => ⟨ok_ldx hM.hx hop ht hx hb hl hd (okD_hx hN hok), eff_1 (okD_lo hN hok)⟩
theorem h_llr (hM : Mk M S) {b off t n : Nat} {x : Operand} {l r : List T} {y : List D} (hop : op.op = .load t x) (ht : tyA P t = some (true, n)) (hx : cpO M x = .ref b off) (hb : M b = .box l) (hl : (l.drop off).take n = r) (hr : r.length = n) (hpos : Nat.blt 0 n = true) (hpt : noPt r = true) (hy : r.map toD = y) (hd : op.dst = some d) (hok : okD N pins S d = true) : OpH P pins N op S (app S [(d, .t (.agg y))]) := by
  subst hy
  exact .of (e := [(d, _)]) fun hN => ⟨ok_ldr hM.hx hop ht hx hb hl hr hpos hpt hd (okD_hx hN hok), eff_1 (okD_lo hN hok)⟩
theorem h_lst (hM : Mk M S) {t b off : Nat} {x y : Operand} (hop : op.op = .store t x y) (hd : op.dst = none) {i : TypeInfo} (hi : P.info? t = some i) (hx : cpO M x = .ref b off) {l l' : List T} (hb : M b = .box l) {q : List T} (hc : cellsP (cpO M y) = some q) (hsz : q.length = i.size) (hle : off + i.size ≤ l.length) (hl' : splice l off q = l') : OpH P pins N op S (app S [(b, .box l')]) := by
  subst hl'
  refine .of (e := [(b, _)]) fun _ => ⟨ok_store_d hM.hx hop hd hi hx hb hc hsz hle, fun z hz => ?_⟩
  simp at hz
  subst hz
  exact .inr ⟨stb_of hM hb rfl, rfl⟩
theorem h_lln (hM : Mk M S) {j off E k n t e : Nat} {x : Operand} {y : A} (hop : op.op = .call { callee := .builtin .len, args := #[x], argTypes := #[t] }) (hx : cpO M x = .t (.view j off E k n)) (hu : P.underlying t = some (.slice e)) (hy : A.t (.d (.lit (.int .i64 n))) = y) (hd : op.dst = some d) (hok : okD N pins S d = true) : OpH P pins N op S (app S [(d, y)]) := by
  subst hy
  exact .of (e := [(d, _)]) fun hN => ⟨ok_lnv hM.hx hop hx hu hd (okD_hx hN hok), eff_1 (okD_lo hN hok)⟩
theorem h_lsl (hM : Mk M S) {j off E k n t e : Nat} {x : Operand} {lo hi : Option Operand} {l0 h0 : Option Int} {ie : TypeInfo} {off' n' : Nat} (hop : op.op = .slice t x lo hi none) (hx : cpO M x = .t (.view j off E k n)) (hk : ie.size = k) (hlo : bndO M lo = some l0) (hhi : bndO M hi = some h0) (hu : P.underlying t = some (.slice e)) (hie : P.info? e = some ie)
    (hc : 0 ≤ l0.getD 0 ∧ l0.getD 0 ≤ h0.getD n ∧ h0.getD n ≤ n) (ho : off + (l0.getD 0).toNat * ie.size = off') (hn' : (h0.getD n).toNat - (l0.getD 0).toNat = n') (hd : op.dst = some d) (hok : okD N pins S d = true) : OpH P pins N op S (app S [(d, .t (.view j off' E k n'))]) :=
  .of (e := [(d, _)]) fun hN => ⟨ok_slv hM.hx hop hx hk hlo hhi hu hie hc ho hn' hd (okD_hx hN hok), eff_1 (okD_lo hN hok)⟩
end

/-! ### In a region that draws its order -/
section
variable {P : Program} {pins : List Nat} {N : Nat} {l0 : List Oper} {Q : SL → Prop} {r : List Oper} {op : Oper} {L : SL} {acc : List (List Nat × List Nat)} {T : List Nat}
theorem d_h {e : Eff} {ks : List Nat} {L' : SL} (hT : frcNs (HK :: touch l0.toArray (gt L) op) some = some T) (hy : dyes l0 op L T) (hks : keys e = ks) (hk : ks.all T.contains = true)
    (h : ∀ S', Mk (mask T (gt L)) S' → S' HK = gt L HK → (∀ d, T.contains d = true → okD N pins (gt L) d = true → okD N pins S' d = true) → OpH P pins N op S' (app S' e)) (hL : setL L e = L') (k : DOK P pins N l0 Q r ((T, ks) :: acc) L') : DOK P pins N l0 Q (op :: r) acc L := by
  have hT := touch_of hT
  subst hL hks
  have h' : ∀ S', (∀ t ∈ T, S' t = gt L t) → OpH P pins N op S' (app S' e) := fun S' hS => h S' (mask_Mk hS) (hS HK (by rw [← hT]; exact .head _)) fun d hd hok => by
    unfold okD at hok ⊢
    rw [hS d (by simpa using hd)]
    exact hok
  refine ⟨T, e, ⟨all_T hk, ?_⟩, k⟩
  rcases hy with hg | ⟨j, want, t, c, h1, h2, h3, h4, h5⟩
  · exact .inl ⟨hg, h'⟩
  · exact .inr ⟨j, want, t, h1, h2, by simpa using h3, .inl ⟨by rw [h4, h5], h'⟩⟩
theorem d_hm (X : List Nat) {e : Eff} {ks : List Nat} {L' : SL} (hT : frcNs (HK :: (X ++ touch l0.toArray (gt L) op)) some = some T) (hy : dyes l0 op L T) (hks : keys e = ks) (hk : ks.all T.contains = true)
    (h : ∀ S', Mk (mask T (gt L)) S' → S' HK = gt L HK → (∀ d, T.contains d = true → S' d = gt L d) → (∀ d, T.contains d = true → okD N pins (gt L) d = true → okD N pins S' d = true) → OpH P pins N op S' (app S' e)) (hL : setL L e = L') (k : DOK P pins N l0 Q r ((T, ks) :: acc) L') : DOK P pins N l0 Q (op :: r) acc L := by
  have hT := touch_of hT
  subst hL hks
  have h' : ∀ S', (∀ t ∈ T, S' t = gt L t) → OpH P pins N op S' (app S' e) := fun S' hS => h S' (mask_Mk hS) (hS HK (by rw [← hT]; exact .head _)) (fun d hd => hS d (by simpa using hd)) fun d hd hok => by
    unfold okD at hok ⊢
    rw [hS d (by simpa using hd)]
    exact hok
  refine ⟨T, e, ⟨all_T hk, ?_⟩, k⟩
  rcases hy with hg | ⟨j, want, t, c, h1, h2, h3, h4, h5⟩
  · exact .inl ⟨hg, h'⟩
  · exact .inr ⟨j, want, t, h1, h2, by simpa using h3, .inl ⟨by rw [h4, h5], h'⟩⟩theorem cons_eq {α : Type} {a b : α} {l l' : List α} (h : a = b) (k : l = l') : a :: l = b :: l' := by rw [h, k]

end
/-- (behind an operation, what is told turns) -/
theorem o_p {P : Program} {pins : List Nat} {N : Nat} {ops : Array Oper} {Q : SL → Prop} {r : List Oper} {op : Oper} {L L2 : SL} (hy : yes ops op L true) (h : OpH P pins N op (gt L) (gt L2)) (k : OpsOK P pins N ops Q r L2) : OpsOK P pins N ops Q (op :: r) L := by
  refine ⟨true, hy, ?_⟩
  rw [if_pos rfl]
  exact ⟨L2, h, k⟩
theorem opH_list {P : Program} {pins : List Nat} {N : Nat} {op : Oper} {L : SL} {e : Eff} (h : OpH P pins N op (gt L) (app (gt L) e)) : OpH P pins N op (gt L) (gt (setL L e)) := by rw [gt_setL]; exact h
end Go.Proofs.YtimdogdplphmoaaDoor
