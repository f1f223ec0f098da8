/-
  Functions that read and write the heap: their contracts from their code; the rules by which a walk goes.
-/
import Derived.Test.YtimdogdplphmoaaDoorHpd
namespace Go.Proofs.YtimdogdplphmoaaDoor
open Go Go.RowKit
set_option linter.unusedVariables false

/-! ### A function's contract -/
def boxH : Nat → List A → SL
  | _, [] => []
  | i, x :: r => (OB + i, x) :: boxH (i + 1) r
def startH (fr : List Nat) (args : List A) (ins : List A) (f : Nat → A) : SL := (HK, .hp f) :: (frL fr ++ (boxH 0 ins ++ startL 0 args))
theorem gt_boxH (ins : List A) (L : SL) : ∀ (i s : Nat), gt (boxH i ins ++ L) s = if OB + i ≤ s ∧ s < OB + i + ins.length then (match ins[s - OB - i]? with | some x => x | none => .any) else gt L s := by
  induction ins with
  | nil => intro i s; rw [if_neg (by simp)]; rfl
  | cons l r ih =>
    intro i s
    show gt ((OB + i, l) :: (boxH (i + 1) r ++ L)) s = _
    rw [gt_cons, upd, ih (i + 1) s]
    by_cases h : s = OB + i
    · subst h
      rw [if_pos rfl, if_pos ⟨by omega, by simp⟩]
      simp
    · rw [if_neg h]
      by_cases h2 : OB + i ≤ s ∧ s < OB + i + (l :: r).length
      · rw [if_pos h2, if_pos ⟨by omega, by have := h2.2; simp at this; omega⟩]
        rw [show s - OB - i = (s - OB - (i + 1)) + 1 by omega, List.getElem?_cons_succ]
      · rw [if_neg h2, if_neg (by intro h3; exact h2 ⟨by omega, by simp; omega⟩)]
theorem gt_startI (fr : List Nat) (args : List A) (ins : List A) (f : Nat → A) (hn : args.length ≤ OB) (hil : ins.length < OB) (hfr : fr.all (fun j => Nat.ble ins.length j) = true) (s : Nat) (hs : s < OB2) : gt (frL fr ++ (boxH 0 ins ++ startL 0 args)) s = argH args ins f s ∨ (gt (frL fr ++ (boxH 0 ins ++ startL 0 args)) s = .any ∧ argH args ins f s = .free) := by
  induction fr with
  | nil =>
    show gt (boxH 0 ins ++ startL 0 args) s = _ ∨ (gt (boxH 0 ins ++ startL 0 args) s = .any ∧ _)
    unfold argH
    by_cases h : s < OB
    · refine .inl ?_
      rw [gt_boxH, gt_start, if_neg (by omega), if_pos (Nat.zero_le _), if_pos h]
      rfl
    · by_cases h2 : s < OB + ins.length
      · refine .inl ?_
        rw [gt_boxH, if_pos ⟨by omega, by omega⟩, if_neg h, if_neg (by omega)]
        have : s - OB < ins.length := by omega
        simp [List.getElem?_eq_getElem this]
      · refine .inr ⟨show gt (boxH 0 ins ++ startL 0 args) s = .any from ?_, ?_⟩
        · rw [gt_boxH, gt_start, if_neg (by omega), if_pos (Nat.zero_le _)]
          unfold argS
          rw [List.getD_eq_getElem?_getD, List.getElem?_eq_none (by omega)]
          rfl
        · rw [if_neg h, if_neg (by omega), List.getElem?_eq_none (by omega)]
  | cons j r ih =>
    simp only [List.all_cons, Bool.and_eq_true] at hfr
    show gt ((OB + j, .free) :: (frL r ++ (boxH 0 ins ++ startL 0 args))) s = _ ∨ (gt ((OB + j, .free) :: (frL r ++ (boxH 0 ins ++ startL 0 args))) s = _ ∧ _)
    rw [gt_cons, upd]
    by_cases h : s = OB + j
    · rw [if_pos h]
      refine .inl ?_
      have := Nat.le_of_ble_eq_true hfr.1
      unfold argH
      rw [if_neg (by omega), if_neg (by omega), List.getElem?_eq_none (by omega)]
    · rw [if_neg h]; exact ih hfr.2
def outH (L : SL) : Nat → List A → Prop
  | _, [] => True
  | i, x :: r => gt L (OB + i) = x ∧ outH L (i + 1) r
theorem outH_get {L : SL} : ∀ {outs : List A} {i : Nat}, outH L i outs → ∀ (k : Nat) (l : A), outs[k]? = some l → gt L (OB + (i + k)) = l
  | [], _, _, k, l, h => by simp at h
  | x :: r, i, h, k, l, hk => by
    cases k with
    | zero => injection hk with hk; subst hk; exact h.1
    | succ k => rw [show i + (k + 1) = i + 1 + k by omega]; exact outH_get h.2 k l (by simpa using hk)
/-- What a function's end must tell. -/
def endH (P : Program) (rs : List ResultVar) (outs : List A) (f' : Nat → A) (r : A) : Exit → SL → Prop
  | .normal, L | .ret, L => (∃ y, resA P (gt L) rs = some y ∧ WkA y r) ∧ outH L 0 outs ∧ gt L HK = .hp f'
  | _, _ => False
section
variable {P : Program} {w0 : World} {m0 : Mem} {o0 : OwnM} {G : Nat → Prop} {pins : List Nat} {a : Act} {w : World} {m : Mem} {o : OwnM}
theorem resA_low {S : Nat → A} (I : Inv w0 m0 o0 G pins S a w m o) {fn : Func} {rs : List ResultVar} (hrs : fn.results = rs.toArray) (hrt : (match rs with | [.tmp t] => Nat.blt t OB | _ => true) = true) {y : A} (h : resA P S rs = some y) :
    ∃ v ρ, (results fn a.tmps).run P w = .ok v w ∧ RepA m w o S ρ y v ∧ ρ < OB := by
  have hO : 0 < OB := by decide
  have many : ∀ l, rs.mapM (resT P S) = some l → rs.length ≠ 1 → ∃ v ρ, (results fn a.tmps).run P w = .ok v w ∧ RepA m w o S ρ (.tup l) v ∧ ρ < OB := by
    intro l hl hne
    obtain ⟨vs, h5, h6, h8, h7⟩ := resM_run (P := P) I 0 rs l 1 hl
    have hlen : vs.length ≠ 1 := by omega
    refine ⟨.tuple vs.toArray, 0, ?_, ⟨vs.toArray, rfl, by simpa using h6, fun j x hj => ?_⟩, hO⟩
    · show (do let vs ← fn.results.mapM (resS a.tmps); pure (if h : vs.size = 1 then vs[0] else .tuple vs) : Sem Value).run P w = _
      rw [hrs, Sem.run_bind, List.mapM_toArray, Sem.run_map, h5, Result.andThen_ok, Result.andThen_ok, Sem.run_pure]
      rw [dif_neg (by simpa using hlen)]
    · obtain ⟨u, k1, k2⟩ := h7 j x hj
      exact ⟨u, by simpa using k1, by rw [Nat.add_comm]; exact k2⟩
  have one : ∀ r x, rs = [r] → resT P S r = some x → ∃ v ρ, (results fn a.tmps).run P w = .ok v w ∧ RepA m w o S ρ (.t x) v ∧ ρ < OB := by
    intro r x e hx
    subst e
    obtain ⟨v, h3, h4⟩ := resT_run (P := P) I hx (0, 0)
    refine ⟨v, 0, ?_, h4, hO⟩
    show (do let vs ← fn.results.mapM (resS a.tmps); pure (if h : vs.size = 1 then vs[0] else .tuple vs) : Sem Value).run P w = _
    rw [hrs, Sem.run_bind, List.mapM_toArray, Sem.run_map, List.mapM_cons, Sem.run_bind, h3]
    simp
  unfold resA at h
  split at h
  · rename_i t
    injection h with h
    subst h
    exact ⟨_, t, results_tmp hrs _ _ _, I.slots t, by simpa using hrt⟩
  · rename_i r _
    cases hx : resT P S r with
    | none => rw [hx] at h; cases h
    | some x =>
      rw [hx] at h
      injection h with h
      subst h
      exact one r x rfl hx
  · rename_i h1 h2
    cases hx : rs.mapM (resT P S) with
    | none => rw [hx] at h; cases h
    | some l =>
      rw [hx] at h
      injection h with h
      subst h
      refine many l hx fun e => ?_
      match rs, e with
      | [r], _ => exact h2 r rfl
theorem fch_mk (fr : List Nat) {fn : FuncId} {F : Func} {c : Code} {args : List A} {rs : List ResultVar} {ins outs : List A} {f f' : Nat → A} {r : A} {n : Nat} {pins : List Nat} {L : SL} (hf : P.funcs[fn]? = some F) (hb : F.body = some c) (hn : F.ntmps = n) (hle : args.length ≤ n) (hres : F.results = rs.toArray)
    (hpins : (pinsH ins.length, Nat.ble n OB, fr.all (fun j => Nat.ble ins.length j && Nat.blt j OB), Nat.blt ins.length OB && Nat.blt outs.length OB, (match rs with | [.tmp t] => Nat.blt t OB | _ => true)) = (pins, true, true, true, true)) (hL : startH fr args ins f = L) (hc : CodeOK P pins n c (endH P rs outs f' r) L) : FCH P fn args ins outs f f' r := by
  injection hpins with hpins hw
  injection hw with hw hfr
  injection hfr with hfr hil
  injection hil with hil hrt
  have hw := Nat.le_of_ble_eq_true hw
  simp only [Bool.and_eq_true] at hil
  have hio : ins.length < OB := by simpa using hil.1
  have hoo : outs.length < OB := by simpa using hil.2
  have hfr1 : fr.all (fun j => Nat.ble ins.length j) = true := List.all_eq_true.2 fun j hj => by have := List.all_eq_true.1 hfr j hj; simp only [Bool.and_eq_true] at this; exact this.1
  have hfr2 : fr.all (fun j => Nat.blt j OB) = true := List.all_eq_true.2 fun j hj => by have := List.all_eq_true.1 hfr j hj; simp only [Bool.and_eq_true] at this; exact this.2
  subst hn hpins hL
  intro w m o vals hsat htbl hlt hinj hsz hrep
  have hlow0 : Low (gt (frL fr ++ (boxH 0 ins ++ startL 0 args))) := by
    intro t ht
    have hb0 : Low (gt (boxH 0 ins ++ startL 0 args)) := by
      intro t ht
      rw [gt_boxH, if_neg (by unfold OB OB2 at *; omega)]
      exact low_startF (fr := []) hle hw rfl t ht
    clear hc hrep hfr
    induction fr with
    | nil => exact hb0 t ht
    | cons j r ih =>
      simp only [List.all_cons, Bool.and_eq_true] at hfr2 hfr1
      show gt ((OB + j, .free) :: (frL r ++ (boxH 0 ins ++ startL 0 args))) t = _
      have h1 : j < OB := by simpa using hfr2.1
      rw [gt_cons, upd_other (by unfold OB OB2 at *; omega)]
      exact ih hfr1.2 hfr2.2
  have hlow : Low (gt (startH fr args ins f)) := by
    show Low (gt ((HK, .hp f) :: _))
    rw [gt_cons]
    exact hlow0.upd hk_lt
  have hkk : gt (startH fr args ins f) HK = .hp f := by show gt ((HK, .hp f) :: _) HK = _; rw [gt_cons, upd_same]
  refine calls_of_wp hf hb (wp_mono (hc w m o (fun g => o g ≠ none) _ w ⟨?_, hlow, m, o, ?_⟩) ?_)
  · simp [hsz]; omega
  · have hargK : ∀ g j, o g = some (OB + j, 0) → OB + j ∈ pinsH ins.length ∨ OB2 ≤ OB + j := by
      intro g j h
      by_cases h2 : OB2 ≤ OB + j
      · exact .inr h2
      · by_cases h3 : j < ins.length
        · exact .inl (List.mem_map.2 ⟨j, List.mem_range.2 h3, rfl⟩)
        · exfalso
          have hs := hrep (OB + j)
          have e : argH args ins f (OB + j) = .free := by unfold argH; rw [if_neg (by omega), if_neg h2, Nat.add_sub_cancel_left, List.getElem?_eq_none (by omega)]
          rw [e] at hs
          exact hs g 0 h
    refine ⟨Same.refl _ _, hsat, Mle.refl _, fun _ _ _ => rfl, fun g l h => .inl (by rw [h]; simp), hlt, hinj, fun s hs g hg => hg, fun s => ?_, rfl, htbl, by simp [hsz]; omega, fun g j h => ⟨hargK g j h, ShpAt.refl w g⟩⟩
    have hget : (vals ++ Array.replicate (F.ntmps - vals.size) undef).getD s undef = vals.getD s undef := by
      simp only [Array.getD_eq_getD_getElem?, Array.getElem?_append, Array.getElem?_replicate]
      by_cases h : s < vals.size
      · simp [h]
      · rw [if_neg h, Array.getElem?_eq_none (by omega)]
        split <;> rfl
    show RepA m w o (hx (gt (startH fr args ins f))) s (hx (gt (startH fr args ins f)) s) ((vals ++ Array.replicate (F.ntmps - vals.size) undef).getD s undef)
    rw [hget]
    rcases Nat.lt_or_ge s OB2 with hs2 | hs2
    · rw [hx_lo hs2]
      by_cases e : s = HK
      · subst e
        rw [hkk]
        trivial
      · have he : gt (startH fr args ins f) s = gt (frL fr ++ (boxH 0 ins ++ startL 0 args)) s := by show gt ((HK, .hp f) :: _) s = _; rw [gt_cons, upd_other e]
        rw [he]
        rcases gt_startI fr args ins f (by omega) hio hfr1 s hs2 with e1 | ⟨e1, _⟩
        · rw [e1]
          have h := hrep s
          refine h.turn fun b l hb => ?_
          rcases Nat.lt_or_ge b OB2 with hb2 | hb2
          · rw [hx_lo hb2]
            have hbk : b ≠ HK := fun e => by
              subst e
              unfold argH at hb
              rw [if_neg (by unfold HK OB; omega), if_neg (by unfold HK OB2; omega), List.getElem?_eq_none (by unfold HK; unfold OB at *; omega)] at hb
              cases hb
            refine ⟨l, ?_⟩
            show gt ((HK, .hp f) :: _) b = _
            rw [gt_cons, upd_other hbk]
            rcases gt_startI fr args ins f (by omega) hio hfr1 b hb2 with e2 | ⟨_, e2⟩
            · rw [e2, hb]
            · rw [hb] at e2; cases e2
          · obtain ⟨c, rfl⟩ : ∃ c, b = OB + (OB + c) := ⟨b - OB2, by rw [← ob2_eq]; omega⟩
            have e : argH args ins f (OB + (OB + c)) = san (f c) := by
              unfold argH
              rw [if_neg (by omega), if_pos hb2, ← ob2_eq, Nat.add_sub_cancel_left]
            rw [hx_hp hlow hkk, ← e, hb]
            exact ⟨l, rfl⟩
        · rw [e1]; trivial
    · obtain ⟨c, rfl⟩ : ∃ c, s = OB + (OB + c) := ⟨s - OB2, by rw [← ob2_eq]; omega⟩
      rw [hx_hp hlow hkk]
      have h := hrep (OB + (OB + c))
      have e : argH args ins f (OB + (OB + c)) = san (f c) := by
        unfold argH
        rw [if_neg (by omega), if_pos hs2, ← ob2_eq, Nat.add_sub_cancel_left]
      rw [e] at h
      rcases san_cases (f c) with ⟨l, hl⟩ | hl | hl
      · rw [hl] at h ⊢; exact h
      · rw [hl] at h ⊢; exact h
      · rw [hl]; trivial
  · rintro e a' w' ⟨L', hq, hS⟩
    obtain ⟨hN, hlo', m', o', I⟩ := hS
    have fin : ((∃ y, resA P (gt L') rs = some y ∧ WkA y r) ∧ outH L' 0 outs ∧ gt L' HK = .hp f') → a'.defers = [] ∧ ∃ v, (results F a'.tmps).run P w' = .ok v w' ∧ ∃ (u : Value) (m' : Mem) (o' : OwnM) (S' : Nat → A) (a' : Act) (ρ : Nat), Ending.returned v = .returned u ∧ Inv w m o (fun g => o g ≠ none) (pinsH ins.length) S' a' w' m' o' ∧ RepA m' w' o' S' ρ r u ∧ (∀ (i : Nat) (x : A), outs[i]? = some x → S' (OB + i) = x) ∧ (∀ c, S' (OB + (OB + c)) = san (f' c)) ∧ ρ < OB := by
      rintro ⟨⟨y, hy, hw⟩, ho, hk⟩
      obtain ⟨y', hy', hyy⟩ := resA_hx hy
      obtain ⟨v, ρ, h1, h2, h3⟩ := resA_low (P := P) I hres hrt hy'
      refine ⟨I.defers, v, h1, v, m', o', hx (gt L'), a', ρ, rfl, I, hw.rep I.sat (by rcases hyy with rfl | rfl; exact h2; exact trivial), fun i l h => ?_, fun c => hx_hp hlo' hk c, h3⟩
      have hi := (List.getElem?_eq_some_iff.1 h).1
      have := outH_get ho i l h
      rw [Nat.zero_add] at this
      rw [hx_lo (by unfold OB OB2 at *; omega), this]
    cases e <;> first | exact fin hq | exact hq.elim
end
end Go.Proofs.YtimdogdplphmoaaDoor
