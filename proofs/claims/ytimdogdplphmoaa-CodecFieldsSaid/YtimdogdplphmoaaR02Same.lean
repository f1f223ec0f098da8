/-
  R02.Same over data: are two values one?
-/
import Derived.Test.YtimdogdplphmoaaV
import Derived.Test.YtimdogdplphmoaaR01Same
namespace Go.Proofs.Ytimdogdplphmoaa
open Go Go.RowKit
set_option linter.unusedVariables false
set_option linter.unusedSimpArgs false

namespace V
theorem ext' {a b : V} (h1 : a.k = b.k) (h2 : a.n = b.n) (h3 : a.b = b.b) (h4 : a.l = b.l) : a = b := by
  rw [← a.eta, ← b.eta, h1, h2, h3, h4]
noncomputable def eqb (a b : V) : Bool := @decide (a = b) (Classical.propDecidable _)
theorem eqb_yes {a b : V} (h : a = b) : eqb a b = true := @decide_eq_true _ (Classical.propDecidable _) h
theorem eqb_no {a b : V} (h : ¬ a = b) : eqb a b = false := @decide_eq_false _ (Classical.propDecidable _) h
theorem eqb_of {a b : V} (h : eqb a b = true) : a = b := @of_decide_eq_true _ (Classical.propDecidable _) h
theorem eqb_not {a b : V} (h : eqb a b = false) : ¬ a = b := @of_decide_eq_false _ (Classical.propDecidable _) h
end V
theorem take_step {α : Type} {l m : List α} {k : Nat} (hl : k < l.length) (hm : k < m.length) (h : l.take k = m.take k) (he : l[k] = m[k]) : l.take (k + 1) = m.take (k + 1) := by
  rw [List.take_add_one, List.take_add_one, h, List.getElem?_eq_getElem hl, List.getElem?_eq_getElem hm, he]

set_option maxHeartbeats 4000000 in
theorem rsame_fc : ∀ (d : Nat) (a b : V), a.ht ≤ d → a.wt ≤ 1000000000000 → FC Try.prog 18 [valA a, valA b] [] (boolA (V.eqb a b)) := by
  intro d
  induction d with
  | zero => intro a b h; exact absurd a.ht_pos (by omega)
  | succ d ih =>
  intro a b hd hwt
  have hab := a.len_b
  have hal := a.len_l
  have hno : ∀ {L : SL}, a ≠ b → gt L 4 = boolA false → endQ Try.prog [.tmp 4] [] (boolA (V.eqb a b)) .ret L := by
    intro L hne h
    exact end0 (y := boolA false) (by show some (gt L 4) = _; rw [h]) (by rw [V.eqb_no hne]; exact .refl _)
  refine fc_mk (rs := [.tmp 4]) (n := 54) Try.func18 rfl rfl (Nat.le_of_ble_eq_true rfl) rfl (pins := []) rfl (L := [(0, valA a), (1, valA b)]) rfl ?_
  refine c_seq (c_region ?_)
  repeat (first | (first | refine o_stepN true rfl rfl rfl rfl rfl rfl trivial ?_ | refine o_stepN false rfl rfl rfl rfl rfl rfl trivial ?_) | (first | refine o_storeN true rfl rfl rfl rfl rfl ?_ | refine o_storeN false rfl rfl rfl rfl rfl ?_) | (first | refine o_yes_stepN true rfl rfl rfl rfl rfl rfl rfl rfl rfl trivial ?_ | refine o_yes_stepN false rfl rfl rfl rfl rfl rfl rfl rfl rfl trivial ?_) | refine o_no rfl rfl rfl rfl rfl rfl rfl ?_)
  refine o_nil (then_normal ?_)
  refine c_seq (c_seq (c_region ?_))
  repeat (first | (first | refine o_stepN true rfl rfl rfl rfl rfl rfl trivial ?_ | refine o_stepN false rfl rfl rfl rfl rfl rfl trivial ?_) | (first | refine o_storeN true rfl rfl rfl rfl rfl ?_ | refine o_storeN false rfl rfl rfl rfl rfl ?_) | (first | refine o_yes_stepN true rfl rfl rfl rfl rfl rfl rfl rfl rfl trivial ?_ | refine o_yes_stepN false rfl rfl rfl rfl rfl rfl rfl rfl rfl trivial ?_) | refine o_no rfl rfl rfl rfl rfl rfl rfl ?_)
  cases h0 : (a.k != b.k)
  case true =>
    repeat (first | (first | refine o_stepN true rfl rfl rfl rfl rfl rfl trivial ?_ | refine o_stepN false rfl rfl rfl rfl rfl rfl trivial ?_) | (first | refine o_storeN true rfl rfl rfl rfl rfl ?_ | refine o_storeN false rfl rfl rfl rfl rfl ?_) | (first | refine o_yes_stepN true rfl rfl rfl rfl rfl rfl rfl rfl rfl trivial ?_ | refine o_yes_stepN false rfl rfl rfl rfl rfl rfl rfl rfl rfl trivial ?_) | refine o_no rfl rfl rfl rfl rfl rfl rfl ?_)
    refine o_nil (then_normal ?_)
    refine c_cond rfl (fun _ => ?_) (fun h => by cases h)
    refine c_seq (c_region ?_)
    repeat (first | (first | refine o_stepN true rfl rfl rfl rfl rfl rfl trivial ?_ | refine o_stepN false rfl rfl rfl rfl rfl rfl trivial ?_) | (first | refine o_storeN true rfl rfl rfl rfl rfl ?_ | refine o_storeN false rfl rfl rfl rfl rfl ?_) | (first | refine o_yes_stepN true rfl rfl rfl rfl rfl rfl rfl rfl rfl trivial ?_ | refine o_yes_stepN false rfl rfl rfl rfl rfl rfl rfl rfl rfl trivial ?_) | refine o_no rfl rfl rfl rfl rfl rfl rfl ?_)
    exact o_nil (then_normal (c_ret (hno (by rintro rfl; simp at h0) rfl)))
  repeat (first | (first | refine o_stepN true rfl rfl rfl rfl rfl rfl trivial ?_ | refine o_stepN false rfl rfl rfl rfl rfl rfl trivial ?_) | (first | refine o_storeN true rfl rfl rfl rfl rfl ?_ | refine o_storeN false rfl rfl rfl rfl rfl ?_) | (first | refine o_yes_stepN true rfl rfl rfl rfl rfl rfl rfl rfl rfl trivial ?_ | refine o_yes_stepN false rfl rfl rfl rfl rfl rfl rfl rfl rfl trivial ?_) | refine o_no rfl rfl rfl rfl rfl rfl rfl ?_)
  cases h1 : (a.n != b.n)
  case true =>
    repeat (first | (first | refine o_stepN true rfl rfl rfl rfl rfl rfl trivial ?_ | refine o_stepN false rfl rfl rfl rfl rfl rfl trivial ?_) | (first | refine o_storeN true rfl rfl rfl rfl rfl ?_ | refine o_storeN false rfl rfl rfl rfl rfl ?_) | (first | refine o_yes_stepN true rfl rfl rfl rfl rfl rfl rfl rfl rfl trivial ?_ | refine o_yes_stepN false rfl rfl rfl rfl rfl rfl rfl rfl rfl trivial ?_) | refine o_no rfl rfl rfl rfl rfl rfl rfl ?_)
    refine o_nil (then_normal ?_)
    refine c_cond rfl (fun _ => ?_) (fun h => by cases h)
    refine c_seq (c_region ?_)
    repeat (first | (first | refine o_stepN true rfl rfl rfl rfl rfl rfl trivial ?_ | refine o_stepN false rfl rfl rfl rfl rfl rfl trivial ?_) | (first | refine o_storeN true rfl rfl rfl rfl rfl ?_ | refine o_storeN false rfl rfl rfl rfl rfl ?_) | (first | refine o_yes_stepN true rfl rfl rfl rfl rfl rfl rfl rfl rfl trivial ?_ | refine o_yes_stepN false rfl rfl rfl rfl rfl rfl rfl rfl rfl trivial ?_) | refine o_no rfl rfl rfl rfl rfl rfl rfl ?_)
    exact o_nil (then_normal (c_ret (hno (by rintro rfl; simp at h1) rfl)))
  repeat (first | (first | refine o_stepN true rfl rfl rfl rfl rfl rfl trivial ?_ | refine o_stepN false rfl rfl rfl rfl rfl rfl trivial ?_) | (first | refine o_storeN true rfl rfl rfl rfl rfl ?_ | refine o_storeN false rfl rfl rfl rfl rfl ?_) | (first | refine o_yes_stepN true rfl rfl rfl rfl rfl rfl rfl rfl rfl trivial ?_ | refine o_yes_stepN false rfl rfl rfl rfl rfl rfl rfl rfl rfl trivial ?_) | refine o_no rfl rfl rfl rfl rfl rfl rfl ?_)
  refine o_yes_call (rsame8_fc a.b b.b (by omega)) rfl rfl rfl (rfl) rfl rfl rfl rfl rfl rfl rfl (wkargs_refl _) rfl rfl rfl ?_
  cases h2 : decide (a.b = b.b)
  case false =>
    repeat (first | (first | refine o_stepN true rfl rfl rfl rfl rfl rfl trivial ?_ | refine o_stepN false rfl rfl rfl rfl rfl rfl trivial ?_) | (first | refine o_storeN true rfl rfl rfl rfl rfl ?_ | refine o_storeN false rfl rfl rfl rfl rfl ?_) | (first | refine o_yes_stepN true rfl rfl rfl rfl rfl rfl rfl rfl rfl trivial ?_ | refine o_yes_stepN false rfl rfl rfl rfl rfl rfl rfl rfl rfl trivial ?_) | refine o_no rfl rfl rfl rfl rfl rfl rfl ?_)
    refine o_nil (then_normal ?_)
    refine c_cond rfl (fun _ => ?_) (fun h => by cases h)
    refine c_seq (c_region ?_)
    repeat (first | (first | refine o_stepN true rfl rfl rfl rfl rfl rfl trivial ?_ | refine o_stepN false rfl rfl rfl rfl rfl rfl trivial ?_) | (first | refine o_storeN true rfl rfl rfl rfl rfl ?_ | refine o_storeN false rfl rfl rfl rfl rfl ?_) | (first | refine o_yes_stepN true rfl rfl rfl rfl rfl rfl rfl rfl rfl trivial ?_ | refine o_yes_stepN false rfl rfl rfl rfl rfl rfl rfl rfl rfl trivial ?_) | refine o_no rfl rfl rfl rfl rfl rfl rfl ?_)
    exact o_nil (then_normal (c_ret (hno (by rintro rfl; simp at h2) rfl)))
  repeat (first | (first | refine o_stepN true rfl rfl rfl rfl rfl rfl trivial ?_ | refine o_stepN false rfl rfl rfl rfl rfl rfl trivial ?_) | (first | refine o_storeN true rfl rfl rfl rfl rfl ?_ | refine o_storeN false rfl rfl rfl rfl rfl ?_) | (first | refine o_yes_stepN true rfl rfl rfl rfl rfl rfl rfl rfl rfl trivial ?_ | refine o_yes_stepN false rfl rfl rfl rfl rfl rfl rfl rfl rfl trivial ?_) | refine o_no rfl rfl rfl rfl rfl rfl rfl ?_)
  refine o_nil (then_normal ?_)
  refine c_cond rfl (fun h => ?_) (fun h => ?_)
  · refine c_seq (c_region ?_)
    repeat (first | (first | refine o_stepN true rfl rfl rfl rfl rfl rfl trivial ?_ | refine o_stepN false rfl rfl rfl rfl rfl rfl trivial ?_) | (first | refine o_storeN true rfl rfl rfl rfl rfl ?_ | refine o_storeN false rfl rfl rfl rfl rfl ?_) | (first | refine o_yes_stepN true rfl rfl rfl rfl rfl rfl rfl rfl rfl trivial ?_ | refine o_yes_stepN false rfl rfl rfl rfl rfl rfl rfl rfl rfl trivial ?_) | refine o_no rfl rfl rfl rfl rfl rfl rfl ?_)
    exact o_nil (then_normal (c_ret (hno (by rintro rfl; simp at h) rfl)))
  refine c_skip (then_normal ?_)
  have hl : a.l.length = b.l.length := by simp at h; omega
  refine c_seq (c_seq (c_region ?_))
  repeat (first | (first | refine o_stepN true rfl rfl rfl rfl rfl rfl trivial ?_ | refine o_stepN false rfl rfl rfl rfl rfl rfl trivial ?_) | (first | refine o_storeN true rfl rfl rfl rfl rfl ?_ | refine o_storeN false rfl rfl rfl rfl rfl ?_) | (first | refine o_yes_stepN true rfl rfl rfl rfl rfl rfl rfl rfl rfl trivial ?_ | refine o_yes_stepN false rfl rfl rfl rfl rfl rfl rfl rfl rfl trivial ?_) | refine o_no rfl rfl rfl rfl rfl rfl rfl ?_)
  refine o_nil (then_normal ?_)
  refine c_block (c_round (fun i : Nat => [(0, valA a), (1, valA b), (2, .box (a.top.map .d)), (3, .box (b.top.map .d)), (5, intA i)]) (fun i => i ≤ a.l.length ∧ a.l.take i = b.l.take i) (fun i => a.l.length - i) 0 ⟨Nat.zero_le _, rfl⟩ (by repeat (first | exact True.intro | refine And.intro (.refl _) ?_ | refine And.intro (.any _) ?_)) rfl ?_)
  rintro i ⟨hi, ht⟩
  refine c_seq (c_seq (c_region ?_))
  repeat (first | (first | refine o_stepN true rfl rfl rfl rfl rfl rfl trivial ?_ | refine o_stepN false rfl rfl rfl rfl rfl rfl trivial ?_) | (first | refine o_storeN true rfl rfl rfl rfl rfl ?_ | refine o_storeN false rfl rfl rfl rfl rfl ?_) | (first | refine o_yes_stepN true rfl rfl rfl rfl rfl rfl rfl rfl rfl trivial ?_ | refine o_yes_stepN false rfl rfl rfl rfl rfl rfl rfl rfl rfl trivial ?_) | refine o_no rfl rfl rfl rfl rfl rfl rfl ?_)
  refine o_nil (then_normal ?_)
  refine c_cond rfl (fun h => ?_) (fun h => ?_)
  · refine c_skip (then_normal ?_)
    have hlt : i < a.l.length := by simp at h; omega
    have gx := vs_get a.l i hlt
    have gy := vs_get b.l i (by omega)
    refine c_seq (c_block (c_seq (c_draw mixed (by kernel_rfl) ?_)))
    repeat (first | (first | refine d_stepN true rfl rfl rfl rfl rfl rfl rfl rfl rfl rfl rfl trivial ?_ | refine d_stepN false rfl rfl rfl rfl rfl rfl rfl rfl rfl rfl rfl trivial ?_) | (first | refine d_storeN true rfl rfl rfl rfl rfl rfl rfl rfl rfl ?_ | refine d_storeN false rfl rfl rfl rfl rfl rfl rfl rfl rfl ?_) | (first | refine d_yes_stepN true rfl rfl rfl rfl rfl rfl rfl rfl rfl rfl rfl rfl rfl rfl rfl trivial ?_ | refine d_yes_stepN false rfl rfl rfl rfl rfl rfl rfl rfl rfl rfl rfl rfl rfl rfl rfl trivial ?_) | refine d_no rfl rfl rfl rfl rfl rfl rfl rfl rfl rfl ?_)
    refine d_step rfl rfl rfl rfl rfl rfl rfl rfl rfl (by simp only [gx]; rfl) rfl (⟨by omega, by rw [vs_len]; omega⟩) ?_
    repeat (first | (first | refine d_stepN true rfl rfl rfl rfl rfl rfl rfl rfl rfl rfl rfl trivial ?_ | refine d_stepN false rfl rfl rfl rfl rfl rfl rfl rfl rfl rfl rfl trivial ?_) | (first | refine d_storeN true rfl rfl rfl rfl rfl rfl rfl rfl rfl ?_ | refine d_storeN false rfl rfl rfl rfl rfl rfl rfl rfl rfl ?_) | (first | refine d_yes_stepN true rfl rfl rfl rfl rfl rfl rfl rfl rfl rfl rfl rfl rfl rfl rfl trivial ?_ | refine d_yes_stepN false rfl rfl rfl rfl rfl rfl rfl rfl rfl rfl rfl rfl rfl rfl rfl trivial ?_) | refine d_no rfl rfl rfl rfl rfl rfl rfl rfl rfl rfl ?_)
    refine d_step rfl rfl rfl rfl rfl rfl rfl rfl rfl (by simp only [gy]; rfl) rfl (⟨by omega, by rw [vs_len]; omega⟩) ?_
    repeat (first | (first | refine d_stepN true rfl rfl rfl rfl rfl rfl rfl rfl rfl rfl rfl trivial ?_ | refine d_stepN false rfl rfl rfl rfl rfl rfl rfl rfl rfl rfl rfl trivial ?_) | (first | refine d_storeN true rfl rfl rfl rfl rfl rfl rfl rfl rfl ?_ | refine d_storeN false rfl rfl rfl rfl rfl rfl rfl rfl rfl ?_) | (first | refine d_yes_stepN true rfl rfl rfl rfl rfl rfl rfl rfl rfl rfl rfl rfl rfl rfl rfl trivial ?_ | refine d_yes_stepN false rfl rfl rfl rfl rfl rfl rfl rfl rfl rfl rfl rfl rfl rfl rfl trivial ?_) | refine d_no rfl rfl rfl rfl rfl rfl rfl rfl rfl rfl ?_)
    refine d_call (ih a.l[i] b.l[i] (by have := V.ht_item a a.l[i] (List.getElem_mem hlt); omega) (by have := V.wt_item a a.l[i] (List.getElem_mem hlt); omega)) rfl rfl rfl rfl rfl rfl rfl rfl rfl rfl (wkargs_refl _) rfl rfl rfl ?_
    repeat (first | (first | refine d_stepN true rfl rfl rfl rfl rfl rfl rfl rfl rfl rfl rfl trivial ?_ | refine d_stepN false rfl rfl rfl rfl rfl rfl rfl rfl rfl rfl rfl trivial ?_) | (first | refine d_storeN true rfl rfl rfl rfl rfl rfl rfl rfl rfl ?_ | refine d_storeN false rfl rfl rfl rfl rfl rfl rfl rfl rfl ?_) | (first | refine d_yes_stepN true rfl rfl rfl rfl rfl rfl rfl rfl rfl rfl rfl rfl rfl rfl rfl trivial ?_ | refine d_yes_stepN false rfl rfl rfl rfl rfl rfl rfl rfl rfl rfl rfl rfl rfl rfl rfl trivial ?_) | refine d_no rfl rfl rfl rfl rfl rfl rfl rfl rfl rfl ?_)
    refine d_nil (by kernel_rfl) (then_normal ?_)
    refine c_cond rfl (fun h => ?_) (fun h => ?_)
    · refine c_seq (c_region ?_)
      repeat (first | (first | refine o_stepN true rfl rfl rfl rfl rfl rfl trivial ?_ | refine o_stepN false rfl rfl rfl rfl rfl rfl trivial ?_) | (first | refine o_storeN true rfl rfl rfl rfl rfl ?_ | refine o_storeN false rfl rfl rfl rfl rfl ?_) | (first | refine o_yes_stepN true rfl rfl rfl rfl rfl rfl rfl rfl rfl trivial ?_ | refine o_yes_stepN false rfl rfl rfl rfl rfl rfl rfl rfl rfl trivial ?_) | refine o_no rfl rfl rfl rfl rfl rfl rfl ?_)
      refine o_nil (then_normal (c_ret (hno ?_ rfl)))
      rintro rfl
      rw [V.eqb_yes rfl] at h
      cases h
    · refine c_skip ?_
      refine c_region ?_
      repeat (first | (first | refine o_stepN true rfl rfl rfl rfl rfl rfl trivial ?_ | refine o_stepN false rfl rfl rfl rfl rfl rfl trivial ?_) | (first | refine o_storeN true rfl rfl rfl rfl rfl ?_ | refine o_storeN false rfl rfl rfl rfl rfl ?_) | (first | refine o_yes_stepN true rfl rfl rfl rfl rfl rfl rfl rfl rfl trivial ?_ | refine o_yes_stepN false rfl rfl rfl rfl rfl rfl rfl rfl rfl trivial ?_) | refine o_no rfl rfl rfl rfl rfl rfl rfl ?_)
      refine o_nil ?_
      have hw : IntKind.i64.wrap ((i : Int) + 1) = ((i + 1 : Nat) : Int) := by rw [wrap_id (by omega) (by omega)]; rfl
      refine ⟨i + 1, ⟨by omega, ?_⟩, by omega, (by (try simp only [hw]); repeat (first | exact True.intro | refine And.intro (.refl _) ?_ | refine And.intro (.any _) ?_)), rfl⟩
      exact take_step hlt (by omega) ht (V.eqb_of (by simpa using h))
  · refine c_exit ?_
    refine c_seq (c_region ?_)
    repeat (first | (first | refine o_stepN true rfl rfl rfl rfl rfl rfl trivial ?_ | refine o_stepN false rfl rfl rfl rfl rfl rfl trivial ?_) | (first | refine o_storeN true rfl rfl rfl rfl rfl ?_ | refine o_storeN false rfl rfl rfl rfl rfl ?_) | (first | refine o_yes_stepN true rfl rfl rfl rfl rfl rfl rfl rfl rfl trivial ?_ | refine o_yes_stepN false rfl rfl rfl rfl rfl rfl rfl rfl rfl trivial ?_) | refine o_no rfl rfl rfl rfl rfl rfl rfl ?_)
    refine o_nil (then_normal (c_ret ?_))
    refine end0 rfl ?_
    have hge : i = a.l.length := by simp at h; omega
    have : a = b := by
      refine V.ext' (by simpa using h0) (by simpa using h1) (by simpa using h2) ?_
      rw [hge, List.take_length] at ht
      rw [ht, hl, List.take_length]
    rw [V.eqb_yes this]
    exact .refl _
end Go.Proofs.Ytimdogdplphmoaa
