/-
  R01.Same over data.
-/
import Derived.Test.YtimdogdplphmoaaBase
namespace Go.Proofs.Ytimdogdplphmoaa
open Go Go.RowKit
set_option linter.unusedVariables false
set_option linter.unusedSimpArgs false

theorem rsame8_fc (x y : List UInt8) (hx : x.length ≤ 4611686018427387904) : FC Try.prog 16 [bytA x, bytA y] [] (boolA (decide (x = y))) := by
  refine fc_mk (rs := [.tmp 4]) (n := 26) Try.func16 rfl rfl (Nat.le_of_ble_eq_true rfl) rfl (pins := []) rfl (L := [(0, bytA x), (1, bytA y)]) rfl ?_
  refine c_seq (c_region ?_)
  repeat (first | (first | refine o_stepN true rfl rfl rfl rfl rfl rfl trivial ?_ | refine o_stepN false rfl rfl rfl rfl rfl rfl trivial ?_) | (first | refine o_storeN true rfl rfl rfl rfl rfl ?_ | refine o_storeN false rfl rfl rfl rfl rfl ?_))
  refine o_nil (then_normal ?_)
  refine c_seq (c_seq (c_region ?_))
  repeat (first | (first | refine o_stepN true rfl rfl rfl rfl rfl rfl trivial ?_ | refine o_stepN false rfl rfl rfl rfl rfl rfl trivial ?_) | (first | refine o_storeN true rfl rfl rfl rfl rfl ?_ | refine o_storeN false rfl rfl rfl rfl rfl ?_))
  refine o_nil (then_normal ?_)
  refine c_cond rfl (fun h => ?_) (fun h => ?_)
  · refine c_seq (c_region ?_)
    repeat (first | (first | refine o_stepN true rfl rfl rfl rfl rfl rfl trivial ?_ | refine o_stepN false rfl rfl rfl rfl rfl rfl trivial ?_) | (first | refine o_storeN true rfl rfl rfl rfl rfl ?_ | refine o_storeN false rfl rfl rfl rfl rfl ?_))
    refine o_nil (then_normal (c_ret ?_))
    refine end0 rfl ?_
    have : x ≠ y := by rintro rfl; simp at h
    rw [decide_eq_false this]
    exact .refl _
  · refine c_skip (then_normal ?_)
    have hl : x.length = y.length := by simp [bytesD_length] at h; omega
    refine c_seq (c_seq (c_region ?_))
    repeat (first | (first | refine o_stepN true rfl rfl rfl rfl rfl rfl trivial ?_ | refine o_stepN false rfl rfl rfl rfl rfl rfl trivial ?_) | (first | refine o_storeN true rfl rfl rfl rfl rfl ?_ | refine o_storeN false rfl rfl rfl rfl rfl ?_))
    refine o_nil (then_normal ?_)
    refine c_block (c_round (fun i : Nat => [(0, bytA x), (1, bytA y), (5, intA i)]) (fun i => i ≤ x.length ∧ x.take i = y.take i) (fun i => x.length - i) 0 ⟨Nat.zero_le _, rfl⟩ (by repeat (first | exact True.intro | refine And.intro (.refl _) ?_ | refine And.intro (.any _) ?_)) rfl ?_)
    rintro i ⟨hi, ht⟩
    refine c_seq (c_seq (c_region ?_))
    repeat (first | (first | refine o_stepN true rfl rfl rfl rfl rfl rfl trivial ?_ | refine o_stepN false rfl rfl rfl rfl rfl rfl trivial ?_) | (first | refine o_storeN true rfl rfl rfl rfl rfl ?_ | refine o_storeN false rfl rfl rfl rfl rfl ?_))
    refine o_nil (then_normal ?_)
    refine c_cond rfl (fun h => ?_) (fun h => ?_)
    · refine c_skip (then_normal ?_)
      have hlt : i < x.length := by simp [bytesD_length] at h; omega
      have gx := bytesD_get x i hlt
      have gy := bytesD_get y i (by omega)
      refine c_seq (c_block (c_seq (c_draw mixed (by kernel_rfl) ?_)))
      repeat (first | (first | refine d_stepN true rfl rfl rfl rfl rfl rfl rfl rfl rfl rfl rfl trivial ?_ | refine d_stepN false rfl rfl rfl rfl rfl rfl rfl rfl rfl rfl rfl trivial ?_) | (first | refine d_storeN true rfl rfl rfl rfl rfl rfl rfl rfl rfl ?_ | refine d_storeN false rfl rfl rfl rfl rfl rfl rfl rfl rfl ?_))
      refine d_step rfl rfl rfl rfl rfl rfl rfl rfl rfl (by simp only [gx]; rfl) rfl (⟨by omega, by rw [bytesD_length]; omega⟩) ?_
      repeat (first | (first | refine d_stepN true rfl rfl rfl rfl rfl rfl rfl rfl rfl rfl rfl trivial ?_ | refine d_stepN false rfl rfl rfl rfl rfl rfl rfl rfl rfl rfl rfl trivial ?_) | (first | refine d_storeN true rfl rfl rfl rfl rfl rfl rfl rfl rfl ?_ | refine d_storeN false rfl rfl rfl rfl rfl rfl rfl rfl rfl ?_))
      refine d_step rfl rfl rfl rfl rfl rfl rfl rfl rfl (by simp only [gy]; rfl) rfl (⟨by omega, by rw [bytesD_length]; omega⟩) ?_
      repeat (first | (first | refine d_stepN true rfl rfl rfl rfl rfl rfl rfl rfl rfl rfl rfl trivial ?_ | refine d_stepN false rfl rfl rfl rfl rfl rfl rfl rfl rfl rfl rfl trivial ?_) | (first | refine d_storeN true rfl rfl rfl rfl rfl rfl rfl rfl rfl ?_ | refine d_storeN false rfl rfl rfl rfl rfl rfl rfl rfl rfl ?_))
      refine d_nil (by kernel_rfl) (then_normal ?_)
      refine c_cond rfl (fun h => ?_) (fun h => ?_)
      · refine c_seq (c_region ?_)
        repeat (first | (first | refine o_stepN true rfl rfl rfl rfl rfl rfl trivial ?_ | refine o_stepN false rfl rfl rfl rfl rfl rfl trivial ?_) | (first | refine o_storeN true rfl rfl rfl rfl rfl ?_ | refine o_storeN false rfl rfl rfl rfl rfl ?_))
        refine o_nil (then_normal (c_ret ?_))
        refine end0 rfl ?_
        have : x ≠ y := by rintro rfl; simp at h
        rw [decide_eq_false this]
        exact .refl _
      · refine c_skip ?_
        refine c_region ?_
        repeat (first | (first | refine o_stepN true rfl rfl rfl rfl rfl rfl trivial ?_ | refine o_stepN false rfl rfl rfl rfl rfl rfl trivial ?_) | (first | refine o_storeN true rfl rfl rfl rfl rfl ?_ | refine o_storeN false rfl rfl rfl rfl rfl ?_))
        refine o_nil ?_
        have hw : IntKind.i64.wrap ((i : Int) + 1) = ((i + 1 : Nat) : Int) := by rw [wrap_id (by omega) (by omega)]; rfl
        refine ⟨i + 1, ⟨by omega, ?_⟩, by omega, (by (try simp only [hw]); repeat (first | exact True.intro | refine And.intro (.refl _) ?_ | refine And.intro (.any _) ?_)), rfl⟩
        rw [List.take_succ_eq_append_getElem hlt, List.take_succ_eq_append_getElem (by omega), ht]
        congr 2
        have : (x[i].toNat : Int) = y[i].toNat := by simpa using h
        exact UInt8.toNat_inj.1 (by omega)
    · refine c_exit ?_
      refine c_seq (c_region ?_)
      repeat (first | (first | refine o_stepN true rfl rfl rfl rfl rfl rfl trivial ?_ | refine o_stepN false rfl rfl rfl rfl rfl rfl trivial ?_) | (first | refine o_storeN true rfl rfl rfl rfl rfl ?_ | refine o_storeN false rfl rfl rfl rfl rfl ?_))
      refine o_nil (then_normal (c_ret ?_))
      refine end0 rfl ?_
      have hge : i = x.length := by simp [bytesD_length] at h; omega
      have : x = y := by
        rw [hge, List.take_length] at ht
        rw [ht, hl, List.take_length]
      rw [decide_eq_true this]
      exact .refl _
end Go.Proofs.Ytimdogdplphmoaa
