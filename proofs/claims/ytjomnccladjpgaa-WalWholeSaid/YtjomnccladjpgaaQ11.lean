/-
  The contract of slices.Clone over sectors.
-/
import Derived.Test.YtjomnccladjpgaaQ10
import Derived.Test.YtjomnccladjpgaaQ09
set_option linter.unusedVariables false
set_option linter.unusedSimpArgs false
namespace Go.Proofs.Ytjomnccladjpgaa
open Go Go.RowKit
set_option linter.unusedVariables false
set_option maxHeartbeats 4000000
set_option maxRecDepth 20000
theorem fc_slices_Clone_sector (p0 : List (List UInt8)) (r : List (List UInt8)) (h : m_slices_Clone_sector p0 = some r) : FC Try.prog 73 [.t (.d (.seq 64 (List.map cA64_cU8 p0)))] [] (.t (.own 119 64 (List.map cA64_cU8 r))) := by
  refine fc_mk (rs := [.tmp 2]) (n := 8) Try.func73 rfl rfl (Nat.le_of_ble_eq_true rfl) rfl (pins := []) rfl (L := [(0, .t (.d (.seq 64 (List.map cA64_cU8 p0))))]) rfl ?_
  have hr : r = p0 := by
    have := (appI_iff h).2
    simpa using this
  refine c_seq ?_
  refine c_region ?_
  refine o_s (.t (.d (.lit (.slice none 0 0)))) (g0 rfl) rfl rfl rfl ?_
  refine o_nil ?_
  refine then_normal ?_
  refine c_seq ?_
  refine c_seq ?_
  refine c_nil (l1 := [_]) (k := 64) (l := List.map cA64_cU8 p0) rfl rfl rfl rfl ?_
  refine o_s (.t (.d (.seq 64 (List.map cA64_cU8 p0)))) (g0 rfl) rfl rfl rfl ?_
  refine o_nil ⟨rfl, rfl, fun b hb => ?_⟩
  refine then_normal ?_
  refine c_cond rfl (fun hc => ?_) (fun hc => ?_)
  · have hb := hb hc
    have hp : p0 = [] := by simpa using hb
    refine c_seq ?_
    refine c_region ?_
    refine o_s (.t (.d (.lit (.slice none 0 0)))) (g0 rfl) rfl rfl rfl ?_
    refine o_nil ?_
    refine then_normal ?_
    refine c_ret ?_
    repeat (refine then_ret ?_)
    subst hr hp
    exact end0 rfl (.t (.nilOwn _ _))
  · refine c_skip ?_
    refine then_normal ?_
    refine c_seq ?_
    refine c_region ?_
    refine o_b0 (.t (.own 119 64 (List.map cA64_cU8 []))) (g0 rfl) rfl rfl rfl rfl rfl ?_
    refine o_s (.t (.d (.seq 64 (List.map cA64_cU8 p0)))) (g0 rfl) rfl rfl rfl ?_
    refine o_2c (g0 rfl) rfl rfl rfl (appE (c := cA64_cU8) h) (appC (c := cA64_cU8) h) ?_
    refine o_2 (.t (.d (.seq 64 (List.map cA64_cU8 r)))) (.t (.own 119 64 (List.map cA64_cU8 r))) (g0 rfl) rfl rfl rfl ?_
    refine o_nil ?_
    refine then_normal ?_
    refine c_ret ?_
    exact end0 rfl (.refl _)
end Go.Proofs.Ytjomnccladjpgaa
