/-
  What the library's functions do: a copy of a slice; the program's numbers as bytes.
-/
import Derived.Test.YteopjhakjeknaaaDoorGen2
import Derived.Test.YteopjhakjeknaaaDoorImport
import Derived.Test.YteopjhakjeknaaaDoorWord
namespace Go.Proofs.YteopjhakjeknaaaDoor
open Go Go.RowKit
set_option linter.unusedVariables false
set_option maxHeartbeats 4000000
set_option maxRecDepth 20000
theorem fc_slices_Clone_byte (p0 : List UInt8) (r : List UInt8) (h : m_slices_Clone_byte p0 = some r) : FC Tryd.prog 39 [.t (.d (.seq 1 (bytesD p0)))] [] (.t (.d (.seq 1 (bytesD r)))) := by
  refine fc_mk (rs := [.tmp 2]) (n := 8) Tryd.func39 rfl rfl (Nat.le_of_ble_eq_true rfl) rfl (pins := []) rfl (L := [(0, .t (.d (.seq 1 (bytesD p0))))]) rfl ?_
  have hr : r = p0 := by
    have := (appI_iff h).2
    simpa using this
  refine c_seq ?_
  refine c_region ?_
  refine o_s (.t (.d (.lit (.slice none 0 0)))) (g0 rfl) rfl rfl rfl ?_
  refine o_nil ?_
  refine then_normal ?_
  refine c_seq ?_
  refine c_seq ?_
  refine c_nil (l1 := [_]) (k := 1) (l := bytesD p0) rfl rfl rfl rfl ?_
  refine o_s (.t (.d (.seq 1 (bytesD p0)))) (g0 rfl) rfl rfl rfl ?_
  refine o_nil ⟨rfl, rfl, fun b hb => ?_⟩
  refine then_normal ?_
  refine c_cond rfl (fun hc => ?_) (fun hc => ?_)
  · have hb := hb hc
    have hp : p0 = [] := by unfold bytesD at hb; simpa using hb
    refine c_seq ?_
    refine c_region ?_
    refine o_s (.t (.d (.lit (.slice none 0 0)))) (g0 rfl) rfl rfl rfl ?_
    refine o_nil ?_
    refine then_normal ?_
    refine c_ret ?_
    repeat (refine then_ret ?_)
    subst hr hp
    exact end0 rfl (.t (.d (.nil _)))
  · refine c_skip ?_
    refine then_normal ?_
    refine c_seq ?_
    refine c_region ?_
    refine o_b0 (.t (.own 5 1 (List.map cU8 []))) (g0 rfl) rfl rfl rfl rfl rfl ?_
    refine o_s (.t (.d (.seq 1 (bytesD p0)))) (g0 rfl) rfl rfl rfl ?_
    refine o_2c (g0 rfl) rfl rfl rfl (appE (c := cU8) h) (appC (c := cU8) h) ?_
    refine o_2 (.t (.d (.seq 1 (bytesD r)))) (.t (.own 5 1 (bytesD r))) (g0 rfl) rfl rfl rfl ?_
    refine o_nil ?_
    refine then_normal ?_
    refine c_ret ?_
    exact end0 rfl (.t (.own _ _ _))
theorem fc_word_Put (p0 p1 : Int) (r : List UInt8 × Int) (h : m_word_Put p0 p1 = some r) : FC Tryd.prog 35 [.t (.d (.lit (.int .i64 p0))), .t (.d (.lit (.int .i64 p1)))] [] (.tup [.d (.seq 1 (bytesD r.1)), .d (.lit (.int .i64 r.2))]) := by
  unfold m_word_Put at h
  split at h
  case isFalse => cases h
  rename_i hc
  injection h with h
  subst h
  obtain ⟨h1, h2, h3, h4, h5⟩ := hc
  obtain ⟨n, rfl⟩ := Int.eq_ofNat_of_zero_le h1
  obtain ⟨k, rfl⟩ := Int.eq_ofNat_of_zero_le (show 0 ≤ p1 by omega)
  refine fc_bytes_err fun w m o vals hs hrep => ?_
  rw [vals2 hs (int_of (hrep 0)) (int_of (hrep 1))]
  simp only [Int.toNat_natCast] at h5 ⊢
  exact put_any n k w (by omega) (by omega) (by omega) ((lt_wid k n).1 h5)
end Go.Proofs.YteopjhakjeknaaaDoor
