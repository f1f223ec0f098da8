/-
  The contracts of codec's Size and Depth, of the document's Pure and Right.
-/
import Derived.Test.YtimdogdplphmoaaMeasure
namespace Go.Proofs.Ytimdogdplphmoaa
open Go.RowKit

set_option maxHeartbeats 1000000 in
theorem size_any (v : V) (A : Option Addr) (cb : Nat) (A' : Option Addr) (cl : Nat) (w : World) (hwt : v.wt ≤ 1000000000000) (hr : Rep w v A cb A' cl) :
    Calls Try.prog 10 #[vv v A cb A' cl] w fun e w' => e = .returned (sizeV (V.sizeF v)) ∧ Below w.heap.size w w' := by
  have hcall := measure_any 16 16 1048576 v A cb A' cl (w.alloc (.cells #[.int .i64 v.k, .int .i64 v.n, .slice A v.b.length cb, .slice A' v.l.length cl] 30)) rfl (by omega) hwt (by omega) (by omega) (hr.alloc _)
  cases hm : V.mF v 1048576 16 with
  | none =>
    have HE : Hid (V.sizeF v = none) := by show _ = _; rw [V.sizeF, hm]
    rw [hm] at hcall
    clear hm
    have HC := Lib.hid hcall
    clear hcall
    go_enter Try.func10, Try.ntmps10
    go_wp2_with fail
    refine HC.out.mono ?_
    rintro e w1 ⟨rfl, hB⟩
    unfold sizeV
    simp only [Option.getD_none, Option.isSome_none]
    go_wp2_with fail
    go_ret2
    rw [HE.out]
    exact ⟨rfl, ((Below.refl _ _).alloc (Nat.le_refl _) _).trans (hB.mono (by simp))⟩
  | some m =>
    rw [hm] at hcall
    have HC := Lib.hid hcall
    clear hcall
    by_cases hle : m ≤ 1048576
    · have HE : Hid (V.sizeF v = some m) := by show _ = _; rw [V.sizeF, hm]; exact if_pos hle
      clear hm
      go_enter Try.func10, Try.ntmps10
      go_wp2_with fail
      refine HC.out.mono ?_
      rintro e w1 ⟨rfl, hB⟩
      unfold sizeV
      simp only [Option.getD_some, Option.isSome_some]
      go_wp2_with fail
      go_ret2
      rw [HE.out]
      exact ⟨rfl, ((Below.refl _ _).alloc (Nat.le_refl _) _).trans (hB.mono (by simp))⟩
    · have HE : Hid (V.sizeF v = none) := by show _ = _; rw [V.sizeF, hm]; exact if_neg hle
      clear hm
      go_enter Try.func10, Try.ntmps10
      go_wp2_with fail
      refine HC.out.mono ?_
      rintro e w1 ⟨rfl, hB⟩
      unfold sizeV
      simp only [Option.getD_some, Option.isSome_some]
      go_wp2_with fail
      go_ret2
      rw [HE.out]
      exact ⟨rfl, ((Below.refl _ _).alloc (Nat.le_refl _) _).trans (hB.mono (by simp))⟩

set_option maxHeartbeats 1000000 in
theorem codecDepth_any (v : V) (A : Option Addr) (cb : Nat) (A' : Option Addr) (cl : Nat) (w : World) (hwt : v.wt ≤ 1000000000000) (hr : Rep w v A cb A' cl) :
    Calls Try.prog 12 #[vv v A cb A' cl] w fun e w' => e = .returned (.int .i64 (min v.deep 17 : Nat)) ∧ Below w.heap.size w w' := by
  go_enter Try.func12, Try.ntmps12
  go_wp2_with fail
  refine (depth_any 17 17 v A cb A' cl (w.alloc _) rfl (by omega) hwt (hr.alloc _)).mono ?_
  rintro e w1 ⟨rfl, hB⟩
  generalize hX : min v.deep 17 = X
  have HX := Lib.hid hX
  clear hX
  go_wp2_with fail
  go_ret
  exact ⟨by rw [HX.out]; rfl, ((Below.refl _ _).alloc (Nat.le_refl _) _).trans (hB.mono (by simp))⟩
end Go.Proofs.Ytimdogdplphmoaa
