/-
  The contract of the document's Right.
-/
import Derived.Test.YtimdogdplphmoaaRBytes
namespace Go.Proofs.Ytimdogdplphmoaa
open Go.RowKit

set_option maxHeartbeats 1000000 in
theorem rright_any (v : V) (A : Option Addr) (cb : Nat) (A' : Option Addr) (cl : Nat) (w : World) (hwt : v.wt ≤ 1000000) (hr : Rep w v A cb A' cl) :
    Calls Try.prog 14 #[vv v A cb A' cl] w fun e w' => e = .returned (.bool v.right) ∧ Below w.heap.size w w' := by
  have hc1 := rpure_any v.ht v A cb A' cl (w.alloc (.cells #[.int .i64 v.k, .int .i64 v.n, .slice A v.b.length cb, .slice A' v.l.length cl] 30)) (Nat.le_refl _) (by omega) (hr.alloc _)
  cases hp : v.rpure
  · have HE : Hid (v.right = false) := by show _ = _; rw [V.right, hp]; rfl
    rw [hp] at hc1
    have HC := Lib.hid hc1
    clear hp hc1
    go_enter Try.func14, Try.ntmps14
    go_wp2_with fail
    refine HC.out.mono ?_
    rintro e w1 ⟨rfl, hB⟩
    simp only [World.size_alloc] at hB
    go_wp2_with fail
    go_ret
    exact ⟨ret_bool HE.out.symm, unbox hB⟩
  · rw [hp] at hc1
    have HC := Lib.hid hc1
    have HP := Lib.hid hp
    have hht := V.ht_le_wt v
    have hdh := V.deep_le_ht _ v (Nat.le_refl _)
    clear hc1
    by_cases hd : v.deep ≤ 16
    · by_cases hs : v.sz ≤ 1048576
      · have HE : Hid (v.right = true) := by show _ = _; rw [V.right, hp]; simp [hd, hs]
        have hl : v.enc.length ≤ 1048576 := by rw [V.enc_length]; exact hs
        clear hp hs
        go_enter Try.func14, Try.ntmps14
        go_wp2_with fail
        refine HC.out.mono ?_
        rintro e w1 ⟨rfl, hB⟩
        simp only [World.size_alloc] at hB
        obtain ⟨q0, q1, q2, q3⟩ := box4 hB
        go_wp2_with fail
        refine (rdeep_any v.ht v A cb A' cl w1 (Nat.le_refl _) (by omega) (hr.below (unbox hB))).mono ?_
        rintro e w2 ⟨rfl, hB2⟩
        have hs1 := hB.size
        simp only [World.size_alloc] at hs1
        have hB3 := hB.trans (hB2.mono hs1)
        clear q0 q1 q2 q3 hB hB2
        obtain ⟨q0, q1, q2, q3⟩ := box4 hB3
        go_wp2_with fail
        refine (rbytes_any v.ht v A cb A' cl w2 (Nat.le_refl _) hwt HP.out (hr.below (unbox hB3))).mono ?_
        rintro e w3 ⟨A2, c2, rfl, _, _, hB4⟩
        have hs3 := hB3.size
        simp only [World.size_alloc] at hs3
        go_wp2_with fail
        go_ret
        exact ⟨ret_bool (by rw [HE.out]; simp; omega), unbox (hB3.trans (hB4.mono hs3))⟩
      · have HE : Hid (v.right = false) := by show _ = _; rw [V.right, hp]; simp [hs]
        have hl : 1048576 < v.enc.length := by rw [V.enc_length]; omega
        clear hp hs
        go_enter Try.func14, Try.ntmps14
        go_wp2_with fail
        refine HC.out.mono ?_
        rintro e w1 ⟨rfl, hB⟩
        simp only [World.size_alloc] at hB
        obtain ⟨q0, q1, q2, q3⟩ := box4 hB
        go_wp2_with fail
        refine (rdeep_any v.ht v A cb A' cl w1 (Nat.le_refl _) (by omega) (hr.below (unbox hB))).mono ?_
        rintro e w2 ⟨rfl, hB2⟩
        have hs1 := hB.size
        simp only [World.size_alloc] at hs1
        have hB3 := hB.trans (hB2.mono hs1)
        clear q0 q1 q2 q3 hB hB2
        obtain ⟨q0, q1, q2, q3⟩ := box4 hB3
        go_wp2_with fail
        refine (rbytes_any v.ht v A cb A' cl w2 (Nat.le_refl _) hwt HP.out (hr.below (unbox hB3))).mono ?_
        rintro e w3 ⟨A2, c2, rfl, _, _, hB4⟩
        have hs3 := hB3.size
        simp only [World.size_alloc] at hs3
        go_wp2_with fail
        go_ret
        exact ⟨ret_bool (by rw [HE.out]; simp; omega), unbox (hB3.trans (hB4.mono hs3))⟩
    · have HE : Hid (v.right = false) := by show _ = _; rw [V.right, hp]; simp [hd]
      clear hp
      go_enter Try.func14, Try.ntmps14
      go_wp2_with fail
      refine HC.out.mono ?_
      rintro e w1 ⟨rfl, hB⟩
      simp only [World.size_alloc] at hB
      obtain ⟨q0, q1, q2, q3⟩ := box4 hB
      go_wp2_with fail
      refine (rdeep_any v.ht v A cb A' cl w1 (Nat.le_refl _) (by omega) (hr.below (unbox hB))).mono ?_
      rintro e w2 ⟨rfl, hB2⟩
      have hs1 := hB.size
      simp only [World.size_alloc] at hs1
      have hB3 := hB.trans (hB2.mono hs1)
      go_wp2_with fail
      go_ret
      exact ⟨ret_bool HE.out.symm, unbox hB3⟩
end Go.Proofs.Ytimdogdplphmoaa
