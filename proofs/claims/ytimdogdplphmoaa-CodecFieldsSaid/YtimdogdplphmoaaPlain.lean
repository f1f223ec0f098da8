/-
  The contract of codec's plain: a number's bytes without noughts ahead.
-/
import Derived.Test.YtimdogdplphmoaaWord
namespace Go.Proofs.Ytimdogdplphmoaa
open Go.RowKit

set_option maxHeartbeats 1000000 in
theorem plain_any (n : Nat) (w : World) (hn : n ≤ 4611686018427387904) :
    Calls Try.prog 32 #[.int .i64 n] w (GivesB (plainB n) w) := by
  have hw8 := wid_le8 hn
  go_enter Try.func32, Try.ntmps32
  go_wp2_with fail
  refine (put_any n 8 _ hn (by omega) (by omega) hw8).mono ?_
  rintro e w1 ⟨A, c, rfl, hb, hc, hB⟩
  rw [be_length] at hc ⊢
  go_wp2_with fail
  go_loop [3] (fun v => ∃ (k : Nat) (A : Option Addr) (c : Nat), wid n ≤ k ∧ k ≤ 8 ∧ (k ≤ c ∧ c ≤ maxLen) ∧ v = .slice A k c ∧ New w w1 A (be k n)) (fun v => match v with | .slice _ k _ => k | _ => 0)
  case atStart => exact ⟨8, A, c, hw8, by omega, hc, rfl, hb⟩
  case round =>
    obtain ⟨k, A, c, hwk, hk8, hkc, rfl, hbn⟩ := hrel
    obtain ⟨hb, hfr⟩ := hbn
    by_cases hz : wid n < k
    · obtain ⟨j, rfl⟩ : ∃ j, k = j + 1 := ⟨k - 1, by omega⟩
      have hz0 := be_zero j n (by omega)
      have hbl := be_length (j + 1) n
      obtain ⟨ad, rfl, h0⟩ := hb.at_ (j := 0) (by omega)
      have HT := hb.cut (k := 1) (cap := c) (by omega)
      have h1 : (be (j + 1) n).drop 1 = be j n := by rw [hz0]; rfl
      have h2 : (be (j + 1) n)[0]'(by omega) = 0 := by simp [hz0]
      rw [h1] at HT
      rw [h2, add_zero] at h0
      clear h1 h2 hz0 hbl
      have ht : ((UInt8.toNat 0 : Int) == 0) = true := rfl
      go_wp2_with fail
      go_round
      case rel => exact ⟨j, _, c - 1, by omega, by omega, by omega, rfl, HT, by
        intro ad' e
        have h1 := hfr ad rfl
        split at e <;> (injection e with e; subst e; exact h1)⟩
      case measure => exact Nat.lt_succ_self j
    · obtain rfl : k = wid n := by omega
      have HP : Hid (plainB n = be (wid n) n) := rfl
      have hpl := plainB_length n
      rw [← HP.out] at hb
      clear hz hwk
      rcases Nat.eq_zero_or_pos (wid n) with h0 | h0
      · have HL : Hid ((plainB n).length = wid n) := hpl
        clear hpl
        generalize wid n = k at *
        subst h0
        go_wp2_with fail
        go_ret
        exact ⟨A, c, by rw [HL.out]; rfl, ⟨hb, hfr⟩, by rw [HL.out]; exact ⟨by omega, by omega⟩, hB⟩
      · obtain ⟨j, hj⟩ : ∃ j, wid n = j + 1 := ⟨wid n - 1, by omega⟩
        obtain ⟨b0, hbe, hb0⟩ := be_first j n hj
        rw [← hj, ← HP.out] at hbe
        obtain ⟨ad, rfl, hc0⟩ := hb.at_ (j := 0) (by omega)
        rw [add_zero] at hc0
        have h2 : (plainB n)[0]'(by omega) = b0 := by simp [hbe]
        rw [h2] at hc0
        have ht : ((b0.toNat : Int) == 0) = false := by
          rw [beq_eq_false_iff_ne]
          intro h
          exact hb0 (UInt8.toNat_inj.1 (by have : (0 : UInt8).toNat = 0 := rfl; omega))
        have HL : Hid ((plainB n).length = wid n) := hpl
        clear hpl h2 hbe hj
        generalize wid n = k at *
        go_wp2_with fail
        go_ret
        exact ⟨_, c, by rw [HL.out]; rfl, ⟨hb, hfr⟩, by rw [HL.out]; exact ⟨by omega, by omega⟩, hB⟩
end Go.Proofs.Ytimdogdplphmoaa
