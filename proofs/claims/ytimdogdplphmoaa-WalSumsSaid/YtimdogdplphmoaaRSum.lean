/-
  The contract of the document's 'Sum': over bytes it returns their checksum, and changes nothing.
-/
import Derived.Test.YtimdogdplphmoaaSum
namespace Go.Proofs.Ytimdogdplphmoaa
open Go.RowKit

set_option maxHeartbeats 800000 in
theorem rsum_any (bs : List UInt8) (A : Option Addr) (c : Nat) (w : World) (hn : bs.length ≤ 1000000) (hr : Byt w A bs) :
    Calls Try.prog 7 #[.slice A bs.length c] w fun e w' => e = .returned (.int .u32 (Crc.crc bs)) ∧ w = w' := by
  go_enter Try.func7, Try.ntmps7
  go_wp2
  go_loop [3, 4] (fun x i => ∃ k : Nat, k ≤ bs.length ∧ i = .int .i64 k ∧ x = .int .u32 (Crc.run 4294967295 (bs.take k) : Nat)) (fun _ i => bs.length - (intOf i).toNat)
  case atStart => exact ⟨0, Nat.zero_le _, rfl, rfl⟩
  case round =>
    obtain ⟨k, hk, rfl, rfl⟩ := hrel
    have hX := Crc.run_lt (bs.take k) (x := 4294967295) (by decide)
    by_cases hlt : k < bs.length
    · obtain ⟨ad, rfl, hc⟩ := hr.at_ hlt
      have HE : Hid (Crc.run 4294967295 (bs.take (k + 1)) = Crc.rN 8 (Crc.run 4294967295 (bs.take k)) bs[k].toNat) := by
        show _ = _
        rw [List.take_succ_eq_append_getElem hlt, Crc.run_snoc, Crc.upd_eq]
      have hB := bs[k].toNat_lt
      generalize Crc.run 4294967295 (bs.take k) = X at *
      generalize bs[k].toNat = C at *
      go_wp2
      go_loop [3, 5, 6] (fun x y i => ∃ j : Nat, j ≤ 8 ∧ i = .int .i64 j ∧ x = .int .u32 (Crc.rN j X C : Nat) ∧ y = .int .u32 (C / 2 ^ j : Nat)) (fun _ _ i => 8 - (intOf i).toNat)
      case atStart => exact ⟨0, Nat.zero_le _, rfl, rfl, by simp⟩
      case round =>
        obtain ⟨j, hj, rfl, rfl, rfl⟩ := hrel
        have hZ : Crc.rN j X C < 4294967296 := Crc.rN_lt j hX
        have HN := Lib.hid (Crc.rN_succ j X C)
        have HD : Hid (C / 2 ^ (j + 1) = C / 2 ^ j / 2) := by show _ = _; rw [Nat.div_div_eq_div_mul, Nat.pow_succ]
        have hD : C / 2 ^ j < 256 := Nat.lt_of_le_of_lt (Nat.div_le_self _ _) hB
        generalize hz : Crc.rN j X C = Z at *
        have HZ := Lib.hid hz
        clear hz
        generalize C / 2 ^ j = D at *
        by_cases hj8 : j < 8
        · go_wp2
          · have hp : ((Z : Int) + D) % 2 = 1 := by
              have h : (((Z : Int) + D) % 2 == 1) = true := by assumption
              simpa using h
            have hs : bits .xor .u32 ((Z : Int) / 2) 3988292384 = ((Z / 2 ^^^ Crc.poly : Nat) : Int) := by
              have := u32_xor_nat (Z / 2) Crc.poly (by omega) (by decide)
              rw [show ((Z / 2 : Nat) : Int) = (Z : Int) / 2 from rfl, show ((Crc.poly : Nat) : Int) = 3988292384 from rfl] at this
              exact this
            go_round
            case rel => exact ⟨j + 1, by omega, by go_num, by rw [hs, HN.out, Crc.rx, if_pos (by omega)], by rw [HD.out]; rfl⟩
            case measure => simp [intOf]; omega
          · have hp : ¬ ((Z : Int) + D) % 2 = 1 := by
              have h : (((Z : Int) + D) % 2 == 1) = false := by assumption
              simpa using h
            go_round
            case rel => exact ⟨j + 1, by omega, by go_num, by rw [HN.out, Crc.rx, if_neg (by omega)]; rfl, by rw [HD.out]; rfl⟩
            case measure => simp [intOf]; omega
        · go_wp2
          go_round
          case rel => exact ⟨k + 1, by omega, by go_num, by rw [HE.out, ← HZ.out, show j = 8 by omega]⟩
          case measure => simp [intOf]; omega
    · have hkk : bs.take k = bs := List.take_of_length_le (by omega)
      have HX : Hid (Crc.crc bs = 4294967295 - Crc.run 4294967295 (bs.take k)) := by rw [hkk]; rfl
      clear hkk
      generalize Crc.run 4294967295 (bs.take k) = X at *
      go_wp2
      go_ret
      exact ⟨ret_int (by rw [HX.out]; omega), rfl⟩
theorem rsum_at (bs : List UInt8) (v : Nat) (A : Option Addr) (n c : Nat) (w : World) (hn : bs.length = n) (hv : Crc.crc bs = v) (h1 : bs.length ≤ 1000000) (hr : Byt w A bs) :
    Calls Try.prog 7 #[.slice A n c] w fun e w' => e = .returned (.int .u32 (v : Int)) ∧ w = w' := by
  subst hn hv
  exact rsum_any bs A c w h1 hr
end Go.Proofs.Ytimdogdplphmoaa
