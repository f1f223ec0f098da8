/-
  The contract of 'wal.Sum': over slices of bytes it returns the checksum of all their bytes, one behind the other, and changes nothing.
-/
import Derived.Test.YtimdogdplphmoaaWords
import Derived.Test.YtimdogdplphmoaaCrc
import Derived.Test.YtimdogdplphmoaaProg
import Derived.Laws.BitsAllLaws
import Derived.WalkLawsBesides
namespace Go.Proofs.Ytimdogdplphmoaa
open Go.RowKit

theorem not32 (x : Nat) (h : x < 4294967296) : bits .xor .u32 IntKind.u32.max (x : Int) = 4294967295 - (x : Int) := by
  have h1 := u32_xor_nat 4294967295 x (by decide) h
  have h2 : 4294967295 ^^^ x = 4294967295 - x := by
    have h3 := congrArg BitVec.toNat (BitVec.allOnes_xor (x := BitVec.ofNat 32 x))
    rw [BitVec.toNat_xor, BitVec.toNat_not, BitVec.toNat_allOnes, BitVec.toNat_ofNat, Nat.mod_eq_of_lt h] at h3
    exact h3
  rw [h2] at h1
  rw [show IntKind.u32.max = ((4294967295 : Nat) : Int) from rfl, h1]
  omega
theorem bits_and1 (x : Nat) (h : x < 4294967296) : bits .and .u32 (x : Int) 1 = ((x % 2 : Nat) : Int) := by
  have := u32_and_nat x 1 h (by decide)
  rw [nat_mask1] at this
  exact this

/-- Slices of bytes, side by side in memory. -/
def Rows2 (w : World) (A : Option Addr) (ps : List (List UInt8)) : Prop :=
  ∀ i (h : i < ps.length), ∃ ad A' c', A = some ad ∧ w.cell? (ad.add i) = some (.slice A' ps[i].length c') ∧ Byt w A' ps[i]

set_option maxHeartbeats 800000 in
theorem sum_any (ps : List (List UInt8)) (A : Option Addr) (c : Nat) (w : World) (hn : ps.length ≤ 1000) (hl : ∀ p ∈ ps, p.length ≤ 1000000) (hr : Rows2 w A ps) :
    Calls Try.prog 6 #[.slice A ps.length c] w fun e w' => e = .returned (.int .u32 (Crc.crc ps.flatten)) ∧ w = w' := by
  have HL := Lib.hid hl
  clear hl
  go_enter Try.func6, Try.ntmps6
  go_wp2
  go_loop [3, 10] (fun x i => ∃ k : Nat, k ≤ ps.length ∧ i = .int .i64 k ∧ x = .int .u32 (Crc.run 4294967295 (ps.take k).flatten : Nat)) (fun _ i => ps.length - (intOf i).toNat)
  case atStart => exact ⟨0, Nat.zero_le _, rfl, rfl⟩
  case round =>
    obtain ⟨k, hk, rfl, rfl⟩ := hrel
    by_cases hlt : k < ps.length
    · obtain ⟨ad, A', c', rfl, hc, hb⟩ := hr k hlt
      have hpl := HL.out _ (List.getElem_mem hlt)
      have HE2 : Hid (Crc.run 4294967295 (ps.take (k + 1)).flatten = Crc.run (Crc.run 4294967295 (ps.take k).flatten) ps[k]) := by
        show _ = _
        rw [List.take_succ_eq_append_getElem hlt, List.flatten_append, Crc.run_append]; simp
      go_wp2
      go_loop [3, 16] (fun x i => ∃ m : Nat, m ≤ ps[k].length ∧ i = .int .i64 m ∧ x = .int .u32 (Crc.run (Crc.run 4294967295 (ps.take k).flatten) (ps[k].take m) : Nat)) (fun _ i => ps[k].length - (intOf i).toNat)
      case atStart => exact ⟨0, Nat.zero_le _, rfl, rfl⟩
      case round =>
        obtain ⟨m, hm, rfl, rfl⟩ := hrel
        have hX : Crc.run (Crc.run 4294967295 (ps.take k).flatten) (ps[k].take m) < 4294967296 := Crc.run_lt _ (Crc.run_lt _ (by decide))
        by_cases hml : m < ps[k].length
        · obtain ⟨bd, rfl, hcb⟩ := hb.at_ hml
          have hsn : (ps[k].take (m + 1)) = ps[k].take m ++ [ps[k][m]] := by rw [List.take_succ_eq_append_getElem hml]
          have HE : Hid (Crc.run (Crc.run 4294967295 (ps.take k).flatten) (ps[k].take (m + 1)) = Crc.upd (Crc.run (Crc.run 4294967295 (ps.take k).flatten) (ps[k].take m)) ps[k][m].toNat) := by rw [hsn, Crc.run_snoc]; rfl
          clear hsn
          have hB : ps[k][m].toNat < 4294967296 := Nat.lt_of_lt_of_le (ps[k][m].toNat_lt) (by decide)
          have hxor := u32_xor_nat (Crc.run (Crc.run 4294967295 (ps.take k).flatten) (ps[k].take m)) ps[k][m].toNat hX hB
          go_wp2
          clear hxor
          have hY := Crc.xor_lt hX hB
          rw [Crc.upd] at HE
          generalize Crc.run (Crc.run 4294967295 (ps.take k).flatten) (ps[k].take m) ^^^ ps[k][m].toNat = Y at *
          go_loop [3, 24] (fun x i => ∃ j : Nat, j ≤ 8 ∧ i = .int .i64 j ∧ x = .int .u32 (Crc.stpN j Y : Nat)) (fun _ i => 8 - (intOf i).toNat)
          case atStart => exact ⟨0, Nat.zero_le _, rfl, rfl⟩
          case round =>
            obtain ⟨j, hj, rfl, rfl⟩ := hrel
            have hZ := Crc.stpN_lt j hY
            have HN := Lib.hid (Crc.stpN_succ j Y)
            generalize hz : Crc.stpN j Y = Z at *
            have HZ := Lib.hid hz
            clear hz
            by_cases hj8 : j < 8
            · by_cases hp : Z % 2 = 1
              · have ht : (bits .and .u32 (Z : Int) 1 == 1) = true := by rw [bits_and1 Z hZ, hp]; rfl
                have hs : bits .xor .u32 ((Z : Int) / 2) 3988292384 = ((Z / 2 ^^^ Crc.poly : Nat) : Int) := by
                  have := u32_xor_nat (Z / 2) Crc.poly (by omega) (by decide)
                  rw [show ((Z / 2 : Nat) : Int) = (Z : Int) / 2 from rfl, show ((Crc.poly : Nat) : Int) = 3988292384 from rfl] at this
                  exact this
                go_wp2
                go_round
                case rel => exact ⟨j + 1, by omega, by go_num, by rw [HN.out, Crc.stp, if_pos hp]⟩
                case measure => simp [intOf]; omega
              · have ht : (bits .and .u32 (Z : Int) 1 == 1) = false := by rw [bits_and1 Z hZ, show Z % 2 = 0 by omega]; rfl
                go_wp2
                go_round
                case rel => exact ⟨j + 1, by omega, by go_num, by rw [HN.out, Crc.stp, if_neg hp]; rfl⟩
                case measure => simp [intOf]; omega
            · obtain rfl : j = 8 := by omega
              go_wp2
              go_round
              case rel => exact ⟨m + 1, by omega, by go_num, by rw [HE.out, HZ.out]⟩
              case measure => simp [intOf]; omega
        · go_wp2
          go_round
          case rel => exact ⟨k + 1, by omega, by go_num, by rw [HE2.out, List.take_of_length_le (l := ps[k]) (by omega)]⟩
          case measure => simp [intOf]; omega
    · have hkk : ps.take k = ps := List.take_of_length_le (by omega)
      have hX : Crc.run 4294967295 ps.flatten < 4294967296 := Crc.run_lt _ (by decide)
      rw [hkk]
      clear hkk
      have HX : Hid (Crc.crc ps.flatten = 4294967295 - Crc.run 4294967295 ps.flatten) := rfl
      generalize Crc.run 4294967295 ps.flatten = X at *
      have hnot := not32 X hX
      go_wp2
      go_ret
      exact ⟨ret_int (by rw [HX.out]; omega), rfl⟩
theorem sum_at (ps : List (List UInt8)) (v : Nat) (A : Option Addr) (n c : Nat) (w : World) (hn : ps.length = n) (hv : Crc.crc ps.flatten = v) (h1 : ps.length ≤ 1000) (hl : ∀ p ∈ ps, p.length ≤ 1000000) (hr : Rows2 w A ps) :
    Calls Try.prog 6 #[.slice A n c] w fun e w' => e = .returned (.int .u32 (v : Int)) ∧ w = w' := by
  subst hn hv
  exact sum_any ps A c w h1 hl hr

theorem Rows2.one {w : World} {ad : Addr} {A : Option Addr} {n c : Nat} {bs : List UInt8} (hc : w.cell? ad = some (.slice A n c)) (hn : bs.length = n) (hb : Byt w A bs) : Rows2 w (some ad) [bs] := by
  subst hn
  intro i h
  obtain rfl : i = 0 := by simp at h; exact h
  exact ⟨ad, A, c, rfl, by simpa [add_zero] using hc, hb⟩
theorem Rows2.two {w : World} {ad : Addr} {A B : Option Addr} {n m c d : Nat} {xs bs : List UInt8} (hc : w.cell? ad = some (.slice A n c)) (hd : w.cell? (ad.add 1) = some (.slice B m d)) (hn : xs.length = n) (hm : bs.length = m)
    (ha : Byt w A xs) (hb : Byt w B bs) : Rows2 w (some ad) [xs, bs] := by
  subst hn hm
  intro i h
  match i, h with
  | 0, _ => exact ⟨ad, A, c, rfl, by simpa [add_zero] using hc, ha⟩
  | 1, _ => exact ⟨ad, B, d, rfl, by simpa using hd, hb⟩
theorem sum_one (X : Nat) (bs : List UInt8) (A : Option Addr) (n c cc : Nat) (ad : Addr) (w : World) (hn : bs.length = n) (hv : Crc.crc bs = X) (h1 : n ≤ 1000000) (hc : w.cell? ad = some (.slice A n c)) (hb : Byt w A bs) :
    Calls Try.prog 6 #[.slice (some ad) 1 cc] w fun e w' => e = .returned (.int .u32 (X : Int)) ∧ w = w' :=
  sum_at [bs] X _ 1 _ _ rfl (by simpa using hv) (by simp) (by simp only [List.mem_singleton]; rintro p rfl; omega) (Rows2.one hc hn hb)
theorem sum_two (X : Nat) (xs bs : List UInt8) (A B : Option Addr) (n m c d cc : Nat) (ad : Addr) (w : World) (hn : xs.length = n) (hm : bs.length = m) (hv : Crc.crc (xs ++ bs) = X) (h1 : n ≤ 1000000) (h2 : m ≤ 1000000)
    (hc : w.cell? ad = some (.slice A n c)) (hd : w.cell? (ad.add 1) = some (.slice B m d)) (ha : Byt w A xs) (hb : Byt w B bs) :
    Calls Try.prog 6 #[.slice (some ad) 2 cc] w fun e w' => e = .returned (.int .u32 (X : Int)) ∧ w = w' :=
  sum_at [xs, bs] X _ 2 _ _ rfl (by simpa using hv) (by simp) (by intro p hp; simp at hp; rcases hp with rfl | rfl <;> omega) (Rows2.two hc hd hn hm ha hb)
end Go.Proofs.Ytimdogdplphmoaa
