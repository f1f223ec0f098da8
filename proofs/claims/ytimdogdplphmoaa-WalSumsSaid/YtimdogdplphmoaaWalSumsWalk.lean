/-
  The walk of the law 'WalSums': whatever the bytes, the cut and the bit, it returns true and changes nothing that was there.
-/
import Derived.Test.YtimdogdplphmoaaRSum
import Derived.Test.YtimdogdplphmoaaApp
import Derived.WalkSpells
import Derived.Deep.RegionHeld3
namespace Go.Proofs.Ytimdogdplphmoaa
open Go.RowKit

set_option maxHeartbeats 1000000 in
theorem walSums_long (bs : List UInt8) (A : Option Addr) (cap : Nat) (a1 a2 : Int) (w : World) (hl : 300 < bs.length) :
    Calls Try.prog 3 #[.slice A bs.length cap, .int .u16 a1, .int .u16 a2] w fun e w' => e = .returned (.bool true) ∧ Below w.heap.size w w' := by
  go_enter Try.func3, Try.ntmps3
  go_wp2_with fail
  refine (sum_at [[49, 50, 51, 52, 53, 54, 55, 56, 57]] 3421780262 _ _ _ _ rfl Crc.crc_example (by simp) (by simp) ?_).mono ?_
  · refine Rows2.one (A := some ⟨w.heap.size, 0, none⟩) (n := 9) (c := 9) (by simp) rfl ?_
    exact Byt.of_block ((Below.heap_alloc _ _ _ (by simp)).trans (heap_alloc_new _ _)) rfl
  rintro e w1 ⟨rfl, rfl⟩
  go_wp2_with fail
  go_ret
  exact ⟨rfl, ((Below.refl _ _).alloc (Nat.le_refl _) _).alloc (by simp) _⟩

theorem el_u8 : ElemOf Try.prog 22 5 1 1 := .mk' (z := .int .u8 0) Try.underlying22 (by kernel_rfl) rfl (by decide) (by decide)

theorem two_pow_lt {r : Nat} (h : r < 8) : 2 ^ r < 256 ∧ 0 < 2 ^ r := ⟨Nat.pow_lt_pow_right (by decide) h, Nat.two_pow_pos r⟩
theorem flip_ne (b : UInt8) (r : Nat) (h : r < 8) : b ^^^ UInt8.ofNat (2 ^ r) ≠ b := by
  intro he
  have h1 := congrArg (b ^^^ ·) he
  simp only [← UInt8.xor_assoc, UInt8.xor_self, UInt8.zero_xor] at h1
  have h2 := congrArg UInt8.toNat h1
  have := two_pow_lt h
  rw [UInt8.toNat_ofNat', Nat.mod_eq_of_lt this.1] at h2
  have h3 : (0 : UInt8).toNat = 0 := rfl
  omega
theorem flip_bits (b : UInt8) (r : Nat) (h : r < 8) : Value.int .u8 (bits .xor .u8 (b.toNat : Int) (2 ^ r % 256)) = u8 (b ^^^ UInt8.ofNat (2 ^ r)) := by
  have hp := two_pow_lt h
  have h1 := u8_xor_nat b.toNat (2 ^ r) b.toNat_lt hp.1
  have h2 : ((2 : Int) ^ r % 256) = ((2 ^ r : Nat) : Int) := by
    rw [Int.natCast_pow]
    have : ((2 ^ r : Nat) : Int) < 256 := by omega
    rw [Int.natCast_pow] at this
    exact Int.emod_eq_of_lt (Int.pow_nonneg (by decide)) this
  rw [h2, h1, u8, UInt8.toNat_xor, UInt8.toNat_ofNat', Nat.mod_eq_of_lt hp.1]

theorem sum_cut (X : Nat) (bs : List UInt8) (A T : Option Addr) (k m cap cc : Nat) (W : World) (hb : Byt W A bs) (hT : Byt W T (bs.drop k)) (hk : k ≤ bs.length) (hm : bs.length - k = m) (hl : bs.length ≤ 1000) (hX : Crc.crc bs = X) :
    Calls Try.prog 6 #[.slice (some ⟨W.heap.size, 0, none⟩) 2 cc]
      (W.alloc (.cells #[.slice A k cap, .slice T m (cap - k)] 22)).drew
      fun e w' => e = .returned (.int .u32 (X : Int)) ∧ (W.alloc (.cells #[.slice A k cap, .slice T m (cap - k)] 22)).drew = w' := by
  refine sum_two X (bs.take k) (bs.drop k) A _ k m cap (cap - k) cc _ _ ?_ ?_ ?_ (by omega) (by omega) (cell_newd rfl 0) (cell_newd rfl 1) (Byt.drew ((hb.take _).alloc _)) (Byt.drew (hT.alloc _))
  · simp; omega
  · simp; omega
  · rw [List.take_append_drop]; exact hX

set_option maxHeartbeats 1000000 in
theorem walSums_short (bs : List UInt8) (A : Option Addr) (cap : Nat) (a1 : Nat) (a2 : Nat) (w : World) (hb : Byt w A bs) (hc : bs.length ≤ cap) (hl : bs.length ≤ 300) (b1 : a1 < 65536) (b2 : a2 < 65536) :
    Calls Try.prog 3 #[.slice A bs.length cap, .int .u16 a1, .int .u16 a2] w fun e w' => e = .returned (.bool true) ∧ Below w.heap.size w w' := by
  go_enter Try.func3, Try.ntmps3
  go_wp2_with fail
  refine (sum_at [[49, 50, 51, 52, 53, 54, 55, 56, 57]] 3421780262 _ _ _ _ rfl Crc.crc_example (by simp) (by simp) ?_).mono ?_
  · refine Rows2.one (A := some ⟨w.heap.size, 0, none⟩) (n := 9) (c := 9) (by simp) rfl ?_
    exact Byt.of_block ((Below.heap_alloc _ _ _ (by simp)).trans (heap_alloc_new _ _)) rfl
  rintro e w1 ⟨rfl, rfl⟩
  obtain ⟨k, hk, hmin⟩ : ∃ k : Nat, k ≤ bs.length ∧ (if bs.length < a1 then (bs.length : Int) else (a1 : Int)) = (k : Int) := by
    by_cases h : bs.length < a1
    · exact ⟨bs.length, Nat.le_refl _, by rw [if_pos h]⟩
    · exact ⟨a1, by omega, by rw [if_neg h]⟩
  go_wp2_with fail
  refine (sum_one (Crc.crc bs) bs A bs.length cap _ _ _ rfl rfl (by omega) (cell_new (by simp) 0) (((hb.alloc _).alloc _).alloc _)).mono ?_
  rintro e w1 ⟨rfl, rfl⟩
  go_wp2_with fail
  refine wp_abs (fun W => Byt W A bs ∧ Below w.heap.size w W) ⟨((hb.alloc _).alloc _).alloc _, (((Below.refl _ _).alloc (Nat.le_refl _) _).alloc (by simp) _).alloc (by simp; omega) _⟩ ?_
  intro W hBW
  obtain ⟨hbW, hBW⟩ := hBW
  have hx := Crc.crc_le bs
  generalize hX : Crc.crc bs = X at *
  have HX := Lib.hid hX
  clear hX
  obtain ⟨T, hif⟩ : ∃ T, (if cap = k then A else Option.map (fun x => x.add k) A) = T := ⟨_, rfl⟩
  have hT : Byt W T (bs.drop k) := hif ▸ hbW.cut hc
  have j1 : (0 : Int) ≤ (k : Int) := by omega
  have j2 : (k : Int) ≤ (bs.length : Int) := by omega
  have j3 : (bs.length : Int) ≤ (cap : Int) := by omega
  have j4 : (k : Int) ≤ (cap : Int) := by omega
  go_region_held3 (fun w' => Byt w' A bs ∧ Below w.heap.size w w') (first | exact ⟨hbW, hBW⟩ | exact ⟨hbW.drew, hBW.drew⟩ | exact ⟨Byt.alloc hbW _, hBW.alloc hBW.size _⟩ | exact ⟨Byt.drew (Byt.alloc hbW _), (hBW.alloc hBW.size _).drew⟩) (first
    | (go_at_call 7; with_reducible refine (rsum_at bs X _ _ _ _ rfl HX.out (by omega) hbW.drew).mono ?_; rintro e w1 ⟨rfl, rfl⟩)
    | (go_at_call 6; with_reducible refine (sum_cut X bs A T k (bs.length - k) cap _ W hbW hT (by omega) (by omega) (by omega) HX.out).mono ?_; rintro e w1 ⟨rfl, rfl⟩))
  clear hif hT hmin
  by_cases h0 : bs.length = 0
  · have he : ((bs.length : Int) == 0) = true := by simp [h0]
    have hx0 : ((X : Int) == 0) = true := by
      have : bs = [] := List.eq_nil_of_length_eq_zero h0
      have h2 := HX.out
      rw [this, Crc.crc_nil] at h2
      simp [← h2]
    clear h0
    go_wp2_with fail
    go_ret
    exact ⟨rfl, (hBW.alloc hBW.size _).drew⟩
  · have he : ((bs.length : Int) == 0) = false := by rw [beq_eq_false_iff_ne]; omega
    have hsz := hBW.size
    obtain ⟨ad, rfl, hcell0⟩ := hbW.at_ (j := 0) (by omega)
    clear hcell0
    go_upto_region 11 with (fail)
    refine wp_abs (fun W => Byt W (some ad) bs ∧ Below w.heap.size w W) ⟨(hbW.alloc _).drew, (hBW.alloc hBW.size _).drew⟩ ?_
    clear hbW hBW hsz
    intro W2 hB2
    obtain ⟨hb2, hB2⟩ := hB2
    have hsz := hB2.size
    go_wp2_with (first | (at_builtin; go_loud (refine wpList_app _ el_u8 rfl _ _ rfl (W2.heap.size) _ 0 0 [] rfl (Own.litAt #[] _ 1 0 [] rfl (Nat.le_refl _) (by decide) rfl rfl) (some ad) bs.length cap (bs.map u8) rfl (by simp) (hb2.alloc _) (u8_one _) (by omega) (by simp) ?_)))
    intro A2 c2 w3 hown hg hblk
    obtain ⟨g, rfl, hg1, hg2⟩ := hown.some (by omega)
    have hB3 : Below w.heap.size w w3 := (Own.litAt (B := W2.heap.size) #[] 5 1 0 [] rfl (Nat.le_refl _) (by decide) rfl rfl).belowOf (hB2.alloc hsz _) hg (by simp; omega) hsz
    have hg1' : w.heap.size ≤ g := Nat.le_trans hsz hg1
    clear hg hblk hB2 hb2
    obtain ⟨N, hNl, hN⟩ : ∃ N : Nat, N < 8 * bs.length ∧ ((a2 : Int) % (8 * (bs.length : Int))) = (N : Int) := ⟨a2 % (8 * bs.length), Nat.mod_lt _ (by omega), by rw [Int.natCast_emod, Int.natCast_mul]; rfl⟩
    obtain ⟨q, hq⟩ : ∃ q : Nat, N / 8 = q := ⟨_, rfl⟩
    obtain ⟨r, hr⟩ : ∃ r : Nat, N % 8 = r := ⟨_, rfl⟩
    have i1 : (N : Int).tdiv 8 = (q : Int) := by rw [← hq]; rfl
    have i2 : (N : Int).tmod 8 = (r : Int) := by rw [← hr]; rfl
    have i3 : IntKind.i64.wrap (q : Int) = (q : Int) := IntWalk.i64_in _ (by omega)
    have i4 : (q : Int) < (bs.length : Int) := by omega
    have i5 : (0 : Int) ≤ (q : Int) := by omega
    have i6 : (r : Int) < 8 := by omega
    have i7 : (0 : Int) ≤ (r : Int) := by omega
    have hNq : q < bs.length := by omega
    have hr8 : r < 8 := by omega
    clear hq hr
    have hcell : w3.cell? ⟨g, q, none⟩ = some (.int .u8 (bs[q].toNat : Int)) := by
      have := hown.cellAt q (by omega)
      rw [this]
      simp [u8, hNq]
    have hfr : w3.frozen? ⟨g, q, none⟩ = false := hown.frozenAt _
    go_wp2_with fail
    go_still_tail 13, (by kernel_rfl)
    change wpList _ _ _ _ _ w3.drew
    obtain ⟨Y, hY⟩ : ∃ Y, Crc.crc (bs.set q (bs[q] ^^^ UInt8.ofNat (2 ^ r))) = Y := ⟨_, rfl⟩
    have hne : ((Y : Int) != (X : Int)) = true := by
      have h1 := Crc.crc_turned (bs.take q) (bs.drop (q + 1)) (bs[q] ^^^ UInt8.ofNat (2 ^ r)) bs[q] (flip_ne bs[q] r hr8)
      have e1 : bs.set q (bs[q] ^^^ UInt8.ofNat (2 ^ r)) = bs.take q ++ (bs[q] ^^^ UInt8.ofNat (2 ^ r)) :: bs.drop (q + 1) := by rw [List.set_eq_take_append_cons_drop, if_pos hNq]
      have e2 : bs = bs.take q ++ bs[q] :: bs.drop (q + 1) := by rw [← List.drop_eq_getElem_cons hNq, List.take_append_drop]
      rw [← e1, ← e2, hY, HX.out] at h1
      rw [bne_iff_ne]
      omega
    have HY := Lib.hid hY
    clear hY
    have HO := Lib.hid (hown.stored q (.int .u8 (bits .xor .u8 (bs[q].toNat : Int) (2 ^ r % 256))))
    go_wp2_with fail
    rw [flip_bits bs[q] r hr8] at HO ⊢
    have hO2 : Own (w3.setCell ⟨g, q, none⟩ (u8 (bs[q] ^^^ UInt8.ofNat (2 ^ r)))) W2.heap.size 5 1 (some ⟨g, 0, none⟩) bs.length c2 ((bs.set q (bs[q] ^^^ UInt8.ofNat (2 ^ r))).map u8) := by
      rw [List.map_set]; exact HO.out.1
    refine (sum_one Y (bs.set q (bs[q] ^^^ UInt8.ofNat (2 ^ r))) _ bs.length c2 _ _ _ (by simp) HY.out (by omega) (cell_newd (by simp) 0) ((hO2.alloc _).drew.row)).mono ?_
    rintro e w4 ⟨rfl, rfl⟩
    go_wp2_with fail
    go_ret
    exact ⟨rfl, (((hB3.setCell hg1' _)).alloc (by simp; omega) _).drew⟩
end Go.Proofs.Ytimdogdplphmoaa
