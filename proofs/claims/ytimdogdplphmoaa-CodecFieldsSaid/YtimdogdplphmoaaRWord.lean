/-
  The contracts of the document's Same, Low, Turned and Put (layer 1).
-/
import Derived.Test.YtimdogdplphmoaaApp
import Derived.Test.YtimdogdplphmoaaBe
import Derived.Test.YtimdogdplphmoaaProg
namespace Go.Proofs.Ytimdogdplphmoaa
open Go.RowKit

theorem el_u8 : ElemOf Try.prog 22 5 1 1 := .mk' (z := .int .u8 0) Try.underlying22 (by kernel_rfl) rfl (by decide) (by decide)

/-- Bytes behind A, in memory that is newer than w. -/
def New (w w' : World) (A : Option Addr) (bs : List UInt8) : Prop := Byt w' A bs ∧ ∀ ad, A = some ad → w.heap.size ≤ ad.block
theorem New.from {w w1 w' : World} {A : Option Addr} {bs : List UInt8} (h : New w1 w' A bs) (hs : w.heap.size ≤ w1.heap.size) : New w w' A bs := ⟨h.1, fun ad e => Nat.le_trans hs (h.2 ad e)⟩

/-- The call hands back bytes; nothing that was there has turned. -/
def GivesB (bs : List UInt8) (w : World) (e : Ending) (w' : World) : Prop := ∃ A c, e = .returned (.slice A bs.length c) ∧ New w w' A bs ∧ (bs.length ≤ c ∧ c ≤ maxLen) ∧ Below w.heap.size w w'
/-- .. and an error's number beside them. -/
def GivesBE (bs : List UInt8) (er : Int) (w : World) (e : Ending) (w' : World) : Prop := ∃ A c, e = .returned (.tuple #[.slice A bs.length c, .int .i64 er]) ∧ New w w' A bs ∧ (bs.length ≤ c ∧ c ≤ maxLen) ∧ Below w.heap.size w w'

theorem Own.byt {w : World} {B : Nat} {e : TypeId} {A : Option Addr} {n c : Nat} {bs : List UInt8} (h : Own w B e 1 A n c (u8s bs)) : (Byt w A bs ∧ ∀ ad, A = some ad → B ≤ ad.block) ∧ bs.length = n ∧ (bs.length ≤ c ∧ c ≤ maxLen) :=
  ⟨⟨h.row, fun ad e => (h.lt ad.block (by rw [e]; rfl)).1⟩, by have := h.len; rw [u8s_length] at this; omega, ⟨by have := h.len; have := h.cap; rw [u8s_length] at *; omega, h.capMax⟩⟩

set_option maxHeartbeats 1000000 in
theorem same_any (as_ bs : List UInt8) (A B : Option Addr) (n m c d : Nat) (w : World) (hn : as_.length = n) (hm : bs.length = m) (hl : n ≤ 1000000000000) (ha : Byt w A as_) (hb : Byt w B bs) :
    Calls Try.prog 16 #[.slice A n c, .slice B m d] w fun e w' => e = .returned (.bool (decide (as_ = bs))) ∧ ∃ k, w' = w.drewN k := by
  by_cases hnm : n = m
  · have HL : Hid (as_.length = bs.length) := by show _ = _; omega
    subst hnm
    have hme : ((n : Int) != (n : Int)) = false := by simp
    have hn1 : as_.length ≤ n := by omega
    have hn2 : n ≤ as_.length := by omega
    have hm1 : n ≤ bs.length := by omega
    clear hn hm
    go_enter Try.func16, Try.ntmps16
    go_wp2_with fail
    go_loopw [5] (fun i wr => ∃ (k q : Nat), k ≤ n ∧ i = .int .i64 k ∧ wr = w.drewN q ∧ Hid (as_.take k = bs.take k)) (fun i _ => n - (intOf i).toNat)
    case atStart => exact ⟨0, 0, Nat.zero_le _, rfl, rfl, rfl⟩
    case round =>
      obtain ⟨k, q, hk, rfl, rfl, HT⟩ := hrel
      by_cases hlt : k < n
      · obtain ⟨ad, rfl, h0⟩ := ha.at_ (j := k) (by omega)
        obtain ⟨bd, rfl, h1⟩ := hb.at_ (j := k) (by omega)
        have i1 : (0 : Int) ≤ (k : Int) := by omega
        have i2 : (k : Int) < (n : Int) := by omega
        have HA : Hid (as_.take (k + 1) = as_.take k ++ [as_[k]]) := List.take_succ_eq_append_getElem (by omega)
        have HB : Hid (bs.take (k + 1) = bs.take k ++ [bs[k]]) := List.take_succ_eq_append_getElem (by omega)
        have HN : Hid (as_ = bs → as_[k] = bs[k]) := by intro h; subst h; rfl
        generalize as_[k] = x at *
        generalize bs[k] = y at *
        by_cases hxy : x = y
        · subst hxy
          have ht : ((x.toNat : Int) != (x.toNat : Int)) = false := by simp
          go_wp2_with fail
          go_quiet (fail)
          go_wp2_with fail
          go_roundw
          case rel => exact ⟨k + 1, _, by omega, by go_num, rfl, by show _ = _; rw [HA.out, HB.out, HT.out]⟩
          case measure => simp [intOf]; omega
        · have ht : ((x.toNat : Int) != (y.toNat : Int)) = true := by
            rw [bne_iff_ne]
            intro h
            exact hxy (UInt8.toNat_inj.1 (by omega))
          go_wp2_with fail
          go_quiet (fail)
          go_wp2_with fail
          go_ret
          exact ⟨ret_bool (by rw [eq_comm, decide_eq_false_iff_not]; exact fun h => hxy (HN.out h)), _, World.drewN_drewN _ _ _⟩
      · have HE : Hid (as_ = bs) := by
          have h1 := HT.out
          rw [List.take_of_length_le (by omega), List.take_of_length_le (by have := HL.out; omega)] at h1
          exact h1
        go_wp2_with fail
        go_ret
        exact ⟨ret_bool (by rw [eq_comm, decide_eq_true_iff]; exact HE.out), q, rfl⟩
  · have h1 : ((n : Int) != (m : Int)) = true := by rw [bne_iff_ne]; omega
    go_enter Try.func16, Try.ntmps16
    go_wp2_with fail
    go_ret
    exact ⟨ret_bool (by simp; intro h; subst h; omega), 0, rfl⟩

set_option maxHeartbeats 1000000 in
theorem rlow_any (n size : Nat) (w : World) (hn : n ≤ 4611686018427387904) (h1 : 1 ≤ size) (h8 : size ≤ 8) (hw : wid n ≤ size) :
    Calls Try.prog 34 #[.int .i64 n, .int .i64 size] w (GivesBE (le size n) 0 w) := by
  go_enter Try.func34, Try.ntmps34
  go_wp2_with fail
  go_loopw [0, 6, 7] (fun x v i wr => ∃ (k : Nat) (A : Option Addr) (c : Nat), k ≤ size ∧ i = .int .i64 k ∧ x = .int .i64 (n / 256 ^ k : Nat) ∧ v = .slice A k c ∧ Own wr w.heap.size 5 1 A k c (u8s (le k n)) ∧ Below w.heap.size w wr)
    (fun _ _ i _ => size - (intOf i).toNat)
  case atStart => exact ⟨0, none, 0, Nat.zero_le _, rfl, by simp, rfl, Own.nil _ _ _ _, Below.refl _ _⟩
  case round =>
    obtain ⟨k, A, c, hk, rfl, rfl, rfl, hO, hB⟩ := hrel
    have HQ := Lib.hid (div_pow_succ n k)
    have HS := Lib.hid (le_snoc k n)
    have hq : n / 256 ^ k ≤ n := Nat.div_le_self _ _
    have HR : k = size → Hid (n / 256 ^ k = 0) := fun e => by subst e; exact Nat.div_eq_of_lt ((lt_wid _ n).2 hw)
    generalize n / 256 ^ k = q at *
    have hsz := hB.size
    by_cases hlt : k < size
    · clear HR
      go_wp2_with (first | (at_builtin; go_loud (refine wpList_app _ el_u8 rfl _ _ rfl w.heap.size A k c _ rfl (hO.alloc _) (some ⟨wr.heap.size, 0, none⟩) 1 1 [cb8 (UInt8.ofNat (q % 256))] rfl rfl (row_one _ _ _ _ (u8_ofNat q)) (by simp [cb8]; rfl) (by omega) (by simp; omega) ?_)))
      intro A2 c2 w2 hO2 hg2 _
      have hB2 := hO.alloc (.cells #[.int .u8 ((q : Int) % 256)] 5) |>.belowOf (hB.alloc hsz _) hg2 (by simp; omega) (Nat.le_refl _)
      have HO2 : Hid (Own w2 w.heap.size 5 1 A2 (k + 1) c2 (u8s (le (k + 1) n))) := by
        show Own _ _ _ _ _ _ _ _
        rw [HS.out, u8s_snoc]; exact hO2
      clear hO2 hO hB hg2
      go_wp2_with fail
      go_roundw
      case rel => exact ⟨k + 1, A2, c2, by omega, by go_num, by rw [HQ.out]; rfl, rfl, HO2.out, hB2⟩
      case measure => simp [intOf]; omega
    · obtain rfl : k = size := by omega
      have hq0 : q = 0 := HR rfl
      subst hq0
      go_wp2_with fail
      go_ret2
      obtain ⟨a1, a2, a3⟩ := hO.byt
      exact ⟨A, c, by rw [le_length]; rfl, a1, a3, hB⟩
set_option maxHeartbeats 1000000 in
theorem rturned_any (bs : List UInt8) (A : Option Addr) (n c : Nat) (w : World) (hn : bs.length = n) (hl : n ≤ 1000000000000) (ha : Byt w A bs) :
    Calls Try.prog 35 #[.slice A n c] w (GivesB bs.reverse w) := by
  have hn1 : bs.length ≤ n := by omega
  have hn2 : n ≤ bs.length := by omega
  have HN := Lib.hid hn
  clear hn
  go_enter Try.func35, Try.ntmps35
  go_wp2_with fail
  go_loopw [3, 4] (fun v i wr => ∃ (k : Nat) (B : Option Addr) (d : Nat) (j : Int), k ≤ n ∧ j + 1 ≤ n - k ∧ (n : Int) - k ≤ j + 1 ∧ i = .int .i64 j ∧ v = .slice B k d ∧ Own wr w.heap.size 5 1 B k d (u8s (bs.reverse.take k)) ∧ Below w.heap.size w wr)
    (fun _ i _ => (intOf i + 1).toNat)
  case atStart => exact ⟨0, none, 0, _, Nat.zero_le _, by omega, by omega, rfl, rfl, Own.nil _ _ _ _, Below.refl _ _⟩
  case round =>
    obtain ⟨k, B, d, j, hk, hj1, hj2, rfl, rfl, hO, hB⟩ := hrel
    have hsz := hB.size
    by_cases hlt : k < n
    · have hj0 : 0 ≤ j := by omega
      obtain ⟨jn, hjn⟩ : ∃ jn : Nat, j = jn := ⟨j.toNat, by omega⟩
      subst hjn
      obtain ⟨ad, rfl, h0⟩ := Byt.at_ (ha.below hB) (j := jn) (by omega)
      have HS : Hid (bs.reverse.take (k + 1) = bs.reverse.take k ++ [bs[jn]]) := by
        show _ = _
        rw [List.take_succ_eq_append_getElem (by simp; omega), List.getElem_reverse]
        congr 3
        have := HN.out
        omega
      have hjl : (jn : Int) < (n : Int) := by omega
      go_wp2_with (first | (at_builtin; go_loud (refine wpList_app _ el_u8 rfl _ _ rfl w.heap.size B k d _ rfl (hO.alloc _) (some ⟨wr.heap.size, 0, none⟩) 1 1 [cb8 bs[jn]] rfl rfl (row_one _ _ _ _ rfl) (by simp [cb8]; rfl) (by omega) (by simp; omega) ?_)))
      intro A2 c2 w2 hO2 hg2 _
      have hB2 := (hO.alloc (.cells #[cb8 bs[jn]] 5)).belowOf (hB.alloc hsz _) hg2 (by simp; omega) (Nat.le_refl _)
      have HO2 : Hid (Own w2 w.heap.size 5 1 A2 (k + 1) c2 (u8s (bs.reverse.take (k + 1)))) := by
        show Own _ _ _ _ _ _ _ _
        rw [HS.out, u8s_snoc]; exact hO2
      clear hO2 hO hB hg2
      go_wp2_with fail
      go_roundw
      case rel => exact ⟨k + 1, A2, c2, _, by omega, by omega, by omega, rfl, rfl, HO2.out, hB2⟩
      case measure => simp [intOf] <;> omega
    · have hj0 : j < 0 := by omega
      have HE : Hid (bs.reverse.take k = bs.reverse) := List.take_of_length_le (by rw [List.length_reverse]; omega)
      go_wp2_with fail
      go_ret
      rw [HE.out] at hO
      obtain ⟨a1, a2, a3⟩ := hO.byt
      exact ⟨B, d, by rw [a2]; rfl, a1, a3, hB⟩

set_option maxHeartbeats 1000000 in
theorem rput_any (n size : Nat) (w : World) (hn : n ≤ 4611686018427387904) (h1 : 1 ≤ size) (h8 : size ≤ 8) (hw : wid n ≤ size) :
    Calls Try.prog 28 #[.int .i64 n, .int .i64 size] w (GivesBE (be size n) 0 w) := by
  go_enter Try.func28, Try.ntmps28
  go_wp2_with fail
  refine (rlow_any n size _ hn h1 h8 hw).mono ?_
  rintro e w1 ⟨A, c, rfl, hb, hc, hB⟩
  go_wp2_with fail
  refine (rturned_any (le size n) A _ c w1 rfl (by rw [le_length]; omega) hb.1).mono ?_
  rintro e w2 ⟨A2, c2, rfl, hb2, hc2, hB2⟩
  go_wp2_with fail
  go_ret2
  exact ⟨A2, c2, by rw [be_length, le_length]; rfl, hb2.from hB.size, by rw [be_length]; simpa [le_length] using hc2, hB.trans (hB2.mono hB.size)⟩
end Go.Proofs.Ytimdogdplphmoaa
