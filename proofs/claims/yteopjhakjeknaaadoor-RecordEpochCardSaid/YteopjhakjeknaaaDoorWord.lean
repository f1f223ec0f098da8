/-
  The contracts of word.Low, slices.Clone, slices.Reverse, word.turned and word.Put at bytes.
-/
import Derived.Test.YteopjhakjeknaaaDoorGiv
namespace Go.Proofs.YteopjhakjeknaaaDoor
open Go.RowKit

theorem pow8 (k : Nat) : 2 ^ (8 * k) = 256 ^ k := by rw [Nat.pow_mul]
theorem div8 (n k : Nat) : ((n : Int) / 2 ^ (8 * k)) = ((n / 256 ^ k : Nat) : Int) := by
  rw [← pow8, Int.natCast_ediv, Int.natCast_pow]
  rfl
theorem fill_step (n k size : Nat) (h : k < size) : (le k n ++ List.replicate (size - k) 0).set k (UInt8.ofNat (n / 256 ^ k % 256)) = le (k + 1) n ++ List.replicate (size - (k + 1)) 0 := by
  rw [List.set_append_right _ _ (by rw [le_length]; omega), le_length, Nat.sub_self, le_snoc, List.append_assoc]
  congr 1
  rw [show size - k = (size - (k + 1)) + 1 by omega, List.replicate_succ]
  rfl

set_option maxHeartbeats 2000000 in
theorem low_any (n size : Nat) (w : World) (hn : n ≤ 4611686018427387904) (h1 : 1 ≤ size) (h8 : size ≤ 8) (hw : wid n ≤ size) :
    Calls Tryd.prog 60 #[.int .i64 n, .int .i64 size] w (GivesBE (le size n) 0 w) := by
  have hd : ((n : Int) / 2 ^ (8 * size) != 0) = false := by
    rw [div8, Nat.div_eq_of_lt ((lt_wid _ n).2 hw)]
    rfl
  go_enter Tryd.func60, Tryd.ntmps60
  go_wp2_with (first | (at_make; go_loud (refine wpList_mk8 _ Tryd.underlying22 (by kernel_rfl) rfl _ _ rfl w.heap.size _ _ _ _ size rfl rfl rfl rfl (by omega) (Nat.le_refl _) ?_)))
  all_goals
    intro w1 hO1 hg1
    have hB1 : Below w.heap.size w w1 := (Below.refl _ _).grown hg1 (Nat.le_refl _) (by simp)
    have hsz1 := hO1.lt _ rfl
    clear hg1
    go_wp2_with fail
    go_loopw [38] (fun i wr => ∃ k : Nat, k ≤ size ∧ i = .int .i64 k ∧ Own wr w.heap.size 5 1 (some ⟨w.heap.size, 0, none⟩) size size (u8s (le k n ++ List.replicate (size - k) 0)) ∧ Below w.heap.size w wr)
      (fun i _ => size - (intOf i).toNat)
    case atStart => exact ⟨0, Nat.zero_le _, rfl, hO1, hB1⟩
    case round =>
      obtain ⟨k, hk, rfl, hO, hB⟩ := hrel
      by_cases hlt : k < size
      · have HS := Lib.hid (fill_step n k size hlt)
        have hdk := div8 n k
        have hc := hO.byteAt (j := k) (by rw [List.length_append, le_length, List.length_replicate]; omega)
        obtain ⟨hc1, hc2⟩ := hc
        generalize (le k n ++ List.replicate (size - k) 0)[k]'(by rw [List.length_append, le_length, List.length_replicate]; omega) = old at *
        have hO2 := hO.setByte k (UInt8.ofNat (n / 256 ^ k % 256))
        generalize n / 256 ^ k = q at *
        rw [HS.out, ← u8_ofNat] at hO2
        clear hO HS
        have hB2 := hB.setCell (p := ⟨w.heap.size, k, none⟩) (Nat.le_refl _) (.int .u8 ((q : Int) % 256))
        go_wp2_with fail
        go_roundw
        case rel => exact ⟨k + 1, by omega, by go_num, hO2, hB2⟩
        case measure => simp [intOf]; omega
      · have HE : Hid (le k n ++ List.replicate (size - k) 0 = le size n) := by
          show _ = _
          rw [show k = size by omega, Nat.sub_self]; simp
        go_wp2_with fail
        go_ret2
        rw [HE.out] at hO
        obtain ⟨a1, a2, a3⟩ := hO.byt
        exact ⟨_, _, by rw [le_length]; rfl, a1, a3, hB⟩

/-- The call hands back a slice of its own that holds bytes. -/
def GivesO (bs : List UInt8) (w : World) (e : Ending) (w' : World) : Prop := ∃ A c, e = .returned (.slice A bs.length c) ∧ Own w' w.heap.size 5 1 A bs.length c (u8s bs) ∧ Below w.heap.size w w'

set_option maxHeartbeats 1000000 in
theorem clone_any (bs : List UInt8) (A : Option Addr) (n c : Nat) (w : World) (hn : bs.length = n) (hl : n ≤ 1000000000000) (ha : Byt w A bs) :
    Calls Tryd.prog 39 #[.slice A n c] w (GivesO bs w) := by
  have hnil := fun (w : World) (A : Option Addr) (n c : Nat) => Lib.run_eql_slice_nil (P := Tryd.prog) w 22 5 A n c 0 0 Tryd.underlying22
  cases A with
  | none =>
    have hb : bs = [] := by
      cases bs with
      | nil => rfl
      | cons b r => obtain ⟨ad, h, _⟩ := ha.at_ (j := 0) (by simp); cases h
    subst hb
    go_enter Tryd.func39, Tryd.ntmps39
    go_wp2_with fail
    go_ret
    exact ⟨none, 0, rfl, Own.nil _ _ _ _, Below.refl _ _⟩
  | some ad =>
    have HN := Lib.hid hn
    have hn1 : n ≤ bs.length := by omega
    have hn2 : bs.length ≤ n := by omega
    clear hn
    go_enter Tryd.func39, Tryd.ntmps39
    go_wp2_with (first | (at_builtin; go_loud (refine wpList_app _ el_u8 rfl _ _ rfl w.heap.size _ 0 0 [] rfl (Own.litAt #[] _ 1 0 [] rfl (Nat.le_refl _) (by decide) rfl rfl) (some ad) n c (u8s bs) rfl (by rw [u8s_length, HN.out]; omega) (ha.alloc _) (u8_one _) (by omega) (by simp) ?_)))
    intro A2 c2 w2 hO2 hg2 _
    have hB2 := (Own.litAt (B := w.heap.size) (w := w) #[] 5 1 0 [] rfl (Nat.le_refl _) (by decide) rfl rfl).belowOf (((Below.refl _ _).alloc (Nat.le_refl _) _)) hg2 (by simp) (Nat.le_refl _)
    go_wp2_with fail
    go_ret
    exact ⟨A2, c2, by rw [HN.out]; rfl, by rw [HN.out]; simpa using hO2, hB2⟩

theorem swap_step (bs L : List UInt8) (i j : Nat) (hl : L.length = bs.length) (hij : i + j + 1 = bs.length) (h : i < j)
    (hL : ∀ t, t < bs.length → L[t]? = if t < i ∨ j < t then bs.reverse[t]? else bs[t]?) (hi : i < L.length) (hj : j < L.length) :
    ∀ t, t < bs.length → ((L.set i L[j]).set j L[i])[t]? = if t < i + 1 ∨ j - 1 < t then bs.reverse[t]? else bs[t]? := by
  intro t ht
  have gi : L[i] = bs[i]'(by omega) := by
    have := hL i (by omega)
    rw [if_neg (by omega), List.getElem?_eq_getElem hi, List.getElem?_eq_getElem (by omega)] at this
    exact Option.some.inj this
  have gj : L[j] = bs[j]'(by omega) := by
    have := hL j (by omega)
    rw [if_neg (by omega), List.getElem?_eq_getElem hj, List.getElem?_eq_getElem (by omega)] at this
    exact Option.some.inj this
  by_cases h1 : t = j
  · subst h1
    rw [if_pos (by omega), List.getElem?_set_self (by simp; omega), gi, List.getElem?_reverse (by omega), List.getElem?_eq_getElem (by omega)]
    congr 2
    omega
  · rw [List.getElem?_set_ne (by omega)]
    by_cases h2 : t = i
    · subst h2
      rw [if_pos (by omega), List.getElem?_set_self (by omega), gj, List.getElem?_reverse (by omega), List.getElem?_eq_getElem (by omega)]
      congr 2
      omega
    · rw [List.getElem?_set_ne (by omega), hL t ht]
      by_cases h3 : t < i ∨ j < t
      · rw [if_pos h3, if_pos (by omega)]
      · rw [if_neg h3, if_neg (by omega)]
theorem swap_done (bs L : List UInt8) (i : Nat) (j : Int) (hl : L.length = bs.length) (hij : (i : Int) + j + 1 = bs.length) (h : ¬ (i : Int) < j)
    (hL : ∀ t, t < bs.length → L[t]? = if t < i ∨ j < (t : Int) then bs.reverse[t]? else bs[t]?) : L = bs.reverse := by
  apply List.ext_getElem?
  intro t
  by_cases ht : t < bs.length
  · rw [hL t ht]
    by_cases h3 : t < i ∨ j < (t : Int)
    · rw [if_pos h3]
    · rw [if_neg h3, List.getElem?_reverse (by omega)]
      congr 1
      omega
  · rw [List.getElem?_eq_none (by omega), List.getElem?_eq_none (by simp; omega)]

set_option maxHeartbeats 2000000 in
theorem reverse_any (bs : List UInt8) (B : Nat) (A : Option Addr) (n c : Nat) (w : World) (hn : bs.length = n) (hl : n ≤ 1000000000000) (hO : Own w B 5 1 A n c (u8s bs)) :
    Calls Tryd.prog 76 #[.slice A n c] w fun e w' => e = .returned (.tuple #[]) ∧ Own w' B 5 1 A n c (u8s bs.reverse) ∧ Below B w w' := by
  by_cases h2 : n < 2
  · have hr : bs.reverse = bs := by
      match bs, hn with
      | [], _ => rfl
      | [a], _ => rfl
      | a :: b :: r, hn => simp at hn; omega
    rw [hr]
    have hlt : ¬ (0 : Int) < (n : Int) - 1 := by omega
    go_enter Tryd.func76, Tryd.ntmps76
    go_wp2_with fail
    refine wp_loop_rounds 1 ?_
    rw [rounds_succ]
    go_wp2_with fail
    go_end0
    exact ⟨rfl, hO, Below.refl _ _⟩
  · obtain ⟨g, rfl, hg1, hg2⟩ := hO.addr (by omega)
    have HN := Lib.hid hn
    have hn1 : bs.length ≤ n := by omega
    have hn2 : n ≤ bs.length := by omega
    clear hn
    go_enter Tryd.func76, Tryd.ntmps76
    go_wp2_with fail
    go_loopw [2, 3] (fun x y wr => ∃ (i : Nat) (j : Int) (L : List UInt8), x = .int .i64 i ∧ y = .int .i64 j ∧ Hid ((i : Int) + j + 1 = n) ∧ L.length ≤ n ∧ n ≤ L.length ∧ -1 ≤ j ∧ (i : Int) ≤ n ∧ j < n ∧ Own wr B 5 1 (some ⟨g, 0, none⟩) n c (u8s L) ∧ Below B w wr ∧
        Hid (∀ t, t < bs.length → L[t]? = if t < i ∨ j < (t : Int) then bs.reverse[t]? else bs[t]?)) (fun _ y _ => (intOf y + 1).toNat)
    case atStart => exact ⟨0, _, bs, rfl, rfl, Lib.hid (by omega), hn1, hn2, by omega, by omega, by omega, hO, Below.refl _ _, fun t ht => by rw [if_neg (by omega)]⟩
    case round =>
      obtain ⟨i, j, L, rfl, rfl, HI, hL1, hL2, hj1, hj2, hj3, hOw, hB, HL⟩ := hrel
      by_cases hlt : (i : Int) < j
      · obtain ⟨jn, hjn⟩ : ∃ jn : Nat, j = jn := ⟨j.toNat, by omega⟩
        subst hjn
        have hi' : i < L.length := by omega
        have hj' : jn < L.length := by omega
        obtain ⟨c1, f1⟩ := hOw.byteAt hi'
        obtain ⟨c2, f2⟩ := hOw.byteAt hj'
        have i1 : (i : Int) < (n : Int) := by omega
        have i2 : (jn : Int) < (n : Int) := by omega
        have i3 : (0 : Int) ≤ (i : Int) := by omega
        have i4 : (0 : Int) ≤ (jn : Int) := by omega
        go_wp2_with fail
        go_region
        have hO2 : Own ((wr.setCell ⟨g, i, none⟩ (.int .u8 (L[jn].toNat : Int))).setCell ⟨g, jn, none⟩ (.int .u8 (L[i].toNat : Int))).drew B 5 1 (some ⟨g, 0, none⟩) n c (u8s ((L.set i L[jn]).set jn L[i])) :=
          ((hOw.setByte i L[jn]).setByte jn L[i]).drew
        have hB2 := ((hB.setCell (p := ⟨g, i, none⟩) hg1 (.int .u8 (L[jn].toNat : Int))).setCell (p := ⟨g, jn, none⟩) hg1 (.int .u8 (L[i].toNat : Int))).drew
        have HS : Hid (∀ t, t < bs.length → ((L.set i L[jn]).set jn L[i])[t]? = if t < i + 1 ∨ (jn : Int) - 1 < (t : Int) then bs.reverse[t]? else bs[t]?) := by
          intro t ht
          have hij := HI.out
          have h := swap_step bs L i jn (by omega) (by omega) (by omega) (fun t ht => by
            rw [HL.out t ht]
            by_cases h : t < i ∨ jn < t
            · rw [if_pos h, if_pos (by omega)]
            · rw [if_neg h, if_neg (by omega)]) hi' hj' t ht
          rw [h]
          by_cases h : t < i + 1 ∨ jn - 1 < t
          · rw [if_pos h, if_pos (by omega)]
          · rw [if_neg h, if_neg (by omega)]
        have hL3 : ((L.set i L[jn]).set jn L[i]).length ≤ n := by simp; omega
        have hL4 : n ≤ ((L.set i L[jn]).set jn L[i]).length := by simp; omega
        generalize (L.set i L[jn]).set jn L[i] = L2 at *
        clear hOw hB HL
        go_wp2_with fail
        go_roundw
        case rel => exact ⟨i + 1, _, L2, by go_num, rfl, by have := HI.out; exact Lib.hid (by omega), hL3, hL4, by omega, by omega, by omega, hO2, hB2, HS.out⟩
        case measure => simp [intOf] <;> omega
      · go_wp2_with fail
        go_end0
        have hij := HI.out
        have := swap_done bs L i j (by omega) (by omega) (by omega) HL.out
        subst this
        exact ⟨rfl, hOw, hB⟩
set_option maxHeartbeats 1000000 in
theorem turned_any (bs : List UInt8) (A : Option Addr) (n c : Nat) (w : World) (hn : bs.length = n) (hl : n ≤ 1000000000000) (ha : Byt w A bs) :
    Calls Tryd.prog 61 #[.slice A n c] w (GivesB bs.reverse w) := by
  subst hn
  go_enter Tryd.func61, Tryd.ntmps61
  go_wp2_with fail
  refine (clone_any bs A bs.length c w rfl hl ha).mono ?_
  rintro e w1 ⟨A1, c1, rfl, hO, hB⟩
  go_wp2_with fail
  refine (reverse_any bs w.heap.size A1 bs.length c1 w1 rfl (by omega) hO).mono ?_
  rintro e w2 ⟨rfl, hO2, hB2⟩
  go_wp2_with fail
  go_ret
  rw [← List.length_reverse] at hO2
  obtain ⟨a1, a2, a3⟩ := hO2.byt
  exact ⟨A1, c1, by rw [List.length_reverse]; rfl, a1, a3, hB.trans hB2⟩

set_option maxHeartbeats 1000000 in
theorem put_any (n size : Nat) (w : World) (hn : n ≤ 4611686018427387904) (h1 : 1 ≤ size) (h8 : size ≤ 8) (hw : wid n ≤ size) :
    Calls Tryd.prog 35 #[.int .i64 n, .int .i64 size] w (GivesBE (be size n) 0 w) := by
  go_enter Tryd.func35, Tryd.ntmps35
  go_wp2_with fail
  refine (low_any n size _ hn h1 h8 hw).mono ?_
  rintro e w1 ⟨A, c, rfl, hb, hc, hB⟩
  go_wp2_with fail
  refine (turned_any (le size n) A _ c w1 rfl (by rw [le_length]; omega) hb.1).mono ?_
  rintro e w2 ⟨A2, c2, rfl, hb2, hc2, hB2⟩
  go_wp2_with fail
  go_ret2
  exact ⟨A2, c2, by rw [be_length, le_length]; rfl, hb2.from hB.size, by rw [be_length]; simpa [le_length] using hc2, hB.trans (hB2.mono hB.size)⟩
end Go.Proofs.YteopjhakjeknaaaDoor
