/-
  Texts joined: see the remarks at the head of each part.
-/
import Derived.Test.YtimdogdplphmoaaDoorSqM
import Derived.Test.YtimdogdplphmoaaDoorLoop
/-
  Space, as plain law: sectors as a list of bools; what the code's functions do with it.
-/
namespace Go.Proofs.YtimdogdplphmoaaDoor
open Go Go.RowKit
set_option linter.unusedVariables false
set_option linter.unusedSimpArgs false

/-! ### Bits -/
def nb : List Bool → Nat
  | [] => 0
  | b :: r => (bif b then 1 else 0) + 2 * nb r
theorem nb_cons (b : Bool) (r : List Bool) : nb (b :: r) = (bif b then 1 else 0) + 2 * nb r := rfl
theorem nb_bit : ∀ (l : List Bool) (i : Nat), (nb l).testBit i = l.getD i false
  | [], i => by simp [nb]
  | b :: r, 0 => by
    cases b <;> simp [nb, Nat.testBit_zero]
  | b :: r, i + 1 => by
    have h := nb_bit r i
    rw [List.getD_cons_succ, ← h, Nat.testBit_succ]
    congr 1
    rw [nb_cons]
    cases b <;> simp <;> omega
theorem nb_lt : ∀ (l : List Bool), nb l < 2 ^ l.length
  | [] => by simp [nb]
  | b :: r => by
    have h := nb_lt r
    rw [List.length_cons, Nat.pow_succ]
    rw [nb_cons]
    cases b <;> simp <;> omega
/-- Word j of sectors. -/
def wv (w : List Bool) (j : Nat) : Nat := nb ((w.drop (64 * j)).take 64)
theorem wv_lt (w : List Bool) (j : Nat) : wv w j < 18446744073709551616 := by
  have h := nb_lt ((w.drop (64 * j)).take 64)
  have h2 : ((w.drop (64 * j)).take 64).length ≤ 64 := by simp; omega
  exact Nat.lt_of_lt_of_le h (Nat.pow_le_pow_right (by omega) h2)
theorem wv_bit (w : List Bool) (j b : Nat) (hb : b < 64) : (wv w j).testBit b = w.getD (64 * j + b) false := by
  unfold wv
  rw [nb_bit, List.getD_eq_getElem?_getD, List.getElem?_take, if_pos hb, List.getElem?_drop, List.getD_eq_getElem?_getD]
theorem bit_ge {v : Nat} (hv : v < 18446744073709551616) {b : Nat} (hb : 64 ≤ b) : v.testBit b = false := by
  refine Nat.testBit_lt_two_pow (Nat.lt_of_lt_of_le hv ?_)
  exact Nat.pow_le_pow_right (n := 2) (by omega) hb
def nw (n : Nat) : Nat := (n + 63) / 64
def words (w : List Bool) : List Int := (List.range (nw w.length)).map fun j => ((wv w j : Nat) : Int)
theorem words_len (w : List Bool) : (words w).length = nw w.length := by simp [words]
theorem words_get (w : List Bool) {j : Nat} (h : j < nw w.length) : idx (words w) (j : Int) = some ((wv w j : Nat) : Int) := by
  rw [idx_nat (by rw [words_len]; exact h)]
  simp [words]
theorem words_set (w : List Bool) {k : Nat} (hk : k < w.length) (b : Bool) {v : Nat} (hv : v < 18446744073709551616) (hbit : ∀ q, q < 64 → v.testBit q = if q = k % 64 then b else (wv w (k / 64)).testBit q) : (words w).set (k / 64) (v : Int) = words (w.set k b) := by
  apply List.ext_getElem
  · simp [words]
  · intro j h1 h2
    rw [List.getElem_set]
    simp only [words, List.getElem_map, List.getElem_range]
    have key : ∀ v' : Nat, v' < 18446744073709551616 → (∀ q, q < 64 → v'.testBit q = (wv (w.set k b) j).testBit q) → (v' : Int) = ((wv (w.set k b) j : Nat) : Int) := fun v' hv' h => by
      congr 1
      apply Nat.eq_of_testBit_eq
      intro q
      by_cases hq : q < 64
      · exact h q hq
      · rw [bit_ge hv' (by omega), bit_ge (wv_lt _ _) (by omega)]
    split
    · rename_i e
      refine key v hv fun q hq => ?_
      rw [hbit q hq, wv_bit _ _ _ hq, wv_bit _ _ _ hq, List.getD_eq_getElem?_getD, List.getD_eq_getElem?_getD, List.getElem?_set]
      by_cases e2 : q = k % 64
      · rw [if_pos e2, if_pos (by omega), if_pos (by omega)]; rfl
      · rw [if_neg e2, if_neg (by omega), e]
    · rename_i e
      refine key _ (wv_lt _ _) fun q hq => ?_
      rw [wv_bit _ _ _ hq, wv_bit _ _ _ hq, List.getD_eq_getElem?_getD, List.getD_eq_getElem?_getD, List.getElem?_set, if_neg (by omega)]
theorem and_nat {a b : Nat} (ha : a < 18446744073709551616) (hb : b < 18446744073709551616) : IntKind.u64.wrap ((((BitVec.ofInt IntKind.u64.bits (a : Int)) &&& (BitVec.ofInt IntKind.u64.bits (b : Int))).toNat : Nat) : Int) = ((a &&& b : Nat) : Int) := by
  have h2 : (BitVec.ofInt 64 (a : Int) &&& BitVec.ofInt 64 (b : Int)).toNat = a &&& b := by
    rw [BitVec.toNat_and, BitVec.ofInt_natCast, BitVec.ofInt_natCast, BitVec.toNat_ofNat, BitVec.toNat_ofNat, Nat.mod_eq_of_lt (by omega), Nat.mod_eq_of_lt (by omega)]
  show IntKind.u64.wrap ((BitVec.ofInt 64 (a : Int) &&& BitVec.ofInt 64 (b : Int)).toNat : Int) = _
  have h3 : a &&& b < 18446744073709551616 := Nat.and_lt_two_pow (n := 64) a hb
  rw [h2, u64_id (by omega) (by omega)]
theorem xor_nat {a b : Nat} (ha : a < 18446744073709551616) (hb : b < 18446744073709551616) : IntKind.u64.wrap ((((BitVec.ofInt IntKind.u64.bits (a : Int)) ^^^ (BitVec.ofInt IntKind.u64.bits (b : Int))).toNat : Nat) : Int) = ((a ^^^ b : Nat) : Int) := by
  have h2 : (BitVec.ofInt 64 (a : Int) ^^^ BitVec.ofInt 64 (b : Int)).toNat = a ^^^ b := by
    rw [BitVec.toNat_xor, BitVec.ofInt_natCast, BitVec.ofInt_natCast, BitVec.toNat_ofNat, BitVec.toNat_ofNat, Nat.mod_eq_of_lt (by omega), Nat.mod_eq_of_lt (by omega)]
  show IntKind.u64.wrap ((BitVec.ofInt 64 (a : Int) ^^^ BitVec.ofInt 64 (b : Int)).toNat : Int) = _
  have h3 : a ^^^ b < 18446744073709551616 := Nat.xor_lt_two_pow (n := 64) ha hb
  rw [h2, u64_id (by omega) (by omega)]
theorem or_nat {a b : Nat} (ha : a < 18446744073709551616) (hb : b < 18446744073709551616) : IntKind.u64.wrap ((((BitVec.ofInt IntKind.u64.bits (a : Int)) ||| (BitVec.ofInt IntKind.u64.bits (b : Int))).toNat : Nat) : Int) = ((a ||| b : Nat) : Int) := by
  have h2 : (BitVec.ofInt 64 (a : Int) ||| BitVec.ofInt 64 (b : Int)).toNat = a ||| b := by
    rw [BitVec.toNat_or, BitVec.ofInt_natCast, BitVec.ofInt_natCast, BitVec.toNat_ofNat, BitVec.toNat_ofNat, Nat.mod_eq_of_lt (by omega), Nat.mod_eq_of_lt (by omega)]
  show IntKind.u64.wrap ((BitVec.ofInt 64 (a : Int) ||| BitVec.ofInt 64 (b : Int)).toNat : Int) = _
  have h3 : a ||| b < 18446744073709551616 := Nat.or_lt_two_pow (n := 64) ha hb
  rw [h2, u64_id (by omega) (by omega)]
theorem shr_nat {a b : Nat} (hb : b < 64) : shrI .u64 (a : Int) (b : Int) = some ((a >>> b : Nat) : Int) := by
  unfold shrI
  rw [dec_t (by omega), cond_true, Int.toNat_natCast, show min b IntKind.u64.bits = b from Nat.min_eq_left (by show b ≤ 64; omega), Nat.shiftRight_eq_div_pow, Int.fdiv_eq_ediv_of_nonneg _ (by exact Int.natCast_nonneg (2 ^ b))]
  congr 1
theorem shl_nat {a b : Nat} (hb : b < 64) : shlI .u64 (a : Int) (b : Int) = some (((a <<< b) % 18446744073709551616 : Nat) : Int) := by
  unfold shlI
  rw [dec_t (by omega), cond_true, Int.toNat_natCast, show min b IntKind.u64.bits = b from Nat.min_eq_left (by show b ≤ 64; omega), Nat.shiftLeft_eq]
  refine congrArg some ?_
  have e : (a : Int) * 2 ^ b = ((a * 2 ^ b : Nat) : Int) := by simp
  rw [e]
  generalize a * 2 ^ b = x
  simp [IntKind.wrap, IntKind.bits, IntKind.signed]
theorem tmod_nat (a b : Nat) : Int.tmod (a : Int) (b : Int) = ((a % b : Nat) : Int) := rfl
theorem tdiv_nat (a b : Nat) : Int.tdiv (a : Int) (b : Int) = ((a / b : Nat) : Int) := rfl
theorem u64_nat {a : Nat} (h : a < 18446744073709551616) : IntKind.u64.wrap (a : Int) = (a : Int) := u64_id (by omega) (by omega)
theorem wi_nat {a : Nat} (h : a < 9223372036854775808) : wi (a : Int) = (a : Int) := wi_id (by omega) (by omega)

/-! ### A space -/
def nfree (w : List Bool) : Nat := w.count false
def spOf (w : List Bool) : S_space_Space := ⟨w.length, nfree w, words w, true⟩
section
variable {H : Hp} {i : Nat} {x y : S_space_Space}
theorem ge_st (h : H.ge_space i = some x) : (H.st_space i y).ge_space i = some y := by
  have := List.getElem?_eq_some_iff.1 h
  simp [Hp.ge_space, Hp.st_space, this.1]
theorem st_st (y z : S_space_Space) : (H.st_space i y).st_space i z = H.st_space i z := by
  simp [Hp.st_space]
theorem st_same (h : H.ge_space i = some x) : H.st_space i x = H := by
  obtain ⟨l⟩ := H
  have h : l[i]? = some x := h
  have := List.getElem?_eq_some_iff.1 h
  show Hp.mk (l.set i x) = _
  rw [← this.2]
  simp
end
theorem getD_lt {w : List Bool} {k : Nat} (h : k < w.length) : w.getD k false = w[k] := by simp [List.getD_eq_getElem?_getD, h]
theorem m_Has' {H : Hp} {i : Nat} {w : List Bool} {x : S_space_Space} (h : H.ge_space i = some x) (hx1 : x.n_ = w.length) (hx2 : x.l_ = words w) (hl : w.length ≤ 100000) (k : Int) :
    m_space_Space_Has (some i) k H = some (decide (0 ≤ k) && decide (k < w.length) && !w.getD k.toNat false, H) := by
  unfold m_space_Space_Has ptM
  simp only
  by_cases h0 : 0 ≤ k
  · obtain ⟨n, rfl⟩ : ∃ n : Nat, k = n := ⟨k.toNat, by omega⟩
    rw [bif_pos (dec_t (by omega)), h, Option.bind_some, dec_t h0, hx1, hx2]
    by_cases hn : n < w.length
    · rw [bif_pos (dec_t (by omega)), dec_t (by omega)]
      have e64 : (64 : Int) = ((64 : Nat) : Int) := rfl
      rw [e64, tdiv_nat, tmod_nat, wi_nat (by omega), u64_nat (by omega)]
      rw [words_get w (by unfold nw; omega), Option.bind_some, shr_nat (by omega), Option.bind_some]
      have hv := wv_lt w (n / 64)
      have hs : wv w (n / 64) >>> (n % 64) < 18446744073709551616 := Nat.lt_of_le_of_lt (Nat.shiftRight_le _ _) hv
      have e1 : (1 : Int) = ((1 : Nat) : Int) := rfl
      rw [e1, and_nat hs (by omega)]
      have hb : wv w (n / 64) >>> (n % 64) &&& 1 = if (wv w (n / 64)).testBit (n % 64) then 1 else 0 := by
        rw [Nat.testBit_eq_decide_div_mod_eq, Nat.and_one_is_mod, Nat.shiftRight_eq_div_pow]
        by_cases hh : wv w (n / 64) / 2 ^ (n % 64) % 2 = 1
        · simp [hh]
        · simp [hh]; omega
      rw [hb, wv_bit _ _ _ (by omega), show 64 * (n / 64) + n % 64 = n by omega, Int.toNat_natCast]
      cases w.getD n false <;> rfl
    · rw [bif_neg (dec_f (by omega)), dec_f (by omega)]
      rfl
  · rw [bif_neg (dec_f (by omega)), dec_f h0]
    rfl
theorem m_Has {H : Hp} {i : Nat} {w : List Bool} (h : H.ge_space i = some (spOf w)) (hl : w.length ≤ 100000) (k : Int) :
    m_space_Space_Has (some i) k H = some (decide (0 ≤ k) && decide (k < w.length) && !w.getD k.toNat false, H) := m_Has' h rfl rfl hl k
theorem nfree_set {w : List Bool} {k : Nat} (hk : k < w.length) : (w[k] = false → nfree (w.set k true) + 1 = nfree w) ∧ (w[k] = true → nfree (w.set k false) = nfree w + 1) := by
  unfold nfree
  induction w generalizing k with
  | nil => simp at hk
  | cons a r ih =>
    cases k with
    | zero => cases a <;> simp
    | succ k =>
      have hk : k < r.length := by simpa using hk
      have := ih hk
      simp only [List.getElem_cons_succ, List.set_cons_succ, List.count_cons]
      constructor
      · intro h; have := this.1 h; omega
      · intro h; have := this.2 h; omega
theorem nfree_le (w : List Bool) : nfree w ≤ w.length := List.count_le_length
theorem m_turn {H : Hp} {i : Nat} {w : List Bool} (h : H.ge_space i = some (spOf w)) (hl : w.length ≤ 100000) {k : Nat} (hk : k < w.length) :
    m_space_Space_turn (some i) (k : Int) H = some (H.st_space i (spOf (w.set k (!w[k])))) := by
  unfold m_space_Space_turn ptM
  simp only
  have e64 : (64 : Int) = ((64 : Nat) : Int) := rfl
  rw [h, Option.bind_some, e64, tdiv_nat, tmod_nat, wi_nat (by omega), u64_nat (by omega)]
  show (Option.bind (idx (words w) _) _) = _
  have e1 : shlI .u64 1 ((k % 64 : Nat) : Int) = some (((1 <<< (k % 64)) % 18446744073709551616 : Nat) : Int) := shl_nat (a := 1) (by omega)
  have e2 : idx (spOf w).l_ ((k / 64 : Nat) : Int) = some ((wv w (k / 64) : Nat) : Int) := words_get w (by unfold nw; omega)
  rw [show idx (words w) ((k / 64 : Nat) : Int) = _ from e2, Option.bind_some, e1, Option.bind_some, e2, Option.bind_some]
  have hp : 2 ^ (k % 64) < 18446744073709551616 := Nat.pow_lt_pow_right (a := 2) (by omega) (show k % 64 < 64 by omega)
  rw [Nat.one_shiftLeft, Nat.mod_eq_of_lt hp, xor_nat (wv_lt _ _) hp]
  have hw : (spOf w).l_.set (((k / 64 : Nat) : Int).toNat) ((wv w (k / 64) ^^^ 2 ^ (k % 64) : Nat) : Int) = words (w.set k (!w[k])) := by
    rw [Int.toNat_natCast]
    refine words_set w hk _ (Nat.xor_lt_two_pow (n := 64) (wv_lt _ _) hp) fun q hq => ?_
    rw [Nat.testBit_xor, Nat.testBit_two_pow]
    by_cases e : q = k % 64
    · subst e
      rw [if_pos rfl, wv_bit _ _ _ hq, show 64 * (k / 64) + k % 64 = k by omega, getD_lt hk]
      simp
    · rw [if_neg e, dec_f (fun e2 => e e2.symm)]
      simp
  rw [hw]
  have hlen : (w.set k (!w[k])).length = w.length := by simp
  have hge := ge_st (y := S_space_Space.mk (spOf w).n_ (spOf w).free_ (words (w.set k (!w[k]))) (spOf w).is_) h
  have hhas : m_space_Space_Has (some i) (k : Int) (H.st_space i (S_space_Space.mk (spOf w).n_ (spOf w).free_ (words (w.set k (!w[k]))) (spOf w).is_)) = some (w[k], H.st_space i (S_space_Space.mk (spOf w).n_ (spOf w).free_ (words (w.set k (!w[k]))) (spOf w).is_)) := by
    rw [m_Has' hge (w := w.set k (!w[k])) (by rw [hlen]; rfl) rfl (by omega), Int.toNat_natCast, dec_t (by omega), dec_t (by omega), getD_lt (by omega)]
    simp
  rw [hhas, Option.bind_some]
  have hf := nfree_set hk
  have hle := nfree_le w
  have hle2 := nfree_le (w.set k (!w[k]))
  rw [hlen] at hle2
  cases hb : w[k] with
  | true =>
    simp only [cond_true]
    rw [hb] at hge hlen
    rw [hge, Option.bind_some, st_st]
    congr 2
    unfold spOf
    have := hf.2 hb
    simp only [Bool.not_true] at hlen ⊢
    rw [wi_id (by omega) (by omega), hlen, this]
    simp
  | false =>
    simp only [cond_false]
    rw [hb] at hge hlen
    rw [hge, Option.bind_some, st_st]
    congr 2
    unfold spOf
    have := hf.1 hb
    simp only [Bool.not_false] at hlen ⊢
    rw [wi_id (by omega) (by omega), hlen, ← this]
    simp

/-! ### The lowest bit -/
theorem low_bit : ∀ (n c : Nat), c ≤ n → 0 < c → ∃ t m, c = 2 ^ t * (2 * m + 1)
  | 0, c, h, h0 => by omega
  | n + 1, c, h, h0 => by
    by_cases e : c % 2 = 1
    · exact ⟨0, c / 2, by rw [Nat.pow_zero]; omega⟩
    · obtain ⟨t, m, h1⟩ := low_bit n (c / 2) (by omega) (by omega)
      refine ⟨t + 1, m, ?_⟩
      rw [Nat.pow_succ, Nat.mul_assoc, Nat.mul_comm 2, ← Nat.mul_assoc, ← h1]
      omega
theorem low_and {c t m : Nat} (h : c = 2 ^ t * (2 * m + 1)) (hc : c < 18446744073709551616) : c &&& (18446744073709551616 - c) = 2 ^ t ∧ t < 64 ∧ c.testBit t = true ∧ ∀ q, q < t → c.testBit q = false := by
  have hp : 0 < 2 ^ t := Nat.two_pow_pos t
  have hbit : ∀ q, c.testBit q = if q < t then false else (2 * m + 1).testBit (q - t) := fun q => by
    have := Nat.testBit_two_pow_mul_add (2 * m + 1) hp q
    rw [Nat.add_zero, ← h] at this
    rw [this]
    simp
  have hm1 : c - 1 = 2 ^ t * (2 * m) + (2 ^ t - 1) := by
    rw [h, Nat.mul_add, Nat.mul_one]
    omega
  have hbit1 : ∀ q, (c - 1).testBit q = if q < t then true else (2 * m).testBit (q - t) := fun q => by
    rw [hm1, Nat.testBit_two_pow_mul_add _ (by omega) q]
    by_cases e : q < t
    · rw [if_pos e, if_pos e, Nat.testBit_two_pow_sub_one]; simpa using e
    · rw [if_neg e, if_neg e]
  have htop : c.testBit t = true := by rw [hbit, if_neg (by omega), Nat.sub_self, Nat.testBit_zero]; simp
  have ht : t < 64 := by
    refine Nat.lt_of_not_le fun h2 => ?_
    rw [bit_ge hc h2] at htop
    cases htop
  refine ⟨?_, ht, htop, fun q hq => by rw [hbit, if_pos hq]⟩
  apply Nat.eq_of_testBit_eq
  intro q
  have hc1 : 0 < c := Nat.pos_of_ne_zero fun e => by rw [e] at htop; simp at htop
  rw [Nat.testBit_and, show 18446744073709551616 - c = 2 ^ 64 - ((c - 1) + 1) by omega, Nat.testBit_two_pow_sub_succ (by omega), hbit, hbit1, Nat.testBit_two_pow]
  by_cases e : q < t
  · rw [if_pos e, if_pos e, dec_f (show ¬ t = q by omega)]; simp
  · rw [if_neg e, if_neg e]
    by_cases e2 : t = q
    · subst e2
      rw [dec_t rfl, Nat.sub_self, dec_t ht]
      simp [Nat.testBit_zero]
    · rw [dec_f e2]
      obtain ⟨d, hd⟩ : ∃ d, q - t = d + 1 := ⟨q - t - 1, by omega⟩
      rw [hd, Nat.testBit_succ, Nat.testBit_succ, show (2 * m + 1) / 2 = m by omega, show 2 * m / 2 = m by omega]
      cases m.testBit d <;> simp
def tzAt (t : Nat) : Option Int := idx tbl_db64 (Int.fdiv (IntKind.u64.wrap (((2 ^ t : Nat) : Int) * 285870213051353865)) (2 ^ 58))
def tzOk (t : Nat) : Bool := tzAt t == some (t : Int)
theorem tz_all : (List.range 64).all tzOk = true := by kernel_rfl
theorem tz_get {t : Nat} (h : t < 64) : tzAt t = some (t : Int) := eq_of_beq (List.all_eq_true.1 tz_all t (List.mem_range.2 h))
theorem tz_get' {t : Nat} (h : t < 64) : idx tbl_db64 (Int.fdiv (IntKind.u64.wrap (((2 ^ t : Nat) : Int) * 285870213051353865)) (2 ^ 58)) = some (t : Int) := by
  rw [← tz_get h, tzAt]
theorem neg_nat {c : Nat} (hc : c < 18446744073709551616) (h0 : 0 < c) : IntKind.u64.wrap (0 - (c : Int)) = ((18446744073709551616 - c : Nat) : Int) := by
  simp only [IntKind.wrap, IntKind.bits, IntKind.signed]
  simp
  omega
theorem m_TZ {c : Nat} (hc : c < 18446744073709551616) (h0 : 0 < c) : ∃ t : Nat, m_math_bits_TrailingZeros64 (c : Int) = some (t : Int) ∧ t < 64 ∧ c.testBit t = true ∧ ∀ q, q < t → c.testBit q = false := by
  obtain ⟨t, m, h⟩ := low_bit c c (Nat.le_refl _) h0
  obtain ⟨h1, h2, h3, h4⟩ := low_and h hc
  clear h
  refine ⟨t, ?_, h2, h3, h4⟩
  have hx : ∃ x, IntKind.u64.wrap (0 - (c : Int)) = ((x : Nat) : Int) ∧ x < 18446744073709551616 ∧ c &&& x = 2 ^ t := ⟨_, neg_nat hc h0, by omega, h1⟩
  obtain ⟨x, e1, e2, e3⟩ := hx
  clear h1
  unfold m_math_bits_TrailingZeros64
  rw [ieq_f (by omega), cond_false, e1, and_nat hc e2, e3, tz_get' h2, Option.bind_some, wi_nat (by omega)]

/-! ### Taking -/
def takeS : Nat → List Bool → List Int × List Bool
  | 0, w => ([], w)
  | k + 1, w => (((w.idxOf false : Nat) : Int) :: (takeS k (w.set (w.idxOf false) true)).1, (takeS k (w.set (w.idxOf false) true)).2)
theorem idx_free {w : List Bool} (h : 0 < nfree w) : ∃ hp : w.idxOf false < w.length, w[w.idxOf false] = false ∧ ∀ q (hq : q < w.idxOf false), w.getD q false = true := by
  have hm : false ∈ w := List.count_pos_iff.1 h
  have hp := List.idxOf_lt_length_of_mem hm
  refine ⟨hp, by simp, fun q hq => ?_⟩
  have hq2 : q < w.length := by omega
  rw [getD_lt hq2]
  have := List.not_of_lt_findIdx (xs := w) (p := (· == false)) (i := q) hq
  simpa using this
theorem takeS_len : ∀ (k : Nat) (w : List Bool), (takeS k w).2.length = w.length ∧ (takeS k w).1.length = k
  | 0, w => ⟨rfl, rfl⟩
  | k + 1, w => by
    have := takeS_len k (w.set (w.idxOf false) true)
    unfold takeS
    simp only [List.length_cons]
    exact ⟨by rw [this.1]; simp, by rw [this.2]⟩
theorem not_nat {v : Nat} (hv : v < 18446744073709551616) : ∃ c : Nat, c < 18446744073709551616 ∧ IntKind.u64.wrap ((((BitVec.ofInt IntKind.u64.bits 18446744073709551615) ^^^ (BitVec.ofInt IntKind.u64.bits (v : Int))).toNat : Nat) : Int) = (c : Int) ∧ ∀ q, q < 64 → c.testBit q = !v.testBit q := by
  refine ⟨18446744073709551615 ^^^ v, Nat.xor_lt_two_pow (n := 64) (by omega) hv, xor_nat (a := 18446744073709551615) (by omega) hv, fun q hq => ?_⟩
  rw [Nat.testBit_xor, show 18446744073709551615 = 2 ^ 64 - 1 from rfl, Nat.testBit_two_pow_sub_one, dec_t hq]
  simp
theorem take_loop {H : Hp} {i : Nat} (k : Nat) (hk : k ≤ 100000) : ∀ (fuel : Nat) (w : List Bool) (out : List Int) (j : Nat) (H : Hp), H.ge_space i = some (spOf w) → w.length ≤ 100000 → (∀ q, q < 64 * j → w.getD q false = true) → out.length ≤ k → k - out.length ≤ nfree w → (k - out.length) + (nw w.length - j) < fuel → j ≤ nw w.length →
    m_space_Space_Take_l3 (k : Int) i fuel out (j : Int) H = some (out ++ (takeS (k - out.length) w).1, 0, H.st_space i (spOf (takeS (k - out.length) w).2))
  | 0, w, out, j, H, _, _, _, _, _, hf, _ => by omega
  | fuel + 1, w, out, j, H, h, hl, hq, ho, hfr, hf, hj => by
    unfold m_space_Space_Take_l3
    by_cases hlt : out.length < k
    · rw [bif_pos (dec_t (by omega)), h, Option.bind_some]
      obtain ⟨m, hm⟩ : ∃ m, k - out.length = m + 1 := ⟨k - out.length - 1, by omega⟩
      obtain ⟨hp, hp1, hp2⟩ := idx_free (w := w) (by omega)
      generalize hpp : w.idxOf false = p at hp hp1 hp2
      have hpj : 64 * j ≤ p := by
        refine Nat.le_of_not_lt fun h2 => ?_
        have := hq p h2
        rw [getD_lt hp, hp1] at this
        cases this
      have hjn : j < nw w.length := by unfold nw at *; omega
      show (Option.bind (idx (words w) _) _) = _
      rw [words_get w hjn, Option.bind_some]
      obtain ⟨c, hc, ec, hcb⟩ := not_nat (wv_lt w j)
      rw [ec]
      have hcb : ∀ q, q < 64 → c.testBit q = !w.getD (64 * j + q) false := fun q hq => by rw [hcb q hq, wv_bit _ _ _ hq]
      by_cases hin : p < 64 * j + 64
      · have hbit : c.testBit (p - 64 * j) = true := by
          rw [hcb _ (by omega), show 64 * j + (p - 64 * j) = p by omega, getD_lt hp, hp1]; rfl
        have h0 : 0 < c := by
          rcases Nat.eq_zero_or_pos c with e | e
          · rw [e] at hbit; simp at hbit
          · exact e
        obtain ⟨t, ht, ht1, ht2, ht3⟩ := m_TZ hc h0
        have etp : 64 * j + t = p := by
          have h1 : ¬ p - 64 * j < t := fun h2 => by rw [ht3 _ h2] at hbit; cases hbit
          by_cases h2 : 64 * j + t = p
          · exact h2
          · have h3 := hp2 (64 * j + t) (by omega)
            rw [hcb t ht1, h3] at ht2
            cases ht2
        rw [bif_pos (ine_t (by omega)), ht, Option.bind_some]
        have e1 : wi (wi (64 * (j : Int)) + (t : Int)) = (p : Int) := by
          rw [wi_id (z := 64 * (j : Int)) (by omega) (by omega), wi_id (by omega) (by omega)]; omega
        rw [e1, m_turn h hl hp, Option.bind_some, appI_ok (by simp; omega), Option.bind_some, hp1, Bool.not_false]
        have hset : (w.set p true).length = w.length := by simp
        have hnf := (nfree_set hp).1 hp1
        have hlen2 : (out ++ [(p : Int)]).length = out.length + 1 := by simp
        rw [take_loop (H := H) k hk fuel (w.set p true) (out ++ [(p : Int)]) j _ (ge_st h) (by omega) (fun q h2 => ?_) (by omega) (by omega) (by rw [hset]; omega) (by rw [hset]; omega)]
        · rw [st_st, hlen2, show k - (out.length + 1) = m by omega, hm]
          have et : takeS (m + 1) w = ((p : Int) :: (takeS m (w.set p true)).1, (takeS m (w.set p true)).2) := by
            show (((w.idxOf false : Nat) : Int) :: _, _) = _
            rw [hpp]
          rw [et]
          simp
        · rw [List.getD_eq_getElem?_getD, List.getElem?_set, if_neg (by omega), ← List.getD_eq_getElem?_getD]
          exact hq q h2
      · have h0 : c = 0 := by
          apply Nat.eq_of_testBit_eq
          intro q
          rw [Nat.zero_testBit]
          by_cases hq : q < 64
          · rw [hcb q hq, hp2 _ (by omega)]; rfl
          · exact bit_ge hc (by omega)
        rw [h0, show (((0 : Nat) : Int) != 0) = false from rfl, cond_false, wi_succ (by unfold nw at *; omega)]
        exact take_loop (H := H) k hk fuel w out (j + 1) H h hl (fun q h2 => hp2 q (by omega)) ho hfr (by omega) (by omega)
    · rw [bif_neg (dec_f (by omega))]
      unfold m_space_Space_Take_j2
      rw [show k - out.length = 0 by omega]
      unfold takeS
      rw [st_same h]
      simp
theorem m_Take {H : Hp} {i : Nat} {w : List Bool} (h : H.ge_space i = some (spOf w)) (hl : w.length ≤ 16384) (k : Int) : m_space_Space_Take (some i) k H = some (if k < 0 then ([], 2, H) else if (nfree w : Int) < k then ([], 32, H) else ((takeS k.toNat w).1, 0, H.st_space i (spOf (takeS k.toNat w).2))) := by
  unfold m_space_Space_Take ptM
  simp only
  rw [h, Option.bind_some]
  unfold m_space_Space_Take_j1
  rw [show (!(spOf w).is_) = false from rfl, cond_false]
  by_cases h0 : k < 0
  · rw [bif_pos (dec_t h0), if_pos h0]
  · rw [bif_neg (dec_f h0), if_neg h0]
    unfold ptM
    simp only
    rw [h, Option.bind_some]
    have hle := nfree_le w
    have hf : (spOf w).free_ = ((nfree w : Nat) : Int) := rfl
    rw [hf]
    by_cases h1 : (nfree w : Int) < k
    · rw [bif_pos (dec_t h1), if_pos h1]
    · rw [bif_neg (dec_f h1), if_neg h1]
      obtain ⟨n, rfl⟩ : ∃ n : Nat, k = n := ⟨k.toNat, by omega⟩
      have := take_loop (H := H) n (by omega) (n + 300) w [] 0 H h (by omega) (fun q h2 => by omega) (by simp) (by simp; show n ≤ nfree w; omega) (by simp; unfold nw; omega) (by omega)
      rw [Int.toNat_natCast]
      simpa using this
end Go.Proofs.YtimdogdplphmoaaDoor

/-
  Space, as plain law: taking and giving back, the code's and the document's.
-/
namespace Go.Proofs.YtimdogdplphmoaaDoor
open Go Go.RowKit
set_option linter.unusedVariables false
set_option linter.unusedSimpArgs false

theorem loop_run {α : Type} {len : Nat} (F : Nat → Int → Option α) (K : Option α) (hstep : ∀ n i, i < len → F (n + 1) (i : Int) = F n ((i + 1 : Nat) : Int)) (hend : ∀ n, F (n + 1) (len : Int) = K) (n i : Nat) (h1 : i ≤ len) (h2 : len - i < n) : F n (i : Int) = K :=
  (loop_then F (fun _ => True) K none (fun n i hi => ⟨fun _ => hstep n i hi, fun h => absurd trivial h⟩) hend n i h1 h2).1 fun _ _ _ => trivial
/-! ### The document's free ones -/
theorem m_RFree (w : List Bool) (hl : w.length ≤ 100000) : m_R19_Free w = some ((nfree w : Nat) : Int) := by
  have key : ∀ (n j c : Nat), j ≤ w.length → w.length - j < n → c ≤ j → m_R19_Free_l1 w n (c : Int) (j : Int) = some ((c + nfree (w.drop j) : Nat) : Int) := by
    intro n
    induction n with
    | zero => intro j c h1 h2; omega
    | succ n ih =>
      intro j c h1 h2 h3
      unfold m_R19_Free_l1
      by_cases hlt : j < w.length
      · rw [bif_pos (dec_t (by omega)), idx_nat hlt, Option.bind_some]
        unfold m_R19_Free_j2
        rw [wi_succ (by omega), wi_succ (by omega)]
        have hd : nfree (w.drop j) = nfree (w.drop (j + 1)) + if w[j] = false then 1 else 0 := by
          rw [List.drop_eq_getElem_cons hlt]
          unfold nfree
          rw [List.count_cons]
          cases w[j] <;> rfl
        cases hb : w[j] with
        | false =>
          simp only [Bool.not_false, cond_true]
          rw [ih (j + 1) (c + 1) (by omega) (by omega) (by omega), hd, hb]
          simp
          omega
        | true =>
          simp only [Bool.not_true, cond_false]
          rw [ih (j + 1) c (by omega) (by omega) (by omega), hd, hb]
          simp
      · rw [bif_neg (dec_f (by omega)), List.drop_eq_nil_of_le (by omega)]
        rfl
  have := key (w.length + 1) 0 0 (by omega) (by omega) (by omega)
  unfold m_R19_Free
  simpa using this

/-! ### Some sectors turned -/
def putL (w : List Bool) (l : List Int) (b : Bool) : List Bool := l.foldl (fun w m => w.set m.toNat b) w
theorem putL_len (b : Bool) : ∀ (l : List Int) (w : List Bool), (putL w l b).length = w.length
  | [], w => rfl
  | x :: r, w => by
    show (putL (w.set x.toNat b) r b).length = _
    rw [putL_len b r]; simp
theorem putL_get (b : Bool) : ∀ (l : List Int) (w : List Bool), (∀ x ∈ l, 0 ≤ x ∧ x < w.length) → ∀ k, k < w.length → (putL w l b).getD k false = if (k : Int) ∈ l then b else w.getD k false
  | [], w, _, k, _ => by simp [putL]
  | x :: r, w, h, k, hk => by
    show (putL (w.set x.toNat b) r b).getD k false = _
    have hx := h x (by simp)
    rw [putL_get b r _ (fun y hy => by rw [List.length_set]; exact h y (by simp [hy])) k (by simpa using hk)]
    by_cases e : (k : Int) ∈ r
    · rw [if_pos e, if_pos (by simp [e])]
    · rw [if_neg e, List.getD_eq_getElem?_getD, List.getElem?_set]
      by_cases e2 : x.toNat = k
      · rw [if_pos e2, if_pos (by omega), if_pos (by simp; omega)]; rfl
      · rw [if_neg e2, if_neg (by simp [e]; omega), List.getD_eq_getElem?_getD]
theorem ext_getD {a b : List Bool} (hl : a.length = b.length) (h : ∀ k, k < a.length → a.getD k false = b.getD k false) : a = b := by
  apply List.ext_getElem hl
  intro k h1 h2
  have := h k h1
  rwa [getD_lt h1, getD_lt h2] at this
theorem putL_snoc (w : List Bool) (l : List Int) (b : Bool) {i : Nat} (hi : i < l.length) : putL w (l.take (i + 1)) b = (putL w (l.take i) b).set l[i].toNat b := by
  unfold putL
  rw [List.take_succ_eq_append_getElem hi, List.foldl_append]
  rfl
/-- Sector i of a list may be turned. -/
def OkAt (w : List Bool) (l : List Int) (was : Bool) (i : Nat) : Prop := ∃ hi : i < l.length, 0 ≤ l[i] ∧ l[i] < w.length ∧ w.getD l[i].toNat false = was ∧ l[i] ∉ l.take i
instance (w : List Bool) (l : List Int) (was : Bool) (i : Nat) : Decidable (OkAt w l was i) := by unfold OkAt; infer_instance
def OkAll (w : List Bool) (l : List Int) (was : Bool) : Prop := ∀ i, i < l.length → OkAt w l was i
instance (w : List Bool) (l : List Int) (was : Bool) : Decidable (OkAll w l was) := by unfold OkAll; infer_instance
theorem ok_mem {w : List Bool} {l : List Int} {was : Bool} {i : Nat} (hi : i ≤ l.length) (h : ∀ j, j < i → OkAt w l was j) : ∀ x ∈ l.take i, 0 ≤ x ∧ x < w.length ∧ w.getD x.toNat false = was := by
  intro x hx
  obtain ⟨j, hj, e⟩ := List.getElem_of_mem hx
  rw [List.getElem_take] at e
  have hj2 : j < i := by simp at hj; omega
  obtain ⟨_, h1, h2, h3, _⟩ := h j hj2
  subst e
  exact ⟨h1, h2, h3⟩
theorem m_RTurn (w : List Bool) (l : List Int) (was : Bool) (hll : l.length ≤ 100000) : m_R19_Turn_v0 w l was = some (if OkAll w l was then (0, putL w l (!was)) else (2, w)) := by
  have h2 : (∀ j, j < l.length → OkAt w l was j) → m_R19_Turn_v0_j1 l was w = some (0, putL w l (!was)) := fun h => by
    unfold m_R19_Turn_v0_j1
    have hm := ok_mem (Nat.le_refl _) h
    rw [List.take_length] at hm
    have := loop_run (len := l.length) (fun n z => m_R19_Turn_v0_l2 l was n z (putL w (l.take z.toNat) (!was))) (some (0, putL w l (!was))) (fun n i hi => ?_) (fun n => ?_) (l.length + 1) 0 (by omega) (by omega)
    · simpa [putL] using this
    · simp only [Int.toNat_natCast]
      rw [m_R19_Turn_v0_l2, bif_pos (dec_t (by omega)), idx_nat hi, Option.bind_some, wi_succ (by omega), putL_snoc _ _ _ hi]
      obtain ⟨h3, h4, _⟩ := hm l[i] (List.getElem_mem hi)
      have : ∃ v, idx (putL w (l.take i) (!was)) l[i] = some v := by
        obtain ⟨m, hm⟩ : ∃ m : Nat, l[i] = m := ⟨l[i].toNat, by omega⟩
        rw [hm]
        exact ⟨_, idx_nat (by rw [putL_len]; omega)⟩
      obtain ⟨v, hv⟩ := this
      rw [hv, Option.bind_some]
    · simp only [Int.toNat_natCast]
      rw [m_R19_Turn_v0_l2, bif_neg (dec_f (by omega)), List.take_length]
  unfold m_R19_Turn_v0
  have key := loop_then (len := l.length) (fun n z => m_R19_Turn_v0_l3 l w was n z) (OkAt w l was) (m_R19_Turn_v0_j1 l was w) (some (2, w)) (fun n i hi => ?_) (fun n => ?_) (l.length + 1) 0 (by omega) (by omega)
  · by_cases h : OkAll w l was
    · rw [if_pos h, ← h2 h]
      exact key.1 fun j _ hj => h j hj
    · rw [if_neg h]
      exact key.2 fun hc => h fun j hj => hc j (by omega) hj
  · rw [m_R19_Turn_v0_l3, bif_pos (dec_t (by omega)), idx_nat hi, Option.bind_some]
    by_cases h0 : l[i] < 0
    · rw [bif_pos (dec_t h0)]
      exact ⟨fun ⟨_, h, _⟩ => by omega, fun _ => rfl⟩
    · rw [bif_neg (dec_f h0)]
      by_cases h1 : l[i] ≥ w.length
      · rw [bif_pos (dec_t h1)]
        exact ⟨fun ⟨_, _, h, _⟩ => by omega, fun _ => rfl⟩
      · rw [bif_neg (dec_f h1)]
        obtain ⟨m, hm⟩ : ∃ m : Nat, l[i] = m := ⟨l[i].toNat, by omega⟩
        have hmw : m < w.length := by omega
        rw [hm, idx_nat hmw, Option.bind_some]
        by_cases h3 : w[m] = was
        · rw [show (!(w[m] == was)) = false by simp [h3], cond_false, Int.toNat_natCast]
          have k5 := loop_then (len := i) (fun n2 z => m_R19_Turn_v0_l5 (m_R19_Turn_v0_l3 l w was n) (i : Int) l (m : Int) w w[m] was n2 z) (fun k => ∃ h : k < l.length, l[k] ≠ (m : Int)) (m_R19_Turn_v0_l3 l w was n ((i + 1 : Nat) : Int)) (some (2, w)) (fun n2 k hk => ?_) (fun n2 => ?_) (i + 1) 0 (by omega) (by omega)
          · refine ⟨fun ⟨_, _, _, _, hn⟩ => k5.1 fun k _ hk => ⟨by omega, fun e => hn ?_⟩, fun hn => k5.2 fun hc => hn ⟨hi, by omega, by omega, by rw [hm, Int.toNat_natCast, getD_lt hmw, h3], fun hmem => ?_⟩⟩
            · rw [hm, ← e]
              have : (l.take i)[k]'(by simp; omega) = l[k] := List.getElem_take
              rw [← this]
              exact List.getElem_mem _
            · obtain ⟨k, hk, e⟩ := List.getElem_of_mem hmem
              rw [List.getElem_take] at e
              obtain ⟨_, hne⟩ := hc k (by omega) (by simp at hk; omega)
              exact hne (e.trans hm)
          · rw [m_R19_Turn_v0_l5, bif_pos (dec_t (by omega)), idx_nat (show k < l.length by omega), Option.bind_some, wi_succ (by omega)]
            by_cases e : l[k]'(by omega) = (m : Int)
            · rw [bif_pos (ieq_t e)]
              exact ⟨fun ⟨_, h⟩ => absurd e h, fun _ => rfl⟩
            · rw [bif_neg (ieq_f e)]
              exact ⟨fun _ => rfl, fun h => absurd ⟨by omega, e⟩ h⟩
          · rw [m_R19_Turn_v0_l5, bif_neg (dec_f (by omega))]
            unfold m_R19_Turn_v0_j4
            rw [wi_succ (by omega)]
        · rw [show (!(w[m] == was)) = true by simp [h3], cond_true]
          exact ⟨fun ⟨_, _, _, h, _⟩ => absurd (by rwa [hm, Int.toNat_natCast, getD_lt hmw] at h) h3, fun _ => rfl⟩
  · rw [m_R19_Turn_v0_l3, bif_neg (dec_f (by omega))]
theorem loop_then2 {α : Type} {len : Nat} (F : Nat → Int → Option α) (P : Nat → Prop) (K bad : Option α)
    (hstep : ∀ n i, i < len → (∀ j, j < i → P j) → (P i → F (n + 1) (i : Int) = F n ((i + 1 : Nat) : Int)) ∧ (¬ P i → F (n + 1) (i : Int) = bad))
    (hend : ∀ n, F (n + 1) (len : Int) = K) : ∀ n i, i ≤ len → len - i < n → (∀ j, j < i → P j) → ((∀ j, i ≤ j → j < len → P j) → F n (i : Int) = K) ∧ (¬ (∀ j, i ≤ j → j < len → P j) → F n (i : Int) = bad)
  | 0, i, _, h, _ => by omega
  | n + 1, i, hi, h, hpre => by
    by_cases hlt : i < len
    · obtain ⟨s1, s2⟩ := hstep n i hlt hpre
      by_cases hp : P i
      · rw [s1 hp]
        obtain ⟨k1, k2⟩ := loop_then2 F P K bad hstep hend n (i + 1) (by omega) (by omega) (fun j hj => by
          by_cases e : j = i
          · subst e; exact hp
          · exact hpre j (by omega))
        refine ⟨fun h => k1 fun j h1 h2 => h j (by omega) h2, fun h => k2 fun hc => h fun j h1 h2 => ?_⟩
        by_cases e : j = i
        · subst e; exact hp
        · exact hc j (by omega) h2
      · exact ⟨fun h => absurd (h i (Nat.le_refl _) hlt) hp, fun _ => s2 hp⟩
    · have e : i = len := by omega
      subst e
      exact ⟨fun _ => hend n, fun h => absurd (fun j h1 h2 => absurd h2 (by omega)) h⟩
theorem m_all {H : Hp} {i : Nat} {w : List Bool} (h : H.ge_space i = some (spOf w)) (hl : w.length ≤ 100000) (l : List Int) (fr : Bool) (hll : l.length ≤ 100000) :
    m_space_Space_all (some i) l fr H = some (if OkAll w l (!fr) then (0, H.st_space i (spOf (putL w l fr))) else (2, H)) := by
  unfold m_space_Space_all ptM
  simp only
  rw [h, Option.bind_some, show (!(spOf w).is_) = false from rfl, cond_false]
  let Hs : Nat → Hp := fun k => H.st_space i (spOf (putL w (l.take k) fr))
  have hs0 : Hs 0 = H := by show H.st_space i (spOf (putL w (l.take 0) fr)) = H; exact st_same h
  have hge : ∀ k, (Hs k).ge_space i = some (spOf (putL w (l.take k) fr)) := fun k => ge_st h
  have hlen : ∀ k, (putL w (l.take k) fr).length = w.length := fun k => putL_len _ _ _
  have hundo : ∀ k (hk : k ≤ l.length) (kl : _) (z : Int), (∀ j, j < k → OkAt w l (!fr) j) → m_space_Space_all_j2 kl l (k : Int) i z true (Hs k) = some (2, H) := fun k hk kl z hok => by
    have hm := ok_mem hk hok
    unfold m_space_Space_all_j2
    rw [cond_true, cutI_take hk, Option.bind_some]
    generalize hpre : l.take k = pre at hm
    have hpl : pre.length = k := by rw [← hpre]; simp; omega
    have hnd : ∀ j (hj : j < pre.length), pre[j] ∉ pre.take j := fun j hj => by
      obtain ⟨hj2, _, _, _, h5⟩ := hok j (by omega)
      have e1 : pre[j] = l[j] := by subst hpre; exact List.getElem_take
      have e2 : pre.take j = l.take j := by subst hpre; rw [List.take_take, Nat.min_eq_left (by omega)]
      rw [e1, e2]
      exact h5
    let Hu : Nat → Hp := fun j => H.st_space i (spOf (putL (putL w pre fr) (pre.take j) (!fr)))
    have hu0 : Hu 0 = Hs k := by show H.st_space i (spOf (putL (putL w pre fr) (pre.take 0) (!fr))) = H.st_space i (spOf (putL w (l.take k) fr)); rw [hpre]; rfl
    have hval : ∀ x ∈ pre, 0 ≤ x ∧ x < w.length := fun x hx => ⟨(hm x hx).1, (hm x hx).2.1⟩
    have huE : putL (putL w pre fr) pre (!fr) = w := by
      refine ext_getD (by rw [putL_len, putL_len]) fun q hq => ?_
      rw [putL_len, putL_len] at hq
      rw [putL_get _ _ _ (fun x hx => by rw [putL_len]; exact hval x hx) q (by rw [putL_len]; exact hq), putL_get _ _ _ hval q hq]
      by_cases e : (q : Int) ∈ pre
      · rw [if_pos e]
        have := (hm _ e).2.2
        rw [Int.toNat_natCast] at this
        exact this.symm
      · rw [if_neg e, if_neg e]
    have hrun := loop_run (len := pre.length) (fun n z => m_space_Space_all_l3 pre i n z (Hu z.toNat)) (some (2, H)) (fun n j hj => ?_) (fun n => ?_) (pre.length + 1) 0 (by omega) (by omega)
    · rw [← hu0]
      exact hrun
    · simp only [Int.toNat_natCast]
      rw [m_space_Space_all_l3, bif_pos (dec_t (by omega)), idx_nat hj, Option.bind_some, wi_succ (by omega)]
      obtain ⟨m, hm1⟩ : ∃ m : Nat, pre[j] = m := ⟨pre[j].toNat, by have := (hval _ (List.getElem_mem hj)).1; omega⟩
      have hmw : m < w.length := by have := (hval _ (List.getElem_mem hj)).2; omega
      have hlu : (putL (putL w pre fr) (pre.take j) (!fr)).length = w.length := by rw [putL_len, putL_len]
      have hge : (Hu j).ge_space i = some (spOf (putL (putL w pre fr) (pre.take j) (!fr))) := ge_st h
      rw [hm1, m_turn hge (by omega) (by omega), Option.bind_some]
      have hv : (putL (putL w pre fr) (pre.take j) (!fr))[m]'(by omega) = fr := by
        rw [← getD_lt, putL_get _ _ _ (fun x hx => by rw [putL_len]; exact hval x (List.mem_of_mem_take hx)) m (by rw [putL_len]; exact hmw), if_neg (by rw [← hm1]; exact hnd j hj), putL_get _ _ _ hval m hmw, if_pos (by rw [← hm1]; exact List.getElem_mem hj)]
      congr 1
      show (H.st_space i _).st_space i _ = H.st_space i _
      rw [st_st, putL_snoc _ _ _ hj, hm1, Int.toNat_natCast, hv]
    · simp only [Int.toNat_natCast]
      rw [m_space_Space_all_l3, bif_neg (dec_f (by omega))]
      congr 2
      show H.st_space i (spOf (putL (putL w pre fr) (pre.take pre.length) (!fr))) = H
      rw [List.take_length, huE]
      exact st_same h
  have key := loop_then2 (len := l.length) (fun n z => m_space_Space_all_l1 l i fr n z (Hs z.toNat)) (OkAt w l (!fr)) (some (0, Hs l.length)) (some (2, H)) (fun n k hk hpre => ?_) (fun n => ?_) (l.length + 1) 0 (by omega) (by omega) (fun j hj => by omega)
  · have e0 : Hs ((0 : Nat) : Int).toNat = H := hs0
    by_cases hok : OkAll w l (!fr)
    · rw [if_pos hok]
      have := key.1 fun j _ hj => hok j hj
      rw [e0] at this
      refine this.trans ?_
      show some (0, H.st_space i (spOf (putL w (l.take l.length) fr))) = _
      rw [List.take_length]
    · rw [if_neg hok]
      have := key.2 fun hc => hok fun j hj => hc j (by omega) hj
      rw [e0] at this
      exact this
  · simp only [Int.toNat_natCast]
    rw [m_space_Space_all_l1, bif_pos (dec_t (by omega)), idx_nat hk, Option.bind_some]
    by_cases h0 : l[k] < 0
    · rw [bif_pos (dec_t h0)]
      exact ⟨fun ⟨_, h, _⟩ => by omega, fun _ => hundo k (by omega) _ _ hpre⟩
    · rw [bif_neg (dec_f h0), hge k, Option.bind_some]
      have hn : (spOf (putL w (l.take k) fr)).n_ = (w.length : Int) := by show ((putL w (l.take k) fr).length : Int) = _; rw [hlen]
      rw [hn]
      by_cases h1 : l[k] ≥ w.length
      · rw [bif_pos (dec_t h1)]
        exact ⟨fun ⟨_, _, h, _⟩ => by omega, fun _ => hundo k (by omega) _ _ hpre⟩
      · rw [bif_neg (dec_f h1)]
        obtain ⟨m, hm⟩ : ∃ m : Nat, l[k] = m := ⟨l[k].toNat, by omega⟩
        have hmw : m < w.length := by omega
        have hval : ∀ x ∈ l.take k, 0 ≤ x ∧ x < w.length := fun x hx => by have := ok_mem (by omega) hpre x hx; exact ⟨this.1, this.2.1⟩
        have hg := putL_get fr _ _ hval m hmw
        rw [hm, m_Has (hge k) (by rw [hlen]; omega), Option.bind_some, hlen, dec_t (by omega), dec_t (by omega), Int.toNat_natCast, hg]
        by_cases hmem : (m : Int) ∈ l.take k
        · rw [if_pos hmem, show (!((true && true && !fr) == fr)) = true by cases fr <;> rfl]
          exact ⟨fun ⟨_, _, _, _, hn⟩ => absurd (by rw [hm]; exact hmem) hn, fun _ => hundo k (by omega) _ _ hpre⟩
        · rw [if_neg hmem]
          by_cases h3 : w.getD m false = !fr
          · rw [h3, show (!((true && true && !!fr) == fr)) = false by cases fr <;> rfl]
            refine ⟨fun _ => ?_, fun hn => absurd ⟨hk, by omega, by omega, by rw [hm, Int.toNat_natCast, h3], by rw [hm]; exact hmem⟩ hn⟩
            unfold m_space_Space_all_j2
            rw [cond_false, m_turn (hge k) (by rw [hlen]; omega) (by rw [hlen]; exact hmw), Option.bind_some, wi_succ (by omega)]
            congr 1
            show (H.st_space i _).st_space i _ = H.st_space i _
            rw [st_st, putL_snoc _ _ _ hk, hm, Int.toNat_natCast, ← getD_lt, hg, if_neg hmem, h3]
            simp
          · rw [show (!((true && true && !w.getD m false) == fr)) = true by revert h3; cases w.getD m false <;> cases fr <;> simp]
            exact ⟨fun ⟨_, _, _, h, _⟩ => absurd (by rwa [hm, Int.toNat_natCast] at h) h3, fun _ => hundo k (by omega) _ _ hpre⟩
  · simp only [Int.toNat_natCast]
    rw [m_space_Space_all_l1, bif_neg (dec_f (by omega))]
end Go.Proofs.YtimdogdplphmoaaDoor

/-
  Space, as plain law: the document's taking; bytes; the highest one.
-/
namespace Go.Proofs.YtimdogdplphmoaaDoor
open Go Go.RowKit
set_option linter.unusedVariables false
set_option linter.unusedSimpArgs false

theorem rtake_loop (k : Nat) (hk : k ≤ 100000) : ∀ (fuel : Nat) (w : List Bool) (out : List Int) (j : Nat), w.length ≤ 100000 → (∀ q, q < j → w.getD q false = true) → j ≤ w.length → out.length ≤ k → k - out.length ≤ nfree w → w.length - j < fuel →
    m_R19_Take_v0_l2 (k : Int) fuel out (j : Int) w = some (out ++ (takeS (k - out.length) w).1, 0, (takeS (k - out.length) w).2)
  | 0, w, out, j, _, _, _, _, _, hf => by omega
  | fuel + 1, w, out, j, hl, hq, hj, ho, hfr, hf => by
    rw [m_R19_Take_v0_l2]
    by_cases hlt : out.length < k
    · obtain ⟨m, hm⟩ : ∃ m, k - out.length = m + 1 := ⟨k - out.length - 1, by omega⟩
      obtain ⟨hp, hp1, hp2⟩ := idx_free (w := w) (by omega)
      generalize hpp : w.idxOf false = p at hp hp1 hp2
      have hpj : j ≤ p := by
        refine Nat.le_of_not_lt fun h2 => ?_
        have := hq p h2
        rw [getD_lt hp, hp1] at this
        cases this
      have hjl : j < w.length := by omega
      rw [bif_pos (dec_t (by omega)), bif_pos (dec_t (by omega)), idx_nat hjl, Option.bind_some]
      unfold m_R19_Take_v0_j3
      rw [wi_succ (by omega)]
      cases hb : w[j] with
      | false =>
        have e : j = p := by
          by_cases h2 : j = p
          · exact h2
          · have := hp2 j (by omega)
            rw [getD_lt hjl, hb] at this
            cases this
        subst e
        have hlen2 : (out ++ [(j : Int)]).length = out.length + 1 := by simp
        have hset : (w.set j true).length = w.length := by simp
        have hnf := (nfree_set hp).1 hp1
        rw [Bool.not_false, cond_true, Option.bind_some, appI_ok (by simp; omega), Option.bind_some, Int.toNat_natCast,
          rtake_loop k hk fuel (w.set j true) (out ++ [(j : Int)]) (j + 1) (by omega) (fun q h2 => ?_) (by omega) (by omega) (by omega) (by omega)]
        · rw [hlen2, show k - (out.length + 1) = m by omega, hm]
          have et : takeS (m + 1) w = ((j : Int) :: (takeS m (w.set j true)).1, (takeS m (w.set j true)).2) := by
            show (((w.idxOf false : Nat) : Int) :: _, _) = _
            rw [hpp]
          rw [et]
          simp
        · rw [List.getD_eq_getElem?_getD, List.getElem?_set]
          by_cases e2 : j = q
          · rw [if_pos e2, if_pos (by omega)]; rfl
          · rw [if_neg e2, ← List.getD_eq_getElem?_getD]
            exact hq q (by omega)
      | true =>
        rw [Bool.not_true, cond_false]
        refine rtake_loop k hk fuel w out (j + 1) hl (fun q h2 => ?_) (by omega) ho hfr (by omega)
        by_cases e2 : q = j
        · rw [e2, getD_lt hjl, hb]
        · exact hq q (by omega)
    · have e0 : k - out.length = 0 := by omega
      have hend : m_R19_Take_v0_j1 out w = some (out ++ (takeS (k - out.length) w).1, 0, (takeS (k - out.length) w).2) := by
        unfold m_R19_Take_v0_j1
        rw [e0]
        unfold takeS
        simp
      by_cases h2 : j < w.length
      · rw [bif_pos (dec_t (by omega)), bif_neg (dec_f (by omega)), hend]
      · rw [bif_neg (dec_f (by omega)), hend]
theorem m_RTake {w : List Bool} (hl : w.length ≤ 16384) (k : Int) : m_R19_Take_v0 w k = some (if k < 0 then ([], 2, w) else if (nfree w : Int) < k then ([], 32, w) else ((takeS k.toNat w).1, 0, (takeS k.toNat w).2)) := by
  unfold m_R19_Take_v0
  have hle := nfree_le w
  by_cases h0 : k < 0
  · rw [bif_pos (dec_t h0), if_pos h0]
  · rw [bif_neg (dec_f h0), if_neg h0, m_RFree w (by omega), Option.bind_some]
    by_cases h1 : (nfree w : Int) < k
    · rw [bif_pos (dec_t h1), if_pos h1]
    · rw [bif_neg (dec_f h1), if_neg h1]
      obtain ⟨n, rfl⟩ : ∃ n : Nat, k = n := ⟨k.toNat, by omega⟩
      have := rtake_loop n (by omega) (w.length + 1) w [] 0 (by omega) (fun q h2 => by omega) (by omega) (by simp) (by simp; omega) (by omega)
      rw [Int.toNat_natCast]
      simpa using this

/-! ### Bytes -/
def bv (w : List Bool) (j : Nat) : Nat := nb ((List.range 8).map fun q => w.getD (8 * j + q) false)
theorem bv_lt (w : List Bool) (j : Nat) : bv w j < 256 := by
  have := nb_lt ((List.range 8).map fun q => w.getD (8 * j + q) false)
  rw [List.length_map, List.length_range] at this
  exact this
theorem bv_bit (w : List Bool) (j q : Nat) : (bv w j).testBit q = (decide (q < 8) && w.getD (8 * j + q) false) := by
  unfold bv
  rw [nb_bit, List.getD_eq_getElem?_getD, List.getElem?_map]
  by_cases h : q < 8
  · rw [List.getElem?_range h, dec_t h]; simp
  · rw [List.getElem?_eq_none (by simp; omega), dec_f h]; rfl
def bwOf (w : List Bool) : List UInt8 := (List.range ((w.length + 7) / 8)).map fun j => UInt8.ofNat (bv w j)
theorem bwOf_len (w : List Bool) : (bwOf w).length = (w.length + 7) / 8 := by simp [bwOf]
theorem U8_nat (x : Nat) : U8 (x : Int) = UInt8.ofNat (x % 256) := by
  unfold U8
  congr 1
theorem byte_of_word (w : List Bool) (j : Nat) : (wv w (j / 8) >>> (8 * (j % 8))) % 256 = bv w j := by
  apply Nat.eq_of_testBit_eq
  intro q
  rw [show (256 : Nat) = 2 ^ 8 from rfl, Nat.testBit_mod_two_pow, Nat.testBit_shiftRight, bv_bit]
  by_cases h : q < 8
  · rw [wv_bit _ _ _ (by omega), show 64 * (j / 8) + (8 * (j % 8) + q) = 8 * j + q by omega]
  · rw [dec_f h]; simp
theorem m_Bytes {H : Hp} {i : Nat} {w : List Bool} (h : H.ge_space i = some (spOf w)) (hl : w.length ≤ 100000) : m_space_Space_Bytes (some i) H = some (bwOf w, H) := by
  unfold m_space_Space_Bytes ptM
  simp only
  rw [h, Option.bind_some]
  have e0 : wi (Int.tdiv (wi ((spOf w).n_ + 7)) 8) = (((w.length + 7) / 8 : Nat) : Int) := by
    show wi (Int.tdiv (wi (((w.length : Nat) : Int) + 7)) 8) = _
    rw [wi_id (z := ((w.length : Nat) : Int) + 7) (by omega) (by omega)]
    have : Int.tdiv (((w.length : Nat) : Int) + 7) 8 = (((w.length + 7) / 8 : Nat) : Int) := tdiv_nat (w.length + 7) 8
    rw [this, wi_nat (by omega)]
  rw [e0]
  generalize hN : (w.length + 7) / 8 = N
  have e1 : mkI 1 ((N : Nat) : Int) = some N := by unfold mkI; rw [if_pos ⟨by omega, by omega, by omega⟩]; simp
  rw [e1, Option.bind_some]
  let F : Nat → List UInt8 := fun j => (bwOf w).take j ++ List.replicate (N - j) 0
  have hF0 : F 0 = List.replicate N 0 := by show (bwOf w).take 0 ++ _ = _; simp
  have hbl : (bwOf w).length = N := by rw [bwOf_len, hN]
  have hFl : ∀ j, j ≤ N → (F j).length = N := fun j hj => by show ((bwOf w).take j ++ List.replicate (N - j) 0).length = _; simp [hbl]; omega
  have key := loop_run (len := N) (fun n z => m_space_Space_Bytes_l1 N (spOf w) H n z (F z.toNat)) (some (bwOf w, H)) (fun n j hj => ?_) (fun n => ?_) (Int.toNat ((N : Nat) : Int) + 1) 0 (by omega) (by omega)
  · rw [← hF0]; exact key
  · simp only [Int.toNat_natCast]
    have e64 : (8 : Int) = ((8 : Nat) : Int) := rfl
    rw [m_space_Space_Bytes_l1, bif_pos (dec_t (by omega)), wi_succ (by omega), e64, tdiv_nat, tmod_nat, wi_nat (by omega)]
    have e2 : idx (spOf w).l_ ((j / 8 : Nat) : Int) = some ((wv w (j / 8) : Nat) : Int) := words_get w (by unfold nw; omega)
    have e3 : IntKind.u64.wrap (wi (((8 : Nat) : Int) * ((j % 8 : Nat) : Int))) = ((8 * (j % 8) : Nat) : Int) := by
      have : ((8 : Nat) : Int) * ((j % 8 : Nat) : Int) = ((8 * (j % 8) : Nat) : Int) := by omega
      rw [this, wi_nat (by omega), u64_nat (by omega)]
    rw [e2, Option.bind_some, e3, shr_nat (by omega), Option.bind_some, idx_nat (by rw [hFl j (by omega)]; exact hj), Option.bind_some, U8_nat, byte_of_word, Int.toNat_natCast]
    congr 1
    show ((bwOf w).take j ++ List.replicate (N - j) 0).set j (UInt8.ofNat (bv w j)) = (bwOf w).take (j + 1) ++ List.replicate (N - (j + 1)) 0
    have hjb : j < (bwOf w).length := by omega
    rw [List.set_append_right _ _ (by simp; omega), List.take_succ_eq_append_getElem hjb]
    have e4 : (List.take j (bwOf w)).length = j := by simp; omega
    rw [e4, Nat.sub_self, show N - j = (N - (j + 1)) + 1 by omega, List.replicate_succ, List.set_cons_zero]
    have e5 : (bwOf w)[j] = UInt8.ofNat (bv w j) := by simp [bwOf]
    rw [e5]
    simp
  · simp only [Int.toNat_natCast]
    rw [m_space_Space_Bytes_l1, bif_neg (dec_f (by omega))]
    congr 2
    show (bwOf w).take N ++ List.replicate (N - N) 0 = _
    rw [Nat.sub_self, ← hbl, List.take_length]
    simp
def rbv (w : List Bool) (j k : Nat) : Nat := nb ((List.range (8 - k)).map fun q => w.getD (8 * j + k + q) false)
theorem rbv_step (w : List Bool) (j k : Nat) (hk : k < 8) : rbv w j k = (bif w.getD (8 * j + k) false then 1 else 0) + 2 * rbv w j (k + 1) := by
  unfold rbv
  rw [show 8 - k = (8 - (k + 1)) + 1 by omega, List.range_succ_eq_map, List.map_cons, nb_cons, List.map_map, Nat.add_zero]
  congr 2
  congr 1
  apply List.map_congr_left
  intro q _
  simp only [Function.comp]
  congr 1
  omega
theorem rbv_lt (w : List Bool) (j k : Nat) : rbv w j k < 256 := by
  have := nb_lt ((List.range (8 - k)).map fun q => w.getD (8 * j + k + q) false)
  unfold rbv
  refine Nat.lt_of_lt_of_le this ?_
  rw [List.length_map, List.length_range]
  exact Nat.pow_le_pow_right (n := 2) (i := 8 - k) (j := 8) (by omega) (by omega)
theorem m_RBytes (w : List Bool) (hl : w.length ≤ 100000) : m_R19_Bytes w = some (bwOf w) := by
  have hin : ∀ (kl : List UInt8 → Int → Option (List UInt8)) (j : Nat) (out : List UInt8), 8 * j < w.length → ∀ (n k : Nat), k ≤ 8 → k < n → m_R19_Bytes_l3 kl ((8 * j : Nat) : Int) w out n ((rbv w j k : Nat) : Int) ((k : Int) - 1) = m_R19_Bytes_j2 kl out ((8 * j : Nat) : Int) ((rbv w j 0 : Nat) : Int) := by
    intro kl j out hj n
    induction n with
    | zero => intro k h1 h2; omega
    | succ n ih =>
      intro k h1 h2
      rw [m_R19_Bytes_l3]
      cases k with
      | zero => rw [bif_neg (dec_f (by omega))]
      | succ k =>
        have hlt := rbv_lt w j (k + 1)
        have hst := rbv_step w j k (by omega)
        rw [bif_pos (dec_t (by omega))]
        have e1 : wi (((8 * j : Nat) : Int) + (((k + 1 : Nat) : Int) - 1)) = ((8 * j + k : Nat) : Int) := by rw [wi_id (by omega) (by omega)]; omega
        have e2 : wi (2 * ((rbv w j (k + 1) : Nat) : Int)) = ((2 * rbv w j (k + 1) : Nat) : Int) := by rw [wi_id (by omega) (by omega)]; omega
        have e3 : wi ((((k + 1 : Nat) : Int) - 1) - 1) = (k : Int) - 1 := by rw [wi_id (by omega) (by omega)]; omega
        have e4 : wi (((2 * rbv w j (k + 1) : Nat) : Int) + 1) = ((1 + 2 * rbv w j (k + 1) : Nat) : Int) := by rw [wi_id (by omega) (by omega)]; omega
        unfold m_R19_Bytes_j4
        rw [e1, e2, e3, e4]
        have hih := ih k (by omega) (by omega)
        by_cases h3 : 8 * j + k < w.length
        · rw [bif_pos (dec_t (by omega)), idx_nat h3, Option.bind_some]
          rw [getD_lt h3] at hst
          cases hb : w[8 * j + k] with
          | true =>
            rw [hb] at hst
            rw [cond_true, ← hih, hst, cond_true]
          | false =>
            rw [hb] at hst
            rw [cond_false, ← hih, hst, cond_false, Nat.zero_add]
        · rw [bif_neg (dec_f (by omega)), ← hih, hst]
          rw [List.getD_eq_getElem?_getD, List.getElem?_eq_none (by omega)]
          simp
  have hb0 : ∀ j, rbv w j 0 = bv w j := fun j => by unfold rbv bv; simp
  have hout : ∀ (n j : Nat), j ≤ (w.length + 7) / 8 → (w.length + 7) / 8 - j < n → m_R19_Bytes_l1 w n ((bwOf w).take j) ((8 * j : Nat) : Int) = some (bwOf w) := by
    intro n
    induction n with
    | zero => intro j h1 h2; omega
    | succ n ih =>
      intro j h1 h2
      rw [m_R19_Bytes_l1]
      have hbl := bwOf_len w
      by_cases h3 : 8 * j < w.length
      · have h8 : rbv w j 8 = 0 := rfl
        have := hin (m_R19_Bytes_l1 w n) j ((bwOf w).take j) h3 9 8 (by omega) (by omega)
        rw [h8] at this
        rw [bif_pos (dec_t (by omega)), show (7 : Int) = ((8 : Nat) : Int) - 1 from rfl, show (0 : Int) = ((0 : Nat) : Int) from rfl, this]
        unfold m_R19_Bytes_j2
        rw [appI_ok (by simp; omega), Option.bind_some, hb0]
        have e1 : wi (((8 * j : Nat) : Int) + 8) = ((8 * (j + 1) : Nat) : Int) := by rw [wi_id (by omega) (by omega)]; omega
        have hjb : j < (bwOf w).length := by omega
        have e5 : (bwOf w)[j] = UInt8.ofNat (bv w j) := by simp [bwOf]
        rw [e1, U8_nat, Nat.mod_eq_of_lt (bv_lt w j), ← e5, ← List.take_succ_eq_append_getElem hjb]
        exact ih (j + 1) (by omega) (by omega)
      · rw [bif_neg (dec_f (by omega)), List.take_of_length_le (by omega)]
  have := hout (w.length + 1) 0 (by omega) (by omega)
  unfold m_R19_Bytes
  simpa using this
end Go.Proofs.YtimdogdplphmoaaDoor

/-
  Space, as plain law: the highest taken one; the runs of free ones; all that is told.
-/
namespace Go.Proofs.YtimdogdplphmoaaDoor
open Go Go.RowKit
set_option linter.unusedVariables false
set_option linter.unusedSimpArgs false

/-! ### How many bits -/
def LenIs (v L : Nat) : Prop := v < 2 ^ L ∧ (0 < v → 2 ^ L ≤ 2 * v)
def len8Ok (b : Nat) : Bool := match tblLen[b]? with
  | some c => decide (b < 2 ^ c.toNat) && (b == 0 || decide (2 ^ c.toNat ≤ 2 * b)) && decide (c.toNat ≤ 8)
  | none => false
theorem len8_all : (List.range 256).all len8Ok = true := by kernel_rfl
theorem len8 {b : Nat} (hb : b < 256) : ∃ c : UInt8, idx tblLen (b : Int) = some c ∧ LenIs b c.toNat ∧ c.toNat ≤ 8 := by
  have := List.all_eq_true.1 len8_all b (List.mem_range.2 hb)
  unfold len8Ok at this
  split at this
  · rename_i c hc
    simp only [Bool.and_eq_true, Bool.or_eq_true, decide_eq_true_eq] at this
    obtain ⟨⟨h1, h2⟩, h3⟩ := this
    refine ⟨c, ?_, ⟨h1, fun h0 => h2.resolve_left (by simp; omega)⟩, h3⟩
    have := idx_nat (l := tblLen) (i := b) (by rw [tblLen_len]; exact hb)
    rw [this]
    rw [List.getElem?_eq_getElem (by rw [tblLen_len]; exact hb)] at hc
    exact hc
  · cases this
theorem len_shift {v s L : Nat} (hv : 2 ^ s ≤ v) (h : LenIs (v / 2 ^ s) L) : LenIs v (L + s) := by
  have hp : 0 < 2 ^ s := Nat.two_pow_pos s
  constructor
  · rw [Nat.pow_add]
    exact (Nat.div_lt_iff_lt_mul hp).1 h.1
  · intro _
    have h1 : 0 < v / 2 ^ s := Nat.div_pos hv hp
    have h2 := h.2 h1
    rw [Nat.pow_add]
    have h3 : v / 2 ^ s * 2 ^ s ≤ v := Nat.div_mul_le_self v (2 ^ s)
    calc 2 ^ L * 2 ^ s ≤ (2 * (v / 2 ^ s)) * 2 ^ s := Nat.mul_le_mul_right _ h2
      _ = 2 * (v / 2 ^ s * 2 ^ s) := by rw [Nat.mul_assoc]
      _ ≤ 2 * v := Nat.mul_le_mul_left _ h3
theorem fdiv_pow (v s : Nat) : Int.fdiv (v : Int) (2 ^ s) = ((v / 2 ^ s : Nat) : Int) := by
  rw [Int.fdiv_eq_ediv_of_nonneg _ (by exact Int.natCast_nonneg (2 ^ s))]
  rfl
theorem m_Len3 {v : Nat} (hv : v < 256) (n : Nat) (hn : n ≤ 100) : ∃ L, m_math_bits_Len64_j3 (v : Int) (n : Int) = some ((L + n : Nat) : Int) ∧ LenIs v L ∧ L ≤ 8 := by
  obtain ⟨c, h1, h2, h3⟩ := len8 hv
  refine ⟨c.toNat, ?_, h2, h3⟩
  have e : ((U8 (v : Int)).toNat : Int) = (v : Int) := by rw [U8_nat, Nat.mod_eq_of_lt hv]; simp; omega
  have := bnd (f := fun x7 : UInt8 => wi ((n : Int) + (x7.toNat : Int))) h1
  unfold m_math_bits_Len64_j3
  rw [e]
  refine this.trans ?_
  rw [wi_id (by omega) (by omega)]
  congr 1
  omega
theorem m_Len2 {v : Nat} (hv : v < 65536) (n : Nat) (hn : n ≤ 90) : ∃ L, m_math_bits_Len64_j2 (v : Int) (n : Int) = some ((L + n : Nat) : Int) ∧ LenIs v L ∧ L ≤ 16 := by
  unfold m_math_bits_Len64_j2
  by_cases h : 256 ≤ v
  · rw [bif_pos (dec_t (by omega)), fdiv_pow]
    have e : wi ((n : Int) + 8) = ((n + 8 : Nat) : Int) := by rw [wi_id (by omega) (by omega)]; omega
    rw [e]
    obtain ⟨L, h1, h2, h3⟩ := m_Len3 (v := v / 2 ^ 8) (by omega) (n + 8) (by omega)
    exact ⟨L + 8, by rw [h1]; congr 1; omega, len_shift (s := 8) (by omega) h2, by omega⟩
  · rw [bif_neg (dec_f (by omega))]
    obtain ⟨L, h1, h2, h3⟩ := m_Len3 (v := v) (by omega) n (by omega)
    exact ⟨L, h1, h2, by omega⟩
theorem m_Len1 {v : Nat} (hv : v < 4294967296) (n : Nat) (hn : n ≤ 70) : ∃ L, m_math_bits_Len64_j1 (v : Int) (n : Int) = some ((L + n : Nat) : Int) ∧ LenIs v L ∧ L ≤ 32 := by
  unfold m_math_bits_Len64_j1
  by_cases h : 65536 ≤ v
  · rw [bif_pos (dec_t (by omega)), fdiv_pow]
    have e : wi ((n : Int) + 16) = ((n + 16 : Nat) : Int) := by rw [wi_id (by omega) (by omega)]; omega
    rw [e]
    obtain ⟨L, h1, h2, h3⟩ := m_Len2 (v := v / 2 ^ 16) (by omega) (n + 16) (by omega)
    exact ⟨L + 16, by rw [h1]; congr 1; omega, len_shift (s := 16) (by omega) h2, by omega⟩
  · rw [bif_neg (dec_f (by omega))]
    obtain ⟨L, h1, h2, h3⟩ := m_Len2 (v := v) (by omega) n (by omega)
    exact ⟨L, h1, h2, by omega⟩
theorem m_Len {v : Nat} (hv : v < 18446744073709551616) : ∃ L : Nat, m_math_bits_Len64 (v : Int) = some (L : Int) ∧ LenIs v L ∧ L ≤ 64 := by
  unfold m_math_bits_Len64
  by_cases h : 4294967296 ≤ v
  · rw [bif_pos (dec_t (by omega)), fdiv_pow]
    obtain ⟨L, h1, h2, h3⟩ := m_Len1 (v := v / 2 ^ 32) (by omega) 32 (by omega)
    exact ⟨L + 32, h1, len_shift (s := 32) (by omega) h2, by omega⟩
  · rw [bif_neg (dec_f (by omega))]
    obtain ⟨L, h1, h2, h3⟩ := m_Len1 (v := v) (by omega) 0 (by omega)
    exact ⟨L, h1, h2, by omega⟩
theorem len_bit {v L : Nat} (h0 : 0 < v) (h : LenIs v L) : ∃ p, L = p + 1 ∧ v.testBit p = true ∧ ∀ q, p < q → v.testBit q = false := by
  obtain ⟨h1, h2⟩ := h
  have h2 := h2 h0
  cases L with
  | zero => rw [Nat.pow_zero] at h1; omega
  | succ p =>
    rw [Nat.pow_succ] at h1 h2
    refine ⟨p, rfl, ?_, fun q hq => ?_⟩
    · rw [Nat.testBit_eq_decide_div_mod_eq, Nat.div_eq_of_lt_le (k := 1) (by omega) (by omega)]
      rfl
    · refine Nat.testBit_lt_two_pow (Nat.lt_of_lt_of_le h1 ?_)
      rw [← Nat.pow_succ]
      exact Nat.pow_le_pow_right (by omega) (by omega)

/-! ### The highest taken one -/
def topOf (w : List Bool) : Nat → Int
  | 0 => -1
  | k + 1 => if w.getD k false = true then (k : Int) else topOf w k
theorem topOf_succ (w : List Bool) (k : Nat) : topOf w (k + 1) = if w.getD k false = true then (k : Int) else topOf w k := rfl
theorem topOf_eq {w : List Bool} {p : Nat} (hp : w.getD p false = true) : ∀ k, p < k → (∀ q, p < q → q < k → w.getD q false = false) → topOf w k = (p : Int)
  | 0, h, _ => by omega
  | k + 1, h, hq => by
    rw [topOf_succ]
    by_cases e : p = k
    · subst e; rw [if_pos hp]
    · rw [if_neg (by rw [hq k (by omega) (by omega)]; simp)]
      exact topOf_eq hp k (by omega) fun q h1 h2 => hq q h1 (by omega)
theorem topOf_skip {w : List Bool} {a : Nat} : ∀ b, a ≤ b → (∀ q, a ≤ q → q < b → w.getD q false = false) → topOf w b = topOf w a
  | 0, h, _ => by rw [show a = 0 by omega]
  | b + 1, h, hq => by
    by_cases e : a = b + 1
    · rw [e]
    · rw [topOf_succ, if_neg (by rw [hq b (by omega) (by omega)]; simp)]
      exact topOf_skip b (by omega) fun q h1 h2 => hq q h1 (by omega)
theorem getD_ge {w : List Bool} {k : Nat} (h : w.length ≤ k) : w.getD k false = false := by
  rw [List.getD_eq_getElem?_getD, List.getElem?_eq_none h]; rfl
theorem m_topM (w : List Bool) (hl : w.length ≤ 100000) : ∀ j, j ≤ nw w.length → topM (words w) j = some (topOf w (64 * j))
  | 0, _ => rfl
  | j + 1, hj => by
    have hjn : j < (words w).length := by rw [words_len]; omega
    have e : (words w)[j]?.getD 0 = ((wv w j : Nat) : Int) := by
      rw [List.getElem?_eq_getElem hjn]; simp [words]
    unfold topM
    rw [e]
    have hv := wv_lt w j
    by_cases h0 : wv w j = 0
    · rw [h0, show (((0 : Nat) : Int) != 0) = false from rfl, cond_false, m_topM w hl j (by omega)]
      congr 1
      refine (topOf_skip _ (by omega) fun q h1 h2 => ?_).symm
      have := wv_bit w j (q - 64 * j) (by omega)
      rw [h0, Nat.zero_testBit, show 64 * j + (q - 64 * j) = q by omega] at this
      exact this.symm
    · rw [bif_pos (ine_t (by omega))]
      obtain ⟨L, h1, h2, h3⟩ := m_Len hv
      obtain ⟨p, rfl, h4, h5⟩ := len_bit (by omega) h2
      rw [h1, Option.bind_some]
      have hjb : j < 2000 := by unfold nw at hj; omega
      have e1 : wi (wi (wi (64 * (j : Int)) + ((p + 1 : Nat) : Int)) - 1) = ((64 * j + p : Nat) : Int) := by
        rw [wi_id (z := 64 * (j : Int)) (by omega) (by omega), wi_id (z := 64 * (j : Int) + ((p + 1 : Nat) : Int)) (by omega) (by omega), wi_id (by omega) (by omega)]; omega
      rw [e1]
      congr 1
      have hbp := wv_bit w j p (by omega)
      rw [h4] at hbp
      refine (topOf_eq hbp.symm _ (by omega) fun q h6 h7 => ?_).symm
      have := wv_bit w j (q - 64 * j) (by omega)
      rw [h5 _ (by omega), show 64 * j + (q - 64 * j) = q by omega] at this
      exact this.symm
theorem m_Top {H : Hp} {i : Nat} {w : List Bool} (h : H.ge_space i = some (spOf w)) (hl : w.length ≤ 100000) : m_space_Space_Top (some i) H = some (topOf w w.length, H) := by
  unfold m_space_Space_Top ptM
  simp only
  rw [h, Option.bind_some]
  have e1 : (spOf w).l_ = words w := rfl
  rw [e1, words_len, bif_pos (dec_t (by unfold nw; omega)), Option.bind_some, m_topM w hl _ (Nat.le_refl _), Option.bind_some]
  congr 2
  exact topOf_skip _ (by unfold nw; omega) fun q h1 h2 => getD_ge h1
theorem m_Free {H : Hp} {i : Nat} {w : List Bool} (h : H.ge_space i = some (spOf w)) : m_space_Space_Free (some i) H = some (((nfree w : Nat) : Int), H) := by
  unfold m_space_Space_Free ptM
  simp only
  rw [h, Option.bind_some]
  rfl

/-! ### Runs -/
def Seg (w : List Bool) : Nat → List S_api_Run → Nat → Prop
  | a, [], e => e = a
  | a, r :: rs, e => ∃ f k : Nat, r = ⟨f, k⟩ ∧ a ≤ f ∧ 1 ≤ k ∧ (a = 0 ∨ a < f) ∧ (∀ q, a ≤ q → q < f → w.getD q false = true) ∧ (∀ q, f ≤ q → q < f + k → w.getD q false = false) ∧ Seg w (f + k) rs e
theorem Seg.snoc {w : List Bool} {f k : Nat} : ∀ (l : List S_api_Run) (a e : Nat), Seg w a l e → e ≤ f → 1 ≤ k → (e = 0 ∨ e < f) → (∀ q, e ≤ q → q < f → w.getD q false = true) → (∀ q, f ≤ q → q < f + k → w.getD q false = false) → Seg w a (l ++ [⟨f, k⟩]) (f + k)
  | [], a, e, h, h1, h2, h3, h4, h5 => by
    have h : e = a := h
    subst h
    exact ⟨f, k, rfl, h1, h2, h3, h4, h5, rfl⟩
  | r :: rs, a, e, h, h1, h2, h3, h4, h5 => by
    obtain ⟨f', k', e1, e2, e3, e4, e5, e6, e7⟩ := h
    exact ⟨f', k', e1, e2, e3, e4, e5, e6, Seg.snoc rs _ _ e7 h1 h2 h3 h4 h5⟩
theorem Seg.last {w : List Bool} {r : S_api_Run} : ∀ (l : List S_api_Run) (a e : Nat), Seg w a (l ++ [r]) e → ∃ (e' f k : Nat), Seg w a l e' ∧ r = ⟨f, k⟩ ∧ e' ≤ f ∧ 1 ≤ k ∧ (e' = 0 ∨ e' < f) ∧ (∀ q, e' ≤ q → q < f → w.getD q false = true) ∧ (∀ q, f ≤ q → q < f + k → w.getD q false = false) ∧ e = f + k
  | [], a, e, h => by
    obtain ⟨f', k', e1, e2, e3, e4, e5, e6, e7⟩ := h
    exact ⟨a, f', k', rfl, e1, e2, e3, e4, e5, e6, e7⟩
  | x :: rs, a, e, h => by
    obtain ⟨f', k', e1, e2, e3, e4, e5, e6, e7⟩ := h
    obtain ⟨e', f, k, h1, h2, h3, h4, h5, h6, h7, h8⟩ := Seg.last rs _ _ e7
    exact ⟨e', f, k, ⟨f', k', e1, e2, e3, e4, e5, e6, h1⟩, h2, h3, h4, h5, h6, h7, h8⟩
theorem runs_loop {H : Hp} {i : Nat} {w : List Bool} (h : H.ge_space i = some (spOf w)) (hl : w.length ≤ 100000) : ∀ (n j : Nat) (out : List S_api_Run) (e : Nat), j ≤ w.length → w.length - j < n → Seg w 0 out e → e ≤ j → (∀ q, e ≤ q → q < j → w.getD q false = true) → out.length ≤ j →
    ∃ (out' : List S_api_Run) (e' : Nat), m_space_Space_Runs_l1 (spOf w) i n (j : Int) out H = some (out', H) ∧ Seg w 0 out' e' ∧ e' ≤ w.length ∧ (∀ q, e' ≤ q → q < w.length → w.getD q false = true) ∧ out'.length ≤ w.length
  | 0, j, out, e, h1, h2, _, _, _, _ => by omega
  | n + 1, j, out, e, h1, h2, hs, he, ht, ho => by
    rw [m_space_Space_Runs_l1]
    have hn : (spOf w).n_ = (w.length : Int) := rfl
    rw [hn]
    by_cases hlt : j < w.length
    · rw [bif_pos (dec_t (by omega)), m_Has h hl, Option.bind_some, dec_t (by omega), dec_t (by omega), Int.toNat_natCast, wi_succ (by omega)]
      simp only [Bool.true_and]
      cases hb : w.getD j false with
      | true =>
        simp only [Bool.not_true, Bool.not_false, cond_true]
        exact runs_loop h hl n (j + 1) out e (by omega) (by omega) hs (by omega) (fun q h3 h4 => by
          by_cases e2 : q = j
          · rw [e2, hb]
          · exact ht q h3 (by omega)) (by omega)
      | false =>
        simp only [Bool.not_true, Bool.not_false, cond_false]
        have happ : (e = 0 ∨ e < j) → ∃ (out' : List S_api_Run) (e' : Nat), (m_space_Space_Runs_j2 (m_space_Space_Runs_l1 (spOf w) i n) out (j : Int) (true, H) false) = some (out', H) ∧ Seg w 0 out' e' ∧ e' ≤ w.length ∧ (∀ q, e' ≤ q → q < w.length → w.getD q false = true) ∧ out'.length ≤ w.length := fun hc => by
          unfold m_space_Space_Runs_j2
          rw [cond_false, appI_ok (by simp; omega), Option.bind_some, wi_succ (by omega)]
          have := Seg.snoc (f := j) (k := 1) out 0 e hs he (by omega) hc ht (fun q h3 h4 => by rw [show q = j by omega, hb])
          exact runs_loop h hl n (j + 1) _ (j + 1) (by omega) (by omega) this (by omega) (fun q h3 h4 => by omega) (by simp; omega)
        rcases List.eq_nil_or_concat out with rfl | ⟨ini, r, rfl⟩
        · rw [bif_neg (dec_f (by simp))]
          exact happ (.inl hs)
        · simp only [List.concat_eq_append] at hs ho happ ⊢
          obtain ⟨e', f, k, s1, rfl, s3, s4, s5, s6, s7, s8⟩ := Seg.last ini 0 e hs
          have hll : (ini ++ [(⟨f, k⟩ : S_api_Run)]).length = ini.length + 1 := by simp
          rw [bif_pos (dec_t (by rw [hll]; omega))]
          have e1 : wi (((ini ++ [(⟨f, k⟩ : S_api_Run)]).length : Int) - 1) = (ini.length : Int) := by rw [hll, wi_id (by omega) (by omega)]; omega
          have e2 : idx (ini ++ [(⟨f, k⟩ : S_api_Run)]) (ini.length : Int) = some ⟨f, k⟩ := by
            rw [idx_nat (by rw [hll]; omega)]
            simp
          rw [e1, e2, Option.bind_some, Option.bind_some]
          have e3 : wi ((f : Int) + (k : Int)) = (e : Int) := by rw [wi_id (by omega) (by omega)]; omega
          show ∃ out' e', m_space_Space_Runs_j2 _ _ _ _ (wi ((f : Int) + (k : Int)) == (j : Int)) = _ ∧ _
          rw [e3]
          by_cases e4 : e = j
          · clear happ
            rw [ieq_t (by omega)]
            unfold m_space_Space_Runs_j2
            have e5 : wi ((k : Int) + 1) = ((k + 1 : Nat) : Int) := wi_succ (by omega)
            rw [cond_true, e1, e2, Option.bind_some, Option.bind_some, e5, wi_succ (by omega), Int.toNat_natCast]
            have e6 : (ini ++ [(⟨f, k⟩ : S_api_Run)]).set ini.length ⟨f, ((k + 1 : Nat) : Int)⟩ = ini ++ [⟨f, ((k + 1 : Nat) : Int)⟩] := by
              rw [List.set_append_right _ _ (Nat.le_refl _), Nat.sub_self]
              rfl
            rw [e6]
            have := Seg.snoc (f := f) (k := k + 1) ini 0 e' s1 s3 (by omega) s5 s6 (fun q h3 h4 => by
              by_cases e7 : q = j
              · rw [e7, hb]
              · exact s7 q h3 (by omega))
            exact runs_loop h hl n (j + 1) _ (f + (k + 1)) (by omega) (by omega) this (by omega) (fun q h3 h4 => by omega) (by simp; simp at ho; omega)
          · have h9 : e < j := by clear happ; omega
            rw [ieq_f (by clear happ; omega)]
            exact happ (.inr h9)
    · rw [bif_neg (dec_f (by omega))]
      obtain rfl : j = w.length := by omega
      exact ⟨out, e, rfl, hs, he, ht, ho⟩
theorem m_Runs {H : Hp} {i : Nat} {w : List Bool} (h : H.ge_space i = some (spOf w)) (hl : w.length ≤ 100000) :
    ∃ (out : List S_api_Run) (e : Nat), m_space_Space_Runs (some i) H = some (out, H) ∧ Seg w 0 out e ∧ e ≤ w.length ∧ (∀ q, e ≤ q → q < w.length → w.getD q false = true) ∧ out.length ≤ w.length := by
  unfold m_space_Space_Runs ptM
  simp only
  rw [h, Option.bind_some]
  exact runs_loop h hl _ 0 [] 0 (by omega) (by show w.length - 0 < Int.toNat ((w.length : Nat) : Int) + 1; omega) rfl (by omega) (fun q h1 h2 => by omega) (by simp)
end Go.Proofs.YtimdogdplphmoaaDoor

/-
  Space, as plain law: all that is told of a space; SpaceDoes.
-/
namespace Go.Proofs.YtimdogdplphmoaaDoor
open Go Go.RowKit
set_option linter.unusedVariables false
set_option linter.unusedSimpArgs false

theorem n_R01_Same_l1 (a b : List UInt8) (hl : a.length = b.length) (hb : a.length < 4611686018427387904) : ∀ (n i : Nat), i ≤ a.length → a.length - i < n → m_R01_Same_l1 a b n (i : Int) = some (a.drop i == b.drop i)
  | 0, i, _, h => by omega
  | n + 1, i, hi, h => by
    unfold m_R01_Same_l1
    by_cases hlt : i < a.length
    · have hlb : i < b.length := by omega
      rw [bif_pos (dec_t (by omega)), idx_nat hlt, Option.bind_some, idx_nat hlb, Option.bind_some, wi_succ (by omega), n_R01_Same_l1 a b hl hb n (i + 1) (by omega) (by omega)]
      have ha : a.drop i = a[i] :: a.drop (i + 1) := List.drop_eq_getElem_cons hlt
      have hb : b.drop i = b[i] :: b.drop (i + 1) := List.drop_eq_getElem_cons hlb
      rw [ha, hb]
      generalize a[i] = x
      generalize b[i] = y
      by_cases he : x = y
      · subst he
        rw [bif_neg (ine_f rfl)]
        simp
      · rw [bif_pos (ine_t (fun h => he (UInt8.toNat_inj.1 (by omega))))]
        simp [he]
    · rw [bif_neg (dec_f (by omega)), List.drop_eq_nil_of_le (by omega), List.drop_eq_nil_of_le (by omega)]
      rfl
theorem n_R01_Same (a b : List UInt8) (hb : a.length < 4611686018427387904) : m_R01_Same a b = some (a == b) := by
  unfold m_R01_Same
  by_cases hl : a.length = b.length
  · rw [bif_neg (ine_f (by omega))]
    exact n_R01_Same_l1 a b hl hb _ 0 (Nat.zero_le _) (by omega)
  · rw [bif_pos (ine_t (by omega))]
    congr 1
    symm
    rw [beq_eq_false_iff_ne]
    exact fun e => hl (by rw [e])

theorem n_Ints (a b : List Int) (hb : a.length < 4611686018427387904) : TellsP (m_R01_Ints a b) (a = b) := by
  unfold m_R01_Ints
  by_cases hl : a.length = b.length
  · rw [bif_neg (ine_f (by omega))]
    obtain ⟨r, h1, h2⟩ := pair_loop a b hl hb (fun x y => some (x == y)) (m_R01_Ints_l1 a b) (fun n z => by
      rw [m_R01_Ints_l1]
      rfl) (fun x _ y => ⟨_, rfl, beq_iff_eq⟩) (a.length + 1) 0 (by omega) (by omega)
    exact ⟨r, h1, by simpa using h2⟩
  · rw [bif_pos (ine_t (by omega))]
    exact ⟨false, rfl, ⟨fun h => Bool.noConfusion h, fun h => absurd (congrArg List.length h) hl⟩⟩

theorem loop_runA {α : Type} {len a : Nat} (F : Nat → Int → Option α) (K : Option α) (hstep : ∀ n i, a ≤ i → i < len → F (n + 1) (i : Int) = F n ((i + 1 : Nat) : Int)) (hend : ∀ n, F (n + 1) (len : Int) = K) : ∀ (n i : Nat), a ≤ i → i ≤ len → len - i < n → F n (i : Int) = K
  | 0, i, _, _, h => by omega
  | n + 1, i, h0, h1, h2 => by
    by_cases hlt : i < len
    · rw [hstep n i h0 hlt]
      exact loop_runA F K hstep hend n (i + 1) (by omega) (by omega) (by omega)
    · have e : i = len := by omega
      rw [e]; exact hend n
theorem Seg.le {w : List Bool} : ∀ (l : List S_api_Run) (a e : Nat), Seg w a l e → a ≤ e
  | [], a, e, h => by have h : e = a := h; omega
  | r :: rs, a, e, h => by
    obtain ⟨f, k, _, h1, _, _, _, _, h2⟩ := h
    have := Seg.le rs _ _ h2
    omega
theorem m_whole {H : Hp} {i : Nat} {w : List Bool} (h : H.ge_space i = some (spOf w)) (hl : w.length ≤ 16384) : m_L19_whole (some i) w H = some (true, H) := by
  have hlB : w.length ≤ 100000 := by omega
  obtain ⟨out, e, hR, hS, he, ht, hol⟩ := m_Runs h hlB
  -- the end
  have h3 : m_L19_whole_j3 (some i) H w (topOf w w.length) = some (true, H) := by
    unfold m_L19_whole_j3
    have hle := nfree_le w
    rw [m_Free h, Option.bind_some, m_RFree w hlB, Option.bind_some, bif_pos (ieq_t rfl), m_Top h hlB, Option.bind_some, bif_pos (ieq_t rfl), m_Bytes h hlB, Option.bind_some, m_RBytes w hlB, Option.bind_some,
      n_R01_Same _ _ (by rw [bwOf_len]; omega), Option.bind_some, beq_self_eq_true, cond_true, m_Has h hlB, Option.bind_some]
    simp only [show decide ((0 : Int) ≤ -1) = false from rfl, Bool.false_and, Bool.not_false, cond_true]
    rw [m_Has h hlB, Option.bind_some]
    simp only [show decide (((w.length : Nat) : Int) < ((w.length : Nat) : Int)) = false from dec_f (by omega), Bool.and_false, Bool.false_and, Bool.not_false]
  have h2 : m_L19_whole_j2 w (some i) (topOf w w.length) (e : Int) H = some (true, H) := by
    unfold m_L19_whole_j2
    refine (loop_runA (len := w.length) (a := e) (fun n z => m_L19_whole_l4 w H (some i) (topOf w w.length) n z) (some (true, H)) (fun n q h4 h5 => ?_) (fun n => ?_) _ e (Nat.le_refl _) he (by omega))
    · have := ht q h4 h5
      rw [getD_lt h5] at this
      rw [m_L19_whole_l4, bif_pos (dec_t (by omega)), idx_nat h5, Option.bind_some, this, Bool.not_true, cond_false, wi_succ (by omega)]
    · rw [m_L19_whole_l4, bif_neg (dec_f (by omega)), h3]
  have h5 : ∀ (n j a : Nat), j ≤ out.length → out.length - j < n → Seg w a (out.drop j) e → m_L19_whole_l5 (out, H) w (some i) (topOf w w.length) n (a : Int) (j : Int) = some (true, H) := by
    intro n
    induction n with
    | zero => intro j a h6 h7; omega
    | succ n ih =>
      intro j a h6 h7 h8
      rw [m_L19_whole_l5]
      by_cases hlt : j < out.length
      · rw [List.drop_eq_getElem_cons hlt] at h8
        obtain ⟨f, k, e1, e2, e3, e4, e5, e6, e7⟩ := h8
        have hfk := Seg.le _ _ _ e7
        rw [bif_pos (dec_t (show (j : Int) < ((out.length : Nat) : Int) by omega)), idx_nat hlt, Option.bind_some, e1]
        have hw : wi ((f : Int) + (k : Int)) = ((f + k : Nat) : Int) := by rw [wi_id (by omega) (by omega)]; omega
        show (bif decide ((f : Int) < (a : Int)) then _ else bif decide ((k : Int) < 1) then _ else bif decide (wi ((f : Int) + (k : Int)) > (w.length : Int)) then _ else bif decide ((a : Int) > 0) then (bif ((f : Int) == (a : Int)) then _ else _) else _) = _
        rw [hw, bif_neg (dec_f (by omega)), bif_neg (dec_f (by omega)), bif_neg (dec_f (by omega))]
        have hj6 : ∀ b, m_L19_whole_j6 (m_L19_whole_l5 (out, H) w (some i) (topOf w w.length) n) (⟨f, k⟩ : S_api_Run) w (out, H) (j : Int) (a : Int) b = some (true, H) := fun b => by
          unfold m_L19_whole_j6
          refine (loop_runA (len := f) (a := a) (fun n2 z => m_L19_whole_l9 (m_L19_whole_l5 (out, H) w (some i) (topOf w w.length) n) (⟨f, k⟩ : S_api_Run) w (out, H) (j : Int) n2 z) (some (true, H)) (fun n2 q h4 h5 => ?_) (fun n2 => ?_) _ a (Nat.le_refl _) e2 (by show f - a < Int.toNat (f : Int) + 1; omega))
          · have := e5 q h4 h5
            rw [getD_lt (by omega)] at this
            rw [m_L19_whole_l9, bif_pos (dec_t (show (q : Int) < (f : Int) by omega)), idx_nat (by omega), Option.bind_some, this, Bool.not_true, cond_false, wi_succ (by omega)]
          · rw [m_L19_whole_l9, bif_neg (dec_f (show ¬ (f : Int) < (f : Int) by omega))]
            unfold m_L19_whole_j7
            simp only
            rw [hw]
            refine (loop_runA (len := f + k) (a := f) (fun n2 z => m_L19_whole_l8 (m_L19_whole_l5 (out, H) w (some i) (topOf w w.length) n) (⟨f, k⟩ : S_api_Run) w (out, H) (j : Int) n2 z) (some (true, H)) (fun n2 q h4 h5 => ?_) (fun n2 => ?_) _ f (Nat.le_refl _) (by omega) (by omega))
            · have := e6 q h4 h5
              rw [getD_lt (by omega)] at this
              rw [m_L19_whole_l8]
              simp only
              rw [hw, bif_pos (dec_t (by omega)), idx_nat (by omega), Option.bind_some, this, cond_false, wi_succ (by omega)]
            · rw [m_L19_whole_l8]
              simp only
              rw [hw, bif_neg (dec_f (by omega)), wi_succ (by omega)]
              exact ih (j + 1) (f + k) (by omega) (by omega) e7
        by_cases h9 : 0 < a
        · rw [bif_pos (dec_t (by omega)), bif_neg (ieq_f (by omega))]
          exact hj6 _
        · rw [bif_neg (dec_f (by omega))]
          exact hj6 _
      · rw [bif_neg (dec_f (show ¬ (j : Int) < ((out.length : Nat) : Int) by omega))]
        rw [List.drop_eq_nil_of_le (by omega)] at h8
        have h8 : e = a := h8
        subst h8
        exact h2
  have h1 : m_L19_whole_j1 (some i) w (topOf w w.length) H = some (true, H) := by
    unfold m_L19_whole_j1
    rw [hR, Option.bind_some]
    exact h5 _ 0 0 (by omega) (by show out.length - 0 < out.length + 1; omega) hS
  have h0 : ∀ (n j : Nat), j ≤ w.length → w.length - j < n → m_L19_whole_l10 w (some i) n (topOf w j) (j : Int) H = some (true, H) := by
    intro n
    induction n with
    | zero => intro j h6 h7; omega
    | succ n ih =>
      intro j h6 h7
      rw [m_L19_whole_l10]
      by_cases hlt : j < w.length
      · rw [bif_pos (dec_t (by omega)), idx_nat hlt, Option.bind_some, m_Has h hlB, Option.bind_some, dec_t (by omega), dec_t (by omega), Int.toNat_natCast, getD_lt hlt, wi_succ (by omega)]
        have := ih (j + 1) (by omega) (by omega)
        rw [topOf_succ, getD_lt hlt] at this
        cases hb : w[j] with
        | true => rw [hb] at this; exact this
        | false => rw [hb] at this; exact this
      · rw [bif_neg (dec_f (by omega))]
        obtain rfl : j = w.length := by omega
        exact h1
  exact h0 _ 0 (by omega) (by omega)

/-! ### A new space -/
theorem m_New (H : Hp) (n : Int) : m_space_New n H = some (if n < 0 ∨ n > 16384 then (none, 2, H) else (some H.ln_space, 0, H.nw_space (spOf (List.replicate n.toNat false)))) := by
  unfold m_space_New
  by_cases h0 : n < 0
  · rw [bif_pos (dec_t h0), if_pos (.inl h0)]
  · rw [bif_neg (dec_f h0)]
    by_cases h1 : n > 16384
    · rw [bif_pos (dec_t h1), if_pos (.inr h1)]
    · rw [bif_neg (dec_f h1), if_neg (by omega)]
      obtain ⟨k, rfl⟩ : ∃ k : Nat, n = k := ⟨n.toNat, by omega⟩
      have e1 : wi (Int.tdiv (wi ((wi ((k : Int) + 64)) - 1)) 64) = ((nw k : Nat) : Int) := by
        rw [wi_id (z := (k : Int) + 64) (by omega) (by omega), wi_id (z := (k : Int) + 64 - 1) (by omega) (by omega)]
        have : (k : Int) + 64 - 1 = ((k + 63 : Nat) : Int) := by omega
        rw [this, show (64 : Int) = ((64 : Nat) : Int) from rfl, tdiv_nat, wi_nat (by omega)]
        rfl
      have e2 : mkI 8 ((nw k : Nat) : Int) = some (nw k) := by unfold mkI; rw [if_pos ⟨by omega, by unfold nw; omega, by unfold nw; omega⟩]; simp
      rw [e1, e2, Option.bind_some, Int.toNat_natCast]
      have e3 : spOf (List.replicate k false) = S_space_Space.mk (k : Int) (k : Int) (List.replicate (nw k) 0) true := by
        unfold spOf
        have a1 : nfree (List.replicate k false) = k := by unfold nfree; simp
        have a2 : words (List.replicate k false) = List.replicate (nw k) 0 := by
          apply List.ext_getElem
          · simp [words]
          · intro j h1 h2
            simp only [words, List.getElem_map, List.getElem_range, List.getElem_replicate]
            have : wv (List.replicate k false) j = 0 := by
              apply Nat.eq_of_testBit_eq
              intro q
              rw [Nat.zero_testBit]
              by_cases hq : q < 64
              · rw [wv_bit _ _ _ hq, List.getD_eq_getElem?_getD, List.getElem?_replicate]
                split <;> rfl
              · exact bit_ge (wv_lt _ _) (by omega)
            rw [this]; rfl
        rw [a1, a2]
        simp
      rw [e3]
theorem ge_new (H : Hp) (x : S_space_Space) : (H.nw_space x).ge_space H.ln_space = some x := by
  show (H.space ++ [x])[H.space.length]? = some x
  simp
theorem m_awake : ∃ H, m_L19_awake Hp.e = some (true, H) := by
  have h : (match m_L19_awake Hp.e with | some (true, _) => true | _ => false) = true := by kernel_rfl
  split at h
  · rename_i H e; exact ⟨H, e⟩
  · cases h
theorem m_few (l : List S_L19_Do) (hb : l.length ≤ 9223372036854775807) : TellsP (m_L19_few l) ((∀ d ∈ l, d.L.length ≤ 30) ∧ l.length ≤ 30) := by
  unfold m_L19_few
  have := loop_tells (len := l.length) (fun n z => m_L19_few_l2 l n z) (fun i => ∀ h : i < l.length, l[i].L.length ≤ 30) (l.length ≤ 30) (fun n i hi => ?_) (fun n => ?_) (l.length + 1) 0 (by omega) (by omega)
  · refine this.iff ⟨fun ⟨h, h2⟩ => ⟨fun d hd => ?_, h2⟩, fun ⟨h, h2⟩ => ⟨fun j _ hj _ => h _ (List.getElem_mem hj), h2⟩⟩
    obtain ⟨j, hj, rfl⟩ := List.getElem_of_mem hd
    exact h j (by omega) hj hj
  · refine ⟨decide (l[i].L.length ≤ 30), ⟨fun h _ => of_decide_eq_true h, fun h => decide_eq_true (h hi)⟩, ?_⟩
    rw [m_L19_few_l2, bif_pos (dec_t (by omega)), idx_nat hi, Option.bind_some, dgt _ 30 30 rfl, wi_succ (by omega)]
    cases decide (l[i].L.length ≤ 30) <;> rfl
  · rw [m_L19_few_l2, bif_neg (dec_f (by omega))]
    unfold m_L19_few_j1
    rw [dle _ 30 30 rfl]
    exact .of (by simp)

/-! ### SpaceDoes -/
theorem does_loop (l : List S_L19_Do) (hl : ∀ d ∈ l, d.L.length ≤ 30) (hll : l.length ≤ 30) (i : Nat) (a : Int) (H0 : Hp) : ∀ (n j : Nat) (w : List Bool) (H : Hp), H.ge_space i = some (spOf w) → w.length ≤ 300 → j ≤ l.length → l.length - j < n →
    ∃ H', m_L19_SpaceDoes_l2 l (some i, a, H0) n (j : Int) w H = some (true, H')
  | 0, j, w, H, _, _, _, h => by omega
  | n + 1, j, w, H, h, hw, hj, hf => by
    rw [m_L19_SpaceDoes_l2]
    by_cases hlt : j < l.length
    · have hd := hl _ (List.getElem_mem hlt)
      rw [bif_pos (dec_t (by omega)), idx_nat hlt, Option.bind_some, wi_succ (by omega)]
      generalize l[j] = d at hd
      by_cases k1 : d.Kind = 1
      · rw [bif_pos (ieq_t k1), m_Take h (by omega), Option.bind_some, m_RTake (by omega), Option.bind_some]
        have hle := nfree_le w
        have hfin : ∀ (r : List Int × Int) (w' : List Bool) (H' : Hp), H'.ge_space i = some (spOf w') → w'.length = w.length → r.1.length ≤ 1000 → ∃ H'', (Option.bind (lenI (r.1, r.2, w').2.2.length w.length) fun x42 => bif ((r.1, r.2, H').2.1 != (r.1, r.2, w').2.1) then (some (false, (r.1, r.2, H').2.2)) else (Option.bind (m_R01_Ints (r.1, r.2, H').1 (r.1, r.2, w').1) fun x45 => bif (!x45) then (some (false, (r.1, r.2, H').2.2)) else ((m_L19_SpaceDoes_l2 l (some i, a, H0) n) ((j + 1 : Nat) : Int) (r.1, r.2, w').2.2 (r.1, r.2, H').2.2))) = some (true, H'') := fun r w' H' g1 g2 g3 => by
          simp only
          rw [lenI_of g2, Option.bind_some, bif_neg (ine_f rfl), (n_Ints _ _ (by omega)).yes rfl, Option.bind_some, Bool.not_true, cond_false]
          exact does_loop l hl hll i a H0 n (j + 1) w' H' g1 (by omega) (by omega) (by omega)
        by_cases h0 : d.N < 0
        · rw [if_pos h0, if_pos h0]; exact hfin ([], 2) w H h rfl (by simp)
        · rw [if_neg h0, if_neg h0]
          by_cases h1 : (nfree w : Int) < d.N
          · rw [if_pos h1, if_pos h1]; exact hfin ([], 32) w H h rfl (by simp)
          · rw [if_neg h1, if_neg h1]
            exact hfin (_, 0) _ _ (ge_st h) (takeS_len _ _).1 (by rw [(takeS_len _ _).2]; omega)
      · rw [bif_neg (ieq_f k1)]
        have hturn : ∀ (fr : Bool) (P : Int × Hp → Option (Int × Hp)), True := fun _ _ => trivial
        by_cases k2 : d.Kind = 2
        · rw [bif_pos (ieq_t k2)]
          unfold m_space_Space_Claim
          rw [m_all h (by omega) _ _ (by omega), Option.bind_some, Option.bind_some, m_RTurn _ _ _ (by omega), Option.bind_some]
          simp only [Bool.not_true, Bool.not_false]
          by_cases hok : OkAll w d.L false
          · rw [if_pos hok, if_pos hok, lenI_of (putL_len _ _ _), Option.bind_some, bif_neg (ine_f rfl)]
            exact does_loop l hl hll i a H0 n (j + 1) _ _ (ge_st h) (by rw [putL_len]; omega) (by omega) (by omega)
          · rw [if_neg hok, if_neg hok, lenI_of rfl, Option.bind_some, bif_neg (ine_f rfl)]
            exact does_loop l hl hll i a H0 n (j + 1) _ _ h (by omega) (by omega) (by omega)
        · rw [bif_neg (ieq_f k2)]
          by_cases k3 : d.Kind = 3
          · rw [bif_pos (ieq_t k3)]
            unfold m_space_Space_Give
            rw [m_all h (by omega) _ _ (by omega), Option.bind_some, Option.bind_some, m_RTurn _ _ _ (by omega), Option.bind_some]
            simp only [Bool.not_true, Bool.not_false]
            by_cases hok : OkAll w d.L true
            · rw [if_pos hok, if_pos hok, lenI_of (putL_len _ _ _), Option.bind_some, bif_neg (ine_f rfl)]
              exact does_loop l hl hll i a H0 n (j + 1) _ _ (ge_st h) (by rw [putL_len]; omega) (by omega) (by omega)
            · rw [if_neg hok, if_neg hok, lenI_of rfl, Option.bind_some, bif_neg (ine_f rfl)]
              exact does_loop l hl hll i a H0 n (j + 1) _ _ h (by omega) (by omega) (by omega)
          · rw [bif_neg (ieq_f k3)]
            exact does_loop l hl hll i a H0 n (j + 1) _ _ h (by omega) (by omega) (by omega)
    · rw [bif_neg (dec_f (by omega))]
      unfold m_L19_SpaceDoes_j1
      rw [m_whole h (by omega), Option.bind_some]
      exact ⟨_, rfl⟩
theorem n_SpaceDoes (n : Int) (l : List S_L19_Do) (hl : l.length ≤ 9223372036854775807) : ∃ H, m_L19_SpaceDoes n l Hp.e = some (true, H) := by
  obtain ⟨H, ha⟩ := m_awake
  unfold m_L19_SpaceDoes
  rw [ha, Option.bind_some]
  simp only [Bool.not_true, cond_false]
  rw [m_New, Option.bind_some]
  by_cases h0 : n < 0
  · rw [if_pos (.inl h0), bif_pos (dec_t h0)]
    exact ⟨_, rfl⟩
  · rw [bif_neg (dec_f h0)]
    by_cases h1 : n > 16384
    · rw [if_pos (.inr h1), bif_pos (dec_t h1)]
      exact ⟨_, rfl⟩
    · rw [if_neg (by omega), bif_neg (dec_f h1)]
      obtain ⟨k, rfl⟩ : ∃ k : Nat, n = k := ⟨n.toNat, by omega⟩
      rw [Int.toNat_natCast]
      have hge := ge_new H (spOf (List.replicate k false))
      have hk : (List.replicate k false).length = k := by simp
      have e1 : nfree (List.replicate k false) = k := by unfold nfree; simp
      have e2 : topOf (List.replicate k false) (List.replicate k false).length = -1 := by
        have := topOf_skip (w := List.replicate k false) (a := 0) (List.replicate k false).length (by omega) (fun q _ _ => by rw [List.getD_eq_getElem?_getD, List.getElem?_replicate]; split <;> rfl)
        exact this
      simp only
      rw [bif_neg (ine_f rfl), m_Free hge, Option.bind_some, e1]
      simp only
      rw [bif_neg (ine_f rfl), m_Top hge (by omega), Option.bind_some, e2]
      simp only
      rw [bif_neg (ine_f rfl)]
      by_cases h2 : (k : Int) > 300
      · rw [bif_pos (dec_t h2)]; exact ⟨_, rfl⟩
      · rw [bif_neg (dec_f h2)]
        have hf := m_few l hl
        by_cases h3 : (∀ d ∈ l, d.L.length ≤ 30) ∧ l.length ≤ 30
        · rw [hf.yes h3, Option.bind_some, Bool.not_true, cond_false]
          have e3 : mkI 1 (k : Int) = some k := by unfold mkI; rw [if_pos ⟨by omega, by omega, by omega⟩]; simp
          rw [e3, Option.bind_some]
          exact does_loop l h3.1 h3.2 _ _ _ _ 0 _ _ hge (by omega) (by omega) (by omega)
        · rw [hf.no h3, Option.bind_some, Bool.not_false, cond_true]
          exact ⟨_, rfl⟩
end Go.Proofs.YtimdogdplphmoaaDoor
