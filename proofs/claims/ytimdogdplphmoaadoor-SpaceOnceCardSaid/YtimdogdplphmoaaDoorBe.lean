/-
  Numbers as bytes, plain: the lowest first (le), the highest first (be), without noughts ahead (plainB).
-/
namespace Go.Proofs.YtimdogdplphmoaaDoor

def le : Nat → Nat → List UInt8
  | 0, _ => []
  | k + 1, n => UInt8.ofNat (n % 256) :: le k (n / 256)
def be (k n : Nat) : List UInt8 := (le k n).reverse

theorem le_length : ∀ k n, (le k n).length = k
  | 0, _ => rfl
  | k + 1, n => by simp [le, le_length k]
theorem be_length (k n : Nat) : (be k n).length = k := by simp [be, le_length]
theorem le_snoc : ∀ k n, le (k + 1) n = le k n ++ [UInt8.ofNat (n / 256 ^ k % 256)]
  | 0, n => by simp [le]
  | k + 1, n => by
    rw [le, le_snoc k (n / 256), le, Nat.div_div_eq_div_mul, Nat.pow_succ, Nat.mul_comm 256]
    rfl
theorem be_succ (k n : Nat) : be (k + 1) n = UInt8.ofNat (n / 256 ^ k % 256) :: be k n := by
  rw [be, le_snoc, List.reverse_append]
  rfl
/-- How many bytes a number has without noughts ahead. -/
def wid : Nat → Nat
  | 0 => 0
  | n + 1 => wid ((n + 1) / 256) + 1
  decreasing_by omega
theorem wid_zero : wid 0 = 0 := by rw [wid]
theorem wid_pos {n : Nat} (h : 0 < n) : wid n = wid (n / 256) + 1 := by
  cases n with
  | zero => omega
  | succ n => rw [wid]
theorem lt_wid : ∀ (k n : Nat), n < 256 ^ k ↔ wid n ≤ k
  | 0, n => by
    rcases Nat.eq_zero_or_pos n with h | h
    · subst h; simp [wid_zero]
    · rw [wid_pos h]; simp; omega
  | k + 1, n => by
    rcases Nat.eq_zero_or_pos n with h | h
    · subst h; simp [wid_zero, Nat.pow_pos]
    · rw [wid_pos h, Nat.add_le_add_iff_right, ← lt_wid k (n / 256), Nat.pow_succ, Nat.div_lt_iff_lt_mul (by decide)]
theorem wid_le8 {n : Nat} (h : n ≤ 4611686018427387904) : wid n ≤ 8 := (lt_wid 8 n).1 (by omega)
def plainB (n : Nat) : List UInt8 := be (wid n) n
theorem plainB_length (n : Nat) : (plainB n).length = wid n := be_length _ _
theorem ofNat_zero_iff (n : Nat) : UInt8.ofNat (n % 256) = 0 ↔ n % 256 = 0 := by
  constructor
  · intro h
    have h1 := congrArg UInt8.toNat h
    rw [UInt8.toNat_ofNat'] at h1
    have h3 : (0 : UInt8).toNat = 0 := rfl
    omega
  · intro h; rw [h]; rfl
/-- More bytes than wanted: a nought ahead. -/
theorem be_zero (k n : Nat) (h : wid n ≤ k) : be (k + 1) n = 0 :: be k n := by
  rw [be_succ]
  have := (lt_wid k n).2 h
  rw [Nat.div_eq_of_lt this]
  rfl
/-- Just as many as wanted: none ahead. -/
theorem be_first (k n : Nat) (h : wid n = k + 1) : ∃ c, be (k + 1) n = c :: be k n ∧ c ≠ 0 := by
  refine ⟨_, be_succ k n, fun h0 => ?_⟩
  have h1 := (ofNat_zero_iff _).1 h0
  have h2 : ¬ n < 256 ^ k := fun hl => by have := (lt_wid k n).1 hl; omega
  have h3 : n < 256 ^ (k + 1) := (lt_wid (k + 1) n).2 (by omega)
  have h4 : n / 256 ^ k < 256 := by
    rw [Nat.div_lt_iff_lt_mul (Nat.pow_pos (by decide)), Nat.mul_comm, ← Nat.pow_succ]
    exact h3
  have h5 : 0 < n / 256 ^ k := Nat.div_pos (by omega) (Nat.pow_pos (by decide))
  omega
theorem div_pow_succ (n k : Nat) : n / 256 ^ (k + 1) = n / 256 ^ k / 256 := by rw [Nat.pow_succ, Nat.div_div_eq_div_mul]
end Go.Proofs.YtimdogdplphmoaaDoor
