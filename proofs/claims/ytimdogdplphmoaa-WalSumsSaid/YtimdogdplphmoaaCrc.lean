/-
  Plain arithmetic of the checksum, no program in sight: one step of the register, eight steps, a list of bytes; the step is injective below 2^32, so one turned byte turns the sum; the document's way (register and byte shifted side by side) comes to the same.
-/
namespace Go.Proofs.Ytimdogdplphmoaa.Crc

def poly : Nat := 3988292384
def stp (x : Nat) : Nat := if x % 2 = 1 then (x / 2) ^^^ poly else x / 2
def stpN : Nat → Nat → Nat
  | 0, x => x
  | k + 1, x => stpN k (stp x)
def upd (x c : Nat) : Nat := stpN 8 (x ^^^ c)
def run (x : Nat) (l : List UInt8) : Nat := l.foldl (fun x c => upd x c.toNat) x
def crc (l : List UInt8) : Nat := 4294967295 - run 4294967295 l

theorem xor_lt {a b : Nat} (ha : a < 4294967296) (hb : b < 4294967296) : a ^^^ b < 4294967296 := Nat.xor_lt_two_pow (n := 32) ha hb
theorem stp_lt {x : Nat} (h : x < 4294967296) : stp x < 4294967296 := by
  unfold stp
  split
  · exact xor_lt (by omega) (by decide)
  · omega
theorem stpN_lt (k : Nat) {x : Nat} (h : x < 4294967296) : stpN k x < 4294967296 := by
  induction k generalizing x with
  | zero => exact h
  | succ k ih => exact ih (stp_lt h)
theorem stpN_succ (k x : Nat) : stpN (k + 1) x = stp (stpN k x) := by
  induction k generalizing x with
  | zero => rfl
  | succ k ih => exact ih (stp x)
theorem upd_lt {x : Nat} (h : x < 4294967296) (c : UInt8) : upd x c.toNat < 4294967296 := by
  have := c.toNat_lt
  exact stpN_lt 8 (xor_lt h (by omega))
theorem run_lt (l : List UInt8) {x : Nat} (h : x < 4294967296) : run x l < 4294967296 := by
  induction l generalizing x with
  | nil => exact h
  | cons c l ih => exact ih (upd_lt h c)
theorem run_append (x : Nat) (a b : List UInt8) : run x (a ++ b) = run (run x a) b := by simp [run, List.foldl_append]
theorem run_snoc (x : Nat) (a : List UInt8) (c : UInt8) : run x (a ++ [c]) = upd (run x a) c.toNat := by simp [run, List.foldl_append]

theorem top_of {y : Nat} (h : y < 2147483648) : (y ^^^ poly).testBit 31 = true := by
  rw [Nat.testBit_xor, Nat.testBit_lt_two_pow (i := 31) h]
  decide
theorem no_top {y : Nat} (h : y < 2147483648) : y.testBit 31 = false := Nat.testBit_lt_two_pow h
theorem stp_inj {x y : Nat} (hx : x < 4294967296) (hy : y < 4294967296) (h : stp x = stp y) : x = y := by
  unfold stp at h
  have hx2 : x / 2 < 2147483648 := by omega
  have hy2 : y / 2 < 2147483648 := by omega
  split at h <;> split at h
  · have h2 : x / 2 = y / 2 := by
      have := congrArg (· ^^^ poly) h
      simpa [Nat.xor_assoc, Nat.xor_self, Nat.xor_zero] using this
    omega
  · have := congrArg (Nat.testBit · 31) h
    simp only [top_of hx2, no_top hy2] at this
    cases this
  · have := congrArg (Nat.testBit · 31) h
    simp only [top_of hy2, no_top hx2] at this
    cases this
  · omega
theorem stpN_inj (k : Nat) {x y : Nat} (hx : x < 4294967296) (hy : y < 4294967296) (h : stpN k x = stpN k y) : x = y := by
  induction k generalizing x y with
  | zero => exact h
  | succ k ih => exact stp_inj hx hy (ih (stp_lt hx) (stp_lt hy) h)
theorem run_inj (l : List UInt8) {x y : Nat} (hx : x < 4294967296) (hy : y < 4294967296) (h : run x l = run y l) : x = y := by
  induction l generalizing x y with
  | nil => exact h
  | cons c l ih =>
    have hc := c.toNat_lt
    have h1 : upd x c.toNat = upd y c.toNat := ih (upd_lt hx c) (upd_lt hy c) h
    have h2 := stpN_inj 8 (xor_lt hx (by omega)) (xor_lt hy (by omega)) h1
    have h3 := congrArg (· ^^^ c.toNat) h2
    simpa [Nat.xor_assoc, Nat.xor_self, Nat.xor_zero] using h3
/-- One byte turned turns the sum. -/
theorem crc_turned (a b : List UInt8) (c d : UInt8) (h : c ≠ d) : crc (a ++ c :: b) ≠ crc (a ++ d :: b) := by
  intro he
  have hc := c.toNat_lt
  have hd := d.toNat_lt
  have ha := run_lt a (x := 4294967295) (by decide)
  have l1 := run_lt (a ++ c :: b) (x := 4294967295) (by decide)
  have l2 := run_lt (a ++ d :: b) (x := 4294967295) (by decide)
  have h0 : run 4294967295 (a ++ c :: b) = run 4294967295 (a ++ d :: b) := by unfold crc at he; omega
  rw [run_append, run_append] at h0
  have h1 : run (upd (run 4294967295 a) c.toNat) b = run (upd (run 4294967295 a) d.toNat) b := h0
  have h2 := run_inj b (upd_lt ha c) (upd_lt ha d) h1
  have h3 := stpN_inj 8 (xor_lt ha (by omega)) (xor_lt ha (by omega)) h2
  have h4 := congrArg (run 4294967295 a ^^^ ·) h3
  simp only [← Nat.xor_assoc, Nat.xor_self, Nat.zero_xor] at h4
  exact h (UInt8.toNat_inj.1 h4)
theorem crc_le (l : List UInt8) : crc l < 4294967296 := by unfold crc; omega
theorem crc_nil : crc [] = 0 := rfl
theorem crc_example : crc [49, 50, 51, 52, 53, 54, 55, 56, 57] = 3421780262 := by decide +kernel

/-- The document's way: the register and the byte, shifted side by side. -/
def rx (x c : Nat) : Nat := if (x + c) % 2 = 1 then (x / 2) ^^^ poly else x / 2
def rN : Nat → Nat → Nat → Nat
  | 0, x, _ => x
  | k + 1, x, c => rN k (rx x c) (c / 2)
theorem odd_xor (x c : Nat) : (x ^^^ c) % 2 = (x + c) % 2 := by
  have h := Nat.testBit_xor x c 0
  simp only [Nat.testBit_zero] at h
  have hx := Nat.mod_two_eq_zero_or_one x
  have hc := Nat.mod_two_eq_zero_or_one c
  have hy := Nat.mod_two_eq_zero_or_one (x ^^^ c)
  rcases hx with hx | hx <;> rcases hc with hc | hc <;> rcases hy with hy | hy <;> simp [hx, hc, hy] at h <;> omega
theorem half_xor (x c : Nat) : (x ^^^ c) / 2 = (x / 2) ^^^ (c / 2) := by
  have h := Nat.shiftRight_xor_distrib (a := x) (b := c) (i := 1)
  simpa [Nat.shiftRight_eq_div_pow] using h
theorem stp_xor (x c : Nat) : stp (x ^^^ c) = rx x c ^^^ (c / 2) := by
  unfold stp rx
  rw [odd_xor, half_xor]
  split
  · rw [Nat.xor_assoc, Nat.xor_comm (c / 2), ← Nat.xor_assoc]
  · rfl
theorem stpN_xor (k x c : Nat) (h : c < 2 ^ k) : stpN k (x ^^^ c) = rN k x c := by
  induction k generalizing x c with
  | zero =>
    have : c = 0 := by simpa using h
    subst this
    simp [stpN, rN]
  | succ k ih =>
    simp only [stpN, rN]
    rw [stp_xor]
    exact ih _ _ (by rw [Nat.pow_succ] at h; omega)
theorem rx_lt {x : Nat} (c : Nat) (h : x < 4294967296) : rx x c < 4294967296 := by
  unfold rx
  split
  · exact xor_lt (by omega) (by decide)
  · omega
theorem rN_lt (k : Nat) {x c : Nat} (h : x < 4294967296) : rN k x c < 4294967296 := by
  induction k generalizing x c with
  | zero => exact h
  | succ k ih => exact ih (rx_lt c h)
theorem rN_succ (k x c : Nat) : rN (k + 1) x c = rx (rN k x c) (c / 2 ^ k) := by
  induction k generalizing x c with
  | zero => simp [rN]
  | succ k ih =>
    rw [rN, ih]
    simp only [rN]
    rw [Nat.div_div_eq_div_mul, Nat.pow_succ, Nat.mul_comm]
theorem upd_eq (x : Nat) (c : UInt8) : upd x c.toNat = rN 8 x c.toNat := stpN_xor 8 x c.toNat c.toNat_lt

end Go.Proofs.Ytimdogdplphmoaa.Crc
