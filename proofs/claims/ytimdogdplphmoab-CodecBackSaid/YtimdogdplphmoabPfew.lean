/-
  The laws' parts and Few, plain: what a value of few parts holds at most.
-/
import Derived.Test.YtimdogdplphmoabPlv
namespace Go.Proofs.Ytimdogdplphmoab

def ploop (f : V → Int → Int) : List V → Int → Int
  | [], r => r
  | x :: xs, r => if r < 0 then -1 else ploop f xs (f x r)
def partsF : Nat → V → Int → Int
  | 0, _, _ => -1
  | d + 1, v, room => if 2000 < v.b.length then -1 else ploop (partsF d) v.l (room - 1)

theorem ploop_bd (f : V → Int → Int) (hf : ∀ x r, 0 ≤ r → -1 ≤ f x r ∧ f x r ≤ r - 1) : ∀ (l : List V) (r : Int), -1 ≤ r → -1 ≤ ploop f l r ∧ ploop f l r ≤ r
  | [], r, h => ⟨h, Int.le_refl _⟩
  | x :: xs, r, h => by
    rw [ploop]
    split
    · exact ⟨by omega, by omega⟩
    · have h1 := hf x r (by omega)
      have h2 := ploop_bd f hf xs (f x r) h1.1
      exact ⟨h2.1, by omega⟩
theorem partsF_bd : ∀ (d : Nat) (v : V) (room : Int), 0 ≤ room → -1 ≤ partsF d v room ∧ partsF d v room ≤ room - 1
  | 0, _, room, h => by rw [partsF]; omega
  | d + 1, v, room, h => by
    rw [partsF]
    split
    · omega
    · exact ploop_bd _ (partsF_bd d) v.l (room - 1) (by omega)
theorem ploop_neg (f : V → Int → Int) : ∀ (l : List V) (r : Int), r < 0 → ploop f l r < 0
  | [], _, h => h
  | x :: xs, r, h => by rw [ploop, if_pos h]; omega
theorem ploop_wt (f : V → Int → Int) (hf : ∀ x r, 0 ≤ r → 0 ≤ f x r → (x.wt : Int) ≤ 2001 * (r - f x r)) : ∀ (l : List V) (r : Int), 0 ≤ ploop f l r → (V.wt.wts l : Int) ≤ 2001 * (r - ploop f l r)
  | [], r, _ => by simp [V.wt.wts, ploop]
  | x :: xs, r, h => by
    rw [ploop] at h ⊢
    split at h
    · omega
    · rename_i hr
      rw [if_neg hr]
      have h0 : 0 ≤ f x r := by
        by_cases g : f x r < 0
        · have := ploop_neg f xs _ g; omega
        · omega
      have h1 := hf x r (by omega) h0
      have h2 := ploop_wt f hf xs (f x r) h
      simp only [V.wt.wts]
      omega
theorem partsF_wt : ∀ (d : Nat) (v : V) (room : Int), 0 ≤ room → 0 ≤ partsF d v room → (v.wt : Int) ≤ 2001 * (room - partsF d v room)
  | 0, _, _, _, h => by rw [partsF] at h; omega
  | d + 1, v, room, h, h0 => by
    rw [partsF] at h0 ⊢
    split at h0
    · omega
    · rename_i hb
      rw [if_neg hb]
      have h1 := ploop_wt _ (partsF_wt d) v.l (room - 1) h0
      rw [V.wt_eq]
      omega
def few (v : V) : Bool := decide (0 ≤ partsF 30 v 200)
theorem few_wt {v : V} (h : few v = true) : v.wt ≤ 400200 := by
  unfold few at h
  have h0 : 0 ≤ partsF 30 v 200 := by simpa using h
  have := partsF_wt 30 v 200 (by omega) h0
  omega
theorem ploop_drop (f : V → Int → Int) (l : List V) (k : Nat) (r : Int) (h : k < l.length) : ploop f (l.drop k) r = if r < 0 then -1 else ploop f (l.drop (k + 1)) (f l[k] r) := by
  rw [List.drop_eq_getElem_cons h, ploop]

end Go.Proofs.Ytimdogdplphmoab
