/-
  The values of the codec as plain Lean data.
-/
namespace Go.Proofs.YteopjhakjeknaaaDoor

/-- A value: its kind, its number, its bytes, its items. -/
inductive V where
  | mk (k n : Int) (b : List UInt8) (l : List V)

namespace V
def k : V → Int | .mk k _ _ _ => k
def n : V → Int | .mk _ n _ _ => n
def b : V → List UInt8 | .mk _ _ b _ => b
def l : V → List V | .mk _ _ _ l => l
theorem eta (v : V) : V.mk v.k v.n v.b v.l = v := by cases v; rfl
/-- The height of a value: for inductions. -/
def ht : V → Nat
  | .mk _ _ _ l => hts l + 1
where hts : List V → Nat
  | [] => 0
  | x :: r => max (ht x) (hts r)
theorem ht_le_hts : ∀ (l : List V) (x : V), x ∈ l → ht x ≤ ht.hts l
  | y :: r, x, h => by
    simp only [ht.hts]
    rcases List.mem_cons.1 h with rfl | h
    · omega
    · have := ht_le_hts r x h; omega
theorem ht_item (v x : V) (h : x ∈ v.l) : ht x < ht v := by
  cases v with
  | mk k n b l =>
    have := ht_le_hts l x h
    simp only [ht]
    omega
/-- How much a value holds. -/
def wt : V → Nat
  | .mk _ _ b l => b.length + wts l + 1
where wts : List V → Nat
  | [] => 0
  | x :: r => wt x + wts r
theorem wt_eq (v : V) : v.wt = v.b.length + wt.wts v.l + 1 := by cases v; simp [wt, V.b, V.l]
theorem wt_pos (v : V) : 0 < v.wt := by rw [wt_eq]; omega
theorem wt_le_wts : ∀ (l : List V) (x : V), x ∈ l → wt x ≤ wt.wts l
  | y :: r, x, h => by
    simp only [wt.wts]
    rcases List.mem_cons.1 h with rfl | h
    · omega
    · have := wt_le_wts r x h; omega
theorem len_le_wts : ∀ l : List V, l.length ≤ wt.wts l
  | [] => Nat.zero_le _
  | x :: r => by
    have := len_le_wts r
    have := wt_pos x
    simp only [wt.wts, List.length_cons]
    omega
theorem wt_item (v x : V) (h : x ∈ v.l) : x.wt < v.wt := by
  have := wt_le_wts v.l x h
  rw [wt_eq v]
  omega
theorem len_b (v : V) : v.b.length < v.wt := by rw [wt_eq]; omega
theorem len_l (v : V) : v.l.length < v.wt := by have := len_le_wts v.l; rw [wt_eq]; omega
theorem hts_le_wts : ∀ (d : Nat) (l : List V), wt.wts l ≤ d → ht.hts l ≤ wt.wts l
  | 0, [], _ => Nat.le_refl _
  | 0, x :: r, h => by have := wt_pos x; simp only [wt.wts] at h; omega
  | d + 1, [], _ => Nat.zero_le _
  | d + 1, .mk k n b l :: r, h => by
    simp only [wt.wts, wt] at h
    have h1 := hts_le_wts d l (by omega)
    have h2 := hts_le_wts d r (by omega)
    simp only [ht.hts, ht, wt.wts, wt]
    omega
theorem ht_le_wt (v : V) : v.ht ≤ v.wt := by
  cases v with
  | mk k n b l =>
    have := hts_le_wts _ l (Nat.le_refl _)
    simp only [ht, wt]
    omega
theorem ht_pos (v : V) : 0 < ht v := by cases v; simp [ht]
/-- Every slice in a value is as long as a slice may be. -/
inductive Fit : V → Prop
  | mk (v : V) (h1 : v.b.length ≤ 9223372036854775807) (h2 : v.l.length ≤ 9223372036854775807) (h : ∀ x, x ∈ v.l → Fit x) : Fit v
theorem Fit.len {v : V} (h : Fit v) : v.l.length ≤ 9223372036854775807 := by cases h; assumption
theorem Fit.lenb {v : V} (h : Fit v) : v.b.length ≤ 9223372036854775807 := by cases h; assumption
theorem Fit.item {v x : V} (h : Fit v) (hx : x ∈ v.l) : Fit x := by
  cases h with
  | mk _ _ _ h => exact h x hx
end V
end Go.Proofs.YteopjhakjeknaaaDoor
