/-
  How deep a value is, plain.
-/
import Derived.Test.YteopjhakjeknaaaDoorPlv
namespace Go.Proofs.YteopjhakjeknaaaDoor

namespace V
/-- How deep a value is. -/
def deep : V → Nat
  | .mk k _ _ l => if k = 3 then dm l 1 else 0
where dm : List V → Nat → Nat
  | [], d => d
  | x :: r, d => dm r (max d (deep x + 1))
theorem dm_le : ∀ (l : List V) (d m : Nat), (∀ x ∈ l, deep x + 1 ≤ m) → d ≤ m → deep.dm l d ≤ m
  | [], _, _, _, h => h
  | x :: r, d, m, hl, h => by
    rw [deep.dm]
    exact dm_le r _ m (fun y hy => hl y (List.mem_cons_of_mem _ hy)) (Nat.max_le.2 ⟨h, hl x List.mem_cons_self⟩)
theorem deep_le_ht : ∀ (d : Nat) (v : V), v.ht ≤ d → v.deep ≤ v.ht
  | 0, v, h => absurd (ht_pos v) (by omega)
  | d + 1, .mk k n b l, h => by
    rw [deep]
    split
    · refine dm_le l 1 _ (fun x hx => ?_) (ht_pos _)
      have h1 := ht_item (.mk k n b l) x hx
      have h2 := deep_le_ht d x (by omega)
      omega
    · omega
theorem deep_item (v x : V) (h : x ∈ v.l) : x.deep + 1 ≤ v.ht := by
  have h1 := ht_item v x h
  have h2 := deep_le_ht _ x (Nat.le_refl _)
  omega
theorem deep_eq (v : V) (h : v.k = 3) : v.deep = deep.dm v.l 1 := by cases v; simp [V.k] at h; simp [deep, h, V.l]
theorem dm_drop (l : List V) (k d : Nat) (h : k < l.length) : deep.dm (l.drop k) d = deep.dm (l.drop (k + 1)) (max d (deep l[k] + 1)) := by
  rw [List.drop_eq_getElem_cons h, deep.dm]
/-- The depth, cut off behind m more levels. -/
def dn (m : Nat) : List V → Nat → Nat
  | [], d => d
  | x :: r, d => dn m r (max d (1 + min (deep x) m))
theorem dn_eq (m : Nat) : ∀ (l : List V) (d : Nat), dn m l (min d (m + 1)) = min (deep.dm l d) (m + 1)
  | [], d => rfl
  | x :: r, d => by
    rw [dn, deep.dm, ← dn_eq m r]
    congr 1
    omega
theorem dn_drop (m : Nat) (l : List V) (k d : Nat) (h : k < l.length) : dn m (l.drop k) d = dn m (l.drop (k + 1)) (max d (1 + min (deep l[k]) m)) := by
  rw [List.drop_eq_getElem_cons h, dn]
theorem deep_zero (v : V) (h : ¬ v.k = 3) : v.deep = 0 := by cases v; simp [k] at h; simp [deep, h]
end V
end Go.Proofs.YteopjhakjeknaaaDoor
