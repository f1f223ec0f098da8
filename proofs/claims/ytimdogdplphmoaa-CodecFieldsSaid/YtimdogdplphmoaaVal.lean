/-
  The values of the codec as plain Lean data, and how they lie in memory.
-/
import Derived.Test.YtimdogdplphmoaaWords
namespace Go.Proofs.Ytimdogdplphmoaa
open Go.RowKit

/-- A value: its kind, its number, its bytes, its items. -/
inductive V where
  | mk (k n : Int) (b : List UInt8) (l : List V)

namespace V
def k : V → Int | .mk k _ _ _ => k
def n : V → Int | .mk _ n _ _ => n
def b : V → List UInt8 | .mk _ _ b _ => b
def l : V → List V | .mk _ _ _ l => l
theorem eta (v : V) : V.mk v.k v.n v.b v.l = v := by cases v; rfl
/-- The height of a value: for inductions. -/
def ht : V → Nat
  | .mk _ _ _ l => hts l + 1
where hts : List V → Nat
  | [] => 0
  | x :: r => max (ht x) (hts r)
theorem ht_le_hts : ∀ (l : List V) (x : V), x ∈ l → ht x ≤ ht.hts l
  | y :: r, x, h => by
    simp only [ht.hts]
    rcases List.mem_cons.1 h with rfl | h
    · omega
    · have := ht_le_hts r x h; omega
theorem ht_item (v x : V) (h : x ∈ v.l) : ht x < ht v := by
  cases v with
  | mk k n b l =>
    have := ht_le_hts l x h
    simp only [ht]
    omega
/-- How much a value holds. -/
def wt : V → Nat
  | .mk _ _ b l => b.length + wts l + 1
where wts : List V → Nat
  | [] => 0
  | x :: r => wt x + wts r
theorem wt_eq (v : V) : v.wt = v.b.length + wt.wts v.l + 1 := by cases v; simp [wt, V.b, V.l]
theorem wt_pos (v : V) : 0 < v.wt := by rw [wt_eq]; omega
theorem wt_le_wts : ∀ (l : List V) (x : V), x ∈ l → wt x ≤ wt.wts l
  | y :: r, x, h => by
    simp only [wt.wts]
    rcases List.mem_cons.1 h with rfl | h
    · omega
    · have := wt_le_wts r x h; omega
theorem len_le_wts : ∀ l : List V, l.length ≤ wt.wts l
  | [] => Nat.zero_le _
  | x :: r => by
    have := len_le_wts r
    have := wt_pos x
    simp only [wt.wts, List.length_cons]
    omega
theorem wt_item (v x : V) (h : x ∈ v.l) : x.wt < v.wt := by
  have := wt_le_wts v.l x h
  rw [wt_eq v]
  omega
theorem len_b (v : V) : v.b.length < v.wt := by rw [wt_eq]; omega
theorem len_l (v : V) : v.l.length < v.wt := by have := len_le_wts v.l; rw [wt_eq]; omega
theorem hts_le_wts : ∀ (d : Nat) (l : List V), wt.wts l ≤ d → ht.hts l ≤ wt.wts l
  | 0, [], _ => Nat.le_refl _
  | 0, x :: r, h => by have := wt_pos x; simp only [wt.wts] at h; omega
  | d + 1, [], _ => Nat.zero_le _
  | d + 1, .mk k n b l :: r, h => by
    simp only [wt.wts, wt] at h
    have h1 := hts_le_wts d l (by omega)
    have h2 := hts_le_wts d r (by omega)
    simp only [ht.hts, ht, wt.wts, wt]
    omega
theorem ht_le_wt (v : V) : v.ht ≤ v.wt := by
  cases v with
  | mk k n b l =>
    have := hts_le_wts _ l (Nat.le_refl _)
    simp only [ht, wt]
    omega
theorem ht_pos (v : V) : 0 < ht v := by cases v; simp [ht]
end V

/-- A number fits an int. -/
def Fits (n : Int) : Prop := (Lit.int .i64 n).wf = true

/-- The slices of a value lie in memory: its bytes behind A, its items behind A'. -/
def Rep (w : World) : V → Option Addr → Nat → Option Addr → Nat → Prop
  | .mk k n b l, A, cb, A', cl => Byt w A b ∧ b.length ≤ cb ∧ (l.length ≤ cl ∧ cl ≤ maxLen) ∧ Fits k ∧ Fits n ∧ items l A' 0
where
  items : List V → Option Addr → Nat → Prop
  | [], _, _ => True
  | x :: r, A, i => (∃ g o B cb B' cl, A = some ⟨g, o, none⟩ ∧ w.cell? ⟨g, o + i * 4, none⟩ = some (.int .i64 x.k) ∧ w.cell? ⟨g, o + i * 4 + 1, none⟩ = some (.int .i64 x.n) ∧ w.cell? ⟨g, o + i * 4 + 2, none⟩ = some (.slice B x.b.length cb) ∧
      w.cell? ⟨g, o + i * 4 + 3, none⟩ = some (.slice B' x.l.length cl) ∧ Rep w x B cb B' cl) ∧ items r A (i + 1)

section
variable {w w' : World} {v : V} {A A' : Option Addr} {cb cl : Nat}
theorem Rep.bytes (h : Rep w v A cb A' cl) : Byt w A v.b := by cases v; rw [Rep] at h; exact h.1
theorem Rep.capb (h : Rep w v A cb A' cl) : v.b.length ≤ cb := by cases v; rw [Rep] at h; exact h.2.1
theorem Rep.capl' (h : Rep w v A cb A' cl) : v.l.length ≤ cl ∧ cl ≤ maxLen := by cases v; rw [Rep] at h; exact h.2.2.1
theorem Rep.capl (h : Rep w v A cb A' cl) : v.l.length ≤ cl := h.capl'.1
theorem Rep.lmax (h : Rep w v A cb A' cl) : v.l.length ≤ 9223372036854775807 := by have := h.capl'; unfold maxLen at this; omega
theorem Rep.fk (h : Rep w v A cb A' cl) : Fits v.k := by cases v; rw [Rep] at h; exact h.2.2.2.1
theorem Rep.fn (h : Rep w v A cb A' cl) : Fits v.n := by cases v; rw [Rep] at h; exact h.2.2.2.2.1
theorem Rep.its (h : Rep w v A cb A' cl) : Rep.items w v.l A' 0 := by cases v; rw [Rep] at h; exact h.2.2.2.2.2
theorem Rep.mk' (h1 : Byt w A v.b) (h2 : v.b.length ≤ cb) (h3 : v.l.length ≤ cl ∧ cl ≤ maxLen) (h4 : Fits v.k) (h5 : Fits v.n) (h6 : Rep.items w v.l A' 0) : Rep w v A cb A' cl := by cases v; rw [Rep]; exact ⟨h1, h2, h3, h4, h5, h6⟩

/-- What is known of the i-th of the items that lie behind A'. -/
def ItemAt (w : World) (x : V) (A' : Option Addr) (i : Nat) : Prop :=
  ∃ g o B cb B' cl, A' = some ⟨g, o, none⟩ ∧ w.cell? ⟨g, o + i * 4, none⟩ = some (.int .i64 x.k) ∧ w.cell? ⟨g, o + i * 4 + 1, none⟩ = some (.int .i64 x.n) ∧ w.cell? ⟨g, o + i * 4 + 2, none⟩ = some (.slice B x.b.length cb) ∧
    w.cell? ⟨g, o + i * 4 + 3, none⟩ = some (.slice B' x.l.length cl) ∧ Rep w x B cb B' cl
theorem items_cons {x : V} {r : List V} {i : Nat} : Rep.items w (x :: r) A' i ↔ ItemAt w x A' i ∧ Rep.items w r A' (i + 1) := by rw [Rep.items]; exact Iff.rfl
theorem items_iff : ∀ (l : List V) (i : Nat), Rep.items w l A' i ↔ ∀ j (h : j < l.length), ItemAt w l[j] A' (i + j)
  | [], i => by simp [Rep.items]
  | x :: r, i => by
    rw [items_cons, items_iff r (i + 1)]
    constructor
    · rintro ⟨h1, h2⟩ j hj
      cases j with
      | zero => exact h1
      | succ j =>
        have := h2 j (by simpa using hj)
        rw [show i + (j + 1) = i + 1 + j by omega]
        exact this
    · intro h
      refine ⟨h 0 (by simp), fun j hj => ?_⟩
      have := h (j + 1) (by simpa using hj)
      rw [show i + 1 + j = i + (j + 1) by omega]
      simpa using this
theorem Rep.item (h : Rep w v A cb A' cl) {i : Nat} (hi : i < v.l.length) : ItemAt w v.l[i] A' i := by
  have := (items_iff v.l 0).1 h.its i hi
  simpa using this
theorem Rep.keepN (hk : ∀ p : Addr, p.block < w.heap.size → w'.cell? p = w.cell? p) : ∀ (d : Nat) (v : V) (A : Option Addr) (cb : Nat) (A' : Option Addr) (cl : Nat), v.ht ≤ d → Rep w v A cb A' cl → Rep w' v A cb A' cl
  | 0, v, _, _, _, _, hd, _ => absurd (V.ht_pos v) (by omega)
  | d + 1, v, A, cb, A', cl, hd, h => by
    refine Rep.mk' (Row.keep h.bytes hk) h.capb h.capl' h.fk h.fn ((items_iff v.l 0).2 fun j hj => ?_)
    rw [Nat.zero_add]
    obtain ⟨g, o, B, c1, B', c2, e, h1, h2, h3, h4, hr⟩ := h.item hj
    have hlt := V.ht_item v v.l[j] (List.getElem_mem hj)
    have kc : ∀ {a : Addr} {u : Value}, w.cell? a = some u → w'.cell? a = some u := fun hc => (hk _ (World.block_lt_of_cell? w _ hc)).trans hc
    exact ⟨g, o, B, c1, B', c2, e, kc h1, kc h2, kc h3, kc h4, Rep.keepN hk d _ _ _ _ _ (by omega) hr⟩
theorem Rep.keep (h : Rep w v A cb A' cl) (hk : ∀ p : Addr, p.block < w.heap.size → w'.cell? p = w.cell? p) : Rep w' v A cb A' cl := Rep.keepN hk v.ht v A cb A' cl (Nat.le_refl _) h
theorem Rep.below (h : Rep w v A cb A' cl) (hb : Below w.heap.size w w') : Rep w' v A cb A' cl := h.keep fun _ hp => hb.cell hp
theorem Rep.drew (h : Rep w v A cb A' cl) : Rep w.drew v A cb A' cl := h.keep fun _ _ => rfl
theorem Rep.alloc (h : Rep w v A cb A' cl) (o : Obj) : Rep (w.alloc o) v A cb A' cl := h.keep fun p hp => World.cell?_alloc_lt w o p hp
end

/-- A value as an argument. -/
abbrev vv (v : V) (A : Option Addr) (cb : Nat) (A' : Option Addr) (cl : Nat) : Value := .agg #[.int .i64 v.k, .int .i64 v.n, .slice A v.b.length cb, .slice A' v.l.length cl]

/-- The cells of a block of four, as long as nothing up to it turns. -/
theorem box4 {w wr : World} {c0 c1 c2 c3 : Value} {t : TypeId} (hb : Below (w.heap.size + 1) (w.alloc (.cells #[c0, c1, c2, c3] t)) wr) :
    wr.cell? ⟨w.heap.size, 0, none⟩ = some c0 ∧ wr.cell? ⟨w.heap.size, 1, none⟩ = some c1 ∧ wr.cell? ⟨w.heap.size, 2, none⟩ = some c2 ∧ wr.cell? ⟨w.heap.size, 3, none⟩ = some c3 := by
  refine ⟨?_, ?_, ?_, ?_⟩ <;> (rw [hb.cell (by simp)]; exact cell_new rfl _)
theorem unbox {w wr : World} {o : Obj} (hb : Below (w.heap.size + 1) (w.alloc o) wr) : Below w.heap.size w wr :=
  ((Below.refl _ _).alloc (Nat.le_refl _) _).trans (hb.mono (by omega))

end Go.Proofs.Ytimdogdplphmoaa
