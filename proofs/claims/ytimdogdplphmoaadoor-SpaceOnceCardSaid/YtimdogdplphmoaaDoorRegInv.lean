/-
  A law for a region that draws its order: one condition on what has been listed, shown anew behind each operation, once an operation (not once an order).
-/
import Derived.Test.YtimdogdplphmoaaDoorWords
namespace Go.Proofs.YtimdogdplphmoaaDoor
open Go Go.RowKit

variable {P : Program} {ops : Array Oper} {Q : Exit → Act → World → Prop}

/-- How many are not yet listed. -/
def left_ (n : Nat) (L : Array Bool) : Nat := ((List.range n).filter fun j => !L.getD j true).length

theorem left_set {n i : Nat} {L : Array Bool} (hi : i < n) (h : L.getD i true = false) : left_ n (L.setIfInBounds i true) < left_ n L := by
  unfold left_
  have hs : ((List.range n).filter fun j => !(L.setIfInBounds i true).getD j true) = ((List.range n).filter fun j => !L.getD j true).filter (fun j => j != i) := by
    rw [List.filter_filter]
    refine List.filter_congr fun j _ => ?_
    by_cases hj : i = j
    · subst hj
      have hlt : i < L.size := by
        rcases Nat.lt_or_ge i L.size with g | g
        · exact g
        · rw [Array.getD_eq_getD_getElem?, Array.getElem?_eq_none (by omega)] at h; cases h
      simp [Array.getD_eq_getD_getElem?, hlt]
    · rw [getD_set_ne true hj]
      have : (j != i) = true := by simpa using Ne.symm hj
      simp [this]
  rw [hs]
  have hm : i ∈ (List.range n).filter fun j => !L.getD j true := List.mem_filter.2 ⟨List.mem_range.2 hi, by rw [h]; rfl⟩
  generalize ((List.range n).filter fun j => !L.getD j true) = l at hm
  clear hs
  induction l with
  | nil => cases hm
  | cons y r ih =>
    by_cases hy : y = i
    · subst hy
      simp
      exact Nat.lt_succ_of_le (List.length_filter_le _ _)
    · have h2 : i ∈ r := by
        cases hm with
        | head => exact absurd rfl hy
        | tail _ h => exact h
      have := ih h2
      simp [hy] at this ⊢
      exact this

theorem wpAny_inv {J : Array Bool → Act → World → Prop}
    (step : ∀ i o L a w, J L a w → ops[i]? = some o → L.getD i true = false → (∀ e ∈ o.after, Region.binds .any e = true → L.getD e.on false = true) → wpOp P ops Q i (fun a' w' => J (L.setIfInBounds i true) a' w') a w)
    (done : ∀ L a w, J L a w → Region.ready .any ops L = [] → Q .normal a w) :
    ∀ (fuel : Nat) (L : Array Bool) (a : Act) (w : World), J L a w → left_ ops.size L ≤ fuel → wpAny P .any ops Q fuel L a w := by
  intro fuel
  induction fuel with
  | zero =>
    intro L a w hJ hl
    have hr : Region.ready .any ops L = [] := by
      rw [List.eq_nil_iff_forall_not_mem]
      intro j hj
      obtain ⟨h1, o, ho, _⟩ := mem_ready.1 hj
      have hlt : j < ops.size := (Array.getElem?_eq_some_iff.1 ho).1
      have hm : j ∈ (List.range ops.size).filter fun j => !L.getD j true := List.mem_filter.2 ⟨List.mem_range.2 hlt, by rw [h1]; rfl⟩
      have : 0 < left_ ops.size L := List.length_pos_of_mem hm
      omega
    exact ⟨hr, done L a w hJ hr⟩
  | succ fuel ih =>
    intro L a w hJ hl
    refine ⟨fun hr => done L a w hJ hr, fun i hi => ?_⟩
    obtain ⟨h1, o, ho, hd⟩ := mem_ready.1 hi
    have hlt : i < ops.size := (Array.getElem?_eq_some_iff.1 ho).1
    refine wpOp_mono (fun a' w' h => ih _ a' w' h ?_) (step i o L a w hJ ho h1 hd)
    have := left_set hlt h1
    omega

theorem region_inv {J : Array Bool → Act → World → Prop} {id : Nat} {a : Act} {w : World} (hm : P.follows .mixedOrders = true)
    (h0 : J (Array.replicate ops.size false) a w.drew)
    (step : ∀ i o L a w, J L a w → ops[i]? = some o → L.getD i true = false → (∀ e ∈ o.after, Region.binds .any e = true → L.getD e.on false = true) → wpOp P ops Q i (fun a' w' => J (L.setIfInBounds i true) a' w') a w)
    (done : ∀ L a w, J L a w → Region.ready .any ops L = [] → Q .normal a w) : (Code.region id ops true).wp P Q a w := by
  refine wp_region_any hm (wpAny_inv step done _ _ _ _ h0 ?_)
  unfold left_
  exact Nat.le_trans (List.length_filter_le _ _) (by simp)

/-- Do all edges lead back? -/
def backB (ops : Array Oper) : Bool := (List.range ops.size).all fun i => match ops[i]? with | some o => o.after.all fun e => !Region.binds .any e || decide (e.on < i) | none => true

theorem all_listed {L : Array Bool} (hb : backB ops = true) (hL : L.size = ops.size) (hr : Region.ready .any ops L = []) : ∀ i, i < ops.size → L.getD i true = true := by
  intro i
  induction i using Nat.strongRecOn with
  | _ i ih =>
    intro hi
    cases h : L.getD i true with
    | true => rfl
    | false =>
      exfalso
      have hm : i ∈ Region.ready .any ops L := by
        refine mem_ready.2 ⟨h, ops[i], Array.getElem?_eq_getElem hi, fun e he hbd => ?_⟩
        unfold backB at hb
        have := List.all_eq_true.1 hb i (List.mem_range.2 hi)
        rw [Array.getElem?_eq_getElem hi] at this
        have := Array.all_eq_true_iff_forall_mem.1 this e he
        have hlt : e.on < i := by simpa [hbd] using this
        have := ih e.on hlt (by omega)
        rw [Array.getD_eq_getD_getElem?, Array.getElem?_eq_getElem (by omega)] at this ⊢
        exact this
      rw [hr] at hm
      cases hm

end Go.Proofs.YtimdogdplphmoaaDoor
