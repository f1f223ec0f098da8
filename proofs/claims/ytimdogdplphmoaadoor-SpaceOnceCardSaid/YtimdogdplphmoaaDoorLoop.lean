/-
  Loops of models: what they tell, where they go on, what they gather.
-/
import Derived.Test.YtimdogdplphmoaaDoorNum
namespace Go.Proofs.YtimdogdplphmoaaDoor
open Go Go.RowKit
set_option linter.unusedVariables false
set_option linter.unusedSimpArgs false

/-- The model tells whether p. -/
def TellsP (x : Option Bool) (p : Prop) : Prop := ∃ r, x = some r ∧ (r = true ↔ p)
theorem TellsP.iff {x : Option Bool} {p q : Prop} (h : TellsP x p) (hpq : p ↔ q) : TellsP x q := by
  obtain ⟨r, h1, h2⟩ := h
  exact ⟨r, h1, h2.trans hpq⟩
theorem TellsP.yes {x : Option Bool} {p : Prop} (h : TellsP x p) (hp : p) : x = some true := by
  obtain ⟨r, h1, h2⟩ := h
  rw [h1, h2.2 hp]
theorem TellsP.no {x : Option Bool} {p : Prop} (h : TellsP x p) (hp : ¬ p) : x = some false := by
  obtain ⟨r, h1, h2⟩ := h
  cases r with
  | false => exact h1
  | true => exact absurd (h2.1 rfl) hp
theorem TellsP.of {b : Bool} {p : Prop} (h : b = true ↔ p) : TellsP (some b) p := ⟨b, rfl, h⟩
theorem TellsP.bool {x : Option Bool} {b : Bool} (h : TellsP x (b = true)) : x = some b := by
  cases b with
  | true => exact h.yes rfl
  | false => exact h.no (by simp)
/-- A loop that looks at each place, and stops at the first that is not as it should be. -/
theorem loop_tells {len : Nat} (F : Nat → Int → Option Bool) (P : Nat → Prop) (E : Prop)
    (hstep : ∀ n i, i < len → ∃ c : Bool, (c = true ↔ P i) ∧ F (n + 1) (i : Int) = bif c then F n ((i + 1 : Nat) : Int) else some false)
    (hend : ∀ n, TellsP (F (n + 1) (len : Int)) E) : ∀ n i, i ≤ len → len - i < n → TellsP (F n (i : Int)) ((∀ j, i ≤ j → j < len → P j) ∧ E)
  | 0, i, _, h => by omega
  | n + 1, i, hi, h => by
    by_cases hlt : i < len
    · obtain ⟨c, hc, he⟩ := hstep n i hlt
      rw [he]
      cases c with
      | false =>
        refine ⟨false, rfl, ⟨fun h => Bool.noConfusion h, fun h => ?_⟩⟩
        exact hc.2 (h.1 i (Nat.le_refl _) hlt)
      | true =>
        refine (loop_tells F P E hstep hend n (i + 1) (by omega) (by omega)).iff ⟨fun h => ⟨fun j h1 h2 => ?_, h.2⟩, fun h => ⟨fun j h1 h2 => h.1 j (by omega) h2, h.2⟩⟩
        by_cases e : j = i
        · subst e; exact hc.1 rfl
        · exact h.1 j (by omega) h2
    · have e : i = len := by omega
      subst e
      exact (hend n).iff ⟨fun h => ⟨fun j h1 h2 => by omega, h⟩, fun h => h.2⟩

/-- A loop that looks at each place, goes on behind the last, and stops at the first that is not as it should be. -/
theorem loop_then {α : Type} {len : Nat} (F : Nat → Int → Option α) (P : Nat → Prop) (K bad : Option α)
    (hstep : ∀ n i, i < len → (P i → F (n + 1) (i : Int) = F n ((i + 1 : Nat) : Int)) ∧ (¬ P i → F (n + 1) (i : Int) = bad))
    (hend : ∀ n, F (n + 1) (len : Int) = K) : ∀ n i, i ≤ len → len - i < n → ((∀ j, i ≤ j → j < len → P j) → F n (i : Int) = K) ∧ (¬ (∀ j, i ≤ j → j < len → P j) → F n (i : Int) = bad)
  | 0, i, _, h => by omega
  | n + 1, i, hi, h => by
    by_cases hlt : i < len
    · obtain ⟨s1, s2⟩ := hstep n i hlt
      by_cases hp : P i
      · rw [s1 hp]
        obtain ⟨k1, k2⟩ := loop_then F P K bad hstep hend n (i + 1) (by omega) (by omega)
        refine ⟨fun h => k1 fun j h1 h2 => h j (by omega) h2, fun h => k2 fun hc => h fun j h1 h2 => ?_⟩
        by_cases e : j = i
        · subst e; exact hp
        · exact hc j (by omega) h2
      · exact ⟨fun h => absurd (h i (Nat.le_refl _) hlt) hp, fun _ => s2 hp⟩
    · have e : i = len := by omega
      subst e
      exact ⟨fun _ => hend n, fun h => absurd (fun j h1 h2 => absurd h2 (by omega)) h⟩

/-- A loop that gathers. -/
theorem loop_acc {α β γ : Type} {l : List α} (F : Nat → List β → Int → Option γ) (P : α → Prop) (g : α → β) (K : List β → Option γ) (bad : Option γ)
    (hstep : ∀ n out i (hi : i < l.length), out.length ≤ i → (P l[i] → F (n + 1) out (i : Int) = F n (out ++ [g l[i]]) ((i + 1 : Nat) : Int)) ∧ (¬ P l[i] → F (n + 1) out (i : Int) = bad))
    (hend : ∀ n out, F (n + 1) out (l.length : Int) = K out) : ∀ n i out, i ≤ l.length → l.length - i < n → out.length ≤ i → ((∀ x ∈ l.drop i, P x) → F n out (i : Int) = K (out ++ (l.drop i).map g)) ∧ (¬ (∀ x ∈ l.drop i, P x) → F n out (i : Int) = bad)
  | 0, i, out, _, h, _ => by omega
  | n + 1, i, out, hi, h, ho => by
    by_cases hlt : i < l.length
    · obtain ⟨s1, s2⟩ := hstep n out i hlt ho
      rw [List.drop_eq_getElem_cons hlt]
      by_cases hp : P l[i]
      · rw [s1 hp]
        obtain ⟨k1, k2⟩ := loop_acc F P g K bad hstep hend n (i + 1) (out ++ [g l[i]]) (by omega) (by omega) (by simp; omega)
        refine ⟨fun h => ?_, fun h => k2 fun hc => h fun x hx => ?_⟩
        · rw [k1 fun x hx => h x (List.mem_cons_of_mem _ hx), List.map_cons, List.append_assoc]
          rfl
        · rcases List.mem_cons.1 hx with e | hx
          · rw [e]; exact hp
          · exact hc x hx
      · exact ⟨fun h => absurd (h _ List.mem_cons_self) hp, fun _ => s2 hp⟩
    · have e : i = l.length := by omega
      subst e
      rw [List.drop_length]
      refine ⟨fun _ => by rw [hend]; simp, fun h => absurd (fun x hx => by simp at hx) h⟩

theorem dlt (n k : Nat) (z : Int) (hz : z = (k : Int)) : decide ((n : Int) < z) = !decide (k ≤ n) := by subst hz; rw [Bool.eq_iff_iff]; simp
theorem dgt (n k : Nat) (z : Int) (hz : z = (k : Int)) : decide ((n : Int) > z) = !decide (n ≤ k) := by subst hz; rw [Bool.eq_iff_iff]; simp
theorem dle (n k : Nat) (z : Int) (hz : z = (k : Int)) : decide ((n : Int) ≤ z) = decide (n ≤ k) := by subst hz; rw [Bool.eq_iff_iff]; simp
theorem dge (n k : Nat) (z : Int) (hz : z = (k : Int)) : decide ((n : Int) ≥ z) = decide (k ≤ n) := by subst hz; rw [Bool.eq_iff_iff]; simp

end Go.Proofs.YtimdogdplphmoaaDoor
