/-
  Names: the models, plain.
-/
import Derived.Test.YteopjhakjeknaaaDoorCbM
import Derived.Test.YteopjhakjeknaaaDoorLoop
namespace Go.Proofs.YteopjhakjeknaaaDoor
open Go Go.RowKit
set_option linter.unusedVariables false
set_option linter.unusedSimpArgs false
set_option maxRecDepth 20000

/-! ### Names -/
def chB (c : UInt8) : Bool := (decide (97 ≤ c.toNat) && decide (c.toNat ≤ 122)) || (decide (48 ≤ c.toNat) && decide (c.toNat ≤ 57))
def NameP (s : List UInt8) : Prop := (∀ j, j < s.length → ∀ c, s[j]? = some c → chB c = true) ∧ 1 ≤ s.length ∧ s.length ≤ 12
theorem name_core {s : List UInt8} (F : Nat → Int → Option Bool) (K : Option Bool) (hs : ∀ n i (h : i < s.length), F (n + 1) (i : Int) = bif chB s[i] then F n ((i + 1 : Nat) : Int) else some false) (he : ∀ n, F (n + 1) (s.length : Int) = K) :
    ((∀ j, j < s.length → ∀ c, s[j]? = some c → chB c = true) → F (s.length + 1) 0 = K) ∧ (¬ (∀ j, j < s.length → ∀ c, s[j]? = some c → chB c = true) → F (s.length + 1) 0 = some false) := by
  have h := loop_then (len := s.length) F (fun j => ∀ c, s[j]? = some c → chB c = true) K (some false) (fun n i hi => by
    rw [hs n i hi]
    refine ⟨fun h => ?_, fun h => ?_⟩
    · rw [h _ (List.getElem?_eq_getElem hi)]; rfl
    · have : chB s[i] = false := by
        cases hc : chB s[i] with
        | false => rfl
        | true => exact absurd (fun c hc' => by rw [List.getElem?_eq_getElem hi] at hc'; injection hc' with e; rw [← e]; exact hc) h
      rw [this]; rfl) he (s.length + 1) 0 (by omega) (by omega)
  exact ⟨fun k => h.1 fun j _ hj => k j hj, fun k => h.2 fun k' => k fun j hj => k' j (by omega) hj⟩
theorem n_tree_Name (s : List UInt8) (hl : s.length ≤ 9223372036854775807) : TellsP (m_tree_Name s) (NameP s) := by
  unfold m_tree_Name
  have h := name_core (s := s) (m_tree_Name_l2 s) (m_tree_Name_j1 s) (fun n i hi => by
    rw [m_tree_Name_l2]
    rw [bif_pos (dec_t (by omega)), idx_nat hi, Option.bind_some, wi_succ (by omega)]
    rw [dlt s[i].toNat 97 97 rfl, dlt s[i].toNat 48 48 rfl, dgt s[i].toNat 57 57 rfl, dgt s[i].toNat 122 122 rfl]
    unfold chB
    cases decide (97 ≤ s[i].toNat) <;> cases decide (s[i].toNat ≤ 122) <;> cases decide (48 ≤ s[i].toNat) <;> cases decide (s[i].toNat ≤ 57) <;> rfl) (fun n => by
    rw [m_tree_Name_l2]
    rw [bif_neg (dec_f (by omega))])
  by_cases hc : ∀ j, j < s.length → ∀ c, s[j]? = some c → chB c = true
  · rw [h.1 hc]
    unfold m_tree_Name_j1
    rw [dge s.length 1 1 rfl, dle s.length 12 12 rfl]
    refine ⟨decide (1 ≤ s.length) && decide (s.length ≤ 12), bif_and, ?_⟩
    simp [NameP]
    exact fun _ _ j hj => hc j hj
  · rw [h.2 hc]
    exact ⟨false, rfl, ⟨fun h => Bool.noConfusion h, fun h => absurd h.1 hc⟩⟩
theorem n_R25_Name (s : List UInt8) (hl : s.length ≤ 9223372036854775807) : TellsP (m_R25_Name s) (NameP s) := by
  unfold m_R25_Name
  rw [dlt s.length 1 1 rfl, dgt s.length 12 12 rfl]
  by_cases h1 : 1 ≤ s.length
  · by_cases h2 : s.length ≤ 12
    · rw [dec_t h1, dec_t h2]
      show TellsP (m_R25_Name_l1 s (s.length + 1) 0) (NameP s)
      have h := name_core (s := s) (m_R25_Name_l1 s) (some true) (fun n i hi => by
        rw [m_R25_Name_l1]
        rw [bif_pos (dec_t (by omega))]
        unfold m_R25_Name_j3 m_R25_Name_j4 m_R25_Name_j2
        simp only [idx_nat hi, Option.bind_some]
        rw [wi_succ (by omega)]
        rw [dge s[i].toNat 97 97 rfl, dle s[i].toNat 122 122 rfl, dge s[i].toNat 48 48 rfl, dle s[i].toNat 57 57 rfl]
        unfold chB
        cases decide (97 ≤ s[i].toNat) <;> cases decide (s[i].toNat ≤ 122) <;> cases decide (48 ≤ s[i].toNat) <;> cases decide (s[i].toNat ≤ 57) <;> rfl) (fun n => by
        rw [m_R25_Name_l1]
        rw [bif_neg (dec_f (by omega))])
      by_cases hc : ∀ j, j < s.length → ∀ c, s[j]? = some c → chB c = true
      · rw [h.1 hc]
        exact ⟨true, rfl, ⟨fun _ => ⟨hc, h1, h2⟩, fun _ => rfl⟩⟩
      · rw [h.2 hc]
        exact ⟨false, rfl, ⟨fun h => Bool.noConfusion h, fun h => absurd h.1 hc⟩⟩
    · rw [dec_t h1, dec_f h2]
      exact ⟨false, rfl, ⟨fun h => Bool.noConfusion h, fun h => absurd h.2.2 h2⟩⟩
  · rw [dec_f h1]
    exact ⟨false, rfl, ⟨fun h => Bool.noConfusion h, fun h => absurd h.2.1 h1⟩⟩

end Go.Proofs.YteopjhakjeknaaaDoor
