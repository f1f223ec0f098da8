/-
  Equality of calls: the models, plain; the law CallSame.
-/
import Derived.Test.YtimdogdplphmoabDoorClM
import Derived.Test.YtimdogdplphmoabDoorCbN
import Derived.Test.YtimdogdplphmoabDoorLoop
namespace Go.Proofs.YtimdogdplphmoabDoor
open Go Go.RowKit
set_option linter.unusedVariables false
set_option linter.unusedSimpArgs false
set_option maxRecDepth 20000

theorem awake30 : m_L30_awake = some true := by kernel_rfl
theorem call_eq (a b : S_api_Call) : a = b ↔ a.Kind = b.Kind ∧ a.User = b.User ∧ a.Folder = b.Folder ∧ a.Name = b.Name ∧ a.Other = b.Other ∧ a.Role = b.Role ∧ a.Version = b.Version ∧ a.Data = b.Data := by
  cases a; cases b
  simp
theorem n_call_Same (a b : S_api_Call) : TellsP (m_call_Same a b) (a = b) := by
  have h : m_call_Same a b = some ((a.Data == b.Data) && (!(a.Kind != b.Kind) && (!(a.Role != b.Role) && (!(a.Version != b.Version) && ((a.User == b.User) && ((a.Folder == b.Folder) && ((a.Name == b.Name) && (a.Other == b.Other)))))))) := by
    unfold m_call_Same m_bytes_Equal
    rw [Option.bind_some]
    cases (a.Data == b.Data) <;> cases (a.Kind != b.Kind) <;> cases (a.Role != b.Role) <;> cases (a.Version != b.Version) <;> cases (a.User == b.User) <;> cases (a.Folder == b.Folder) <;> cases (a.Name == b.Name) <;> rfl
  refine ⟨_, h, ?_⟩
  rw [call_eq]
  simp only [Bool.and_eq_true, Bool.not_eq_true', bne_eq_false_iff_eq, beq_iff_eq]
  constructor
  · rintro ⟨h1, h2, h3, h4, h5, h6, h7, h8⟩
    exact ⟨h2, h5, h6, h7, h8, h3, h4, h1⟩
  · rintro ⟨h2, h5, h6, h7, h8, h3, h4, h1⟩
    exact ⟨h1, h2, h3, h4, h5, h6, h7, h8⟩
theorem n_R30_Same (a b : S_api_Call) (ha : a.Data.length < 4611686018427387904) : TellsP (m_R30_Same a b) (a = b) := by
  have h : m_R30_Same a b = some ((a.Kind == b.Kind) && ((a.User == b.User) && ((a.Folder == b.Folder) && ((a.Name == b.Name) && ((a.Other == b.Other) && ((a.Role == b.Role) && ((a.Version == b.Version) && (a.Data == b.Data)))))))) := by
    unfold m_R30_Same
    rw [n_R01_Same _ _ ha, Option.bind_some]
    cases (a.Kind == b.Kind) <;> cases (a.User == b.User) <;> cases (a.Folder == b.Folder) <;> cases (a.Name == b.Name) <;> cases (a.Other == b.Other) <;> cases (a.Role == b.Role) <;> cases (a.Version == b.Version) <;> rfl
  refine ⟨_, h, ?_⟩
  rw [call_eq]
  simp only [Bool.and_eq_true, beq_iff_eq]
theorem n_Few30 (a : S_api_Call) : ∃ r, m_L30_Few a = some r ∧ (r = true → a.User.length ≤ 20 ∧ a.Folder.length ≤ 20 ∧ a.Name.length ≤ 20 ∧ a.Other.length ≤ 20 ∧ a.Data.length ≤ 600) := by
  unfold m_L30_Few
  rw [bif_and, bif_and, bif_and, bif_and]
  refine ⟨_, rfl, fun h => ?_⟩
  simp only [Bool.and_eq_true, decide_eq_true_eq] at h
  exact ⟨by omega, by omega, by omega, by omega, by omega⟩
theorem n_Writes (k : Int) : m_call_Writes k = some ((decide (k ≥ 2) && decide (k ≤ 8)) || (k == 11)) := by
  unfold m_call_Writes
  cases decide (k ≥ 2) <;> cases decide (k ≤ 8) <;> rfl
theorem n_CallSame (a b : S_api_Call) (k : Int) : m_L30_CallSame a b k = some true := by
  unfold m_L30_CallSame
  rw [awake30, Option.bind_some, bif_neg (c := !true) rfl]
  obtain ⟨r, hr, hf⟩ := n_Few30 a
  obtain ⟨s, hs, _⟩ := n_Few30 b
  rw [hr, Option.bind_some]
  cases r with
  | false => rfl
  | true =>
    rw [bif_neg (c := !true) rfl, hs, Option.bind_some]
    cases s with
    | false => rfl
    | true =>
      rw [bif_neg (c := !true) rfl]
      have hd := (hf rfl).2.2.2.2
      have key : ∀ y : Bool, ((decide (k ≥ 2) && decide (k ≤ 8)) || (k == 11)) = y → m_L30_CallSame_j1 a b k y = some true := by
        intro y hy
        unfold m_L30_CallSame_j1
        obtain ⟨x, hx, hxi⟩ := n_call_Same a b
        obtain ⟨z, hz, hzi⟩ := n_R30_Same a b (by omega)
        have e : x = z := by rw [Bool.eq_iff_iff, hxi, hzi]
        rw [hx, Option.bind_some, hz, Option.bind_some, e, beq_self_eq_true, bif_pos (c := true) rfl, (n_call_Same a a).yes rfl, Option.bind_some, bif_pos (c := true) rfl, n_Writes, Option.bind_some, hy, beq_self_eq_true]
      by_cases h2 : k ≥ 2
      · rw [bif_pos (dec_t h2)]
        by_cases h11 : k ≤ 11
        · rw [bif_pos (dec_t h11)]
          by_cases h9 : k = 9
          · rw [bif_neg (ine_f h9)]
            exact key _ (by subst h9; rfl)
          · rw [bif_pos (ine_t h9)]
            refine key _ ?_
            rw [Bool.eq_iff_iff]
            simp
            omega
        · rw [bif_neg (dec_f h11)]
          refine key _ ?_
          rw [Bool.eq_iff_iff]
          simp
          omega
      · rw [bif_neg (dec_f h2)]
        refine key _ ?_
        rw [Bool.eq_iff_iff]
        simp
        omega
end Go.Proofs.YtimdogdplphmoabDoor
