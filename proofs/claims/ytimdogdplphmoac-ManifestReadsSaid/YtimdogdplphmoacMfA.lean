/-
  Names, roles, what a manifest may be: the models, plain.
-/
import Derived.Test.YtimdogdplphmoacMfM
import Derived.Test.YtimdogdplphmoacR2N
namespace Go.Proofs.Ytimdogdplphmoac
open Go Go.RowKit
set_option linter.unusedVariables false
set_option linter.unusedSimpArgs false

/-- A loop that looks at each place, goes on behind the last, and stops at the first that is not as it should be. -/
theorem loop_then {α : Type} {len : Nat} (F : Nat → Int → Option α) (P : Nat → Prop) (K bad : Option α)
    (hstep : ∀ n i, i < len → (P i → F (n + 1) (i : Int) = F n ((i + 1 : Nat) : Int)) ∧ (¬ P i → F (n + 1) (i : Int) = bad))
    (hend : ∀ n, F (n + 1) (len : Int) = K) : ∀ n i, i ≤ len → len - i < n → ((∀ j, i ≤ j → j < len → P j) → F n (i : Int) = K) ∧ (¬ (∀ j, i ≤ j → j < len → P j) → F n (i : Int) = bad)
  | 0, i, _, h => by omega
  | n + 1, i, hi, h => by
    by_cases hlt : i < len
    · obtain ⟨s1, s2⟩ := hstep n i hlt
      by_cases hp : P i
      · rw [s1 hp]
        obtain ⟨k1, k2⟩ := loop_then F P K bad hstep hend n (i + 1) (by omega) (by omega)
        refine ⟨fun h => k1 fun j h1 h2 => h j (by omega) h2, fun h => k2 fun hc => h fun j h1 h2 => ?_⟩
        by_cases e : j = i
        · subst e; exact hp
        · exact hc j (by omega) h2
      · exact ⟨fun h => absurd (h i (Nat.le_refl _) hlt) hp, fun _ => s2 hp⟩
    · have e : i = len := by omega
      subst e
      exact ⟨fun _ => hend n, fun h => absurd (fun j h1 h2 => absurd h2 (by omega)) h⟩

theorem dlt (n k : Nat) (z : Int) (hz : z = (k : Int)) : decide ((n : Int) < z) = !decide (k ≤ n) := by subst hz; rw [Bool.eq_iff_iff]; simp
theorem dgt (n k : Nat) (z : Int) (hz : z = (k : Int)) : decide ((n : Int) > z) = !decide (n ≤ k) := by subst hz; rw [Bool.eq_iff_iff]; simp
theorem dle (n k : Nat) (z : Int) (hz : z = (k : Int)) : decide ((n : Int) ≤ z) = decide (n ≤ k) := by subst hz; rw [Bool.eq_iff_iff]; simp
theorem dge (n k : Nat) (z : Int) (hz : z = (k : Int)) : decide ((n : Int) ≥ z) = decide (k ≤ n) := by subst hz; rw [Bool.eq_iff_iff]; simp

/-! ### Names -/
def chB (c : UInt8) : Bool := (decide (97 ≤ c.toNat) && decide (c.toNat ≤ 122)) || (decide (48 ≤ c.toNat) && decide (c.toNat ≤ 57))
def NameP (s : List UInt8) : Prop := (∀ j, j < s.length → ∀ c, s[j]? = some c → chB c = true) ∧ 1 ≤ s.length ∧ s.length ≤ 12
theorem name_core {s : List UInt8} (F : Nat → Int → Option Bool) (K : Option Bool) (hs : ∀ n i (h : i < s.length), F (n + 1) (i : Int) = bif chB s[i] then F n ((i + 1 : Nat) : Int) else some false) (he : ∀ n, F (n + 1) (s.length : Int) = K) :
    ((∀ j, j < s.length → ∀ c, s[j]? = some c → chB c = true) → F (s.length + 1) 0 = K) ∧ (¬ (∀ j, j < s.length → ∀ c, s[j]? = some c → chB c = true) → F (s.length + 1) 0 = some false) := by
  have h := loop_then (len := s.length) F (fun j => ∀ c, s[j]? = some c → chB c = true) K (some false) (fun n i hi => by
    rw [hs n i hi]
    refine ⟨fun h => ?_, fun h => ?_⟩
    · rw [h _ (List.getElem?_eq_getElem hi)]; rfl
    · have : chB s[i] = false := by
        cases hc : chB s[i] with
        | false => rfl
        | true => exact absurd (fun c hc' => by rw [List.getElem?_eq_getElem hi] at hc'; injection hc' with e; rw [← e]; exact hc) h
      rw [this]; rfl) he (s.length + 1) 0 (by omega) (by omega)
  exact ⟨fun k => h.1 fun j _ hj => k j hj, fun k => h.2 fun k' => k fun j hj => k' j (by omega) hj⟩
theorem n_tree_Name (s : List UInt8) (hl : s.length ≤ 9223372036854775807) : TellsP (m_tree_Name s) (NameP s) := by
  unfold m_tree_Name
  have h := name_core (s := s) (m_tree_Name_l2 s) (m_tree_Name_j1 s) (fun n i hi => by
    rw [m_tree_Name_l2]
    rw [bif_pos (dec_t (by omega)), idx_nat hi, Option.bind_some, wi_succ (by omega)]
    rw [dlt s[i].toNat 97 97 rfl, dlt s[i].toNat 48 48 rfl, dgt s[i].toNat 57 57 rfl, dgt s[i].toNat 122 122 rfl]
    unfold chB
    cases decide (97 ≤ s[i].toNat) <;> cases decide (s[i].toNat ≤ 122) <;> cases decide (48 ≤ s[i].toNat) <;> cases decide (s[i].toNat ≤ 57) <;> rfl) (fun n => by
    rw [m_tree_Name_l2]
    rw [bif_neg (dec_f (by omega))])
  by_cases hc : ∀ j, j < s.length → ∀ c, s[j]? = some c → chB c = true
  · rw [h.1 hc]
    unfold m_tree_Name_j1
    rw [dge s.length 1 1 rfl, dle s.length 12 12 rfl]
    refine ⟨decide (1 ≤ s.length) && decide (s.length ≤ 12), bif_and, ?_⟩
    simp [NameP]
    exact fun _ _ j hj => hc j hj
  · rw [h.2 hc]
    exact ⟨false, rfl, ⟨fun h => Bool.noConfusion h, fun h => absurd h.1 hc⟩⟩
theorem n_R25_Name (s : List UInt8) (hl : s.length ≤ 9223372036854775807) : TellsP (m_R25_Name s) (NameP s) := by
  unfold m_R25_Name
  rw [dlt s.length 1 1 rfl, dgt s.length 12 12 rfl]
  by_cases h1 : 1 ≤ s.length
  · by_cases h2 : s.length ≤ 12
    · rw [dec_t h1, dec_t h2]
      show TellsP (m_R25_Name_l1 s (s.length + 1) 0) (NameP s)
      have h := name_core (s := s) (m_R25_Name_l1 s) (some true) (fun n i hi => by
        rw [m_R25_Name_l1]
        rw [bif_pos (dec_t (by omega))]
        unfold m_R25_Name_j3 m_R25_Name_j4 m_R25_Name_j2
        simp only [idx_nat hi, Option.bind_some]
        rw [wi_succ (by omega)]
        rw [dge s[i].toNat 97 97 rfl, dle s[i].toNat 122 122 rfl, dge s[i].toNat 48 48 rfl, dle s[i].toNat 57 57 rfl]
        unfold chB
        cases decide (97 ≤ s[i].toNat) <;> cases decide (s[i].toNat ≤ 122) <;> cases decide (48 ≤ s[i].toNat) <;> cases decide (s[i].toNat ≤ 57) <;> rfl) (fun n => by
        rw [m_R25_Name_l1]
        rw [bif_neg (dec_f (by omega))])
      by_cases hc : ∀ j, j < s.length → ∀ c, s[j]? = some c → chB c = true
      · rw [h.1 hc]
        exact ⟨true, rfl, ⟨fun _ => ⟨hc, h1, h2⟩, fun _ => rfl⟩⟩
      · rw [h.2 hc]
        exact ⟨false, rfl, ⟨fun h => Bool.noConfusion h, fun h => absurd h.1 hc⟩⟩
    · rw [dec_t h1, dec_f h2]
      exact ⟨false, rfl, ⟨fun h => Bool.noConfusion h, fun h => absurd h.2.2 h2⟩⟩
  · rw [dec_f h1]
    exact ⟨false, rfl, ⟨fun h => Bool.noConfusion h, fun h => absurd h.2.1 h1⟩⟩

/-! ### Roles -/
theorem sLt_trans : ∀ (a b c : List UInt8), sLt a b = true → sLt b c = true → sLt a c = true
  | _, [], _, h, _ => by simp [sLt, Op.bytesLess] at h
  | _, _ :: _, [], _, h => by simp [sLt, Op.bytesLess] at h
  | [], _ :: _, _ :: _, _, _ => by simp [sLt, Op.bytesLess]
  | x :: a, y :: b, z :: c, h1, h2 => by
    simp only [sLt, Op.bytesLess, Bool.or_eq_true, decide_eq_true_eq, Bool.and_eq_true, beq_iff_eq] at h1 h2 ⊢
    rcases h1 with h1 | ⟨e1, h1⟩
    · rcases h2 with h2 | ⟨e2, h2⟩
      · exact .inl (by rw [UInt8.lt_iff_toNat_lt] at *; omega)
      · subst e2; exact .inl h1
    · subst e1
      rcases h2 with h2 | ⟨e2, h2⟩
      · exact .inl h2
      · exact .inr ⟨e2, sLt_trans a b c h1 h2⟩
def MemP (l : List S_api_Member) (i : Nat) : Prop := ∀ x, l[i]? = some x → NameP x.Name ∧ 1 ≤ x.Role ∧ x.Role ≤ 4
def RightP (l : List S_api_Member) : Prop := (∀ i, i < l.length → MemP l i ∧ ∀ x y k, l[i]? = some x → k < i → l[k]? = some y → sLt y.Name x.Name = true) ∧ l.length ≤ 8 ∧ ∃ x ∈ l, x.Role = 4
def LenP (l : List S_api_Member) : Prop := l.length ≤ 9223372036854775807 ∧ ∀ x ∈ l, x.Name.length ≤ 9223372036854775807
theorem n_role_With_l1 (l : List S_api_Member) (hl : l.length ≤ 8) : ∀ (n i : Nat) (out : List (List UInt8)), i ≤ l.length → l.length - i < n → out.length ≤ i → m_role_With_l1 l 4 n out (i : Int) = some (out ++ ((l.drop i).filter (fun x => decide (x.Role ≥ 4))).map (·.Name))
  | 0, i, out, _, h, _ => by omega
  | n + 1, i, out, hi, h, ho => by
    rw [m_role_With_l1]
    by_cases hlt : i < l.length
    · rw [bif_pos (dec_t (by omega)), idx_nat hlt, Option.bind_some, wi_succ (by omega), List.drop_eq_getElem_cons hlt]
      by_cases hr : l[i].Role ≥ 4
      · rw [bif_pos (dec_t hr), appI_ok (by simp; omega), Option.bind_some, n_role_With_l1 l hl n (i + 1) _ (by omega) (by omega) (by simp; omega), List.filter_cons_of_pos (by simpa using hr)]
        simp
      · rw [bif_neg (dec_f hr), n_role_With_l1 l hl n (i + 1) _ (by omega) (by omega) (by omega), List.filter_cons_of_neg (by simpa using hr)]
    · rw [bif_neg (dec_f (by omega)), List.drop_eq_nil_of_le (by omega)]
      simp
theorem n_role_owners (l : List S_api_Member) (hl : l.length ≤ 8) : m_role_owners l = some (((l.filter (fun x => decide (x.Role ≥ 4))).length : Nat) : Int) := by
  unfold m_role_owners m_role_With
  have h := n_role_With_l1 l hl (l.length + 1) 0 [] (by omega) (by omega) (by simp)
  have e : m_role_With_l1 l 4 (l.length + 1) [] 0 = m_role_With_l1 l 4 (l.length + 1) [] ((0 : Nat) : Int) := rfl
  rw [e, h]
  simp
theorem pos_filter (l : List S_api_Member) (p : S_api_Member → Bool) : 0 < (l.filter p).length ↔ ∃ x ∈ l, p x = true := by
  rw [List.length_pos_iff_exists_mem]
  simp [List.mem_filter]
theorem n_role_Right (l : List S_api_Member) (hl : LenP l) : TellsP (m_role_Right l) (RightP l) := by
  unfold m_role_Right
  have h := loop_then (len := l.length) (m_role_Right_l2 l) (fun i => MemP l i ∧ ∀ x y, l[i]? = some x → 0 < i → l[i - 1]? = some y → sLt y.Name x.Name = true) (m_role_Right_j1 l) (some false) (fun n i hi => by
    rw [m_role_Right_l2]
    obtain ⟨b, hb, hbi⟩ := n_tree_Name l[i].Name (hl.2 _ (List.getElem_mem hi))
    have hg : ∀ x, l[i]? = some x → x = l[i] := fun x hx => by rw [List.getElem?_eq_getElem hi] at hx; injection hx with e; exact e.symm
    have hlm : l.length ≤ 9223372036854775807 := hl.1
    rw [bif_pos (dec_t (by omega)), idx_nat hi, Option.bind_some, hb, Option.bind_some, wi_succ (by omega)]
    cases b with
    | false =>
      refine ⟨fun h => ?_, fun _ => rfl⟩
      have := hbi.2 (h.1 _ (List.getElem?_eq_getElem hi)).1
      cases this
    | true =>
      rw [bif_neg (c := !true) rfl]
      unfold m_role_is
      by_cases r1 : l[i].Role ≥ 1
      · rw [bif_pos (dec_t r1), Option.bind_some]
        by_cases r4 : l[i].Role ≤ 4
        · rw [dec_t r4, bif_neg (c := !true) rfl]
          by_cases h0 : 0 < i
          · have hi1 : i - 1 < l.length := by omega
            rw [bif_pos (dec_t (by omega)), wi_id (z := (i : Int) - 1) (by omega) (by omega), show (i : Int) - 1 = ((i - 1 : Nat) : Int) by omega, idx_nat hi1, Option.bind_some]
            cases hs : sLt l[i - 1].Name l[i].Name with
            | true =>
              refine ⟨fun _ => rfl, fun h => absurd ⟨fun x hx => ?_, fun x y hx _ hy => ?_⟩ h⟩
              · rw [hg x hx]; exact ⟨hbi.1 rfl, r1, r4⟩
              · rw [hg x hx]
                rw [List.getElem?_eq_getElem hi1] at hy
                injection hy with hy
                rw [← hy]
                exact hs
            | false =>
              refine ⟨fun h => ?_, fun _ => rfl⟩
              have := h.2 _ _ (List.getElem?_eq_getElem hi) h0 (List.getElem?_eq_getElem hi1)
              rw [hs] at this
              cases this
          · rw [bif_neg (dec_f (by omega))]
            refine ⟨fun _ => rfl, fun h => absurd ⟨fun x hx => ?_, fun x y hx h' _ => absurd h' h0⟩ h⟩
            rw [hg x hx]; exact ⟨hbi.1 rfl, r1, r4⟩
        · rw [dec_f r4, bif_pos (c := !false) rfl]
          exact ⟨fun h => absurd (h.1 _ (List.getElem?_eq_getElem hi)).2.2 r4, fun _ => rfl⟩
      · rw [bif_neg (dec_f r1), Option.bind_some, bif_pos (c := !false) rfl]
        exact ⟨fun h => absurd (h.1 _ (List.getElem?_eq_getElem hi)).2.1 r1, fun _ => rfl⟩) (fun n => by
    rw [m_role_Right_l2]
    rw [bif_neg (dec_f (by omega))]) (l.length + 1) 0 (by omega) (by omega)
  have e : m_role_Right_l2 l (l.length + 1) 0 = m_role_Right_l2 l (l.length + 1) ((0 : Nat) : Int) := rfl
  rw [e]
  by_cases hc : ∀ j, 0 ≤ j → j < l.length → MemP l j ∧ ∀ x y, l[j]? = some x → 0 < j → l[j - 1]? = some y → sLt y.Name x.Name = true
  · rw [h.1 hc]
    unfold m_role_Right_j1
    rw [dle l.length 8 8 rfl]
    have hall : ∀ i, i < l.length → MemP l i ∧ ∀ x y k, l[i]? = some x → k < i → l[k]? = some y → sLt y.Name x.Name = true := by
      intro i
      induction i with
      | zero => intro hi; exact ⟨(hc 0 (by omega) hi).1, fun x y k _ hk _ => by omega⟩
      | succ i ih =>
        intro hi
        have ih := ih (by omega)
        refine ⟨(hc (i + 1) (by omega) hi).1, fun x y k hx hk hy => ?_⟩
        have hl' : l[i]? = some l[i] := List.getElem?_eq_getElem (by omega)
        have hs := (hc (i + 1) (by omega) hi).2 x l[i] hx (by omega) hl'
        by_cases e : k = i
        · subst e
          rw [hl'] at hy
          injection hy with hy
          rw [← hy]
          exact hs
        · exact sLt_trans _ _ _ (ih.2 _ y k hl' (by omega) hy) hs
    by_cases h8 : l.length ≤ 8
    · rw [dec_t h8, n_role_owners l h8]
      refine ⟨decide ((((l.filter (fun x => decide (x.Role ≥ 4))).length : Nat) : Int) > 0), rfl, ?_⟩
      rw [decide_eq_true_eq]
      have := pos_filter l (fun x => decide (x.Role ≥ 4))
      rw [show ((((l.filter (fun x => decide (x.Role ≥ 4))).length : Nat) : Int) > 0) ↔ 0 < (l.filter (fun x => decide (x.Role ≥ 4))).length by omega, this]
      constructor
      · rintro ⟨x, hx, h4⟩
        obtain ⟨i, hi, e⟩ := List.getElem_of_mem hx
        have := ((hall i hi).1 x (by rw [List.getElem?_eq_getElem hi, e])).2.2
        exact ⟨hall, h8, x, hx, by have h4 := of_decide_eq_true h4; omega⟩
      · rintro ⟨_, _, x, hx, h4⟩
        exact ⟨x, hx, by simp; omega⟩
    · rw [dec_f h8]
      exact ⟨false, rfl, ⟨fun h => Bool.noConfusion h, fun h => absurd h.2.1 h8⟩⟩
  · rw [h.2 hc]
    refine ⟨false, rfl, ⟨fun h => Bool.noConfusion h, fun h => absurd (fun j _ hj => ⟨(h.1 j hj).1, fun x y hx h0 hy => (h.1 j hj).2 x y (j - 1) hx (by omega) hy⟩) hc⟩⟩
theorem n_R27_Owners_l1 (l : List S_api_Member) (hl : l.length ≤ 8) : ∀ (n i k : Nat), i ≤ l.length → l.length - i < n → k ≤ i → m_R27_Owners_l1 l n (k : Int) (i : Int) = some ((k + ((l.drop i).filter (fun x => x.Role == 4)).length : Nat) : Int)
  | 0, i, k, _, h, _ => by omega
  | n + 1, i, k, hi, h, hk => by
    rw [m_R27_Owners_l1]
    by_cases hlt : i < l.length
    · unfold m_R27_Owners_j2
      rw [bif_pos (dec_t (by omega)), idx_nat hlt, Option.bind_some, wi_succ (by omega), wi_succ (by omega), List.drop_eq_getElem_cons hlt]
      cases hr : l[i].Role == 4 with
      | true =>
        rw [List.filter_cons_of_pos (p := fun x : S_api_Member => x.Role == 4) hr]
        show m_R27_Owners_l1 l n ((k + 1 : Nat) : Int) _ = _
        rw [n_R27_Owners_l1 l hl n (i + 1) (k + 1) (by omega) (by omega) (by omega), List.length_cons]
        congr 2
        omega
      | false =>
        rw [List.filter_cons_of_neg (p := fun x : S_api_Member => x.Role == 4) (by simpa using hr)]
        exact n_R27_Owners_l1 l hl n (i + 1) k (by omega) (by omega) (by omega)
    · rw [bif_neg (dec_f (by omega)), List.drop_eq_nil_of_le (by omega)]
      simp
theorem n_R27_Right (l : List S_api_Member) (hl : LenP l) : TellsP (m_R27_Right l) (RightP l) := by
  unfold m_R27_Right
  rw [dgt l.length 8 8 rfl]
  by_cases h8 : l.length ≤ 8
  case neg =>
    rw [dec_f h8]
    exact ⟨false, rfl, ⟨fun h => Bool.noConfusion h, fun h => absurd h.2.1 h8⟩⟩
  rw [dec_t h8]
  have ho : m_R27_Owners l = some (((l.filter (fun x => x.Role == 4)).length : Nat) : Int) := by
    have := n_R27_Owners_l1 l h8 (l.length + 1) 0 0 (by omega) (by omega) (by omega)
    rw [Nat.zero_add] at this
    exact this
  rw [bif_neg (c := !true) rfl, ho, Option.bind_some]
  have hpos := pos_filter l (fun x => x.Role == 4)
  by_cases h0 : 0 < (l.filter (fun x => x.Role == 4)).length
  case neg =>
    rw [bif_pos (ieq_t (by omega))]
    refine ⟨false, rfl, ⟨fun h => Bool.noConfusion h, fun h => ?_⟩⟩
    obtain ⟨x, hx, h4⟩ := h.2.2
    exact absurd (hpos.2 ⟨x, hx, by simp [h4]⟩) h0
  rw [bif_neg (ieq_f (by omega))]
  have hown : ∃ x ∈ l, x.Role = 4 := by
    obtain ⟨x, hx, h4⟩ := hpos.1 h0
    exact ⟨x, hx, by simpa using h4⟩
  have h := loop_then (len := l.length) (m_R27_Right_l1 l) (fun i => MemP l i ∧ ∀ x y k, l[i]? = some x → k < i → l[k]? = some y → sLt y.Name x.Name = true) (some true) (some false) (fun n i hi => by
    rw [m_R27_Right_l1]
    obtain ⟨b, hb, hbi⟩ := n_R25_Name l[i].Name (hl.2 _ (List.getElem_mem hi))
    have hg : ∀ x, l[i]? = some x → x = l[i] := fun x hx => by rw [List.getElem?_eq_getElem hi] at hx; injection hx with e; exact e.symm
    have hgi := List.getElem?_eq_getElem hi
    rw [bif_pos (dec_t (by omega)), idx_nat hi, Option.bind_some, hb, Option.bind_some, Option.bind_some]
    cases b with
    | false =>
      refine ⟨fun h => ?_, fun _ => rfl⟩
      have := hbi.2 (h.1 _ hgi).1
      cases this
    | true =>
      rw [bif_neg (c := !true) rfl]
      by_cases r1 : l[i].Role < 1
      · rw [bif_pos (dec_t r1)]
        exact ⟨fun h => absurd (h.1 _ hgi).2.1 (by omega), fun _ => rfl⟩
      · rw [bif_neg (dec_f r1), Option.bind_some]
        by_cases r4 : l[i].Role > 4
        · rw [bif_pos (dec_t r4)]
          exact ⟨fun h => absurd (h.1 _ hgi).2.2 (by omega), fun _ => rfl⟩
        · rw [bif_neg (dec_f r4), Int.toNat_natCast]
          have hin := loop_then (len := i) (m_R27_Right_l3 (m_R27_Right_l1 l n) (i : Int) l l[i] l[i]) (fun k => ∀ y, l[k]? = some y → sLt y.Name l[i].Name = true) (m_R27_Right_l1 l n ((i + 1 : Nat) : Int)) (some false) (fun n' k hk => by
            rw [m_R27_Right_l3]
            have hk' : k < l.length := by omega
            rw [bif_pos (dec_t (by omega)), idx_nat hk', Option.bind_some, idx_nat hi, Option.bind_some, wi_succ (by omega)]
            cases hs : sLt l[k].Name l[i].Name with
            | true =>
              refine ⟨fun _ => rfl, fun h => absurd (fun y hy => ?_) h⟩
              rw [List.getElem?_eq_getElem hk'] at hy
              injection hy with hy
              rw [← hy]; exact hs
            | false =>
              refine ⟨fun h => ?_, fun _ => rfl⟩
              have := h _ (List.getElem?_eq_getElem hk')
              rw [hs] at this; cases this) (fun n' => by
            rw [m_R27_Right_l3]
            rw [bif_neg (dec_f (by omega))]
            unfold m_R27_Right_j2
            rw [wi_succ (by omega)]) (i + 1) 0 (by omega) (by omega)
          refine ⟨fun h => hin.1 fun k _ hk y hy => h.2 _ y k hgi hk hy, fun h => hin.2 fun hk => h ⟨fun x hx => ?_, fun x y k hx hk' hy => ?_⟩⟩
          · rw [hg x hx]; exact ⟨hbi.1 rfl, by omega, by omega⟩
          · rw [hg x hx]; exact hk k (by omega) hk' y hy) (fun n => by
    rw [m_R27_Right_l1]
    rw [bif_neg (dec_f (by omega))]) (l.length + 1) 0 (by omega) (by omega)
  have e : m_R27_Right_l1 l (l.length + 1) 0 = m_R27_Right_l1 l (l.length + 1) ((0 : Nat) : Int) := rfl
  rw [e]
  by_cases hc : ∀ j, 0 ≤ j → j < l.length → MemP l j ∧ ∀ x y k, l[j]? = some x → k < j → l[k]? = some y → sLt y.Name x.Name = true
  · rw [h.1 hc]
    exact ⟨true, rfl, ⟨fun _ => ⟨fun i hi => hc i (by omega) hi, h8, hown⟩, fun _ => rfl⟩⟩
  · rw [h.2 hc]
    exact ⟨false, rfl, ⟨fun h => Bool.noConfusion h, fun h => absurd (fun j _ hj => h.1 j hj) hc⟩⟩

/-! ### What a manifest may be -/
structure MFit (m : S_api_Manifest) : Prop where
  folder : m.Folder.length ≤ 9223372036854775807
  prev : m.Prev.length ≤ 9223372036854775807
  parent : m.Parent.length ≤ 9223372036854775807
  members : LenP m.Members
  by_ : m.By.length ≤ 9223372036854775807
def MayP (m : S_api_Manifest) : Prop := NameP m.Folder ∧ NameP m.By ∧ 1 ≤ m.Seq ∧ m.Seq ≤ 1099511627776 ∧ (m.Seq = 1 ↔ m.Prev.length = 0) ∧ m.Prev.length ≤ 64 ∧ (m.Parent ≠ [] → NameP m.Parent) ∧ m.Parent ≠ m.Folder ∧ RightP m.Members ∧ 0 ≤ m.Cut ∧ m.Cut ≤ m.Seq
theorem n_manifest_may (m : S_api_Manifest) (hf : MFit m) : TellsP (m_manifest_may m) (MayP m) := by
  obtain ⟨a, ha, hA⟩ := n_tree_Name m.Folder hf.folder
  obtain ⟨c, hc, hC⟩ := n_tree_Name m.By hf.by_
  obtain ⟨p, hp, hP⟩ := n_tree_Name m.Parent hf.parent
  obtain ⟨d, hd, hD⟩ := n_role_Right m.Members hf.members
  have h : m_manifest_may m = some (a && (c && (!decide (m.Seq < 1) && (!decide (m.Seq > 1099511627776) && (((m.Seq == 1) == ((m.Prev.length : Int) == 0)) && (!decide ((m.Prev.length : Int) > 64) && (((m.Parent == []) || p) && (!(m.Parent == m.Folder) && (d && (decide (m.Cut ≥ 0) && decide (m.Cut ≤ m.Seq))))))))))) := by
    unfold m_manifest_may m_manifest_may_j2 m_manifest_may_j3 m_manifest_may_j1
    rw [ha, hc, hp, hd]
    simp only [Option.bind_some]
    generalize decide (m.Seq < 1) = x1
    generalize decide (m.Seq > 1099511627776) = x2
    generalize ((m.Seq == 1) == ((m.Prev.length : Int) == 0)) = x3
    generalize decide ((m.Prev.length : Int) > 64) = x4
    generalize (m.Parent == []) = x5
    generalize (m.Parent == m.Folder) = x6
    generalize decide (m.Cut ≥ 0) = x7
    generalize decide (m.Cut ≤ m.Seq) = x8
    cases a <;> cases c <;> try rfl
    cases x1 <;> cases x2 <;> try rfl
    cases x3 <;> cases x4 <;> try rfl
    cases x5 <;> cases p <;> cases x6 <;> try rfl
    all_goals cases d <;> cases x7 <;> cases x8 <;> rfl
  refine ⟨_, h, ?_⟩
  simp only [Bool.and_eq_true, Bool.not_eq_true', Bool.or_eq_true, decide_eq_true_eq, decide_eq_false_iff_not, beq_iff_eq, beq_eq_false_iff_ne, hA, hC, hP, hD, MayP]
  have e3 : ((m.Seq == 1) = ((m.Prev.length : Int) == 0)) ↔ (m.Seq = 1 ↔ m.Prev.length = 0) := by
    rw [Bool.eq_iff_iff]; simp
  rw [e3]
  constructor
  · rintro ⟨h1, h2, h3, h4, h5, h6, h7, h8, h9, h10, h11⟩
    exact ⟨h1, h2, by omega, by omega, h5, by omega, fun e => h7.resolve_left e, h8, h9, h10, h11⟩
  · rintro ⟨h1, h2, h3, h4, h5, h6, h7, h8, h9, h10, h11⟩
    refine ⟨h1, h2, by omega, by omega, h5, by omega, ?_, h8, h9, h10, h11⟩
    by_cases e : m.Parent = []
    · exact .inl e
    · exact .inr (h7 e)
theorem n_R28_May (m : S_api_Manifest) (hf : MFit m) : TellsP (m_R28_May m) (MayP m) := by
  obtain ⟨a, ha, hA⟩ := n_R25_Name m.Folder hf.folder
  obtain ⟨c, hc, hC⟩ := n_R25_Name m.By hf.by_
  obtain ⟨p, hp, hP⟩ := n_R25_Name m.Parent hf.parent
  obtain ⟨d, hd, hD⟩ := n_R27_Right m.Members hf.members
  have h : m_R28_May m = some (a && (c && (d && (!decide (m.Seq < 1) && (!decide (m.Seq > 1099511627776) && (!decide (m.Cut < 0) && (!decide (m.Cut > m.Seq) && (!((m.Seq == 1) && decide ((m.Prev.length : Int) > 0)) && (!(decide (m.Seq > 1) && (((m.Prev.length : Int) == 0) || decide ((m.Prev.length : Int) > 64))) && ((m.Parent == []) || (p && !(m.Parent == m.Folder)))))))))))) := by
    unfold m_R28_May m_R28_May_j1
    rw [ha, hc, hp, hd]
    simp only [Option.bind_some]
    generalize decide (m.Seq < 1) = x1
    generalize decide (m.Seq > 1099511627776) = x2
    generalize decide (m.Cut < 0) = x3
    generalize decide (m.Cut > m.Seq) = x4
    generalize (m.Seq == 1) = x5
    generalize decide ((m.Prev.length : Int) > 0) = x6
    generalize decide (m.Seq > 1) = x7
    generalize ((m.Prev.length : Int) == 0) = x8
    generalize decide ((m.Prev.length : Int) > 64) = x9
    generalize (m.Parent == []) = x10
    generalize (m.Parent == m.Folder) = x11
    cases a <;> cases c <;> cases d <;> try rfl
    cases x1 <;> cases x2 <;> try rfl
    cases x3 <;> cases x4 <;> try rfl
    all_goals cases x5 <;> cases x6 <;> cases x7 <;> cases x8 <;> cases x9 <;> try rfl
    all_goals cases x10 <;> cases p <;> cases x11 <;> rfl
  refine ⟨_, h, ?_⟩
  simp only [Bool.and_eq_true, Bool.not_eq_true', Bool.or_eq_true, decide_eq_true_eq, decide_eq_false_iff_not, beq_iff_eq, beq_eq_false_iff_ne, Bool.and_eq_false_iff, Bool.or_eq_false_iff, hA, hC, hP, hD, MayP, ne_eq]
  constructor
  · rintro ⟨h1, h2, h3, h4, h5, h6, h7, h8, h9, h10⟩
    refine ⟨h1, h2, by omega, by omega, by omega, by omega, fun e => (h10.resolve_left e).1, fun e => ?_, h3, by omega, by omega⟩
    rcases h10 with h | h
    · have := h1.2.1
      rw [← e, h] at this
      simp at this
    · exact h.2 e
  · rintro ⟨h1, h2, h3, h4, h5, h6, h7, h8, h9, h10, h11⟩
    refine ⟨h1, h2, h9, by omega, by omega, by omega, by omega, by omega, by omega, ?_⟩
    by_cases e : m.Parent = []
    · exact .inl e
    · exact .inr ⟨h7 e, h8⟩
end Go.Proofs.Ytimdogdplphmoac
