/-
  Texts joined: see the remark at the head of each part.
-/
import Derived.Test.YtikaahmonocahaaQ18
import Derived.Test.YtikaahmonocahaaQ11
import Derived.Test.YtikaahmonocahaaQ20
/-
  Names: the models, plain.
-/
namespace Go.Proofs.Ytikaahmonocahaa
open Go Go.RowKit
set_option linter.unusedVariables false
set_option linter.unusedSimpArgs false
set_option maxRecDepth 20000

/-! ### Names -/
def chB (c : UInt8) : Bool := (decide (97 ≤ c.toNat) && decide (c.toNat ≤ 122)) || (decide (48 ≤ c.toNat) && decide (c.toNat ≤ 57))
def NameP (s : List UInt8) : Prop := (∀ j, j < s.length → ∀ c, s[j]? = some c → chB c = true) ∧ 1 ≤ s.length ∧ s.length ≤ 12
theorem name_core {s : List UInt8} (F : Nat → Int → Option Bool) (K : Option Bool) (hs : ∀ n i (h : i < s.length), F (n + 1) (i : Int) = bif chB s[i] then F n ((i + 1 : Nat) : Int) else some false) (he : ∀ n, F (n + 1) (s.length : Int) = K) :
    ((∀ j, j < s.length → ∀ c, s[j]? = some c → chB c = true) → F (s.length + 1) 0 = K) ∧ (¬ (∀ j, j < s.length → ∀ c, s[j]? = some c → chB c = true) → F (s.length + 1) 0 = some false) := by
  have h := loop_then (len := s.length) F (fun j => ∀ c, s[j]? = some c → chB c = true) K (some false) (fun n i hi => by
    rw [hs n i hi]
    refine ⟨fun h => ?_, fun h => ?_⟩
    · rw [h _ (List.getElem?_eq_getElem hi)]; rfl
    · have : chB s[i] = false := by
        cases hc : chB s[i] with
        | false => rfl
        | true => exact absurd (fun c hc' => by rw [List.getElem?_eq_getElem hi] at hc'; injection hc' with e; rw [← e]; exact hc) h
      rw [this]; rfl) he (s.length + 1) 0 (by omega) (by omega)
  exact ⟨fun k => h.1 fun j _ hj => k j hj, fun k => h.2 fun k' => k fun j hj => k' j (by omega) hj⟩
theorem n_tree_Name (s : List UInt8) (hl : s.length ≤ 9223372036854775807) : TellsP (m_tree_Name s) (NameP s) := by
  unfold m_tree_Name
  have h := name_core (s := s) (m_tree_Name_l2 s) (m_tree_Name_j1 s) (fun n i hi => by
    rw [m_tree_Name_l2]
    rw [bif_pos (dec_t (by omega)), idx_nat hi, Option.bind_some, wi_succ (by omega)]
    rw [dlt s[i].toNat 97 97 rfl, dlt s[i].toNat 48 48 rfl, dgt s[i].toNat 57 57 rfl, dgt s[i].toNat 122 122 rfl]
    unfold chB
    cases decide (97 ≤ s[i].toNat) <;> cases decide (s[i].toNat ≤ 122) <;> cases decide (48 ≤ s[i].toNat) <;> cases decide (s[i].toNat ≤ 57) <;> rfl) (fun n => by
    rw [m_tree_Name_l2]
    rw [bif_neg (dec_f (by omega))])
  by_cases hc : ∀ j, j < s.length → ∀ c, s[j]? = some c → chB c = true
  · rw [h.1 hc]
    unfold m_tree_Name_j1
    rw [dge s.length 1 1 rfl, dle s.length 12 12 rfl]
    refine ⟨decide (1 ≤ s.length) && decide (s.length ≤ 12), bif_and, ?_⟩
    simp [NameP]
    exact fun _ _ j hj => hc j hj
  · rw [h.2 hc]
    exact ⟨false, rfl, ⟨fun h => Bool.noConfusion h, fun h => absurd h.1 hc⟩⟩
theorem n_R25_Name (s : List UInt8) (hl : s.length ≤ 9223372036854775807) : TellsP (m_R25_Name s) (NameP s) := by
  unfold m_R25_Name
  rw [dlt s.length 1 1 rfl, dgt s.length 12 12 rfl]
  by_cases h1 : 1 ≤ s.length
  · by_cases h2 : s.length ≤ 12
    · rw [dec_t h1, dec_t h2]
      show TellsP (m_R25_Name_l1 s (s.length + 1) 0) (NameP s)
      have h := name_core (s := s) (m_R25_Name_l1 s) (some true) (fun n i hi => by
        rw [m_R25_Name_l1]
        rw [bif_pos (dec_t (by omega))]
        unfold m_R25_Name_j3 m_R25_Name_j4 m_R25_Name_j2
        simp only [idx_nat hi, Option.bind_some]
        rw [wi_succ (by omega)]
        rw [dge s[i].toNat 97 97 rfl, dle s[i].toNat 122 122 rfl, dge s[i].toNat 48 48 rfl, dle s[i].toNat 57 57 rfl]
        unfold chB
        cases decide (97 ≤ s[i].toNat) <;> cases decide (s[i].toNat ≤ 122) <;> cases decide (48 ≤ s[i].toNat) <;> cases decide (s[i].toNat ≤ 57) <;> rfl) (fun n => by
        rw [m_R25_Name_l1]
        rw [bif_neg (dec_f (by omega))])
      by_cases hc : ∀ j, j < s.length → ∀ c, s[j]? = some c → chB c = true
      · rw [h.1 hc]
        exact ⟨true, rfl, ⟨fun _ => ⟨hc, h1, h2⟩, fun _ => rfl⟩⟩
      · rw [h.2 hc]
        exact ⟨false, rfl, ⟨fun h => Bool.noConfusion h, fun h => absurd h.1 hc⟩⟩
    · rw [dec_t h1, dec_f h2]
      exact ⟨false, rfl, ⟨fun h => Bool.noConfusion h, fun h => absurd h.2.2 h2⟩⟩
  · rw [dec_f h1]
    exact ⟨false, rfl, ⟨fun h => Bool.noConfusion h, fun h => absurd h.2.1 h1⟩⟩

end Go.Proofs.Ytikaahmonocahaa

/-
  What R01.Same computes, plain.
-/
namespace Go.Proofs.Ytikaahmonocahaa
open Go Go.RowKit
set_option linter.unusedVariables false
set_option linter.unusedSimpArgs false

/-! ### Same of bytes -/
theorem n_R01_Same_l1 (a b : List UInt8) (hl : a.length = b.length) (hb : a.length < 4611686018427387904) : ∀ (n i : Nat), i ≤ a.length → a.length - i < n → m_R01_Same_l1 a b n (i : Int) = some (a.drop i == b.drop i)
  | 0, i, _, h => by omega
  | n + 1, i, hi, h => by
    unfold m_R01_Same_l1
    by_cases hlt : i < a.length
    · have hlb : i < b.length := by omega
      rw [bif_pos (dec_t (by omega)), idx_nat hlt, Option.bind_some, idx_nat hlb, Option.bind_some, wi_succ (by omega), n_R01_Same_l1 a b hl hb n (i + 1) (by omega) (by omega)]
      have ha : a.drop i = a[i] :: a.drop (i + 1) := List.drop_eq_getElem_cons hlt
      have hb : b.drop i = b[i] :: b.drop (i + 1) := List.drop_eq_getElem_cons hlb
      rw [ha, hb]
      generalize a[i] = x
      generalize b[i] = y
      by_cases he : x = y
      · subst he
        rw [bif_neg (ine_f rfl)]
        simp
      · rw [bif_pos (ine_t (fun h => he (UInt8.toNat_inj.1 (by omega))))]
        simp [he]
    · rw [bif_neg (dec_f (by omega)), List.drop_eq_nil_of_le (by omega), List.drop_eq_nil_of_le (by omega)]
      rfl
theorem n_R01_Same (a b : List UInt8) (hb : a.length < 4611686018427387904) : m_R01_Same a b = some (a == b) := by
  unfold m_R01_Same
  by_cases hl : a.length = b.length
  · rw [bif_neg (ine_f (by omega))]
    exact n_R01_Same_l1 a b hl hb _ 0 (Nat.zero_le _) (by omega)
  · rw [bif_pos (ine_t (by omega))]
    congr 1
    symm
    rw [beq_eq_false_iff_ne]
    exact fun e => hl (by rw [e])

end Go.Proofs.Ytikaahmonocahaa

/-
  Names, roles, what a manifest may be: the models, plain.
-/
namespace Go.Proofs.Ytikaahmonocahaa
open Go Go.RowKit
set_option linter.unusedVariables false
set_option linter.unusedSimpArgs false

/-! ### Roles -/
theorem sLt_trans : ∀ (a b c : List UInt8), sLt a b = true → sLt b c = true → sLt a c = true
  | _, [], _, h, _ => by simp [sLt, Op.bytesLess] at h
  | _, _ :: _, [], _, h => by simp [sLt, Op.bytesLess] at h
  | [], _ :: _, _ :: _, _, _ => by simp [sLt, Op.bytesLess]
  | x :: a, y :: b, z :: c, h1, h2 => by
    simp only [sLt, Op.bytesLess, Bool.or_eq_true, decide_eq_true_eq, Bool.and_eq_true, beq_iff_eq] at h1 h2 ⊢
    rcases h1 with h1 | ⟨e1, h1⟩
    · rcases h2 with h2 | ⟨e2, h2⟩
      · exact .inl (by rw [UInt8.lt_iff_toNat_lt] at *; omega)
      · subst e2; exact .inl h1
    · subst e1
      rcases h2 with h2 | ⟨e2, h2⟩
      · exact .inl h2
      · exact .inr ⟨e2, sLt_trans a b c h1 h2⟩
def MemP (l : List S_api_Member) (i : Nat) : Prop := ∀ x, l[i]? = some x → NameP x.Name ∧ 1 ≤ x.Role ∧ x.Role ≤ 4
def RightP (l : List S_api_Member) : Prop := (∀ i, i < l.length → MemP l i ∧ ∀ x y k, l[i]? = some x → k < i → l[k]? = some y → sLt y.Name x.Name = true) ∧ l.length ≤ 8 ∧ ∃ x ∈ l, x.Role = 4
def LenP (l : List S_api_Member) : Prop := l.length ≤ 9223372036854775807 ∧ ∀ x ∈ l, x.Name.length ≤ 9223372036854775807
theorem n_role_With_l1 (l : List S_api_Member) (hl : l.length ≤ 8) : ∀ (n i : Nat) (out : List (List UInt8)), i ≤ l.length → l.length - i < n → out.length ≤ i → m_role_With_l1 l 4 n out (i : Int) = some (out ++ ((l.drop i).filter (fun x => decide (x.Role ≥ 4))).map (·.Name))
  | 0, i, out, _, h, _ => by omega
  | n + 1, i, out, hi, h, ho => by
    rw [m_role_With_l1]
    by_cases hlt : i < l.length
    · rw [bif_pos (dec_t (by omega)), idx_nat hlt, Option.bind_some, wi_succ (by omega), List.drop_eq_getElem_cons hlt]
      by_cases hr : l[i].Role ≥ 4
      · rw [bif_pos (dec_t hr), appI_ok (by simp; omega), Option.bind_some, n_role_With_l1 l hl n (i + 1) _ (by omega) (by omega) (by simp; omega), List.filter_cons_of_pos (by simpa using hr)]
        simp
      · rw [bif_neg (dec_f hr), n_role_With_l1 l hl n (i + 1) _ (by omega) (by omega) (by omega), List.filter_cons_of_neg (by simpa using hr)]
    · rw [bif_neg (dec_f (by omega)), List.drop_eq_nil_of_le (by omega)]
      simp
theorem n_role_owners (l : List S_api_Member) (hl : l.length ≤ 8) : m_role_owners l = some (((l.filter (fun x => decide (x.Role ≥ 4))).length : Nat) : Int) := by
  unfold m_role_owners m_role_With
  have h := n_role_With_l1 l hl (l.length + 1) 0 [] (by omega) (by omega) (by simp)
  have e : m_role_With_l1 l 4 (l.length + 1) [] 0 = m_role_With_l1 l 4 (l.length + 1) [] ((0 : Nat) : Int) := rfl
  rw [e, h]
  simp
theorem pos_filter (l : List S_api_Member) (p : S_api_Member → Bool) : 0 < (l.filter p).length ↔ ∃ x ∈ l, p x = true := by
  rw [List.length_pos_iff_exists_mem]
  simp [List.mem_filter]
theorem n_role_Right (l : List S_api_Member) (hl : LenP l) : TellsP (m_role_Right l) (RightP l) := by
  unfold m_role_Right
  have h := loop_then (len := l.length) (m_role_Right_l2 l) (fun i => MemP l i ∧ ∀ x y, l[i]? = some x → 0 < i → l[i - 1]? = some y → sLt y.Name x.Name = true) (m_role_Right_j1 l) (some false) (fun n i hi => by
    rw [m_role_Right_l2]
    obtain ⟨b, hb, hbi⟩ := n_tree_Name l[i].Name (hl.2 _ (List.getElem_mem hi))
    have hg : ∀ x, l[i]? = some x → x = l[i] := fun x hx => by rw [List.getElem?_eq_getElem hi] at hx; injection hx with e; exact e.symm
    have hlm : l.length ≤ 9223372036854775807 := hl.1
    rw [bif_pos (dec_t (by omega)), idx_nat hi, Option.bind_some, hb, Option.bind_some, wi_succ (by omega)]
    cases b with
    | false =>
      refine ⟨fun h => ?_, fun _ => rfl⟩
      have := hbi.2 (h.1 _ (List.getElem?_eq_getElem hi)).1
      cases this
    | true =>
      rw [bif_neg (c := !true) rfl]
      unfold m_role_is
      by_cases r1 : l[i].Role ≥ 1
      · rw [bif_pos (dec_t r1), Option.bind_some]
        by_cases r4 : l[i].Role ≤ 4
        · rw [dec_t r4, bif_neg (c := !true) rfl]
          by_cases h0 : 0 < i
          · have hi1 : i - 1 < l.length := by omega
            rw [bif_pos (dec_t (by omega)), wi_id (z := (i : Int) - 1) (by omega) (by omega), show (i : Int) - 1 = ((i - 1 : Nat) : Int) by omega, idx_nat hi1, Option.bind_some]
            cases hs : sLt l[i - 1].Name l[i].Name with
            | true =>
              refine ⟨fun _ => rfl, fun h => absurd ⟨fun x hx => ?_, fun x y hx _ hy => ?_⟩ h⟩
              · rw [hg x hx]; exact ⟨hbi.1 rfl, r1, r4⟩
              · rw [hg x hx]
                rw [List.getElem?_eq_getElem hi1] at hy
                injection hy with hy
                rw [← hy]
                exact hs
            | false =>
              refine ⟨fun h => ?_, fun _ => rfl⟩
              have := h.2 _ _ (List.getElem?_eq_getElem hi) h0 (List.getElem?_eq_getElem hi1)
              rw [hs] at this
              cases this
          · rw [bif_neg (dec_f (by omega))]
            refine ⟨fun _ => rfl, fun h => absurd ⟨fun x hx => ?_, fun x y hx h' _ => absurd h' h0⟩ h⟩
            rw [hg x hx]; exact ⟨hbi.1 rfl, r1, r4⟩
        · rw [dec_f r4, bif_pos (c := !false) rfl]
          exact ⟨fun h => absurd (h.1 _ (List.getElem?_eq_getElem hi)).2.2 r4, fun _ => rfl⟩
      · rw [bif_neg (dec_f r1), Option.bind_some, bif_pos (c := !false) rfl]
        exact ⟨fun h => absurd (h.1 _ (List.getElem?_eq_getElem hi)).2.1 r1, fun _ => rfl⟩) (fun n => by
    rw [m_role_Right_l2]
    rw [bif_neg (dec_f (by omega))]) (l.length + 1) 0 (by omega) (by omega)
  have e : m_role_Right_l2 l (l.length + 1) 0 = m_role_Right_l2 l (l.length + 1) ((0 : Nat) : Int) := rfl
  rw [e]
  by_cases hc : ∀ j, 0 ≤ j → j < l.length → MemP l j ∧ ∀ x y, l[j]? = some x → 0 < j → l[j - 1]? = some y → sLt y.Name x.Name = true
  · rw [h.1 hc]
    unfold m_role_Right_j1
    rw [dle l.length 8 8 rfl]
    have hall : ∀ i, i < l.length → MemP l i ∧ ∀ x y k, l[i]? = some x → k < i → l[k]? = some y → sLt y.Name x.Name = true := by
      intro i
      induction i with
      | zero => intro hi; exact ⟨(hc 0 (by omega) hi).1, fun x y k _ hk _ => by omega⟩
      | succ i ih =>
        intro hi
        have ih := ih (by omega)
        refine ⟨(hc (i + 1) (by omega) hi).1, fun x y k hx hk hy => ?_⟩
        have hl' : l[i]? = some l[i] := List.getElem?_eq_getElem (by omega)
        have hs := (hc (i + 1) (by omega) hi).2 x l[i] hx (by omega) hl'
        by_cases e : k = i
        · subst e
          rw [hl'] at hy
          injection hy with hy
          rw [← hy]
          exact hs
        · exact sLt_trans _ _ _ (ih.2 _ y k hl' (by omega) hy) hs
    by_cases h8 : l.length ≤ 8
    · rw [dec_t h8, n_role_owners l h8]
      refine ⟨decide ((((l.filter (fun x => decide (x.Role ≥ 4))).length : Nat) : Int) > 0), rfl, ?_⟩
      rw [decide_eq_true_eq]
      have := pos_filter l (fun x => decide (x.Role ≥ 4))
      rw [show ((((l.filter (fun x => decide (x.Role ≥ 4))).length : Nat) : Int) > 0) ↔ 0 < (l.filter (fun x => decide (x.Role ≥ 4))).length by omega, this]
      constructor
      · rintro ⟨x, hx, h4⟩
        obtain ⟨i, hi, e⟩ := List.getElem_of_mem hx
        have := ((hall i hi).1 x (by rw [List.getElem?_eq_getElem hi, e])).2.2
        exact ⟨hall, h8, x, hx, by have h4 := of_decide_eq_true h4; omega⟩
      · rintro ⟨_, _, x, hx, h4⟩
        exact ⟨x, hx, by simp; omega⟩
    · rw [dec_f h8]
      exact ⟨false, rfl, ⟨fun h => Bool.noConfusion h, fun h => absurd h.2.1 h8⟩⟩
  · rw [h.2 hc]
    refine ⟨false, rfl, ⟨fun h => Bool.noConfusion h, fun h => absurd (fun j _ hj => ⟨(h.1 j hj).1, fun x y hx h0 hy => (h.1 j hj).2 x y (j - 1) hx (by omega) hy⟩) hc⟩⟩
theorem n_R27_Owners_l1 (l : List S_api_Member) (hl : l.length ≤ 8) : ∀ (n i k : Nat), i ≤ l.length → l.length - i < n → k ≤ i → m_R27_Owners_l1 l n (k : Int) (i : Int) = some ((k + ((l.drop i).filter (fun x => x.Role == 4)).length : Nat) : Int)
  | 0, i, k, _, h, _ => by omega
  | n + 1, i, k, hi, h, hk => by
    rw [m_R27_Owners_l1]
    by_cases hlt : i < l.length
    · unfold m_R27_Owners_j2
      rw [bif_pos (dec_t (by omega)), idx_nat hlt, Option.bind_some, wi_succ (by omega), wi_succ (by omega), List.drop_eq_getElem_cons hlt]
      cases hr : l[i].Role == 4 with
      | true =>
        rw [List.filter_cons_of_pos (p := fun x : S_api_Member => x.Role == 4) hr]
        show m_R27_Owners_l1 l n ((k + 1 : Nat) : Int) _ = _
        rw [n_R27_Owners_l1 l hl n (i + 1) (k + 1) (by omega) (by omega) (by omega), List.length_cons]
        congr 2
        omega
      | false =>
        rw [List.filter_cons_of_neg (p := fun x : S_api_Member => x.Role == 4) (by simpa using hr)]
        exact n_R27_Owners_l1 l hl n (i + 1) k (by omega) (by omega) (by omega)
    · rw [bif_neg (dec_f (by omega)), List.drop_eq_nil_of_le (by omega)]
      simp
theorem n_R27_Right (l : List S_api_Member) (hl : LenP l) : TellsP (m_R27_Right l) (RightP l) := by
  unfold m_R27_Right
  rw [dgt l.length 8 8 rfl]
  by_cases h8 : l.length ≤ 8
  case neg =>
    rw [dec_f h8]
    exact ⟨false, rfl, ⟨fun h => Bool.noConfusion h, fun h => absurd h.2.1 h8⟩⟩
  rw [dec_t h8]
  have ho : m_R27_Owners l = some (((l.filter (fun x => x.Role == 4)).length : Nat) : Int) := by
    have := n_R27_Owners_l1 l h8 (l.length + 1) 0 0 (by omega) (by omega) (by omega)
    rw [Nat.zero_add] at this
    exact this
  rw [bif_neg (c := !true) rfl, ho, Option.bind_some]
  have hpos := pos_filter l (fun x => x.Role == 4)
  by_cases h0 : 0 < (l.filter (fun x => x.Role == 4)).length
  case neg =>
    rw [bif_pos (ieq_t (by omega))]
    refine ⟨false, rfl, ⟨fun h => Bool.noConfusion h, fun h => ?_⟩⟩
    obtain ⟨x, hx, h4⟩ := h.2.2
    exact absurd (hpos.2 ⟨x, hx, by simp [h4]⟩) h0
  rw [bif_neg (ieq_f (by omega))]
  have hown : ∃ x ∈ l, x.Role = 4 := by
    obtain ⟨x, hx, h4⟩ := hpos.1 h0
    exact ⟨x, hx, by simpa using h4⟩
  have h := loop_then (len := l.length) (m_R27_Right_l1 l) (fun i => MemP l i ∧ ∀ x y k, l[i]? = some x → k < i → l[k]? = some y → sLt y.Name x.Name = true) (some true) (some false) (fun n i hi => by
    rw [m_R27_Right_l1]
    obtain ⟨b, hb, hbi⟩ := n_R25_Name l[i].Name (hl.2 _ (List.getElem_mem hi))
    have hg : ∀ x, l[i]? = some x → x = l[i] := fun x hx => by rw [List.getElem?_eq_getElem hi] at hx; injection hx with e; exact e.symm
    have hgi := List.getElem?_eq_getElem hi
    rw [bif_pos (dec_t (by omega)), idx_nat hi, Option.bind_some, hb, Option.bind_some, Option.bind_some]
    cases b with
    | false =>
      refine ⟨fun h => ?_, fun _ => rfl⟩
      have := hbi.2 (h.1 _ hgi).1
      cases this
    | true =>
      rw [bif_neg (c := !true) rfl]
      by_cases r1 : l[i].Role < 1
      · rw [bif_pos (dec_t r1)]
        exact ⟨fun h => absurd (h.1 _ hgi).2.1 (by omega), fun _ => rfl⟩
      · rw [bif_neg (dec_f r1), Option.bind_some]
        by_cases r4 : l[i].Role > 4
        · rw [bif_pos (dec_t r4)]
          exact ⟨fun h => absurd (h.1 _ hgi).2.2 (by omega), fun _ => rfl⟩
        · rw [bif_neg (dec_f r4), Int.toNat_natCast]
          have hin := loop_then (len := i) (m_R27_Right_l3 (m_R27_Right_l1 l n) (i : Int) l l[i] l[i]) (fun k => ∀ y, l[k]? = some y → sLt y.Name l[i].Name = true) (m_R27_Right_l1 l n ((i + 1 : Nat) : Int)) (some false) (fun n' k hk => by
            rw [m_R27_Right_l3]
            have hk' : k < l.length := by omega
            rw [bif_pos (dec_t (by omega)), idx_nat hk', Option.bind_some, idx_nat hi, Option.bind_some, wi_succ (by omega)]
            cases hs : sLt l[k].Name l[i].Name with
            | true =>
              refine ⟨fun _ => rfl, fun h => absurd (fun y hy => ?_) h⟩
              rw [List.getElem?_eq_getElem hk'] at hy
              injection hy with hy
              rw [← hy]; exact hs
            | false =>
              refine ⟨fun h => ?_, fun _ => rfl⟩
              have := h _ (List.getElem?_eq_getElem hk')
              rw [hs] at this; cases this) (fun n' => by
            rw [m_R27_Right_l3]
            rw [bif_neg (dec_f (by omega))]
            unfold m_R27_Right_j2
            rw [wi_succ (by omega)]) (i + 1) 0 (by omega) (by omega)
          refine ⟨fun h => hin.1 fun k _ hk y hy => h.2 _ y k hgi hk hy, fun h => hin.2 fun hk => h ⟨fun x hx => ?_, fun x y k hx hk' hy => ?_⟩⟩
          · rw [hg x hx]; exact ⟨hbi.1 rfl, by omega, by omega⟩
          · rw [hg x hx]; exact hk k (by omega) hk' y hy) (fun n => by
    rw [m_R27_Right_l1]
    rw [bif_neg (dec_f (by omega))]) (l.length + 1) 0 (by omega) (by omega)
  have e : m_R27_Right_l1 l (l.length + 1) 0 = m_R27_Right_l1 l (l.length + 1) ((0 : Nat) : Int) := rfl
  rw [e]
  by_cases hc : ∀ j, 0 ≤ j → j < l.length → MemP l j ∧ ∀ x y k, l[j]? = some x → k < j → l[k]? = some y → sLt y.Name x.Name = true
  · rw [h.1 hc]
    exact ⟨true, rfl, ⟨fun _ => ⟨fun i hi => hc i (by omega) hi, h8, hown⟩, fun _ => rfl⟩⟩
  · rw [h.2 hc]
    exact ⟨false, rfl, ⟨fun h => Bool.noConfusion h, fun h => absurd (fun j _ hj => h.1 j hj) hc⟩⟩

/-! ### What a manifest may be -/
structure MFit (m : S_api_Manifest) : Prop where
  folder : m.Folder.length ≤ 9223372036854775807
  prev : m.Prev.length ≤ 9223372036854775807
  parent : m.Parent.length ≤ 9223372036854775807
  members : LenP m.Members
  by_ : m.By.length ≤ 9223372036854775807
def MayP (m : S_api_Manifest) : Prop := NameP m.Folder ∧ NameP m.By ∧ 1 ≤ m.Seq ∧ m.Seq ≤ 1099511627776 ∧ (m.Seq = 1 ↔ m.Prev.length = 0) ∧ m.Prev.length ≤ 64 ∧ (m.Parent ≠ [] → NameP m.Parent) ∧ m.Parent ≠ m.Folder ∧ RightP m.Members ∧ 0 ≤ m.Cut ∧ m.Cut ≤ m.Seq
theorem n_manifest_may (m : S_api_Manifest) (hf : MFit m) : TellsP (m_manifest_may m) (MayP m) := by
  obtain ⟨a, ha, hA⟩ := n_tree_Name m.Folder hf.folder
  obtain ⟨c, hc, hC⟩ := n_tree_Name m.By hf.by_
  obtain ⟨p, hp, hP⟩ := n_tree_Name m.Parent hf.parent
  obtain ⟨d, hd, hD⟩ := n_role_Right m.Members hf.members
  have h : m_manifest_may m = some (a && (c && (!decide (m.Seq < 1) && (!decide (m.Seq > 1099511627776) && (((m.Seq == 1) == ((m.Prev.length : Int) == 0)) && (!decide ((m.Prev.length : Int) > 64) && (((m.Parent == []) || p) && (!(m.Parent == m.Folder) && (d && (decide (m.Cut ≥ 0) && decide (m.Cut ≤ m.Seq))))))))))) := by
    unfold m_manifest_may m_manifest_may_j2 m_manifest_may_j3 m_manifest_may_j1
    rw [ha, hc, hp, hd]
    simp only [Option.bind_some]
    generalize decide (m.Seq < 1) = x1
    generalize decide (m.Seq > 1099511627776) = x2
    generalize ((m.Seq == 1) == ((m.Prev.length : Int) == 0)) = x3
    generalize decide ((m.Prev.length : Int) > 64) = x4
    generalize (m.Parent == []) = x5
    generalize (m.Parent == m.Folder) = x6
    generalize decide (m.Cut ≥ 0) = x7
    generalize decide (m.Cut ≤ m.Seq) = x8
    cases a <;> cases c <;> try rfl
    cases x1 <;> cases x2 <;> try rfl
    cases x3 <;> cases x4 <;> try rfl
    cases x5 <;> cases p <;> cases x6 <;> try rfl
    all_goals cases d <;> cases x7 <;> cases x8 <;> rfl
  refine ⟨_, h, ?_⟩
  simp only [Bool.and_eq_true, Bool.not_eq_true', Bool.or_eq_true, decide_eq_true_eq, decide_eq_false_iff_not, beq_iff_eq, beq_eq_false_iff_ne, hA, hC, hP, hD, MayP]
  have e3 : ((m.Seq == 1) = ((m.Prev.length : Int) == 0)) ↔ (m.Seq = 1 ↔ m.Prev.length = 0) := by
    rw [Bool.eq_iff_iff]; simp
  rw [e3]
  constructor
  · rintro ⟨h1, h2, h3, h4, h5, h6, h7, h8, h9, h10, h11⟩
    exact ⟨h1, h2, by omega, by omega, h5, by omega, fun e => h7.resolve_left e, h8, h9, h10, h11⟩
  · rintro ⟨h1, h2, h3, h4, h5, h6, h7, h8, h9, h10, h11⟩
    refine ⟨h1, h2, by omega, by omega, h5, by omega, ?_, h8, h9, h10, h11⟩
    by_cases e : m.Parent = []
    · exact .inl e
    · exact .inr (h7 e)
theorem n_R28_May (m : S_api_Manifest) (hf : MFit m) : TellsP (m_R28_May m) (MayP m) := by
  obtain ⟨a, ha, hA⟩ := n_R25_Name m.Folder hf.folder
  obtain ⟨c, hc, hC⟩ := n_R25_Name m.By hf.by_
  obtain ⟨p, hp, hP⟩ := n_R25_Name m.Parent hf.parent
  obtain ⟨d, hd, hD⟩ := n_R27_Right m.Members hf.members
  have h : m_R28_May m = some (a && (c && (d && (!decide (m.Seq < 1) && (!decide (m.Seq > 1099511627776) && (!decide (m.Cut < 0) && (!decide (m.Cut > m.Seq) && (!((m.Seq == 1) && decide ((m.Prev.length : Int) > 0)) && (!(decide (m.Seq > 1) && (((m.Prev.length : Int) == 0) || decide ((m.Prev.length : Int) > 64))) && ((m.Parent == []) || (p && !(m.Parent == m.Folder)))))))))))) := by
    unfold m_R28_May m_R28_May_j1
    rw [ha, hc, hp, hd]
    simp only [Option.bind_some]
    generalize decide (m.Seq < 1) = x1
    generalize decide (m.Seq > 1099511627776) = x2
    generalize decide (m.Cut < 0) = x3
    generalize decide (m.Cut > m.Seq) = x4
    generalize (m.Seq == 1) = x5
    generalize decide ((m.Prev.length : Int) > 0) = x6
    generalize decide (m.Seq > 1) = x7
    generalize ((m.Prev.length : Int) == 0) = x8
    generalize decide ((m.Prev.length : Int) > 64) = x9
    generalize (m.Parent == []) = x10
    generalize (m.Parent == m.Folder) = x11
    cases a <;> cases c <;> cases d <;> try rfl
    cases x1 <;> cases x2 <;> try rfl
    cases x3 <;> cases x4 <;> try rfl
    all_goals cases x5 <;> cases x6 <;> cases x7 <;> cases x8 <;> cases x9 <;> try rfl
    all_goals cases x10 <;> cases p <;> cases x11 <;> rfl
  refine ⟨_, h, ?_⟩
  simp only [Bool.and_eq_true, Bool.not_eq_true', Bool.or_eq_true, decide_eq_true_eq, decide_eq_false_iff_not, beq_iff_eq, beq_eq_false_iff_ne, Bool.and_eq_false_iff, Bool.or_eq_false_iff, hA, hC, hP, hD, MayP, ne_eq]
  constructor
  · rintro ⟨h1, h2, h3, h4, h5, h6, h7, h8, h9, h10⟩
    refine ⟨h1, h2, by omega, by omega, by omega, by omega, fun e => (h10.resolve_left e).1, fun e => ?_, h3, by omega, by omega⟩
    rcases h10 with h | h
    · have := h1.2.1
      rw [← e, h] at this
      simp at this
    · exact h.2 e
  · rintro ⟨h1, h2, h3, h4, h5, h6, h7, h8, h9, h10, h11⟩
    refine ⟨h1, h2, h9, by omega, by omega, by omega, by omega, by omega, by omega, ?_⟩
    by_cases e : m.Parent = []
    · exact .inl e
    · exact .inr ⟨h7 e, h8⟩
end Go.Proofs.Ytikaahmonocahaa

/-
  Roles of members, the place of a member, two lists the same: the models, plain.
-/
namespace Go.Proofs.Ytikaahmonocahaa
open Go Go.RowKit
set_option linter.unusedVariables false
set_option linter.unusedSimpArgs false

def ofM : List S_api_Member → List UInt8 → Int
  | [], _ => 0
  | x :: l, s => if x.Name = s then x.Role else ofM l s
theorem ofM_none : ∀ {l : List S_api_Member} {s : List UInt8}, (∀ x ∈ l, x.Name ≠ s) → ofM l s = 0
  | [], _, _ => rfl
  | x :: l, s, h => by
    unfold ofM
    rw [if_neg (h x (by simp)), ofM_none fun y hy => h y (by simp [hy])]
theorem ofM_at : ∀ (l : List S_api_Member) (s : List UInt8) (i : Nat) (hi : i < l.length), (∀ x ∈ l.take i, x.Name ≠ s) → l[i].Name = s → ofM l s = l[i].Role
  | [], _, i, hi, _, _ => by simp at hi
  | x :: l, s, 0, _, _, h => by unfold ofM; rw [if_pos (by simpa using h)]; rfl
  | x :: l, s, i + 1, hi, h0, h => by
    unfold ofM
    rw [if_neg (h0 x (by simp))]
    exact ofM_at l s i (by simpa using hi) (fun y hy => h0 y (by simp [hy])) (by simpa using h)
/-- A member's role is 0, where there is none of that name; else it is some member's. -/
theorem ofM_cases : ∀ (l : List S_api_Member) (s : List UInt8), (ofM l s = 0 ∧ ∀ x ∈ l, x.Name ≠ s) ∨ ∃ x ∈ l, x.Name = s ∧ ofM l s = x.Role
  | [], _ => .inl ⟨rfl, by simp⟩
  | x :: l, s => by
    by_cases e : x.Name = s
    · exact .inr ⟨x, by simp, e, by unfold ofM; rw [if_pos e]⟩
    · have e1 : ofM (x :: l) s = ofM l s := by conv => lhs; unfold ofM
                                               rw [if_neg e]
      rw [e1]
      rcases ofM_cases l s with ⟨h1, h2⟩ | ⟨y, h1, h2, h3⟩
      · exact .inl ⟨h1, fun y hy => by rcases List.mem_cons.1 hy with rfl | hy; exact e; exact h2 y hy⟩
      · exact .inr ⟨y, by simp [h1], h2, h3⟩
/-- Where a member stands. -/
def AtP (l : List S_api_Member) (s : List UInt8) (z : Int) : Prop := (z = -1 ∧ (∀ x ∈ l, x.Name ≠ s) ∧ ofM l s = 0) ∨ ∃ i, ∃ h : i < l.length, z = (i : Int) ∧ l[i].Name = s ∧ ofM l s = l[i].Role
theorem n_IndexFunc (l : List S_api_Member) (s : List UInt8) (hl : l.length ≤ 4096) : ∀ (n i : Nat), i ≤ l.length → l.length - i < n → (∀ x ∈ l.take i, x.Name ≠ s) → ∃ z, m_slices_IndexFunc_Member_l1 l (fun a0 => m_role_at_c1 a0 s) n (i : Int) = some z ∧ AtP l s z
  | 0, i, _, h, _ => by omega
  | n + 1, i, hi, h, h0 => by
    unfold m_slices_IndexFunc_Member_l1
    by_cases hlt : i < l.length
    · rw [bif_pos (dec_t (by omega)), idx_nat hlt, Option.bind_some]
      unfold m_role_at_c1
      rw [Option.bind_some]
      by_cases e : l[i].Name = s
      · rw [bif_pos (by simpa using e)]
        exact ⟨_, rfl, .inr ⟨i, hlt, rfl, e, ofM_at l s i hlt h0 e⟩⟩
      · rw [bif_neg (by simpa using e), wi_succ (by omega)]
        refine n_IndexFunc l s hl n (i + 1) (by omega) (by omega) fun x hx => ?_
        rw [List.take_succ_eq_append_getElem hlt, List.mem_append, List.mem_singleton] at hx
        rcases hx with hx | rfl
        · exact h0 x hx
        · exact e
    · rw [bif_neg (dec_f (by omega))]
      have ha : ∀ x ∈ l, x.Name ≠ s := fun x hx => h0 x (by rwa [List.take_of_length_le (by omega)])
      exact ⟨_, rfl, .inl ⟨rfl, ha, ofM_none ha⟩⟩
theorem n_at (l : List S_api_Member) (s : List UInt8) (hl : l.length ≤ 4096) : ∃ z, m_role_at l s = some z ∧ AtP l s z := by
  obtain ⟨z, h, hp⟩ := n_IndexFunc l s hl (l.length + 1) 0 (by omega) (by omega) (by simp)
  refine ⟨z, ?_, hp⟩
  unfold m_role_at m_slices_IndexFunc_Member
  have h : m_slices_IndexFunc_Member_l1 l (fun a0 => m_role_at_c1 a0 s) (l.length + 1) 0 = some z := h
  rw [h]
  rfl
theorem n_Of (l : List S_api_Member) (s : List UInt8) (hl : l.length ≤ 4096) : m_role_Of l s = some (ofM l s) := by
  obtain ⟨z, h, hp⟩ := n_at l s hl
  unfold m_role_Of
  rw [h, Option.bind_some]
  rcases hp with ⟨rfl, _, e⟩ | ⟨i, hi, rfl, e1, e2⟩
  · rw [bif_neg (dec_f (by omega)), e]
  · rw [bif_pos (dec_t (by omega)), idx_nat hi, Option.bind_some, e2]
theorem n_R27_Of_l1 (l : List S_api_Member) (s : List UInt8) (hl : l.length ≤ 4096) : ∀ (n i : Nat), i ≤ l.length → l.length - i < n → (∀ x ∈ l.take i, x.Name ≠ s) → m_R27_Of_l1 l s n (i : Int) = some (ofM l s)
  | 0, i, _, h, _ => by omega
  | n + 1, i, hi, h, h0 => by
    unfold m_R27_Of_l1
    by_cases hlt : i < l.length
    · rw [bif_pos (dec_t (by omega)), idx_nat hlt, Option.bind_some]
      by_cases e : l[i].Name = s
      · rw [bif_pos (by simpa using e), Option.bind_some, ofM_at l s i hlt h0 e]
      · rw [bif_neg (by simpa using e), wi_succ (by omega)]
        refine n_R27_Of_l1 l s hl n (i + 1) (by omega) (by omega) fun x hx => ?_
        rw [List.take_succ_eq_append_getElem hlt, List.mem_append, List.mem_singleton] at hx
        rcases hx with hx | rfl
        · exact h0 x hx
        · exact e
    · rw [bif_neg (dec_f (by omega)), ofM_none fun x hx => h0 x (by rwa [List.take_of_length_le (by omega)])]
theorem n_R27_Of (l : List S_api_Member) (s : List UInt8) (hl : l.length ≤ 4096) : m_R27_Of l s = some (ofM l s) := by
  unfold m_R27_Of
  exact n_R27_Of_l1 l s hl (l.length + 1) 0 (by omega) (by omega) (by simp)
/-! ### The same -/
theorem same_l1 (a b : List S_api_Member) : ∀ (n : Nat) (z : Int), m_R27_Same_l1 a b n z = m_slices_Equal_Member_l1 a b n z
  | 0, _ => rfl
  | n + 1, z => by
    unfold m_R27_Same_l1 m_slices_Equal_Member_l1
    simp only [same_l1 a b n]
theorem same_eq (a b : List S_api_Member) : m_R27_Same a b = m_slices_Equal_Member a b := by
  unfold m_R27_Same m_slices_Equal_Member
  rw [same_l1]
theorem same_def_l1 (a b : List S_api_Member) (hl : a.length ≤ 4096) (he : a.length = b.length) : ∀ (n i : Nat), i ≤ a.length → a.length - i < n → ∃ r, m_slices_Equal_Member_l1 a b n (i : Int) = some r
  | 0, i, _, h => by omega
  | n + 1, i, hi, h => by
    unfold m_slices_Equal_Member_l1
    by_cases hlt : i < a.length
    · rw [bif_pos (dec_t (by omega)), idx_nat hlt, Option.bind_some, idx_nat (show i < b.length by omega), Option.bind_some]
      generalize (!((a[i].Name == (b[i]'(by omega)).Name) && ((a[i].Role == (b[i]'(by omega)).Role) && true))) = t
      cases t with
      | true => exact ⟨_, rfl⟩
      | false =>
        rw [cond_false, wi_succ (by omega)]
        exact same_def_l1 a b hl he n (i + 1) (by omega) (by omega)
    · rw [bif_neg (dec_f (by omega))]
      exact ⟨_, rfl⟩
theorem same_def (a b : List S_api_Member) (hl : a.length ≤ 4096) : ∃ r, m_slices_Equal_Member a b = some r := by
  unfold m_slices_Equal_Member
  by_cases he : a.length = b.length
  · rw [bif_neg (ine_f (by omega))]
    exact same_def_l1 a b hl he _ 0 (by omega) (by omega)
  · rw [bif_pos (ine_t (by omega))]
    exact ⟨_, rfl⟩
/-! ### Owners -/
theorem owners_eq {l : List S_api_Member} (h : RightP l) : l.filter (fun x => decide (x.Role ≥ 4)) = l.filter (fun x => x.Role == 4) := by
  refine List.filter_congr fun x hx => ?_
  obtain ⟨i, hi⟩ := List.getElem?_of_mem hx
  have hlt := (List.getElem?_eq_some_iff.1 hi).1
  obtain ⟨_, h1, h2⟩ := (h.1 i hlt).1 x hi
  rw [Bool.eq_iff_iff]
  simp
  omega
theorem n_owners {l : List S_api_Member} (h : RightP l) : ∃ k : Int, m_role_owners l = some k ∧ m_R27_Owners l = some k := by
  refine ⟨_, n_role_owners l h.2.1, ?_⟩
  unfold m_R27_Owners
  have := n_R27_Owners_l1 l h.2.1 (l.length + 1) 0 0 (by omega) (by omega) (by omega)
  rw [List.drop_zero, Nat.zero_add, ← owners_eq h] at this
  exact this
theorem right_mem {l : List S_api_Member} (h : RightP l) {x : S_api_Member} (hx : x ∈ l) : NameP x.Name ∧ 1 ≤ x.Role ∧ x.Role ≤ 4 := by
  obtain ⟨i, hi⟩ := List.getElem?_of_mem hx
  exact (h.1 i (List.getElem?_eq_some_iff.1 hi).1).1 x hi
theorem right_of {l : List S_api_Member} (h : RightP l) (s : List UInt8) : 0 ≤ ofM l s ∧ ofM l s ≤ 4 := by
  rcases ofM_cases l s with ⟨e, _⟩ | ⟨x, hx, _, e⟩
  · rw [e]; omega
  · have := right_mem h hx; rw [e]; omega
end Go.Proofs.Ytikaahmonocahaa

/-
  Sorting a short list of members ends, and makes a list of the same length.
-/
namespace Go.Proofs.Ytikaahmonocahaa
open Go Go.RowKit
set_option linter.unusedVariables false
set_option linter.unusedSimpArgs false

theorem len_some : ∀ k : Nat, k < 13 → (m_math_bits_Len (IntKind.u64.wrap ((k : Nat) : Int))).isSome = true := by decide
section
variable {cmp : S_api_Member → S_api_Member → Option Int} (hc : ∀ a b, ∃ r, cmp a b = some r)
include hc
theorem ins_l3 (kl : Int → List S_api_Member → Option (List S_api_Member)) (z1 : Int) : ∀ (n j : Nat) (l : List S_api_Member), j < l.length → l.length ≤ 4096 → j < n → ∃ l', m_slices_insertionSortCmpFunc_Member_v0_l3 kl 0 cmp z1 n (j : Int) l = kl (wi (z1 + 1)) l' ∧ l'.length = l.length
  | 0, j, l, _, _, h => by omega
  | n + 1, j, l, hj, hl, h => by
    unfold m_slices_insertionSortCmpFunc_Member_v0_l3
    cases j with
    | zero =>
      rw [bif_neg (dec_f (by omega))]
      exact ⟨l, rfl, rfl⟩
    | succ j =>
      have e1 : wi (((j + 1 : Nat) : Int) - 1) = (j : Int) := by rw [wi_id (by omega) (by omega)]; omega
      rw [bif_pos (dec_t (by omega)), e1, idx_nat hj, Option.bind_some, idx_nat (show j < l.length by omega), Option.bind_some]
      obtain ⟨r, hr⟩ := hc l[j + 1] l[j]
      rw [hr, Option.bind_some]
      by_cases h0 : r < 0
      · rw [bif_pos (dec_t h0), Option.bind_some, Option.bind_some, Option.bind_some, idx_nat (show j < (l.set (Int.toNat ((j + 1 : Nat) : Int)) l[j]).length by simp; omega), Option.bind_some]
        obtain ⟨l', h1, h2⟩ := ins_l3 kl z1 n j ((l.set (Int.toNat ((j + 1 : Nat) : Int)) l[j]).set (Int.toNat (j : Int)) l[j + 1]) (by simp; omega) (by simpa using hl) (by omega)
        exact ⟨l', h1, by rw [h2]; simp⟩
      · rw [bif_neg (dec_f h0)]
        exact ⟨l, rfl, rfl⟩
theorem ins_l1 : ∀ (n i : Nat) (l : List S_api_Member), l.length ≤ 4096 → l.length - i < n → ∃ l', m_slices_insertionSortCmpFunc_Member_v0_l1 (l.length : Int) 0 cmp n (i : Int) l = some l' ∧ l'.length = l.length
  | 0, i, l, _, h => by omega
  | n + 1, i, l, hl, h => by
    unfold m_slices_insertionSortCmpFunc_Member_v0_l1
    by_cases hlt : i < l.length
    · rw [bif_pos (dec_t (by omega))]
      obtain ⟨l', h1, h2⟩ := ins_l3 hc (m_slices_insertionSortCmpFunc_Member_v0_l1 (l.length : Int) 0 cmp n) (i : Int) (Int.toNat (i : Int) + 1) i l hlt hl (by omega)
      rw [h1, wi_succ (by omega), ← h2]
      obtain ⟨l'', h3, h4⟩ := ins_l1 n (i + 1) l' (by omega) (by omega)
      exact ⟨l'', h3, h4⟩
    · rw [bif_neg (dec_f (by omega))]
      exact ⟨l, rfl, rfl⟩
theorem n_Sort (l : List S_api_Member) (hl : l.length ≤ 12) : ∃ l', m_slices_SortFunc_Member_v0 l cmp = some l' ∧ l'.length = l.length := by
  obtain ⟨l', h1, h2⟩ := ins_l1 hc (Int.toNat (l.length : Int) + 1) 1 l (by omega) (by omega)
  refine ⟨l', ?_, h2⟩
  unfold m_slices_SortFunc_Member_v0
  obtain ⟨k, hk⟩ := Option.isSome_iff_exists.1 (len_some l.length (by omega))
  rw [hk, Option.bind_some]
  unfold m_slices_pdqsortCmpFunc_Member_v0 m_slices_pdqsortCmpFunc_Member_v0_l1
  simp only
  rw [bif_pos (dec_t (by rw [wi_id (by omega) (by omega)]; omega))]
  unfold m_slices_insertionSortCmpFunc_Member_v0
  have e1 : wi (0 + 1) = ((1 : Nat) : Int) := by decide
  rw [e1, h1, Option.bind_some, lenI_of h2, Option.bind_some, Option.bind_some, lenI_of h2, Option.bind_some]
end
theorem cmp_some (a b : S_api_Member) : ∃ r, m_role_Share_c1 a b = some r := by
  unfold m_role_Share_c1 m_cmp_Compare_string m_cmp_isNaN_string
  simp only [Option.bind_some]
  generalize (!(a.Name == a.Name)) = x1
  generalize (!(b.Name == b.Name)) = x2
  generalize sLt a.Name b.Name = x3
  generalize (a.Name == b.Name) = x4
  cases x1 <;> cases x2 <;> cases x3 <;> cases x4 <;> exact ⟨_, rfl⟩
end Go.Proofs.Ytikaahmonocahaa

/-
  ManifestFollows, as plain law.
-/
namespace Go.Proofs.Ytikaahmonocahaa
open Go Go.RowKit
set_option linter.unusedVariables false
set_option linter.unusedSimpArgs false
set_option maxRecDepth 20000

theorem lenP_of {l : List S_api_Member} (h : RightP l) : LenP l := ⟨by have := h.2.1; omega, fun x hx => by have := (right_mem h hx).1.2.2; omega⟩
theorem clone_ok {l : List S_api_Member} (h : l.length ≤ 4096) : m_slices_Clone_Member l = some l := by
  unfold m_slices_Clone_Member
  exact appI_ok (by simp; omega)
theorem isE_len {α : Type} {l : List α} (h : 0 < l.length) : l.isEmpty = false := by
  cases l with
  | nil => simp at h
  | cons a l => rfl
theorem max1 (a : Int) : m_slices_Max_int [a] = some a := rfl
theorem max2 (a b : Int) : m_slices_Max_int [a, b] = some (if b > a then b else a) := rfl
theorem n_high {l : List S_api_Member} (h : RightP l) (by_ : List UInt8) {rs : List Int} {m : Int} (hm : m_slices_Max_int rs = some m) : m_role_high l by_ rs = some (decide (m ≥ 3) && decide (ofM l by_ < 4)) := by
  have h8 := h.2.1
  unfold m_role_high
  rw [hm, Option.bind_some]
  by_cases c : m ≥ 3
  · rw [bif_pos (dec_t c), n_Of l by_ (by omega), Option.bind_some, dec_t c, Bool.true_and]
  · rw [bif_neg (dec_f c), dec_f c, Bool.false_and]
theorem isRole {z : Int} (h1 : 1 ≤ z) (h2 : z ≤ 4) : m_role_is z = some true := by
  unfold m_role_is
  rw [bif_pos (dec_t (by omega)), dec_t (by omega)]
/-- What stands at a member's place. -/
theorem at_role {l : List S_api_Member} (h : RightP l) {s : List UInt8} {z : Int} (hz : AtP l s z) : (z < 0 ↔ ofM l s = 0) ∧ (0 ≤ z → ∃ x, idx l z = some x ∧ x.Role = ofM l s ∧ z < (l.length : Int)) := by
  rcases hz with ⟨rfl, _, e⟩ | ⟨i, hi, rfl, _, e2⟩
  · exact ⟨⟨fun _ => e, fun _ => by omega⟩, fun h => by omega⟩
  · have := right_mem h (List.getElem_mem hi)
    exact ⟨⟨fun h => by omega, fun h => by omega⟩, fun _ => ⟨_, idx_nat hi, e2.symm, by omega⟩⟩
theorem n_Share {l : List S_api_Member} (h : RightP l) (by_ : List UInt8) {name : List UInt8} (hn : NameP name) {role : Int} (r1 : 1 ≤ role) (r2 : role ≤ 4) : ∃ x e, m_role_Share l by_ name role = some (x, e) ∧ m_R27_Share l by_ name role = some e := by
  have h8 := h.2.1
  obtain ⟨z, hz, hzP⟩ := n_at l name (by omega)
  obtain ⟨a1, a2⟩ := at_role h hzP
  have o1 := right_of h by_
  have o2 := right_of h name
  unfold m_role_Share
  rw [(n_role_Right l (lenP_of h)).yes h, Option.bind_some, Bool.not_true, cond_false, (n_tree_Name name (by have := hn.2.2; omega)).yes hn, Option.bind_some, Bool.not_true, cond_false, isRole r1 r2, Option.bind_some, Bool.not_true]
  unfold m_role_Share_j1 m_R27_Share
  rw [cond_false, n_Of l by_ (by omega), Option.bind_some, n_R27_Of l by_ (by omega), Option.bind_some]
  by_cases c1 : ofM l by_ < 3
  · rw [bif_pos (dec_t c1), bif_pos (dec_t c1)]
    exact ⟨_, _, rfl, rfl⟩
  · rw [bif_neg (dec_f c1), bif_neg (dec_f c1), hz, Option.bind_some, n_R27_Of l name (by omega), Option.bind_some]
    by_cases c2 : ofM l name = 0
    · have : z < 0 := a1.2 c2
      rw [bif_neg (dec_f (show ¬ z ≥ 0 by omega)), bif_neg (dec_f (show ¬ ofM l name > 0 by omega)), n_high h by_ (max1 role), Option.bind_some]
      have hend : ∃ x e, (bif decide ((l.length : Int) ≥ 8) then some (([] : List S_api_Member), (3 : Int)) else (Option.bind (m_slices_Clone_Member l) fun x13 =>
          bif x13.isEmpty then none else (Option.bind (appI 24 x13 [(S_api_Member.mk name role)]) fun x16 =>
          bif x16.isEmpty then none else (Option.bind (m_slices_SortFunc_Member_v0 x16 m_role_Share_c1) fun x19 =>
          Option.bind (lenI x19.length x16.length) fun x21 =>
          some (x19, (0 : Int)))))) = some (x, e) ∧ m_R27_Share_j1 l = some e := by
        unfold m_R27_Share_j1
        by_cases c5 : l.length = 8
        · rw [bif_pos (dec_t (by omega)), bif_pos (ieq_t (by omega))]
          exact ⟨_, _, rfl, rfl⟩
        · rw [bif_neg (dec_f (by omega)), bif_neg (ieq_f (by omega)), clone_ok (by omega), Option.bind_some]
          obtain ⟨x0, hx0, _⟩ := h.2.2
          have hpos : 0 < l.length := List.length_pos_of_mem hx0
          rw [bif_neg (isE_len hpos), appI_ok (by simp; omega), Option.bind_some, bif_neg (isE_len (by simp))]
          obtain ⟨l', s1, s2⟩ := n_Sort cmp_some (l ++ [S_api_Member.mk name role]) (by simp; omega)
          rw [s1, Option.bind_some, lenI_of s2, Option.bind_some]
          exact ⟨_, _, rfl, rfl⟩
      by_cases c3 : role > 2
      · rw [bif_pos (dec_t c3), dec_t (show role ≥ 3 by omega), Bool.true_and]
        by_cases c4 : ofM l by_ < 4
        · rw [dec_t c4, cond_true, cond_true]
          exact ⟨_, _, rfl, rfl⟩
        · rw [dec_f c4, cond_false, cond_false]
          exact hend
      · rw [bif_neg (dec_f c3), dec_f (show ¬ role ≥ 3 by omega), Bool.false_and, cond_false]
        exact hend
    · have : ¬ z < 0 := fun hh => c2 (a1.1 hh)
      rw [bif_pos (dec_t (show z ≥ 0 by omega)), bif_pos (dec_t (show ofM l name > 0 by omega))]
      exact ⟨_, _, rfl, rfl⟩
theorem n_Change {l : List S_api_Member} (h : RightP l) (by_ : List UInt8) {name : List UInt8} (hn : NameP name) {role : Int} (r1 : 1 ≤ role) (r2 : role ≤ 4) : ∃ x e, m_role_Change l by_ name role = some (x, e) ∧ m_R27_Change l by_ name role = some e := by
  have h8 := h.2.1
  obtain ⟨z, hz, hzP⟩ := n_at l name (by omega)
  obtain ⟨a1, a2⟩ := at_role h hzP
  have o1 := right_of h by_
  have o2 := right_of h name
  unfold m_role_Change
  rw [hz, Option.bind_some, (n_role_Right l (lenP_of h)).yes h, Option.bind_some, Bool.not_true, cond_false, (n_tree_Name name (by have := hn.2.2; omega)).yes hn, Option.bind_some, Bool.not_true, cond_false, isRole r1 r2, Option.bind_some, Bool.not_true]
  unfold m_role_Change_j2 m_R27_Change
  rw [cond_false, n_Of l by_ (by omega), Option.bind_some, n_R27_Of l by_ (by omega), Option.bind_some, n_R27_Of l name (by omega), Option.bind_some]
  by_cases c1 : ofM l by_ < 3
  · rw [bif_pos (dec_t c1), bif_pos (dec_t c1)]
    exact ⟨_, _, rfl, rfl⟩
  · rw [bif_neg (dec_f c1), bif_neg (dec_f c1)]
    by_cases c2 : ofM l name = 0
    · rw [bif_pos (dec_t (a1.2 c2)), bif_pos (ieq_t c2)]
      exact ⟨_, _, rfl, rfl⟩
    · have hz0 : ¬ z < 0 := fun hh => c2 (a1.1 hh)
      obtain ⟨x, hx, hxr, hzl⟩ := a2 (by omega)
      rw [bif_neg (dec_f hz0), bif_neg (ieq_f c2), hx, Option.bind_some, n_high h by_ (max2 role x.Role), Option.bind_some, Option.bind_some, hxr]
      have hend : ∃ x2 e, (bif ofM l name == 4 then (bif decide (role < 4) then (Option.bind (m_role_owners l) fun x23 =>
          bif (x23 == 1) then (some (([] : List S_api_Member), (46 : Int))) else (m_role_Change_j1 l z role)) else (m_role_Change_j1 l z role)) else (m_role_Change_j1 l z role)) = some (x2, e) ∧ m_R27_Change_j1 (ofM l name) role l = some e := by
        have hj : ∃ x2, m_role_Change_j1 l z role = some (x2, 0) := by
          unfold m_role_Change_j1
          rw [clone_ok (by omega), Option.bind_some, bif_neg (isE_len (by omega)), hx, Option.bind_some]
          exact ⟨_, rfl⟩
        obtain ⟨x2, hj⟩ := hj
        obtain ⟨k, k1, k2⟩ := n_owners h
        unfold m_R27_Change_j1
        rw [hj, k1, k2]
        simp only [Option.bind_some]
        generalize (ofM l name == 4) = b1
        generalize decide (role < 4) = b2
        generalize (k == 1) = b3
        cases b1 <;> cases b2 <;> cases b3 <;> exact ⟨_, _, rfl, rfl⟩
      by_cases c4 : ofM l by_ < 4
      · rw [bif_pos (dec_t c4), dec_t c4, Bool.and_true]
        by_cases c5 : role > 2
        · rw [bif_pos (dec_t c5), bif_pos (dec_t (by split <;> omega))]
          exact ⟨_, _, rfl, rfl⟩
        · rw [bif_neg (dec_f c5)]
          by_cases c6 : ofM l name > 2
          · rw [bif_pos (dec_t c6), bif_pos (dec_t (by split <;> omega))]
            exact ⟨_, _, rfl, rfl⟩
          · rw [bif_neg (dec_f c6), bif_neg (dec_f (by split <;> omega))]
            exact hend
      · rw [bif_neg (dec_f c4), dec_f c4, Bool.and_false, cond_false]
        exact hend
theorem n_Revoke {l : List S_api_Member} (h : RightP l) (by_ : List UInt8) {name : List UInt8} (hn : NameP name) : ∃ x e, m_role_Revoke l by_ name = some (x, e) ∧ m_R27_Revoke l by_ name = some e := by
  have h8 := h.2.1
  obtain ⟨z, hz, hzP⟩ := n_at l name (by omega)
  obtain ⟨a1, a2⟩ := at_role h hzP
  have o1 := right_of h by_
  have o2 := right_of h name
  unfold m_role_Revoke
  rw [hz, Option.bind_some, (n_role_Right l (lenP_of h)).yes h, Option.bind_some, Bool.not_true, cond_false, (n_tree_Name name (by have := hn.2.2; omega)).yes hn, Option.bind_some, Bool.not_true]
  unfold m_role_Revoke_j2 m_R27_Revoke
  rw [cond_false, n_Of l by_ (by omega), Option.bind_some, n_R27_Of l by_ (by omega), Option.bind_some, n_R27_Of l name (by omega), Option.bind_some]
  have hend : ∃ x2 e, m_role_Revoke_j3 z by_ name l false = some (x2, e) ∧ m_R27_Revoke_j1 (ofM l name) by_ name (ofM l by_) l = some e := by
    unfold m_role_Revoke_j3 m_R27_Revoke_j1
    rw [cond_false]
    by_cases c2 : ofM l name = 0
    · rw [bif_pos (dec_t (a1.2 c2)), bif_pos (ieq_t c2)]
      exact ⟨_, _, rfl, rfl⟩
    · have hz0 : ¬ z < 0 := fun hh => c2 (a1.1 hh)
      obtain ⟨x, hx, hxr, hzl⟩ := a2 (by omega)
      rw [bif_neg (dec_f hz0), bif_neg (ieq_f c2), hx, Option.bind_some, n_high h by_ (max1 x.Role), Option.bind_some, hxr]
      have hfin : ∃ x2 e, m_role_Revoke_j4 l z false = some (x2, e) ∧ m_R27_Revoke_j2 (ofM l name) l = some e := by
        have hj : ∃ x2, m_role_Revoke_j1 l z = some (x2, 0) := by
          unfold m_role_Revoke_j1 m_slices_Delete_Member
          rw [clone_ok (by omega), Option.bind_some, bif_neg (isE_len (by omega)), wi_id (by omega) (by omega), if_pos (by omega), Option.bind_some]
          exact ⟨_, rfl⟩
        obtain ⟨x2, hj⟩ := hj
        obtain ⟨k, k1, k2⟩ := n_owners h
        unfold m_role_Revoke_j4 m_R27_Revoke_j2
        rw [cond_false, hx, Option.bind_some, hj, k1, k2, hxr]
        simp only [Option.bind_some]
        generalize (ofM l name == 4) = b1
        generalize (k == 1) = b3
        cases b1 <;> cases b3 <;> exact ⟨_, _, rfl, rfl⟩
      have hyes : m_role_Revoke_j4 l z true = some ([], 40) := rfl
      generalize (by_ == name) = b
      cases b with
      | true => exact hfin
      | false =>
        simp only [Bool.not_false, cond_true]
        by_cases c5 : ofM l name > 2
        · rw [bif_pos (dec_t c5), dec_t (show ofM l name ≥ 3 by omega), Bool.true_and]
          by_cases c4 : ofM l by_ < 4
          · rw [dec_t c4, cond_true]
            exact ⟨_, _, hyes, rfl⟩
          · rw [dec_f c4, cond_false]
            exact hfin
        · rw [bif_neg (dec_f c5), dec_f (show ¬ ofM l name ≥ 3 by omega), Bool.false_and]
          exact hfin
  have hyes : m_role_Revoke_j3 z by_ name l true = some ([], 40) := rfl
  cases hb : (by_ == name) with
  | true =>
    simp only [Bool.not_true, cond_false]
    exact hend
  | false =>
    simp only [Bool.not_false, cond_true]
    by_cases c1 : ofM l by_ < 3
    · rw [dec_t c1, cond_true]
      exact ⟨_, _, hyes, rfl⟩
    · rw [dec_f c1, cond_false]
      exact hend
end Go.Proofs.Ytikaahmonocahaa
