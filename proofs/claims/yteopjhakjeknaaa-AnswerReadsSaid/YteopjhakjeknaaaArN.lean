/-
  Answers and their bytes: the models, plain; for any answer that is read.
-/
import Derived.Test.YteopjhakjeknaaaAkM
import Derived.Test.YteopjhakjeknaaaNam
import Derived.Test.YteopjhakjeknaaaVv
namespace Go.Proofs.Yteopjhakjeknaaa
open Go Go.RowKit
set_option linter.unusedVariables false
set_option linter.unusedSimpArgs false
set_option maxRecDepth 20000

theorem awake31 : m_L31_awake = some true := by kernel_rfl
def memV (x : S_api_Member) : V := listV [wordV x.Name, numV x.Role]
def bitI (b : Bool) : Int := bif b then 1 else 0
def pastV (p : S_api_Past) : V := listV [numV p.Number, numV p.Epoch, numV (bitI p.Gone), wordV p.By]
def AV (a : S_api_Answer) : V := listV [numV a.Err, numV a.Number, wordV a.By, wordV a.Data, listV (a.Names.map wordV), listV (a.Members.map memV), listV (a.History.map pastV)]
structure Short (a : S_api_Answer) : Prop where
  by_ : a.By.length ≤ 2000
  data : a.Data.length ≤ 2000
  names : a.Names.length ≤ 4096
  members : a.Members.length ≤ 4096
  history : a.History.length ≤ 4096
  name : ∀ x ∈ a.Names, x.length ≤ 2000
  member : ∀ x ∈ a.Members, x.Name.length ≤ 2000
  past : ∀ x ∈ a.History, x.By.length ≤ 2000
structure ALen (a : S_api_Answer) : Prop where
  names : a.Names.length ≤ 9223372036854775807
  members : a.Members.length ≤ 9223372036854775807
  history : a.History.length ≤ 9223372036854775807
theorem few_loop {α : Type} (l : List α) (hl : l.length ≤ 9223372036854775807) (ln : α → Nat) (F : Nat → Int → Option Bool) (K : Option Bool) (hF : ∀ n z, F (n + 1) z = bif decide (z < (l.length : Int)) then (Option.bind (idx l z) fun x => bif decide ((ln x : Int) > 20) then some false else F n (wi (z + 1))) else K) : (F (l.length + 1) 0 = K ∧ ∀ x ∈ l, ln x ≤ 20) ∨ F (l.length + 1) 0 = some false := by
  have h := loop_then (len := l.length) F (fun i => ∀ x, l[i]? = some x → ln x ≤ 20) K (some false) (fun n i hi => by
    rw [hF, bif_pos (dec_t (by omega)), idx_nat hi, Option.bind_some, wi_succ (by omega)]
    by_cases h : ln l[i] ≤ 20
    · rw [bif_neg (dec_f (by omega))]
      exact ⟨fun _ => rfl, fun k => absurd (fun x hx => by rw [List.getElem?_eq_getElem hi] at hx; injection hx with e; rw [← e]; exact h) k⟩
    · rw [bif_pos (dec_t (by omega))]
      exact ⟨fun k => absurd (k _ (List.getElem?_eq_getElem hi)) h, fun _ => rfl⟩) (fun n => by rw [hF, bif_neg (dec_f (by omega))]) (l.length + 1) 0 (by omega) (by omega)
  by_cases hc : ∀ j, 0 ≤ j → j < l.length → ∀ x, l[j]? = some x → ln x ≤ 20
  · refine .inl ⟨h.1 hc, fun x hx => ?_⟩
    obtain ⟨i, hi, e⟩ := List.getElem_of_mem hx
    exact hc i (by omega) hi x (by rw [List.getElem?_eq_getElem hi, e])
  · exact .inr (h.2 hc)
theorem strB_big {s : List UInt8} (h : s.length ≤ 1000000) : strB s = some s := by
  unfold strB
  rw [if_pos (by unfold maxLen; omega)]
/-! ### An answer as a value -/
theorem n_aword {s : List UInt8} (h : s.length ≤ 1000000) : m_answer_word s = some (wordV s) := by
  unfold m_answer_word
  rw [strB_big h]
  rfl
theorem gather {α β γ : Type} (l : List α) (hl : l.length ≤ 4096) (g : α → β) (F : Nat → List β → Int → Option γ) (K : List β → Option γ)
    (hstep : ∀ n out i (hi : i < l.length), out.length ≤ 4096 → F (n + 1) out (i : Int) = F n (out ++ [g l[i]]) ((i + 1 : Nat) : Int)) (hend : ∀ n out, F (n + 1) out (l.length : Int) = K out) : F (l.length + 1) [] 0 = K (l.map g) := by
  have h := (loop_acc (l := l) F (fun _ => True) g K none (fun n out i hi ho => ⟨fun _ => hstep n out i hi (by omega), fun h => absurd trivial h⟩) hend (l.length + 1) 0 [] (by omega) (by omega) (by simp)).1 fun _ _ => trivial
  rw [List.drop_zero] at h
  exact h
theorem app64 {out : List V} {x : V} (h : out.length ≤ 4096) : appI 64 out [x] = some (out ++ [x]) := appI_ok (by simp; omega)
theorem n_list_string (l : List (List UInt8)) (hl : l.length ≤ 4096) (h : ∀ x ∈ l, x.length ≤ 2000) : m_answer_list_string l m_answer_word = some (listV (l.map wordV)) := by
  unfold m_answer_list_string
  show m_answer_list_string_l1 l m_answer_word (V.mk 3 0 [] []) (l.length + 1) [] 0 = _
  exact gather l (by omega) wordV (m_answer_list_string_l1 l m_answer_word (V.mk 3 0 [] [])) (fun out => some (listV out)) (fun n out i hi ho => by
    rw [m_answer_list_string_l1]
    rw [bif_pos (dec_t (by omega)), idx_nat hi, Option.bind_some, n_aword (by have := h _ (List.getElem_mem hi); omega), Option.bind_some, app64 ho, Option.bind_some, wi_succ (by omega)]) (fun n out => by
    rw [m_answer_list_string_l1]
    rw [bif_neg (dec_f (by omega))]
    rfl)
theorem n_value_c1 {x : S_api_Member} (h : x.Name.length ≤ 2000) : m_answer_value_c1 x = some (memV x) := by
  unfold m_answer_value_c1
  rw [n_aword (by omega)]
  rfl
theorem n_value_c2 {x : S_api_Past} (h : x.By.length ≤ 2000) : m_answer_value_c2 x = some (pastV x) := by
  unfold m_answer_value_c2 m_answer_value_c2_j1
  rw [n_aword (by omega)]
  unfold pastV bitI
  cases x.Gone <;> rfl
theorem n_list_Member (l : List S_api_Member) (hl : l.length ≤ 4096) (h : ∀ x ∈ l, x.Name.length ≤ 2000) : m_answer_list_Member l m_answer_value_c1 = some (listV (l.map memV)) := by
  unfold m_answer_list_Member
  show m_answer_list_Member_l1 l m_answer_value_c1 (V.mk 3 0 [] []) (l.length + 1) [] 0 = _
  exact gather l (by omega) memV (m_answer_list_Member_l1 l m_answer_value_c1 (V.mk 3 0 [] [])) (fun out => some (listV out)) (fun n out i hi ho => by
    rw [m_answer_list_Member_l1]
    rw [bif_pos (dec_t (by omega)), idx_nat hi, Option.bind_some, n_value_c1 (h _ (List.getElem_mem hi)), Option.bind_some, app64 ho, Option.bind_some, wi_succ (by omega)]) (fun n out => by
    rw [m_answer_list_Member_l1]
    rw [bif_neg (dec_f (by omega))]
    rfl)
theorem n_list_Past (l : List S_api_Past) (hl : l.length ≤ 4096) (h : ∀ x ∈ l, x.By.length ≤ 2000) : m_answer_list_Past l m_answer_value_c2 = some (listV (l.map pastV)) := by
  unfold m_answer_list_Past
  show m_answer_list_Past_l1 l m_answer_value_c2 (V.mk 3 0 [] []) (l.length + 1) [] 0 = _
  exact gather l (by omega) pastV (m_answer_list_Past_l1 l m_answer_value_c2 (V.mk 3 0 [] [])) (fun out => some (listV out)) (fun n out i hi ho => by
    rw [m_answer_list_Past_l1]
    rw [bif_pos (dec_t (by omega)), idx_nat hi, Option.bind_some, n_value_c2 (h _ (List.getElem_mem hi)), Option.bind_some, app64 ho, Option.bind_some, wi_succ (by omega)]) (fun n out => by
    rw [m_answer_list_Past_l1]
    rw [bif_neg (dec_f (by omega))]
    rfl)
theorem n_answer_value {a : S_api_Answer} (h : Short a) : m_answer_value a = some (AV a) := by
  unfold m_answer_value
  rw [n_aword (by have := h.by_; omega), n_list_string _ h.names h.name, n_list_Member _ h.members h.member, n_list_Past _ h.history h.past]
  rfl

/-! ### What may be -/
def nameB (s : List UInt8) : Bool := (m_tree_Name s).getD false
theorem nameB_iff {s : List UInt8} (h : s.length ≤ 2000) : m_tree_Name s = some (nameB s) ∧ m_R25_Name s = some (nameB s) ∧ (nameB s = true ↔ NameP s) := by
  obtain ⟨b, hb, hbi⟩ := n_tree_Name s (by omega)
  have e : nameB s = b := by unfold nameB; rw [hb]; rfl
  rw [e]
  exact ⟨hb, ((n_R25_Name s (by omega)).iff hbi.symm).bool, hbi⟩
def memB (x : S_api_Member) : Bool := nameB x.Name && (decide (x.Role ≥ 1) && decide (x.Role ≤ 4))
def pastB (p : S_api_Past) : Bool := decide (p.Number ≥ 1) && (decide (p.Number ≤ 1099511627776) && (decide (p.Epoch ≥ 1) && (decide (p.Epoch ≤ 1099511627776) && nameB p.By)))
theorem n_member {x : S_api_Member} (h : x.Name.length ≤ 2000) : m_answer_member x = some (memB x) := by
  unfold m_answer_member memB
  rw [(nameB_iff h).1, Option.bind_some, bif_and, bif_and]
theorem n_past {p : S_api_Past} (h : p.By.length ≤ 2000) : m_answer_past p = some (pastB p) := by
  unfold m_answer_past pastB
  rw [(nameB_iff h).1, Option.bind_some, bif_and, bif_and, bif_and, bif_and]
theorem index_loop {α : Type} (l : List α) (hl : l.length ≤ 4096) (q : α → Bool) (f : α → Option Bool) (hf : ∀ x ∈ l, f x = some (q x)) (F : Nat → Int → Option Int)
    (hF : ∀ n z, F (n + 1) z = bif decide (z < (l.length : Int)) then (Option.bind (idx l z) fun x => Option.bind (f x) fun e => bif e then some z else F n (wi (z + 1))) else some (-1)) : ∀ n i, i ≤ l.length → l.length - i < n → ∃ k, F n (i : Int) = some k ∧ decide (k ≥ 0) = (l.drop i).any q
  | 0, i, _, h => by omega
  | n + 1, i, hi, h => by
    rw [hF]
    by_cases hlt : i < l.length
    · rw [bif_pos (dec_t (by omega)), idx_nat hlt, Option.bind_some, hf _ (List.getElem_mem hlt), Option.bind_some, wi_succ (by omega), List.drop_eq_getElem_cons hlt, List.any_cons]
      cases hq : q l[i] with
      | true => exact ⟨(i : Int), rfl, by rw [dec_t (by omega)]; rfl⟩
      | false =>
        obtain ⟨k, h1, h2⟩ := index_loop l hl q f hf F hF n (i + 1) (by omega) (by omega)
        exact ⟨k, h1, by rw [h2]; rfl⟩
    · rw [bif_neg (dec_f (by omega)), List.drop_eq_nil_of_le (by omega)]
      exact ⟨-1, rfl, rfl⟩
theorem any_not {α : Type} (l : List α) (q : α → Bool) : (!(l.any fun x => !q x)) = l.all q := by
  rw [Bool.eq_iff_iff]
  simp
theorem n_all_string (l : List (List UInt8)) (hl : l.length ≤ 4096) (h : ∀ x ∈ l, x.length ≤ 2000) : m_answer_all_string l m_tree_Name = some (l.all nameB) := by
  unfold m_answer_all_string m_slices_ContainsFunc_string m_slices_IndexFunc_string
  rw [bif_pos (dec_t (by omega))]
  obtain ⟨k, h1, h2⟩ := index_loop l (by omega) (fun x => !nameB x) (fun a0 => m_answer_all_string_c1 a0 m_tree_Name) (fun x hx => by unfold m_answer_all_string_c1; rw [(nameB_iff (h x hx)).1]; rfl) (m_slices_IndexFunc_string_l1 l (fun a0 => m_answer_all_string_c1 a0 m_tree_Name)) (fun n z => by rw [m_slices_IndexFunc_string_l1]) (l.length + 1) 0 (by omega) (by omega)
  have e : m_slices_IndexFunc_string_l1 l (fun a0 => m_answer_all_string_c1 a0 m_tree_Name) (l.length + 1) 0 = some k := h1
  rw [e, Option.bind_some, Option.bind_some, h2, List.drop_zero, any_not]
theorem n_all_Member (l : List S_api_Member) (hl : l.length ≤ 4096) (h : ∀ x ∈ l, x.Name.length ≤ 2000) : m_answer_all_Member l m_answer_member = some (l.all memB) := by
  unfold m_answer_all_Member m_slices_ContainsFunc_Member m_slices_IndexFunc_Member
  rw [bif_pos (dec_t (by omega))]
  obtain ⟨k, h1, h2⟩ := index_loop l (by omega) (fun x => !memB x) (fun a0 => m_answer_all_Member_c1 a0 m_answer_member) (fun x hx => by unfold m_answer_all_Member_c1; rw [n_member (h x hx)]; rfl) (m_slices_IndexFunc_Member_l1 l (fun a0 => m_answer_all_Member_c1 a0 m_answer_member)) (fun n z => by rw [m_slices_IndexFunc_Member_l1]) (l.length + 1) 0 (by omega) (by omega)
  have e : m_slices_IndexFunc_Member_l1 l (fun a0 => m_answer_all_Member_c1 a0 m_answer_member) (l.length + 1) 0 = some k := h1
  rw [e, Option.bind_some, Option.bind_some, h2, List.drop_zero, any_not]
theorem n_all_Past (l : List S_api_Past) (hl : l.length ≤ 4096) (h : ∀ x ∈ l, x.By.length ≤ 2000) : m_answer_all_Past l m_answer_past = some (l.all pastB) := by
  unfold m_answer_all_Past m_slices_ContainsFunc_Past m_slices_IndexFunc_Past
  rw [bif_pos (dec_t (by omega))]
  obtain ⟨k, h1, h2⟩ := index_loop l (by omega) (fun x => !pastB x) (fun a0 => m_answer_all_Past_c1 a0 m_answer_past) (fun x hx => by unfold m_answer_all_Past_c1; rw [n_past (h x hx)]; rfl) (m_slices_IndexFunc_Past_l1 l (fun a0 => m_answer_all_Past_c1 a0 m_answer_past)) (fun n z => by rw [m_slices_IndexFunc_Past_l1]) (l.length + 1) 0 (by omega) (by omega)
  have e : m_slices_IndexFunc_Past_l1 l (fun a0 => m_answer_all_Past_c1 a0 m_answer_past) (l.length + 1) 0 = some k := h1
  rw [e, Option.bind_some, Option.bind_some, h2, List.drop_zero, any_not]
def bareP (a : S_api_Answer) : Prop := a.Number = 0 ∧ a.By = [] ∧ a.Data.length = 0 ∧ a.Names.length = 0 ∧ a.Members.length = 0 ∧ a.History.length = 0
def AllP (a : S_api_Answer) : Prop := a.Names.all nameB = true ∧ a.Members.all memB = true ∧ a.History.all pastB = true
def MayQ (a : S_api_Answer) : Prop := 0 ≤ a.Err ∧ a.Err ≤ 255 ∧ (a.Err ≠ 0 → bareP a) ∧ 0 ≤ a.Number ∧ a.Number ≤ 1099511627776 ∧ (a.By ≠ [] → nameB a.By = true) ∧ AllP a
theorem AV_right {a : S_api_Answer} (h : Short a) (h0 : 0 ≤ a.Err ∧ a.Err ≤ 255) (h1 : 0 ≤ a.Number ∧ a.Number ≤ 1099511627776) (hA : AllP a) : (AV a).rpure = true ∧ (AV a).deep ≤ 16 ∧ (AV a).sz ≤ 1048576 := by
  obtain ⟨a1, a2, a3⟩ := hA
  have f1 : ∀ v ∈ a.Names.map wordV, v.rpure = true ∧ v.deep ≤ 1 ∧ v.sz ≤ 60 := by
    intro v hv
    obtain ⟨x, hx, rfl⟩ := List.mem_map.1 hv
    have := ((nameB_iff (h.name x hx)).2.2.1 (List.all_eq_true.1 a1 x hx)).2.2
    exact ⟨rpure_word _, by rw [deep_word]; omega, by rw [sz_word]; omega⟩
  have f2 : ∀ v ∈ a.Members.map memV, v.rpure = true ∧ v.deep ≤ 1 ∧ v.sz ≤ 60 := by
    intro v hv
    obtain ⟨x, hx, rfl⟩ := List.mem_map.1 hv
    have hb := List.all_eq_true.1 a2 x hx
    unfold memB at hb
    simp only [Bool.and_eq_true, decide_eq_true_eq] at hb
    have hn := ((nameB_iff (h.member x hx)).2.2.1 hb.1).2.2
    refine ⟨rpure_listV (by simp) ?_, deep_list (d := 0) ?_, ?_⟩
    · intro y hy
      simp at hy
      rcases hy with rfl | rfl
      · exact rpure_word _
      · exact rpure_numV (by omega) (by omega)
    · intro y hy
      simp at hy
      rcases hy with rfl | rfl
      · rw [deep_word]; exact Nat.le_refl _
      · rw [deep_num]; exact Nat.le_refl _
    · have := sz_num (n := x.Role) (by omega) (by omega)
      unfold memV
      rw [sz_list]
      simp only [V.sz.szs, sz_word]
      omega
  have f3 : ∀ v ∈ a.History.map pastV, v.rpure = true ∧ v.deep ≤ 1 ∧ v.sz ≤ 60 := by
    intro v hv
    obtain ⟨x, hx, rfl⟩ := List.mem_map.1 hv
    have hb := List.all_eq_true.1 a3 x hx
    unfold pastB at hb
    simp only [Bool.and_eq_true, decide_eq_true_eq] at hb
    have hn := ((nameB_iff (h.past x hx)).2.2.1 hb.2.2.2.2).2.2
    have hg : 0 ≤ bitI x.Gone ∧ bitI x.Gone ≤ 1 := by unfold bitI; cases x.Gone <;> decide
    refine ⟨rpure_listV (by simp) ?_, deep_list (d := 0) ?_, ?_⟩
    · intro y hy
      simp at hy
      rcases hy with rfl | rfl | rfl | rfl
      · exact rpure_numV (by omega) (by omega)
      · exact rpure_numV (by omega) (by omega)
      · exact rpure_numV (by omega) (by omega)
      · exact rpure_word _
    · intro y hy
      simp at hy
      rcases hy with rfl | rfl | rfl | rfl
      · rw [deep_num]; exact Nat.le_refl _
      · rw [deep_num]; exact Nat.le_refl _
      · rw [deep_num]; exact Nat.le_refl _
      · rw [deep_word]; exact Nat.le_refl _
    · have e1 := sz_num (n := x.Number) (by omega) (by omega)
      have e2 := sz_num (n := x.Epoch) (by omega) (by omega)
      have e3 := sz_num (n := bitI x.Gone) (by omega) (by omega)
      unfold pastV
      rw [sz_list]
      simp only [V.sz.szs, sz_word]
      omega
  have n1 := h.names
  have n2 := h.members
  have n3 := h.history
  refine ⟨rpure_listV (by simp) ?_, ?_, ?_⟩
  · intro y hy
    simp at hy
    rcases hy with rfl | rfl | rfl | rfl | rfl | rfl | rfl
    · exact rpure_numV (by omega) (by omega)
    · exact rpure_numV (by omega) (by omega)
    · exact rpure_word _
    · exact rpure_word _
    · exact rpure_listV (by simp; omega) fun v hv => (f1 v (by simpa using hv)).1
    · exact rpure_listV (by simp; omega) fun v hv => (f2 v (by simpa using hv)).1
    · exact rpure_listV (by simp; omega) fun v hv => (f3 v (by simpa using hv)).1
  · refine Nat.le_trans (deep_list (d := 2) ?_) (by omega)
    intro y hy
    simp at hy
    rcases hy with rfl | rfl | rfl | rfl | rfl | rfl | rfl
    · rw [deep_num]; omega
    · rw [deep_num]; omega
    · rw [deep_word]; omega
    · rw [deep_word]; omega
    · exact deep_list (d := 1) fun v hv => (f1 v (by simpa using hv)).2.1
    · exact deep_list (d := 1) fun v hv => (f2 v (by simpa using hv)).2.1
    · exact deep_list (d := 1) fun v hv => (f3 v (by simpa using hv)).2.1
  · unfold AV
    rw [sz_list]
    simp only [V.sz.szs, sz_word, sz_list]
    have e1 := sz_num (n := a.Err) (by omega) (by omega)
    have e2 := sz_num (n := a.Number) (by omega) (by omega)
    have g1 := szs_le _ 60 fun v hv => (f1 v hv).2.2
    have g2 := szs_le _ 60 fun v hv => (f2 v hv).2.2
    have g3 := szs_le _ 60 fun v hv => (f3 v hv).2.2
    rw [List.length_map] at g1 g2 g3
    have b1 := h.by_
    have b2 := h.data
    omega
theorem MayQ.right {a : S_api_Answer} (h : Short a) (hm : MayQ a) : (AV a).rpure = true ∧ (AV a).deep ≤ 16 ∧ (AV a).sz ≤ 1048576 :=
  AV_right h ⟨hm.1, hm.2.1⟩ ⟨hm.2.2.2.1, hm.2.2.2.2.1⟩ hm.2.2.2.2.2.2
theorem right_of {v : V} (h : v.rpure = true ∧ v.deep ≤ 16 ∧ v.sz ≤ 1048576) : v.right = true := by
  unfold V.right
  simp [h.1, h.2.1, h.2.2]
theorem TellsP.f {p : Prop} (h : ¬ p) : TellsP (some false) p := ⟨false, rfl, ⟨fun h => Bool.noConfusion h, fun k => absurd k h⟩⟩
theorem TellsP.t {p : Prop} (h : p) : TellsP (some true) p := ⟨true, rfl, ⟨fun _ => h, fun _ => rfl⟩⟩
theorem n_May_j2 {a : S_api_Answer} (h : Short a) (h0 : 0 ≤ a.Err ∧ a.Err ≤ 255) (h1 : 0 ≤ a.Number ∧ a.Number ≤ 1099511627776) : TellsP (m_answer_May_j2 a false) (AllP a) := by
  unfold m_answer_May_j2
  rw [n_all_string _ h.names h.name, n_all_Member _ h.members h.member, n_all_Past _ h.history h.past, n_answer_value h, bif_neg (c := false) rfl, Option.bind_some, Option.bind_some, Option.bind_some, Option.bind_some]
  cases b1 : a.Names.all nameB with
  | false => exact TellsP.f fun k => by rw [k.1] at b1; cases b1
  | true => cases b2 : a.Members.all memB with
    | false => exact TellsP.f fun k => by rw [k.2.1] at b2; cases b2
    | true => cases b3 : a.History.all pastB with
      | false => exact TellsP.f fun k => by rw [k.2.2] at b3; cases b3
      | true =>
        have hA : AllP a := ⟨b1, b2, b3⟩
        show TellsP (Option.bind (m_codec_Size (AV a)) _) _
        rw [n_Size, if_pos (right_of (AV_right h h0 h1 hA))]
        exact TellsP.t hA
theorem n_May_j1 {a : S_api_Answer} (h : Short a) (h0 : 0 ≤ a.Err ∧ a.Err ≤ 255) : TellsP (m_answer_May_j1 a false) (0 ≤ a.Number ∧ a.Number ≤ 1099511627776 ∧ (a.By ≠ [] → nameB a.By = true) ∧ AllP a) := by
  unfold m_answer_May_j1
  rw [bif_neg (c := false) rfl]
  by_cases h1 : a.Number < 0
  · rw [bif_pos (dec_t h1)]
    exact TellsP.f fun k => by omega
  · rw [bif_neg (dec_f h1)]
    by_cases h2 : a.Number > 1099511627776
    · rw [bif_pos (dec_t h2)]
      exact TellsP.f fun k => by omega
    · rw [bif_neg (dec_f h2)]
      have hj := n_May_j2 h h0 ⟨by omega, by omega⟩
      by_cases hb : a.By = []
      · rw [bif_neg (by simpa using hb)]
        exact hj.iff ⟨fun k => ⟨by omega, by omega, fun e => absurd hb e, k⟩, fun k => k.2.2.2⟩
      · rw [bif_pos (by simpa using hb), (nameB_iff h.by_).1, Option.bind_some]
        cases hn : nameB a.By with
        | true => exact hj.iff ⟨fun k => ⟨by omega, by omega, fun _ => rfl, k⟩, fun k => k.2.2.2⟩
        | false => exact TellsP.f fun k => by have := k.2.2.1 hb; cases this
theorem n_bare {a : S_api_Answer} (h : Short a) : TellsP (m_answer_bare a) (bareP a) := by
  have b1 := h.data
  have b2 := h.names
  have b3 := h.members
  have b4 := h.history
  unfold m_answer_bare
  rw [wi_id (z := (a.Data.length : Int) + (a.Names.length : Int)) (by omega) (by omega), wi_id (z := (a.Data.length : Int) + (a.Names.length : Int) + (a.Members.length : Int)) (by omega) (by omega), wi_id (by omega) (by omega), bif_and, bif_and]
  refine TellsP.of ?_
  simp only [Bool.and_eq_true, beq_iff_eq, bareP]
  refine and_congr_right fun _ => and_congr_right fun _ => ?_
  omega
theorem n_answer_May {a : S_api_Answer} (h : Short a) : TellsP (m_answer_May a) (MayQ a) := by
  unfold m_answer_May
  by_cases h1 : a.Err < 0
  · rw [bif_pos (dec_t h1)]
    exact TellsP.f fun k => by have := k.1; omega
  · rw [bif_neg (dec_f h1)]
    by_cases h2 : a.Err > 255
    · rw [bif_pos (dec_t h2)]
      exact TellsP.f fun k => by have := k.2.1; omega
    · rw [bif_neg (dec_f h2)]
      have hj := n_May_j1 h ⟨by omega, by omega⟩
      by_cases h3 : a.Err = 0
      · rw [bif_neg (ine_f h3)]
        exact hj.iff ⟨fun k => ⟨by omega, by omega, fun e => absurd h3 e, k⟩, fun k => k.2.2.2⟩
      · rw [bif_pos (ine_t h3)]
        obtain ⟨r, hr, hri⟩ := n_bare h
        rw [hr, Option.bind_some]
        cases r with
        | true => exact hj.iff ⟨fun k => ⟨by omega, by omega, fun _ => hri.1 rfl, k⟩, fun k => k.2.2.2⟩
        | false => exact TellsP.f fun k => by have := hri.2 (k.2.2.1 h3); cases this

/-! ### The document's bytes and what it lets be -/
theorem n_R31_Bytes_j3 {a : S_api_Answer} (h : Short a) (hr : (AV a).rpure = true ∧ (AV a).deep ≤ 16 ∧ (AV a).sz ≤ 1048576) : m_R31_Bytes_j3 a (a.Names.map wordV) (a.Members.map memV) (a.History.map pastV) = some (AV a).enc := by
  unfold m_R31_Bytes_j3
  rw [strB_big (by have := h.by_; omega)]
  show Option.bind (m_R02_Bytes (AV a).ht (AV a)) _ = _
  rw [n_R02_Bytes _ _ (Nat.le_refl _) hr.1 hr.2.2]
  rfl
theorem n_R31_Bytes {a : S_api_Answer} (h : Short a) (hr : (AV a).rpure = true ∧ (AV a).deep ≤ 16 ∧ (AV a).sz ≤ 1048576) : m_R31_Bytes a = some (AV a).enc := by
  have n1 := h.names
  have n2 := h.members
  have n3 := h.history
  unfold m_R31_Bytes
  refine (gather a.Names (by omega) wordV (m_R31_Bytes_l7 a) (m_R31_Bytes_j1 a) (fun n out i hi ho => by
    rw [m_R31_Bytes_l7]
    rw [bif_pos (dec_t (by omega)), idx_nat hi, Option.bind_some, strB_big (by have := h.name _ (List.getElem_mem hi); omega), Option.bind_some, wi_succ (by omega)]
    show Option.bind (appI 64 out [wordV a.Names[i]]) _ = _
    rw [app64 ho]
    rfl) (fun n out => by
    rw [m_R31_Bytes_l7]
    rw [bif_neg (dec_f (by omega))])).trans ?_
  unfold m_R31_Bytes_j1
  refine (gather a.Members (by omega) memV (m_R31_Bytes_l6 a (a.Names.map wordV)) (m_R31_Bytes_j2 a (a.Names.map wordV)) (fun n out i hi ho => by
    rw [m_R31_Bytes_l6]
    rw [bif_pos (dec_t (by omega)), idx_nat hi, Option.bind_some, strB_big (by have := h.member _ (List.getElem_mem hi); omega), Option.bind_some, wi_succ (by omega)]
    show Option.bind (appI 64 out [memV a.Members[i]]) _ = _
    rw [app64 ho]
    rfl) (fun n out => by
    rw [m_R31_Bytes_l6]
    rw [bif_neg (dec_f (by omega))])).trans ?_
  unfold m_R31_Bytes_j2
  refine (gather a.History (by omega) pastV (m_R31_Bytes_l4 a (a.Names.map wordV) (a.Members.map memV)) (m_R31_Bytes_j3 a (a.Names.map wordV) (a.Members.map memV)) (fun n out i hi ho => by
    rw [m_R31_Bytes_l4]
    rw [bif_pos (dec_t (by omega)), idx_nat hi, Option.bind_some]
    have key : ∀ g, bitI a.History[i].Gone = g → m_R31_Bytes_j5 (m_R31_Bytes_l4 a (a.Names.map wordV) (a.Members.map memV) n) a.History[i] out (i : Int) g = m_R31_Bytes_l4 a (a.Names.map wordV) (a.Members.map memV) n (out ++ [pastV a.History[i]]) ((i + 1 : Nat) : Int) := by
      intro g hg
      unfold m_R31_Bytes_j5
      rw [strB_big (by have := h.past _ (List.getElem_mem hi); omega), wi_succ (by omega), ← hg]
      show Option.bind (appI 64 out [pastV a.History[i]]) _ = _
      rw [app64 ho]
      rfl
    cases hg : a.History[i].Gone with
    | true => exact key 1 (by rw [hg]; rfl)
    | false => exact key 0 (by rw [hg]; rfl)) (fun n out => by
    rw [m_R31_Bytes_l4]
    rw [bif_neg (dec_f (by omega))])).trans ?_
  exact n_R31_Bytes_j3 h hr
/-- A loop that asks of each element. -/
theorem ask {α : Type} (l : List α) (hl : l.length ≤ 4096) (q : α → Bool) (F : Nat → Int → Option Bool) (K : Option Bool) (hstep : ∀ n i (hi : i < l.length), F (n + 1) (i : Int) = bif q l[i] then F n ((i + 1 : Nat) : Int) else some false) (hend : ∀ n, F (n + 1) (l.length : Int) = K) : F (l.length + 1) 0 = bif l.all q then K else some false := by
  have h := loop_then (len := l.length) F (fun i => ∀ x, l[i]? = some x → q x = true) K (some false) (fun n i hi => by
    rw [hstep n i hi]
    cases hq : q l[i] with
    | true => exact ⟨fun _ => rfl, fun k => absurd (fun x hx => by rw [List.getElem?_eq_getElem hi] at hx; injection hx with e; rw [← e]; exact hq) k⟩
    | false => exact ⟨fun k => Bool.noConfusion (hq.symm.trans (k _ (List.getElem?_eq_getElem hi))), fun _ => rfl⟩) hend (l.length + 1) 0 (by omega) (by omega)
  have e : F (l.length + 1) 0 = F (l.length + 1) ((0 : Nat) : Int) := rfl
  rw [e]
  by_cases hc : ∀ j, 0 ≤ j → j < l.length → ∀ x, l[j]? = some x → q x = true
  · have : l.all q = true := List.all_eq_true.2 fun x hx => by
      obtain ⟨i, hi, e⟩ := List.getElem_of_mem hx
      exact hc i (by omega) hi x (by rw [List.getElem?_eq_getElem hi, e])
    rw [h.1 hc, this]; rfl
  · have : l.all q = false := by
      cases hq : l.all q with
      | false => rfl
      | true => exact absurd (fun j _ hj x hx => List.all_eq_true.1 hq x (List.mem_of_getElem? hx)) hc
    rw [h.2 hc, this]; rfl
theorem n_R31_May_all {a : S_api_Answer} (h : Short a) (h0 : 0 ≤ a.Err ∧ a.Err ≤ 255) (h1 : 0 ≤ a.Number ∧ a.Number ≤ 1099511627776) : TellsP (m_R31_May_l7 a (a.Names.length + 1) 0) (AllP a) := by
  have n1 := h.names
  have n2 := h.members
  have n3 := h.history
  rw [ask a.Names (by omega) nameB (m_R31_May_l7 a) (m_R31_May_j2 a) (fun n i hi => by
    rw [m_R31_May_l7]
    rw [bif_pos (dec_t (by omega)), idx_nat hi, Option.bind_some, (nameB_iff (h.name _ (List.getElem_mem hi))).2.1, Option.bind_some, wi_succ (by omega)]
    cases nameB a.Names[i] <;> rfl) (fun n => by rw [m_R31_May_l7]; rw [bif_neg (dec_f (by omega))])]
  unfold m_R31_May_j2
  rw [ask a.Members (by omega) memB (m_R31_May_l6 a) (m_R31_May_j3 a) (fun n i hi => by
    rw [m_R31_May_l6]
    rw [bif_pos (dec_t (by omega)), idx_nat hi, Option.bind_some, (nameB_iff (h.member _ (List.getElem_mem hi))).2.1, Option.bind_some, Option.bind_some, Option.bind_some, wi_succ (by omega)]
    unfold memB
    cases nameB a.Members[i].Name with
    | false => rfl
    | true =>
      by_cases r1 : a.Members[i].Role < 1
      · rw [bif_neg (c := !true) rfl, bif_pos (dec_t r1), dec_f (by omega)]; rfl
      · by_cases r4 : a.Members[i].Role > 4
        · rw [bif_neg (c := !true) rfl, bif_neg (dec_f r1), bif_pos (dec_t r4), dec_t (p := a.Members[i].Role ≥ 1) (by omega), dec_f (by omega)]; rfl
        · rw [bif_neg (c := !true) rfl, bif_neg (dec_f r1), bif_neg (dec_f r4), dec_t (p := a.Members[i].Role ≥ 1) (by omega), dec_t (by omega)]; rfl) (fun n => by rw [m_R31_May_l6]; rw [bif_neg (dec_f (by omega))])]
  unfold m_R31_May_j3
  rw [ask a.History (by omega) pastB (m_R31_May_l5 a) (m_R31_May_j4 a) (fun n i hi => by
    rw [m_R31_May_l5]
    rw [bif_pos (dec_t (by omega)), idx_nat hi, Option.bind_some, (nameB_iff (h.past _ (List.getElem_mem hi))).2.1, Option.bind_some, wi_succ (by omega)]
    unfold pastB
    have e1 : decide (a.History[i].Number ≥ 1) = !decide (a.History[i].Number < 1) := by rw [Bool.eq_iff_iff]; simp
    have e2 : decide (a.History[i].Number ≤ 1099511627776) = !decide (a.History[i].Number > 1099511627776) := by rw [Bool.eq_iff_iff]; simp
    have e3 : decide (a.History[i].Epoch ≥ 1) = !decide (a.History[i].Epoch < 1) := by rw [Bool.eq_iff_iff]; simp
    have e4 : decide (a.History[i].Epoch ≤ 1099511627776) = !decide (a.History[i].Epoch > 1099511627776) := by rw [Bool.eq_iff_iff]; simp
    rw [e1, e2, e3, e4]
    cases decide (a.History[i].Number < 1) <;> cases decide (a.History[i].Number > 1099511627776) <;> cases decide (a.History[i].Epoch < 1) <;> cases decide (a.History[i].Epoch > 1099511627776) <;> cases nameB a.History[i].By <;> rfl) (fun n => by rw [m_R31_May_l5]; rw [bif_neg (dec_f (by omega))])]
  cases b1 : a.Names.all nameB with
  | false => exact TellsP.f fun k => by rw [k.1] at b1; cases b1
  | true => cases b2 : a.Members.all memB with
    | false => exact TellsP.f fun k => by rw [k.2.1] at b2; cases b2
    | true => cases b3 : a.History.all pastB with
      | false => exact TellsP.f fun k => by rw [k.2.2] at b3; cases b3
      | true =>
        have hA : AllP a := ⟨b1, b2, b3⟩
        have hr := AV_right h h0 h1 hA
        show TellsP (m_R31_May_j4 a) _
        unfold m_R31_May_j4
        rw [n_R31_Bytes h hr, Option.bind_some, V.enc_length, dec_t (by omega)]
        exact TellsP.t hA
theorem n_R31_May_j1 {a : S_api_Answer} (h : Short a) (h0 : 0 ≤ a.Err ∧ a.Err ≤ 255) (h1 : 0 ≤ a.Number ∧ a.Number ≤ 1099511627776) (hb : a.By ≠ [] → nameB a.By = true) : TellsP (m_R31_May_j1 a) (MayQ a) := by
  have n0 := h.data
  have n1 := h.names
  have n2 := h.members
  have n3 := h.history
  unfold m_R31_May_j1
  by_cases h3 : a.Err = 0
  · rw [bif_neg (ine_f h3), bif_neg (dec_f (by omega)), bif_neg (dec_f (by omega)), bif_neg (dec_f (by omega)), bif_neg (dec_f (by omega))]
    exact (n_R31_May_all h h0 h1).iff ⟨fun k => ⟨h0.1, h0.2, fun e => absurd h3 e, h1.1, h1.2, hb, k⟩, fun k => k.2.2.2.2.2.2⟩
  · rw [bif_pos (ine_t h3), wi_id (z := (a.Names.length : Int) + (a.Members.length : Int)) (by omega) (by omega), wi_id (by omega) (by omega), bif_and, bif_and, bif_and]
    refine TellsP.of ?_
    simp only [Bool.and_eq_true, beq_iff_eq]
    constructor
    · rintro ⟨k1, k2, k3, k4⟩
      have l1 : a.Names = [] := List.length_eq_zero_iff.1 (by omega)
      have l2 : a.Members = [] := List.length_eq_zero_iff.1 (by omega)
      have l3 : a.History = [] := List.length_eq_zero_iff.1 (by omega)
      exact ⟨h0.1, h0.2, fun _ => ⟨k1, k2, by omega, by omega, by omega, by omega⟩, h1.1, h1.2, hb, by rw [l1]; rfl, by rw [l2]; rfl, by rw [l3]; rfl⟩
    · rintro ⟨_, _, k, _⟩
      obtain ⟨k1, k2, k3, k4, k5, k6⟩ := k h3
      exact ⟨k1, k2, by omega, by omega⟩
theorem n_R31_May {a : S_api_Answer} (h : Short a) : TellsP (m_R31_May a) (MayQ a) := by
  unfold m_R31_May
  by_cases h1 : a.Err < 0
  · rw [bif_pos (dec_t h1)]
    exact TellsP.f fun k => by have := k.1; omega
  rw [bif_neg (dec_f h1)]
  by_cases h2 : a.Err > 255
  · rw [bif_pos (dec_t h2)]
    exact TellsP.f fun k => by have := k.2.1; omega
  rw [bif_neg (dec_f h2)]
  by_cases h3 : a.Number < 0
  · rw [bif_pos (dec_t h3)]
    exact TellsP.f fun k => by have := k.2.2.2.1; omega
  rw [bif_neg (dec_f h3)]
  by_cases h4 : a.Number > 1099511627776
  · rw [bif_pos (dec_t h4)]
    exact TellsP.f fun k => by have := k.2.2.2.2.1; omega
  rw [bif_neg (dec_f h4)]
  by_cases hb : a.By = []
  · rw [bif_neg (by simpa using hb)]
    exact n_R31_May_j1 h ⟨by omega, by omega⟩ ⟨by omega, by omega⟩ fun e => absurd hb e
  · rw [bif_pos (by simpa using hb), (nameB_iff h.by_).2.1, Option.bind_some]
    cases hn : nameB a.By with
    | true => exact n_R31_May_j1 h ⟨by omega, by omega⟩ ⟨by omega, by omega⟩ fun _ => hn
    | false => exact TellsP.f fun k => by have := k.2.2.2.2.2.1 hb; rw [hn] at this; cases this
end Go.Proofs.Yteopjhakjeknaaa
