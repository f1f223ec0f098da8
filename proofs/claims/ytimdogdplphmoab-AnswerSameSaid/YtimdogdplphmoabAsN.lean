/-
  Equality of answers: the models, plain; the law AnswerSame.
-/
import Derived.Test.YtimdogdplphmoabAsM
import Derived.Test.YtimdogdplphmoabCbN
import Derived.Test.YtimdogdplphmoabLoop
namespace Go.Proofs.Ytimdogdplphmoab
open Go Go.RowKit
set_option linter.unusedVariables false
set_option linter.unusedSimpArgs false
set_option maxRecDepth 20000

theorem awake31 : m_L31_awake = some true := by kernel_rfl
/-- Two lists held against each other; where they are one, it goes on. -/
theorem pairs {α : Type} (a b : List α) (hl : a.length = b.length) (hb : a.length < 4611686018427387904) (eq : α → α → Bool) (heq : ∀ x y, eq x y = true ↔ x = y) (F : Nat → Int → Option Bool) (K : Option Bool)
    (hF : ∀ n z, F (n + 1) z = bif decide (z < (a.length : Int)) then (Option.bind (idx a z) fun x => Option.bind (idx b z) fun y => bif (!(eq x y)) then some false else F n (wi (z + 1))) else K) :
    (a = b → F (a.length + 1) 0 = K) ∧ (a ≠ b → F (a.length + 1) 0 = some false) := by
  have h := loop_then (len := a.length) F (fun i => a[i]? = b[i]?) K (some false) (fun n i hi => by
    have hi' : i < b.length := by omega
    rw [hF, bif_pos (dec_t (by omega)), idx_nat hi, Option.bind_some, idx_nat hi', Option.bind_some, wi_succ (by omega), List.getElem?_eq_getElem hi, List.getElem?_eq_getElem hi']
    cases he : eq a[i] b[i] with
    | true => exact ⟨fun _ => rfl, fun h => absurd (by rw [(heq _ _).1 he]) h⟩
    | false =>
      refine ⟨fun h => ?_, fun _ => rfl⟩
      injection h with h
      rw [(heq _ _).2 h] at he
      cases he) (fun n => by rw [hF, bif_neg (dec_f (by omega))]) (a.length + 1) 0 (by omega) (by omega)
  refine ⟨fun e => h.1 fun j _ _ => by rw [e], fun e => h.2 fun hc => e ?_⟩
  refine List.ext_getElem? fun i => ?_
  by_cases hi : i < a.length
  · exact hc i (by omega) hi
  · rw [List.getElem?_eq_none (by omega), List.getElem?_eq_none (by omega)]
theorem pairsT {α : Type} (a b : List α) (ha : a.length < 4611686018427387904) (eq : α → α → Bool) (heq : ∀ x y, eq x y = true ↔ x = y) (F : Nat → Int → Option Bool)
    (hF : ∀ n z, F (n + 1) z = bif decide (z < (a.length : Int)) then (Option.bind (idx a z) fun x => Option.bind (idx b z) fun y => bif (!(eq x y)) then some false else F n (wi (z + 1))) else some true) :
    TellsP (bif ((a.length : Int) != (b.length : Int)) then (some false) else F (a.length + 1) 0) (a = b) := by
  by_cases hl : a.length = b.length
  · rw [bif_neg (ine_f (by omega))]
    obtain ⟨h1, h2⟩ := pairs a b hl ha eq heq F (some true) hF
    by_cases e : a = b
    · exact ⟨true, h1 e, ⟨fun _ => e, fun _ => rfl⟩⟩
    · exact ⟨false, h2 e, ⟨fun h => Bool.noConfusion h, fun h => absurd h e⟩⟩
  · rw [bif_pos (ine_t (by omega))]
    exact ⟨false, rfl, ⟨fun h => Bool.noConfusion h, fun h => absurd (by rw [h]) hl⟩⟩
theorem mem_eq (x y : S_api_Member) : ((x.Name == y.Name) && ((x.Role == y.Role) && true)) = true ↔ x = y := by
  cases x; cases y
  simp
theorem past_eq (x y : S_api_Past) : ((x.Number == y.Number) && ((x.Epoch == y.Epoch) && ((x.Gone == y.Gone) && ((x.By == y.By) && true)))) = true ↔ x = y := by
  cases x; cases y
  simp
theorem txt_eq (x y : List UInt8) : (x == y) = true ↔ x = y := by simp
structure AFit (a : S_api_Answer) : Prop where
  data : a.Data.length < 4611686018427387904
  names : a.Names.length < 4611686018427387904
  members : a.Members.length < 4611686018427387904
  history : a.History.length < 4611686018427387904
theorem ans_eq (a b : S_api_Answer) : a = b ↔ a.Err = b.Err ∧ a.Number = b.Number ∧ a.By = b.By ∧ a.Data = b.Data ∧ a.Names = b.Names ∧ a.Members = b.Members ∧ a.History = b.History := by
  cases a; cases b
  simp
/-- One step of a chain of questions. -/
theorem chain {x : Option Bool} {K : Option Bool} {p q : Prop} (hx : TellsP x p) (hK : p → TellsP K q) : TellsP (Option.bind x fun e => bif e then K else some false) (p ∧ q) := by
  obtain ⟨r, h1, h2⟩ := hx
  rw [h1, Option.bind_some]
  cases r with
  | true => exact (hK (h2.1 rfl)).iff ⟨fun h => ⟨h2.1 rfl, h⟩, fun h => h.2⟩
  | false => exact ⟨false, rfl, ⟨fun h => Bool.noConfusion h, fun h => h2.2 h.1⟩⟩
theorem chainN {x : Option Bool} {K : Option Bool} {p q : Prop} (hx : TellsP x p) (hK : p → TellsP K q) : TellsP (Option.bind x fun e => bif (!e) then some false else K) (p ∧ q) := by
  have h := chain hx hK
  have e : (fun e => bif (!e) then some false else K) = fun e => bif e then K else some false := funext fun e => by cases e <;> rfl
  rw [e]
  exact h
theorem chainB {c : Bool} {K : Option Bool} {p q : Prop} (hx : c = false ↔ p) (hK : p → TellsP K q) : TellsP (bif c then some false else K) (p ∧ q) := by
  cases c with
  | false => exact (hK (hx.1 rfl)).iff ⟨fun h => ⟨hx.1 rfl, h⟩, fun h => h.2⟩
  | true => exact ⟨false, rfl, ⟨fun h => Bool.noConfusion h, fun h => by have := hx.2 h.1; cases this⟩⟩
theorem tells_eta {x : Option Bool} {p : Prop} (h : TellsP x p) : TellsP (Option.bind x fun e => some e) p := by
  obtain ⟨r, h1, h2⟩ := h
  exact ⟨r, by rw [h1]; rfl, h2⟩
theorem n_answer_Same (a b : S_api_Answer) (ha : AFit a) : TellsP (m_answer_Same a b) (a = b) := by
  refine TellsP.iff ?_ (ans_eq a b).symm
  unfold m_answer_Same
  refine chainB (by simp) fun _ => ?_
  refine chainB (by simp) fun _ => ?_
  refine chainB (by simp) fun _ => ?_
  refine chainN (p := a.Data = b.Data) ⟨a.Data == b.Data, rfl, by simp⟩ fun _ => ?_
  refine chain (pairsT a.Names b.Names ha.names _ txt_eq (m_slices_Equal_string_l1 a.Names b.Names) (fun n z => by rw [m_slices_Equal_string_l1])) fun _ => ?_
  refine chain (pairsT a.Members b.Members ha.members _ mem_eq (m_slices_Equal_Member_l1 a.Members b.Members) (fun n z => by rw [m_slices_Equal_Member_l1])) fun _ => ?_
  exact tells_eta (pairsT a.History b.History ha.history _ past_eq (m_slices_Equal_Past_l1 a.History b.History) (fun n z => by rw [m_slices_Equal_Past_l1]))
theorem n_R31_Same (a b : S_api_Answer) (ha : AFit a) : TellsP (m_R31_Same a b) (a = b) := by
  have h : TellsP (m_R31_Same a b) (a.Err = b.Err ∧ a.Number = b.Number ∧ a.By = b.By ∧ a.Data = b.Data ∧ a.Names.length = b.Names.length ∧ a.Members = b.Members ∧ a.History.length = b.History.length ∧ a.Names = b.Names ∧ a.History = b.History) := by
    unfold m_R31_Same
    refine chainB (by simp) fun _ => ?_
    refine chainB (by simp) fun _ => ?_
    refine chainB (by simp) fun _ => ?_
    refine chainN (p := a.Data = b.Data) ⟨a.Data == b.Data, n_R01_Same _ _ ha.data, by simp⟩ fun _ => ?_
    refine chainB (by simp; omega) fun hn => ?_
    refine chainN (pairsT a.Members b.Members ha.members _ mem_eq (m_R27_Same_l1 a.Members b.Members) (fun n z => by rw [m_R27_Same_l1])) fun _ => ?_
    refine chainB (by simp; omega) fun hh => ?_
    obtain ⟨h1, h2⟩ := pairs a.Names b.Names hn ha.names _ txt_eq (m_R31_Same_l3 a b) (m_R31_Same_j1 a b) (fun n z => by rw [m_R31_Same_l3])
    obtain ⟨k1, k2⟩ := pairs a.History b.History hh ha.history _ past_eq (m_R31_Same_l2 a b) (some true) (fun n z => by rw [m_R31_Same_l2])
    by_cases e : a.Names = b.Names
    · rw [h1 e]
      unfold m_R31_Same_j1
      by_cases e2 : a.History = b.History
      · exact ⟨true, k1 e2, ⟨fun _ => ⟨e, e2⟩, fun _ => rfl⟩⟩
      · exact ⟨false, k2 e2, ⟨fun h => Bool.noConfusion h, fun h => absurd h.2 e2⟩⟩
    · exact ⟨false, h2 e, ⟨fun h => Bool.noConfusion h, fun h => absurd h.1 e⟩⟩
  refine h.iff ?_
  rw [ans_eq]
  constructor
  · rintro ⟨h1, h2, h3, h4, _, h6, _, h8, h9⟩
    exact ⟨h1, h2, h3, h4, h8, h6, h9⟩
  · rintro ⟨h1, h2, h3, h4, h8, h6, h9⟩
    exact ⟨h1, h2, h3, h4, by rw [h8], h6, by rw [h9], h8, h9⟩
/-- Short ones: it is told whether they are. -/
theorem few_loop {α : Type} (l : List α) (hl : l.length ≤ 9223372036854775807) (ln : α → Nat) (F : Nat → Int → Option Bool) (K : Option Bool) (hF : ∀ n z, F (n + 1) z = bif decide (z < (l.length : Int)) then (Option.bind (idx l z) fun x => bif decide ((ln x : Int) > 20) then some false else F n (wi (z + 1))) else K) : F (l.length + 1) 0 = K ∨ F (l.length + 1) 0 = some false := by
  have h := loop_then (len := l.length) F (fun i => ∀ x, l[i]? = some x → ln x ≤ 20) K (some false) (fun n i hi => by
    rw [hF, bif_pos (dec_t (by omega)), idx_nat hi, Option.bind_some, wi_succ (by omega)]
    by_cases h : ln l[i] ≤ 20
    · rw [bif_neg (dec_f (by omega))]
      exact ⟨fun _ => rfl, fun k => absurd (fun x hx => by rw [List.getElem?_eq_getElem hi] at hx; injection hx with e; rw [← e]; exact h) k⟩
    · rw [bif_pos (dec_t (by omega))]
      exact ⟨fun k => absurd (k _ (List.getElem?_eq_getElem hi)) h, fun _ => rfl⟩) (fun n => by rw [hF, bif_neg (dec_f (by omega))]) (l.length + 1) 0 (by omega) (by omega)
  by_cases hc : ∀ j, 0 ≤ j → j < l.length → ∀ x, l[j]? = some x → ln x ≤ 20
  · exact .inl (h.1 hc)
  · exact .inr (h.2 hc)
structure ALen (a : S_api_Answer) : Prop where
  names : a.Names.length ≤ 9223372036854775807
  members : a.Members.length ≤ 9223372036854775807
  history : a.History.length ≤ 9223372036854775807
theorem n_few31 (a : S_api_Answer) (h : ALen a) : ∃ r, m_L31_few a = some r ∧ (r = true → AFit a) := by
  unfold m_L31_few
  rcases few_loop a.Names h.names List.length (m_L31_few_l6 a) (m_L31_few_j1 a) (fun n z => by rw [m_L31_few_l6]) with e | e <;> rw [e]
  case inr => exact ⟨false, rfl, fun h => Bool.noConfusion h⟩
  unfold m_L31_few_j1
  rcases few_loop a.Members h.members (fun x => x.Name.length) (m_L31_few_l5 a) (m_L31_few_j2 a) (fun n z => by rw [m_L31_few_l5]) with e | e <;> rw [e]
  case inr => exact ⟨false, rfl, fun h => Bool.noConfusion h⟩
  unfold m_L31_few_j2
  rcases few_loop a.History h.history (fun x => x.By.length) (m_L31_few_l4 a) (m_L31_few_j3 a) (fun n z => by rw [m_L31_few_l4]) with e | e <;> rw [e]
  case inr => exact ⟨false, rfl, fun h => Bool.noConfusion h⟩
  unfold m_L31_few_j3
  rw [bif_and, bif_and, bif_and, bif_and]
  refine ⟨_, rfl, fun h => ?_⟩
  simp only [Bool.and_eq_true, decide_eq_true_eq] at h
  exact ⟨by omega, by omega, by omega, by omega⟩
theorem n_AnswerSame (a b : S_api_Answer) (ha : ALen a) (hb : ALen b) : m_L31_AnswerSame a b = some true := by
  unfold m_L31_AnswerSame
  rw [awake31, Option.bind_some, bif_neg (c := !true) rfl]
  obtain ⟨r, hr, hfa⟩ := n_few31 a ha
  obtain ⟨s, hs, hfb⟩ := n_few31 b hb
  rw [hr, Option.bind_some]
  cases r with
  | false => rfl
  | true =>
    rw [bif_neg (c := !true) rfl, hs, Option.bind_some]
    cases s with
    | false => rfl
    | true =>
      have fa := hfa rfl
      obtain ⟨x, hx, hxi⟩ := n_answer_Same a b fa
      obtain ⟨y, hy, hyi⟩ := n_R31_Same a b fa
      have e : x = y := by rw [Bool.eq_iff_iff, hxi, hyi]
      rw [bif_neg (c := !true) rfl, hx, Option.bind_some, hy, Option.bind_some, e, beq_self_eq_true, (n_answer_Same a a fa).yes rfl]
      rfl
end Go.Proofs.Ytimdogdplphmoab
