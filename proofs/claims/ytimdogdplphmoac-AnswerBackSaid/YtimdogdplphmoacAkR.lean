/-
  Answers read back from their bytes: the models, plain; the law AnswerBack.
-/
import Derived.Test.YtimdogdplphmoacAkN
namespace Go.Proofs.Ytimdogdplphmoac
open Go Go.RowKit
set_option linter.unusedVariables false
set_option linter.unusedSimpArgs false
set_option maxRecDepth 20000

/-- A loop over a list's images that gathers them back. -/
theorem back {α γ : Type} (l : List α) (hl : l.length ≤ 4096) (g : α → V) (F : Nat → List α → Int → Option γ) (K : List α → Option γ)
    (hstep : ∀ n out i (hi : i < l.length), out.length ≤ 4096 → F (n + 1) out (i : Int) = F n (out ++ [l[i]]) ((i + 1 : Nat) : Int)) (hend : ∀ n out, F (n + 1) out (l.length : Int) = K out) : F ((l.map g).length + 1) [] 0 = K l := by
  rw [List.length_map]
  have h := gather l hl id F K hstep hend
  rw [List.map_id] at h
  exact h
theorem idx_map {α : Type} {l : List α} {g : α → V} {i : Nat} (h : i < l.length) : idx (l.map g) (i : Int) = some (g l[i]) := by
  rw [idx_nat (by simpa using h), List.getElem_map]
theorem n_things_string (l : List (List UInt8)) (hl : l.length ≤ 30) : m_answer_things_string (listV (l.map wordV)) m_answer_name = some (l, true) := by
  unfold m_answer_things_string
  refine back l (by omega) wordV (m_answer_things_string_l2 (listV (l.map wordV)) m_answer_name) m_answer_things_string_j1 (fun n out i hi ho => ?_) (fun n out => ?_)
  · rw [m_answer_things_string_l2]
    show (bif decide ((i : Int) < ((l.map wordV).length : Int)) then Option.bind (idx (l.map wordV) (i : Int)) _ else _) = _
    rw [bif_pos (dec_t (by rw [List.length_map]; omega)), idx_map hi, Option.bind_some, wi_succ (by omega)]
    show Option.bind (appI 16 out [l[i]]) _ = _
    rw [appI_ok (by simp; omega)]
    rfl
  · rw [m_answer_things_string_l2]
    show (bif decide ((l.length : Int) < ((l.map wordV).length : Int)) then _ else m_answer_things_string_j1 out) = _
    rw [bif_neg (dec_f (by rw [List.length_map]; omega))]
theorem n_Read_c1 (x : S_api_Member) : m_answer_Read_c1 (memV x) = some (x, true) := by
  unfold m_answer_Read_c1
  rw [n_Fields _ _ (by decide), if_pos (show kindsB (memV x) [2, 1] = true from rfl)]
  cases x
  rfl
theorem n_Read_c2 (x : S_api_Past) : m_answer_Read_c2 (pastV x) = some (x, true) := by
  unfold m_answer_Read_c2
  rw [n_Fields _ _ (by decide), if_pos (show kindsB (pastV x) [1, 1, 1, 2] = true from rfl)]
  obtain ⟨a, b, c, d⟩ := x
  cases c <;> rfl
theorem n_things_Member (l : List S_api_Member) (hl : l.length ≤ 30) : m_answer_things_Member (listV (l.map memV)) m_answer_Read_c1 = some (l, true) := by
  unfold m_answer_things_Member
  refine back l (by omega) memV (m_answer_things_Member_l2 (listV (l.map memV)) m_answer_Read_c1) m_answer_things_Member_j1 (fun n out i hi ho => ?_) (fun n out => ?_)
  · rw [m_answer_things_Member_l2]
    show (bif decide ((i : Int) < ((l.map memV).length : Int)) then Option.bind (idx (l.map memV) (i : Int)) _ else _) = _
    rw [bif_pos (dec_t (by rw [List.length_map]; omega)), idx_map hi, Option.bind_some, n_Read_c1, Option.bind_some, wi_succ (by omega)]
    show Option.bind (appI 24 out [l[i]]) _ = _
    rw [appI_ok (by simp; omega)]
    rfl
  · rw [m_answer_things_Member_l2]
    show (bif decide ((l.length : Int) < ((l.map memV).length : Int)) then _ else m_answer_things_Member_j1 out) = _
    rw [bif_neg (dec_f (by rw [List.length_map]; omega))]
theorem n_things_Past (l : List S_api_Past) (hl : l.length ≤ 30) : m_answer_things_Past (listV (l.map pastV)) m_answer_Read_c2 = some (l, true) := by
  unfold m_answer_things_Past
  refine back l (by omega) pastV (m_answer_things_Past_l2 (listV (l.map pastV)) m_answer_Read_c2) m_answer_things_Past_j1 (fun n out i hi ho => ?_) (fun n out => ?_)
  · rw [m_answer_things_Past_l2]
    show (bif decide ((i : Int) < ((l.map pastV).length : Int)) then Option.bind (idx (l.map pastV) (i : Int)) _ else _) = _
    rw [bif_pos (dec_t (by rw [List.length_map]; omega)), idx_map hi, Option.bind_some, n_Read_c2, Option.bind_some, wi_succ (by omega)]
    show Option.bind (appI 40 out [l[i]]) _ = _
    rw [appI_ok (by simp; omega)]
    rfl
  · rw [m_answer_things_Past_l2]
    show (bif decide ((l.length : Int) < ((l.map pastV).length : Int)) then _ else m_answer_things_Past_j1 out) = _
    rw [bif_neg (dec_f (by rw [List.length_map]; omega))]
theorem n_answer_Read {a : S_api_Answer} (h : Short a) (hm : MayQ a) : m_answer_Read (AV a).enc = some (a, 0) := by
  have h255 := hm.2.1
  unfold m_answer_Read
  rw [n_Decode]
  unfold decA
  rw [decS_enc (hm.right h)]
  simp only [Option.bind_some]
  rw [bif_neg (c := (0 : Int) != 0) rfl, n_Fields _ _ (by decide), if_pos (show kindsB (AV a) [1, 1, 2, 2, 3, 3, 3] = true from rfl), Option.bind_some]
  show (bif decide (a.Err > 255) then _ else Option.bind (m_answer_things_string (listV (a.Names.map wordV)) m_answer_name) _) = _
  rw [bif_neg (dec_f (by omega)), n_things_string _ h.names, Option.bind_some]
  show Option.bind (m_answer_things_Member (listV (a.Members.map memV)) m_answer_Read_c1) _ = _
  rw [n_things_Member _ h.members, Option.bind_some]
  show Option.bind (m_answer_things_Past (listV (a.History.map pastV)) m_answer_Read_c2) _ = _
  rw [n_things_Past _ h.history, Option.bind_some]
  show Option.bind (m_answer_May a) _ = _
  rw [(n_answer_May h).yes hm]
  rfl
theorem n_answer_Write {a : S_api_Answer} (h : Short a) : (MayQ a → m_answer_Write a = some ((AV a).enc, 0)) ∧ (¬ MayQ a → m_answer_Write a = some ([], 2)) := by
  unfold m_answer_Write
  refine ⟨fun hm => ?_, fun hm => ?_⟩
  · rw [(n_answer_May h).yes hm, Option.bind_some, bif_neg (c := !true) rfl, n_answer_value h, Option.bind_some]
    show Option.bind (m_codec_Encode (AV a)) _ = _
    rw [n_Encode, if_pos (right_of (hm.right h))]
    rfl
  · rw [(n_answer_May h).no hm]
    rfl
theorem same_self {α : Type} (l : List α) (hl : l.length ≤ 4096) (eq : α → α → Bool) (heq : ∀ x, eq x x = true) (F : Nat → Int → Option Bool) (K : Option Bool)
    (hF : ∀ n z, F (n + 1) z = bif decide (z < (l.length : Int)) then (Option.bind (idx l z) fun x => Option.bind (idx l z) fun y => bif (!(eq x y)) then some false else F n (wi (z + 1))) else K) : F (l.length + 1) 0 = K := by
  have h := loop_then (len := l.length) F (fun _ => True) K (some false) (fun n i hi => by
    rw [hF, bif_pos (dec_t (by omega)), idx_nat hi, Option.bind_some, Option.bind_some, wi_succ (by omega), heq]
    exact ⟨fun _ => rfl, fun h => absurd trivial h⟩) (fun n => by rw [hF, bif_neg (dec_f (by omega))]) (l.length + 1) 0 (by omega) (by omega)
  exact h.1 fun _ _ _ => trivial
theorem n_R31_Same {a : S_api_Answer} (h : Short a) : m_R31_Same a a = some true := by
  have n0 := h.data
  have n1 := h.names
  have n2 := h.members
  have n3 := h.history
  unfold m_R31_Same
  rw [bif_neg (ine_f rfl), bif_neg (ine_f rfl), bif_neg (by simp), n_R01_Same _ _ (by omega), Option.bind_some, beq_self_eq_true, bif_neg (c := !true) rfl, bif_neg (ine_f rfl)]
  have hm : m_R27_Same a.Members a.Members = some true := by
    unfold m_R27_Same
    rw [bif_neg (ine_f rfl)]
    exact same_self a.Members (by omega) (fun x y => (x.Name == y.Name) && ((x.Role == y.Role) && true)) (fun x => by simp) (m_R27_Same_l1 a.Members a.Members) (some true) (fun n z => by rw [m_R27_Same_l1])
  rw [hm, Option.bind_some, bif_neg (c := !true) rfl, bif_neg (ine_f rfl)]
  rw [same_self a.Names (by omega) (fun x y => x == y) (fun x => by simp) (m_R31_Same_l3 a a) (m_R31_Same_j1 a a) (fun n z => by rw [m_R31_Same_l3])]
  unfold m_R31_Same_j1
  exact same_self a.History (by omega) (fun x y => (x.Number == y.Number) && ((x.Epoch == y.Epoch) && ((x.Gone == y.Gone) && ((x.By == y.By) && true)))) (fun x => by simp) (m_R31_Same_l2 a a) (some true) (fun n z => by rw [m_R31_Same_l2])
theorem n_AnswerBack (a : S_api_Answer) (ha : ALen a) : m_L31_AnswerBack a = some true := by
  unfold m_L31_AnswerBack
  rw [awake31, Option.bind_some, bif_neg (c := !true) rfl]
  obtain ⟨r, hr, hf⟩ := n_few31 a ha
  rw [hr, Option.bind_some]
  cases r with
  | false => rfl
  | true =>
    have h := hf rfl
    rw [bif_neg (c := !true) rfl]
    by_cases hm : MayQ a
    · rw [(n_answer_Write h).1 hm, Option.bind_some, (n_R31_May h).yes hm, Option.bind_some, bif_neg (c := !true) rfl]
      show Option.bind (m_answer_Read (AV a).enc) _ = _
      rw [n_answer_Read h hm, Option.bind_some, (n_answer_May h).yes hm, Option.bind_some, bif_pos (c := true) rfl]
      show (bif ((0 : Int) == 0) then Option.bind (m_R31_Bytes a) _ else _) = _
      have hs := hm.right h
      rw [bif_pos (ieq_t rfl), n_R31_Bytes h hs, Option.bind_some]
      show Option.bind (m_R01_Same (AV a).enc (AV a).enc) _ = _
      have hs3 := hs.2.2
      rw [n_R01_Same _ _ (by rw [V.enc_length]; omega), Option.bind_some, beq_self_eq_true, bif_pos (c := true) rfl]
      show (bif ((0 : Int) == 0) then Option.bind (m_R31_Same a a) _ else _) = _
      rw [bif_pos (ieq_t rfl), n_R31_Same h]
      rfl
    · rw [(n_answer_Write h).2 hm, Option.bind_some, (n_R31_May h).no hm, Option.bind_some, bif_pos (c := !false) rfl]
      show (bif ((2 : Int) == 2) then (bif ((([] : List UInt8).length : Int) == 0) then Option.bind (m_answer_May a) _ else _) else _) = _
      rw [bif_pos (ieq_t rfl), bif_pos (c := (([] : List UInt8).length : Int) == 0) rfl, (n_answer_May h).no hm]
      rfl
end Go.Proofs.Ytimdogdplphmoac
