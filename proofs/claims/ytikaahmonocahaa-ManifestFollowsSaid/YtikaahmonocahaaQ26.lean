/-
  Texts joined: see the remark at the head of each part.
-/
import Derived.Test.YtikaahmonocahaaQ25
import Derived.Test.YtikaahmonocahaaQ24
import Derived.Test.YtikaahmonocahaaQ10
import Derived.ProofKit
import Derived.Lib.SmallJoins
/-
  ManifestFollows, as plain law: steps, what follows, what begins.
-/
namespace Go.Proofs.Ytikaahmonocahaa
open Go Go.RowKit
set_option linter.unusedVariables false
set_option linter.unusedSimpArgs false
set_option maxRecDepth 20000

def difA (was now : List S_api_Member) : List (List UInt8) := (was.filter (fun x => ofM now x.Name != x.Role)).map (·.Name)
def difB (was now : List S_api_Member) : List (List UInt8) := (now.filter (fun x => ofM was x.Name == 0)).map (·.Name)
def lastN : List (List UInt8) → List UInt8 → List UInt8
  | [], y => y
  | a :: D, _ => lastN D a
theorem dif_len {l : List S_api_Member} (p : S_api_Member → Bool) (i : Nat) : (((l.drop i).filter p).map (·.Name)).length ≤ l.length := by
  rw [List.length_map]
  have := List.length_filter_le p (l.drop i)
  rw [List.length_drop] at this
  omega
section
variable {was now : List S_api_Member} (hw : was.length ≤ 8) (hn : now.length ≤ 8)
include hw hn
theorem n_differ_l2 : ∀ (n i : Nat) (out : List (List UInt8)), i ≤ now.length → now.length - i < n → out.length ≤ 100 + i → m_role_differ_l2 now was n out (i : Int) = some (out ++ difB was (now.drop i))
  | 0, i, out, _, h, _ => by omega
  | n + 1, i, out, hi, h, ho => by
    unfold m_role_differ_l2
    by_cases hlt : i < now.length
    · rw [bif_pos (dec_t (by omega)), idx_nat hlt, Option.bind_some, n_Of was _ (by omega), Option.bind_some, List.drop_eq_getElem_cons hlt, wi_succ (by omega)]
      unfold difB
      rw [List.filter_cons]
      cases hb : (ofM was now[i].Name == 0) with
      | true =>
        rw [cond_true, appI_ok (by simp; omega), Option.bind_some, n_differ_l2 n (i + 1) _ (by omega) (by omega) (by simp; omega), if_pos rfl]
        unfold difB
        simp
      | false =>
        rw [cond_false, n_differ_l2 n (i + 1) _ (by omega) (by omega) (by omega), if_neg (by simp)]
        rfl
    · rw [bif_neg (dec_f (by omega)), List.drop_eq_nil_of_le (by omega)]
      simp [difB]
theorem n_differ_l3 : ∀ (n i : Nat) (out : List (List UInt8)), i ≤ was.length → was.length - i < n → out.length ≤ i → m_role_differ_l3 was now n out (i : Int) = some ((out ++ difA (was.drop i) now) ++ difB was now)
  | 0, i, out, _, h, _ => by omega
  | n + 1, i, out, hi, h, ho => by
    unfold m_role_differ_l3
    by_cases hlt : i < was.length
    · rw [bif_pos (dec_t (by omega)), idx_nat hlt, Option.bind_some, n_Of now _ (by omega), Option.bind_some, List.drop_eq_getElem_cons hlt, wi_succ (by omega)]
      unfold difA
      rw [List.filter_cons]
      cases hb : (ofM now was[i].Name != was[i].Role) with
      | true =>
        rw [cond_true, appI_ok (by simp; omega), Option.bind_some, n_differ_l3 n (i + 1) _ (by omega) (by omega) (by simp; omega), if_pos rfl]
        unfold difA
        simp
      | false =>
        rw [cond_false, n_differ_l3 n (i + 1) _ (by omega) (by omega) (by omega), if_neg (by simp)]
        rfl
    · rw [bif_neg (dec_f (by omega)), List.drop_eq_nil_of_le (by omega)]
      unfold m_role_differ_j1
      have := n_differ_l2 hw hn (now.length + 1) 0 out (by omega) (by omega) (by omega)
      have e : m_role_differ_l2 now was (now.length + 1) out 0 = _ := this
      rw [e]
      simp [difA]
theorem n_differ : m_role_differ was now = some (difA was now ++ difB was now) := by
  unfold m_role_differ
  have := n_differ_l3 hw hn (was.length + 1) 0 [] (by omega) (by omega) (by simp)
  have e : m_role_differ_l3 was now (was.length + 1) [] 0 = _ := this
  rw [e]
  simp
theorem n_ref_l3 (by_ : List UInt8) : ∀ (n i c : Nat) (y : List UInt8), i ≤ now.length → now.length - i < n → c ≤ 100 + i → m_R27_Step_l3 now was by_ n y (c : Int) (i : Int) = m_R27_Step_j2 now was by_ (lastN (difB was (now.drop i)) y) ((c + (difB was (now.drop i)).length : Nat) : Int)
  | 0, i, c, y, _, h, _ => by omega
  | n + 1, i, c, y, hi, h, hc => by
    unfold m_R27_Step_l3
    by_cases hlt : i < now.length
    · rw [bif_pos (dec_t (by omega)), idx_nat hlt, Option.bind_some, n_R27_Of was _ (by omega), Option.bind_some, List.drop_eq_getElem_cons hlt]
      unfold difB m_R27_Step_j4
      rw [List.filter_cons]
      cases hb : (ofM was now[i].Name == 0) with
      | true =>
        rw [cond_true, Option.bind_some, wi_succ (by omega), wi_succ (by omega), n_ref_l3 by_ n (i + 1) (c + 1) _ (by omega) (by omega) (by omega), if_pos rfl]
        unfold difB
        rw [List.map_cons, List.length_cons]
        have : c + 1 + (List.map (fun x => x.Name) (List.filter (fun x => ofM was x.Name == 0) (List.drop (i + 1) now))).length = c + ((List.map (fun x => x.Name) (List.filter (fun x => ofM was x.Name == 0) (List.drop (i + 1) now))).length + 1) := by omega
        rw [this]
        rfl
      | false =>
        rw [cond_false, wi_succ (by omega), n_ref_l3 by_ n (i + 1) c _ (by omega) (by omega) (by omega), if_neg (by simp)]
        rfl
    · rw [bif_neg (dec_f (by omega)), List.drop_eq_nil_of_le (by omega)]
      rfl
theorem n_ref_l5 (by_ : List UInt8) : ∀ (n i c : Nat) (y : List UInt8), i ≤ was.length → was.length - i < n → c ≤ i → m_R27_Step_l5 was now by_ n y (c : Int) (i : Int) = m_R27_Step_j1 now was by_ (lastN (difA (was.drop i) now) y) ((c + (difA (was.drop i) now).length : Nat) : Int)
  | 0, i, c, y, _, h, _ => by omega
  | n + 1, i, c, y, hi, h, hc => by
    unfold m_R27_Step_l5
    by_cases hlt : i < was.length
    · rw [bif_pos (dec_t (by omega)), idx_nat hlt, Option.bind_some, n_R27_Of now _ (by omega), Option.bind_some, Option.bind_some, List.drop_eq_getElem_cons hlt]
      unfold difA m_R27_Step_j6
      rw [List.filter_cons]
      cases hb : (ofM now was[i].Name != was[i].Role) with
      | true =>
        rw [cond_true, Option.bind_some, wi_succ (by omega), wi_succ (by omega), n_ref_l5 by_ n (i + 1) (c + 1) _ (by omega) (by omega) (by omega), if_pos rfl]
        unfold difA
        rw [List.map_cons, List.length_cons]
        have : c + 1 + (List.map (fun x => x.Name) (List.filter (fun x => ofM now x.Name != x.Role) (List.drop (i + 1) was))).length = c + ((List.map (fun x => x.Name) (List.filter (fun x => ofM now x.Name != x.Role) (List.drop (i + 1) was))).length + 1) := by omega
        rw [this]
        rfl
      | false =>
        rw [cond_false, wi_succ (by omega), n_ref_l5 by_ n (i + 1) c _ (by omega) (by omega) (by omega), if_neg (by simp)]
        rfl
    · rw [bif_neg (dec_f (by omega)), List.drop_eq_nil_of_le (by omega)]
      rfl
end
theorem n_Step {was now : List S_api_Member} (hw : RightP was) (hn : RightP now) (by_ : List UInt8) : ∃ g e, m_role_Step was now by_ = some (g, e) ∧ m_R27_Step was now by_ = some (g, e) := by
  have hw8 := hw.2.1
  have hn8 := hn.2.1
  unfold m_role_Step m_R27_Step
  rw [(n_role_Right was (lenP_of hw)).yes hw, (n_role_Right now (lenP_of hn)).yes hn, (n_R27_Right was (lenP_of hw)).yes hw, (n_R27_Right now (lenP_of hn)).yes hn]
  simp only [Option.bind_some, Bool.not_true, cond_false]
  rw [n_differ hw8 hn8, Option.bind_some]
  have hA := dif_len (l := was) (fun x => ofM now x.Name != x.Role) 0
  rw [List.drop_zero] at hA
  have e5 : m_R27_Step_l5 was now by_ (was.length + 1) [] 0 0 = _ := n_ref_l5 hw8 hn8 by_ (was.length + 1) 0 0 [] (by omega) (by omega) (by omega)
  rw [e5, List.drop_zero, Nat.zero_add]
  unfold m_R27_Step_j1
  have hA2 : (difA was now).length ≤ was.length := hA
  have e3 : m_R27_Step_l3 now was by_ (now.length + 1) (lastN (difA was now) []) ((difA was now).length : Int) 0 = _ := n_ref_l3 hw8 hn8 by_ (now.length + 1) 0 (difA was now).length (lastN (difA was now) []) (by omega) (by omega) (by omega)
  rw [e3, List.drop_zero]
  unfold m_R27_Step_j2
  have hmem : ∀ a, a ∈ difA was now ++ difB was now → NameP a := fun a ha => by
    unfold difA difB at ha
    rw [List.mem_append, List.mem_map, List.mem_map] at ha
    rcases ha with ⟨x, hx, rfl⟩ | ⟨x, hx, rfl⟩
    · exact (right_mem hw (List.mem_filter.1 hx).1).1
    · exact (right_mem hn (List.mem_filter.1 hx).1).1
  rw [List.length_append]
  by_cases h1 : (difA was now).length + (difB was now).length = 1
  · rw [bif_neg (ine_f (by omega)), bif_neg (ine_f (by omega))]
    obtain ⟨a, hD, hL⟩ : ∃ a, difA was now ++ difB was now = [a] ∧ lastN (difB was now) (lastN (difA was now) []) = a := by
      generalize difA was now = A at h1
      generalize difB was now = B at h1
      match A, B, h1 with
      | [a], [], _ => exact ⟨a, rfl, rfl⟩
      | [], [b], _ => exact ⟨b, rfl, rfl⟩
      | [], [], h => simp at h
      | [a], b :: B, h => simp at h
      | a :: a2 :: A, B, h => simp at h; omega
      | [], b :: b2 :: B, h => simp at h
    rw [hD] at hmem ⊢
    rw [hL]
    have hna := hmem a (by simp)
    have ei : idx [a] 0 = some a := rfl
    rw [ei, Option.bind_some, n_Of now a (by omega), Option.bind_some, n_R27_Of now a (by omega), Option.bind_some]
    have hr := right_of hn a
    by_cases h0 : ofM now a = 0
    · rw [bif_pos (ieq_t h0), bif_pos (ieq_t h0)]
      obtain ⟨x, e, r1, r2⟩ := n_Revoke hw by_ hna
      unfold m_role_Step_j3
      rw [r1, r2, Option.bind_some, Option.bind_some]
      unfold m_role_Step_j1
      rw [bif_pos (ieq_t h0)]
      exact ⟨_, _, rfl, rfl⟩
    · rw [bif_neg (ieq_f h0), bif_neg (ieq_f h0)]
      have hr1 : 1 ≤ ofM now a := by omega
      have hj2 : ∃ g e, m_role_Step_j2 was a by_ (ofM now a) = some (g, e) ∧ (Option.bind (m_R27_Of was a) fun x17 =>
          bif (x17 == 0) then (Option.bind (m_R27_Share was by_ a (ofM now a)) fun x20 => some (false, x20)) else (Option.bind (m_R27_Change was by_ a (ofM now a)) fun x22 => some (false, x22))) = some (g, e) := by
        unfold m_role_Step_j2 m_role_Step_j1
        obtain ⟨z, hz, hzP⟩ := n_at was a (by omega)
        obtain ⟨a1, _⟩ := at_role hw hzP
        rw [hz, Option.bind_some, n_R27_Of was a (by omega), Option.bind_some, ieq_f h0]
        simp only [cond_false]
        by_cases c : ofM was a = 0
        · obtain ⟨x, e, r1, r2⟩ := n_Share hw by_ hna hr1 hr.2
          rw [bif_pos (dec_t (a1.2 c)), bif_pos (ieq_t c), r1, r2, Option.bind_some, Option.bind_some]
          exact ⟨_, _, rfl, rfl⟩
        · obtain ⟨x, e, r1, r2⟩ := n_Change hw by_ hna hr1 hr.2
          rw [bif_neg (dec_f (fun hh => c (a1.1 hh))), bif_neg (ieq_f c), r1, r2, Option.bind_some, Option.bind_some]
          exact ⟨_, _, rfl, rfl⟩
      generalize (ofM now a == 1) = b1
      generalize (ofM now a == 2) = b2
      cases b1 <;> cases b2 <;> exact hj2
  · rw [bif_pos (ine_t (by omega)), bif_pos (ine_t (by omega))]
    exact ⟨_, _, rfl, rfl⟩
theorem n_owner {p : S_api_Manifest} (h : RightP p.Members) (by_ : List UInt8) : m_manifest_owner p by_ = some (if ofM p.Members by_ = 4 then 0 else 40) := by
  have h8 := h.2.1
  have := right_of h by_
  unfold m_manifest_owner
  rw [n_Of _ _ (by omega), Option.bind_some]
  by_cases c : ofM p.Members by_ = 4
  · rw [if_pos c, bif_neg (dec_f (by omega))]
  · rw [if_neg c, bif_pos (dec_t (by omega))]
theorem n_Follows {p0 p2 : S_api_Manifest} (f0 : MFit p0) (f2 : MFit p2) (l0 : p0.Members.length ≤ 20) (p1 : List UInt8) : ∃ r, m_manifest_Follows p0 p1 p2 = some r ∧ m_R28_Follows p0 p1 p2 = some r := by
  unfold m_manifest_Follows m_R28_Follows
  obtain ⟨s, hs⟩ := same_def p0.Members p2.Members (by omega)
  rw [hs, Option.bind_some]
  by_cases h0 : MayP p0
  · rw [(n_manifest_may p0 f0).yes h0, (n_R28_May p0 f0).yes h0, Option.bind_some, Option.bind_some, Bool.not_true, cond_false, cond_false]
    by_cases h2 : MayP p2
    · rw [(n_manifest_may p2 f2).yes h2, (n_R28_May p2 f2).yes h2, Option.bind_some, Option.bind_some, Bool.not_true, cond_false]
      unfold m_manifest_Follows_j1
      rw [cond_false]
      have hj : ∀ t, m_manifest_Follows_j2 p2 t p0 true = some 11 := fun _ => rfl
      rw [hj]
      cases hg : p0.Gone with
      | true => rw [cond_true, cond_true]; exact ⟨_, rfl, rfl⟩
      | false =>
        rw [cond_false, cond_false]
        cases hfo : (!(p2.Folder == p0.Folder)) with
        | true => rw [cond_true, cond_true]; exact ⟨_, rfl, rfl⟩
        | false =>
          rw [cond_false, cond_false]
          obtain ⟨_, _, q1, q2, _, q3, _, _, R0, _, _⟩ := h0
          obtain ⟨_, _, q4, q5, _, q6, _, _, R2, _, _⟩ := h2
          rw [wi_id (z := p0.Seq + 1) (by omega) (by omega), wi_id (z := p2.Seq - 1) (by omega) (by omega)]
          by_cases hq : p2.Seq = p0.Seq + 1
          · rw [bif_neg (ine_f hq), bif_neg (ine_f (show p2.Seq - 1 = p0.Seq by omega)), n_R01_Same _ _ (by omega), Option.bind_some]
            unfold m_bytes_Equal
            rw [Option.bind_some]
            cases hp : (p2.Prev == p1) with
            | false => exact ⟨_, rfl, rfl⟩
            | true =>
              rw [Bool.not_true, cond_false]
              have ho := n_owner R0 p2.By
              have h3 : m_R28_Follows_j3 p0 p2 = some (if ofM p0.Members p2.By = 4 then 0 else 40) := by
                unfold m_R28_Follows_j3
                rw [n_R27_Of _ _ (by omega), Option.bind_some]
                by_cases c : ofM p0.Members p2.By = 4
                · rw [if_pos c, bif_neg (ine_f c)]
                · rw [if_neg c, bif_pos (ine_t c)]
              obtain ⟨g, e, st1, st2⟩ := n_Step R0 R2 p2.By
              unfold m_manifest_Follows_j2 m_R28_Follows_j1 m_R28_Follows_j2
              rw [same_eq, hs, ho, h3, st1, st2]
              simp only [Option.bind_some, cond_false, bne]
              generalize (p2.Parent == p0.Parent) = b1
              generalize (p2.Cut == p0.Cut) = b2
              generalize (p2.Cut == p2.Seq) = b3
              generalize (e == 0) = b4
              cases p2.Gone <;> cases s <;> cases b1 <;> cases b2 <;> cases b3 <;> cases b4 <;> cases g <;> exact ⟨_, rfl, rfl⟩
          · rw [bif_pos (ine_t hq), bif_pos (ine_t (show p2.Seq - 1 ≠ p0.Seq by omega))]
            exact ⟨_, rfl, rfl⟩
    · rw [(n_manifest_may p2 f2).no h2, (n_R28_May p2 f2).no h2, Option.bind_some, Option.bind_some]
      exact ⟨_, rfl, rfl⟩
  · rw [(n_manifest_may p0 f0).no h0, (n_R28_May p0 f0).no h0, Option.bind_some, Option.bind_some]
    exact ⟨_, rfl, rfl⟩
theorem n_Begins {p : S_api_Manifest} (f : MFit p) : ∃ r, m_manifest_Begins p = some r ∧ m_R28_Begins p = some r := by
  unfold m_manifest_Begins m_R28_Begins
  by_cases h : MayP p
  · rw [(n_manifest_may p f).yes h, (n_R28_May p f).yes h, Option.bind_some, Option.bind_some, Bool.not_true, cond_false, cond_false]
    obtain ⟨_, _, _, _, _, _, _, _, R, _, _⟩ := h
    by_cases c1 : p.Seq = 1
    · rw [bif_neg (ine_f c1), bif_pos (ieq_t c1)]
      match hm : p.Members with
      | [] => rw [hm] at R; obtain ⟨x, hx, _⟩ := R.2.2; cases hx
      | [x] =>
        rw [hm] at R
        have hx4 : x.Role = 4 := by
          obtain ⟨y, hy, h4⟩ := R.2.2
          rw [List.mem_singleton] at hy
          rw [← hy]; exact h4
        have e1 : m_R27_Same [x] [S_api_Member.mk p.By 4] = some (x.Name == p.By) := by
          show (bif (!((x.Name == p.By) && ((x.Role == 4) && true))) then (some false) else some true) = _
          rw [hx4]
          cases (x.Name == p.By) <;> rfl
        rw [bif_neg (ine_f (by simp)), e1, Option.bind_some]
        show ∃ r, (bif (!(x.Name == p.By)) then (some (11 : Int)) else _) = some r ∧ _
        generalize (x.Name == p.By) = b1
        simp only [bne]
        generalize (p.Cut == 0) = b2
        generalize p.Gone = b3
        cases b1 <;> cases b2 <;> cases b3 <;> exact ⟨_, rfl, rfl⟩
      | x :: y :: l =>
        rw [bif_pos (ine_t (by simp; omega))]
        have e1 : m_R27_Same (x :: y :: l) [S_api_Member.mk p.By 4] = some false := by
          unfold m_R27_Same
          rw [bif_pos (ine_t (by simp; omega))]
        rw [e1]
        exact ⟨_, rfl, rfl⟩
    · rw [bif_pos (ine_t c1), bif_neg (ieq_f c1)]
      exact ⟨_, rfl, rfl⟩
  · rw [(n_manifest_may p f).no h, (n_R28_May p f).no h, Option.bind_some, Option.bind_some]
    exact ⟨_, rfl, rfl⟩
theorem awakeMl : m_L28_awake = some true := by kernel_rfl
theorem n_FewMl (m : S_api_Manifest) (hf : MFit m) : ∃ r, m_L28_Few m = some r ∧ (r = true → m.Members.length ≤ 20) := by
  unfold m_L28_Few
  have hl := hf.members.1
  have h := loop_then (len := m.Members.length) (m_L28_Few_l2 m) (fun i => ∀ x, m.Members[i]? = some x → x.Name.length ≤ 20) (m_L28_Few_j1 m) (some false) (fun n i hi => by
    rw [m_L28_Few_l2]
    rw [bif_pos (dec_t (by omega)), idx_nat hi, Option.bind_some, wi_succ (by omega)]
    by_cases h : m.Members[i].Name.length ≤ 20
    · rw [bif_neg (dec_f (by omega))]
      exact ⟨fun _ => rfl, fun k => absurd (fun x hx => by rw [List.getElem?_eq_getElem hi] at hx; injection hx with e; rw [← e]; exact h) k⟩
    · rw [bif_pos (dec_t (by omega))]
      exact ⟨fun k => absurd (k _ (List.getElem?_eq_getElem hi)) h, fun _ => rfl⟩) (fun n => by
    rw [m_L28_Few_l2]
    rw [bif_neg (dec_f (by omega))]) (m.Members.length + 1) 0 (by omega) (by omega)
  have e : m_L28_Few_l2 m (m.Members.length + 1) 0 = m_L28_Few_l2 m (m.Members.length + 1) ((0 : Nat) : Int) := rfl
  rw [e]
  by_cases hc : ∀ j, 0 ≤ j → j < m.Members.length → ∀ x, m.Members[j]? = some x → x.Name.length ≤ 20
  · rw [h.1 hc]
    unfold m_L28_Few_j1
    by_cases c : (m.Members.length : Int) ≤ 20
    · generalize decide ((m.Members.length : Int) ≤ 20) = x0
      generalize decide ((m.Folder.length : Int) ≤ 20) = x1
      generalize decide ((m.By.length : Int) ≤ 20) = x2
      generalize decide ((m.Parent.length : Int) ≤ 20) = x3
      cases x0 <;> cases x1 <;> cases x2 <;> cases x3 <;> exact ⟨_, rfl, fun _ => by omega⟩
    · rw [dec_f c]
      generalize decide ((m.Folder.length : Int) ≤ 20) = x1
      generalize decide ((m.By.length : Int) ≤ 20) = x2
      generalize decide ((m.Parent.length : Int) ≤ 20) = x3
      cases x1 <;> cases x2 <;> cases x3 <;> exact ⟨_, rfl, fun h => Bool.noConfusion h⟩
  · exact ⟨_, h.2 hc, fun h => Bool.noConfusion h⟩
theorem n_ManifestFollows {p0 p2 : S_api_Manifest} (f0 : MFit p0) (f2 : MFit p2) (p1 : List UInt8) : m_L28_ManifestFollows p0 p1 p2 = some true := by
  unfold m_L28_ManifestFollows
  rw [awakeMl, Option.bind_some, bif_neg (c := !true) rfl]
  obtain ⟨r0, e0, g0⟩ := n_FewMl p0 f0
  obtain ⟨r2, e2, g2⟩ := n_FewMl p2 f2
  rw [e0, e2, Option.bind_some]
  cases r0 with
  | false => rfl
  | true =>
    rw [bif_neg (c := !true) rfl, Option.bind_some]
    cases r2 with
    | false => rfl
    | true =>
      rw [bif_neg (c := !true) rfl]
      cases decide ((p1.length : Int) > 100) with
      | true => rfl
      | false =>
        obtain ⟨r, h1, h2⟩ := n_Follows f0 f2 (g0 rfl) p1
        obtain ⟨q, h3, h4⟩ := n_Begins f2
        rw [cond_false, h1, h2, Option.bind_some, Option.bind_some, bif_pos (ieq_t rfl), h3, h4, Option.bind_some, Option.bind_some, ieq_t rfl]
end Go.Proofs.Ytikaahmonocahaa

/-
  ManifestFollows as a contract over data.
-/
namespace Go.Proofs.Ytikaahmonocahaa
open Go Go.RowKit
theorem fc_L28_ManifestFollows (p0 : S_api_Manifest) (p1 : (List UInt8)) (p2 : S_api_Manifest) (r : Bool) (h : m_L28_ManifestFollows p0 p1 p2 = some r) : FC Try.prog 3 [.t (.agg [.lit (.string ⟨⟨p0.Folder⟩⟩), .lit (.int .i64 p0.Seq), .seq 1 (bytesD p0.Prev), .lit (.string ⟨⟨p0.Parent⟩⟩), .seq 2 (List.map cS_api_Member p0.Members), .lit (.int .i64 p0.Cut), .lit (.bool p0.Gone), .lit (.string ⟨⟨p0.By⟩⟩)]), .t (.d (.seq 1 (bytesD p1))), .t (.agg [.lit (.string ⟨⟨p2.Folder⟩⟩), .lit (.int .i64 p2.Seq), .seq 1 (bytesD p2.Prev), .lit (.string ⟨⟨p2.Parent⟩⟩), .seq 2 (List.map cS_api_Member p2.Members), .lit (.int .i64 p2.Cut), .lit (.bool p2.Gone), .lit (.string ⟨⟨p2.By⟩⟩)])] [] (.t (.d (.lit (.bool r)))) :=
  fc_of_h (fch_L28_ManifestFollows p0 p1 p2 Hp.e r h) hpA_e rfl (by show 3 ≤ OB; decide)
end Go.Proofs.Ytikaahmonocahaa

/-
  What came in: from the reading of the arguments to data.
-/
namespace Go.Proofs.Ytikaahmonocahaa
open Go Go.RowKit Go.ChangeShapes Go.WideShapes Go.ChangeAt
set_option linter.unusedVariables false
set_option maxRecDepth 20000

/-- All that a world's cells hold. -/
def memW (w : World) : Mem := fun b p => w.cell? ⟨b, p, none⟩
theorem memW_sat (w : World) : ∀ b p u, memW w b p = some u → w.cell? ⟨b, p, none⟩ = some u := fun _ _ _ h => h

/-- What a type's cells are, as data. -/
def OpT {H : Type} (enc : TypeId × Value → H) (w : World) {α : Type} (t : TypeId) (c : α → List D) (ok : α → Prop) : Prop :=
  ∀ (base : Nat) (spare : Nat → Bool) (held : Bool) (fuel : Nat) (cs : List Value) (x : DataW H × List MemPlace), DataW.trod enc Try.prog w base spare held fuel t cs = some x → ∃ v : α, RepL (memW w) (c v) cs ∧ ok v
/-- .. read with less than so much fuel. -/
def OpF {H : Type} (enc : TypeId × Value → H) (w : World) {α : Type} (m : Nat) (t : TypeId) (c : α → List D) (ok : α → Prop) : Prop :=
  ∀ (base : Nat) (spare : Nat → Bool) (held : Bool) (fuel : Nat) (cs : List Value) (x : DataW H × List MemPlace), fuel < m → DataW.trod enc Try.prog w base spare held fuel t cs = some x → ∃ v : α, RepL (memW w) (c v) cs ∧ ok v
theorem OpT.lt {H : Type} {enc : TypeId × Value → H} {w : World} {α : Type} {t : TypeId} {c : α → List D} {ok : α → Prop} (h : OpT enc w t c ok) (m : Nat) : OpF enc w m t c ok := fun b s l f cs x _ k => h b s l f cs x k
theorem OpT.of {H : Type} {enc : TypeId × Value → H} {w : World} {α : Type} {t : TypeId} {c : α → List D} {ok : α → Prop} (h : ∀ m, OpF enc w m t c ok) : OpT enc w t c ok := fun b s l f cs x k => h (f + 1) b s l f cs x (Nat.lt_succ_self f) k

def okInt (k : IntKind) (n : Int) : Prop := (Lit.int k n).wf = true
theorem okI64 {n : Int} (h : okInt .i64 n) : -9223372036854775808 ≤ n ∧ n ≤ 9223372036854775807 := by
  unfold okInt at h
  simp [Lit.wf, IntKind.min, IntKind.max, IntKind.signed, IntKind.bits] at h
  omega
def okAny {α : Type} (_ : α) : Prop := True
def okLen {α : Type} (l : List α) : Prop := l.length ≤ 9223372036854775807
def okList {α : Type} (ok : α → Prop) (l : List α) : Prop := l.length ≤ 9223372036854775807 ∧ ∀ x ∈ l, ok x

theorem repl_one {m : Mem} {d : D} {u : Value} (h : RepD m d u) : RepL m [d] [u] := by
  refine ⟨rfl, fun j e hj => ?_⟩
  match j, hj with
  | 0, hj => injection hj with hj; subst hj; exact ⟨u, rfl, h⟩
  | j + 1, hj => simp at hj
theorem repl_cons {m : Mem} {l1 l2 : List D} {cs : List Value} {o k : Nat} (h1 : RepL m l1 ((cs.drop o).take k)) (h2 : RepL m l2 (cs.drop (o + k))) : RepL m (l1 ++ l2) (cs.drop o) := by
  have e : cs.drop o = (cs.drop o).take k ++ cs.drop (o + k) := by rw [← List.drop_drop, List.take_append_drop]
  rw [e]
  refine ⟨by rw [List.length_append, List.length_append, h1.1, h2.1], fun j d hj => ?_⟩
  rcases Nat.lt_or_ge j l1.length with hl | hl
  · rw [List.getElem?_append_left hl] at hj
    obtain ⟨u, a, b⟩ := h1.2 j d hj
    exact ⟨u, by rw [List.getElem?_append_left (by rw [h1.1]; exact hl)]; exact a, b⟩
  · rw [List.getElem?_append_right hl] at hj
    obtain ⟨u, a, b⟩ := h2.2 _ d hj
    exact ⟨u, by rw [List.getElem?_append_right (by rw [h1.1]; exact hl), h1.1]; exact a, b⟩
theorem repl_nil {m : Mem} {cs : List Value} {n : Nat} (h : cs.length = n) : RepL m [] (cs.drop n) := by
  rw [List.drop_of_length_le (by omega)]
  exact ⟨rfl, fun j d hj => by simp at hj⟩

section
variable {H : Type} {enc : TypeId × Value → H} {w : World}
theorem op_int {t : TypeId} {k : IntKind} (ht : Try.prog.underlying t = some (.int k)) : OpT enc w t (cInt k) (okInt k) := fun b s l f cs x h => by
  obtain ⟨n, rfl, _, hw⟩ := DataW.trod_int ht h
  exact ⟨n, repl_one (.lit _ rfl), hw⟩
theorem op_u8 {t : TypeId} (ht : Try.prog.underlying t = some (.int .u8)) : OpT enc w t cU8 okAny := fun b s l f cs x h => by
  obtain ⟨n, rfl, _, hw⟩ := DataW.trod_int ht h
  refine ⟨UInt8.ofNat n.toNat, repl_one ?_, trivial⟩
  have hr : 0 ≤ n ∧ n ≤ 255 := by
    simp [Lit.wf, IntKind.min, IntKind.max, IntKind.signed, IntKind.bits] at hw
    omega
  have : ((UInt8.ofNat n.toNat).toNat : Int) = n := by
    simp
    omega
  rw [this]
  exact .lit _ rfl
theorem op_bool {t : TypeId} (ht : Try.prog.underlying t = some .bool) : OpT enc w t cBool okAny := fun b s l f cs x h => by
  obtain ⟨n, rfl, _⟩ := DataW.trod_bool ht h
  exact ⟨n, repl_one (.lit _ rfl), trivial⟩
theorem op_str {t : TypeId} (ht : Try.prog.underlying t = some .string) : OpT enc w t cStr okLen := fun b s l f cs x h => by
  obtain ⟨n, rfl, _, hs⟩ := DataW.trod_string ht h
  refine ⟨n.data.toList, repl_one ?_, ?_⟩
  · obtain ⟨⟨y⟩⟩ := n
    exact .lit _ rfl
  · unfold maxLen at hs
    show n.data.toList.length ≤ _
    have : n.data.toList.length = n.size := by simp
    omega
theorem some_list {α : Type} (P : Nat → α → Prop) : ∀ n : Nat, (∀ i, i < n → ∃ x, P i x) → ∃ l : List α, l.length = n ∧ ∀ i (h : i < l.length), P i l[i]
  | 0, _ => ⟨[], rfl, fun i h => absurd h (by simp)⟩
  | n + 1, h => by
    obtain ⟨l, hl, hp⟩ := some_list P n fun i hi => h i (by omega)
    obtain ⟨x, hx⟩ := h n (by omega)
    refine ⟨l ++ [x], by simp [hl], fun i hi => ?_⟩
    by_cases h1 : i < l.length
    · rw [List.getElem_append_left h1]; exact hp i h1
    · have : i = n := by simp at hi; omega
      subst this
      rw [List.getElem_append_right (by omega)]
      simpa [hl] using hx
theorem op_sliceF {α : Type} {t te : TypeId} {k m : Nat} {c : α → List D} {ok : α → Prop} (ht : Try.prog.underlying t = some (.slice te)) (hk : Try.prog.cellsOf te = k) (hk0 : 0 < k) (he : OpF enc w m te c ok) : OpF enc w (m + 1) t (cSl k c) (okList ok) := fun b s l f cs x hf h => by
  rcases DataW.trod_slice ht h with ⟨rfl, _⟩ | ⟨a, len, cap, elems, rest, n, hn, rfl, _, hba, hlc, hcm, hel, hev, _⟩
  · exact ⟨[], repl_one (RepD.nilSeq _ _), by simp, fun x hx => by cases hx⟩
  · have get : ∀ i, i < len → ∃ v : α, (∃ cs' : List Value, cs'.length = k ∧ (∀ j u, cs'[j]? = some u → w.cell? ((a.add (i * k)).add j) = some u) ∧ RepL (memW w) (c v) cs') ∧ ok v := by
      intro i hi
      have h1 := hev i hi
      obtain ⟨y, hy⟩ : ∃ y, elems[i]? = some y := ⟨elems[i], List.getElem?_eq_getElem (by omega)⟩
      rw [hy, hk] at h1
      obtain ⟨cs', hcs', ht'⟩ := Option.bind_eq_some_iff.1 h1
      obtain ⟨hc1, hc2, hc3⟩ := World.cells?_some hcs'
      obtain ⟨v, hrep, hok⟩ := he _ _ _ n cs' y (by omega) ht'
      refine ⟨v, ⟨cs', hc2, fun j u hu => ?_, hrep⟩, hok⟩
      have hjl : j < cs'.length := (List.getElem?_eq_some_iff.1 hu).1
      have hg := hc3 j (by omega)
      rw [hg, ← hu]
    by_cases h0 : len = 0
    · subst h0
      exact ⟨[], repl_one (.seq k [] _ cap 0 0 (fun _ _ => undef) (by simp) hcm (fun h => absurd rfl h) (fun i r h => by simp at h) (fun i r j d h => by simp at h) (fun i r j d h => by simp at h)), by simp, fun x hx => by cases hx⟩
    · have hs : a.spot = none := by
        obtain ⟨v, ⟨cs', hl4, hcell, _⟩, _⟩ := get 0 (by omega)
        have := World.cell?_spot (hcell 0 _ (List.getElem?_eq_getElem (by omega)))
        simpa [Addr.add] using this
      obtain ⟨g, o, sp⟩ := a
      simp only at hs
      subst hs
      obtain ⟨l, hll, hlp⟩ := some_list _ len get
      refine ⟨l, repl_one ?_, by unfold maxLen at hcm; omega, fun x hx => ?_⟩
      · have := RepD.seq (m := memW w) k (l.map c) (some ⟨g, o, none⟩) cap g o (fun i j => (memW w g (o + i * k + j)).getD undef) (by simp; omega) hcm (fun _ => rfl) (fun i r hi => ?_) (fun i r j d hi hj => ?_) (fun i r j d hi hj => ?_)
        · rwa [List.length_map, hll] at this
        all_goals
          rw [List.getElem?_map] at hi
          have hlt : i < l.length := by
            rcases Nat.lt_or_ge i l.length with g | g
            · exact g
            · rw [List.getElem?_eq_none g] at hi; cases hi
          rw [List.getElem?_eq_getElem hlt] at hi
          injection hi with hi
          subst hi
          obtain ⟨⟨cs', h1, h2, h3⟩, _⟩ := hlp i hlt
        · have := h3.1
          omega
        all_goals
          obtain ⟨u, k1, k2⟩ := h3.2 j d hj
          have k3 := h2 j u k1
          rw [Addr.add_mid, Addr.add_mid] at k3
          have k4 : memW w g (o + i * k + j) = some u := k3
          rw [k4]
        · rfl
        · exact k2
      · obtain ⟨i, hi, rfl⟩ := List.getElem_of_mem hx
        exact (hlp i hi).2
theorem op_slice {α : Type} {t te : TypeId} {k : Nat} {c : α → List D} {ok : α → Prop} (ht : Try.prog.underlying t = some (.slice te)) (hk : Try.prog.cellsOf te = k) (hk0 : 0 < k) (he : OpT enc w te c ok) : OpT enc w t (cSl k c) (okList ok) :=
  fun b s l f cs x h => op_sliceF ht hk hk0 (he.lt f) b s l f cs x (Nat.lt_succ_self f) h
end
/-- A law that returns true, called with what came in. -/
theorem fc_law {f : FuncId} {args : List A} (h : FC Try.prog f args [] (.t (.d (.lit (.bool true))))) {w : World} {vals : Array Value} (hs : vals.size = args.length) (hsat : ∀ b p u, memW w b p = some u → w.cell? ⟨b, p, none⟩ = some u) (hr : ∀ s, RepA (memW w) w (fun _ => none) (argS args) s (argS args s) (vals.getD s undef)) (htbl : Mle TBL (memW w) := by intro b p u h; simp [TBL, TBLS] at h) :
    Calls Try.prog f vals w fun e w' => e = .returned (.bool true) ∧ Below w.heap.size w w' := by
  refine (h w (memW w) (fun _ => none) vals hsat htbl (fun _ _ h => by cases h) (fun _ _ _ h => by cases h) hs hr).mono ?_
  rintro e w' ⟨u, m', o', S', a', ρ, rfl, J, hu, _⟩
  have hS : Same (fun _ => False) w w' := J.same.weaken fun g h => h rfl
  have hu : RepD m' (.lit (.bool true)) u := hu
  cases hu
  exact ⟨rfl, hS.below⟩
theorem u8_of {n : Int} (hw : (Lit.int .u8 n).wf = true) : ∃ x : UInt8, n = (x.toNat : Int) := by
  have hr : 0 ≤ n ∧ n ≤ 255 := by
    simp [Lit.wf, IntKind.min, IntKind.max, IntKind.signed, IntKind.bits] at hw
    omega
  refine ⟨UInt8.ofNat n.toNat, ?_⟩
  simp
  omega
theorem repl_head {m : Mem} {d : D} {cs : List Value} (h : RepL m [d] cs) : ∃ u, cs = [u] ∧ RepD m d u := by
  match cs, h.1 with
  | [u], _ =>
    obtain ⟨v, h1, h2⟩ := h.2 0 d rfl
    injection h1 with h1
    subst h1
    exact ⟨_, rfl, h2⟩
end Go.Proofs.Ytikaahmonocahaa
