/-
  Answers read from any bytes: the models, plain; the law AnswerReads.
-/
import Derived.Test.YteopjhakjeknaaaArN
namespace Go.Proofs.Yteopjhakjeknaaa
open Go Go.RowKit
set_option linter.unusedVariables false
set_option linter.unusedSimpArgs false
set_option maxRecDepth 20000

def zA : S_api_Answer := S_api_Answer.mk 0 0 [] [] [] [] []
def memOf (x : V) : S_api_Member := match x.l with | [a, b] => ⟨a.b, b.n⟩ | _ => ⟨[], 0⟩
def pastOf (x : V) : S_api_Past := match x.l with | [a, b, c, d] => ⟨a.n, b.n, c.n == 1, d.b⟩ | _ => ⟨0, 0, false, []⟩
def goneN (x : V) : Int := match x.l with | [_, _, c, _] => c.n | _ => 0
theorem kinds4 {x : V} {c0 c1 c2 c3 : Int} (h : kindsB x [c0, c1, c2, c3] = true) : ∃ a b c d, x.k = 3 ∧ x.l = [a, b, c, d] ∧ a.k = c0 ∧ b.k = c1 ∧ c.k = c2 ∧ d.k = c3 := by
  unfold kindsB at h
  rw [Bool.and_eq_true, decide_eq_true_eq, beq_iff_eq] at h
  obtain ⟨h3, h⟩ := h
  rcases hl : x.l with _ | ⟨a, _ | ⟨b, _ | ⟨c, _ | ⟨d, _ | ⟨e, r⟩⟩⟩⟩⟩ <;> rw [hl] at h <;> simp at h
  exact ⟨a, b, c, d, h3, rfl, h⟩
theorem kinds7 {v : V} (h : kindsB v [1, 1, 2, 2, 3, 3, 3] = true) : ∃ a0 a1 a2 a3 a4 a5 a6, v.k = 3 ∧ v.l = [a0, a1, a2, a3, a4, a5, a6] ∧ a0.k = 1 ∧ a1.k = 1 ∧ a2.k = 2 ∧ a3.k = 2 ∧ a4.k = 3 ∧ a5.k = 3 ∧ a6.k = 3 := by
  unfold kindsB at h
  rw [Bool.and_eq_true, decide_eq_true_eq, beq_iff_eq] at h
  obtain ⟨h3, h⟩ := h
  rcases hl : v.l with _ | ⟨a0, _ | ⟨a1, _ | ⟨a2, _ | ⟨a3, _ | ⟨a4, _ | ⟨a5, _ | ⟨a6, _ | ⟨a7, r⟩⟩⟩⟩⟩⟩⟩⟩ <;> rw [hl] at h <;> simp at h
  exact ⟨a0, a1, a2, a3, a4, a5, a6, h3, rfl, h⟩

/-! ### The code's lists -/
/-- A loop that gathers, and tells with what flag. -/
theorem things_core {β : Type} (l : List V) (hl : l.length ≤ 4096) (P : V → Prop) (g : V → β) (F : Nat → List β → Int → Option (List β × Bool)) (K : List β → Option (List β × Bool))
    (hstep : ∀ n out i (hi : i < l.length), out.length ≤ 4096 → (P l[i] → F (n + 1) out (i : Int) = F n (out ++ [g l[i]]) ((i + 1 : Nat) : Int)) ∧ (¬ P l[i] → F (n + 1) out (i : Int) = some ([], false)))
    (hend : ∀ n out, F (n + 1) out (l.length : Int) = K out) : ((∀ x ∈ l, P x) → F (l.length + 1) [] 0 = K (l.map g)) ∧ (¬ (∀ x ∈ l, P x) → F (l.length + 1) [] 0 = some ([], false)) := by
  have h := loop_acc (l := l) F P g K (some ([], false)) (fun n out i hi ho => hstep n out i hi (by omega)) hend (l.length + 1) 0 [] (by omega) (by omega) (by simp)
  rw [List.drop_zero] at h
  exact h
theorem t_string (v : V) (hl : v.l.length ≤ 4096) : ((∀ x ∈ v.l, x.k = 2) → m_answer_things_string v m_answer_name = some (v.l.map V.b, true)) ∧ (¬ (∀ x ∈ v.l, x.k = 2) → m_answer_things_string v m_answer_name = some ([], false)) := by
  unfold m_answer_things_string
  exact things_core v.l hl (fun x => x.k = 2) V.b (m_answer_things_string_l2 v m_answer_name) m_answer_things_string_j1 (fun n out i hi ho => by
    rw [m_answer_things_string_l2]
    rw [bif_pos (dec_t (by omega)), idx_nat hi, Option.bind_some, wi_succ (by omega)]
    show (_ → Option.bind (m_answer_name v.l[i]) _ = _) ∧ (_ → Option.bind (m_answer_name v.l[i]) _ = _)
    unfold m_answer_name
    rw [Option.bind_some]
    by_cases hk : v.l[i].k = 2
    · refine ⟨fun _ => ?_, fun h => absurd hk h⟩
      show (bif !(v.l[i].k == 2) then _ else _) = _
      rw [ieq_t hk]
      show Option.bind (appI 16 out [v.l[i].b]) _ = _
      rw [appI_ok (by simp; omega)]
      rfl
    · refine ⟨fun h => absurd h hk, fun _ => ?_⟩
      show (bif !(v.l[i].k == 2) then _ else _) = _
      rw [ieq_f hk]
      rfl) (fun n out => by
    rw [m_answer_things_string_l2]
    rw [bif_neg (dec_f (by omega))])
theorem t_member (v : V) (hl : v.l.length ≤ 4096) : ((∀ x ∈ v.l, kindsB x [2, 1] = true) → m_answer_things_Member v m_answer_Read_c1 = some (v.l.map memOf, true)) ∧ (¬ (∀ x ∈ v.l, kindsB x [2, 1] = true) → m_answer_things_Member v m_answer_Read_c1 = some ([], false)) := by
  unfold m_answer_things_Member
  exact things_core v.l hl (fun x => kindsB x [2, 1] = true) memOf (m_answer_things_Member_l2 v m_answer_Read_c1) m_answer_things_Member_j1 (fun n out i hi ho => by
    rw [m_answer_things_Member_l2]
    rw [bif_pos (dec_t (by omega)), idx_nat hi, Option.bind_some, wi_succ (by omega)]
    unfold m_answer_Read_c1
    rw [n_Fields _ _ (by decide)]
    by_cases hk : kindsB v.l[i] [2, 1] = true
    · refine ⟨fun _ => ?_, fun h => absurd hk h⟩
      obtain ⟨a, b, h3, hl', ha, hb⟩ := kinds2 hk
      have : memOf v.l[i] = ⟨a.b, b.n⟩ := by unfold memOf; rw [hl']
      rw [if_pos hk, this, hl']
      show Option.bind (appI 24 out [S_api_Member.mk a.b b.n]) _ = _
      rw [appI_ok (by simp; omega)]
      rfl
    · refine ⟨fun h => absurd h hk, fun _ => ?_⟩
      rw [if_neg hk]
      rfl) (fun n out => by
    rw [m_answer_things_Member_l2]
    rw [bif_neg (dec_f (by omega))])
theorem t_past (v : V) (hl : v.l.length ≤ 4096) : ((∀ x ∈ v.l, kindsB x [1, 1, 1, 2] = true ∧ goneN x ≤ 1) → m_answer_things_Past v m_answer_Read_c2 = some (v.l.map pastOf, true)) ∧ (¬ (∀ x ∈ v.l, kindsB x [1, 1, 1, 2] = true ∧ goneN x ≤ 1) → m_answer_things_Past v m_answer_Read_c2 = some ([], false)) := by
  unfold m_answer_things_Past
  exact things_core v.l hl (fun x => kindsB x [1, 1, 1, 2] = true ∧ goneN x ≤ 1) pastOf (m_answer_things_Past_l2 v m_answer_Read_c2) m_answer_things_Past_j1 (fun n out i hi ho => by
    rw [m_answer_things_Past_l2]
    rw [bif_pos (dec_t (by omega)), idx_nat hi, Option.bind_some, wi_succ (by omega)]
    unfold m_answer_Read_c2
    rw [n_Fields _ _ (by decide)]
    by_cases hk : kindsB v.l[i] [1, 1, 1, 2] = true
    · obtain ⟨a, b, c, d, h3, hl', ha, hb, hc, hd⟩ := kinds4 hk
      have h1 : pastOf v.l[i] = ⟨a.n, b.n, c.n == 1, d.b⟩ := by unfold pastOf; rw [hl']
      have h2 : goneN v.l[i] = c.n := by unfold goneN; rw [hl']
      rw [if_pos hk, h1, h2, hl']
      by_cases hg : c.n ≤ 1
      · refine ⟨fun _ => ?_, fun h => absurd ⟨hk, hg⟩ h⟩
        show Option.bind (bif decide (c.n > 1) then _ else _) _ = _
        rw [bif_neg (dec_f (by omega))]
        show Option.bind (appI 40 out [S_api_Past.mk a.n b.n (c.n == 1) d.b]) _ = _
        rw [appI_ok (by simp; omega)]
        rfl
      · refine ⟨fun h => absurd h.2 hg, fun _ => ?_⟩
        show Option.bind (bif decide (c.n > 1) then _ else _) _ = _
        rw [bif_pos (dec_t (by omega))]
        rfl
    · refine ⟨fun h => absurd h.1 hk, fun _ => ?_⟩
      rw [if_neg hk]
      rfl) (fun n out => by
    rw [m_answer_things_Past_l2]
    rw [bif_neg (dec_f (by omega))])

/-! ### What was read, and what it holds -/
structure Parts (v a0 a1 a2 a3 a4 a5 a6 : V) : Prop where
  pure : v.rpure = true
  size : v.sz ≤ 2000
  k : v.k = 3
  l : v.l = [a0, a1, a2, a3, a4, a5, a6]
  k0 : a0.k = 1
  k1 : a1.k = 1
  k2 : a2.k = 2
  k3 : a3.k = 2
  k4 : a4.k = 3
  k5 : a5.k = 3
  k6 : a6.k = 3
def aOf (a0 a1 a2 a3 a4 a5 a6 : V) : S_api_Answer := S_api_Answer.mk a0.n a1.n a2.b a3.b (a4.l.map V.b) (a5.l.map memOf) (a6.l.map pastOf)
section
variable {v a0 a1 a2 a3 a4 a5 a6 : V}
theorem Parts.item (H : Parts v a0 a1 a2 a3 a4 a5 a6) {x : V} (hx : x ∈ [a0, a1, a2, a3, a4, a5, a6]) : x.rpure = true ∧ x.sz ≤ 2000 := by
  have hx' : x ∈ v.l := by rw [H.l]; exact hx
  exact ⟨V.rpure_items H.pure H.k x hx', Nat.le_trans (sz_item H.k hx') H.size⟩
theorem inner {a : V} (h : a.rpure = true ∧ a.sz ≤ 2000) (hk : a.k = 3) {x : V} (hx : x ∈ a.l) : x.rpure = true ∧ x.sz ≤ 2000 := ⟨V.rpure_items h.1 hk x hx, Nat.le_trans (sz_item hk hx) h.2⟩
/-- Bytes are no longer than the value that holds them, whatever its kind. -/
theorem pure_b {x : V} (h : x.rpure = true) : x.b.length ≤ x.sz := by
  by_cases hk : x.k = 2
  · exact sz_bytes hk
  · have hf := V.rpure_flat h
    unfold V.flat at hf
    by_cases h1 : x.k = 1
    · rw [if_pos h1] at hf
      simp at hf
      rw [hf.1.2]; simp
    · rw [if_neg h1, if_neg hk] at hf
      simp at hf
      rw [hf.1.2]; simp
theorem Parts.short (H : Parts v a0 a1 a2 a3 a4 a5 a6) (h5 : ∀ x ∈ a5.l, kindsB x [2, 1] = true) (h6 : ∀ x ∈ a6.l, kindsB x [1, 1, 1, 2] = true) : Short (aOf a0 a1 a2 a3 a4 a5 a6) := by
  have i2 := H.item (x := a2) (by simp)
  have i3 := H.item (x := a3) (by simp)
  have i4 := H.item (x := a4) (by simp)
  have i5 := H.item (x := a5) (by simp)
  have i6 := H.item (x := a6) (by simp)
  refine ⟨?_, ?_, ?_, ?_, ?_, ?_, ?_, ?_⟩
  · exact Nat.le_trans (pure_b i2.1) i2.2
  · exact Nat.le_trans (pure_b i3.1) i3.2
  · show (a4.l.map V.b).length ≤ _; rw [List.length_map]; exact (pure_list i4.1 H.k4).2
  · show (a5.l.map memOf).length ≤ _; rw [List.length_map]; exact (pure_list i5.1 H.k5).2
  · show (a6.l.map pastOf).length ≤ _; rw [List.length_map]; exact (pure_list i6.1 H.k6).2
  · intro x hx
    obtain ⟨y, hy, rfl⟩ := List.mem_map.1 (show x ∈ a4.l.map V.b from hx)
    have j := inner i4 H.k4 hy
    exact Nat.le_trans (pure_b j.1) j.2
  · intro x hx
    obtain ⟨y, hy, rfl⟩ := List.mem_map.1 (show x ∈ a5.l.map memOf from hx)
    have j := inner i5 H.k5 hy
    obtain ⟨a, b, h3, hl, ha, hb⟩ := kinds2 (h5 y hy)
    have : memOf y = ⟨a.b, b.n⟩ := by unfold memOf; rw [hl]
    rw [this]
    have q := inner j h3 (x := a) (by rw [hl]; simp)
    exact Nat.le_trans (pure_b q.1) q.2
  · intro x hx
    obtain ⟨y, hy, rfl⟩ := List.mem_map.1 (show x ∈ a6.l.map pastOf from hx)
    have j := inner i6 H.k6 hy
    obtain ⟨a, b, c, d, h3, hl, ha, hb, hc, hd⟩ := kinds4 (h6 y hy)
    have : pastOf y = ⟨a.n, b.n, c.n == 1, d.b⟩ := by unfold pastOf; rw [hl]
    rw [this]
    have q := inner j h3 (x := d) (by rw [hl]; simp)
    exact Nat.le_trans (pure_b q.1) q.2
theorem map_self {α : Type} {l : List α} {f : α → α} (h : ∀ x ∈ l, f x = x) : l.map f = l := by
  conv => rhs; rw [← List.map_id l]
  exact List.map_congr_left h
theorem map_self_iff {α : Type} {l : List α} {f : α → α} (h : l.map f = l) : ∀ x ∈ l, f x = x := by
  intro x hx
  obtain ⟨i, hi, e⟩ := List.getElem_of_mem hx
  have h1 : (l.map f)[i]? = l[i]? := by rw [h]
  rw [List.getElem?_map, List.getElem?_eq_getElem hi, e] at h1
  simpa using h1
theorem memV_memOf {x : V} (hp : x.rpure = true) (h : kindsB x [2, 1] = true) : memV (memOf x) = x := by
  obtain ⟨a, b, h3, hl, ha, hb⟩ := kinds2 h
  have e := (pure_list hp h3).1
  have pa := V.rpure_items hp h3 a (by rw [hl]; simp)
  have pb := V.rpure_items hp h3 b (by rw [hl]; simp)
  have : memOf x = ⟨a.b, b.n⟩ := by unfold memOf; rw [hl]
  rw [this]
  unfold memV
  simp only
  rw [← pure_word pa ha, ← (pureN pb hb).1, ← hl]
  exact e.symm
theorem pastV_pastOf {x : V} (hp : x.rpure = true) (h : kindsB x [1, 1, 1, 2] = true) : pastV (pastOf x) = x ↔ goneN x ≤ 1 := by
  obtain ⟨a, b, c, d, h3, hl, ha, hb, hc, hd⟩ := kinds4 h
  have e := (pure_list hp h3).1
  have pa := pureN (V.rpure_items hp h3 a (by rw [hl]; simp)) ha
  have pb := pureN (V.rpure_items hp h3 b (by rw [hl]; simp)) hb
  have pc := pureN (V.rpure_items hp h3 c (by rw [hl]; simp)) hc
  have pd := pure_word (V.rpure_items hp h3 d (by rw [hl]; simp)) hd
  have e1 : pastOf x = ⟨a.n, b.n, c.n == 1, d.b⟩ := by unfold pastOf; rw [hl]
  have e2 : goneN x = c.n := by unfold goneN; rw [hl]
  rw [e1, e2]
  have e3 : x = listV [numV a.n, numV b.n, numV c.n, wordV d.b] := by rw [e, hl, ← pa.1, ← pb.1, ← pc.1, ← pd]
  have e4 : pastV ⟨a.n, b.n, c.n == 1, d.b⟩ = listV [numV a.n, numV b.n, numV (bitI (c.n == 1)), wordV d.b] := rfl
  rw [e4]
  constructor
  · intro h
    rw [e3] at h
    have h := listV_inj h
    simp only [List.cons.injEq, and_true] at h
    have := numV_inj h.2.2
    rw [← this]
    unfold bitI
    cases (c.n == 1) <;> decide
  · intro h
    rw [e3]
    have : bitI (c.n == 1) = c.n := by
      have := pc.2
      by_cases h1 : c.n = 1
      · rw [ieq_t h1, h1]; rfl
      · rw [ieq_f h1]; show (0 : Int) = c.n; omega
    rw [this]
theorem Parts.eq (H : Parts v a0 a1 a2 a3 a4 a5 a6) : v = listV [numV a0.n, numV a1.n, wordV a2.b, wordV a3.b, listV a4.l, listV a5.l, listV a6.l] := by
  rw [← (pureN (H.item (by simp)).1 H.k0).1, ← (pureN (H.item (by simp)).1 H.k1).1, ← pure_word (H.item (by simp)).1 H.k2, ← pure_word (H.item (by simp)).1 H.k3, ← (pure_list (H.item (by simp)).1 H.k4).1, ← (pure_list (H.item (by simp)).1 H.k5).1, ← (pure_list (H.item (by simp)).1 H.k6).1, ← H.l]
  exact (pure_list H.pure H.k).1
theorem Parts.iff (H : Parts v a0 a1 a2 a3 a4 a5 a6) (h5 : ∀ x ∈ a5.l, kindsB x [2, 1] = true) (h6 : ∀ x ∈ a6.l, kindsB x [1, 1, 1, 2] = true) : AV (aOf a0 a1 a2 a3 a4 a5 a6) = v ↔ (∀ x ∈ a4.l, x.k = 2) ∧ (∀ x ∈ a6.l, kindsB x [1, 1, 1, 2] = true ∧ goneN x ≤ 1) := by
  have i4 := H.item (x := a4) (by simp)
  have i5 := H.item (x := a5) (by simp)
  have i6 := H.item (x := a6) (by simp)
  have e5 : (a5.l.map memOf).map memV = a5.l := by
    rw [List.map_map]
    exact map_self fun x hx => memV_memOf (inner i5 H.k5 hx).1 (h5 x hx)
  have e : AV (aOf a0 a1 a2 a3 a4 a5 a6) = listV [numV a0.n, numV a1.n, wordV a2.b, wordV a3.b, listV ((a4.l.map V.b).map wordV), listV ((a5.l.map memOf).map memV), listV ((a6.l.map pastOf).map pastV)] := rfl
  rw [e, e5, H.eq]
  rw [List.map_map, List.map_map]
  constructor
  · intro h
    have h := listV_inj h
    simp only [List.cons.injEq, and_true, true_and] at h
    obtain ⟨h1, h2⟩ := h
    have h1 := map_self_iff (listV_inj h1)
    have h2 := map_self_iff (listV_inj h2)
    exact ⟨fun x hx => by rw [← h1 x hx]; rfl, fun x hx => ⟨h6 x hx, (pastV_pastOf (inner i6 H.k6 hx).1 (h6 x hx)).1 (h2 x hx)⟩⟩
  · rintro ⟨h1, h2⟩
    rw [map_self (f := wordV ∘ V.b) fun x hx => (pure_word (inner i4 H.k4 hx).1 (h1 x hx)).symm, map_self (f := pastV ∘ pastOf) fun x hx => (pastV_pastOf (inner i6 H.k6 hx).1 (h6 x hx)).2 (h2 x hx).2]

/-! ### The document's lists -/
theorem ref_names (x1 : V × Int) (p0 : List UInt8) (h4 : idx x1.1.l 4 = some a4) (hl : a4.l.length ≤ 4096) : m_R31_Read_l6 x1 a0 a1 a2 a3 p0 4098 [] 0 = m_R31_Read_j1 x1 a0 a1 a2 a3 p0 (a4.l.map V.b) := by
  have h := (loop_acc (l := a4.l) (m_R31_Read_l6 x1 a0 a1 a2 a3 p0) (fun _ => True) V.b (m_R31_Read_j1 x1 a0 a1 a2 a3 p0) none (fun n out i hi ho => by
    rw [m_R31_Read_l6]
    rw [h4, Option.bind_some, bif_pos (dec_t (by omega)), Option.bind_some, idx_nat hi, Option.bind_some, appI_ok (by simp; omega), Option.bind_some, wi_succ (by omega)]
    exact ⟨fun _ => rfl, fun h => absurd trivial h⟩) (fun n out => by
    rw [m_R31_Read_l6]
    rw [h4, Option.bind_some, bif_neg (dec_f (by omega))]) 4098 0 [] (by omega) (by omega) (by simp)).1 fun _ _ => trivial
  rw [List.drop_zero] at h
  exact h
theorem ref_members (x1 : V × Int) (p0 : List UInt8) (ns : List (List UInt8)) (h5 : idx x1.1.l 5 = some a5) (hl : a5.l.length ≤ 4096) : ((∀ x ∈ a5.l, kindsB x [2, 1] = true) → m_R31_Read_j1 x1 a0 a1 a2 a3 p0 ns = m_R31_Read_j2 x1 a0 a1 a2 a3 ns p0 (a5.l.map memOf)) ∧ (¬ (∀ x ∈ a5.l, kindsB x [2, 1] = true) → m_R31_Read_j1 x1 a0 a1 a2 a3 p0 ns = some (zA, 11)) := by
  unfold m_R31_Read_j1
  have h := loop_acc (l := a5.l) (m_R31_Read_l5 x1 a0 a1 a2 a3 ns p0) (fun x => kindsB x [2, 1] = true) memOf (m_R31_Read_j2 x1 a0 a1 a2 a3 ns p0) (some (zA, 11)) (fun n out i hi ho => by
    rw [m_R31_Read_l5]
    rw [h5, Option.bind_some, bif_pos (dec_t (by omega)), Option.bind_some, idx_nat hi, Option.bind_some, n_Kinds _ _ (by decide), Option.bind_some, wi_succ (by omega)]
    by_cases hk : kindsB a5.l[i] [2, 1] = true
    · refine ⟨fun _ => ?_, fun h => absurd hk h⟩
      obtain ⟨a, b, h3, hl', ha, hb⟩ := kinds2 hk
      have : memOf a5.l[i] = ⟨a.b, b.n⟩ := by unfold memOf; rw [hl']
      rw [hk, this, hl']
      show Option.bind (appI 24 out [S_api_Member.mk a.b b.n]) _ = _
      rw [appI_ok (by simp; omega)]
      rfl
    · refine ⟨fun h => absurd h hk, fun _ => ?_⟩
      rw [show kindsB a5.l[i] [2, 1] = false from by simpa using hk]
      rfl) (fun n out => by
    rw [m_R31_Read_l5]
    rw [h5, Option.bind_some, bif_neg (dec_f (by omega))]) 4098 0 [] (by omega) (by omega) (by simp)
  rw [List.drop_zero] at h
  exact h
theorem ref_past (x1 : V × Int) (p0 : List UInt8) (ns : List (List UInt8)) (ms : List S_api_Member) (h6 : idx x1.1.l 6 = some a6) (hl : a6.l.length ≤ 4096) : ((∀ x ∈ a6.l, kindsB x [1, 1, 1, 2] = true) → m_R31_Read_j2 x1 a0 a1 a2 a3 ns p0 ms = m_R31_Read_j3 a0 a1 a2 a3 ns ms p0 (a6.l.map pastOf)) ∧ (¬ (∀ x ∈ a6.l, kindsB x [1, 1, 1, 2] = true) → m_R31_Read_j2 x1 a0 a1 a2 a3 ns p0 ms = some (zA, 11)) := by
  unfold m_R31_Read_j2
  have h := loop_acc (l := a6.l) (m_R31_Read_l4 x1 a0 a1 a2 a3 ns ms p0) (fun x => kindsB x [1, 1, 1, 2] = true) pastOf (m_R31_Read_j3 a0 a1 a2 a3 ns ms p0) (some (zA, 11)) (fun n out i hi ho => by
    rw [m_R31_Read_l4]
    rw [h6, Option.bind_some, bif_pos (dec_t (by omega)), Option.bind_some, idx_nat hi, Option.bind_some, n_Kinds _ _ (by decide), Option.bind_some, wi_succ (by omega)]
    by_cases hk : kindsB a6.l[i] [1, 1, 1, 2] = true
    · refine ⟨fun _ => ?_, fun h => absurd hk h⟩
      obtain ⟨a, b, c, d, h3, hl', ha, hb, hc, hd⟩ := kinds4 hk
      have : pastOf a6.l[i] = ⟨a.n, b.n, c.n == 1, d.b⟩ := by unfold pastOf; rw [hl']
      rw [hk, this, hl']
      show Option.bind (appI 40 out [S_api_Past.mk a.n b.n (c.n == 1) d.b]) _ = _
      rw [appI_ok (by simp; omega)]
      rfl
    · refine ⟨fun h => absurd h hk, fun _ => ?_⟩
      rw [show kindsB a6.l[i] [1, 1, 1, 2] = false from by simpa using hk]
      rfl) (fun n out => by
    rw [m_R31_Read_l4]
    rw [h6, Option.bind_some, bif_neg (dec_f (by omega))]) 4098 0 [] (by omega) (by omega) (by simp)
  rw [List.drop_zero] at h
  exact h
end
/-- What bytes are read as, by both. -/
theorem answer_reads (b : List UInt8) (hlen : b.length ≤ 2000) : (∃ a, Short a ∧ MayQ a ∧ b = (AV a).enc ∧ m_answer_Read b = some (a, 0) ∧ m_R31_Read b = some (a, 0)) ∨ ∃ e, e ≠ 0 ∧ m_answer_Read b = some (zA, e) ∧ m_R31_Read b = some (zA, e) := by
  cases hd : decS b with
  | error e =>
    have he : e ≠ 0 := by have := decS_err hd; omega
    refine .inr ⟨e, he, ?_, ?_⟩
    · unfold m_answer_Read
      rw [n_Decode]
      unfold decA
      rw [hd]
      show (bif e != 0 then some (zA, e) else _) = _
      rw [bif_pos (ine_t he)]
    · unfold m_R31_Read
      rw [n_R02_Decode]
      unfold decA
      rw [hd]
      show (bif e != 0 then some (zA, e) else _) = _
      rw [bif_pos (ine_t he)]
  | ok v =>
    obtain ⟨hb, hp, hde, hs⟩ := decS_ok hd
    have hvs : v.sz ≤ 2000 := by rw [← V.enc_length, ← hb]; exact hlen
    have e1 : m_answer_Read b = Option.bind (m_codec_Fields v [1, 1, 2, 2, 3, 3, 3]) fun x4 => bif (!x4.2) then (some (zA, 11)) else (Option.bind (idx x4.1 0) fun x7 =>
bif (decide (x7.n > 255)) then (some (zA, 11)) else (Option.bind (idx x4.1 0) fun x10 =>
Option.bind (idx x4.1 1) fun x12 =>
Option.bind (idx x4.1 2) fun x14 =>
Option.bind (idx x4.1 3) fun x16 =>
Option.bind (idx x4.1 4) fun x18 =>
Option.bind (m_answer_things_string x18 m_answer_name) fun x20 =>
Option.bind (idx x4.1 5) fun x22 =>
Option.bind (m_answer_things_Member x22 m_answer_Read_c1) fun x24 =>
Option.bind (idx x4.1 6) fun x26 =>
Option.bind (m_answer_things_Past x26 m_answer_Read_c2) fun x28 =>
bif (!x20.2) then (some (zA, 11)) else (bif (!x24.2) then (some (zA, 11)) else (bif (!x28.2) then (some (zA, 11)) else (Option.bind (m_answer_May (S_api_Answer.mk x10.n x12.n x14.b x16.b x20.1 x24.1 x28.1)) fun x33 =>
bif (!x33) then (some (zA, 11)) else (some ((S_api_Answer.mk x10.n x12.n x14.b x16.b x20.1 x24.1 x28.1), 0))))))) := by
      unfold m_answer_Read
      rw [n_Decode]
      unfold decA
      rw [hd]
      rfl
    have e2 : m_R31_Read b = Option.bind (m_R28_Kinds v [1, 1, 2, 2, 3, 3, 3]) fun x4 => bif (!x4) then (some (zA, 11)) else (Option.bind (idx v.l 0) fun x7 =>
bif (decide (x7.n > 255)) then (some (zA, 11)) else (Option.bind (idx v.l 0) fun x10 =>
Option.bind (idx v.l 1) fun x12 =>
Option.bind (idx v.l 2) fun x14 =>
Option.bind (idx v.l 3) fun x16 =>
m_R31_Read_l6 (v, 0) x10 x12 x14 x16 b (4098) [] 0)) := by
      unfold m_R31_Read
      rw [n_R02_Decode]
      unfold decA
      rw [hd]
      rfl
    rw [n_Fields _ _ (by decide)] at e1
    rw [n_Kinds _ _ (by decide)] at e2
    by_cases hk : kindsB v [1, 1, 2, 2, 3, 3, 3] = true
    case neg =>
      rw [if_neg hk] at e1
      rw [show kindsB v [1, 1, 2, 2, 3, 3, 3] = false by simpa using hk] at e2
      exact .inr ⟨11, by decide, e1, e2⟩
    rw [if_pos hk] at e1
    rw [hk] at e2
    obtain ⟨a0, a1, a2, a3, a4, a5, a6, k3, hl, q0, q1, q2, q3, q4, q5, q6⟩ := kinds7 hk
    have H : Parts v a0 a1 a2 a3 a4 a5 a6 := ⟨hp, hvs, k3, hl, q0, q1, q2, q3, q4, q5, q6⟩
    have i4 := H.item (x := a4) (by simp)
    have i5 := H.item (x := a5) (by simp)
    have i6 := H.item (x := a6) (by simp)
    have l4 := (pure_list i4.1 q4).2
    have l5 := (pure_list i5.1 q5).2
    have l6 := (pure_list i6.1 q6).2
    rw [hl] at e1 e2
    have e1 : m_answer_Read b = bif (decide (a0.n > 255)) then (some (zA, 11)) else (Option.bind (m_answer_things_string a4 m_answer_name) fun x20 =>
Option.bind (m_answer_things_Member a5 m_answer_Read_c1) fun x24 =>
Option.bind (m_answer_things_Past a6 m_answer_Read_c2) fun x28 =>
bif (!x20.2) then (some (zA, 11)) else (bif (!x24.2) then (some (zA, 11)) else (bif (!x28.2) then (some (zA, 11)) else (Option.bind (m_answer_May (S_api_Answer.mk a0.n a1.n a2.b a3.b x20.1 x24.1 x28.1)) fun x33 =>
bif (!x33) then (some (zA, 11)) else (some ((S_api_Answer.mk a0.n a1.n a2.b a3.b x20.1 x24.1 x28.1), 0)))))) := e1
    have e2 : m_R31_Read b = bif (decide (a0.n > 255)) then (some (zA, 11)) else m_R31_Read_l6 (v, 0) a0 a1 a2 a3 b (4098) [] 0 := e2
    by_cases h255 : a0.n > 255
    · rw [bif_pos (dec_t h255)] at e1 e2
      exact .inr ⟨11, by decide, e1, e2⟩
    rw [bif_neg (dec_f h255)] at e1 e2
    rw [ref_names (v, 0) b (by rw [hl]; rfl) l4] at e2
    obtain ⟨m1, m2⟩ := ref_members (a0 := a0) (a1 := a1) (a2 := a2) (a3 := a3) (v, 0) b (a4.l.map V.b) (show idx v.l 5 = some a5 by rw [hl]; rfl) l5
    obtain ⟨p1, p2⟩ := ref_past (a0 := a0) (a1 := a1) (a2 := a2) (a3 := a3) (v, 0) b (a4.l.map V.b) (a5.l.map memOf) (show idx v.l 6 = some a6 by rw [hl]; rfl) l6
    obtain ⟨s1, s2⟩ := t_string a4 l4
    obtain ⟨t1, t2⟩ := t_member a5 l5
    obtain ⟨u1, u2⟩ := t_past a6 l6
    have no : ∀ (x20 : List (List UInt8) × Bool) (x24 : List S_api_Member × Bool) (x28 : List S_api_Past × Bool), m_answer_things_string a4 m_answer_name = some x20 → m_answer_things_Member a5 m_answer_Read_c1 = some x24 → m_answer_things_Past a6 m_answer_Read_c2 = some x28 → (x20.2 = false ∨ x24.2 = false ∨ x28.2 = false) → m_answer_Read b = some (zA, 11) := by
      intro x20 x24 x28 h1 h2 h3 h
      rw [h1, Option.bind_some, h2, Option.bind_some, h3, Option.bind_some] at e1
      rw [e1]
      rcases h with h | h | h
      · rw [h]; rfl
      · rw [h]; cases x20.2 <;> rfl
      · rw [h]; cases x20.2 <;> cases x24.2 <;> rfl
    have ex20 : ∃ x, m_answer_things_string a4 m_answer_name = some x ∧ (x.2 = false ∨ (∀ x ∈ a4.l, x.k = 2)) := by
      by_cases h : ∀ x ∈ a4.l, x.k = 2
      · exact ⟨_, s1 h, .inr h⟩
      · exact ⟨_, s2 h, .inl rfl⟩
    have ex24 : ∃ x, m_answer_things_Member a5 m_answer_Read_c1 = some x := by
      by_cases h : ∀ x ∈ a5.l, kindsB x [2, 1] = true
      · exact ⟨_, t1 h⟩
      · exact ⟨_, t2 h⟩
    have ex28 : ∃ x, m_answer_things_Past a6 m_answer_Read_c2 = some x := by
      by_cases h : ∀ x ∈ a6.l, kindsB x [1, 1, 1, 2] = true ∧ goneN x ≤ 1
      · exact ⟨_, u1 h⟩
      · exact ⟨_, u2 h⟩
    obtain ⟨x20, g20, g20'⟩ := ex20
    obtain ⟨x24, g24⟩ := ex24
    obtain ⟨x28, g28⟩ := ex28
    by_cases h5 : ∀ x ∈ a5.l, kindsB x [2, 1] = true
    case neg =>
      rw [m2 h5] at e2
      have : x24 = ([], false) := by rw [t2 h5] at g24; injection g24 with g24; exact g24.symm
      exact .inr ⟨11, by decide, no x20 x24 x28 g20 g24 g28 (.inr (.inl (by rw [this]))), e2⟩
    rw [m1 h5] at e2
    by_cases h6 : ∀ x ∈ a6.l, kindsB x [1, 1, 1, 2] = true
    case neg =>
      rw [p2 h6] at e2
      have : x28 = ([], false) := by rw [u2 (fun h => h6 fun x hx => (h x hx).1)] at g28; injection g28 with g28; exact g28.symm
      exact .inr ⟨11, by decide, no x20 x24 x28 g20 g24 g28 (.inr (.inr (by rw [this]))), e2⟩
    rw [p1 h6] at e2
    have hsh := H.short h5 h6
    have hiff := H.iff h5 h6
    have e2 : m_R31_Read b = Option.bind (m_R31_May (aOf a0 a1 a2 a3 a4 a5 a6)) fun x21 => bif (!x21) then (some (zA, 11)) else (Option.bind (m_R31_Bytes (aOf a0 a1 a2 a3 a4 a5 a6)) fun x24 => Option.bind (m_R01_Same x24 b) fun x26 => bif (!x26) then (some (zA, 11)) else (some ((aOf a0 a1 a2 a3 a4 a5 a6), 0))) := e2
    by_cases hm : MayQ (aOf a0 a1 a2 a3 a4 a5 a6)
    case neg =>
      rw [(n_R31_May hsh).no hm] at e2
      refine .inr ⟨11, by decide, ?_, e2⟩
      by_cases hc : (∀ x ∈ a4.l, x.k = 2) ∧ (∀ x ∈ a6.l, kindsB x [1, 1, 1, 2] = true ∧ goneN x ≤ 1)
      · rw [e1, s1 hc.1, Option.bind_some, t1 h5, Option.bind_some, u1 hc.2, Option.bind_some]
        show Option.bind (m_answer_May (aOf a0 a1 a2 a3 a4 a5 a6)) _ = _
        rw [(n_answer_May hsh).no hm]
        rfl
      · rcases Classical.not_and_iff_not_or_not.1 hc with hc | hc
        · exact no x20 x24 x28 g20 g24 g28 (.inl (by rw [s2 hc] at g20; injection g20 with g20; rw [← g20]))
        · exact no x20 x24 x28 g20 g24 g28 (.inr (.inr (by rw [u2 hc] at g28; injection g28 with g28; rw [← g28])))
    have hr := hm.right hsh
    rw [(n_R31_May hsh).yes hm, Option.bind_some, bif_neg (c := !true) rfl, n_R31_Bytes hsh hr, Option.bind_some, n_R01_Same _ _ (by rw [V.enc_length]; have := hr.2.2; omega), Option.bind_some] at e2
    by_cases hv : AV (aOf a0 a1 a2 a3 a4 a5 a6) = v
    · have he : (AV (aOf a0 a1 a2 a3 a4 a5 a6)).enc = b := by rw [hv, hb]
      rw [show ((AV (aOf a0 a1 a2 a3 a4 a5 a6)).enc == b) = true by simpa using he] at e2
      obtain ⟨c1, c2⟩ := hiff.1 hv
      refine .inl ⟨_, hsh, hm, he.symm, ?_, e2⟩
      rw [e1, s1 c1, Option.bind_some, t1 h5, Option.bind_some, u1 c2, Option.bind_some]
      show Option.bind (m_answer_May (aOf a0 a1 a2 a3 a4 a5 a6)) _ = _
      rw [(n_answer_May hsh).yes hm]
      rfl
    · have he : (AV (aOf a0 a1 a2 a3 a4 a5 a6)).enc ≠ b := fun e => hv (enc_inj hr ⟨hp, hde, hs⟩ (by rw [e, hb]))
      rw [show ((AV (aOf a0 a1 a2 a3 a4 a5 a6)).enc == b) = false by simpa using he] at e2
      refine .inr ⟨11, by decide, ?_, e2⟩
      rcases Classical.not_and_iff_not_or_not.1 (fun h => hv (hiff.2 h)) with hc | hc
      · exact no x20 x24 x28 g20 g24 g28 (.inl (by rw [s2 hc] at g20; injection g20 with g20; rw [← g20]))
      · exact no x20 x24 x28 g20 g24 g28 (.inr (.inr (by rw [u2 hc] at g28; injection g28 with g28; rw [← g28])))
theorem n_answer_Write {a : S_api_Answer} (h : Short a) (hm : MayQ a) : m_answer_Write a = some ((AV a).enc, 0) := by
  unfold m_answer_Write
  rw [(n_answer_May h).yes hm, Option.bind_some, bif_neg (c := !true) rfl, n_answer_value h, Option.bind_some]
  show Option.bind (m_codec_Encode (AV a)) _ = _
  rw [n_Encode, if_pos (right_of (hm.right h))]
  rfl
theorem same_self {α : Type} (l : List α) (hl : l.length ≤ 4096) (eq : α → α → Bool) (heq : ∀ x, eq x x = true) (F : Nat → Int → Option Bool) (K : Option Bool)
    (hF : ∀ n z, F (n + 1) z = bif decide (z < (l.length : Int)) then (Option.bind (idx l z) fun x => Option.bind (idx l z) fun y => bif (!(eq x y)) then some false else F n (wi (z + 1))) else K) : F (l.length + 1) 0 = K := by
  have h := loop_then (len := l.length) F (fun _ => True) K (some false) (fun n i hi => by
    rw [hF, bif_pos (dec_t (by omega)), idx_nat hi, Option.bind_some, Option.bind_some, wi_succ (by omega), heq]
    exact ⟨fun _ => rfl, fun h => absurd trivial h⟩) (fun n => by rw [hF, bif_neg (dec_f (by omega))]) (l.length + 1) 0 (by omega) (by omega)
  exact h.1 fun _ _ _ => trivial
theorem n_R31_Same {a : S_api_Answer} (h : Short a) : m_R31_Same a a = some true := by
  have n0 := h.data
  have n1 := h.names
  have n2 := h.members
  have n3 := h.history
  unfold m_R31_Same
  rw [bif_neg (ine_f rfl), bif_neg (ine_f rfl), bif_neg (by simp), n_R01_Same _ _ (by omega), Option.bind_some, beq_self_eq_true, bif_neg (c := !true) rfl, bif_neg (ine_f rfl)]
  have hm : m_R27_Same a.Members a.Members = some true := by
    unfold m_R27_Same
    rw [bif_neg (ine_f rfl)]
    exact same_self a.Members (by omega) (fun x y => (x.Name == y.Name) && ((x.Role == y.Role) && true)) (fun x => by simp) (m_R27_Same_l1 a.Members a.Members) (some true) (fun n z => by rw [m_R27_Same_l1])
  rw [hm, Option.bind_some, bif_neg (c := !true) rfl, bif_neg (ine_f rfl)]
  rw [same_self a.Names (by omega) (fun x y => x == y) (fun x => by simp) (m_R31_Same_l3 a a) (m_R31_Same_j1 a a) (fun n z => by rw [m_R31_Same_l3])]
  unfold m_R31_Same_j1
  exact same_self a.History (by omega) (fun x y => (x.Number == y.Number) && ((x.Epoch == y.Epoch) && ((x.Gone == y.Gone) && ((x.By == y.By) && true)))) (fun x => by simp) (m_R31_Same_l2 a a) (some true) (fun n z => by rw [m_R31_Same_l2])
theorem n_AnswerReads (b : List UInt8) : m_L31_AnswerReads b = some true := by
  unfold m_L31_AnswerReads
  rw [awake31, Option.bind_some, bif_neg (c := !true) rfl]
  by_cases hl : (b.length : Int) > 2000
  · rw [bif_pos (dec_t hl)]
  rw [bif_neg (dec_f hl)]
  rcases answer_reads b (by omega) with ⟨a, h, hm, hb, e1, e2⟩ | ⟨e, he, e1, e2⟩
  · rw [e1, e2, Option.bind_some, Option.bind_some]
    show (bif ((0 : Int) != 0) then _ else Option.bind (m_R31_Same a a) _) = _
    rw [bif_neg (ine_f rfl), n_R31_Same h, Option.bind_some, bif_neg (c := !true) rfl]
    show Option.bind (m_answer_Write a) _ = _
    rw [n_answer_Write h hm, Option.bind_some, hb]
    show (bif ((0 : Int) != 0) then _ else (bif ((0 : Int) == 0) then Option.bind (m_R01_Same (AV a).enc (AV a).enc) _ else _)) = _
    have hs3 := (hm.right h).2.2
    rw [bif_neg (ine_f rfl), bif_pos (ieq_t rfl), n_R01_Same _ _ (by rw [V.enc_length]; omega), Option.bind_some, beq_self_eq_true]
  · rw [e1, e2, Option.bind_some, Option.bind_some]
    show (bif (e != e) then _ else Option.bind (m_R31_Same zA zA) _) = _
    have hz : Short zA := ⟨by decide, by decide, by decide, by decide, by decide, (fun x hx => by cases hx), (fun x hx => by cases hx), (fun x hx => by cases hx)⟩
    have hzm : MayQ zA := ⟨by decide, by decide, fun h => absurd rfl h, by decide, by decide, fun h => absurd rfl h, rfl, rfl, rfl⟩
    rw [bif_neg (ine_f rfl), n_R31_Same hz, Option.bind_some, bif_neg (c := !true) rfl]
    show Option.bind (m_answer_Write zA) _ = _
    rw [n_answer_Write hz hzm, Option.bind_some]
    show (bif (e != 0) then some true else _) = _
    rw [bif_pos (ine_t he)]
end Go.Proofs.Yteopjhakjeknaaa
