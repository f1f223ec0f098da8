/-
  Texts joined: see the remarks at the head of each part.
-/
import Derived.Test.YtimdogdplphmoaaDoorSoM
import Derived.Test.YtimdogdplphmoaaDoorSpY
import Derived.Test.YtimdogdplphmoaaDoorSoW
/-
  SpaceOnce, as plain law.
-/
namespace Go.Proofs.YtimdogdplphmoaaDoor
open Go Go.RowKit
set_option linter.unusedVariables false
set_option linter.unusedSimpArgs false

/-- These are the taken ones, each once. -/
def RepW (L : List Int) (w : List Bool) : Prop := L.Nodup ∧ (∀ n : Int, n ∈ L ↔ 0 ≤ n ∧ w.getD n.toNat false = true) ∧ L.length + nfree w = w.length
theorem RepW.perm {L L' : List Int} {w : List Bool} (h : RepW L w) (p : L.Perm L') : RepW L' w :=
  ⟨p.nodup_iff.1 h.1, fun n => (p.mem_iff.symm).trans (h.2.1 n), by rw [← p.length_eq]; exact h.2.2⟩
theorem RepW.lt {L : List Int} {w : List Bool} (h : RepW L w) {n : Int} (hn : n ∈ L) : 0 ≤ n ∧ n.toNat < w.length ∧ w.getD n.toNat false = true := by
  obtain ⟨h1, h2⟩ := (h.2.1 n).1 hn
  refine ⟨h1, ?_, h2⟩
  refine Nat.lt_of_not_le fun hl => ?_
  rw [getD_ge hl] at h2
  cases h2
theorem getD_set (w : List Bool) (p q : Nat) (b : Bool) (hp : p < w.length) : (w.set p b).getD q false = if p = q then b else w.getD q false := by
  rw [List.getD_eq_getElem?_getD, List.getElem?_set]
  by_cases e : p = q
  · rw [if_pos e, if_pos e, if_pos hp]; rfl
  · rw [if_neg e, if_neg e, List.getD_eq_getElem?_getD]
theorem RepW.push {L : List Int} {w : List Bool} (h : RepW L w) {p : Nat} (hp : p < w.length) (hv : w[p] = false) : RepW (L ++ [(p : Int)]) (w.set p true) := by
  have hn : (p : Int) ∉ L := fun hm => by
    have := ((h.2.1 _).1 hm).2
    rw [Int.toNat_natCast, getD_lt hp, hv] at this
    cases this
  refine ⟨?_, fun n => ?_, ?_⟩
  · rw [List.nodup_append]
    refine ⟨h.1, by simp, fun a ha b hb => ?_⟩
    rw [List.mem_singleton] at hb
    intro e
    exact hn (by rw [← hb, ← e]; exact ha)
  · rw [List.mem_append, h.2.1 n, List.mem_singleton]
    constructor
    · rintro (⟨h1, h2⟩ | rfl)
      · refine ⟨h1, ?_⟩
        rw [getD_set _ _ _ _ hp]
        split
        · rfl
        · exact h2
      · refine ⟨by omega, ?_⟩
        rw [getD_set _ _ _ _ hp, if_pos (by simp)]
    · rintro ⟨h1, h2⟩
      rw [getD_set _ _ _ _ hp] at h2
      by_cases e : p = n.toNat
      · exact .inr (by omega)
      · rw [if_neg e] at h2
        exact .inl ⟨h1, h2⟩
  · have := (nfree_set hp).1 hv
    rw [List.length_append, List.length_set]
    have := h.2.2
    simp
    omega
theorem RepW.pop {x : Int} {L : List Int} {w : List Bool} (h : RepW (x :: L) w) : RepW L (w.set x.toNat false) := by
  obtain ⟨h1, h2, h3⟩ := h.lt (n := x) (by simp)
  have hnd := List.nodup_cons.1 h.1
  refine ⟨hnd.2, fun n => ?_, ?_⟩
  · rw [getD_set _ _ _ _ h2]
    constructor
    · intro hn
      obtain ⟨a, b⟩ := (h.2.1 n).1 (by simp [hn])
      refine ⟨a, ?_⟩
      rw [if_neg (fun e => hnd.1 (by rw [show x = n by omega]; exact hn))]
      exact b
    · rintro ⟨a, b⟩
      split at b
      · cases b
      · rename_i e
        have := (h.2.1 n).2 ⟨a, b⟩
        rcases List.mem_cons.1 this with rfl | hm
        · exact absurd rfl e
        · exact hm
  · have := (nfree_set h2).2 (by rw [← getD_lt h2]; exact h3)
    have hl := h.2.2
    rw [List.length_set]
    simp at hl
    omega
theorem RepW.give : ∀ (l R : List Int) (w : List Bool), RepW (l ++ R) w → RepW R (putL w l false)
  | [], R, w, h => h
  | x :: l, R, w, h => by
    show RepW R (putL (w.set x.toNat false) l false)
    exact RepW.give l R _ (RepW.pop (x := x) (L := l ++ R) h)
theorem RepW.ok {l R : List Int} {w : List Bool} (h : RepW (l ++ R) w) : OkAll w l true := fun i hi => by
  have hm : l[i] ∈ l ++ R := List.mem_append_left _ (List.getElem_mem hi)
  obtain ⟨h1, h2, h3⟩ := h.lt hm
  refine ⟨hi, h1, by omega, h3, fun hmem => ?_⟩
  have hnd : l.Nodup := (List.nodup_append.1 h.1).1
  obtain ⟨j, hj, e⟩ := List.getElem_of_mem hmem
  rw [List.getElem_take] at e
  have hj2 : j < i := by simp at hj; omega
  exact (List.pairwise_iff_getElem.1 hnd) j i (by omega) hi hj2 e
/-! ### Maps -/
def mkeys (h : List (Int × Int)) : List Int := h.map (·.1)
theorem mpos_none {h : List (Int × Int)} {k : Int} (hk : k ∉ mkeys h) : mpos h k = none := by
  unfold mpos
  rw [List.findIdx?_eq_none_iff]
  intro x hx
  have : k ≠ x.1 := fun e => hk (by rw [e]; exact List.mem_map.2 ⟨x, hx, rfl⟩)
  simpa using this
theorem mfind_none {h : List (Int × Int)} {k : Int} (hk : k ∉ mkeys h) : (mfind h k).getD 0 = 0 := by
  unfold mfind
  rw [mpos_none hk]
  rfl
theorem mpos_some {h : List (Int × Int)} {k : Int} (hk : k ∈ mkeys h) : ∃ i, ∃ hi : i < h.length, mpos h k = some i ∧ h[i].1 = k := by
  cases hp : mpos h k with
  | none =>
    unfold mpos at hp
    rw [List.findIdx?_eq_none_iff] at hp
    obtain ⟨x, hx, rfl⟩ := List.mem_map.1 hk
    have := hp x hx
    simp at this
  | some i =>
    obtain ⟨hi, h1, _⟩ := List.findIdx?_eq_some_iff_getElem.1 hp
    exact ⟨i, hi, rfl, (by simpa using h1 : k = h[i].1).symm⟩
theorem mfind_pos {h : List (Int × Int)} (hv : ∀ x ∈ h, 0 < x.2) {k : Int} (hk : k ∈ mkeys h) : 0 < (mfind h k).getD 0 := by
  obtain ⟨i, hi, h1, h2⟩ := mpos_some hk
  unfold mfind
  rw [h1]
  simp only [List.getElem?_eq_getElem hi, Option.map_some, Option.getD_some]
  exact hv _ (List.getElem_mem hi)
theorem mset_new {h : List (Int × Int)} {k v : Int} (hk : k ∉ mkeys h) : mset h k v = h ++ [(k, v)] := by
  unfold mset
  rw [mpos_none hk]
theorem cons_erase {α : Type} : ∀ (h : List α) (i : Nat) (hi : i < h.length), h.Perm (h[i] :: h.eraseIdx i)
  | [], i, hi => by simp at hi
  | x :: h, 0, _ => List.Perm.refl _
  | x :: h, i + 1, hi => by
    have ih := cons_erase h i (by simpa using hi)
    rw [List.eraseIdx_cons_succ, List.getElem_cons_succ]
    exact (List.Perm.cons x ih).trans (List.Perm.swap _ _ _)
theorem mdel_perm {h : List (Int × Int)} {k : Int} (hk : k ∈ mkeys h) : (mkeys h).Perm (k :: mkeys (mdel h k)) ∧ ∀ x ∈ mdel h k, x ∈ h := by
  obtain ⟨i, hi, h1, h2⟩ := mpos_some hk
  unfold mdel
  rw [h1]
  simp only
  refine ⟨?_, fun x hx => List.mem_of_mem_eraseIdx hx⟩
  have := (cons_erase h i hi).map (·.1)
  rw [List.map_cons, h2] at this
  exact this
/-! ### What was taken, in lists -/
theorem flat_set : ∀ (T : List (List Int)) (N : Nat) (hN : N < T.length), T.flatten.Perm (T[N] ++ (T.set N []).flatten)
  | [], N, h => by simp at h
  | l :: T, 0, _ => by simp
  | l :: T, N + 1, h => by
    have ih := flat_set T N (by simpa using h)
    simp only [List.flatten_cons, List.getElem_cons_succ, List.set_cons_succ]
    refine (List.Perm.append_left l ih).trans ?_
    rw [← List.append_assoc, ← List.append_assoc]
    exact List.Perm.append_right _ List.perm_append_comm
structure Inv1 (h : List (Int × Int)) (T : List (List Int)) (w : List Bool) : Prop where
  held : RepW (mkeys h) w
  pos : ∀ x ∈ h, 0 < x.2
  all : RepW T.flatten w
section
variable {i : Nat} {p0 : UInt8} {l : List S_L19_Do}
/-- The last loops. -/
theorem once_end (T : List (List Int)) (hT : T.length ≤ 1000) (hx : ∀ a ∈ T, a.length ≤ 1000) : ∀ (n j : Nat) (w : List Bool) (H : Hp), H.ge_space i = some (spOf w) → w.length = p0.toNat → j ≤ T.length → T.length - j < n → RepW (T.drop j).flatten w →
    ∃ H', m_L19_SpaceOnce_l3 T i p0 n (j : Int) H = some (true, H')
  | 0, j, w, H, _, _, _, h, _ => by omega
  | n + 1, j, w, H, h, hw, hj, hf, hr => by
    have hp := p0.toNat_lt
    rw [m_L19_SpaceOnce_l3]
    by_cases hlt : j < T.length
    · rw [List.drop_eq_getElem_cons hlt, List.flatten_cons] at hr
      rw [bif_pos (dec_t (by omega)), idx_nat hlt, Option.bind_some]
      unfold m_space_Space_Give
      rw [m_all h (by omega) _ _ (by have := hx _ (List.getElem_mem hlt); omega), Option.bind_some, Bool.not_false, if_pos hr.ok, Option.bind_some, wi_succ (by omega)]
      simp only
      rw [bif_neg (ine_f rfl)]
      exact once_end T hT hx n (j + 1) _ _ (ge_st h) (by rw [putL_len]; exact hw) (by omega) (by omega) hr.give
    · rw [bif_neg (dec_f (by omega))]
      rw [List.drop_eq_nil_of_le (by omega)] at hr
      have hlen := hr.2.2
      unfold m_L19_SpaceOnce_j2
      rw [m_Free h, Option.bind_some]
      simp only
      simp at hlen
      rw [bif_pos (ieq_t (by omega)), m_Top h (by omega), Option.bind_some]
      have : topOf w w.length = -1 := by
        refine topOf_skip (a := 0) w.length (by omega) fun q _ _ => ?_
        cases hb : w.getD q false with
        | false => rfl
        | true => have := (hr.2.1 (q : Int)).2 ⟨by omega, by rw [Int.toNat_natCast, hb]⟩; cases this
      rw [this]
      exact ⟨_, rfl⟩
/-- What is taken is written down. -/
theorem once_take (kl : Int → List (Int × Int) → List (List Int) → Hp → Option (Bool × Hp)) (z : Nat) (hz : z ≤ 1000) (T : List (List Int)) (a : List Int) (wf : List Bool) (H H0 : Hp) (e0 : Int) (hge : H.ge_space i = some (spOf wf)) (hwf : wf.length = p0.toNat) (hal : a.length ≤ 1000) : ∀ (m q n : Nat) (w : List Bool) (h : List (Int × Int)), q + m = a.length → m < n → w.length = p0.toNat → a.drop q = (takeS m w).1 → wf = (takeS m w).2 → m ≤ nfree w → RepW (mkeys h) w → (∀ x ∈ h, 0 < x.2) → RepW (T.flatten ++ a.take q) w →
    ∃ h', m_L19_SpaceOnce_l7 kl (a, e0, H0) i (z : Int) T p0 n (q : Int) h H = m_L19_SpaceOnce_j6 kl T (a, e0, H0) i p0 (z : Int) h' H ∧ RepW (mkeys h') wf ∧ (∀ x ∈ h', 0 < x.2) ∧ RepW (T.flatten ++ a) wf
  | 0, q, n, w, h, hq, hn, hw, ha, hwe, hfr, hk, hv, hR => by
    obtain ⟨n, rfl⟩ : ∃ n', n = n' + 1 := ⟨n - 1, by omega⟩
    rw [m_L19_SpaceOnce_l7, bif_neg (dec_f (show ¬ (q : Int) < ((a.length : Nat) : Int) by omega))]
    have hwe : wf = w := hwe
    subst hwe
    refine ⟨h, rfl, hk, hv, ?_⟩
    rwa [List.take_of_length_le (by omega)] at hR
  | m + 1, q, n, w, h, hq, hn, hw, ha, hwe, hfr, hk, hv, hR => by
    obtain ⟨n, rfl⟩ : ∃ n', n = n' + 1 := ⟨n - 1, by omega⟩
    have hp := p0.toNat_lt
    have hqa : q < a.length := by omega
    obtain ⟨hp1, hp2, hp3⟩ := idx_free (w := w) (by omega)
    generalize hpp : w.idxOf false = p at hp1 hp2 hp3
    have et : takeS (m + 1) w = ((p : Int) :: (takeS m (w.set p true)).1, (takeS m (w.set p true)).2) := by
      show (((w.idxOf false : Nat) : Int) :: _, _) = _
      rw [hpp]
    rw [et] at ha hwe
    rw [List.drop_eq_getElem_cons hqa] at ha
    injection ha with ha1 ha2
    have hnk : (p : Int) ∉ mkeys h := fun hm => by
      have := ((hk.2.1 _).1 hm).2
      rw [Int.toNat_natCast, getD_lt hp1, hp2] at this
      cases this
    have hrep2 : RepW (T.flatten ++ a.take q ++ [(p : Int)]) (w.set p true) := hR.push hp1 hp2
    have hmem : wf.getD p false = true := by
      have : ∀ (m : Nat) (w : List Bool), w.getD p false = true → (takeS m w).2.getD p false = true ∨ nfree w < m := by
        intro m
        induction m with
        | zero => intro w h; exact .inl h
        | succ m ih =>
          intro w hh
          by_cases hf : nfree w < m + 1
          · exact .inr hf
          · obtain ⟨r1, r2, r3⟩ := idx_free (w := w) (by omega)
            have hnf := (nfree_set r1).1 r2
            rcases ih (w.set (w.idxOf false) true) (by rw [getD_set _ _ _ _ r1]; split <;> simp_all) with h1 | h1
            · exact .inl h1
            · exact .inr (by omega)
      rw [hwe]
      have hnf := (nfree_set hp1).1 hp2
      exact (this m (w.set p true) (by rw [getD_set _ _ _ _ hp1, if_pos rfl])).resolve_right (by omega)
    rw [m_L19_SpaceOnce_l7, bif_pos (dec_t (show (q : Int) < ((a.length : Nat) : Int) by omega))]
    simp only
    rw [idx_nat hqa, Option.bind_some, ha1, bif_neg (dec_f (by rw [mfind_none hnk]; omega)), m_Has hge (by omega), Option.bind_some]
    rw [Int.toNat_natCast, hmem]
    simp only [Bool.not_true, Bool.and_false, cond_false]
    have hz1 : wi ((z : Int) + 1) = ((z + 1 : Nat) : Int) := wi_succ (by omega)
    have hkeys : mkeys (h ++ [((p : Int), ((z + 1 : Nat) : Int))]) = mkeys h ++ [(p : Int)] := by simp [mkeys]
    have hv2 : ∀ x ∈ h ++ [((p : Int), ((z + 1 : Nat) : Int))], 0 < x.2 := fun x hx => by
      rcases List.mem_append.1 hx with hx | hx
      · exact hv x hx
      · rw [List.mem_singleton] at hx; rw [hx]; show (0 : Int) < ((z + 1 : Nat) : Int); omega
    have h8 := loop_run (len := p) (fun n2 y => m_L19_SpaceOnce_l8 (m_L19_SpaceOnce_l7 kl (a, e0, H0) i (z : Int) T p0 n) (p : Int) h (z : Int) (false, H) (q : Int) n2 y) ((m_L19_SpaceOnce_l7 kl (a, e0, H0) i (z : Int) T p0 n) ((q + 1 : Nat) : Int) (h ++ [((p : Int), ((z + 1 : Nat) : Int))]) H) (fun n2 y hy => ?_) (fun n2 => ?_) (p + 1) 0 (by omega) (by omega)
    · have h8 : m_L19_SpaceOnce_l8 (m_L19_SpaceOnce_l7 kl (a, e0, H0) i (z : Int) T p0 n) (p : Int) h (z : Int) (false, H) (q : Int) (p + 1) 0 = _ := h8
      rw [h8]
      have hnf := (nfree_set hp1).1 hp2
      refine once_take kl z hz T a wf H H0 e0 hge hwf hal m (q + 1) n (w.set p true) _ (by omega) (by omega) (by simpa using hw) ha2 hwe (by omega) (by rw [hkeys]; exact hk.push hp1 hp2) hv2 ?_
      rw [List.take_succ_eq_append_getElem hqa, ha1, ← List.append_assoc]
      exact hrep2
    · rw [m_L19_SpaceOnce_l8, bif_pos (dec_t (by omega)), hz1, mset_new hnk]
      have hyk : (y : Int) ∈ mkeys (h ++ [((p : Int), ((z + 1 : Nat) : Int))]) := by
        rw [hkeys]
        exact List.mem_append_left _ ((hk.2.1 _).2 ⟨by omega, by rw [Int.toNat_natCast]; exact hp3 y hy⟩)
      have := mfind_pos hv2 hyk
      rw [bif_neg (ieq_f (by omega)), wi_succ (by omega)]
    · rw [m_L19_SpaceOnce_l8, bif_neg (dec_f (by omega)), hz1, mset_new hnk, wi_succ (by omega)]
/-- What is given back is struck out. -/
theorem once_del (kl : Int → List (Int × Int) → List (List Int) → Hp → Option (Bool × Hp)) (z : Int) (T : List (List Int)) (x : S_L19_Do) (r : Int × Hp) (a : List Int) (ha : a.length ≤ 1000) : ∀ (n q : Nat) (w : List Bool) (h : List (Int × Int)) (R : List Int), q ≤ a.length → a.length - q < n → RepW (a.drop q ++ R) w → RepW (mkeys h) w → (∀ x ∈ h, 0 < x.2) →
    ∃ h', m_L19_SpaceOnce_l10 kl a T x i p0 z r n (q : Int) h = m_L19_SpaceOnce_j9 kl T x i p0 z r h' ∧ RepW (mkeys h') (putL w (a.drop q) false) ∧ (∀ x ∈ h', 0 < x.2)
  | 0, q, w, h, R, _, hn, _, _, _ => by omega
  | n + 1, q, w, h, R, hq, hn, hR, hk, hv => by
    rw [m_L19_SpaceOnce_l10]
    by_cases hlt : q < a.length
    · rw [List.drop_eq_getElem_cons hlt] at hR ⊢
      rw [bif_pos (dec_t (by omega)), idx_nat hlt, Option.bind_some, wi_succ (by omega)]
      have hmem : a[q] ∈ mkeys h := (hk.2.1 _).2 ((hR.2.1 _).1 (by rw [List.cons_append]; exact List.mem_cons_self))
      obtain ⟨hp, hsub⟩ := mdel_perm hmem
      exact once_del kl z T x r a ha n (q + 1) (w.set a[q].toNat false) (mdel h a[q]) R (by omega) (by omega) (RepW.pop (x := a[q]) (L := a.drop (q + 1) ++ R) hR) (hk.perm hp).pop (fun x hx => hv x (hsub x hx))
    · rw [bif_neg (dec_f (by omega)), List.drop_eq_nil_of_le (by omega)]
      exact ⟨h, rfl, hk, hv⟩
theorem once_loop (hl : ∀ d ∈ l, d.L.length ≤ 30) (hll : l.length ≤ 30) : ∀ (n j : Nat) (w : List Bool) (h : List (Int × Int)) (T : List (List Int)) (H : Hp), H.ge_space i = some (spOf w) → w.length = p0.toNat → j ≤ l.length → l.length - j < n → T.length ≤ j → (∀ a ∈ T, a.length ≤ 1000) → Inv1 h T w →
    ∃ H', m_L19_SpaceOnce_l4 l i p0 n (j : Int) h T H = some (true, H')
  | 0, j, w, h, T, H, _, _, _, hf, _, _, _ => by omega
  | n + 1, j, w, h, T, H, hge, hw, hj, hf, hT, hTa, I => by
    have hp := p0.toNat_lt
    have hle := nfree_le w
    rw [m_L19_SpaceOnce_l4]
    by_cases hlt : j < l.length
    · have h5 : ∀ (w : List Bool) (h : List (Int × Int)) (T : List (List Int)) (H : Hp), H.ge_space i = some (spOf w) → w.length = p0.toNat → T.length ≤ j + 1 → (∀ a ∈ T, a.length ≤ 1000) → Inv1 h T w → ∃ H', m_L19_SpaceOnce_j5 (m_L19_SpaceOnce_l4 l i p0 n) i p0 (j : Int) h T H = some (true, H') := fun w h T H hge hw hT hTa I => by
        unfold m_L19_SpaceOnce_j5
        have hlen := I.held.2.2
        have hkl : (mkeys h).length = h.length := by simp [mkeys]
        rw [m_Free hge, Option.bind_some]
        simp only
        rw [wi_id (z := (p0.toNat : Int) - (h.length : Int)) (by omega) (by omega), bif_neg (ine_f (by omega)), wi_succ (by omega)]
        exact once_loop hl hll n (j + 1) w h T H hge hw (by omega) (by omega) hT hTa I
      rw [bif_pos (dec_t (by omega)), idx_nat hlt, Option.bind_some]
      have hnext := once_loop hl hll n (j + 1) w h T H hge hw (by omega) (by omega) (by omega) hTa I
      rw [wi_succ (by omega)]
      generalize l[j] = d
      by_cases k1 : d.Kind = 1
      · rw [bif_pos (ieq_t k1), m_Take hge (by omega), Option.bind_some]
        by_cases h0 : d.N < 0
        · rw [if_pos h0]; exact hnext
        · rw [if_neg h0]
          by_cases h1 : (nfree w : Int) < d.N
          · rw [if_pos h1]; exact hnext
          · rw [if_neg h1]
            simp only
            rw [bif_neg (ine_f rfl)]
            obtain ⟨m, hm⟩ : ∃ m : Nat, d.N = m := ⟨d.N.toNat, by omega⟩
            rw [hm, Int.toNat_natCast]
            obtain ⟨t1, t2⟩ := takeS_len m w
            obtain ⟨h', e1, e2, e3, e4⟩ := once_take (i := i) (p0 := p0) (m_L19_SpaceOnce_l4 l i p0 n) j (by omega) T (takeS m w).1 (takeS m w).2 (H.st_space i (spOf (takeS m w).2)) (H.st_space i (spOf (takeS m w).2)) 0 (ge_st hge) (by omega) (by omega) m 0 ((takeS m w).1.length + 1) w h (by omega) (by omega) hw rfl rfl (by omega) I.held I.pos (by rw [List.take_zero, List.append_nil]; exact I.all)
            have e1 : m_L19_SpaceOnce_l7 (m_L19_SpaceOnce_l4 l i p0 n) ((takeS m w).1, 0, H.st_space i (spOf (takeS m w).2)) i (j : Int) T p0 ((takeS m w).1.length + 1) 0 h (H.st_space i (spOf (takeS m w).2)) = _ := e1
            rw [e1]
            unfold m_L19_SpaceOnce_j6
            rw [appI_ok (by simp; omega), Option.bind_some]
            refine h5 _ _ _ _ (ge_st hge) (by omega) (by simp; omega) (fun a ha => ?_) ⟨e2, e3, by rw [List.flatten_append]; simpa using e4⟩
            rcases List.mem_append.1 ha with ha | ha
            · exact hTa a ha
            · rw [List.mem_singleton] at ha; rw [ha]; show (takeS m w).1.length ≤ 1000; omega
      · rw [bif_neg (ieq_f k1)]
        by_cases k4 : d.Kind = 4
        · rw [bif_pos (ieq_t k4)]
          by_cases h0 : d.N < 0
          · rw [bif_pos (dec_t h0)]; exact hnext
          · rw [bif_neg (dec_f h0)]
            by_cases h1 : d.N ≥ (T.length : Int)
            · rw [bif_pos (dec_t h1)]; exact hnext
            · rw [bif_neg (dec_f h1)]
              obtain ⟨m, hm⟩ : ∃ m : Nat, d.N = m := ⟨d.N.toNat, by omega⟩
              have hmT : m < T.length := by omega
              rw [hm, idx_nat hmT, Option.bind_some]
              by_cases h2 : T[m].length = 0
              · rw [bif_pos (ieq_t (by omega))]; exact hnext
              · have hal := hTa _ (List.getElem_mem hmT)
                have hR := I.all.perm (flat_set T m hmT)
                rw [bif_neg (ieq_f (by omega)), Option.bind_some]
                unfold m_space_Space_Give
                rw [m_all hge (by omega) _ _ (by omega), Option.bind_some, Bool.not_false, if_pos hR.ok, Option.bind_some]
                simp only
                have hge2 := ge_st (y := spOf (putL w T[m] false)) hge
                have hno : ¬ OkAll (putL w T[m] false) T[m] true := fun hc => by
                  obtain ⟨hi, b1, b2, b3, _⟩ := hc 0 (by omega)
                  obtain ⟨c1, c2, c3⟩ := hR.lt (n := T[m][0]) (List.mem_append_left _ (List.getElem_mem hi))
                  rw [putL_get _ _ _ (fun x hx => by obtain ⟨a1, a2, _⟩ := hR.lt (n := x) (List.mem_append_left _ hx); exact ⟨a1, by omega⟩) _ c2, if_pos (by rw [show ((T[m][0].toNat : Nat) : Int) = T[m][0] by omega]; exact List.getElem_mem hi)] at b3
                  cases b3
                rw [bif_neg (ine_f rfl), Option.bind_some, m_all hge2 (by rw [putL_len]; omega) _ _ (by omega), Option.bind_some, Bool.not_false, if_neg hno, Option.bind_some]
                simp only
                rw [bif_neg (ine_f rfl), Option.bind_some]
                obtain ⟨h', e1, e2, e3⟩ := once_del (i := i) (p0 := p0) (m_L19_SpaceOnce_l4 l i p0 n) (j : Int) T d (2, H.st_space i (spOf (putL w T[m] false))) T[m] hal (T[m].length + 1) 0 w h (T.set m []).flatten (by omega) (by omega) hR I.held I.pos
                have e1 : m_L19_SpaceOnce_l10 (m_L19_SpaceOnce_l4 l i p0 n) T[m] T d i p0 (j : Int) (2, H.st_space i (spOf (putL w T[m] false))) (T[m].length + 1) 0 h = _ := e1
                rw [e1]
                unfold m_L19_SpaceOnce_j9
                rw [hm, idx_nat hmT, Option.bind_some, Int.toNat_natCast]
                refine h5 _ _ _ _ hge2 (by rw [putL_len]; exact hw) (by simp; omega) (fun a ha => ?_) ⟨e2, e3, hR.give⟩
                rcases List.mem_or_eq_of_mem_set ha with ha | ha
                · exact hTa a ha
                · rw [ha]; simp
        · rw [bif_neg (ieq_f k4)]
          exact h5 w h T H hge hw (by omega) hTa I
    · rw [bif_neg (dec_f (by omega))]
      unfold m_L19_SpaceOnce_j1
      exact once_end T (by omega) hTa _ 0 w H hge hw (by omega) (by omega) I.all
end
theorem n_SpaceOnce (n : UInt8) (l : List S_L19_Do) (hl : l.length ≤ 9223372036854775807) : ∃ H, m_L19_SpaceOnce n l Hp.e = some (true, H) := by
  obtain ⟨H, ha⟩ := m_awake
  have hn := n.toNat_lt
  unfold m_L19_SpaceOnce
  rw [ha, Option.bind_some]
  simp only [Bool.not_true, cond_false]
  have t1 : m_space_Space_Take none 0 H = some ([], 1, H) := rfl
  have t2 : m_space_Space_Claim none [] H = some (1, H) := rfl
  have t3 : m_space_Space_Give none [] H = some (1, H) := rfl
  have t4 : m_space_Space_Top none H = some (-1, H) := rfl
  have t5 : m_space_Space_Free none H = some (0, H) := rfl
  have t6 : m_space_Space_Bytes none H = some ([], H) := rfl
  have t7 : m_space_Space_Runs none H = some ([], H) := rfl
  have t8 : m_space_Space_Has none 0 H = some (false, H) := rfl
  rw [t1, Option.bind_some]
  simp only
  rw [bif_neg (ine_f rfl), t2, Option.bind_some]
  simp only
  rw [bif_neg (ine_f rfl), t3, Option.bind_some]
  simp only
  rw [bif_neg (ine_f rfl), t4, Option.bind_some]
  simp only
  rw [bif_neg (ine_f rfl), t5, Option.bind_some]
  simp only
  rw [t6, Option.bind_some]
  simp only
  rw [t7, Option.bind_some]
  simp only
  rw [bif_neg (ine_f (show wi (wi (0 + ((([] : List UInt8).length : Nat) : Int)) + ((([] : List S_api_Run).length : Nat) : Int)) = 0 from rfl)), t8, Option.bind_some]
  simp only [cond_false]
  have hf := m_few l hl
  by_cases h3 : (∀ d ∈ l, d.L.length ≤ 30) ∧ l.length ≤ 30
  · rw [hf.yes h3, Option.bind_some, Bool.not_true, cond_false, m_New, if_neg (by omega), Option.bind_some]
    unfold ptM
    simp only
    rw [bif_neg (ine_f rfl), Int.toNat_natCast]
    have hge := ge_new H (spOf (List.replicate n.toNat false))
    have hrep : RepW [] (List.replicate n.toNat false) := ⟨by simp, fun k => ⟨fun h => (by cases h), fun ⟨_, h⟩ => by
      rw [List.getD_eq_getElem?_getD, List.getElem?_replicate] at h
      split at h <;> cases h⟩, by unfold nfree; simp⟩
    exact once_loop h3.1 h3.2 (l.length + 1) 0 _ [] [] _ hge (by simp) (by omega) (by omega) (by simp) (fun a ha => by cases ha) ⟨hrep, fun x hx => (by cases hx), hrep⟩
  · rw [hf.no h3, Option.bind_some, Bool.not_false, cond_true]
    exact ⟨_, rfl⟩
end Go.Proofs.YtimdogdplphmoaaDoor

/-
  SpaceOnce as a contract over data.
-/
namespace Go.Proofs.YtimdogdplphmoaaDoor
open Go Go.RowKit
theorem fc_L19_SpaceOnce (p0 : UInt8) (p1 : List S_L19_Do) (r : Bool) (h : ∃ H, m_L19_SpaceOnce p0 p1 Hp.e = some (r, H)) : FC Tryd.prog 4 [.t (.d (.lit (.int .u8 (p0.toNat : Int)))), .t (.d (.seq 3 (List.map cS_L19_Do p1)))] [] (.t (.d (.lit (.bool r)))) := by
  obtain ⟨H, h⟩ := h
  exact fc_of_h (fch_L19_SpaceOnce p0 p1 Hp.e _ h) hpA_e rfl (by show 2 ≤ OB; decide)
end Go.Proofs.YtimdogdplphmoaaDoor
