/-
  Texts joined: see the remark at the head of each part.
-/
import Derived.Test.YtjomnccladjpgaaC19
import Derived.Test.YtjomnccladjpgaaC13
import Derived.Test.YtjomnccladjpgaaC18
import Derived.Test.YtjomnccladjpgaaC04
import Derived.ProofKit
import Derived.Lib.SmallJoins
set_option linter.unusedVariables false
set_option linter.unusedSimpArgs false
/-
  Plain: IndexDoes is true.
-/
namespace Go.Proofs.Ytjomnccladjpgaa
open Go Go.RowKit
set_option linter.unusedVariables false
set_option linter.unusedSimpArgs false

/-! ### The homes, and the transaction that has them -/
theorem n_Begun_l1 {t : Nat} {y : (Option Nat) × Int × Hp} (hy : y.1 = some t) (p : List (List UInt8)) (hpl : p.length ≤ 20) (hp : ∀ r ∈ p, r.length = 64) : ∀ (n i : Nat) (H : Hp) (hs : List (List UInt8)) (mp : List (Int × List UInt8)), i ≤ p.length → p.length - i < n → TIn H t hs mp → hs.length = 20 → (∀ k, k < i → hs[k]? = p[k]?) →
    ∃ H' hs' mp', m_L20_Begun_l1 p y n (i : Int) H = some (some t, H') ∧ TIn H' t hs' mp' ∧ hs'.length = 20 ∧ (∀ k, k < p.length → hs'[k]? = p[k]?) ∧ (∀ k, p.length ≤ k → hs'[k]? = hs[k]?)
  | 0, i, H, hs, mp, _, h, _, _, _ => by omega
  | n + 1, i, H, hs, mp, hi, h, hT, hl, hk => by
    unfold m_L20_Begun_l1
    by_cases hlt : i < p.length
    · obtain ⟨H1, w1, w2, m, v, w3⟩ := n_TWrite hT (k := i) (by omega) (x := p[i]) (hp _ (List.getElem_mem hlt))
      rw [bif_pos (dec_t (by omega)), idx_nat hlt, Option.bind_some, hy, w1, Option.bind_some, wi_succ (by omega)]
      obtain ⟨H', hs', mp', q1, q2, q3, q4, q5⟩ := n_Begun_l1 hy p hpl hp n (i + 1) H1 (hs.set i p[i]) _ (by omega) (by omega) w2 (by rw [List.length_set]; exact hl) (fun k hki => by
        by_cases e : k = i
        · subst e
          rw [List.getElem?_set_self (by omega), List.getElem?_eq_getElem hlt]
        · rw [List.getElem?_set_ne (by omega)]
          exact hk k (by omega))
      exact ⟨H', hs', mp', q1, q2, q3, q4, fun k hpk => by rw [q5 k hpk, List.getElem?_set_ne (by omega)]⟩
    · have e : i = p.length := by omega
      subst e
      rw [bif_neg (dec_f (by omega)), hy]
      exact ⟨H, hs, mp, rfl, hT, hl, hk, fun _ _ => rfl⟩
/-- Twenty homes that are noughts, or what is told first. -/
theorem n_Begun (p : List (List UInt8)) (hpl : p.length ≤ 20) (hp : ∀ r ∈ p, r.length = 64) (w1 : Hp) : ∃ t H' hs mp, m_L20_Begun p w1 = some (some t, H') ∧ TIn H' t hs mp ∧ hs.length = 20 ∧ (∀ k, k < p.length → hs[k]? = p[k]?) ∧ (∀ k, p.length ≤ k → k < 20 → hs[k]? = some Z64) ∧ (p = [] → mp = []) := by
  obtain ⟨H1, H2, H3, i, j, d, e1, e2, e3, e4, e5, e6⟩ := open_new w1 (n := 30) (s := 8) (by omega) (by omega) (by omega)
  obtain ⟨H4, b1, b2, b3⟩ := n_Begin e4.toLIn
  have hl : d.now.length = 30 := by rw [e6]; simp
  have hz : ∀ k, k < 20 → (d.now.drop (2 + 8))[k]? = some Z64 := fun k hk => by
    rw [List.getElem?_drop, e6, List.getElem?_set_ne (by omega), List.getElem?_set_ne (by omega), List.getElem?_replicate, if_pos (by omega)]
  unfold m_L20_Begun
  rw [show ((30 : Nat) : Int) = 30 from rfl] at e1
  rw [e1, Option.bind_some]
  show ∃ t H' hs mp, Option.bind (m_wal_Format (some i) ((8 : Nat) : Int) H1) _ = _ ∧ _
  rw [e2, Option.bind_some]
  show ∃ t H' hs mp, Option.bind (m_wal_Open (some i) H2) _ = _ ∧ _
  rw [e3, Option.bind_some]
  show ∃ t H' hs mp, Option.bind (m_wal_Log_Begin (some j) H3) _ = _ ∧ _
  rw [b1, Option.bind_some]
  by_cases hp0 : p = []
  · subst hp0
    exact ⟨H3.tx.length, H4, _, [], rfl, b2, by rw [List.length_drop, hl], fun k h => absurd h (Nat.not_lt_zero _), fun k _ h => hz k h, fun _ => rfl⟩
  · obtain ⟨H', hs', mp', q1, q2, q3, q4, q5⟩ := n_Begun_l1 (t := H3.tx.length) (y := (some H3.tx.length, 0, H4)) rfl p hpl hp (p.length + 1) 0 H4 _ [] (by omega) (by omega) b2 (by rw [List.length_drop, hl]) (fun k h => absurd h (Nat.not_lt_zero _))
    exact ⟨H3.tx.length, H', hs', mp', q1, q2, q3, q4, fun k h1 h2 => by rw [q5 k h1, hz k h2], fun e => absurd e hp0⟩
/-! ### The play -/
end Go.Proofs.Ytjomnccladjpgaa

/-
  Plain: what is put over homes, and what is got.
-/
namespace Go.Proofs.Ytjomnccladjpgaa
open Go Go.RowKit
set_option linter.unusedVariables false
set_option linter.unusedSimpArgs false

/-! ### How many homes -/
def cntN (n : Nat) : Nat := (n + 59) / 60
theorem n_may21 (z : Int) : m_blob_may z = some (decide (0 ≤ z) && decide (z ≤ 1024)) := by
  unfold m_blob_may
  by_cases h : z ≥ 0
  · rw [bif_pos (dec_t h), dec_t (p := 0 ≤ z) h]; rfl
  · rw [bif_neg (dec_f h), dec_f (p := 0 ≤ z) h]; rfl
theorem n_Count {n : Nat} (h : n ≤ 1024) : m_blob_Count (n : Int) = some (cntN n : Int) := by
  unfold m_blob_Count
  rw [n_may21, Option.bind_some, dec_t (p := (0 : Int) ≤ n) (by omega), dec_t (p := (n : Int) ≤ 1024) (by omega), bif_neg (by rfl)]
  rw [wi_id (z := (n : Int) + 60) (by omega) (by omega), wi_id (z := (n : Int) + 60 - 1) (by omega) (by omega)]
  have e : ((n : Int) + 60 - 1) = ((n + 59 : Nat) : Int) := by omega
  rw [e, Int.tdiv_eq_ediv_of_nonneg (by omega), show ((60 : Int)) = ((60 : Nat) : Int) from rfl, ← Int.natCast_ediv]
  have : (n + 59) / 60 ≤ n + 59 := Nat.div_le_self _ _
  rw [wi_id (by omega) (by omega)]
  rfl
theorem n_CountOut {z : Int} (h : ¬ (0 ≤ z ∧ z ≤ 1024)) : m_blob_Count z = some 0 := by
  unfold m_blob_Count
  rw [n_may21, Option.bind_some]
  have : (decide (0 ≤ z) && decide (z ≤ 1024)) = false := by
    rw [← Bool.decide_and]
    exact dec_f h
  rw [this]
  rfl
/-! ### Which homes may be -/
def RtP (p : List Int) : Prop := ∀ i x, p[i]? = some x → (1 ≤ x ∧ x ≤ 16384) ∧ x ∉ p.take i
theorem n_Index_l1 (p : List Int) (x : Int) (hp : p.length < 1000000000) : ∀ (f i : Nat), i ≤ p.length → p.length - i < f → ∃ z, m_slices_Index_int_l1 p x f (i : Int) = some z ∧ (z ≥ 0 ↔ x ∈ p.drop i)
  | 0, i, _, h => by omega
  | f + 1, i, hi, h => by
    unfold m_slices_Index_int_l1
    by_cases hlt : i < p.length
    · rw [bif_pos (dec_t (by omega)), idx_nat hlt, Option.bind_some]
      have hd := List.drop_eq_getElem_cons hlt
      by_cases e : x = p[i]
      · rw [bif_pos (ieq_t e)]
        exact ⟨_, rfl, ⟨fun _ => by rw [hd, e]; exact List.mem_cons_self, fun _ => by omega⟩⟩
      · rw [bif_neg (ieq_f e), wi_succ (by omega)]
        obtain ⟨z, h1, h2⟩ := n_Index_l1 p x hp f (i + 1) (by omega) (by omega)
        exact ⟨z, h1, by rw [h2, hd, List.mem_cons]; exact ⟨.inr, fun h => h.resolve_left e⟩⟩
    · rw [bif_neg (dec_f (by omega))]
      exact ⟨_, rfl, by rw [List.drop_eq_nil_of_le (by omega)]; simp⟩
theorem n_Contains {p : List Int} (x : Int) (hp : p.length < 1000000000) : m_slices_Contains_int p x = some (decide (x ∈ p)) := by
  unfold m_slices_Contains_int m_slices_Index_int
  obtain ⟨z, h1, h2⟩ := n_Index_l1 p x hp (p.length + 1) 0 (by omega) (by omega)
  rw [show ((0 : Nat) : Int) = 0 from rfl] at h1
  rw [h1, Option.bind_some]
  congr 1
  rw [List.drop_zero] at h2
  exact decide_eq_decide.2 h2
theorem n_right {p : List Int} (hp : p.length < 1000000000) : ∃ b, m_blob_right p = some b ∧ (b = true ↔ RtP p) := by
  have key : ∀ (f i : Nat), i ≤ p.length → p.length - i < f → (∀ j x, j < i → p[j]? = some x → (1 ≤ x ∧ x ≤ 16384) ∧ x ∉ p.take j) → ∃ b, m_blob_right_l1 p f (i : Int) = some b ∧ (b = true ↔ RtP p) := by
    intro f
    induction f with
    | zero => intro i _ h; omega
    | succ f ih =>
      intro i hi h hb
      unfold m_blob_right_l1
      by_cases hlt : i < p.length
      · have hx := List.getElem?_eq_getElem hlt
        rw [bif_pos (dec_t (by omega)), idx_nat hlt, Option.bind_some]
        by_cases h1 : p[i] < 1
        · rw [bif_pos (dec_t h1)]
          exact ⟨false, rfl, fun e => Bool.noConfusion e, fun hr => by have := (hr i _ hx).1; omega⟩
        · rw [bif_neg (dec_f h1)]
          by_cases h2 : p[i] > 16384
          · rw [bif_pos (dec_t h2)]
            exact ⟨false, rfl, fun e => Bool.noConfusion e, fun hr => by have := (hr i _ hx).1; omega⟩
          · rw [bif_neg (dec_f h2), cutI_take (by omega), Option.bind_some, n_Contains _ (by rw [List.length_take]; omega), Option.bind_some]
            by_cases h3 : p[i] ∈ p.take i
            · rw [bif_pos (dec_t h3)]
              exact ⟨false, rfl, fun e => Bool.noConfusion e, fun hr => absurd h3 (hr i _ hx).2⟩
            · rw [bif_neg (dec_f h3), wi_succ (by omega)]
              refine ih (i + 1) (by omega) (by omega) fun j x hj hjx => ?_
              by_cases e : j = i
              · subst e
                rw [hx] at hjx
                injection hjx with hjx
                subst hjx
                exact ⟨⟨by omega, by omega⟩, h3⟩
              · exact hb j x (by omega) hjx
      · rw [bif_neg (dec_f (by omega))]
        exact ⟨true, rfl, fun _ j x hj => hb j x (by have := (List.getElem?_eq_some_iff.1 hj).1; omega) hj, fun _ => rfl⟩
  exact key _ 0 (by omega) (by omega) fun j x h => absurd h (Nat.not_lt_zero _)
/-! ### A home's bytes -/
def nxt (p : List Int) (i : Nat) : Nat := (p.getD (i + 1) 0).toNat
def pcs (b : List UInt8) (i : Nat) : List UInt8 := (b.drop (60 * i)).take 60
def rowP (p : List Int) (b : List UInt8) (i : Nat) : List UInt8 := be 4 (nxt p i) ++ (pcs b i ++ List.replicate (60 - (pcs b i).length) 0)
theorem pcs_len (b : List UInt8) (i : Nat) : (pcs b i).length ≤ 60 := by unfold pcs; rw [List.length_take]; omega
theorem rowP_len (p : List Int) (b : List UInt8) (i : Nat) : (rowP p b i).length = 64 := by
  have := pcs_len b i
  simp [rowP, be_length]
  omega
theorem rt_nxt {p : List Int} (h : RtP p) (i : Nat) : nxt p i ≤ 16384 := by
  unfold nxt
  cases hq : p[i + 1]? with
  | none => rw [List.getD_eq_getElem?_getD, hq]; show (0 : Int).toNat ≤ _; omega
  | some x =>
    rw [List.getD_eq_getElem?_getD, hq]
    have := (h _ _ hq).1
    show x.toNat ≤ _
    omega
end Go.Proofs.Ytjomnccladjpgaa

/-
  Plain: Put, Homes and Get.
-/
namespace Go.Proofs.Ytjomnccladjpgaa
open Go Go.RowKit
set_option linter.unusedVariables false
set_option linter.unusedSimpArgs false

/-! ### Put -/
/-- Rows written over homes, from the q-th on. -/
def wrP (p : List Int) (b : List UInt8) : List Int → Nat → List (List UInt8) → List (List UInt8)
  | [], _, hs => hs
  | h :: r, q, hs => wrP p b r (q + 1) (hs.set h.toNat (rowP p b q))
theorem wrP_len (p : List Int) (b : List UInt8) : ∀ (r : List Int) (q : Nat) (hs : List (List UInt8)), (wrP p b r q hs).length = hs.length
  | [], _, _ => rfl
  | h :: r, q, hs => by unfold wrP; rw [wrP_len p b r]; simp
def msP (p : List Int) (b : List UInt8) : List Int → Nat → List (Int × List UInt8) → List (Int × List UInt8)
  | [], _, mp => mp
  | h :: r, q, mp => msP p b r (q + 1) (mset mp h (rowP p b q))
theorem cpyA (x y : List UInt8) {o n : Nat} (h : o + n ≤ x.length) : cpyI x o n y = some (x.take o ++ (y.take n ++ x.drop (o + min y.length n))) := by
  unfold cpyI
  rw [if_pos h]
  rfl
theorem n_word_Put {n : Nat} (h : n ≤ 16384) : m_word_Put (n : Int) 4 = some (be 4 n, 0) := by
  unfold m_word_Put
  rw [if_pos ⟨by omega, by omega, by omega, by omega, by rw [show (256 : Nat) ^ Int.toNat 4 = 4294967296 from rfl]; omega⟩]
  rfl
/-- A round of Put. -/
theorem n_Put_r1 {p : List Int} {b : List UInt8} {t q : Nat} {H : Hp} {hs : List (List UInt8)} {mp : List (Int × List UInt8)} (hp : RtP p) (hl : p.length ≤ 1000) (hq : q < p.length) (hT : TIn H t hs mp) (z : Int) :
    (p[q].toNat < hs.length ∧ ∃ H', m_blob_Put_r1 p t (pcs b q) z (q : Int) H = some (true, (z, ((q + 1 : Nat) : Int)), H') ∧ TIn H' t (hs.set p[q].toNat (rowP p b q)) (mset mp p[q] (rowP p b q)))
    ∨ (hs.length ≤ p[q].toNat ∧ m_blob_Put_r1 p t (pcs b q) z (q : Int) H = some (false, (31, (q : Int)), H)) := by
  have hpq := (hp _ _ (List.getElem?_eq_getElem hq)).1
  have hpl := pcs_len b q
  have low := hT.low
  -- behind the first copy
  have key : ∀ y : List UInt8, y.length = 64 → y.take 4 = be 4 (nxt p q) → y.drop 4 = List.replicate 60 0 →
      (p[q].toNat < hs.length ∧ ∃ H', m_blob_Put_j2 (pcs b q) p (q : Int) t H z y = some (true, (z, ((q + 1 : Nat) : Int)), H') ∧ TIn H' t (hs.set p[q].toNat (rowP p b q)) (mset mp p[q] (rowP p b q)))
      ∨ (hs.length ≤ p[q].toNat ∧ m_blob_Put_j2 (pcs b q) p (q : Int) t H z y = some (false, (31, (q : Int)), H)) := by
    intro y hy h4 h60
    have hr : y.take (0 + Int.toNat 4 * 1) ++ ((pcs b q).take (Int.toNat (y.length : Int) - Int.toNat 4) ++ y.drop ((0 + Int.toNat 4 * 1) + min (pcs b q).length (Int.toNat (y.length : Int) - Int.toNat 4))) = rowP p b q := by
      rw [show 0 + Int.toNat 4 * 1 = 4 from rfl, hy, show Int.toNat ((64 : Nat) : Int) - Int.toNat 4 = 60 from rfl, h4, List.take_of_length_le hpl, Nat.min_eq_left hpl, ← List.drop_drop, h60, List.drop_replicate]
      rfl
    unfold m_blob_Put_j2
    rw [show vcut y.length 4 (y.length : Int) = some () by unfold vcut; rw [if_pos ⟨by omega, by omega, by omega⟩], Option.bind_some, cpyA _ _ (by rw [hy]; decide), hr, Option.bind_some, lenI_ok (by rw [rowP_len, hy]), Option.bind_some, idx_nat hq, Option.bind_some]
    rcases Nat.lt_or_ge p[q].toNat hs.length with hlt | hge
    · obtain ⟨H', w1, w2, _⟩ := n_TWrite hT hlt (x := rowP p b q) (rowP_len _ _ _)
      rw [show ((p[q].toNat : Nat) : Int) = p[q] by omega] at w1 w2
      rw [w1, Option.bind_some, bif_neg (by rfl), wi_succ (by omega)]
      exact .inl ⟨hlt, H', rfl, w2⟩
    · rw [n_TWriteOut hT (by omega), Option.bind_some, bif_pos (by rfl)]
      exact .inr ⟨hge, rfl⟩
  unfold m_blob_Put_r1
  rw [show mkI 1 64 = some 64 from rfl, Option.bind_some, wi_succ (by omega)]
  by_cases h : q + 1 < p.length
  · have hx := (hp _ _ (List.getElem?_eq_getElem h)).1
    have en : p[q + 1] = ((nxt p q : Nat) : Int) := by unfold nxt; rw [List.getD_eq_getElem?_getD, List.getElem?_eq_getElem h]; show _ = ((p[q + 1].toNat : Nat) : Int); omega
    rw [bif_pos (dec_t (by omega)), idx_nat h, Option.bind_some, en, n_word_Put (rt_nxt hp q), Option.bind_some, cpyA _ _ (by simp), Option.bind_some, lenI_ok (by simp [be_length]), Option.bind_some]
    have e64 : (be 4 (nxt p q)).take 64 = be 4 (nxt p q) := List.take_of_length_le (by rw [be_length]; omega)
    exact key _ (by simp [be_length]) (by simp [be_length, e64]) (by simp [be_length])
  · rw [bif_neg (dec_f (by omega))]
    have : nxt p q = 0 := by unfold nxt; rw [List.getD_eq_getElem?_getD, List.getElem?_eq_none (by omega)]; rfl
    exact key _ (by simp) (by rw [this]; rfl) (by simp)
def rndP (p : List Int) (t : Nat) : List UInt8 → Int × Int → Hp → Option (Bool × (Int × Int) × Hp) := fun a b w => m_blob_Put_r1 p t a b.1 b.2 w
/-- The chunks, put. -/
theorem n_chunks {p : List Int} {b : List UInt8} {t : Nat} (hp : RtP p) (hl : p.length ≤ 1000) (hb : b.length ≤ 1024) (hc : p.length = cntN b.length) : ∀ (f q : Nat) (H : Hp) (hs : List (List UInt8)) (mp : List (Int × List UInt8)), q ≤ p.length → b.length - 60 * q < f → 0 < f → TIn H t hs mp →
    ((∀ h ∈ p.drop q, h.toNat < hs.length) ∧ ∃ H' k, m_slices_Chunk_byte_c1_l1 b 60 (lpY (rndP p t)) f ((60 * q : Nat) : Int) ((true, (0, (q : Int))), H) = some ((true, (0, k)), H') ∧ TIn H' t (wrP p b (p.drop q) q hs) (msP p b (p.drop q) q mp))
    ∨ ((∃ h ∈ p.drop q, hs.length ≤ h.toNat) ∧ ∃ H' k hs' mp', m_slices_Chunk_byte_c1_l1 b 60 (lpY (rndP p t)) f ((60 * q : Nat) : Int) ((true, (0, (q : Int))), H) = some ((false, (31, k)), H') ∧ TIn H' t hs' mp')
  | 0, q, H, hs, mp, _, _, h, _ => by omega
  | f + 1, q, H, hs, mp, hq, hf, _, hT => by
    unfold m_slices_Chunk_byte_c1_l1
    by_cases hlt : 60 * q < b.length
    · have hqp : q < p.length := by rw [hc]; unfold cntN; omega
      rw [bif_pos (dec_t (by omega)), cutI_drop (by omega), Option.bind_some]
      have hcut : cutI b ((60 * q : Nat) : Int) (wi (((60 * q : Nat) : Int) + (if (((b.drop (60 * q)).length : Nat) : Int) < 60 then (((b.drop (60 * q)).length : Nat) : Int) else 60))) = some (pcs b q) := by
        rw [List.length_drop]
        by_cases h6 : b.length - 60 * q < 60
        · rw [if_pos (by omega), wi_id (by omega) (by omega)]
          have := cutI_mid (l := b) (lo := 60 * q) (n := b.length - 60 * q) (by omega) (((60 * q : Nat) : Int) + ((b.length - 60 * q : Nat) : Int)) (by omega)
          rw [this]
          unfold pcs
          rw [List.take_of_length_le (by rw [List.length_drop]; exact Nat.le_refl _), List.take_of_length_le (by rw [List.length_drop]; omega)]
        · rw [if_neg (by omega), wi_id (by omega) (by omega)]
          exact cutI_mid (l := b) (lo := 60 * q) (n := 60) (by omega) (((60 * q : Nat) : Int) + 60) (by omega)
      rw [hcut, Option.bind_some]
      have hd := List.drop_eq_getElem_cons hqp
      have hr := n_Put_r1 (b := b) hp hl hqp hT 0
      rcases hr with ⟨h1, H1, h2, h3⟩ | ⟨h1, h2⟩
      · have hy : lpY (rndP p t) (pcs b q) ((true, (0, (q : Int))), H) = some (true, ((true, (0, ((q + 1 : Nat) : Int))), H1)) := by
          unfold lpY rndP
          rw [bif_pos (by rfl), h2]
          rfl
        rw [hy, Option.bind_some, bif_neg (by rfl)]
        have ew : wi (((60 * q : Nat) : Int) + 60) = ((60 * (q + 1) : Nat) : Int) := by rw [wi_id (by omega) (by omega)]; omega
        rw [ew]
        obtain ⟨f', rfl⟩ : ∃ f', f = f' + 1 := ⟨f - 1, by omega⟩
        rcases n_chunks hp hl hb hc (f' + 1) (q + 1) H1 _ _ (by omega) (by omega) (by omega) h3 with ⟨k1, H2, k, k2, k3⟩ | ⟨⟨x, k1, k2⟩, H2, k, hs', mp', k3, k4⟩
        · refine .inl ⟨fun x hx => ?_, H2, k, k2, ?_⟩
          · rw [hd] at hx
            rcases List.mem_cons.1 hx with rfl | hx
            · exact h1
            · have := k1 x hx
              rw [List.length_set] at this
              exact this
          · rw [hd]
            exact k3
        · exact .inr ⟨⟨x, by rw [hd]; exact List.mem_cons_of_mem _ k1, by rw [List.length_set] at k2; exact k2⟩, H2, k, hs', mp', k3, k4⟩
      · have hy : lpY (rndP p t) (pcs b q) ((true, (0, (q : Int))), H) = some (false, ((false, (31, (q : Int))), H)) := by
          unfold lpY rndP
          rw [bif_pos (by rfl), h2]
          rfl
        rw [hy, Option.bind_some, bif_pos (by rfl)]
        exact .inr ⟨⟨p[q], by rw [hd]; exact List.mem_cons_self, h1⟩, H, _, hs, mp, rfl, hT⟩
    · have hqp : q = p.length := by unfold cntN at hc; omega
      rw [bif_neg (dec_f (by omega))]
      refine .inl ⟨fun x hx => ?_, H, _, rfl, ?_⟩
      · rw [List.drop_eq_nil_of_le (by omega)] at hx
        cases hx
      · rw [List.drop_eq_nil_of_le (by omega)]
        exact hT
/-- Bytes over homes. -/
theorem n_Put21 {p : List Int} {b : List UInt8} {t : Nat} {H : Hp} {hs : List (List UInt8)} {mp : List (Int × List UInt8)} (hpl : p.length < 1000000000) (hbl : b.length < 1000000000) (hT : TIn H t hs mp) :
    (1024 < b.length ∧ m_blob_Put (some t) p b H = some (0, 3, H))
    ∨ (b.length ≤ 1024 ∧ ¬ (p.length = cntN b.length ∧ RtP p) ∧ m_blob_Put (some t) p b H = some (0, 2, H))
    ∨ (b.length ≤ 1024 ∧ p.length = cntN b.length ∧ RtP p ∧ (∀ h ∈ p, h.toNat < hs.length) ∧ ∃ H', m_blob_Put (some t) p b H = some (p.getD 0 0, 0, H') ∧ TIn H' t (wrP p b p 0 hs) (msP p b p 0 mp))
    ∨ (b.length ≤ 1024 ∧ p.length = cntN b.length ∧ RtP p ∧ (∃ h ∈ p, hs.length ≤ h.toNat) ∧ ∃ H' hs' mp', m_blob_Put (some t) p b H = some (0, 31, H') ∧ TIn H' t hs' mp') := by
  unfold m_blob_Put
  show _ ∨ _
  have e0 : ∀ k : Nat → Option (Int × Int × Hp), ptM (some t) none k = k t := fun _ => rfl
  rw [e0, n_may21, Option.bind_some, dec_t (p := (0 : Int) ≤ (b.length : Int)) (by omega)]
  rcases Nat.lt_or_ge 1024 b.length with h | h
  · rw [dec_f (p := (b.length : Int) ≤ 1024) (by omega), bif_pos (by rfl)]
    exact .inl ⟨h, rfl⟩
  · rw [dec_t (p := (b.length : Int) ≤ 1024) (by omega), bif_neg (by rfl), n_Count h, Option.bind_some]
    refine .inr ?_
    by_cases hc : p.length = cntN b.length
    · rw [bif_neg (ine_f (by omega))]
      obtain ⟨r, r1, r2⟩ := n_right hpl
      rw [r1, Option.bind_some]
      cases r with
      | false =>
        rw [bif_pos (by rfl)]
        exact .inl ⟨h, (fun e => by have := r2.2 e.2; cases this), rfl⟩
      | true =>
        have hr := r2.1 rfl
        rw [bif_neg (by rfl)]
        refine .inr ?_
        have hl : p.length ≤ 1000 := by rw [hc]; unfold cntN; omega
        by_cases hb0 : b.length = 0
        · have hp0 : p = [] := List.eq_nil_of_length_eq_zero (by rw [hc, hb0]; rfl)
          subst hp0
          rw [bif_pos (ieq_t (by omega))]
          exact .inl ⟨h, hc, hr, (fun _ h => by cases h), H, rfl, hT⟩
        · rw [bif_neg (ieq_f (by omega))]
          have e1 : m_slices_Chunk_byte b 60 = some (b, 60) := rfl
          rw [e1, Option.bind_some]
          have hp0 : 0 < p.length := by rw [hc]; unfold cntN; omega
          unfold m_slices_Chunk_byte_c1
          have hk := n_chunks (b := b) hr hl h hc (b.length + 1) 0 H hs mp (by omega) (by omega) (by omega) hT
          rw [show ((60 * 0 : Nat) : Int) = 0 from rfl, List.drop_zero] at hk
          rcases hk with ⟨k1, H', k, k2, k3⟩ | ⟨k1, H', k, hs', mp', k2, k3⟩
          · refine .inl ⟨h, hc, hr, k1, H', ?_, k3⟩
            show Option.bind (m_slices_Chunk_byte_c1_l1 b 60 (lpY (rndP p t)) (b.length + 1) 0 ((true, (0, 0)), H)) _ = _
            rw [k2, Option.bind_some, bif_pos (by rfl), show (0 : Int) = ((0 : Nat) : Int) from rfl, idx_nat hp0, Option.bind_some, List.getD_eq_getElem?_getD, List.getElem?_eq_getElem hp0]
            rfl
          · refine .inr ⟨h, hc, hr, k1, H', hs', mp', ?_, k3⟩
            show Option.bind (m_slices_Chunk_byte_c1_l1 b 60 (lpY (rndP p t)) (b.length + 1) 0 ((true, (0, 0)), H)) _ = _
            rw [k2, Option.bind_some, bif_neg (by rfl)]
    · rw [bif_pos (ine_t (by omega))]
      exact .inl ⟨h, fun e => hc e.1, rfl⟩

/-! ### Chains -/
/-- A chain's homes, of so many, from one on. -/
def chn2 (hs : List (List UInt8)) : Nat → Int → Option (List Nat)
  | 0, at_ => if at_ = 0 then some [] else none
  | k + 1, at_ => if 1 ≤ at_ ∧ at_ < (hs.length : Int) then (chn2 hs k (ofBE ((hs.getD at_.toNat []).take 4) : Int)).map (at_.toNat :: ·) else none
def rndC {γ : Type} (nb : Nat) (g : S_blob_link → List γ) : S_blob_link × Int → Int × List γ → Hp → Option (Bool × (Int × List γ) × Hp) :=
  fun a b w => bif (a.2 != 0) then some (false, (a.2, b.2), w) else Option.bind (appI nb b.2 (g a.1)) fun x => some (true, (b.1, x), w)
theorem chn2_mem {hs : List (List UInt8)} : ∀ {k : Nat} {z : Int} {l : List Nat}, chn2 hs k z = some l → l.length = k ∧ ∀ h ∈ l, 1 ≤ h ∧ h < hs.length
  | 0, z, l, h => by
    unfold chn2 at h
    split at h
    · injection h with h; subst h; exact ⟨rfl, fun _ h => by cases h⟩
    · cases h
  | k + 1, z, l, h => by
    unfold chn2 at h
    split at h
    · rename_i hz
      cases hq : chn2 hs k (ofBE ((hs.getD z.toNat []).take 4) : Int) with
      | none => rw [hq] at h; cases h
      | some r =>
        rw [hq] at h
        injection h with h
        subst h
        obtain ⟨h1, h2⟩ := chn2_mem hq
        refine ⟨by simp [h1], fun x hx => ?_⟩
        rcases List.mem_cons.1 hx with rfl | hx
        · omega
        · exact h2 x hx
    · cases h
def datC (hs : List (List UInt8)) (h : Nat) : List UInt8 := (hs.getD h []).drop 4
theorem n_chain {γ : Type} {nb : Nat} {g : S_blob_link → List γ} (hnb : nb ≤ 8) (hg : ∀ l, l.data_.length ≤ 60 → (g l).length ≤ 60) {H : Hp} {t : Nat} {hs : List (List UInt8)} {mp : List (Int × List UInt8)} (hT : TIn H t hs mp) {k : Nat} (hk : k ≤ 100) : ∀ (f i : Nat) (z : Int) (out : List γ), i ≤ k → k - i < f → out.length ≤ 60 * i →
    (∃ l, chn2 hs (k - i) z = some l ∧ m_blob_chain_c1_l2 (k : Int) t (lpY (rndC nb g)) f z (i : Int) ((true, (0, out)), H) = some ((true, (0, out ++ (l.map fun h : Nat => g ⟨(h : Int), datC hs h⟩).flatten)), H))
    ∨ (chn2 hs (k - i) z = none ∧ ∃ o, m_blob_chain_c1_l2 (k : Int) t (lpY (rndC nb g)) f z (i : Int) ((true, (0, out)), H) = some ((false, (11, o)), H))
  | 0, i, z, out, _, h, _ => by omega
  | f + 1, i, z, out, hi, hf, ho => by
    have low := hT.low
    have bad : ∀ (l : S_blob_link), lpY (rndC nb g) (l, 11) ((true, (0, out)), H) = some (false, ((false, (11, out)), H)) := fun l => rfl
    unfold m_blob_chain_c1_l2
    by_cases hlt : i < k
    · rw [bif_pos (dec_t (by omega))]
      obtain ⟨j, hj⟩ : ∃ j, k - i = j + 1 := ⟨k - i - 1, by omega⟩
      rw [hj]
      by_cases hz : 1 ≤ z ∧ z < (hs.length : Int)
      · obtain ⟨n, rfl⟩ := Int.eq_ofNat_of_zero_le (show 0 ≤ z by omega)
        have hn : n < hs.length := by omega
        have hr := List.getElem?_eq_getElem hn
        have h64 := hT.wide hr
        have hgd : hs.getD n [] = hs[n] := by rw [List.getD_eq_getElem?_getD, hr]; rfl
        rw [n_TRead hT hr, Option.bind_some, bif_neg (by rfl), bif_pos (by rfl), bif_neg (ieq_f (by omega))]
        unfold m_blob_chain_c1_j3
        rw [bif_neg (by rfl), show (4 : Int) = ((4 : Nat) : Int) from rfl, cutI_drop (show 4 ≤ hs[n].length by omega), Option.bind_some]
        have hlen := hg ⟨(n : Int), hs[n].drop 4⟩ (by show (hs[n].drop 4).length ≤ 60; rw [List.length_drop]; omega)
        have hy : lpY (rndC nb g) (⟨(n : Int), hs[n].drop 4⟩, 0) ((true, (0, out)), H) = some (true, ((true, (0, out ++ g ⟨(n : Int), hs[n].drop 4⟩)), H)) := by
          unfold lpY rndC
          rw [bif_pos (by rfl), bif_neg (by rfl), appI_ok (by
            have : (out.length + (g ⟨(n : Int), hs[n].drop 4⟩).length) * nb ≤ 6060 * 8 := Nat.mul_le_mul (by omega) hnb
            show (out.length + (g ⟨(n : Int), hs[n].drop 4⟩).length) * nb ≤ _
            omega)]
          rfl
        rw [hy, Option.bind_some, bif_neg (by rfl), cutI_take (show 4 ≤ hs[n].length by omega), Option.bind_some, n_Get, Option.bind_some, (getN_4 (by rw [List.length_take]; omega)).1, wi_succ (by omega)]
        have ih := n_chain (nb := nb) (g := g) hnb hg hT hk f (i + 1) (ofBE (hs[n].take 4) : Int) (out ++ g ⟨(n : Int), hs[n].drop 4⟩) (by omega) (by omega) (by simp only [List.length_append]; omega)
        rw [show k - (i + 1) = j by omega] at ih
        unfold chn2
        rw [if_pos hz, show Int.toNat (n : Int) = n from rfl, hgd]
        rcases ih with ⟨l, h1, h2⟩ | ⟨h1, o, h2⟩
        · refine .inl ⟨n :: l, by rw [h1]; rfl, ?_⟩
          rw [h2, List.map_cons, List.flatten_cons, ← List.append_assoc]
          unfold datC
          rw [hgd]
        · exact .inr ⟨by rw [h1]; rfl, o, h2⟩
      · have hn : chn2 hs (j + 1) z = none := by unfold chn2; rw [if_neg hz]
        have go : m_blob_chain_c1_j3 (m_blob_chain_c1_l2 (k : Int) t (lpY (rndC nb g)) f) (lpY (rndC nb g)) ((true, (0, out)), H) (([], 31) : List UInt8 × Int) z (i : Int) 11 = some ((false, (11, out)), H) := by
          unfold m_blob_chain_c1_j3
          rw [bif_pos (by rfl), bad]
          rfl
        have go2 : ∀ x, m_blob_chain_c1_j3 (m_blob_chain_c1_l2 (k : Int) t (lpY (rndC nb g)) f) (lpY (rndC nb g)) ((true, (0, out)), H) (x : List UInt8 × Int) z (i : Int) 11 = some ((false, (11, out)), H) := fun x => by
          unfold m_blob_chain_c1_j3
          rw [bif_pos (by rfl), bad]
          rfl
        refine .inr ⟨hn, out, ?_⟩
        by_cases h0 : z = 0 ∧ 0 < hs.length
        · obtain ⟨rfl, h0⟩ := h0
          have hr := List.getElem?_eq_getElem h0
          rw [show (0 : Int) = ((0 : Nat) : Int) from rfl, n_TRead hT hr, Option.bind_some, bif_neg (by rfl), bif_pos (by rfl), bif_pos (by rfl)]
          exact go2 _
        · rw [n_TReadOut hT (by omega), Option.bind_some, bif_pos (by rfl)]
          exact go
    · have : i = k := by omega
      subst this
      rw [bif_neg (dec_f (by omega)), Nat.sub_self]
      unfold m_blob_chain_c1_j1 chn2
      by_cases hz : z = 0
      · rw [if_pos hz, bif_neg (ine_f hz)]
        exact .inl ⟨[], rfl, by simp⟩
      · rw [if_neg hz, bif_pos (ine_t hz), bad]
        exact .inr ⟨rfl, out, rfl⟩
theorem flatI1 : ∀ (l : List Nat), (l.map fun h : Nat => [(h : Int)]).flatten = l.map Int.ofNat
  | [] => rfl
  | a :: l => by rw [List.map_cons, List.flatten_cons, flatI1 l]; rfl
theorem n_Homes21 {H : Hp} {t : Nat} {hs : List (List UInt8)} {mp : List (Int × List UInt8)} (hT : TIn H t hs mp) (z : Int) {n : Nat} (hn : n ≤ 1024) :
    m_blob_Homes (some t) z (n : Int) H = some (match chn2 hs (cntN n) z with | some l => (l.map Int.ofNat, 0, H) | none => ([], 11, H)) := by
  unfold m_blob_Homes
  have e0 : ∀ k : Nat → Option (List Int × Int × Hp), ptM (some t) none k = k t := fun _ => rfl
  rw [e0, n_may21, Option.bind_some, dec_t (p := (0 : Int) ≤ (n : Int)) (by omega), dec_t (p := (n : Int) ≤ 1024) (by omega), bif_neg (by rfl)]
  show Option.bind (m_blob_chain_c1 (lpY (rndC 8 fun l => [l.home_])) z (n : Int) t ((true, (0, [])), H)) _ = _
  unfold m_blob_chain_c1
  rw [n_Count hn, Option.bind_some]
  have hc : cntN n ≤ 100 := by unfold cntN; omega
  rcases n_chain (nb := 8) (g := fun l => [l.home_]) (by omega) (fun l _ => by simp) hT hc (Int.toNat (cntN n : Int) + 1) 0 z [] (by omega) (by omega) (by simp) with ⟨l, h1, h2⟩ | ⟨h1, o, h2⟩
  · rw [show ((0 : Nat) : Int) = 0 from rfl] at h2
    rw [Nat.sub_zero] at h1
    rw [h2, h1, Option.bind_some, bif_pos (by rfl)]
    show some (_, _, _) = some (_, _, _)
    congr 2
    rw [List.nil_append]
    exact flatI1 l
  · rw [show ((0 : Nat) : Int) = 0 from rfl] at h2
    rw [Nat.sub_zero] at h1
    rw [h2, h1, Option.bind_some, bif_neg (by rfl)]
def z0 (l : List UInt8) : Bool := l.all (· == 0)
theorem n_Get_l3 (tl : List UInt8) (x : ((Bool × (Int × (List UInt8))) × Hp)) (n : Int) (hl : tl.length < 1000000000) : ∀ (f i : Nat), i ≤ tl.length → tl.length - i < f → m_blob_Get_l3 tl x n f (i : Int) = if z0 (tl.drop i) then m_blob_Get_j2 x n else some ([], 11, x.2)
  | 0, i, _, h => by omega
  | f + 1, i, hi, h => by
    unfold m_blob_Get_l3
    by_cases hlt : i < tl.length
    · rw [bif_pos (dec_t (by omega)), idx_nat hlt, Option.bind_some, List.drop_eq_getElem_cons hlt]
      unfold z0
      rw [List.all_cons]
      by_cases e : tl[i] = 0
      · rw [bif_neg (ine_f (by rw [e]; rfl)), e, wi_succ (by omega), n_Get_l3 tl x n hl f (i + 1) (by omega) (by omega)]
        rfl
      · rw [bif_pos (ine_t (fun h => e (by
          have h : tl[i].toNat = 0 := by omega
          exact UInt8.toNat_inj.1 h)))]
        rw [show (tl[i] == (0 : UInt8)) = false by simpa using e]
        rfl
    · rw [bif_neg (dec_f (by omega)), List.drop_eq_nil_of_le (by omega)]
      rfl
def allC (hs : List (List UInt8)) (l : List Nat) : List UInt8 := (l.map (datC hs)).flatten
theorem datC_len {H : Hp} {t : Nat} {hs : List (List UInt8)} {mp : List (Int × List UInt8)} (hT : TIn H t hs mp) {h : Nat} (hh : h < hs.length) : (datC hs h).length = 60 := by
  unfold datC
  rw [List.getD_eq_getElem?_getD, List.getElem?_eq_getElem hh, List.length_drop]
  have := hT.wide (List.getElem?_eq_getElem hh)
  show hs[h].length - 4 = 60
  omega
theorem allC_len {H : Hp} {t : Nat} {hs : List (List UInt8)} {mp : List (Int × List UInt8)} (hT : TIn H t hs mp) : ∀ {l : List Nat}, (∀ h ∈ l, h < hs.length) → (allC hs l).length = 60 * l.length
  | [], _ => rfl
  | h :: l, hl => by
    unfold allC
    rw [List.map_cons, List.flatten_cons, List.length_append, datC_len hT (hl h List.mem_cons_self)]
    have := allC_len hT (l := l) fun x hx => hl x (List.mem_cons_of_mem _ hx)
    unfold allC at this
    rw [this, List.length_cons]
    omega
theorem n_Get21 {H : Hp} {t : Nat} {hs : List (List UInt8)} {mp : List (Int × List UInt8)} (hT : TIn H t hs mp) (z : Int) {n : Nat} (hn : n ≤ 1024) :
    m_blob_Get (some t) z (n : Int) H = some (match chn2 hs (cntN n) z with | some l => if z0 ((allC hs l).drop n) then ((allC hs l).take n, 0, H) else ([], 11, H) | none => ([], 11, H)) := by
  unfold m_blob_Get
  have e0 : ∀ k : Nat → Option (List UInt8 × Int × Hp), ptM (some t) none k = k t := fun _ => rfl
  rw [e0, n_may21, Option.bind_some, dec_t (p := (0 : Int) ≤ (n : Int)) (by omega), dec_t (p := (n : Int) ≤ 1024) (by omega), bif_neg (by rfl)]
  show Option.bind (m_blob_chain_c1 (lpY (rndC 1 fun l => l.data_)) z (n : Int) t ((true, (0, [])), H)) _ = _
  unfold m_blob_chain_c1
  rw [n_Count hn, Option.bind_some]
  have hc : cntN n ≤ 100 := by unfold cntN; omega
  rcases n_chain (nb := 1) (g := fun l => l.data_) (by omega) (fun l h => h) hT hc (Int.toNat (cntN n : Int) + 1) 0 z [] (by omega) (by omega) (by simp) with ⟨l, h1, h2⟩ | ⟨h1, o, h2⟩
  · rw [show ((0 : Nat) : Int) = 0 from rfl] at h2
    rw [Nat.sub_zero] at h1
    obtain ⟨m1, m2⟩ := chn2_mem h1
    have hal := allC_len hT fun h hh => (m2 h hh).2
    have hnl : n ≤ (allC hs l).length := by rw [hal, m1]; unfold cntN; omega
    have hal2 : (allC hs l).length ≤ 6000 := by rw [hal, m1]; omega
    rw [h2, h1, Option.bind_some, bif_pos (by rfl), List.nil_append]
    show Option.bind (cutI (allC hs l) (if (((allC hs l).length : Nat) : Int) < (n : Int) then (((allC hs l).length : Nat) : Int) else (n : Int)) (((allC hs l).length : Nat) : Int)) _ = _
    rw [if_neg (by omega), cutI_drop hnl, Option.bind_some]
    have := n_Get_l3 ((allC hs l).drop n) ((true, (0, allC hs l)), H) (n : Int) (by rw [List.length_drop]; omega) (((allC hs l).drop n).length + 1) 0 (by omega) (by omega)
    rw [List.drop_zero, show ((0 : Nat) : Int) = 0 from rfl] at this
    show m_blob_Get_l3 ((allC hs l).drop n) ((true, (0, allC hs l)), H) (n : Int) _ 0 = _
    rw [this]
    show _ = some (if z0 ((allC hs l).drop n) then ((allC hs l).take n, 0, H) else ([], 11, H))
    by_cases hz : z0 ((allC hs l).drop n) = true
    · rw [if_pos hz, if_pos hz]
      unfold m_blob_Get_j2
      rw [cutI_take hnl, Option.bind_some]
    · rw [if_neg hz, if_neg hz]
  · rw [show ((0 : Nat) : Int) = 0 from rfl] at h2
    rw [Nat.sub_zero] at h1
    rw [h2, h1, Option.bind_some, bif_neg (by rfl)]
end Go.Proofs.Ytjomnccladjpgaa

/-
  Plain: the document's answers on chains; BlobReads is true.
-/
namespace Go.Proofs.Ytjomnccladjpgaa
open Go Go.RowKit
set_option linter.unusedVariables false
set_option linter.unusedSimpArgs false

theorem awake21 : (m_L21_awake Hp.e).map (·.1) = some true := by kernel_rfl
theorem n_awake21 : ∃ w1, m_L21_awake Hp.e = some (true, w1) := by
  have h := awake21
  cases hx : m_L21_awake Hp.e with
  | none => rw [hx] at h; cases h
  | some y =>
    obtain ⟨b, w1⟩ := y
    rw [hx] at h
    injection h with h
    exact ⟨w1, by rw [show b = true from h]⟩
/-! ### The document's chains -/
end Go.Proofs.Ytjomnccladjpgaa

/-
  Plain: BlobWrites and BlobBack are true.
-/
namespace Go.Proofs.Ytjomnccladjpgaa
open Go Go.RowKit
set_option linter.unusedVariables false
set_option linter.unusedSimpArgs false

/-! ### What stands behind rows written -/
theorem rt_nodup {p : List Int} (h : RtP p) : p.Nodup := by
  refine List.pairwise_iff_getElem.2 fun i j hi hj hij e => ?_
  refine (h j _ (List.getElem?_eq_getElem hj)).2 ?_
  rw [← e]
  exact List.mem_of_getElem? (i := i) (by rw [List.getElem?_take, if_pos hij, List.getElem?_eq_getElem])
theorem wrP_other (p : List Int) (b : List UInt8) {k : Nat} : ∀ (r : List Int) (q : Nat) (hs : List (List UInt8)), (∀ h ∈ r, h.toNat ≠ k) → (wrP p b r q hs)[k]? = hs[k]?
  | [], _, _, _ => rfl
  | h :: r, q, hs, hn => by
    unfold wrP
    rw [wrP_other p b r (q + 1) _ fun x hx => hn x (List.mem_cons_of_mem _ hx), List.getElem?_set_ne (hn h List.mem_cons_self)]
theorem wrP_get (p : List Int) (b : List UInt8) : ∀ (r : List Int) (q : Nat) (hs : List (List UInt8)), r.Nodup → (∀ h ∈ r, 0 ≤ h ∧ h.toNat < hs.length) → ∀ (j : Nat) (h : Int), r[j]? = some h → (wrP p b r q hs)[h.toNat]? = some (rowP p b (q + j))
  | [], _, _, _, _, j, h, e => by simp at e
  | x :: r, q, hs, hn, hr, 0, h, e => by
    rw [List.nodup_cons] at hn
    injection e with e
    subst e
    have hx := hr x List.mem_cons_self
    unfold wrP
    rw [wrP_other p b r (q + 1) _ fun y hy e => hn.1 (by
      have := hr y (List.mem_cons_of_mem _ hy)
      have : y = x := by omega
      rw [← this]; exact hy), List.getElem?_set_self hx.2]
    rfl
  | x :: r, q, hs, hn, hr, j + 1, h, e => by
    rw [List.nodup_cons] at hn
    unfold wrP
    rw [wrP_get p b r (q + 1) _ hn.2 (fun y hy => by rw [List.length_set]; exact hr y (List.mem_cons_of_mem _ hy)) j h (by simpa using e), show q + 1 + j = q + (j + 1) by omega]
/-! ### BlobWrites -/
/-! ### BlobBack -/
/-- A chain stands: its homes, its bytes. -/
def Stn (hs : List (List UInt8)) (lo : Nat) (b : List UInt8) (f : Int) : Prop :=
  ∃ p : List Int, RtP p ∧ p.length = cntN b.length ∧ f = p.getD 0 0 ∧ (∀ h ∈ p, (lo : Int) < h ∧ h < (hs.length : Int)) ∧ ∀ (q : Nat) (h : Int), p[q]? = some h → hs[h.toNat]? = some (rowP p b q)
theorem chn2_stands {hs : List (List UInt8)} {p : List Int} {b : List UInt8} (hp : RtP p) (hlt : ∀ h ∈ p, h < (hs.length : Int)) (hr : ∀ (q : Nat) (h : Int), p[q]? = some h → hs[h.toNat]? = some (rowP p b q)) : ∀ (k q : Nat), q + k = p.length → chn2 hs k (p.getD q 0) = some ((p.drop q).map Int.toNat)
  | 0, q, h => by
    unfold chn2
    rw [List.getD_eq_getElem?_getD, List.getElem?_eq_none (by omega), List.drop_eq_nil_of_le (by omega)]
    rfl
  | k + 1, q, h => by
    have hq : q < p.length := by omega
    have hx := List.getElem?_eq_getElem hq
    have h1 := (hp q _ hx).1
    have h2 := hlt _ (List.getElem_mem hq)
    have h3 := hr q _ hx
    unfold chn2
    rw [show p.getD q 0 = p[q] by rw [List.getD_eq_getElem?_getD, hx]; rfl, if_pos ⟨h1.1, h2⟩, show hs.getD p[q].toNat [] = rowP p b q by rw [List.getD_eq_getElem?_getD, h3]; rfl]
    have e : (rowP p b q).take 4 = be 4 (nxt p q) := by
      unfold rowP
      rw [List.take_left' (be_length _ _)]
    have hn := rt_nxt hp q
    have e2 : ((ofBE (be 4 (nxt p q)) : Nat) : Int) = p.getD (q + 1) 0 := by
      rw [ofBE_be, Nat.mod_eq_of_lt (by omega)]
      unfold nxt
      cases hq2 : p[q + 1]? with
      | none => rw [List.getD_eq_getElem?_getD, hq2]; rfl
      | some x =>
        have := (hp _ _ hq2).1
        rw [List.getD_eq_getElem?_getD, hq2]
        show ((x.toNat : Nat) : Int) = x
        omega
    rw [e, e2, chn2_stands hp hlt hr k (q + 1) (by omega), List.drop_eq_getElem_cons hq]
    rfl
theorem allC_stands {hs : List (List UInt8)} {p : List Int} {b : List UInt8} (hr : ∀ (q : Nat) (h : Int), p[q]? = some h → hs[h.toNat]? = some (rowP p b q)) (hc : b.length ≤ 60 * p.length) : ∀ (k q : Nat), q + k = p.length → allC hs ((p.drop q).map Int.toNat) = b.drop (60 * q) ++ List.replicate (60 * k - (b.length - 60 * q)) 0
  | 0, q, h => by
    rw [List.drop_eq_nil_of_le (by omega), List.drop_eq_nil_of_le (by omega), Nat.mul_zero, Nat.zero_sub]
    rfl
  | k + 1, q, h => by
    have hq : q < p.length := by omega
    have hx := List.getElem?_eq_getElem hq
    have h3 := hr q _ hx
    rw [List.drop_eq_getElem_cons hq, List.map_cons]
    show datC hs p[q].toNat ++ allC hs ((p.drop (q + 1)).map Int.toNat) = _
    rw [allC_stands hr hc k (q + 1) (by omega)]
    have e : datC hs p[q].toNat = pcs b q ++ List.replicate (60 - (pcs b q).length) 0 := by
      unfold datC
      rw [List.getD_eq_getElem?_getD, h3]
      show (rowP p b q).drop 4 = _
      unfold rowP
      rw [List.drop_left' (be_length _ _)]
    rw [e]
    unfold pcs
    by_cases hl : 60 * (q + 1) ≤ b.length
    · have : ((b.drop (60 * q)).take 60).length = 60 := by rw [List.length_take, List.length_drop]; omega
      rw [this, Nat.sub_self, List.replicate_zero, List.append_nil, ← List.append_assoc, show 60 * (q + 1) = 60 * q + 60 by omega, ← List.drop_drop, List.take_append_drop]
      congr 2
      omega
    · rw [List.drop_eq_nil_of_le (by omega : b.length ≤ 60 * (q + 1)), List.nil_append, List.take_of_length_le (by rw [List.length_drop]; omega), List.append_assoc, List.replicate_append_replicate, List.length_drop]
      congr 2
      omega
theorem z0_rep (n : Nat) : z0 (List.replicate n 0) = true := by simp [z0]
theorem n_back {H : Hp} {t : Nat} {hs : List (List UInt8)} {mp : List (Int × List UInt8)} (hT : TIn H t hs mp) {lo : Nat} {b : List UInt8} {f : Int} (hb : b.length ≤ 1024) (h : Stn hs lo b f) :
    m_blob_Get (some t) f (b.length : Int) H = some (b, 0, H) ∧ ∃ l : List Int, m_blob_Homes (some t) f (b.length : Int) H = some (l, 0, H) ∧ l.length = cntN b.length := by
  obtain ⟨p, h1, h2, h3, h4, h5⟩ := h
  have hc := chn2_stands h1 (fun x hx => (h4 x hx).2) h5 p.length 0 (by omega)
  have hbl : b.length ≤ 60 * p.length := by rw [h2]; unfold cntN; omega
  have ha := allC_stands (b := b) h5 hbl p.length 0 (by omega)
  rw [List.drop_zero] at hc ha
  rw [Nat.mul_zero, List.drop_zero] at ha
  rw [h2, ← h3] at hc
  constructor
  · rw [n_Get21 hT f hb, hc]
    show some (if z0 ((allC hs (p.map Int.toNat)).drop b.length) = true then ((allC hs (p.map Int.toNat)).take b.length, 0, H) else ([], 11, H)) = _
    rw [ha, List.drop_left, z0_rep, if_pos rfl, List.take_left]
  · rw [n_Homes21 hT f hb, hc]
    exact ⟨_, rfl, by rw [List.length_map, List.length_map, h2]⟩
def dsc (n k : Nat) : List Int := (List.range k).map fun i : Nat => ((n - i : Nat) : Int)
theorem dsc_succ (n k : Nat) : dsc n (k + 1) = dsc n k ++ [((n - k : Nat) : Int)] := by unfold dsc; rw [List.range_succ, List.map_append]; rfl
theorem dsc_len (n k : Nat) : (dsc n k).length = k := by simp [dsc]
theorem dsc_get {n k i : Nat} {x : Int} (h : (dsc n k)[i]? = some x) : i < k ∧ x = ((n - i : Nat) : Int) := by
  have hi := (List.getElem?_eq_some_iff.1 h).1
  rw [dsc_len] at hi
  refine ⟨hi, ?_⟩
  unfold dsc at h
  rw [List.getElem?_map, List.getElem?_range hi] at h
  injection h with h
  exact h.symm
theorem dsc_rt {n k : Nat} (h : k ≤ n) (hn : n ≤ 19) : RtP (dsc n k) := by
  intro i x hx
  obtain ⟨h1, h2⟩ := dsc_get hx
  refine ⟨by omega, fun hm => ?_⟩
  obtain ⟨j, hj⟩ := List.getElem?_of_mem hm
  rw [List.getElem?_take] at hj
  split at hj
  · obtain ⟨h3, h4⟩ := dsc_get hj
    omega
  · cases hj
theorem n_BB_l7 (kl : List (List UInt8) → Int → List Int → Int → Hp → Option (Bool × Hp)) {x : (Option Nat) × Hp} {b : List UInt8} {H : Hp} {fs : List Int} {l : List (List UInt8)} {z : Int} {n k : Nat} (hn : n ≤ 19) (hk : k ≤ n) : ∀ (f i : Nat), i ≤ k → k - i < f → m_L21_BlobBack_l7 kl (k : Int) x b H fs l z f ((n - i : Nat) : Int) (dsc n i) (i : Int) = m_L21_BlobBack_j5 kl x b H fs l z ((n - k : Nat) : Int) (dsc n k)
  | 0, i, _, h => by omega
  | f + 1, i, hi, h => by
    unfold m_L21_BlobBack_l7
    by_cases hlt : i < k
    · rw [bif_pos (dec_t (by omega)), appI_ok (by rw [dsc_len]; simp; omega), Option.bind_some, wi_id (by omega) (by omega), wi_succ (by omega), ← dsc_succ, show ((n - i : Nat) : Int) - 1 = ((n - (i + 1) : Nat) : Int) by omega]
      exact n_BB_l7 kl hn hk f (i + 1) (by omega) (by omega)
    · have : i = k := by omega
      subst this
      rw [bif_neg (dec_f (by omega))]
/-- What is checked at the end. -/
def sumC (l : List (List UInt8)) : Nat := (l.map fun b => cntN b.length).sum
theorem n_BB_l3 {H : Hp} {t : Nat} {hs : List (List UInt8)} {mp : List (Int × List UInt8)} (hT : TIn H t hs mp) {x : (Option Nat) × Hp} (hx : x.1 = some t) {l : List (List UInt8)} {fs : List Int} {lo : Nat} (hfs : fs.length = l.length) (hll : l.length ≤ 10) (hlo : lo ≤ 19) (hb : ∀ b ∈ l, b.length ≤ 1024) (hst : ∀ (i : Nat) (b : List UInt8) (f : Int), l[i]? = some b → fs[i]? = some f → Stn hs lo b f) (hsum : sumC l = 19 - lo) :
    ∀ (f i : Nat), i ≤ l.length → l.length - i < f → m_L21_BlobBack_l3 l fs x (lo : Int) f ((sumC (l.take i) : Nat) : Int) (i : Int) H = some (true, H)
  | 0, i, _, h => by omega
  | f + 1, i, hi, h => by
    have hle : ∀ j, sumC (l.take j) ≤ sumC l := fun j => by
      have : sumC l = sumC (l.take j) + sumC (l.drop j) := by
        unfold sumC
        conv => lhs; rw [← List.take_append_drop j l]
        rw [List.map_append, List.sum_append]
      omega
    unfold m_L21_BlobBack_l3
    by_cases hlt : i < l.length
    · have hbx := List.getElem?_eq_getElem hlt
      have hfx := List.getElem?_eq_getElem (show i < fs.length by omega)
      have hbb := hb _ (List.getElem_mem hlt)
      have hs1 := hst i _ _ hbx hfx
      obtain ⟨g1, ls, g2, g3⟩ := n_back hT hbb hs1
      have hc : cntN l[i].length ≤ 19 := by unfold cntN; omega
      have hnum : l[i].length ≤ 60 * cntN l[i].length ∧ 60 * cntN l[i].length < l[i].length + 60 := by unfold cntN; omega
      rw [bif_pos (dec_t (by omega)), idx_nat hlt, Option.bind_some, idx_nat (show i < fs.length by omega), Option.bind_some, hx, g1, Option.bind_some, Option.bind_some, g2, Option.bind_some, bif_neg (by rfl), bif_neg (by rfl), n_R01_Same _ _ (by show l[i].length < _; omega), Option.bind_some, beq_self_eq_true, bif_neg (by rfl), wi_id (z := 60 * (ls.length : Int)) (by omega) (by omega), wi_id (z := (l[i].length : Int) + 60) (by omega) (by omega), bif_neg (dec_f (by omega)), bif_neg (dec_f (by omega)), wi_succ (by omega)]
      have hlen : ((ls, (0 : Int), H) : List Int × Int × Hp).1.length = ls.length := rfl
      have hs2 : sumC (l.take (i + 1)) = sumC (l.take i) + cntN l[i].length := by
        rw [List.take_add_one, hbx]
        unfold sumC
        rw [List.map_append, List.sum_append]
        simp
      have := hle (i + 1)
      rw [wi_id (by omega) (by omega), show ((sumC (l.take i) : Nat) : Int) + (ls.length : Int) = ((sumC (l.take (i + 1)) : Nat) : Int) by omega]
      exact n_BB_l3 hT hx hfs hll hlo hb hst hsum f (i + 1) (by omega) (by omega)
    · rw [bif_neg (dec_f (by omega)), List.take_of_length_le (by omega)]
      unfold m_L21_BlobBack_j2
      rw [wi_id (by omega) (by omega), ieq_t (by omega)]
theorem n_BB_l4 {t : Nat} {x : (Option Nat) × Hp} (hx : x.1 = some t) (p : List (List UInt8)) (hp : p.length ≤ 10) : ∀ (f i : Nat) (H : Hp) (hs : List (List UInt8)) (mp : List (Int × List UInt8)) (lo : Nat) (fs : List Int), i ≤ p.length → p.length - i < f → TIn H t hs mp → hs.length = 20 → lo ≤ 19 → fs.length = i → (∀ b ∈ p.take i, b.length ≤ 1024) → (∀ (j : Nat) (b : List UInt8) (g : Int), (p.take i)[j]? = some b → fs[j]? = some g → Stn hs lo b g) → sumC (p.take i) = 19 - lo →
    ∃ w, m_L21_BlobBack_l4 p x f p (lo : Int) fs (i : Int) H = some (true, w)
  | 0, i, H, hs, mp, lo, fs, _, h, _, _, _, _, _, _, _ => by omega
  | f + 1, i, H, hs, mp, lo, fs, hi, h, hT, h20, hlo, hfs, hb, hst, hsum => by
    have fin : ∃ w, m_L21_BlobBack_j1 x (p.take i) (lo : Int) fs H = some (true, w) := by
      unfold m_L21_BlobBack_j1
      have := n_BB_l3 hT hx (l := p.take i) (fs := fs) (lo := lo) (by rw [List.length_take]; omega) (by rw [List.length_take]; omega) hlo hb hst hsum ((p.take i).length + 1) 0 (by omega) (by omega)
      exact ⟨H, this⟩
    unfold m_L21_BlobBack_l4
    by_cases hlt : i < p.length
    · rw [bif_pos (dec_t (by omega)), idx_nat hlt, Option.bind_some]
      by_cases hbig : (p[i].length : Int) > 1024
      · obtain ⟨c, hc⟩ : ∃ c, m_blob_Count (p[i].length : Int) = some c := ⟨_, n_CountOut (by omega)⟩
        rw [hc, Option.bind_some, bif_pos (dec_t hbig), cutI_take (by omega), Option.bind_some]
        exact fin
      · have hb1 : p[i].length ≤ 1024 := by omega
        rw [n_Count hb1, Option.bind_some, bif_neg (dec_f hbig)]
        by_cases hk : (cntN p[i].length : Int) > (lo : Int)
        · rw [bif_pos (dec_t hk), cutI_take (by omega), Option.bind_some]
          exact fin
        · have hk : cntN p[i].length ≤ lo := by omega
          rw [bif_neg (dec_f (by omega))]
          have e7 := n_BB_l7 (m_L21_BlobBack_l4 p x f) (x := x) (b := p[i]) (H := H) (fs := fs) (l := p) (z := (i : Int)) hlo hk (Int.toNat (cntN p[i].length : Int) + 1) 0 (by omega) (by omega)
          rw [show dsc lo 0 = [] from rfl, Nat.sub_zero, show ((0 : Nat) : Int) = 0 from rfl] at e7
          rw [e7]
          unfold m_L21_BlobBack_j5
          have hrt := dsc_rt hk hlo
          have hdl := dsc_len lo (cntN p[i].length)
          rw [hx]
          rcases n_Put21 (p := dsc lo (cntN p[i].length)) (b := p[i]) (by omega) (by omega) hT with ⟨c1, c2⟩ | ⟨c1, c2, c3⟩ | ⟨c1, c2, c3, c4, H', c5, c6⟩ | ⟨c1, c2, c3, ⟨y, c4, c4'⟩, H', hs', mp', c5, c6⟩
          · omega
          · exact absurd ⟨hdl, hrt⟩ c2
          · rw [c5, Option.bind_some, bif_neg (by rfl)]
            have hmem : ∀ y ∈ dsc lo (cntN p[i].length), ((lo - cntN p[i].length : Nat) : Int) < y ∧ y ≤ (lo : Int) := fun y hy => by
              obtain ⟨j, hj⟩ := List.getElem?_of_mem hy
              obtain ⟨q1, q2⟩ := dsc_get hj
              omega
            have go : ∀ u, ∃ w, m_L21_BlobBack_j6 (m_L21_BlobBack_l4 p x f) fs ((dsc lo (cntN p[i].length)).getD 0 0, 0, H') p ((lo - cntN p[i].length : Nat) : Int) (i : Int) u = some (true, w) := by
              intro u
              unfold m_L21_BlobBack_j6
              rw [appI_ok (by simp; omega), Option.bind_some, wi_succ (by omega)]
              have ht1 : p.take (i + 1) = p.take i ++ [p[i]] := by rw [List.take_add_one, List.getElem?_eq_getElem hlt]; rfl
              refine n_BB_l4 hx p hp f (i + 1) H' _ _ (lo - cntN p[i].length) _ (by omega) (by omega) c6 (by rw [wrP_len]; exact h20) (by omega) (by simp; omega) (fun b hbm => ?_) (fun j b g hj hg => ?_) ?_
              · rw [ht1] at hbm
                rcases List.mem_append.1 hbm with hbm | hbm
                · exact hb b hbm
                · rw [List.mem_singleton.1 hbm]; exact hb1
              · rw [ht1] at hj
                have hti : (p.take i).length = i := by rw [List.length_take]; omega
                by_cases e : j < i
                · rw [List.getElem?_append_left (by omega)] at hj hg
                  obtain ⟨pp, s1, s2, s3, s4, s5⟩ := hst j b g hj hg
                  refine ⟨pp, s1, s2, s3, fun y hy => ⟨by have := (s4 y hy).1; omega, by rw [wrP_len]; exact (s4 y hy).2⟩, fun q y hq => ?_⟩
                  rw [wrP_other]
                  · exact s5 q y hq
                  · intro z hz e
                    have := (s4 y (List.mem_of_getElem? hq)).1
                    have := hmem z hz
                    omega
                · have hj2 := (List.getElem?_eq_some_iff.1 hj).1
                  rw [List.length_append, hti, List.length_singleton] at hj2
                  have e : j = i := by omega
                  subst e
                  rw [List.getElem?_append_right (by omega), hti, Nat.sub_self] at hj
                  rw [List.getElem?_append_right (by omega), hfs, Nat.sub_self] at hg
                  injection hj with hj
                  injection hg with hg
                  subst hj hg
                  refine ⟨_, hrt, hdl, rfl, fun y hy => ⟨(hmem y hy).1, by rw [wrP_len, h20]; have := (hmem y hy).2; omega⟩, fun q y hq => ?_⟩
                  have := wrP_get (dsc lo (cntN p[j].length)) p[j] (dsc lo (cntN p[j].length)) 0 hs (rt_nodup hrt) (fun y hy => ⟨by have := hmem y hy; omega, c4 y hy⟩) q y hq
                  rw [Nat.zero_add] at this
                  exact this
              · rw [ht1]
                unfold sumC at hsum ⊢
                rw [List.map_append, List.sum_append, hsum]
                simp
                omega
            by_cases h0 : (p[i].length : Int) = 0
            · rw [bif_pos (ieq_t h0)]
              have hc0 : cntN p[i].length = 0 := by unfold cntN; omega
              have : ((dsc lo (cntN p[i].length)).getD 0 0, (0 : Int), H').1 = 0 := by rw [hc0]; rfl
              rw [bif_neg (ine_f this)]
              exact go _
            · rw [bif_neg (ieq_f h0)]
              exact go _
          · exfalso
            obtain ⟨j, hj⟩ := List.getElem?_of_mem c4
            obtain ⟨q1, q2⟩ := dsc_get hj
            omega
    · have : i = p.length := by omega
      subst this
      rw [bif_neg (dec_f (by omega))]
      rw [List.take_length] at fin
      exact fin
/-- BlobBack is true. -/
theorem n_BlobBack (p : List (List UInt8)) : ∃ w, m_L21_BlobBack p Hp.e = some (true, w) := by
  obtain ⟨w1, e1⟩ := n_awake21
  unfold m_L21_BlobBack
  rw [e1, Option.bind_some, bif_neg (by rfl)]
  by_cases h1 : (p.length : Int) > 10
  · rw [bif_pos (dec_t h1)]
    exact ⟨w1, rfl⟩
  · rw [bif_neg (dec_f h1)]
    obtain ⟨t, H, hs, mp, e3, hT, g1, _, _, _⟩ := n_Begun [] (by simp) (fun _ h => by cases h) w1
    rw [e3, Option.bind_some]
    exact n_BB_l4 rfl p (by omega) (p.length + 1) 0 H hs mp 19 [] (by omega) (by omega) hT g1 (by omega) rfl (fun _ h => by simp at h) (fun j b g hj => by simp at hj) rfl
end Go.Proofs.Ytjomnccladjpgaa

/-
  The contracts of the laws of Blob: they start with no heap, and return true.
-/
namespace Go.Proofs.Ytjomnccladjpgaa
open Go Go.RowKit
set_option linter.unusedVariables false
theorem lawBB (l : List (List UInt8)) : FC Try.prog 7 [.t (.d (.seq 1 (List.map (cSl 1 cU8) l)))] [] (.t (.d (.lit (.bool true)))) := by
  obtain ⟨w', h⟩ := n_BlobBack l
  exact fc_of_h (fch_L21_BlobBack l Hp.e (true, w') h) (fun c => hpA_e c) rfl (by show 1 ≤ OB; decide)
end Go.Proofs.Ytjomnccladjpgaa

/-
  What came in: from the reading of the arguments to data.
-/
namespace Go.Proofs.Ytjomnccladjpgaa
open Go Go.RowKit Go.ChangeShapes Go.WideShapes Go.ChangeAt
set_option linter.unusedVariables false
set_option maxRecDepth 20000

/-- All that a world's cells hold. -/
def memW (w : World) : Mem := fun b p => w.cell? ⟨b, p, none⟩
theorem memW_sat (w : World) : ∀ b p u, memW w b p = some u → w.cell? ⟨b, p, none⟩ = some u := fun _ _ _ h => h

/-- What a type's cells are, as data. -/
def OpT {H : Type} (enc : TypeId × Value → H) (w : World) {α : Type} (t : TypeId) (c : α → List D) (ok : α → Prop) : Prop :=
  ∀ (base : Nat) (spare : Nat → Bool) (held : Bool) (fuel : Nat) (cs : List Value) (x : DataW H × List MemPlace), DataW.trod enc Try.prog w base spare held fuel t cs = some x → ∃ v : α, RepL (memW w) (c v) cs ∧ ok v
/-- .. read with less than so much fuel. -/
def OpF {H : Type} (enc : TypeId × Value → H) (w : World) {α : Type} (m : Nat) (t : TypeId) (c : α → List D) (ok : α → Prop) : Prop :=
  ∀ (base : Nat) (spare : Nat → Bool) (held : Bool) (fuel : Nat) (cs : List Value) (x : DataW H × List MemPlace), fuel < m → DataW.trod enc Try.prog w base spare held fuel t cs = some x → ∃ v : α, RepL (memW w) (c v) cs ∧ ok v
theorem OpT.lt {H : Type} {enc : TypeId × Value → H} {w : World} {α : Type} {t : TypeId} {c : α → List D} {ok : α → Prop} (h : OpT enc w t c ok) (m : Nat) : OpF enc w m t c ok := fun b s l f cs x _ k => h b s l f cs x k
theorem OpT.of {H : Type} {enc : TypeId × Value → H} {w : World} {α : Type} {t : TypeId} {c : α → List D} {ok : α → Prop} (h : ∀ m, OpF enc w m t c ok) : OpT enc w t c ok := fun b s l f cs x k => h (f + 1) b s l f cs x (Nat.lt_succ_self f) k

def okAny {α : Type} (_ : α) : Prop := True
def okList {α : Type} (ok : α → Prop) (l : List α) : Prop := l.length ≤ 9223372036854775807 ∧ ∀ x ∈ l, ok x

theorem repl_one {m : Mem} {d : D} {u : Value} (h : RepD m d u) : RepL m [d] [u] := by
  refine ⟨rfl, fun j e hj => ?_⟩
  match j, hj with
  | 0, hj => injection hj with hj; subst hj; exact ⟨u, rfl, h⟩
  | j + 1, hj => simp at hj
section
variable {H : Type} {enc : TypeId × Value → H} {w : World}
theorem op_u8 {t : TypeId} (ht : Try.prog.underlying t = some (.int .u8)) : OpT enc w t cU8 okAny := fun b s l f cs x h => by
  obtain ⟨n, rfl, _, hw⟩ := DataW.trod_int ht h
  refine ⟨UInt8.ofNat n.toNat, repl_one ?_, trivial⟩
  have hr : 0 ≤ n ∧ n ≤ 255 := by
    simp [Lit.wf, IntKind.min, IntKind.max, IntKind.signed, IntKind.bits] at hw
    omega
  have : ((UInt8.ofNat n.toNat).toNat : Int) = n := by
    simp
    omega
  rw [this]
  exact .lit _ rfl
theorem some_list {α : Type} (P : Nat → α → Prop) : ∀ n : Nat, (∀ i, i < n → ∃ x, P i x) → ∃ l : List α, l.length = n ∧ ∀ i (h : i < l.length), P i l[i]
  | 0, _ => ⟨[], rfl, fun i h => absurd h (by simp)⟩
  | n + 1, h => by
    obtain ⟨l, hl, hp⟩ := some_list P n fun i hi => h i (by omega)
    obtain ⟨x, hx⟩ := h n (by omega)
    refine ⟨l ++ [x], by simp [hl], fun i hi => ?_⟩
    by_cases h1 : i < l.length
    · rw [List.getElem_append_left h1]; exact hp i h1
    · have : i = n := by simp at hi; omega
      subst this
      rw [List.getElem_append_right (by omega)]
      simpa [hl] using hx
theorem op_sliceF {α : Type} {t te : TypeId} {k m : Nat} {c : α → List D} {ok : α → Prop} (ht : Try.prog.underlying t = some (.slice te)) (hk : Try.prog.cellsOf te = k) (hk0 : 0 < k) (he : OpF enc w m te c ok) : OpF enc w (m + 1) t (cSl k c) (okList ok) := fun b s l f cs x hf h => by
  rcases DataW.trod_slice ht h with ⟨rfl, _⟩ | ⟨a, len, cap, elems, rest, n, hn, rfl, _, hba, hlc, hcm, hel, hev, _⟩
  · exact ⟨[], repl_one (RepD.nilSeq _ _), by simp, fun x hx => by cases hx⟩
  · have get : ∀ i, i < len → ∃ v : α, (∃ cs' : List Value, cs'.length = k ∧ (∀ j u, cs'[j]? = some u → w.cell? ((a.add (i * k)).add j) = some u) ∧ RepL (memW w) (c v) cs') ∧ ok v := by
      intro i hi
      have h1 := hev i hi
      obtain ⟨y, hy⟩ : ∃ y, elems[i]? = some y := ⟨elems[i], List.getElem?_eq_getElem (by omega)⟩
      rw [hy, hk] at h1
      obtain ⟨cs', hcs', ht'⟩ := Option.bind_eq_some_iff.1 h1
      obtain ⟨hc1, hc2, hc3⟩ := World.cells?_some hcs'
      obtain ⟨v, hrep, hok⟩ := he _ _ _ n cs' y (by omega) ht'
      refine ⟨v, ⟨cs', hc2, fun j u hu => ?_, hrep⟩, hok⟩
      have hjl : j < cs'.length := (List.getElem?_eq_some_iff.1 hu).1
      have hg := hc3 j (by omega)
      rw [hg, ← hu]
    by_cases h0 : len = 0
    · subst h0
      exact ⟨[], repl_one (.seq k [] _ cap 0 0 (fun _ _ => undef) (by simp) hcm (fun h => absurd rfl h) (fun i r h => by simp at h) (fun i r j d h => by simp at h) (fun i r j d h => by simp at h)), by simp, fun x hx => by cases hx⟩
    · have hs : a.spot = none := by
        obtain ⟨v, ⟨cs', hl4, hcell, _⟩, _⟩ := get 0 (by omega)
        have := World.cell?_spot (hcell 0 _ (List.getElem?_eq_getElem (by omega)))
        simpa [Addr.add] using this
      obtain ⟨g, o, sp⟩ := a
      simp only at hs
      subst hs
      obtain ⟨l, hll, hlp⟩ := some_list _ len get
      refine ⟨l, repl_one ?_, by unfold maxLen at hcm; omega, fun x hx => ?_⟩
      · have := RepD.seq (m := memW w) k (l.map c) (some ⟨g, o, none⟩) cap g o (fun i j => (memW w g (o + i * k + j)).getD undef) (by simp; omega) hcm (fun _ => rfl) (fun i r hi => ?_) (fun i r j d hi hj => ?_) (fun i r j d hi hj => ?_)
        · rwa [List.length_map, hll] at this
        all_goals
          rw [List.getElem?_map] at hi
          have hlt : i < l.length := by
            rcases Nat.lt_or_ge i l.length with g | g
            · exact g
            · rw [List.getElem?_eq_none g] at hi; cases hi
          rw [List.getElem?_eq_getElem hlt] at hi
          injection hi with hi
          subst hi
          obtain ⟨⟨cs', h1, h2, h3⟩, _⟩ := hlp i hlt
        · have := h3.1
          omega
        all_goals
          obtain ⟨u, k1, k2⟩ := h3.2 j d hj
          have k3 := h2 j u k1
          rw [Addr.add_mid, Addr.add_mid] at k3
          have k4 : memW w g (o + i * k + j) = some u := k3
          rw [k4]
        · rfl
        · exact k2
      · obtain ⟨i, hi, rfl⟩ := List.getElem_of_mem hx
        exact (hlp i hi).2
theorem op_slice {α : Type} {t te : TypeId} {k : Nat} {c : α → List D} {ok : α → Prop} (ht : Try.prog.underlying t = some (.slice te)) (hk : Try.prog.cellsOf te = k) (hk0 : 0 < k) (he : OpT enc w te c ok) : OpT enc w t (cSl k c) (okList ok) :=
  fun b s l f cs x h => op_sliceF ht hk hk0 (he.lt f) b s l f cs x (Nat.lt_succ_self f) h
end
/-- A law that returns true, called with what came in. -/
theorem fc_law {f : FuncId} {args : List A} (h : FC Try.prog f args [] (.t (.d (.lit (.bool true))))) {w : World} {vals : Array Value} (hs : vals.size = args.length) (hsat : ∀ b p u, memW w b p = some u → w.cell? ⟨b, p, none⟩ = some u) (hr : ∀ s, RepA (memW w) w (fun _ => none) (argS args) s (argS args s) (vals.getD s undef)) (htbl : Mle TBL (memW w) := by intro b p u h; simp [TBL, TBLS] at h) :
    Calls Try.prog f vals w fun e w' => e = .returned (.bool true) ∧ Below w.heap.size w w' := by
  refine (h w (memW w) (fun _ => none) vals hsat htbl (fun _ _ h => by cases h) (fun _ _ _ h => by cases h) hs hr).mono ?_
  rintro e w' ⟨u, m', o', S', a', ρ, rfl, J, hu, _⟩
  have hS : Same (fun _ => False) w w' := J.same.weaken fun g h => h rfl
  have hu : RepD m' (.lit (.bool true)) u := hu
  cases hu
  exact ⟨rfl, hS.below⟩
theorem repl_head {m : Mem} {d : D} {cs : List Value} (h : RepL m [d] cs) : ∃ u, cs = [u] ∧ RepD m d u := by
  match cs, h.1 with
  | [u], _ =>
    obtain ⟨v, h1, h2⟩ := h.2 0 d rfl
    injection h1 with h1
    subst h1
    exact ⟨_, rfl, h2⟩
end Go.Proofs.Ytjomnccladjpgaa
