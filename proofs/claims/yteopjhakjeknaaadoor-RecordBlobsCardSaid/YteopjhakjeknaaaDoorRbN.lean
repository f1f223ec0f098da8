/-
  What the models of padding compute, plain; and the law.
-/
import Derived.Test.YteopjhakjeknaaaDoorRbM
import Derived.Test.YteopjhakjeknaaaDoorR2N
namespace Go.Proofs.YteopjhakjeknaaaDoor
open Go Go.RowKit
set_option linter.unusedVariables false
set_option linter.unusedSimpArgs false

theorem apzI_ok {nb m : Nat} {n : Int} {k : Nat} (hn : n = k) (h : (m + k) * nb ≤ 140737488355328) : apzI nb m n = some k := by
  subst hn
  unfold apzI
  rw [if_pos ⟨by omega, by simpa using h⟩]
  rfl
/-- A padded blob. -/
def padB (b : List UInt8) (k : Nat) : List UInt8 := be 2 b.length ++ b ++ List.replicate (k - 2 - b.length) 0
def padS (b : List UInt8) (z : Int) : List UInt8 × Int := if z ≠ 120 ∧ z ≠ 1020 then ([], 2) else if (b.length : Int) > z - 2 then ([], 3) else (padB b z.toNat, 0)
theorem padB_length {b : List UInt8} {k : Nat} (h : b.length + 2 ≤ k) : (padB b k).length = k := by
  unfold padB
  rw [List.length_append, List.length_append, be_length, List.length_replicate]
  omega
theorem be2 {n : Nat} : be 2 n = [UInt8.ofNat (n / 256 % 256), UInt8.ofNat (n % 256)] := by
  rw [be_succ, be_succ]
  simp
  rfl
theorem n_sized (z : Int) : m_record_sized z = some (decide (z = 120 ∨ z = 1020)) := by
  unfold m_record_sized
  by_cases h : z = 120
  · subst h; rfl
  · rw [ieq_f h]
    by_cases h2 : z = 1020
    · subst h2; rfl
    · rw [ieq_f h2, dec_f (by omega)]; rfl
theorem n_record_Pad (b : List UInt8) (z : Int) (hb : b.length ≤ 2000) : m_record_Pad b z = some (padS b z) := by
  unfold m_record_Pad padS
  rw [n_sized]
  show (bif !(decide (z = 120 ∨ z = 1020)) then _ else _) = _
  by_cases hz : z = 120 ∨ z = 1020
  · rw [dec_t hz, if_neg (by omega)]
    show (bif decide (((b.length : Int)) > wi (z - 2)) then _ else _) = _
    rw [wi_id (z := z - 2) (by omega) (by omega)]
    by_cases hl : (b.length : Int) > z - 2
    · rw [dec_t hl, if_pos hl]; rfl
    · rw [dec_f hl, if_neg hl]
      show Option.bind (m_word_Put (b.length : Int) 2) _ = _
      rw [n_wput2 (by omega)]
      show Option.bind (appI 1 (be 2 b.length) b) _ = _
      rw [appI_ok (by rw [be_length]; omega)]
      show Option.bind (apzI 1 (be 2 b.length ++ b).length (wi (z - 2 - (b.length : Int)))) _ = _
      rw [wi_id (by omega) (by omega), apzI_ok (k := z.toNat - 2 - b.length) (by omega) (by rw [List.length_append, be_length]; omega)]
      rfl
  · rw [dec_f hz, if_pos (by omega)]; rfl
theorem n_R35_Pad_l3 (z : Int) (k : Nat) (hz : z = k) (hk : k ≤ 100000) : ∀ (n : Nat) (o : List UInt8), o.length ≤ k → k - o.length < n → m_R35_Pad_l3 z n o = some (o ++ List.replicate (k - o.length) 0, 0)
  | 0, o, _, h => by omega
  | n + 1, o, ho, h => by
    unfold m_R35_Pad_l3
    by_cases hlt : o.length < k
    · rw [dec_t (by omega)]
      show Option.bind (appI 1 o [0]) _ = _
      rw [appI_ok (by simp; omega)]
      show m_R35_Pad_l3 z n (o ++ [0]) = _
      rw [n_R35_Pad_l3 z k hz hk n (o ++ [0]) (by simp; omega) (by simp; omega), List.append_assoc, List.length_append, List.length_singleton, show k - o.length = (k - (o.length + 1)) + 1 by omega, List.replicate_succ]
      rfl
    · rw [dec_f (by omega), show k - o.length = 0 by omega]
      show m_R35_Pad_j2 o = _
      unfold m_R35_Pad_j2
      simp
theorem n_R35_Pad_j1 (b : List UInt8) (z : Int) (hb : b.length ≤ 2000) (hz : z = 120 ∨ z = 1020) : m_R35_Pad_j1 b z = some (padS b z) := by
  unfold m_R35_Pad_j1 padS
  rw [if_neg (by omega)]
  rw [wi_id (z := z - 2) (by omega) (by omega)]
  by_cases hl : (b.length : Int) > z - 2
  · rw [dec_t hl, if_pos hl]; rfl
  · rw [dec_f hl, if_neg hl]
    have hd : Int.tdiv (b.length : Int) 256 = ((b.length / 256 : Nat) : Int) := rfl
    have hm : Int.tmod (b.length : Int) 256 = ((b.length % 256 : Nat) : Int) := rfl
    rw [hd, hm, wi_id (by omega) (by omega), U8_nat (by omega), U8_nat (by omega)]
    have h2 : be 2 b.length = [UInt8.ofNat (b.length / 256), UInt8.ofNat (b.length % 256)] := by
      rw [be2, Nat.mod_eq_of_lt (a := b.length / 256) (by omega)]
    rw [← h2]
    show Option.bind (appI 1 (be 2 b.length) b) _ = _
    rw [appI_ok (by rw [be_length]; omega)]
    show m_R35_Pad_l3 z (Int.toNat z + 1) (be 2 b.length ++ b) = _
    rw [n_R35_Pad_l3 z z.toNat (by omega) (by omega) _ _ (by rw [List.length_append, be_length]; omega) (by omega), List.length_append, be_length]
    unfold padB
    rw [show z.toNat - (2 + b.length) = z.toNat - 2 - b.length by omega]
theorem n_R35_Pad (b : List UInt8) (z : Int) (hb : b.length ≤ 2000) : m_R35_Pad b z = some (padS b z) := by
  unfold m_R35_Pad
  by_cases h1 : z = 120
  · rw [ine_f h1]
    exact n_R35_Pad_j1 b z hb (.inl h1)
  · rw [ine_t h1]
    by_cases h2 : z = 1020
    · rw [ine_f h2]
      exact n_R35_Pad_j1 b z hb (.inr h2)
    · rw [ine_t h2]
      unfold padS
      rw [if_pos ⟨h1, h2⟩]
      rfl

/-! ### Unpad -/
def unpadS (b : List UInt8) : List UInt8 × Int := if b.length ≠ 120 ∧ b.length ≠ 1020 then ([], 11) else if ofBE (b.take 2) > b.length - 2 ∨ b.drop (2 + ofBE (b.take 2)) ≠ List.replicate (b.length - (2 + ofBE (b.take 2))) 0 then ([], 11) else ((b.drop 2).take (ofBE (b.take 2)), 0)
theorem n_IndexFunc (l : List UInt8) (hl : l.length ≤ 100000) : ∀ (n i : Nat), i ≤ l.length → l.length - i < n → ∃ z : Int, m_slices_IndexFunc_byte_l1 l m_record_Unpad_c1 n (i : Int) = some z ∧ (0 ≤ z ↔ ¬ l.drop i = List.replicate (l.length - i) 0)
  | 0, i, _, h => by omega
  | n + 1, i, hi, h => by
    unfold m_slices_IndexFunc_byte_l1
    by_cases hlt : i < l.length
    · rw [dec_t (by omega)]
      show ∃ z : Int, Option.bind (idx l (i : Int)) _ = some z ∧ _
      rw [idx_nat hlt]
      have hd : l.drop i = l[i] :: l.drop (i + 1) := List.drop_eq_getElem_cons hlt
      rw [hd, show l.length - i = (l.length - (i + 1)) + 1 by omega, List.replicate_succ]
      by_cases hc : l[i] = 0
      · obtain ⟨z, h1, h2⟩ := n_IndexFunc l hl n (i + 1) (by omega) (by omega)
        refine ⟨z, ?_, ?_⟩
        · show (bif ((l[i].toNat : Int) != 0) then _ else _) = _
          rw [hc]
          show m_slices_IndexFunc_byte_l1 l m_record_Unpad_c1 n (wi ((i : Int) + 1)) = _
          rw [wi_succ (by omega)]
          exact h1
        · rw [h2, hc]
          simp
      · refine ⟨(i : Int), ?_, ?_⟩
        · show (bif ((l[i].toNat : Int) != 0) then _ else _) = _
          have : ((l[i].toNat : Int) != 0) = true := ine_t (by
            intro e
            apply hc
            have e : l[i].toNat = 0 := by omega
            exact UInt8.toNat_inj.1 e)
          rw [this]
          rfl
        · constructor
          · intro _ e
            injection e with e _
            exact hc e
          · intro _; omega
    · rw [dec_f (by omega)]
      refine ⟨-1, rfl, ?_⟩
      rw [show i = l.length by omega]
      simp
theorem ofBE2 {b : List UInt8} (h : 2 ≤ b.length) : ofBE (b.take 2) = b[0].toNat * 256 + b[1].toNat ∧ ofBE (b.take 2) < 65536 := by
  refine ⟨?_, ofBE_lt 2 _ (by rw [List.length_take]; omega)⟩
  match b, h with
  | x :: y :: r, _ => simp [ofBE]
theorem n_record_Unpad (b : List UInt8) (hb : b.length ≤ 2000) : m_record_Unpad b = some (unpadS b) := by
  unfold m_record_Unpad unpadS
  rw [n_sized]
  show (bif !(decide ((b.length : Int) = 120 ∨ (b.length : Int) = 1020)) then _ else _) = _
  by_cases hz : b.length = 120 ∨ b.length = 1020
  · rw [dec_t (by omega), if_neg (by omega)]
    obtain ⟨_, hlt⟩ := ofBE2 (b := b) (by omega)
    show Option.bind (cutI b 0 2) _ = _
    rw [show (2 : Int) = ((2 : Nat) : Int) from rfl, cutI_take (by omega)]
    show Option.bind (m_word_Get (b.take 2)) _ = _
    rw [n_Get]
    have hl2 : (b.take 2).length = 2 := by rw [List.length_take]; omega
    have hg : getN (b.take 2) = (ofBE (b.take 2) : Int) := by
      unfold getN
      rw [if_neg (by omega)]
    show (bif decide (getN (b.take 2) > wi ((b.length : Int) - 2)) then _ else _) = _
    rw [hg, wi_id (z := (b.length : Int) - 2) (by omega) (by omega)]
    generalize ofBE (b.take 2) = n at *
    by_cases hn : n > b.length - 2
    · rw [dec_t (by omega), if_pos (.inl hn)]; rfl
    · rw [dec_f (by omega)]
      show Option.bind (cutI b (wi (2 + (n : Int))) (b.length : Int)) _ = _
      have h2 : wi (2 + (n : Int)) = ((2 + n : Nat) : Int) := by rw [wi_id (by omega) (by omega)]; omega
      rw [h2, cutI_drop (by omega)]
      show Option.bind (m_slices_ContainsFunc_byte (b.drop (2 + n)) m_record_Unpad_c1) _ = _
      unfold m_slices_ContainsFunc_byte m_slices_IndexFunc_byte
      obtain ⟨z, h3, h4⟩ := n_IndexFunc (b.drop (2 + n)) (by rw [List.length_drop]; omega) ((b.drop (2 + n)).length + 1) 0 (by omega) (by omega)
      rw [show ((0 : Nat) : Int) = 0 from rfl] at h3
      rw [h3]
      rw [List.drop_zero, Nat.sub_zero, List.length_drop] at h4
      show (bif decide (z ≥ 0) then _ else _) = _
      by_cases hq : b.drop (2 + n) = List.replicate (b.length - (2 + n)) 0
      · rw [dec_f (fun h => (h4.1 h) hq), if_neg (by intro h; rcases h with h | h; exact hn h; exact h hq)]
        show Option.bind (cutI b 2 (wi (2 + (n : Int)))) _ = _
        rw [h2, show (2 : Int) = ((2 : Nat) : Int) from rfl, cutI_mid (lo := 2) (n := n) (by omega) _ rfl]
        show Option.bind (m_slices_Clone_byte ((b.drop 2).take n)) _ = _
        unfold m_slices_Clone_byte
        rw [appI_ok (by rw [List.length_take, List.length_drop, List.length_nil]; omega)]
        rfl
      · rw [dec_t (h4.2 hq), if_pos (.inr hq)]; rfl
  · rw [dec_f (by omega), if_pos (by omega)]; rfl
theorem two_bytes (x y : Nat) (hx : x < 256) (hy : y < 256) : wi (wi (256 * (x : Int)) + (y : Int)) = ((x * 256 + y : Nat) : Int) := by
  rw [wi_id (z := 256 * (x : Int)) (by omega) (by omega), wi_id (by omega) (by omega)]; omega
theorem n_R35_Unpad_j1 (b : List UInt8) (hz : b.length = 120 ∨ b.length = 1020) : m_R35_Unpad_j1 b = some (unpadS b) := by
  unfold m_R35_Unpad_j1 unpadS
  rw [if_neg (by omega)]
  obtain ⟨hv, hlt⟩ := ofBE2 (b := b) (by omega)
  rw [show (0 : Int) = ((0 : Nat) : Int) from rfl, idx_nat (by omega)]
  show Option.bind (idx b 1) _ = _
  rw [show (1 : Int) = ((1 : Nat) : Int) from rfl, idx_nat (by omega)]
  have hbe : be 2 (ofBE (b.take 2)) = b.take 2 := be_ofBE 2 _ (by rw [List.length_take]; omega)
  have b0 := b[0].toNat_lt
  have b1 := b[1].toNat_lt
  simp only [Option.bind_some]
  rw [two_bytes _ _ b0 b1, ← hv, wi_id (z := (b.length : Int) - 2) (by omega) (by omega)]
  clear hv
  generalize ofBE (b.take 2) = n at *
  by_cases hn : n > b.length - 2
  · rw [dec_t (by omega), if_pos (.inl hn)]; rfl
  · rw [dec_f (by omega)]
    have h2 : wi (2 + (n : Int)) = ((2 + n : Nat) : Int) := by rw [wi_id (by omega) (by omega)]; omega
    show Option.bind (cutI b 2 (wi (2 + (n : Int)))) _ = _
    rw [h2, show (2 : Int) = ((2 : Nat) : Int) from rfl, cutI_mid (lo := 2) (n := n) (by omega) _ rfl]
    have hxl : ((b.drop 2).take n).length = n := by rw [List.length_take, List.length_drop]; omega
    show Option.bind (m_R35_Pad ((b.drop 2).take n) (b.length : Int)) _ = _
    rw [n_R35_Pad _ _ (by omega)]
    have hp : padS ((b.drop 2).take n) (b.length : Int) = (padB ((b.drop 2).take n) b.length, 0) := by
      unfold padS
      rw [if_neg (by omega), if_neg (by rw [hxl]; omega)]
      rfl
    rw [hp]
    show Option.bind (m_R01_Same (padB ((b.drop 2).take n) b.length) b) _ = _
    rw [n_R01_Same _ _ (by rw [padB_length (by omega)]; omega)]
    have hiff : (padB ((b.drop 2).take n) b.length = b) ↔ b.drop (2 + n) = List.replicate (b.length - (2 + n)) 0 := by
      unfold padB
      rw [hxl, hbe, show b.length - 2 - n = b.length - (2 + n) by omega]
      have hsplit : b = b.take 2 ++ (b.drop 2).take n ++ b.drop (2 + n) := by
        conv => lhs; rw [← List.take_append_drop 2 b, ← List.take_append_drop n (b.drop 2), List.drop_drop, ← List.append_assoc]
      constructor
      · intro h
        exact (List.append_cancel_left (h.trans hsplit)).symm
      · intro h
        rw [← h]
        exact hsplit.symm
    show (bif !(padB ((b.drop 2).take n) b.length == b) then _ else _) = _
    by_cases hq : b.drop (2 + n) = List.replicate (b.length - (2 + n)) 0
    · rw [if_neg (by intro h; rcases h with h | h; exact hn h; exact h hq), show (padB ((b.drop 2).take n) b.length == b) = true from beq_iff_eq.2 (hiff.2 hq)]
      rfl
    · rw [if_pos (.inr hq), show (padB ((b.drop 2).take n) b.length == b) = false from by
        rw [beq_eq_false_iff_ne]; exact fun h => hq (hiff.1 h)]
      rfl
theorem n_R35_Unpad (b : List UInt8) : m_R35_Unpad b = some (unpadS b) := by
  unfold m_R35_Unpad
  by_cases h1 : b.length = 120
  · rw [ine_f (by omega)]
    exact n_R35_Unpad_j1 b (.inl h1)
  · rw [ine_t (by omega)]
    by_cases h2 : b.length = 1020
    · rw [ine_f (by omega)]
      exact n_R35_Unpad_j1 b (.inr h2)
    · rw [ine_t (by omega)]
      unfold unpadS
      rw [if_pos ⟨h1, h2⟩]
      rfl
theorem unpad_pad {b : List UInt8} {k : Nat} (hk : k = 120 ∨ k = 1020) (hb : b.length + 2 ≤ k) : unpadS (padB b k) = (b, 0) := by
  have hl := padB_length hb
  have ht : (padB b k).take 2 = be 2 b.length := by
    unfold padB
    rw [List.append_assoc, List.take_append_of_le_length (by rw [be_length]; omega), List.take_of_length_le (by rw [be_length]; omega)]
  have hd : (padB b k).drop 2 = b ++ List.replicate (k - 2 - b.length) 0 := by
    unfold padB
    rw [List.append_assoc, List.drop_append_of_le_length (by rw [be_length]; omega), List.drop_of_length_le (by rw [be_length]; omega), List.nil_append]
  have hn : ofBE (be 2 b.length) = b.length := by rw [ofBE_be, Nat.mod_eq_of_lt (by omega)]
  unfold unpadS
  rw [hl, ht, hn, if_neg (by omega), if_neg, hd, List.take_append_of_le_length (Nat.le_refl _), List.take_length]
  intro h
  rcases h with h | h
  · omega
  · apply h
    rw [← List.drop_drop, hd, List.drop_append_of_le_length (Nat.le_refl _), List.drop_length, List.nil_append]
    congr 1
    omega

/-! ### The law -/
theorem n_awake : m_L35_awake = some true := by kernel_rfl
theorem n_RecordBlobs (b : List UInt8) (z : Int) : m_L35_RecordBlobs b z = some true := by
  unfold m_L35_RecordBlobs
  rw [n_awake]
  show (bif decide ((b.length : Int) > 2000) then _ else _) = _
  by_cases hb : b.length ≤ 2000
  · rw [dec_f (by omega)]
    show Option.bind (m_record_Pad b z) _ = _
    rw [n_record_Pad b z hb]
    show Option.bind (m_R35_Pad b z) _ = _
    rw [n_R35_Pad b z hb]
    show (bif ((padS b z).2 != (padS b z).2) then _ else _) = _
    rw [ine_f rfl]
    have hj : m_L35_RecordBlobs_j1 b = some true := by
      unfold m_L35_RecordBlobs_j1
      rw [n_record_Unpad b hb]
      show Option.bind (m_R35_Unpad b) _ = _
      rw [n_R35_Unpad]
      show (bif ((unpadS b).2 == (unpadS b).2) then _ else _) = _
      rw [ieq_t rfl]
      show Option.bind (m_R01_Same (unpadS b).1 (unpadS b).1) _ = _
      rw [n_R01_Same]
      · show some ((unpadS b).1 == (unpadS b).1) = _
        rw [beq_self_eq_true]
      · unfold unpadS
        split
        · show (0 : Nat) < _; omega
        · split
          · show (0 : Nat) < _; omega
          · show ((b.drop 2).take _).length < _
            rw [List.length_take, List.length_drop]; omega
    show Option.bind (m_R01_Same (padS b z).1 (padS b z).1) _ = _
    have hpl : (padS b z).1.length < 4611686018427387904 := by
      unfold padS
      split
      · show (0 : Nat) < _; omega
      · split
        · show (0 : Nat) < _; omega
        · show (padB b z.toNat).length < _
          rw [padB_length (by omega)]; omega
    rw [n_R01_Same _ _ hpl]
    show (bif !((padS b z).1 == (padS b z).1) then _ else _) = _
    rw [beq_self_eq_true]
    show (bif ((padS b z).2 == 0) then _ else _) = _
    by_cases h0 : (padS b z).2 = 0
    · rw [ieq_t h0]
      have hp : padS b z = (padB b z.toNat, 0) ∧ (z = 120 ∨ z = 1020) ∧ (b.length : Int) ≤ z - 2 := by
        unfold padS at h0 ⊢
        split at h0
        · cases h0
        · split at h0
          · cases h0
          · rename_i h1 h2
            rw [if_neg h1, if_neg h2]
            exact ⟨rfl, by omega, by omega⟩
      obtain ⟨hp, hz, hl⟩ := hp
      rw [hp]
      show Option.bind (m_record_Unpad (padB b z.toNat)) _ = _
      rw [n_record_Unpad _ (by rw [padB_length (by omega)]; omega), unpad_pad (by omega) (by omega)]
      show Option.bind (m_R01_Same b b) _ = _
      rw [n_R01_Same _ _ (by omega)]
      show (bif !(b == b) then _ else _) = _
      rw [beq_self_eq_true]
      exact hj
    · rw [ieq_f h0]
      exact hj
  · rw [dec_t (by omega)]; rfl
end Go.Proofs.YteopjhakjeknaaaDoor
