/-
  Texts joined: see the remarks at the head of each part.
-/
import Derived.Test.YteopjhakjeknaaaDoorSmM
import Derived.Test.YteopjhakjeknaaaDoorR2N
import Derived.Test.YteopjhakjeknaaaDoorVv
/-
  What the models of padding compute, plain; and the law.
-/
namespace Go.Proofs.YteopjhakjeknaaaDoor
open Go Go.RowKit
set_option linter.unusedVariables false
set_option linter.unusedSimpArgs false

theorem apzI_ok {nb m : Nat} {n : Int} {k : Nat} (hn : n = k) (h : (m + k) * nb ≤ 140737488355328) : apzI nb m n = some k := by
  subst hn
  unfold apzI
  rw [if_pos ⟨by omega, by simpa using h⟩]
  rfl
/-- A padded blob. -/
def padB (b : List UInt8) (k : Nat) : List UInt8 := be 2 b.length ++ b ++ List.replicate (k - 2 - b.length) 0
def padS (b : List UInt8) (z : Int) : List UInt8 × Int := if z ≠ 120 ∧ z ≠ 1020 then ([], 2) else if (b.length : Int) > z - 2 then ([], 3) else (padB b z.toNat, 0)
theorem padB_length {b : List UInt8} {k : Nat} (h : b.length + 2 ≤ k) : (padB b k).length = k := by
  unfold padB
  rw [List.length_append, List.length_append, be_length, List.length_replicate]
  omega
theorem be2 {n : Nat} : be 2 n = [UInt8.ofNat (n / 256 % 256), UInt8.ofNat (n % 256)] := by
  rw [be_succ, be_succ]
  simp
  rfl
theorem n_sized (z : Int) : m_record_sized z = some (decide (z = 120 ∨ z = 1020)) := by
  unfold m_record_sized
  by_cases h : z = 120
  · subst h; rfl
  · rw [ieq_f h]
    by_cases h2 : z = 1020
    · subst h2; rfl
    · rw [ieq_f h2, dec_f (by omega)]; rfl
theorem n_record_Pad (b : List UInt8) (z : Int) (hb : b.length ≤ 1000000) : m_record_Pad b z = some (padS b z) := by
  unfold m_record_Pad padS
  rw [n_sized]
  show (bif !(decide (z = 120 ∨ z = 1020)) then _ else _) = _
  by_cases hz : z = 120 ∨ z = 1020
  · rw [dec_t hz, if_neg (by omega)]
    show (bif decide (((b.length : Int)) > wi (z - 2)) then _ else _) = _
    rw [wi_id (z := z - 2) (by omega) (by omega)]
    by_cases hl : (b.length : Int) > z - 2
    · rw [dec_t hl, if_pos hl]; rfl
    · rw [dec_f hl, if_neg hl]
      show Option.bind (m_word_Put (b.length : Int) 2) _ = _
      rw [n_wput2 (by omega)]
      show Option.bind (appI 1 (be 2 b.length) b) _ = _
      rw [appI_ok (by rw [be_length]; omega)]
      show Option.bind (apzI 1 (be 2 b.length ++ b).length (wi (z - 2 - (b.length : Int)))) _ = _
      rw [wi_id (by omega) (by omega), apzI_ok (k := z.toNat - 2 - b.length) (by omega) (by rw [List.length_append, be_length]; omega)]
      rfl
  · rw [dec_f hz, if_pos (by omega)]; rfl
theorem n_R35_Pad_l3 (z : Int) (k : Nat) (hz : z = k) (hk : k ≤ 100000) : ∀ (n : Nat) (o : List UInt8), o.length ≤ k → k - o.length < n → m_R35_Pad_l3 z n o = some (o ++ List.replicate (k - o.length) 0, 0)
  | 0, o, _, h => by omega
  | n + 1, o, ho, h => by
    unfold m_R35_Pad_l3
    by_cases hlt : o.length < k
    · rw [dec_t (by omega)]
      show Option.bind (appI 1 o [0]) _ = _
      rw [appI_ok (by simp; omega)]
      show m_R35_Pad_l3 z n (o ++ [0]) = _
      rw [n_R35_Pad_l3 z k hz hk n (o ++ [0]) (by simp; omega) (by simp; omega), List.append_assoc, List.length_append, List.length_singleton, show k - o.length = (k - (o.length + 1)) + 1 by omega, List.replicate_succ]
      rfl
    · rw [dec_f (by omega), show k - o.length = 0 by omega]
      show m_R35_Pad_j2 o = _
      unfold m_R35_Pad_j2
      simp
theorem n_R35_Pad_j1 (b : List UInt8) (z : Int) (hb : b.length ≤ 1000000) (hz : z = 120 ∨ z = 1020) : m_R35_Pad_j1 b z = some (padS b z) := by
  unfold m_R35_Pad_j1 padS
  rw [if_neg (by omega)]
  rw [wi_id (z := z - 2) (by omega) (by omega)]
  by_cases hl : (b.length : Int) > z - 2
  · rw [dec_t hl, if_pos hl]; rfl
  · rw [dec_f hl, if_neg hl]
    have hd : Int.tdiv (b.length : Int) 256 = ((b.length / 256 : Nat) : Int) := rfl
    have hm : Int.tmod (b.length : Int) 256 = ((b.length % 256 : Nat) : Int) := rfl
    rw [hd, hm, wi_id (by omega) (by omega), U8_nat (by omega), U8_nat (by omega)]
    have h2 : be 2 b.length = [UInt8.ofNat (b.length / 256), UInt8.ofNat (b.length % 256)] := by
      rw [be2, Nat.mod_eq_of_lt (a := b.length / 256) (by omega)]
    rw [← h2]
    show Option.bind (appI 1 (be 2 b.length) b) _ = _
    rw [appI_ok (by rw [be_length]; omega)]
    show m_R35_Pad_l3 z (Int.toNat z + 1) (be 2 b.length ++ b) = _
    rw [n_R35_Pad_l3 z z.toNat (by omega) (by omega) _ _ (by rw [List.length_append, be_length]; omega) (by omega), List.length_append, be_length]
    unfold padB
    rw [show z.toNat - (2 + b.length) = z.toNat - 2 - b.length by omega]
theorem n_R35_Pad (b : List UInt8) (z : Int) (hb : b.length ≤ 1000000) : m_R35_Pad b z = some (padS b z) := by
  unfold m_R35_Pad
  by_cases h1 : z = 120
  · rw [ine_f h1]
    exact n_R35_Pad_j1 b z hb (.inl h1)
  · rw [ine_t h1]
    by_cases h2 : z = 1020
    · rw [ine_f h2]
      exact n_R35_Pad_j1 b z hb (.inr h2)
    · rw [ine_t h2]
      unfold padS
      rw [if_pos ⟨h1, h2⟩]
      rfl

/-! ### Unpad -/
def unpadS (b : List UInt8) : List UInt8 × Int := if b.length ≠ 120 ∧ b.length ≠ 1020 then ([], 11) else if ofBE (b.take 2) > b.length - 2 ∨ b.drop (2 + ofBE (b.take 2)) ≠ List.replicate (b.length - (2 + ofBE (b.take 2))) 0 then ([], 11) else ((b.drop 2).take (ofBE (b.take 2)), 0)
theorem n_IndexFunc (l : List UInt8) (hl : l.length ≤ 100000) : ∀ (n i : Nat), i ≤ l.length → l.length - i < n → ∃ z : Int, m_slices_IndexFunc_byte_l1 l m_record_Unpad_c1 n (i : Int) = some z ∧ (0 ≤ z ↔ ¬ l.drop i = List.replicate (l.length - i) 0)
  | 0, i, _, h => by omega
  | n + 1, i, hi, h => by
    unfold m_slices_IndexFunc_byte_l1
    by_cases hlt : i < l.length
    · rw [dec_t (by omega)]
      show ∃ z : Int, Option.bind (idx l (i : Int)) _ = some z ∧ _
      rw [idx_nat hlt]
      have hd : l.drop i = l[i] :: l.drop (i + 1) := List.drop_eq_getElem_cons hlt
      rw [hd, show l.length - i = (l.length - (i + 1)) + 1 by omega, List.replicate_succ]
      by_cases hc : l[i] = 0
      · obtain ⟨z, h1, h2⟩ := n_IndexFunc l hl n (i + 1) (by omega) (by omega)
        refine ⟨z, ?_, ?_⟩
        · show (bif ((l[i].toNat : Int) != 0) then _ else _) = _
          rw [hc]
          show m_slices_IndexFunc_byte_l1 l m_record_Unpad_c1 n (wi ((i : Int) + 1)) = _
          rw [wi_succ (by omega)]
          exact h1
        · rw [h2, hc]
          simp
      · refine ⟨(i : Int), ?_, ?_⟩
        · show (bif ((l[i].toNat : Int) != 0) then _ else _) = _
          have : ((l[i].toNat : Int) != 0) = true := ine_t (by
            intro e
            apply hc
            have e : l[i].toNat = 0 := by omega
            exact UInt8.toNat_inj.1 e)
          rw [this]
          rfl
        · constructor
          · intro _ e
            injection e with e _
            exact hc e
          · intro _; omega
    · rw [dec_f (by omega)]
      refine ⟨-1, rfl, ?_⟩
      rw [show i = l.length by omega]
      simp
theorem ofBE2 {b : List UInt8} (h : 2 ≤ b.length) : ofBE (b.take 2) = b[0].toNat * 256 + b[1].toNat ∧ ofBE (b.take 2) < 65536 := by
  refine ⟨?_, ofBE_lt 2 _ (by rw [List.length_take]; omega)⟩
  match b, h with
  | x :: y :: r, _ => simp [ofBE]
theorem n_record_Unpad (b : List UInt8) (hb : b.length ≤ 2000) : m_record_Unpad b = some (unpadS b) := by
  unfold m_record_Unpad unpadS
  rw [n_sized]
  show (bif !(decide ((b.length : Int) = 120 ∨ (b.length : Int) = 1020)) then _ else _) = _
  by_cases hz : b.length = 120 ∨ b.length = 1020
  · rw [dec_t (by omega), if_neg (by omega)]
    obtain ⟨_, hlt⟩ := ofBE2 (b := b) (by omega)
    show Option.bind (cutI b 0 2) _ = _
    rw [show (2 : Int) = ((2 : Nat) : Int) from rfl, cutI_take (by omega)]
    show Option.bind (m_word_Get (b.take 2)) _ = _
    rw [n_Get]
    have hl2 : (b.take 2).length = 2 := by rw [List.length_take]; omega
    have hg : getN (b.take 2) = (ofBE (b.take 2) : Int) := by
      unfold getN
      rw [if_neg (by omega)]
    show (bif decide (getN (b.take 2) > wi ((b.length : Int) - 2)) then _ else _) = _
    rw [hg, wi_id (z := (b.length : Int) - 2) (by omega) (by omega)]
    generalize ofBE (b.take 2) = n at *
    by_cases hn : n > b.length - 2
    · rw [dec_t (by omega), if_pos (.inl hn)]; rfl
    · rw [dec_f (by omega)]
      show Option.bind (cutI b (wi (2 + (n : Int))) (b.length : Int)) _ = _
      have h2 : wi (2 + (n : Int)) = ((2 + n : Nat) : Int) := by rw [wi_id (by omega) (by omega)]; omega
      rw [h2, cutI_drop (by omega)]
      show Option.bind (m_slices_ContainsFunc_byte (b.drop (2 + n)) m_record_Unpad_c1) _ = _
      unfold m_slices_ContainsFunc_byte m_slices_IndexFunc_byte
      obtain ⟨z, h3, h4⟩ := n_IndexFunc (b.drop (2 + n)) (by rw [List.length_drop]; omega) ((b.drop (2 + n)).length + 1) 0 (by omega) (by omega)
      rw [show ((0 : Nat) : Int) = 0 from rfl] at h3
      rw [h3]
      rw [List.drop_zero, Nat.sub_zero, List.length_drop] at h4
      show (bif decide (z ≥ 0) then _ else _) = _
      by_cases hq : b.drop (2 + n) = List.replicate (b.length - (2 + n)) 0
      · rw [dec_f (fun h => (h4.1 h) hq), if_neg (by intro h; rcases h with h | h; exact hn h; exact h hq)]
        show Option.bind (cutI b 2 (wi (2 + (n : Int)))) _ = _
        rw [h2, show (2 : Int) = ((2 : Nat) : Int) from rfl, cutI_mid (lo := 2) (n := n) (by omega) _ rfl]
        show Option.bind (m_slices_Clone_byte ((b.drop 2).take n)) _ = _
        unfold m_slices_Clone_byte
        rw [appI_ok (by rw [List.length_take, List.length_drop, List.length_nil]; omega)]
        rfl
      · rw [dec_t (h4.2 hq), if_pos (.inr hq)]; rfl
  · rw [dec_f (by omega), if_pos (by omega)]; rfl
theorem two_bytes (x y : Nat) (hx : x < 256) (hy : y < 256) : wi (wi (256 * (x : Int)) + (y : Int)) = ((x * 256 + y : Nat) : Int) := by
  rw [wi_id (z := 256 * (x : Int)) (by omega) (by omega), wi_id (by omega) (by omega)]; omega
theorem n_R35_Unpad_j1 (b : List UInt8) (hz : b.length = 120 ∨ b.length = 1020) : m_R35_Unpad_j1 b = some (unpadS b) := by
  unfold m_R35_Unpad_j1 unpadS
  rw [if_neg (by omega)]
  obtain ⟨hv, hlt⟩ := ofBE2 (b := b) (by omega)
  rw [show (0 : Int) = ((0 : Nat) : Int) from rfl, idx_nat (by omega)]
  show Option.bind (idx b 1) _ = _
  rw [show (1 : Int) = ((1 : Nat) : Int) from rfl, idx_nat (by omega)]
  have hbe : be 2 (ofBE (b.take 2)) = b.take 2 := be_ofBE 2 _ (by rw [List.length_take]; omega)
  have b0 := b[0].toNat_lt
  have b1 := b[1].toNat_lt
  simp only [Option.bind_some]
  rw [two_bytes _ _ b0 b1, ← hv, wi_id (z := (b.length : Int) - 2) (by omega) (by omega)]
  clear hv
  generalize ofBE (b.take 2) = n at *
  by_cases hn : n > b.length - 2
  · rw [dec_t (by omega), if_pos (.inl hn)]; rfl
  · rw [dec_f (by omega)]
    have h2 : wi (2 + (n : Int)) = ((2 + n : Nat) : Int) := by rw [wi_id (by omega) (by omega)]; omega
    show Option.bind (cutI b 2 (wi (2 + (n : Int)))) _ = _
    rw [h2, show (2 : Int) = ((2 : Nat) : Int) from rfl, cutI_mid (lo := 2) (n := n) (by omega) _ rfl]
    have hxl : ((b.drop 2).take n).length = n := by rw [List.length_take, List.length_drop]; omega
    show Option.bind (m_R35_Pad ((b.drop 2).take n) (b.length : Int)) _ = _
    rw [n_R35_Pad _ _ (by omega)]
    have hp : padS ((b.drop 2).take n) (b.length : Int) = (padB ((b.drop 2).take n) b.length, 0) := by
      unfold padS
      rw [if_neg (by omega), if_neg (by rw [hxl]; omega)]
      rfl
    rw [hp]
    show Option.bind (m_R01_Same (padB ((b.drop 2).take n) b.length) b) _ = _
    rw [n_R01_Same _ _ (by rw [padB_length (by omega)]; omega)]
    have hiff : (padB ((b.drop 2).take n) b.length = b) ↔ b.drop (2 + n) = List.replicate (b.length - (2 + n)) 0 := by
      unfold padB
      rw [hxl, hbe, show b.length - 2 - n = b.length - (2 + n) by omega]
      have hsplit : b = b.take 2 ++ (b.drop 2).take n ++ b.drop (2 + n) := by
        conv => lhs; rw [← List.take_append_drop 2 b, ← List.take_append_drop n (b.drop 2), List.drop_drop, ← List.append_assoc]
      constructor
      · intro h
        exact (List.append_cancel_left (h.trans hsplit)).symm
      · intro h
        rw [← h]
        exact hsplit.symm
    show (bif !(padB ((b.drop 2).take n) b.length == b) then _ else _) = _
    by_cases hq : b.drop (2 + n) = List.replicate (b.length - (2 + n)) 0
    · rw [if_neg (by intro h; rcases h with h | h; exact hn h; exact h hq), show (padB ((b.drop 2).take n) b.length == b) = true from beq_iff_eq.2 (hiff.2 hq)]
      rfl
    · rw [if_pos (.inr hq), show (padB ((b.drop 2).take n) b.length == b) = false from by
        rw [beq_eq_false_iff_ne]; exact fun h => hq (hiff.1 h)]
      rfl
theorem n_R35_Unpad (b : List UInt8) : m_R35_Unpad b = some (unpadS b) := by
  unfold m_R35_Unpad
  by_cases h1 : b.length = 120
  · rw [ine_f (by omega)]
    exact n_R35_Unpad_j1 b (.inl h1)
  · rw [ine_t (by omega)]
    by_cases h2 : b.length = 1020
    · rw [ine_f (by omega)]
      exact n_R35_Unpad_j1 b (.inr h2)
    · rw [ine_t (by omega)]
      unfold unpadS
      rw [if_pos ⟨h1, h2⟩]
      rfl
theorem unpad_pad {b : List UInt8} {k : Nat} (hk : k = 120 ∨ k = 1020) (hb : b.length + 2 ≤ k) : unpadS (padB b k) = (b, 0) := by
  have hl := padB_length hb
  have ht : (padB b k).take 2 = be 2 b.length := by
    unfold padB
    rw [List.append_assoc, List.take_append_of_le_length (by rw [be_length]; omega), List.take_of_length_le (by rw [be_length]; omega)]
  have hd : (padB b k).drop 2 = b ++ List.replicate (k - 2 - b.length) 0 := by
    unfold padB
    rw [List.append_assoc, List.drop_append_of_le_length (by rw [be_length]; omega), List.drop_of_length_le (by rw [be_length]; omega), List.nil_append]
  have hn : ofBE (be 2 b.length) = b.length := by rw [ofBE_be, Nat.mod_eq_of_lt (by omega)]
  unfold unpadS
  rw [hl, ht, hn, if_neg (by omega), if_neg, hd, List.take_append_of_le_length (Nat.le_refl _), List.take_length]
  intro h
  rcases h with h | h
  · omega
  · apply h
    rw [← List.drop_drop, hd, List.drop_append_of_le_length (Nat.le_refl _), List.drop_length, List.nil_append]
    congr 1
    omega

/-! ### The law -/
theorem n_awake : m_L35_awake = some true := by kernel_rfl
theorem n_RecordBlobs (b : List UInt8) (z : Int) : m_L35_RecordBlobs b z = some true := by
  unfold m_L35_RecordBlobs
  rw [n_awake]
  show (bif decide ((b.length : Int) > 2000) then _ else _) = _
  by_cases hb : b.length ≤ 2000
  · rw [dec_f (by omega)]
    show Option.bind (m_record_Pad b z) _ = _
    rw [n_record_Pad b z (by omega)]
    show Option.bind (m_R35_Pad b z) _ = _
    rw [n_R35_Pad b z (by omega)]
    show (bif ((padS b z).2 != (padS b z).2) then _ else _) = _
    rw [ine_f rfl]
    have hj : m_L35_RecordBlobs_j1 b = some true := by
      unfold m_L35_RecordBlobs_j1
      rw [n_record_Unpad b hb]
      show Option.bind (m_R35_Unpad b) _ = _
      rw [n_R35_Unpad]
      show (bif ((unpadS b).2 == (unpadS b).2) then _ else _) = _
      rw [ieq_t rfl]
      show Option.bind (m_R01_Same (unpadS b).1 (unpadS b).1) _ = _
      rw [n_R01_Same]
      · show some ((unpadS b).1 == (unpadS b).1) = _
        rw [beq_self_eq_true]
      · unfold unpadS
        split
        · show (0 : Nat) < _; omega
        · split
          · show (0 : Nat) < _; omega
          · show ((b.drop 2).take _).length < _
            rw [List.length_take, List.length_drop]; omega
    show Option.bind (m_R01_Same (padS b z).1 (padS b z).1) _ = _
    have hpl : (padS b z).1.length < 4611686018427387904 := by
      unfold padS
      split
      · show (0 : Nat) < _; omega
      · split
        · show (0 : Nat) < _; omega
        · show (padB b z.toNat).length < _
          rw [padB_length (by omega)]; omega
    rw [n_R01_Same _ _ hpl]
    show (bif !((padS b z).1 == (padS b z).1) then _ else _) = _
    rw [beq_self_eq_true]
    show (bif ((padS b z).2 == 0) then _ else _) = _
    by_cases h0 : (padS b z).2 = 0
    · rw [ieq_t h0]
      have hp : padS b z = (padB b z.toNat, 0) ∧ (z = 120 ∨ z = 1020) ∧ (b.length : Int) ≤ z - 2 := by
        unfold padS at h0 ⊢
        split at h0
        · cases h0
        · split at h0
          · cases h0
          · rename_i h1 h2
            rw [if_neg h1, if_neg h2]
            exact ⟨rfl, by omega, by omega⟩
      obtain ⟨hp, hz, hl⟩ := hp
      rw [hp]
      show Option.bind (m_record_Unpad (padB b z.toNat)) _ = _
      rw [n_record_Unpad _ (by rw [padB_length (by omega)]; omega), unpad_pad (by omega) (by omega)]
      show Option.bind (m_R01_Same b b) _ = _
      rw [n_R01_Same _ _ (by omega)]
      show (bif !(b == b) then _ else _) = _
      rw [beq_self_eq_true]
      exact hj
    · rw [ieq_f h0]
      exact hj
  · rw [dec_t (by omega)]; rfl
end Go.Proofs.YteopjhakjeknaaaDoor

/-
  What the models of small records compute, plain; and the law.
-/
namespace Go.Proofs.YteopjhakjeknaaaDoor
open Go Go.RowKit
set_option linter.unusedVariables false
set_option linter.unusedSimpArgs false

theorem right_of {v : V} (h : v.rpure = true ∧ v.deep ≤ 16 ∧ v.sz ≤ 1048576) : v.right = true := by
  unfold V.right
  simpa [and_assoc] using h
def okN (n : Int) : Prop := 0 ≤ n ∧ n ≤ 4611686018427387904
instance (n : Int) : Decidable (okN n) := inferInstanceAs (Decidable (_ ∧ _))
def smI (ns : List Int) (all : List (List UInt8)) : List V := ns.map numV ++ all.map wordV
def smV (ns : List Int) (all : List (List UInt8)) : V := listV (smI ns all)
theorem smI_length (ns : List Int) (all : List (List UInt8)) : (smI ns all).length = ns.length + all.length := by simp [smI]
theorem sm_right {ns : List Int} {all : List (List UInt8)} (h0 : ns.length ≤ 40) (h1 : all.length ≤ 40) (ha : ∀ x ∈ all, x.length ≤ 300) (hn : ∀ x ∈ ns, okN x) : (smV ns all).rpure = true ∧ (smV ns all).deep ≤ 16 ∧ (smV ns all).sz ≤ 1048576 := by
  have hi : ∀ x ∈ smI ns all, x.rpure = true ∧ x.deep ≤ 0 ∧ x.sz ≤ 304 := by
    intro x hx
    rcases List.mem_append.1 hx with hx | hx
    · obtain ⟨n, hm, rfl⟩ := List.mem_map.1 hx
      have := hn n hm
      exact ⟨rpure_numV this.1 this.2, by rw [deep_num]; omega, by have := sz_num this.1 this.2; omega⟩
    · obtain ⟨s, hm, rfl⟩ := List.mem_map.1 hx
      have := ha s hm
      exact ⟨rpure_word s, by rw [deep_word]; omega, by rw [sz_word]; omega⟩
  refine ⟨rpure_listV (by rw [smI_length]; omega) (fun x hx => (hi x hx).1), ?_, ?_⟩
  · have := deep_list (l := smI ns all) (d := 0) (fun x hx => (hi x hx).2.1)
    show (listV (smI ns all)).deep ≤ 16
    omega
  · show (listV (smI ns all)).sz ≤ _
    rw [sz_list]
    have := szs_le (smI ns all) 304 (fun x hx => (hi x hx).2.2)
    have : (smI ns all).length * 304 ≤ 80 * 304 := Nat.mul_le_mul_right _ (by rw [smI_length]; omega)
    omega
theorem sm_num {ns : List Int} {all : List (List UInt8)} (h : (smV ns all).right = true) : ∀ x ∈ ns, okN x := by
  intro n hn
  have hr := V.rpure_items (right_iff h).1 rfl (numV n) (List.mem_append.2 (.inl (List.mem_map.2 ⟨n, hn, rfl⟩)))
  have hf := V.rpure_flat hr
  unfold V.flat at hf
  rw [if_pos (by rfl)] at hf
  simp [numV, V.n, V.b, V.l] at hf
  exact ⟨of_decide_eq_true hf.1, of_decide_eq_true hf.2⟩

/-! ### Writing -/
theorem small_l3 (all : List (List UInt8)) (h1 : all.length ≤ 40) : ∀ (n i : Nat) (out : List V), i ≤ all.length → all.length - i < n → out.length ≤ 40 + i → m_record_Small_l3 all (V.mk 3 0 [] []) n out (i : Int) = m_record_Small_j2 (V.mk 3 0 [] []) (out ++ (all.drop i).map wordV)
  | 0, i, out, _, h, _ => by omega
  | n + 1, i, out, hi, h, ho => by
    unfold m_record_Small_l3
    by_cases hlt : i < all.length
    · rw [bif_pos (dec_t (by omega)), idx_nat hlt, Option.bind_some]
      show Option.bind (appI 64 out [wordV all[i]]) _ = _
      rw [appI_ok (by simp; omega), Option.bind_some, wi_succ (by omega), small_l3 all h1 n (i + 1) _ (by omega) (by omega) (by simp; omega), List.drop_eq_getElem_cons hlt, List.map_cons, List.append_assoc]
      rfl
    · rw [bif_neg (dec_f (by omega)), List.drop_eq_nil_of_le (by omega)]
      simp
theorem small_l4 (ns : List Int) (all : List (List UInt8)) (h0 : ns.length ≤ 40) : ∀ (n i : Nat) (out : List V), i ≤ ns.length → ns.length - i < n → out.length ≤ i → m_record_Small_l4 ns all (V.mk 3 0 [] []) n out (i : Int) = m_record_Small_j1 all (V.mk 3 0 [] []) (out ++ (ns.drop i).map numV)
  | 0, i, out, _, h, _ => by omega
  | n + 1, i, out, hi, h, ho => by
    unfold m_record_Small_l4
    by_cases hlt : i < ns.length
    · rw [bif_pos (dec_t (by omega)), idx_nat hlt, Option.bind_some]
      show Option.bind (appI 64 out [numV ns[i]]) _ = _
      rw [appI_ok (by simp; omega), Option.bind_some, wi_succ (by omega), small_l4 ns all h0 n (i + 1) _ (by omega) (by omega) (by simp; omega), List.drop_eq_getElem_cons hlt, List.map_cons, List.append_assoc]
      rfl
    · rw [bif_neg (dec_f (by omega)), List.drop_eq_nil_of_le (by omega)]
      simp
theorem n_Small {ns : List Int} {all : List (List UInt8)} (h0 : ns.length ≤ 40) (h1 : all.length ≤ 40) (ha : ∀ x ∈ all, x.length ≤ 300) : m_record_Small ns all = some (if (smV ns all).right = true then padS (smV ns all).enc 120 else ([], 2)) := by
  unfold m_record_Small
  show m_record_Small_l4 ns all (V.mk 3 0 [] []) (ns.length + 1) [] ((0 : Nat) : Int) = _
  rw [small_l4 ns all h0 _ 0 [] (by omega) (by omega) (by simp)]
  unfold m_record_Small_j1
  show m_record_Small_l3 all (V.mk 3 0 [] []) (all.length + 1) _ ((0 : Nat) : Int) = _
  rw [small_l3 all h1 _ 0 _ (by omega) (by omega) (by simp; omega)]
  unfold m_record_Small_j2
  show Option.bind (m_codec_Encode (smV ns all)) _ = _
  rw [n_Encode, Option.bind_some]
  by_cases h : (smV ns all).right = true
  · rw [if_pos h, if_pos h]
    show Option.bind (m_record_Pad (smV ns all).enc 120) _ = _
    have := sm_right h0 h1 ha (sm_num h)
    have hsz : (smV ns all).enc.length ≤ 1000000 := by
      rw [V.enc_length]
      show (listV (smI ns all)).sz ≤ _
      rw [sz_list]
      have h2 := szs_le (smI ns all) 304 (fun x hx => by
        rcases List.mem_append.1 hx with hx | hx
        · obtain ⟨n, hm, rfl⟩ := List.mem_map.1 hx
          have h3 := sm_num h n hm
          have := sz_num h3.1 h3.2
          omega
        · obtain ⟨s, hm, rfl⟩ := List.mem_map.1 hx
          have := ha s hm
          rw [sz_word]; omega)
      have : (smI ns all).length * 304 ≤ 80 * 304 := Nat.mul_le_mul_right _ (by rw [smI_length]; omega)
      omega
    rw [n_record_Pad _ _ hsz]
    rfl
  · rw [if_neg h, if_neg h]; rfl
theorem n_Numbers (ns : List Int) (h0 : ns.length ≤ 40) : TellsP (m_R35_Numbers ns) (∀ x ∈ ns, okN x) := by
  unfold m_R35_Numbers
  have h := loop_tells (len := ns.length) (m_R35_Numbers_l1 ns) (fun i => ∀ x, ns[i]? = some x → okN x) True (fun n i hi => by
    refine ⟨decide (okN ns[i]), ?_, ?_⟩
    · rw [decide_eq_true_eq]
      refine ⟨fun h x hx => ?_, fun h => h _ (List.getElem?_eq_getElem hi)⟩
      rw [List.getElem?_eq_getElem hi] at hx
      injection hx with hx
      rw [← hx]; exact h
    · rw [m_R35_Numbers_l1, bif_pos (dec_t (by omega)), idx_nat hi, Option.bind_some, Option.bind_some, wi_succ (by omega)]
      by_cases h1 : ns[i] < 0
      · rw [bif_pos (dec_t h1), bif_neg (dec_f (fun h => by have := h.1; omega))]
      · rw [bif_neg (dec_f h1)]
        by_cases h2 : ns[i] > 4611686018427387904
        · rw [bif_pos (dec_t h2), bif_neg (dec_f (fun h => by have := h.2; omega))]
        · have hk : okN ns[i] := ⟨by omega, by omega⟩
          rw [bif_neg (dec_f h2), dec_t hk]
          rfl) (fun n => by
    rw [m_R35_Numbers_l1, bif_neg (dec_f (by omega))]
    exact ⟨true, rfl, ⟨fun _ => trivial, fun _ => rfl⟩⟩) (ns.length + 1) 0 (by omega) (by omega)
  refine h.iff ⟨fun h x hx => ?_, fun h => ⟨fun j _ hj x hx => h x (List.mem_of_getElem? hx), trivial⟩⟩
  obtain ⟨i, hi, rfl⟩ := List.getElem_of_mem hx
  exact h.1 i (by omega) hi _ (List.getElem?_eq_getElem hi)
theorem rec_l3 (all : List (List UInt8)) (h1 : all.length ≤ 40) : ∀ (n i : Nat) (out : List V), i ≤ all.length → all.length - i < n → out.length ≤ 40 + i → m_R35_Record_l3 all n out (i : Int) = m_R35_Record_j2 (out ++ (all.drop i).map wordV)
  | 0, i, out, _, h, _ => by omega
  | n + 1, i, out, hi, h, ho => by
    unfold m_R35_Record_l3
    by_cases hlt : i < all.length
    · rw [bif_pos (dec_t (by omega)), idx_nat hlt, Option.bind_some]
      show Option.bind (appI 64 out [wordV all[i]]) _ = _
      rw [appI_ok (by simp; omega), Option.bind_some, wi_succ (by omega), rec_l3 all h1 n (i + 1) _ (by omega) (by omega) (by simp; omega), List.drop_eq_getElem_cons hlt, List.map_cons, List.append_assoc]
      rfl
    · rw [bif_neg (dec_f (by omega)), List.drop_eq_nil_of_le (by omega)]
      simp
theorem rec_l4 (ns : List Int) (all : List (List UInt8)) (h0 : ns.length ≤ 40) : ∀ (n i : Nat) (out : List V), i ≤ ns.length → ns.length - i < n → out.length ≤ i → m_R35_Record_l4 ns all n out (i : Int) = m_R35_Record_j1 all (out ++ (ns.drop i).map numV)
  | 0, i, out, _, h, _ => by omega
  | n + 1, i, out, hi, h, ho => by
    unfold m_R35_Record_l4
    by_cases hlt : i < ns.length
    · rw [bif_pos (dec_t (by omega)), idx_nat hlt, Option.bind_some]
      show Option.bind (appI 64 out [numV ns[i]]) _ = _
      rw [appI_ok (by simp; omega), Option.bind_some, wi_succ (by omega), rec_l4 ns all h0 n (i + 1) _ (by omega) (by omega) (by simp; omega), List.drop_eq_getElem_cons hlt, List.map_cons, List.append_assoc]
      rfl
    · rw [bif_neg (dec_f (by omega)), List.drop_eq_nil_of_le (by omega)]
      simp
theorem n_Record {ns : List Int} {all : List (List UInt8)} (h0 : ns.length ≤ 40) (h1 : all.length ≤ 40) (h : (smV ns all).right = true) : m_R35_Record ns all = some (smV ns all).enc := by
  unfold m_R35_Record
  show m_R35_Record_l4 ns all (ns.length + 1) [] ((0 : Nat) : Int) = _
  rw [rec_l4 ns all h0 _ 0 [] (by omega) (by omega) (by simp)]
  unfold m_R35_Record_j1
  show m_R35_Record_l3 all (all.length + 1) _ ((0 : Nat) : Int) = _
  rw [rec_l3 all h1 _ 0 _ (by omega) (by omega) (by simp; omega)]
  unfold m_R35_Record_j2
  show Option.bind (m_R02_Bytes (V.ht (smV ns all)) (smV ns all)) _ = _
  have hr := right_iff h
  rw [n_R02_Bytes _ _ (Nat.le_refl _) hr.1 hr.2.2]
  rfl

/-! ### Reading -/
def rdL (p : Nat) : List V → Nat → List Int → List (List UInt8) → List Int × List (List UInt8) × Int
  | [], i, a, m => (a, m, 0)
  | x :: r, i, a, m => if i < p then (if x.k = 1 then rdL p r (i + 1) (a ++ [x.n]) m else ([], [], 11)) else (if x.k = 2 then rdL p r (i + 1) a (m ++ [x.b]) else ([], [], 11))
theorem rd_l2 (x : V × Int) (p : Nat) (hp : p ≤ 100000) (hl : x.1.l.length ≤ 100000) : ∀ (n i : Nat) (a : List Int) (m : List (List UInt8)), i ≤ x.1.l.length → x.1.l.length - i < n → a.length ≤ i → m.length ≤ i → m_record_ReadSmall_l2 x (p : Int) n a m (i : Int) = some (rdL p (x.1.l.drop i) i a m)
  | 0, i, a, m, _, h, _, _ => by omega
  | n + 1, i, a, m, hi, h, ha, hm => by
    unfold m_record_ReadSmall_l2
    by_cases hlt : i < x.1.l.length
    · rw [bif_pos (dec_t (by omega)), idx_nat hlt, Option.bind_some, List.drop_eq_getElem_cons hlt, rdL]
      unfold m_record_ReadSmall_j3
      by_cases hip : i < p
      · rw [bif_pos (dec_t (by omega)), if_pos hip]
        by_cases hk : x.1.l[i].k = 1
        · rw [bif_pos (ieq_t hk), if_pos hk, appI_ok (by simp; omega), Option.bind_some, wi_succ (by omega), rd_l2 x p hp hl n (i + 1) _ _ (by omega) (by omega) (by simp; omega) (by omega)]
        · rw [bif_neg (ieq_f hk), if_neg hk, bif_neg (dec_f (by omega))]
      · rw [bif_neg (dec_f (by omega)), if_neg hip, bif_neg rfl, bif_pos (dec_t (by omega))]
        by_cases hk : x.1.l[i].k = 2
        · rw [bif_pos (ieq_t hk), if_pos hk, appI_ok (by simp; omega), Option.bind_some, wi_succ (by omega), rd_l2 x p hp hl n (i + 1) _ _ (by omega) (by omega) (by omega) (by simp; omega)]
        · rw [bif_neg (ieq_f hk), if_neg hk]
    · rw [bif_neg (dec_f (by omega)), List.drop_eq_nil_of_le (by omega)]
      rfl
theorem rdR_l2 (x : V × Int) (p : Nat) (hp : p ≤ 100000) (hl : x.1.l.length ≤ 100000) : ∀ (n i : Nat) (a : List Int) (m : List (List UInt8)), i ≤ x.1.l.length → x.1.l.length - i < n → a.length ≤ i → m.length ≤ i → m_R35_ReadSmall_l2 x (p : Int) n a m (i : Int) = some (rdL p (x.1.l.drop i) i a m)
  | 0, i, a, m, _, h, _, _ => by omega
  | n + 1, i, a, m, hi, h, ha, hm => by
    unfold m_R35_ReadSmall_l2
    by_cases hlt : i < x.1.l.length
    · rw [bif_pos (dec_t (by omega)), idx_nat hlt, List.drop_eq_getElem_cons hlt, rdL]
      unfold m_R35_ReadSmall_j3
      by_cases hip : i < p
      · rw [bif_pos (dec_t (by omega)), if_pos hip, Option.bind_some]
        by_cases hk : x.1.l[i].k = 1
        · rw [bif_neg (ine_f hk), if_pos hk, Option.bind_some, appI_ok (by simp; omega), Option.bind_some, wi_succ (by omega), rdR_l2 x p hp hl n (i + 1) _ _ (by omega) (by omega) (by simp; omega) (by omega)]
        · rw [bif_pos (ine_t hk), if_neg hk]
      · rw [bif_neg (dec_f (by omega)), if_neg hip, Option.bind_some]
        by_cases hk : x.1.l[i].k = 2
        · rw [bif_neg (ine_f hk), if_pos hk, Option.bind_some, appI_ok (by simp; omega), Option.bind_some, wi_succ (by omega), rdR_l2 x p hp hl n (i + 1) _ _ (by omega) (by omega) (by omega) (by simp; omega)]
        · rw [bif_pos (ine_t hk), if_neg hk]
    · rw [bif_neg (dec_f (by omega)), List.drop_eq_nil_of_le (by omega)]
      rfl
theorem rdL_bd (p : Nat) : ∀ (r : List V) (i : Nat) (a : List Int) (m : List (List UInt8)), (rdL p r i a m).1.length ≤ a.length + r.length ∧ (rdL p r i a m).2.1.length ≤ m.length + r.length ∧ ∀ y ∈ (rdL p r i a m).2.1, y ∈ m ∨ ∃ x ∈ r, y = x.b
  | [], i, a, m => ⟨Nat.le_add_right _ _, Nat.le_add_right _ _, fun y hy => .inl hy⟩
  | x :: r, i, a, m => by
    rw [rdL]
    split
    · split
      · obtain ⟨h1, h2, h3⟩ := rdL_bd p r (i + 1) (a ++ [x.n]) m
        refine ⟨by simp at h1 ⊢; omega, by simp; omega, fun y hy => (h3 y hy).imp id fun ⟨z, hz, e⟩ => ⟨z, List.mem_cons_of_mem _ hz, e⟩⟩
      · exact ⟨Nat.zero_le _, Nat.zero_le _, fun y hy => by cases hy⟩
    · split
      · obtain ⟨h1, h2, h3⟩ := rdL_bd p r (i + 1) a (m ++ [x.b])
        refine ⟨by simp; omega, by simp at h2 ⊢; omega, fun y hy => ?_⟩
        rcases h3 y hy with h | ⟨z, hz, e⟩
        · rcases List.mem_append.1 h with h | h
          · exact .inl h
          · exact .inr ⟨x, List.mem_cons_self, by simpa using h⟩
        · exact .inr ⟨z, List.mem_cons_of_mem _ hz, e⟩
      · exact ⟨Nat.zero_le _, Nat.zero_le _, fun y hy => by cases hy⟩
theorem rdL_words (p : Nat) : ∀ (all : List (List UInt8)) (i : Nat) (a : List Int) (m : List (List UInt8)), p ≤ i → rdL p (all.map wordV) i a m = (a, m ++ all, 0)
  | [], i, a, m, h => by simp [rdL]
  | s :: r, i, a, m, h => by
    rw [List.map_cons, rdL, if_neg (by omega), if_pos (by rfl), rdL_words p r (i + 1) _ _ (by omega)]
    simp [wordV, V.b]
theorem rdL_sm (all : List (List UInt8)) : ∀ (ns : List Int) (p i : Nat) (a : List Int), p = i + ns.length → rdL p (ns.map numV ++ all.map wordV) i a [] = (a ++ ns, all, 0)
  | [], p, i, a, h => by
    rw [List.map_nil, List.nil_append, rdL_words p all i a [] (by simp at h; omega)]
    simp
  | n :: r, p, i, a, h => by
    rw [List.map_cons, List.cons_append, rdL, if_pos (by rw [List.length_cons] at h; omega), if_pos (by rfl), rdL_sm all r p (i + 1) _ (by rw [List.length_cons] at h; omega)]
    simp [numV, V.n]
/-- What is read. -/
def readS (b : List UInt8) (p q : Nat) : List Int × List (List UInt8) × Int := if (unpadS b).2 ≠ 0 ∨ b.length ≠ 120 then ([], [], 11) else match decS (unpadS b).1 with
  | .error _ => ([], [], 11)
  | .ok v => if v.k ≠ 3 ∨ v.l.length ≠ p + q then ([], [], 11) else rdL p v.l 0 [] []
theorem dec_len {b : List UInt8} {v : V} (h : decS b = .ok v) (hk : v.k = 3) : v.l.length ≤ 4096 ∧ ∀ x ∈ v.l, x.b.length ≤ 1048576 := by
  obtain ⟨_, hp, _, hs⟩ := decS_ok h
  refine ⟨(pure_list hp hk).2, fun x hx => ?_⟩
  have h1 := sz_item hk hx
  have hf := V.rpure_flat (V.rpure_items hp hk x hx)
  by_cases h2 : x.k = 2
  · have := sz_bytes h2; omega
  · unfold V.flat at hf
    by_cases h3 : x.k = 1
    · rw [if_pos h3] at hf
      simp at hf
      rw [hf.1.2]; simp
    · obtain ⟨_, _, e, _⟩ := V.flat_kind (V.rpure_flat (V.rpure_items hp hk x hx)) h3 h2
      rw [e]; simp
theorem n_ReadSmall (b : List UInt8) (hb : b.length ≤ 2000) (p q : Nat) (hp : p ≤ 40) (hq : q ≤ 40) : m_record_ReadSmall b (p : Int) (q : Int) = some (readS b p q) := by
  unfold m_record_ReadSmall readS
  rw [n_record_Unpad b hb, Option.bind_some]
  by_cases h1 : (unpadS b).2 = 0
  case neg => rw [bif_pos (ine_t h1), if_pos (.inl h1)]
  rw [bif_neg (ine_f h1)]
  by_cases h2 : b.length = 120
  case neg => rw [bif_pos (ine_t (by omega)), if_pos (.inr h2)]
  rw [bif_neg (ine_f (by omega)), if_neg (by omega), n_Decode, Option.bind_some]
  unfold decA
  cases hd : decS (unpadS b).1 with
  | error e => 
    have := decS_err hd
    show (bif (e != 0) then _ else _) = _
    rw [bif_pos (ine_t (by omega))]
  | ok v =>
    show (bif ((0 : Int) != 0) then _ else _) = _
    rw [bif_neg (ine_f rfl)]
    show (bif (v.k != 3) then _ else _) = some (if _ then _ else _)
    by_cases hk : v.k = 3
    case neg => rw [bif_pos (ine_t hk), if_pos (.inl hk)]
    rw [bif_neg (ine_f hk), bif_neg (dec_f (by omega))]
    obtain ⟨hl, _⟩ := dec_len hd hk
    show (bif decide ((p : Int) > (v.l.length : Int)) then _ else bif (wi ((v.l.length : Int) - (p : Int)) != (q : Int)) then _ else _) = _
    rw [wi_id (by omega) (by omega)]
    by_cases hn : v.l.length = p + q
    · rw [bif_neg (dec_f (by omega)), bif_neg (ine_f (by omega)), if_neg (by omega)]
      exact rd_l2 (v, 0) p (by omega) (by show v.l.length ≤ _; omega) _ 0 [] [] (by omega) (by show v.l.length - 0 < v.l.length + 1; omega) (by simp) (by simp)
    · rw [if_pos (.inr hn)]
      by_cases hg : (p : Int) > (v.l.length : Int)
      · rw [bif_pos (dec_t hg)]
      · rw [bif_neg (dec_f hg), bif_pos (ine_t (by omega))]
theorem n_R35_ReadSmall (b : List UInt8) (p q : Nat) (hp : p ≤ 40) (hq : q ≤ 40) : m_R35_ReadSmall b (p : Int) (q : Int) = some (readS b p q) := by
  unfold m_R35_ReadSmall readS
  rw [n_R35_Unpad b, Option.bind_some]
  by_cases h1 : (unpadS b).2 = 0
  case neg => rw [bif_pos (ine_t h1), if_pos (.inl h1)]
  rw [bif_neg (ine_f h1)]
  by_cases h2 : b.length = 120
  case neg => rw [bif_pos (ine_t (by omega)), if_pos (.inr h2)]
  rw [bif_neg (ine_f (by omega)), if_neg (by omega), n_R02_Decode, Option.bind_some]
  unfold decA
  cases hd : decS (unpadS b).1 with
  | error e => 
    have := decS_err hd
    show (bif (e != 0) then _ else _) = _
    rw [bif_pos (ine_t (by omega))]
  | ok v =>
    show (bif ((0 : Int) != 0) then _ else _) = _
    rw [bif_neg (ine_f rfl)]
    show (bif (v.k != 3) then _ else _) = some (if _ then _ else _)
    by_cases hk : v.k = 3
    case neg => rw [bif_pos (ine_t hk), if_pos (.inl hk)]
    rw [bif_neg (ine_f hk), bif_neg (dec_f (by omega)), bif_neg (dec_f (by omega)), bif_neg (dec_f (by omega)), bif_neg (dec_f (by omega))]
    obtain ⟨hl, _⟩ := dec_len hd hk
    show (bif ((v.l.length : Int) != wi ((p : Int) + (q : Int))) then _ else _) = _
    rw [wi_id (by omega) (by omega)]
    by_cases hn : v.l.length = p + q
    · rw [bif_neg (ine_f (by omega)), if_neg (by omega)]
      exact rdR_l2 (v, 0) p (by omega) (by show v.l.length ≤ _; omega) _ 0 [] [] (by omega) (by show v.l.length - 0 < v.l.length + 1; omega) (by simp) (by simp)
    · rw [if_pos (.inr hn), bif_pos (ine_t (by omega))]
theorem readS_bd (b : List UInt8) (p q : Nat) : (readS b p q).1.length ≤ 5000 ∧ (readS b p q).2.1.length ≤ 5000 ∧ ∀ y ∈ (readS b p q).2.1, y.length ≤ 1048576 := by
  unfold readS
  split
  · exact ⟨by simp, by simp, fun y hy => by cases hy⟩
  · cases hd : decS (unpadS b).1 with
    | error e => exact ⟨by simp, by simp, fun y hy => by cases hy⟩
    | ok v =>
      show (if v.k ≠ 3 ∨ v.l.length ≠ p + q then (([], [], 11) : List Int × List (List UInt8) × Int) else rdL p v.l 0 [] []).1.length ≤ 5000 ∧ _
      by_cases hc : v.k ≠ 3 ∨ v.l.length ≠ p + q
      · show _ ∧ (if v.k ≠ 3 ∨ v.l.length ≠ p + q then (([], [], 11) : List Int × List (List UInt8) × Int) else rdL p v.l 0 [] []).2.1.length ≤ 5000 ∧ ∀ y ∈ (if v.k ≠ 3 ∨ v.l.length ≠ p + q then (([], [], 11) : List Int × List (List UInt8) × Int) else rdL p v.l 0 [] []).2.1, _
        rw [if_pos hc]
        exact ⟨by simp, by simp, fun y hy => by cases hy⟩
      · show _ ∧ (if v.k ≠ 3 ∨ v.l.length ≠ p + q then (([], [], 11) : List Int × List (List UInt8) × Int) else rdL p v.l 0 [] []).2.1.length ≤ 5000 ∧ ∀ y ∈ (if v.k ≠ 3 ∨ v.l.length ≠ p + q then (([], [], 11) : List Int × List (List UInt8) × Int) else rdL p v.l 0 [] []).2.1, _
        rw [if_neg hc]
        obtain ⟨hl, hx⟩ := dec_len hd (by omega)
        obtain ⟨h1, h2, h3⟩ := rdL_bd p v.l 0 [] []
        simp only [List.length_nil] at h1 h2
        refine ⟨by omega, by omega, fun y hy => ?_⟩
        rcases h3 y hy with h | ⟨x, hx', rfl⟩
        · cases h
        · exact hx x hx'
theorem readS_small {ns : List Int} {all : List (List UInt8)} (h : (smV ns all).right = true) (hl : (smV ns all).enc.length + 2 ≤ 120) : readS (padB (smV ns all).enc 120) ns.length all.length = (ns, all, 0) := by
  unfold readS
  rw [unpad_pad (.inl rfl) hl, padB_length hl, if_neg (by simp)]
  show (match decS (smV ns all).enc with
  | .error _ => ([], [], 11)
  | .ok v => if v.k ≠ 3 ∨ v.l.length ≠ ns.length + all.length then ([], [], 11) else rdL ns.length v.l 0 [] []) = _
  rw [decS_enc (right_iff h)]
  show (if (3 : Int) ≠ 3 ∨ (smI ns all).length ≠ ns.length + all.length then _ else rdL ns.length (smI ns all) 0 [] []) = _
  rw [if_neg (by rw [smI_length]; simp)]
  exact rdL_sm all ns ns.length 0 [] (by omega)

/-! ### The law -/
theorem n_Ints (a b : List Int) (hb : a.length < 4611686018427387904) : TellsP (m_R01_Ints a b) (a = b) := by
  unfold m_R01_Ints
  by_cases hl : a.length = b.length
  · rw [bif_neg (ine_f (by omega))]
    obtain ⟨r, h1, h2⟩ := pair_loop a b hl hb (fun x y => some (x == y)) (m_R01_Ints_l1 a b) (fun n z => by
      rw [m_R01_Ints_l1]
      rfl) (fun x _ y => ⟨_, rfl, beq_iff_eq⟩) (a.length + 1) 0 (by omega) (by omega)
    exact ⟨r, h1, by simpa using h2⟩
  · rw [bif_pos (ine_t (by omega))]
    exact ⟨false, rfl, ⟨fun h => Bool.noConfusion h, fun h => absurd (congrArg List.length h) hl⟩⟩
theorem n_same (a b : List (List UInt8)) (hb : a.length < 4611686018427387904) (hx : ∀ x ∈ a, x.length < 4611686018427387904) : TellsP (m_L35_same a b) (a = b) := by
  unfold m_L35_same
  by_cases hl : a.length = b.length
  · rw [bif_neg (ine_f (by omega))]
    obtain ⟨r, h1, h2⟩ := pair_loop a b hl hb (fun x y => m_R01_Same x y) (m_L35_same_l1 a b) (fun n z => by
      rw [m_L35_same_l1]) (fun x hm y => ⟨_, n_R01_Same x y (hx x hm), beq_iff_eq⟩) (a.length + 1) 0 (by omega) (by omega)
    exact ⟨r, h1, by simpa using h2⟩
  · rw [bif_pos (ine_t (by omega))]
    exact ⟨false, rfl, ⟨fun h => Bool.noConfusion h, fun h => absurd (congrArg List.length h) hl⟩⟩
theorem law_j3 (b : List UInt8) (hb : b.length ≤ 2000) (ns : List Int) (all : List (List UInt8)) (h0 : ns.length ≤ 40) (h1 : all.length ≤ 40) : m_L35_RecordSmall_j3 b ns all = some true := by
  unfold m_L35_RecordSmall_j3
  rw [n_ReadSmall b hb _ _ h0 h1, Option.bind_some, n_R35_ReadSmall b _ _ h0 h1, Option.bind_some, bif_pos (ieq_t rfl)]
  obtain ⟨k1, k2, k3⟩ := readS_bd b ns.length all.length
  rw [(n_Ints _ _ (by omega)).yes rfl, Option.bind_some, bif_pos rfl, (n_same _ _ (by omega) (fun x hx => by have := k3 x hx; omega)).yes rfl]
  rfl
theorem law_j2 (x : List UInt8 × Int) (ns : List Int) (all : List (List UInt8)) (b : List UInt8) (hb : b.length ≤ 2000) (h0 : ns.length ≤ 40) (h1 : all.length ≤ 40) (ha : ∀ x ∈ all, x.length ≤ 300) (hx : x.2 = 0 → (smV ns all).right = true ∧ (smV ns all).enc.length + 2 ≤ 120 ∧ x.1 = padB (smV ns all).enc 120) : m_L35_RecordSmall_j2 x ns all b = some true := by
  unfold m_L35_RecordSmall_j2
  by_cases h : x.2 = 0
  · obtain ⟨hr, hl, e⟩ := hx h
    rw [bif_pos (ieq_t h), e, n_ReadSmall _ (by rw [padB_length hl]; omega) _ _ h0 h1, Option.bind_some, readS_small hr hl, bif_neg (ine_f rfl)]
    show Option.bind (m_R01_Ints ns ns) _ = _
    rw [(n_Ints ns ns (by omega)).yes rfl, Option.bind_some, bif_neg (c := !true) rfl]
    show Option.bind (m_L35_same all all) _ = _
    rw [(n_same all all (by omega) (fun x hx => by have := ha x hx; omega)).yes rfl, Option.bind_some, bif_neg (c := !true) rfl]
    exact law_j3 b hb ns all h0 h1
  · rw [bif_neg (ieq_f h)]
    exact law_j3 b hb ns all h0 h1
theorem law_j1 (ns : List Int) (all : List (List UInt8)) (b : List UInt8) (hb : b.length ≤ 2000) (h0 : ns.length ≤ 40) (h1 : all.length ≤ 40) (ha : ∀ x ∈ all, x.length ≤ 300) : m_L35_RecordSmall_j1 ns all b = some true := by
  unfold m_L35_RecordSmall_j1
  rw [n_Small h0 h1 ha, Option.bind_some]
  by_cases hn : ∀ x ∈ ns, okN x
  · have hr := right_of (sm_right h0 h1 ha hn)
    rw [(n_Numbers ns h0).yes hn, Option.bind_some, bif_neg (c := !true) rfl, if_pos hr, n_Record h0 h1 hr, Option.bind_some]
    have hsz : (smV ns all).enc.length ≤ 1000000 := by
      rw [V.enc_length]
      show (listV (smI ns all)).sz ≤ _
      rw [sz_list]
      have h2 := szs_le (smI ns all) 304 (fun x hx => by
        rcases List.mem_append.1 hx with hx | hx
        · obtain ⟨n, hm, rfl⟩ := List.mem_map.1 hx
          have h3 := hn n hm
          have := sz_num h3.1 h3.2
          omega
        · obtain ⟨s, hm, rfl⟩ := List.mem_map.1 hx
          have := ha s hm
          rw [sz_word]; omega)
      have : (smI ns all).length * 304 ≤ 80 * 304 := Nat.mul_le_mul_right _ (by rw [smI_length]; omega)
      omega
    rw [n_R35_Pad _ _ hsz, Option.bind_some, bif_neg (ine_f rfl)]
    have hcase : (padS (smV ns all).enc 120).2 = 0 → (smV ns all).enc.length + 2 ≤ 120 ∧ (padS (smV ns all).enc 120).1 = padB (smV ns all).enc 120 := by
      intro h
      unfold padS at h ⊢
      rw [if_neg (by omega)] at h ⊢
      split at h
      · cases h
      · rename_i h2
        rw [if_neg h2]
        exact ⟨by omega, rfl⟩
    have hlen : (padS (smV ns all).enc 120).1.length < 4611686018427387904 := by
      by_cases h : (padS (smV ns all).enc 120).2 = 0
      · obtain ⟨h2, e⟩ := hcase h
        rw [e, padB_length h2]; omega
      · unfold padS at h ⊢
        rw [if_neg (by omega)] at h ⊢
        split
        · simp
        · rename_i h2
          rw [if_neg h2] at h
          exact absurd rfl h
    rw [n_R01_Same _ _ hlen, Option.bind_some, beq_self_eq_true, bif_neg (c := !true) rfl]
    exact law_j2 _ ns all b hb h0 h1 ha fun h => ⟨hr, hcase h⟩
  · have hr : ¬ (smV ns all).right = true := fun h => hn (sm_num h)
    rw [(n_Numbers ns h0).no hn, Option.bind_some, bif_pos (c := !false) rfl, if_neg hr, bif_neg (ine_f rfl), bif_neg (dec_f (by simp))]
    exact law_j2 _ ns all b hb h0 h1 ha fun h => by cases h
theorem n_RecordSmall (ns : List Int) (all : List (List UInt8)) (b : List UInt8) : m_L35_RecordSmall ns all b = some true := by
  unfold m_L35_RecordSmall
  rw [n_awake, Option.bind_some, bif_neg (c := !true) rfl]
  by_cases h0 : ns.length ≤ 40
  case neg => rw [bif_pos (dec_t (by omega))]
  rw [bif_neg (dec_f (by omega))]
  by_cases h1 : all.length ≤ 40
  case neg => rw [bif_pos (dec_t (by omega))]
  rw [bif_neg (dec_f (by omega))]
  by_cases hb : b.length ≤ 2000
  case neg => rw [bif_pos (dec_t (by omega))]
  rw [bif_neg (dec_f (by omega))]
  have h := loop_then (len := all.length) (m_L35_RecordSmall_l4 all ns b) (fun i => ∀ x, all[i]? = some x → x.length ≤ 300) (m_L35_RecordSmall_j1 ns all b) (some true) (fun n i hi => by
    rw [m_L35_RecordSmall_l4, bif_pos (dec_t (by omega)), idx_nat hi, Option.bind_some, wi_succ (by omega)]
    by_cases hx : all[i].length ≤ 300
    · rw [bif_neg (dec_f (by omega))]
      exact ⟨fun _ => rfl, fun h => absurd (fun x hq => by
        rw [List.getElem?_eq_getElem hi] at hq
        injection hq with hq
        rw [← hq]; exact hx) h⟩
    · rw [bif_pos (dec_t (by omega))]
      exact ⟨fun h => absurd (h _ (List.getElem?_eq_getElem hi)) hx, fun _ => rfl⟩) (fun n => by
    rw [m_L35_RecordSmall_l4, bif_neg (dec_f (by omega))]) (all.length + 1) 0 (by omega) (by omega)
  show m_L35_RecordSmall_l4 all ns b (all.length + 1) ((0 : Nat) : Int) = _
  by_cases hc : ∀ j, 0 ≤ j → j < all.length → ∀ x, all[j]? = some x → x.length ≤ 300
  · rw [h.1 hc]
    refine law_j1 ns all b hb h0 h1 fun x hx => ?_
    obtain ⟨i, hi, rfl⟩ := List.getElem_of_mem hx
    exact hc i (by omega) hi _ (List.getElem?_eq_getElem hi)
  · exact h.2 hc
end Go.Proofs.YteopjhakjeknaaaDoor
