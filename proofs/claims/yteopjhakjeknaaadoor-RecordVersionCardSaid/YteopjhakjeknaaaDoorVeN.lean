/-
  Texts joined: see the remarks at the head of each part.
-/
import Derived.Test.YteopjhakjeknaaaDoorVeM
import Derived.Test.YteopjhakjeknaaaDoorR2N
import Derived.Test.YteopjhakjeknaaaDoorVv
import Derived.Test.YteopjhakjeknaaaDoorNam
/-
  What the models of padding compute, plain; and the law.
-/
namespace Go.Proofs.YteopjhakjeknaaaDoor
open Go Go.RowKit
set_option linter.unusedVariables false
set_option linter.unusedSimpArgs false

theorem apzI_ok {nb m : Nat} {n : Int} {k : Nat} (hn : n = k) (h : (m + k) * nb ≤ 140737488355328) : apzI nb m n = some k := by
  subst hn
  unfold apzI
  rw [if_pos ⟨by omega, by simpa using h⟩]
  rfl
/-- A padded blob. -/
def padB (b : List UInt8) (k : Nat) : List UInt8 := be 2 b.length ++ b ++ List.replicate (k - 2 - b.length) 0
def padS (b : List UInt8) (z : Int) : List UInt8 × Int := if z ≠ 120 ∧ z ≠ 1020 then ([], 2) else if (b.length : Int) > z - 2 then ([], 3) else (padB b z.toNat, 0)
theorem padB_length {b : List UInt8} {k : Nat} (h : b.length + 2 ≤ k) : (padB b k).length = k := by
  unfold padB
  rw [List.length_append, List.length_append, be_length, List.length_replicate]
  omega
theorem be2 {n : Nat} : be 2 n = [UInt8.ofNat (n / 256 % 256), UInt8.ofNat (n % 256)] := by
  rw [be_succ, be_succ]
  simp
  rfl
theorem n_sized (z : Int) : m_record_sized z = some (decide (z = 120 ∨ z = 1020)) := by
  unfold m_record_sized
  by_cases h : z = 120
  · subst h; rfl
  · rw [ieq_f h]
    by_cases h2 : z = 1020
    · subst h2; rfl
    · rw [ieq_f h2, dec_f (by omega)]; rfl
theorem n_record_Pad (b : List UInt8) (z : Int) (hb : b.length ≤ 1000000) : m_record_Pad b z = some (padS b z) := by
  unfold m_record_Pad padS
  rw [n_sized]
  show (bif !(decide (z = 120 ∨ z = 1020)) then _ else _) = _
  by_cases hz : z = 120 ∨ z = 1020
  · rw [dec_t hz, if_neg (by omega)]
    show (bif decide (((b.length : Int)) > wi (z - 2)) then _ else _) = _
    rw [wi_id (z := z - 2) (by omega) (by omega)]
    by_cases hl : (b.length : Int) > z - 2
    · rw [dec_t hl, if_pos hl]; rfl
    · rw [dec_f hl, if_neg hl]
      show Option.bind (m_word_Put (b.length : Int) 2) _ = _
      rw [n_wput2 (by omega)]
      show Option.bind (appI 1 (be 2 b.length) b) _ = _
      rw [appI_ok (by rw [be_length]; omega)]
      show Option.bind (apzI 1 (be 2 b.length ++ b).length (wi (z - 2 - (b.length : Int)))) _ = _
      rw [wi_id (by omega) (by omega), apzI_ok (k := z.toNat - 2 - b.length) (by omega) (by rw [List.length_append, be_length]; omega)]
      rfl
  · rw [dec_f hz, if_pos (by omega)]; rfl
theorem n_R35_Pad_l3 (z : Int) (k : Nat) (hz : z = k) (hk : k ≤ 100000) : ∀ (n : Nat) (o : List UInt8), o.length ≤ k → k - o.length < n → m_R35_Pad_l3 z n o = some (o ++ List.replicate (k - o.length) 0, 0)
  | 0, o, _, h => by omega
  | n + 1, o, ho, h => by
    unfold m_R35_Pad_l3
    by_cases hlt : o.length < k
    · rw [dec_t (by omega)]
      show Option.bind (appI 1 o [0]) _ = _
      rw [appI_ok (by simp; omega)]
      show m_R35_Pad_l3 z n (o ++ [0]) = _
      rw [n_R35_Pad_l3 z k hz hk n (o ++ [0]) (by simp; omega) (by simp; omega), List.append_assoc, List.length_append, List.length_singleton, show k - o.length = (k - (o.length + 1)) + 1 by omega, List.replicate_succ]
      rfl
    · rw [dec_f (by omega), show k - o.length = 0 by omega]
      show m_R35_Pad_j2 o = _
      unfold m_R35_Pad_j2
      simp
theorem n_R35_Pad_j1 (b : List UInt8) (z : Int) (hb : b.length ≤ 1000000) (hz : z = 120 ∨ z = 1020) : m_R35_Pad_j1 b z = some (padS b z) := by
  unfold m_R35_Pad_j1 padS
  rw [if_neg (by omega)]
  rw [wi_id (z := z - 2) (by omega) (by omega)]
  by_cases hl : (b.length : Int) > z - 2
  · rw [dec_t hl, if_pos hl]; rfl
  · rw [dec_f hl, if_neg hl]
    have hd : Int.tdiv (b.length : Int) 256 = ((b.length / 256 : Nat) : Int) := rfl
    have hm : Int.tmod (b.length : Int) 256 = ((b.length % 256 : Nat) : Int) := rfl
    rw [hd, hm, wi_id (by omega) (by omega), U8_nat (by omega), U8_nat (by omega)]
    have h2 : be 2 b.length = [UInt8.ofNat (b.length / 256), UInt8.ofNat (b.length % 256)] := by
      rw [be2, Nat.mod_eq_of_lt (a := b.length / 256) (by omega)]
    rw [← h2]
    show Option.bind (appI 1 (be 2 b.length) b) _ = _
    rw [appI_ok (by rw [be_length]; omega)]
    show m_R35_Pad_l3 z (Int.toNat z + 1) (be 2 b.length ++ b) = _
    rw [n_R35_Pad_l3 z z.toNat (by omega) (by omega) _ _ (by rw [List.length_append, be_length]; omega) (by omega), List.length_append, be_length]
    unfold padB
    rw [show z.toNat - (2 + b.length) = z.toNat - 2 - b.length by omega]
theorem n_R35_Pad (b : List UInt8) (z : Int) (hb : b.length ≤ 1000000) : m_R35_Pad b z = some (padS b z) := by
  unfold m_R35_Pad
  by_cases h1 : z = 120
  · rw [ine_f h1]
    exact n_R35_Pad_j1 b z hb (.inl h1)
  · rw [ine_t h1]
    by_cases h2 : z = 1020
    · rw [ine_f h2]
      exact n_R35_Pad_j1 b z hb (.inr h2)
    · rw [ine_t h2]
      unfold padS
      rw [if_pos ⟨h1, h2⟩]
      rfl

/-! ### Unpad -/
def unpadS (b : List UInt8) : List UInt8 × Int := if b.length ≠ 120 ∧ b.length ≠ 1020 then ([], 11) else if ofBE (b.take 2) > b.length - 2 ∨ b.drop (2 + ofBE (b.take 2)) ≠ List.replicate (b.length - (2 + ofBE (b.take 2))) 0 then ([], 11) else ((b.drop 2).take (ofBE (b.take 2)), 0)
theorem n_IndexFunc (l : List UInt8) (hl : l.length ≤ 100000) : ∀ (n i : Nat), i ≤ l.length → l.length - i < n → ∃ z : Int, m_slices_IndexFunc_byte_l1 l m_record_Unpad_c1 n (i : Int) = some z ∧ (0 ≤ z ↔ ¬ l.drop i = List.replicate (l.length - i) 0)
  | 0, i, _, h => by omega
  | n + 1, i, hi, h => by
    unfold m_slices_IndexFunc_byte_l1
    by_cases hlt : i < l.length
    · rw [dec_t (by omega)]
      show ∃ z : Int, Option.bind (idx l (i : Int)) _ = some z ∧ _
      rw [idx_nat hlt]
      have hd : l.drop i = l[i] :: l.drop (i + 1) := List.drop_eq_getElem_cons hlt
      rw [hd, show l.length - i = (l.length - (i + 1)) + 1 by omega, List.replicate_succ]
      by_cases hc : l[i] = 0
      · obtain ⟨z, h1, h2⟩ := n_IndexFunc l hl n (i + 1) (by omega) (by omega)
        refine ⟨z, ?_, ?_⟩
        · show (bif ((l[i].toNat : Int) != 0) then _ else _) = _
          rw [hc]
          show m_slices_IndexFunc_byte_l1 l m_record_Unpad_c1 n (wi ((i : Int) + 1)) = _
          rw [wi_succ (by omega)]
          exact h1
        · rw [h2, hc]
          simp
      · refine ⟨(i : Int), ?_, ?_⟩
        · show (bif ((l[i].toNat : Int) != 0) then _ else _) = _
          have : ((l[i].toNat : Int) != 0) = true := ine_t (by
            intro e
            apply hc
            have e : l[i].toNat = 0 := by omega
            exact UInt8.toNat_inj.1 e)
          rw [this]
          rfl
        · constructor
          · intro _ e
            injection e with e _
            exact hc e
          · intro _; omega
    · rw [dec_f (by omega)]
      refine ⟨-1, rfl, ?_⟩
      rw [show i = l.length by omega]
      simp
theorem ofBE2 {b : List UInt8} (h : 2 ≤ b.length) : ofBE (b.take 2) = b[0].toNat * 256 + b[1].toNat ∧ ofBE (b.take 2) < 65536 := by
  refine ⟨?_, ofBE_lt 2 _ (by rw [List.length_take]; omega)⟩
  match b, h with
  | x :: y :: r, _ => simp [ofBE]
theorem n_record_Unpad (b : List UInt8) (hb : b.length ≤ 2000) : m_record_Unpad b = some (unpadS b) := by
  unfold m_record_Unpad unpadS
  rw [n_sized]
  show (bif !(decide ((b.length : Int) = 120 ∨ (b.length : Int) = 1020)) then _ else _) = _
  by_cases hz : b.length = 120 ∨ b.length = 1020
  · rw [dec_t (by omega), if_neg (by omega)]
    obtain ⟨_, hlt⟩ := ofBE2 (b := b) (by omega)
    show Option.bind (cutI b 0 2) _ = _
    rw [show (2 : Int) = ((2 : Nat) : Int) from rfl, cutI_take (by omega)]
    show Option.bind (m_word_Get (b.take 2)) _ = _
    rw [n_Get]
    have hl2 : (b.take 2).length = 2 := by rw [List.length_take]; omega
    have hg : getN (b.take 2) = (ofBE (b.take 2) : Int) := by
      unfold getN
      rw [if_neg (by omega)]
    show (bif decide (getN (b.take 2) > wi ((b.length : Int) - 2)) then _ else _) = _
    rw [hg, wi_id (z := (b.length : Int) - 2) (by omega) (by omega)]
    generalize ofBE (b.take 2) = n at *
    by_cases hn : n > b.length - 2
    · rw [dec_t (by omega), if_pos (.inl hn)]; rfl
    · rw [dec_f (by omega)]
      show Option.bind (cutI b (wi (2 + (n : Int))) (b.length : Int)) _ = _
      have h2 : wi (2 + (n : Int)) = ((2 + n : Nat) : Int) := by rw [wi_id (by omega) (by omega)]; omega
      rw [h2, cutI_drop (by omega)]
      show Option.bind (m_slices_ContainsFunc_byte (b.drop (2 + n)) m_record_Unpad_c1) _ = _
      unfold m_slices_ContainsFunc_byte m_slices_IndexFunc_byte
      obtain ⟨z, h3, h4⟩ := n_IndexFunc (b.drop (2 + n)) (by rw [List.length_drop]; omega) ((b.drop (2 + n)).length + 1) 0 (by omega) (by omega)
      rw [show ((0 : Nat) : Int) = 0 from rfl] at h3
      rw [h3]
      rw [List.drop_zero, Nat.sub_zero, List.length_drop] at h4
      show (bif decide (z ≥ 0) then _ else _) = _
      by_cases hq : b.drop (2 + n) = List.replicate (b.length - (2 + n)) 0
      · rw [dec_f (fun h => (h4.1 h) hq), if_neg (by intro h; rcases h with h | h; exact hn h; exact h hq)]
        show Option.bind (cutI b 2 (wi (2 + (n : Int)))) _ = _
        rw [h2, show (2 : Int) = ((2 : Nat) : Int) from rfl, cutI_mid (lo := 2) (n := n) (by omega) _ rfl]
        show Option.bind (m_slices_Clone_byte ((b.drop 2).take n)) _ = _
        unfold m_slices_Clone_byte
        rw [appI_ok (by rw [List.length_take, List.length_drop, List.length_nil]; omega)]
        rfl
      · rw [dec_t (h4.2 hq), if_pos (.inr hq)]; rfl
  · rw [dec_f (by omega), if_pos (by omega)]; rfl
theorem two_bytes (x y : Nat) (hx : x < 256) (hy : y < 256) : wi (wi (256 * (x : Int)) + (y : Int)) = ((x * 256 + y : Nat) : Int) := by
  rw [wi_id (z := 256 * (x : Int)) (by omega) (by omega), wi_id (by omega) (by omega)]; omega
theorem n_R35_Unpad_j1 (b : List UInt8) (hz : b.length = 120 ∨ b.length = 1020) : m_R35_Unpad_j1 b = some (unpadS b) := by
  unfold m_R35_Unpad_j1 unpadS
  rw [if_neg (by omega)]
  obtain ⟨hv, hlt⟩ := ofBE2 (b := b) (by omega)
  rw [show (0 : Int) = ((0 : Nat) : Int) from rfl, idx_nat (by omega)]
  show Option.bind (idx b 1) _ = _
  rw [show (1 : Int) = ((1 : Nat) : Int) from rfl, idx_nat (by omega)]
  have hbe : be 2 (ofBE (b.take 2)) = b.take 2 := be_ofBE 2 _ (by rw [List.length_take]; omega)
  have b0 := b[0].toNat_lt
  have b1 := b[1].toNat_lt
  simp only [Option.bind_some]
  rw [two_bytes _ _ b0 b1, ← hv, wi_id (z := (b.length : Int) - 2) (by omega) (by omega)]
  clear hv
  generalize ofBE (b.take 2) = n at *
  by_cases hn : n > b.length - 2
  · rw [dec_t (by omega), if_pos (.inl hn)]; rfl
  · rw [dec_f (by omega)]
    have h2 : wi (2 + (n : Int)) = ((2 + n : Nat) : Int) := by rw [wi_id (by omega) (by omega)]; omega
    show Option.bind (cutI b 2 (wi (2 + (n : Int)))) _ = _
    rw [h2, show (2 : Int) = ((2 : Nat) : Int) from rfl, cutI_mid (lo := 2) (n := n) (by omega) _ rfl]
    have hxl : ((b.drop 2).take n).length = n := by rw [List.length_take, List.length_drop]; omega
    show Option.bind (m_R35_Pad ((b.drop 2).take n) (b.length : Int)) _ = _
    rw [n_R35_Pad _ _ (by omega)]
    have hp : padS ((b.drop 2).take n) (b.length : Int) = (padB ((b.drop 2).take n) b.length, 0) := by
      unfold padS
      rw [if_neg (by omega), if_neg (by rw [hxl]; omega)]
      rfl
    rw [hp]
    show Option.bind (m_R01_Same (padB ((b.drop 2).take n) b.length) b) _ = _
    rw [n_R01_Same _ _ (by rw [padB_length (by omega)]; omega)]
    have hiff : (padB ((b.drop 2).take n) b.length = b) ↔ b.drop (2 + n) = List.replicate (b.length - (2 + n)) 0 := by
      unfold padB
      rw [hxl, hbe, show b.length - 2 - n = b.length - (2 + n) by omega]
      have hsplit : b = b.take 2 ++ (b.drop 2).take n ++ b.drop (2 + n) := by
        conv => lhs; rw [← List.take_append_drop 2 b, ← List.take_append_drop n (b.drop 2), List.drop_drop, ← List.append_assoc]
      constructor
      · intro h
        exact (List.append_cancel_left (h.trans hsplit)).symm
      · intro h
        rw [← h]
        exact hsplit.symm
    show (bif !(padB ((b.drop 2).take n) b.length == b) then _ else _) = _
    by_cases hq : b.drop (2 + n) = List.replicate (b.length - (2 + n)) 0
    · rw [if_neg (by intro h; rcases h with h | h; exact hn h; exact h hq), show (padB ((b.drop 2).take n) b.length == b) = true from beq_iff_eq.2 (hiff.2 hq)]
      rfl
    · rw [if_pos (.inr hq), show (padB ((b.drop 2).take n) b.length == b) = false from by
        rw [beq_eq_false_iff_ne]; exact fun h => hq (hiff.1 h)]
      rfl
theorem n_R35_Unpad (b : List UInt8) : m_R35_Unpad b = some (unpadS b) := by
  unfold m_R35_Unpad
  by_cases h1 : b.length = 120
  · rw [ine_f (by omega)]
    exact n_R35_Unpad_j1 b (.inl h1)
  · rw [ine_t (by omega)]
    by_cases h2 : b.length = 1020
    · rw [ine_f (by omega)]
      exact n_R35_Unpad_j1 b (.inr h2)
    · rw [ine_t (by omega)]
      unfold unpadS
      rw [if_pos ⟨h1, h2⟩]
      rfl
theorem unpad_pad {b : List UInt8} {k : Nat} (hk : k = 120 ∨ k = 1020) (hb : b.length + 2 ≤ k) : unpadS (padB b k) = (b, 0) := by
  have hl := padB_length hb
  have ht : (padB b k).take 2 = be 2 b.length := by
    unfold padB
    rw [List.append_assoc, List.take_append_of_le_length (by rw [be_length]; omega), List.take_of_length_le (by rw [be_length]; omega)]
  have hd : (padB b k).drop 2 = b ++ List.replicate (k - 2 - b.length) 0 := by
    unfold padB
    rw [List.append_assoc, List.drop_append_of_le_length (by rw [be_length]; omega), List.drop_of_length_le (by rw [be_length]; omega), List.nil_append]
  have hn : ofBE (be 2 b.length) = b.length := by rw [ofBE_be, Nat.mod_eq_of_lt (by omega)]
  unfold unpadS
  rw [hl, ht, hn, if_neg (by omega), if_neg, hd, List.take_append_of_le_length (Nat.le_refl _), List.take_length]
  intro h
  rcases h with h | h
  · omega
  · apply h
    rw [← List.drop_drop, hd, List.drop_append_of_le_length (Nat.le_refl _), List.drop_length, List.nil_append]
    congr 1
    omega

/-! ### The law -/
theorem n_awake : m_L35_awake = some true := by kernel_rfl
theorem n_RecordBlobs (b : List UInt8) (z : Int) : m_L35_RecordBlobs b z = some true := by
  unfold m_L35_RecordBlobs
  rw [n_awake]
  show (bif decide ((b.length : Int) > 2000) then _ else _) = _
  by_cases hb : b.length ≤ 2000
  · rw [dec_f (by omega)]
    show Option.bind (m_record_Pad b z) _ = _
    rw [n_record_Pad b z (by omega)]
    show Option.bind (m_R35_Pad b z) _ = _
    rw [n_R35_Pad b z (by omega)]
    show (bif ((padS b z).2 != (padS b z).2) then _ else _) = _
    rw [ine_f rfl]
    have hj : m_L35_RecordBlobs_j1 b = some true := by
      unfold m_L35_RecordBlobs_j1
      rw [n_record_Unpad b hb]
      show Option.bind (m_R35_Unpad b) _ = _
      rw [n_R35_Unpad]
      show (bif ((unpadS b).2 == (unpadS b).2) then _ else _) = _
      rw [ieq_t rfl]
      show Option.bind (m_R01_Same (unpadS b).1 (unpadS b).1) _ = _
      rw [n_R01_Same]
      · show some ((unpadS b).1 == (unpadS b).1) = _
        rw [beq_self_eq_true]
      · unfold unpadS
        split
        · show (0 : Nat) < _; omega
        · split
          · show (0 : Nat) < _; omega
          · show ((b.drop 2).take _).length < _
            rw [List.length_take, List.length_drop]; omega
    show Option.bind (m_R01_Same (padS b z).1 (padS b z).1) _ = _
    have hpl : (padS b z).1.length < 4611686018427387904 := by
      unfold padS
      split
      · show (0 : Nat) < _; omega
      · split
        · show (0 : Nat) < _; omega
        · show (padB b z.toNat).length < _
          rw [padB_length (by omega)]; omega
    rw [n_R01_Same _ _ hpl]
    show (bif !((padS b z).1 == (padS b z).1) then _ else _) = _
    rw [beq_self_eq_true]
    show (bif ((padS b z).2 == 0) then _ else _) = _
    by_cases h0 : (padS b z).2 = 0
    · rw [ieq_t h0]
      have hp : padS b z = (padB b z.toNat, 0) ∧ (z = 120 ∨ z = 1020) ∧ (b.length : Int) ≤ z - 2 := by
        unfold padS at h0 ⊢
        split at h0
        · cases h0
        · split at h0
          · cases h0
          · rename_i h1 h2
            rw [if_neg h1, if_neg h2]
            exact ⟨rfl, by omega, by omega⟩
      obtain ⟨hp, hz, hl⟩ := hp
      rw [hp]
      show Option.bind (m_record_Unpad (padB b z.toNat)) _ = _
      rw [n_record_Unpad _ (by rw [padB_length (by omega)]; omega), unpad_pad (by omega) (by omega)]
      show Option.bind (m_R01_Same b b) _ = _
      rw [n_R01_Same _ _ (by omega)]
      show (bif !(b == b) then _ else _) = _
      rw [beq_self_eq_true]
      exact hj
    · rw [ieq_f h0]
      exact hj
  · rw [dec_t (by omega)]; rfl
end Go.Proofs.YteopjhakjeknaaaDoor

/-
  What the models of versions' records compute, plain; and the law.
-/
namespace Go.Proofs.YteopjhakjeknaaaDoor
open Go Go.RowKit
set_option linter.unusedVariables false
set_option linter.unusedSimpArgs false
set_option maxRecDepth 20000

theorem right_ofV {v : V} (h : v.rpure = true ∧ v.deep ≤ 16 ∧ v.sz ≤ 1048576) : v.right = true := by
  unfold V.right
  simpa [and_assoc] using h
theorem some_condV {α : Type} (c : Bool) (a b : α) : cond c (some a) (some b) = some (cond c a b) := by cases c <;> rfl
structure ShortV (r : S_api_VersionRecord) : Prop where
  folder : r.Folder.length ≤ 100000
  item : r.Item.length ≤ 100000
  by_ : r.By.length ≤ 100000
  digest : r.Digest.length ≤ 100000
  lock : r.Lock.length ≤ 100000
  body : r.Body.length ≤ 100000
def MayV (r : S_api_VersionRecord) : Prop := NameP r.Folder ∧ NameP r.Item ∧ NameP r.By ∧ (1 ≤ r.Number ∧ r.Number ≤ 256) ∧ (1 ≤ r.Epoch ∧ r.Epoch ≤ 1099511627776) ∧ (1 ≤ r.Seq ∧ r.Seq ≤ 1099511627776) ∧ (1 ≤ r.Digest.length ∧ r.Digest.length ≤ 64) ∧
  ((r.Gone = true ∧ r.Lock.length = 0 ∧ r.Body.length = 0) ∨ (r.Gone = false ∧ (1 ≤ r.Lock.length ∧ r.Lock.length ≤ 100) ∧ (1 ≤ r.Body.length ∧ r.Body.length ≤ 600)))
theorem guard_tell {b : Bool} {p q : Prop} {X : Option Bool} (hb : b = true ↔ p) (hx : p → TellsP X q) : TellsP (bif (!b) then some false else X) (p ∧ q) := by
  cases b with
  | false => exact ⟨false, rfl, ⟨fun h => Bool.noConfusion h, fun h => (Bool.noConfusion (hb.2 h.1))⟩⟩
  | true => exact (hx (hb.1 rfl)).iff ⟨fun h => ⟨hb.1 rfl, h⟩, fun h => h.2⟩
theorem guard_tellN {b : Bool} {p q : Prop} {X : Option Bool} (hb : b = false ↔ p) (hx : p → TellsP X q) : TellsP (bif b then some false else X) (p ∧ q) := by
  cases b with
  | true => exact ⟨false, rfl, ⟨fun h => Bool.noConfusion h, fun h => (Bool.noConfusion (hb.2 h.1))⟩⟩
  | false => exact (hx (hb.1 rfl)).iff ⟨fun h => ⟨hb.1 rfl, h⟩, fun h => h.2⟩
theorem n_in (a lo hi : Int) : m_R35_in a lo hi = some (decide (lo ≤ a ∧ a ≤ hi)) := by
  unfold m_R35_in
  by_cases h : a ≥ lo
  · rw [bif_pos (dec_t h)]
    congr 1
    by_cases h2 : a ≤ hi
    · rw [dec_t h2, dec_t ⟨h, h2⟩]
    · rw [dec_f h2, dec_f (fun h => h2 h.2)]
  · rw [bif_neg (dec_f h), dec_f (fun h' => h h'.1)]
theorem n_seq (a : Int) : m_record_seq a = some (decide (1 ≤ a ∧ a ≤ 1099511627776)) := n_in a 1 1099511627776
theorem n_long (l : List UInt8) (m : Int) : m_record_long l m = some (decide (1 ≤ (l.length : Int) ∧ (l.length : Int) ≤ m)) := n_in (l.length : Int) 1 m
theorem cond_andB (a b : Bool) : (bif a then b else false) = (a && b) := by cases a <;> rfl
def LnkV (r : S_api_VersionRecord) : Prop := (r.Gone = true ∧ r.Lock.length = 0 ∧ r.Body.length = 0) ∨ (r.Gone = false ∧ (1 ≤ r.Lock.length ∧ r.Lock.length ≤ 100) ∧ (1 ≤ r.Body.length ∧ r.Body.length ≤ 600))
theorem n_mayV {r : S_api_VersionRecord} (h : ShortV r) : TellsP (m_record_mayVersion r) (MayV r) := by
  obtain ⟨b1, e1, i1⟩ := n_tree_Name r.Folder (by have := h.folder; omega)
  obtain ⟨b2, e2, i2⟩ := n_tree_Name r.Item (by have := h.item; omega)
  obtain ⟨b3, e3, i3⟩ := n_tree_Name r.By (by have := h.by_; omega)
  have hw : wi ((r.Lock.length : Int) + (r.Body.length : Int)) = (r.Lock.length : Int) + (r.Body.length : Int) := wi_id (by omega) (by have := h.lock; have := h.body; omega)
  have t1 : m_record_mayVersion_j1 r true = some false := rfl
  have t2 : m_record_mayVersion_j2 r true = some false := rfl
  unfold m_record_mayVersion
  rw [e1, Option.bind_some, e2, Option.bind_some, e3, Option.bind_some, t1]
  unfold m_record_mayVersion_j1
  simp only [t2, n_seq, n_long, Option.bind_some]
  unfold m_record_mayVersion_j2
  refine (guard_tell i1 fun _ => guard_tell i2 fun _ => guard_tell i3 fun _ => guard_tellN (p := ¬ r.Number < 1) decide_eq_false_iff_not fun _ => guard_tellN (p := ¬ r.Number > 256) decide_eq_false_iff_not fun _ => guard_tell decide_eq_true_iff fun _ => guard_tell decide_eq_true_iff fun _ => guard_tell decide_eq_true_iff fun _ => (?_ : TellsP _ (LnkV r))).iff ?_
  · simp only [n_long, Option.bind_some, some_condV, hw, cond_andB]
    refine TellsP.of ?_
    unfold LnkV
    cases r.Gone with
    | true =>
      show (((r.Lock.length : Int) + (r.Body.length : Int)) == 0) = true ↔ _
      rw [beq_iff_eq]
      constructor
      · intro h; exact .inl ⟨rfl, by omega, by omega⟩
      · rintro (⟨_, h1, h2⟩ | ⟨h, _⟩)
        · omega
        · cases h
    | false =>
      show (decide _ && decide _) = true ↔ _
      rw [Bool.and_eq_true, decide_eq_true_eq, decide_eq_true_eq]
      constructor
      · intro h; exact .inr ⟨rfl, by omega, by omega⟩
      · rintro (⟨h, _⟩ | ⟨_, h1, h2⟩)
        · cases h
        · constructor <;> omega
  · unfold MayV LnkV
    constructor
    · rintro ⟨h1, h2, h3, h4, h5, h6, h7, h8, h9⟩
      exact ⟨h1, h2, h3, ⟨by omega, by omega⟩, h6, h7, ⟨by omega, by omega⟩, h9⟩
    · rintro ⟨h1, h2, h3, ⟨h4, h5⟩, h6, h7, h8, h9⟩
      exact ⟨h1, h2, h3, by omega, by omega, h6, h7, ⟨by omega, by omega⟩, h9⟩
theorem n_MayV {r : S_api_VersionRecord} (h : ShortV r) : TellsP (m_R35_MayVersion r) (MayV r) := by
  obtain ⟨b1, e1, i1⟩ := n_R25_Name r.Folder (by have := h.folder; omega)
  obtain ⟨b2, e2, i2⟩ := n_R25_Name r.Item (by have := h.item; omega)
  obtain ⟨b3, e3, i3⟩ := n_R25_Name r.By (by have := h.by_; omega)
  unfold m_R35_MayVersion
  rw [e1, Option.bind_some, e2, Option.bind_some, e3, Option.bind_some]
  simp only [n_in, Option.bind_some]
  refine (guard_tell i1 fun _ => guard_tell i2 fun _ => guard_tell i3 fun _ => guard_tell decide_eq_true_iff fun _ => guard_tell decide_eq_true_iff fun _ => guard_tell decide_eq_true_iff fun _ => guard_tell decide_eq_true_iff fun _ => (?_ : TellsP _ (LnkV r))).iff ?_
  · simp only [some_condV, cond_andB]
    refine TellsP.of ?_
    unfold LnkV
    cases r.Gone with
    | true =>
      show (((r.Lock.length : Int) == 0) && ((r.Body.length : Int) == 0)) = true ↔ _
      rw [Bool.and_eq_true, beq_iff_eq, beq_iff_eq]
      constructor
      · intro h; exact .inl ⟨rfl, by omega, by omega⟩
      · rintro (⟨_, h1, h2⟩ | ⟨h, _⟩)
        · omega
        · cases h
    | false =>
      show (decide _ && decide _) = true ↔ _
      rw [Bool.and_eq_true, decide_eq_true_eq, decide_eq_true_eq]
      constructor
      · intro h; exact .inr ⟨rfl, by omega, by omega⟩
      · rintro (⟨h, _⟩ | ⟨_, h1, h2⟩)
        · cases h
        · constructor <;> omega
  · unfold MayV LnkV
    constructor
    · rintro ⟨h1, h2, h3, h4, h6, h7, h8, h9⟩
      exact ⟨h1, h2, h3, h4, h6, h7, ⟨by omega, by omega⟩, h9⟩
    · rintro ⟨h1, h2, h3, h4, h6, h7, h8, h9⟩
      exact ⟨h1, h2, h3, h4, h6, h7, ⟨by omega, by omega⟩, h9⟩
def goneI (g : Bool) : Int := bif g then 1 else 0
def vMark : List UInt8 := [118, 101, 114, 115, 105, 111, 110]
def vtI (r : S_api_VersionRecord) : List V := [wordV vMark, wordV r.Folder, wordV r.Item, numV r.Number, numV r.Epoch, numV r.Seq, wordV r.Digest, numV (goneI r.Gone), wordV r.Lock, wordV r.Body, wordV r.By]
def vtV (r : S_api_VersionRecord) : V := listV (vtI r)
theorem gone_pick {α : Type} (j : Int → α) (g : Bool) : (bif g then j 1 else j 0) = j (goneI g) := by cases g <;> rfl
theorem gone_le (g : Bool) : 0 ≤ goneI g ∧ goneI g ≤ 1 := by cases g <;> decide
theorem gone_eq (g : Bool) : (goneI g == 1) = g := by cases g <;> rfl
theorem MayV.right {r : S_api_VersionRecord} (h : MayV r) : (vtV r).rpure = true ∧ (vtV r).deep ≤ 16 ∧ (vtV r).sz ≤ 1048576 := by
  obtain ⟨⟨_, _, h1⟩, ⟨_, _, h2⟩, ⟨_, _, h3⟩, h4, h5, h6, h7, h8⟩ := h
  have hl : r.Lock.length ≤ 100 := by rcases h8 with h | h <;> omega
  have hb : r.Body.length ≤ 600 := by rcases h8 with h | h <;> omega
  have hi : ∀ x ∈ vtI r, x.rpure = true ∧ x.deep ≤ 0 ∧ x.sz ≤ 700 := by
    have w : ∀ s : List UInt8, s.length ≤ 600 → (wordV s).rpure = true ∧ (wordV s).deep ≤ 0 ∧ (wordV s).sz ≤ 700 := fun s hs => ⟨rpure_word s, by rw [deep_word]; omega, by rw [sz_word]; omega⟩
    have n : ∀ n : Int, 0 ≤ n → n ≤ 4611686018427387904 → (numV n).rpure = true ∧ (numV n).deep ≤ 0 ∧ (numV n).sz ≤ 700 := fun n h0 h1 => ⟨rpure_numV h0 h1, by rw [deep_num]; omega, by have := sz_num h0 h1; omega⟩
    have hg := gone_le r.Gone
    intro x hx
    simp only [vtI, List.mem_cons, List.not_mem_nil, or_false] at hx
    rcases hx with rfl | rfl | rfl | rfl | rfl | rfl | rfl | rfl | rfl | rfl | rfl
    · exact w _ (by decide)
    · exact w _ (by omega)
    · exact w _ (by omega)
    · exact n _ (by omega) (by omega)
    · exact n _ (by omega) (by omega)
    · exact n _ (by omega) (by omega)
    · exact w _ (by omega)
    · exact n _ (by omega) (by omega)
    · exact w _ (by omega)
    · exact w _ (by omega)
    · exact w _ (by omega)
  refine ⟨rpure_listV (by show 11 ≤ 4096; decide) (fun x hx => (hi x hx).1), ?_, ?_⟩
  · have := deep_list (l := vtI r) (d := 0) (fun x hx => (hi x hx).2.1)
    show (listV (vtI r)).deep ≤ 16
    omega
  · show (listV (vtI r)).sz ≤ _
    rw [sz_list]
    have := szs_le (vtI r) 700 (fun x hx => (hi x hx).2.2)
    have hl : (vtI r).length = 11 := rfl
    rw [hl] at this
    omega
theorem MayV.short {r : S_api_VersionRecord} (h : MayV r) : ShortV r := by
  obtain ⟨⟨_, _, h1⟩, ⟨_, _, h2⟩, ⟨_, _, h3⟩, h4, h5, h6, h7, h8⟩ := h
  exact ⟨by omega, by omega, by omega, by omega, by rcases h8 with h | h <;> omega, by rcases h8 with h | h <;> omega⟩
theorem n_textV {s : List UInt8} (h : s.length ≤ 100) : m_record_text s = some (wordV s) := by
  unfold m_record_text
  rw [strB_ok h]
  rfl
theorem n_textR {s : List UInt8} (h : s.length ≤ 100) : m_R35_text s = some (wordV s) := by
  unfold m_R35_text
  rw [strB_ok h]
  rfl
theorem n_VersionText {r : S_api_VersionRecord} (h : MayV r) : m_record_VersionText r = some ((vtV r).enc, 0) := by
  have hr := right_ofV h.right
  unfold m_record_VersionText
  rw [(n_mayV h.short).yes h, Option.bind_some, bif_neg (c := !true) rfl]
  obtain ⟨⟨_, _, h1⟩, ⟨_, _, h2⟩, ⟨_, _, h3⟩, h4, h5, h6, h7, h8⟩ := h
  rw [gone_pick (m_record_VersionText_j1 r)]
  unfold m_record_VersionText_j1
  rw [n_textV (s := [118, 101, 114, 115, 105, 111, 110]) (by decide), Option.bind_some, n_textV (by omega), Option.bind_some, n_textV (by omega), Option.bind_some, n_textV (s := r.By) (by omega)]
  simp only [m_codec_Num, m_codec_Raw, m_codec_Of, Option.bind_some]
  show Option.bind (m_codec_Encode (vtV r)) _ = _
  rw [n_Encode, if_pos hr]
  rfl
theorem n_VersionTextNo {r : S_api_VersionRecord} (hs : ShortV r) (h : ¬ MayV r) : m_record_VersionText r = some ([], 2) := by
  unfold m_record_VersionText
  rw [(n_mayV hs).no h]
  rfl
theorem n_R35_VersionText {r : S_api_VersionRecord} (h : MayV r) : m_R35_VersionText r = some (vtV r).enc := by
  have hr := h.right
  unfold m_R35_VersionText
  obtain ⟨⟨_, _, h1⟩, ⟨_, _, h2⟩, ⟨_, _, h3⟩, h4, h5, h6, h7, h8⟩ := h
  rw [gone_pick (m_R35_VersionText_j1 r)]
  unfold m_R35_VersionText_j1
  rw [n_textR (s := [118, 101, 114, 115, 105, 111, 110]) (by decide), Option.bind_some, n_textR (by omega), Option.bind_some, n_textR (by omega), Option.bind_some, n_textR (s := r.By) (by omega)]
  simp only [m_R28_Num, m_R28_Raw, m_R28_Of, Option.bind_some]
  show Option.bind (m_R02_Bytes (V.ht (vtV r)) (vtV r)) _ = _
  rw [n_R02_Bytes _ _ (Nat.le_refl _) hr.1 hr.2.2]
  rfl
/-! ### Reading -/
def zV : S_api_VersionRecord := S_api_VersionRecord.mk [] [] 0 0 0 [] false [] [] []
abbrev vKinds : List Int := [2, 2, 2, 1, 1, 1, 2, 1, 2, 2, 2]
theorem kinds11 {v : V} (h : kindsB v vKinds = true) : ∃ a0 a1 a2 a3 a4 a5 a6 a7 a8 a9 a10, v.k = 3 ∧ v.l = [a0, a1, a2, a3, a4, a5, a6, a7, a8, a9, a10] ∧ a0.k = 2 ∧ a1.k = 2 ∧ a2.k = 2 ∧ a3.k = 1 ∧ a4.k = 1 ∧ a5.k = 1 ∧ a6.k = 2 ∧ a7.k = 1 ∧ a8.k = 2 ∧ a9.k = 2 ∧ a10.k = 2 := by
  unfold kindsB at h
  rw [Bool.and_eq_true, decide_eq_true_eq, beq_iff_eq] at h
  obtain ⟨h3, h⟩ := h
  rcases hl : v.l with _ | ⟨a0, _ | ⟨a1, _ | ⟨a2, _ | ⟨a3, _ | ⟨a4, _ | ⟨a5, _ | ⟨a6, _ | ⟨a7, _ | ⟨a8, _ | ⟨a9, _ | ⟨a10, _ | ⟨a11, r⟩⟩⟩⟩⟩⟩⟩⟩⟩⟩⟩⟩ <;> rw [hl] at h <;> simp [vKinds] at h
  exact ⟨a0, a1, a2, a3, a4, a5, a6, a7, a8, a9, a10, h3, rfl, h⟩
/-- Both readers: a record that may be and its text; or one error. -/
theorem version_reads (b : List UInt8) (hb : b.length ≤ 100000) : (∃ r, MayV r ∧ b = (vtV r).enc ∧ m_record_ReadVersion b = some (r, 0) ∧ m_R35_ReadVersion b = some (r, 0)) ∨ ∃ e : Int, e ≠ 0 ∧ (∀ r, MayV r → b ≠ (vtV r).enc) ∧ m_record_ReadVersion b = some (zV, e) ∧ m_R35_ReadVersion b = some (zV, e) := by
  unfold m_record_ReadVersion m_R35_ReadVersion
  rw [n_Decode, Option.bind_some, n_R02_Decode, Option.bind_some]
  unfold decA
  cases hd : decS b with
  | error e =>
    have he := decS_err hd
    refine .inr ⟨e, by omega, fun r hr h => ?_, ?_, ?_⟩
    · rw [h, decS_enc hr.right] at hd; cases hd
    · show (bif (e != 0) then _ else _) = _
      rw [bif_pos (ine_t (by omega))]; rfl
    · show (bif (e != 0) then _ else _) = _
      rw [bif_pos (ine_t (by omega))]; rfl
  | ok v =>
    obtain ⟨hbe, hp, hde, hs⟩ := decS_ok hd
    show (∃ r, MayV r ∧ b = (vtV r).enc ∧ (bif ((0 : Int) != 0) then _ else Option.bind (m_codec_Fields v vKinds) _) = _ ∧ (bif ((0 : Int) != 0) then _ else Option.bind (m_R28_Kinds v vKinds) _) = _) ∨ ∃ e : Int, e ≠ 0 ∧ (∀ r, MayV r → b ≠ (vtV r).enc) ∧ (bif ((0 : Int) != 0) then _ else Option.bind (m_codec_Fields v vKinds) _) = _ ∧ (bif ((0 : Int) != 0) then _ else Option.bind (m_R28_Kinds v vKinds) _) = _
    rw [bif_neg (ine_f rfl), bif_neg (ine_f rfl), n_Fields _ _ (by decide), n_Kinds _ _ (by decide)]
    have hv : ∀ r, MayV r → b = (vtV r).enc → v = vtV r := fun r hr h => enc_inj ⟨hp, hde, hs⟩ hr.right (by rw [← hbe, h])
    by_cases hk : kindsB v vKinds = true
    case neg =>
      rw [if_neg hk, Option.bind_some, show kindsB v vKinds = false by simpa using hk, Option.bind_some]
      refine .inr ⟨11, by decide, fun r hr h => hk ?_, rfl, rfl⟩
      rw [hv r hr h]; rfl
    rw [if_pos hk, hk]
    obtain ⟨a0, a1, a2, a3, a4, a5, a6, a7, a8, a9, a10, h3, hl, k0, k1, k2, k3, k4, k5, k6, k7, k8, k9, k10⟩ := kinds11 hk
    have hit : ∀ x ∈ [a0, a1, a2, a3, a4, a5, a6, a7, a8, a9, a10], x.rpure = true := fun x hx => V.rpure_items hp h3 x (by rw [hl]; exact hx)
    have w0 := pure_word (hit a0 (by simp)) k0
    have w1 := pure_word (hit a1 (by simp)) k1
    have w2 := pure_word (hit a2 (by simp)) k2
    have w3 := pureN (hit a3 (by simp)) k3
    have w4 := pureN (hit a4 (by simp)) k4
    have w5 := pureN (hit a5 (by simp)) k5
    have w6 := pure_word (hit a6 (by simp)) k6
    have w7 := pureN (hit a7 (by simp)) k7
    have w8 := pure_word (hit a8 (by simp)) k8
    have w9 := pure_word (hit a9 (by simp)) k9
    have w10 := pure_word (hit a10 (by simp)) k10
    have hvl : v = listV [a0, a1, a2, a3, a4, a5, a6, a7, a8, a9, a10] := by rw [← hl]; exact (pure_list hp h3).1
    have hsz : ∀ x ∈ [a0, a1, a2, a3, a4, a5, a6, a7, a8, a9, a10], x.k = 2 → x.b.length ≤ 100000 := fun x hx h2 => by
      have e1 := sz_bytes h2
      have e2 := sz_item h3 (x := x) (by rw [hl]; exact hx)
      have e3 := V.enc_length v
      rw [← hbe] at e3
      omega
    generalize hrr : S_api_VersionRecord.mk a1.b a2.b a3.n a4.n a5.n a6.b (a7.n == 1) a8.b a9.b a10.b = r at *
    have hsh : ShortV r := by
      subst hrr
      exact ⟨hsz a1 (by simp) k1, hsz a2 (by simp) k2, hsz a10 (by simp) k10, hsz a6 (by simp) k6, hsz a8 (by simp) k8, hsz a9 (by simp) k9⟩
    have hiff : v = vtV r ↔ a0.b = vMark ∧ a7.n ≤ 1 := by
      subst hrr
      constructor
      · intro e
        rw [hvl] at e
        have e := listV_inj e
        simp only [vtI, List.cons.injEq] at e
        refine ⟨?_, ?_⟩
        · rw [e.1]; rfl
        · have := congrArg V.n e.2.2.2.2.2.2.2.1
          rw [this]
          exact (gone_le _).2
      · intro ⟨e0, e7⟩
        have : a7.n = goneI (a7.n == 1) := by
          by_cases h1 : a7.n = 1
          · rw [h1]; rfl
          · rw [ieq_f h1]; show a7.n = 0; omega
        rw [hvl]
        show listV _ = listV [wordV vMark, wordV a1.b, wordV a2.b, numV a3.n, numV a4.n, numV a5.n, wordV a6.b, numV (goneI (a7.n == 1)), wordV a8.b, wordV a9.b, wordV a10.b]
        rw [← this, ← e0, ← w0, ← w1, ← w2, ← w3.1, ← w4.1, ← w5.1, ← w6, ← w7.1, ← w8, ← w9, ← w10]
    have e1 : ∀ K : (List V × Bool) → Option (S_api_VersionRecord × Int), Option.bind (some (v.l, true)) K = K ([a0, a1, a2, a3, a4, a5, a6, a7, a8, a9, a10], true) := fun K => by rw [hl]; rfl
    rw [e1, Option.bind_some, hl]
    show (∃ r', MayV r' ∧ b = (vtV r').enc ∧ (bif !(a0.b == vMark) then _ else (bif decide (a7.n > 1) then _ else Option.bind (m_record_mayVersion (S_api_VersionRecord.mk a1.b a2.b a3.n a4.n a5.n a6.b (a7.n == 1) a8.b a9.b a10.b)) _)) = _ ∧ Option.bind (m_R35_MayVersion (S_api_VersionRecord.mk a1.b a2.b a3.n a4.n a5.n a6.b (a7.n == 1) a8.b a9.b a10.b)) (fun x27 =>
        bif (!x27) then (some (zV, 11)) else (Option.bind (m_R35_VersionText (S_api_VersionRecord.mk a1.b a2.b a3.n a4.n a5.n a6.b (a7.n == 1) a8.b a9.b a10.b)) fun x30 =>
        Option.bind (m_R01_Same x30 b) fun x32 =>
        bif (!x32) then (some (zV, 11)) else (some ((S_api_VersionRecord.mk a1.b a2.b a3.n a4.n a5.n a6.b (a7.n == 1) a8.b a9.b a10.b), 0)))) = _) ∨
      ∃ e : Int, e ≠ 0 ∧ (∀ r, MayV r → b ≠ (vtV r).enc) ∧ (bif !(a0.b == vMark) then some (zV, 11) else (bif decide (a7.n > 1) then some (zV, 11) else Option.bind (m_record_mayVersion (S_api_VersionRecord.mk a1.b a2.b a3.n a4.n a5.n a6.b (a7.n == 1) a8.b a9.b a10.b)) fun x33 => bif (!x33) then some (zV, 11) else some ((S_api_VersionRecord.mk a1.b a2.b a3.n a4.n a5.n a6.b (a7.n == 1) a8.b a9.b a10.b), 0))) = _ ∧ Option.bind (m_R35_MayVersion (S_api_VersionRecord.mk a1.b a2.b a3.n a4.n a5.n a6.b (a7.n == 1) a8.b a9.b a10.b)) (fun x27 =>
        bif (!x27) then (some (zV, 11)) else (Option.bind (m_R35_VersionText (S_api_VersionRecord.mk a1.b a2.b a3.n a4.n a5.n a6.b (a7.n == 1) a8.b a9.b a10.b)) fun x30 =>
        Option.bind (m_R01_Same x30 b) fun x32 =>
        bif (!x32) then (some (zV, 11)) else (some ((S_api_VersionRecord.mk a1.b a2.b a3.n a4.n a5.n a6.b (a7.n == 1) a8.b a9.b a10.b), 0)))) = _
    rw [hrr]
    have hne : ¬ v = vtV r ∨ ¬ MayV r → ∀ r', MayV r' → b ≠ (vtV r').enc := by
      intro hc r' hr' h
      have e := hv r' hr' h
      have : r = r' := by
        subst hrr
        rw [hvl] at e
        have e := listV_inj e
        simp only [vtI, List.cons.injEq] at e
        obtain ⟨_, e1, e2, e3, e4, e5, e6, e7, e8, e9, e10, _⟩ := e
        rw [e1, e2, e3, e4, e5, e6, e7, e8, e9, e10]
        show S_api_VersionRecord.mk r'.Folder r'.Item r'.Number r'.Epoch r'.Seq r'.Digest (goneI r'.Gone == 1) r'.Lock r'.Body r'.By = r'
        rw [gone_eq]
      subst this
      rcases hc with hc | hc
      · exact hc e
      · exact hc hr'
    by_cases hm : MayV r
    case neg =>
      refine .inr ⟨11, by decide, hne (.inr hm), ?_, ?_⟩
      · rw [(n_mayV hsh).no hm, Option.bind_some]
        cases (a0.b == vMark) <;> cases decide (a7.n > 1) <;> rfl
      · rw [(n_MayV hsh).no hm, Option.bind_some]; rfl
    rw [(n_mayV hsh).yes hm, Option.bind_some, (n_MayV hsh).yes hm, Option.bind_some, n_R35_VersionText hm]
    have hr := hm.right
    by_cases hq : v = vtV r
    · obtain ⟨c1, c2⟩ := hiff.1 hq
      refine .inl ⟨r, hm, by rw [hbe, hq], ?_, ?_⟩
      · rw [c1, beq_self_eq_true, bif_neg (c := !true) rfl, bif_neg (dec_f (by omega))]; rfl
      · show Option.bind (m_R01_Same (vtV r).enc b) _ = _
        rw [n_R01_Same _ _ (by rw [V.enc_length]; have := hr.2.2; omega), hbe, hq, beq_self_eq_true]
        rfl
    · refine .inr ⟨11, by decide, hne (.inl hq), ?_, ?_⟩
      · by_cases c1 : a0.b = vMark
        · have c2 : ¬ a7.n ≤ 1 := fun c2 => hq (hiff.2 ⟨c1, c2⟩)
          rw [c1, beq_self_eq_true, bif_neg (c := !true) rfl, bif_pos (dec_t (by omega))]
        · rw [show (a0.b == vMark) = false by simpa using c1]; rfl
      · show Option.bind (m_R01_Same (vtV r).enc b) _ = _
        rw [n_R01_Same _ _ (by rw [V.enc_length]; have := hr.2.2; omega), show ((vtV r).enc == b) = false from by
          rw [beq_eq_false_iff_ne]
          intro e
          exact hq (enc_inj ⟨hp, hde, hs⟩ hr (by rw [← hbe, e]))]
        rfl
theorem n_SameV {r : S_api_VersionRecord} (h : ShortV r) : m_R35_SameVersion r r = some true := by
  have h1 := h.digest
  have h2 := h.lock
  have h3 := h.body
  unfold m_R35_SameVersion
  simp only [beq_self_eq_true, Bool.not_true, cond_false, ine_f]
  rw [n_R01_Same _ _ (by omega), n_R01_Same _ _ (by omega), n_R01_Same _ _ (by omega)]
  simp
theorem law_vj1 (b : List UInt8) (hb : b.length ≤ 100000) : m_L35_RecordVersion_j1 b = some true := by
  unfold m_L35_RecordVersion_j1
  rcases version_reads b hb with ⟨r, hm, hbe, e1, e2⟩ | ⟨e, he, _, e1, e2⟩
  · rw [e1, e2, Option.bind_some, Option.bind_some, bif_neg (ine_f rfl)]
    show Option.bind (m_R35_SameVersion r r) _ = _
    rw [n_SameV hm.short, Option.bind_some, bif_neg (c := !true) rfl]
    show Option.bind (m_record_VersionText r) _ = _
    rw [n_VersionText hm, Option.bind_some, bif_neg (ine_f rfl), bif_pos (ieq_t rfl), hbe, n_R01_Same _ _ (by rw [V.enc_length]; have := hm.right.2.2; omega), Option.bind_some, beq_self_eq_true]
  · rw [e1, e2, Option.bind_some, Option.bind_some, bif_neg (ine_f rfl)]
    have hz : ShortV zV := ⟨by decide, by decide, by decide, by decide, by decide, by decide⟩
    show Option.bind (m_R35_SameVersion zV zV) _ = _
    rw [n_SameV hz, Option.bind_some, bif_neg (c := !true) rfl]
    have hz2 : ¬ MayV zV := fun h => by have := h.1.2.1; exact absurd this (by decide)
    show Option.bind (m_record_VersionText zV) _ = _
    rw [n_VersionTextNo hz hz2, Option.bind_some]
    show (bif (e != 0) then _ else _) = _
    rw [bif_pos (ine_t he)]
theorem n_RecordVersion (r : S_api_VersionRecord) (b : List UInt8) : m_L35_RecordVersion r b = some true := by
  unfold m_L35_RecordVersion
  rw [n_awake, Option.bind_some, bif_neg (c := !true) rfl]
  by_cases h1 : r.Folder.length ≤ 20
  case neg => rw [bif_pos (dec_t (by omega))]
  rw [bif_neg (dec_f (by omega))]
  by_cases h2 : r.Item.length ≤ 20
  case neg => rw [bif_pos (dec_t (by omega))]
  rw [bif_neg (dec_f (by omega))]
  by_cases h3 : r.By.length ≤ 20
  case neg => rw [bif_pos (dec_t (by omega))]
  rw [bif_neg (dec_f (by omega))]
  by_cases h4 : r.Digest.length ≤ 100
  case neg => rw [bif_pos (dec_t (by omega))]
  rw [bif_neg (dec_f (by omega))]
  by_cases h5 : r.Lock.length ≤ 200
  case neg => rw [bif_pos (dec_t (by omega))]
  rw [bif_neg (dec_f (by omega))]
  by_cases h6 : r.Body.length ≤ 700
  case neg => rw [bif_pos (dec_t (by omega))]
  rw [bif_neg (dec_f (by omega))]
  by_cases hb : b.length ≤ 1500
  case neg => rw [bif_pos (dec_t (by omega))]
  rw [bif_neg (dec_f (by omega))]
  have hs : ShortV r := ⟨by omega, by omega, by omega, by omega, by omega, by omega⟩
  by_cases hm : MayV r
  · rw [n_VersionText hm, Option.bind_some, (n_MayV hs).yes hm, Option.bind_some, bif_pos rfl]
    have hsz := hm.right.2.2
    have hl : (vtV r).enc.length ≤ 100000 := by
      obtain ⟨⟨_, _, h1⟩, ⟨_, _, h2⟩, ⟨_, _, h3⟩, h4, h5, h6, h7, h8⟩ := hm
      have hg := gone_le r.Gone
      rw [V.enc_length]
      show (listV (vtI r)).sz ≤ _
      rw [sz_list]
      have s1 := sz_num (n := r.Number) (by omega) (by omega)
      have s2 := sz_num (n := r.Epoch) (by omega) (by omega)
      have s3 := sz_num (n := r.Seq) (by omega) (by omega)
      have s4 := sz_num (n := goneI r.Gone) (by omega) (by omega)
      have hv : vMark.length = 7 := rfl
      simp only [vtI, V.sz.szs, sz_word]
      omega
    show Option.bind (m_record_ReadVersion (vtV r).enc) _ = _
    rcases version_reads (vtV r).enc hl with ⟨r', hm', hbe, e1, e2⟩ | ⟨e, he, hno, e1, e2⟩
    · have : r' = r := by
        have e := enc_inj hm'.right hm.right hbe.symm
        have e := listV_inj e
        simp only [vtI, List.cons.injEq] at e
        obtain ⟨_, e1, e2, e3, e4, e5, e6, e7, e8, e9, e10, _⟩ := e
        have g : r'.Gone = r.Gone := by rw [← gone_eq r'.Gone, numV_inj e7, gone_eq]
        cases r'
        cases r
        simp only at *
        rw [wordV_inj e1, wordV_inj e2, numV_inj e3, numV_inj e4, numV_inj e5, wordV_inj e6, g, wordV_inj e8, wordV_inj e9, wordV_inj e10]
      subst this
      rw [e1, Option.bind_some, bif_neg (ine_f rfl), n_R35_VersionText hm, Option.bind_some]
      show Option.bind (m_R01_Same (vtV r').enc (vtV r').enc) _ = _
      rw [n_R01_Same _ _ (by omega), Option.bind_some, beq_self_eq_true, bif_neg (c := !true) rfl, bif_neg (ine_f rfl), n_SameV hs, Option.bind_some, bif_neg (c := !true) rfl]
      exact law_vj1 b (by omega)
    · exact absurd rfl (hno r hm)
  · rw [n_VersionTextNo hs hm, Option.bind_some, (n_MayV hs).no hm, Option.bind_some, bif_neg (c := false) rfl, bif_neg (ine_f rfl), bif_neg (dec_f (by simp))]
    exact law_vj1 b (by omega)
end Go.Proofs.YteopjhakjeknaaaDoor
