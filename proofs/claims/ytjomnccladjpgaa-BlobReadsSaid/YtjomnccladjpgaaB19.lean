/-
  Texts joined: see the remark at the head of each part.
-/
import Derived.Test.YtjomnccladjpgaaB13
import Derived.Test.YtjomnccladjpgaaB18
set_option linter.unusedVariables false
set_option linter.unusedSimpArgs false
/-
  Plain: what the bytes of slots and entries are.
-/
namespace Go.Proofs.Ytjomnccladjpgaa
open Go Go.RowKit
set_option linter.unusedVariables false
set_option linter.unusedSimpArgs false

theorem cutI_mid {α : Type} {l : List α} {lo n : Nat} (h : lo + n ≤ l.length) (z : Int) (hz : z = ((lo + n : Nat) : Int)) : cutI l (lo : Int) z = some ((l.drop lo).take n) := by
  subst hz
  unfold cutI
  rw [if_pos ⟨by omega, by omega, by omega⟩, Int.toNat_natCast, Int.toNat_natCast, List.drop_take]
  simp
def getN (b : List UInt8) : Int := if b.length = 0 ∨ 8 < b.length ∨ 4611686018427387904 < ofBE b then 0 else ofBE b
def getE (b : List UInt8) : Int := if b.length = 0 then 10 else if 8 < b.length then 2 else if 4611686018427387904 < ofBE b then 11 else 0
theorem n_Get_l2 (b : List UInt8) (hb : b.length ≤ 8) : ∀ (n i : Nat), i ≤ b.length → b.length - i < n → m_word_Get_l2 b n ((ofBE (b.take i) : Nat) : Int) (i : Int) = m_word_Get_j1 ((ofBE b : Nat) : Int)
  | 0, i, _, h => by omega
  | n + 1, i, hi, h => by
    unfold m_word_Get_l2
    by_cases hlt : i < b.length
    · have hsm : ofBE (b.take i) < 72057594037927936 := by
        have h := ofBE_lt i (b.take i) (by simp; omega)
        have : 256 ^ i ≤ 256 ^ 7 := Nat.pow_le_pow_right (by omega) (by omega)
        omega
      have ht : ofBE (b.take (i + 1)) = ofBE (b.take i) * 256 + b[i].toNat := by rw [← List.take_append_getElem hlt, ofBE_snoc]
      rw [bif_pos (dec_t (by omega)), idx_nat hlt, Option.bind_some, get_step _ _ hsm b[i].toNat_lt, ← ht, wi_succ (by omega)]
      exact n_Get_l2 b hb n (i + 1) (by omega) (by omega)
    · rw [bif_neg (dec_f (by omega)), List.take_of_length_le (by omega)]
theorem n_Get (b : List UInt8) : m_word_Get b = some (getN b, getE b) := by
  unfold m_word_Get getN getE
  by_cases h0 : b.length = 0
  · rw [bif_pos (ieq_t (by omega)), if_pos (.inl h0), if_pos h0]
  · rw [bif_neg (ieq_f (by omega)), if_neg h0]
    by_cases h8 : 8 < b.length
    · rw [bif_pos (dec_t (by omega)), if_pos (.inr (.inl h8)), if_pos h8]
    · rw [bif_neg (dec_f (by omega)), if_neg h8]
      have := n_Get_l2 b (by omega) (b.length + 1) 0 (Nat.zero_le _) (by omega)
      have h : m_word_Get_l2 b (b.length + 1) 0 0 = m_word_Get_j1 ((ofBE b : Nat) : Int) := this
      rw [h]
      unfold m_word_Get_j1
      by_cases hb : 4611686018427387904 < ofBE b
      · rw [bif_pos (dec_t (by omega)), if_pos (.inr (.inr hb)), if_pos hb]
      · rw [bif_neg (dec_f (by omega)), if_neg (by omega), if_neg hb, wi_id (by omega) (by omega)]
theorem getN_4 {b : List UInt8} (h : b.length = 4) : getN b = ofBE b ∧ getE b = 0 := by
  have := ofBE_lt 4 b h
  unfold getN getE
  rw [if_neg (by omega), if_neg (by omega), if_neg (by omega), if_neg (by omega)]
  exact ⟨rfl, rfl⟩
theorem getN_be {n k : Nat} (h : n < 256 ^ k) (h1 : 1 ≤ k) (h8 : k ≤ 8) (hn : n ≤ 4611686018427387904) : getN (be k n) = n ∧ getE (be k n) = 0 := by
  have e : ofBE (be k n) = n := by rw [ofBE_be, Nat.mod_eq_of_lt h]
  unfold getN getE
  rw [e, be_length, if_neg (by omega), if_neg (by omega), if_neg (by omega), if_neg (by omega)]
  exact ⟨rfl, rfl⟩
/-! ### put -/
theorem n_put {p : List UInt8} {o k n : Nat} (h : o + k ≤ p.length) (hn : n < 256 ^ k) (h1 : 1 ≤ k) (h8 : k ≤ 8) (hm : n ≤ 4611686018427387904) : m_wal_put_v0 p o k (n : Int) = some (p.take o ++ (be k n ++ p.drop (o + k))) := by
  unfold m_wal_put_v0 m_word_Put
  rw [if_pos ⟨by omega, by omega, by omega, by omega, by simpa using hn⟩, Option.bind_some]
  unfold cpyI
  rw [if_pos h, Option.bind_some]
  have e : cpyL p o k (be k n) = p.take o ++ (be k n ++ p.drop (o + k)) := by
    unfold cpyL
    rw [be_length, Nat.min_self, List.take_of_length_le (l := be k n) (by rw [be_length]; omega)]
  simp only [Int.toNat_natCast]
  rw [e]
  unfold lenI
  rw [if_pos (by simp [be_length]; omega)]
  rfl

/-! ### Slots -/
def slotB (b s : Nat) : List UInt8 := be 8 b ++ (be 4 s ++ (List.replicate 44 0 ++ be 8 b))
theorem slotB_len (b s : Nat) : (slotB b s).length = 64 := by simp [slotB, be_length]
theorem n_slotBytes {b s : Nat} (hb : b ≤ 4611686018427387904) (hs : s < 4294967296) : m_wal_slotBytes (b : Int) (s : Int) = some (slotB b s) := by
  have hR : (List.replicate 64 (0 : UInt8)).length = 64 := List.length_replicate
  have e1 := n_put (p := List.replicate 64 (0 : UInt8)) (o := 0) (k := 8) (n := b) (by rw [hR]; omega) (by omega) (by omega) (by omega) hb
  have l1 : ((List.replicate 64 (0 : UInt8)).take 0 ++ (be 8 b ++ (List.replicate 64 (0 : UInt8)).drop (0 + 8))) = be 8 b ++ List.replicate 56 0 := by simp
  rw [l1] at e1
  have e2 := n_put (p := be 8 b ++ List.replicate 56 0) (o := 8) (k := 4) (n := s) (by simp [be_length]) (by omega) (by omega) (by omega) (by omega)
  have l2 : ((be 8 b ++ List.replicate 56 (0 : UInt8)).take 8 ++ (be 4 s ++ (be 8 b ++ List.replicate 56 (0 : UInt8)).drop (8 + 4))) = be 8 b ++ (be 4 s ++ List.replicate 52 0) := by
    simp [List.take_append, List.drop_append, be_length, List.take_of_length_le, List.drop_of_length_le]
  rw [l2] at e2
  have e3 := n_put (p := be 8 b ++ (be 4 s ++ List.replicate 52 0)) (o := 56) (k := 8) (n := b) (by simp [be_length]) (by omega) (by omega) (by omega) hb
  have l3 : ((be 8 b ++ (be 4 s ++ List.replicate 52 (0 : UInt8))).take 56 ++ (be 8 b ++ (be 8 b ++ (be 4 s ++ List.replicate 52 (0 : UInt8))).drop (56 + 8))) = slotB b s := by
    simp [slotB, List.take_append, List.drop_append, be_length, List.take_of_length_le, List.drop_of_length_le]
  rw [l3] at e3
  unfold m_wal_slotBytes
  show Option.bind (m_wal_put_v0 (List.replicate 64 (0 : UInt8)) 0 8 (b : Int)) _ = _
  rw [e1, Option.bind_some]
  have k1 : lenI (be 8 b ++ List.replicate 56 (0 : UInt8)).length (List.replicate 64 (0 : UInt8)).length = some () := by unfold lenI; rw [if_pos (by simp [be_length])]
  have k2 : lenI (be 8 b ++ (be 4 s ++ List.replicate 52 (0 : UInt8))).length (be 8 b ++ List.replicate 56 (0 : UInt8)).length = some () := by unfold lenI; rw [if_pos (by simp [be_length])]
  have k3 : lenI (slotB b s).length (be 8 b ++ (be 4 s ++ List.replicate 52 (0 : UInt8))).length = some () := by unfold lenI; rw [if_pos (by simp [be_length, slotB_len])]
  show Option.bind (lenI (be 8 b ++ List.replicate 56 (0 : UInt8)).length (List.replicate 64 (0 : UInt8)).length) _ = _
  rw [k1, Option.bind_some]
  show Option.bind (m_wal_put_v0 (be 8 b ++ List.replicate 56 (0 : UInt8)) 8 4 (s : Int)) _ = _
  rw [e2, Option.bind_some]
  show Option.bind (lenI (be 8 b ++ (be 4 s ++ List.replicate 52 (0 : UInt8))).length (be 8 b ++ List.replicate 56 (0 : UInt8)).length) _ = _
  rw [k2, Option.bind_some]
  show Option.bind (m_wal_put_v0 (be 8 b ++ (be 4 s ++ List.replicate 52 (0 : UInt8))) 56 8 (b : Int)) _ = _
  rw [e3, Option.bind_some]
  show Option.bind (lenI (slotB b s).length (be 8 b ++ (be 4 s ++ List.replicate 52 (0 : UInt8))).length) _ = _
  rw [k3]
  rfl

/-! ### The sum -/
theorem u32_id {z : Int} (h1 : 0 ≤ z) (h2 : z ≤ 4294967295) : IntKind.u32.wrap z = z := by
  simp [IntKind.wrap, IntKind.bits, IntKind.signed]
  omega
theorem x32 {a b : Nat} (ha : a < 4294967296) (hb : b < 4294967296) : IntKind.u32.wrap ((((BitVec.ofInt IntKind.u32.bits (a : Int)) ^^^ (BitVec.ofInt IntKind.u32.bits (b : Int))).toNat : Nat) : Int) = ((a ^^^ b : Nat) : Int) := by
  have h2 : (BitVec.ofInt 32 (a : Int) ^^^ BitVec.ofInt 32 (b : Int)).toNat = a ^^^ b := by
    rw [BitVec.toNat_xor, BitVec.ofInt_natCast, BitVec.ofInt_natCast, BitVec.toNat_ofNat, BitVec.toNat_ofNat, Nat.mod_eq_of_lt (by omega), Nat.mod_eq_of_lt (by omega)]
  show IntKind.u32.wrap ((BitVec.ofInt 32 (a : Int) ^^^ BitVec.ofInt 32 (b : Int)).toNat : Int) = _
  have := Crc.xor_lt ha hb
  rw [h2, u32_id (by omega) (by omega)]
theorem a32 {a : Nat} (ha : a < 4294967296) : IntKind.u32.wrap ((((BitVec.ofInt IntKind.u32.bits (a : Int)) &&& (BitVec.ofInt IntKind.u32.bits 1)).toNat : Nat) : Int) = ((a % 2 : Nat) : Int) := by
  have h2 : (BitVec.ofInt 32 (a : Int) &&& BitVec.ofInt 32 ((1 : Nat) : Int)).toNat = a % 2 := by
    rw [BitVec.toNat_and, BitVec.ofInt_natCast, BitVec.ofInt_natCast, BitVec.toNat_ofNat, BitVec.toNat_ofNat, Nat.mod_eq_of_lt (by omega), Nat.mod_eq_of_lt (by omega), Nat.and_one_is_mod]
  show IntKind.u32.wrap ((BitVec.ofInt 32 (a : Int) &&& BitVec.ofInt 32 ((1 : Nat) : Int)).toNat : Int) = _
  rw [h2, u32_id (by omega) (by omega)]
theorem half {a : Nat} : Int.fdiv (a : Int) (2 ^ 1) = ((a / 2 : Nat) : Int) := by
  rw [Int.fdiv_eq_ediv_of_nonneg _ (by omega)]
  omega
theorem n_Sum_l4 (kl : Int → Int → Option Int) (z : Int) : ∀ (n j x : Nat), j ≤ 8 → 8 - j < n → x < 4294967296 → m_wal_Sum_l4 kl z n (x : Int) (j : Int) = kl (Crc.stpN (8 - j) x : Nat) (wi (z + 1))
  | 0, j, x, _, h, _ => by omega
  | n + 1, j, x, hj, h, hx => by
    unfold m_wal_Sum_l4
    by_cases hlt : j < 8
    · have e : 8 - j = (8 - (j + 1)) + 1 := by omega
      have hy := Crc.stp_lt hx
      have ih := n_Sum_l4 kl z n (j + 1) (Crc.stp x) (by omega) (by omega) hy
      rw [bif_pos (dec_t (by omega)), a32 hx, half, wi_succ (by omega), e]
      show _ = kl (Crc.stpN (8 - (j + 1)) (Crc.stp x) : Nat) (wi (z + 1))
      rw [← ih]
      by_cases hp : x % 2 = 1
      · have hs : Crc.stp x = x / 2 ^^^ Crc.poly := by unfold Crc.stp; rw [if_pos hp]
        rw [bif_pos (ieq_t (by omega)), hs]
        have := x32 (a := x / 2) (b := Crc.poly) (by omega) (by decide)
        rw [← this]
        rfl
      · have hs : Crc.stp x = x / 2 := by unfold Crc.stp; rw [if_neg hp]
        rw [bif_neg (ieq_f (by omega)), hs]
    · have e : 8 - j = 0 := by omega
      rw [bif_neg (dec_f (by omega)), e]
      rfl
theorem n_Sum_l3 (kl : Int → Int → Option Int) (p : List UInt8) (z : Int) (hp : p.length < 4611686018427387904) : ∀ (n i x : Nat), i ≤ p.length → p.length - i < n → x < 4294967296 → m_wal_Sum_l3 kl p z n (x : Int) (i : Int) = kl (Crc.run x (p.drop i) : Nat) (wi (z + 1))
  | 0, i, x, _, h, _ => by omega
  | n + 1, i, x, hi, h, hx => by
    unfold m_wal_Sum_l3
    by_cases hlt : i < p.length
    · have hc := p[i].toNat_lt
      have hX := Crc.xor_lt hx (b := p[i].toNat) (by omega)
      rw [bif_pos (dec_t (by omega)), idx_nat hlt, Option.bind_some, x32 hx (by omega)]
      have h4 := n_Sum_l4 (m_wal_Sum_l3 kl p z n) (i : Int) (Int.toNat 8 + 1) 0 (x ^^^ p[i].toNat) (by omega) (by decide) hX
      rw [show ((0 : Nat) : Int) = 0 from rfl] at h4
      rw [h4, wi_succ (by omega), n_Sum_l3 kl p z hp n (i + 1) _ (by omega) (by omega) (Crc.stpN_lt _ hX), List.drop_eq_getElem_cons hlt]
      rfl
    · rw [bif_neg (dec_f (by omega)), List.drop_of_length_le (by omega)]
      rfl
theorem n_Sum_l2 (ps : List (List UInt8)) (hl : ∀ p ∈ ps, p.length < 4611686018427387904) (hn : ps.length < 4611686018427387904) : ∀ (n i x : Nat), i ≤ ps.length → ps.length - i < n → x < 4294967296 → m_wal_Sum_l2 ps n (x : Int) (i : Int) = m_wal_Sum_j1 (Crc.run x (ps.drop i).flatten : Nat)
  | 0, i, x, _, h, _ => by omega
  | n + 1, i, x, hi, h, hx => by
    unfold m_wal_Sum_l2
    by_cases hlt : i < ps.length
    · rw [bif_pos (dec_t (by omega)), idx_nat hlt, Option.bind_some]
      have h3 := n_Sum_l3 (m_wal_Sum_l2 ps n) ps[i] (i : Int) (hl _ (List.getElem_mem hlt)) (ps[i].length + 1) 0 x (by omega) (by omega) hx
      rw [show ((0 : Nat) : Int) = 0 from rfl] at h3
      rw [h3, wi_succ (by omega), n_Sum_l2 ps hl hn n (i + 1) _ (by omega) (by omega) (Crc.run_lt _ hx), List.drop_eq_getElem_cons hlt, List.flatten_cons, Crc.run_append]
      rfl
    · rw [bif_neg (dec_f (by omega)), List.drop_of_length_le (by omega)]
      rfl
theorem n_Sum (ps : List (List UInt8)) (hl : ∀ p ∈ ps, p.length < 4611686018427387904) (hn : ps.length < 4611686018427387904) : m_wal_Sum ps = some ((Crc.crc ps.flatten : Nat) : Int) := by
  unfold m_wal_Sum
  have h2 := n_Sum_l2 ps hl hn (ps.length + 1) 0 4294967295 (by omega) (by omega) (by decide)
  rw [show ((0 : Nat) : Int) = 0 from rfl, show ((4294967295 : Nat) : Int) = 4294967295 from rfl] at h2
  rw [h2]
  have hx := Crc.run_lt ps.flatten (x := 4294967295) (by decide)
  have e : (4294967295 ^^^ Crc.run 4294967295 ps.flatten : Nat) = 4294967295 - Crc.run 4294967295 ps.flatten := by
    have h3 := congrArg BitVec.toNat (BitVec.allOnes_xor (x := BitVec.ofNat 32 (Crc.run 4294967295 ps.flatten)))
    rw [BitVec.toNat_xor, BitVec.toNat_not, BitVec.toNat_allOnes, BitVec.toNat_ofNat, Nat.mod_eq_of_lt hx] at h3
    exact h3
  unfold m_wal_Sum_j1
  have := x32 (a := 4294967295) (b := Crc.run 4294967295 (ps.drop 0).flatten) (by decide) hx
  refine congrArg some (this.trans ?_)
  rw [List.drop_zero, e]
  rfl

/-! ### Entries -/
def headB (k n : Nat) (d : List UInt8) : List UInt8 := UInt8.ofNat k :: (be 4 n ++ (d ++ List.replicate (47 - d.length) 0))
def entryB (k n : Nat) (d : List UInt8) (st : Nat) : List UInt8 := headB k n d ++ (be 4 (Crc.crc (headB k n d ++ be 8 st)) ++ be 8 st)
theorem headB_len {k n : Nat} {d : List UInt8} (h : d.length ≤ 32) : (headB k n d).length = 52 := by simp [headB, be_length]; omega
theorem entryB_len {k n st : Nat} {d : List UInt8} (h : d.length ≤ 32) : (entryB k n d st).length = 64 := by simp [entryB, headB_len h, be_length]
theorem n_bytes {k n st : Nat} {d : List UInt8} {ok : Bool} (hk : k < 256) (hn : n < 4294967296) (hd : d.length ≤ 32) (hs : st ≤ 4611686018427387904) : m_wal_entry_bytes ⟨(k : Int), (n : Int), d, ok⟩ (st : Int) = some (entryB k n d st) := by
  have hU : U8 (k : Int) = UInt8.ofNat k := by
    unfold U8
    congr 1
    omega
  have hL : (List.replicate 64 (0 : UInt8)).set 0 (U8 (k : Int)) = UInt8.ofNat k :: List.replicate 63 0 := by rw [hU]; rfl
  have e1 := n_put (p := UInt8.ofNat k :: List.replicate 63 0) (o := 1) (k := 4) (n := n) (by simp) (by omega) (by omega) (by omega) (by omega)
  have l1 : ((UInt8.ofNat k :: List.replicate 63 (0 : UInt8)).take 1 ++ (be 4 n ++ (UInt8.ofNat k :: List.replicate 63 (0 : UInt8)).drop (1 + 4))) = UInt8.ofNat k :: (be 4 n ++ List.replicate 59 0) := by simp
  rw [l1] at e1
  have l2 : cpyI (UInt8.ofNat k :: (be 4 n ++ List.replicate 59 (0 : UInt8))) 5 32 d = some (UInt8.ofNat k :: (be 4 n ++ (d ++ List.replicate (59 - d.length) 0))) := by
    unfold cpyI
    rw [if_pos (by simp [be_length])]
    congr 1
    unfold cpyL
    rw [Nat.min_eq_left hd, List.take_of_length_le (l := d) hd]
    have h5 : (UInt8.ofNat k :: be 4 n).length = 5 := by simp [be_length]
    rw [show UInt8.ofNat k :: (be 4 n ++ List.replicate 59 (0 : UInt8)) = (UInt8.ofNat k :: be 4 n) ++ List.replicate 59 0 from rfl, List.take_left' h5, List.drop_append, List.drop_of_length_le (l := UInt8.ofNat k :: be 4 n) (by omega), h5, List.drop_replicate, show 59 - (5 + d.length - 5) = 59 - d.length by omega]
    rfl
  have e3 := n_put (p := UInt8.ofNat k :: (be 4 n ++ (d ++ List.replicate (59 - d.length) 0))) (o := 56) (k := 8) (n := st) (by simp [be_length]; omega) (by omega) (by omega) (by omega) hs
  have hT : (UInt8.ofNat k :: (be 4 n ++ (d ++ List.replicate (59 - d.length) (0 : UInt8)))) = headB k n d ++ List.replicate 12 0 := by
    unfold headB
    rw [show 59 - d.length = (47 - d.length) + 12 by omega, ← List.replicate_append_replicate]
    simp
  have l3 : ((UInt8.ofNat k :: (be 4 n ++ (d ++ List.replicate (59 - d.length) (0 : UInt8)))).take 56 ++ (be 8 st ++ (UInt8.ofNat k :: (be 4 n ++ (d ++ List.replicate (59 - d.length) (0 : UInt8)))).drop (56 + 8))) = headB k n d ++ (List.replicate 4 0 ++ be 8 st) := by
    rw [hT]
    simp [List.take_append, List.drop_append, headB_len hd, List.take_of_length_le, List.drop_of_length_le]
  rw [l3] at e3
  have p1 : pieceI (headB k n d ++ (List.replicate 4 0 ++ be 8 st)) 0 52 = some (headB k n d) := by
    unfold pieceI
    rw [if_pos (by simp [headB_len hd, be_length])]
    simp [List.take_append, headB_len hd, List.take_of_length_le]
  have p2 : pieceI (headB k n d ++ (List.replicate 4 0 ++ be 8 st)) 56 8 = some (be 8 st) := by
    unfold pieceI
    rw [if_pos (by simp [headB_len hd, be_length])]
    simp [List.drop_append, headB_len hd, List.take_of_length_le, be_length, List.drop_of_length_le]
  have hS := n_Sum [headB k n d, be 8 st] (by
    intro p hp
    simp at hp
    rcases hp with rfl | rfl
    · rw [headB_len hd]; omega
    · rw [be_length]; omega) (by simp)
  rw [show [headB k n d, be 8 st].flatten = headB k n d ++ be 8 st by simp] at hS
  have hc := Crc.crc_le (headB k n d ++ be 8 st)
  have e4 := n_put (p := headB k n d ++ (List.replicate 4 0 ++ be 8 st)) (o := 52) (k := 4) (n := Crc.crc (headB k n d ++ be 8 st)) (by simp [headB_len hd, be_length]) (by omega) (by omega) (by omega) (by omega)
  have l4 : ((headB k n d ++ (List.replicate 4 0 ++ be 8 st)).take 52 ++ (be 4 (Crc.crc (headB k n d ++ be 8 st)) ++ (headB k n d ++ (List.replicate 4 0 ++ be 8 st)).drop (52 + 4))) = entryB k n d st := by
    simp [entryB, List.take_append, List.drop_append, headB_len hd, List.take_of_length_le, List.drop_of_length_le]
  rw [l4] at e4
  have len : ∀ {a b : Nat}, a = b → lenI a b = some () := fun h => by unfold lenI; rw [if_pos h]
  unfold m_wal_entry_bytes
  show Option.bind (m_wal_put_v0 ((List.replicate 64 (0 : UInt8)).set 0 (U8 (k : Int))) 1 4 (n : Int)) _ = _
  rw [hL, e1, Option.bind_some]
  show Option.bind (lenI (UInt8.ofNat k :: (be 4 n ++ List.replicate 59 (0 : UInt8))).length ((List.replicate 64 (0 : UInt8)).set 0 (U8 (k : Int))).length) _ = _
  rw [len (by simp [be_length]), Option.bind_some]
  rw [show vcut (Int.toNat 64) 5 37 = some () from rfl, Option.bind_some]
  show Option.bind (cpyI (UInt8.ofNat k :: (be 4 n ++ List.replicate 59 (0 : UInt8))) 5 32 d) _ = _
  rw [l2, Option.bind_some, len (by simp [be_length]; omega), Option.bind_some]
  show Option.bind (m_wal_put_v0 (UInt8.ofNat k :: (be 4 n ++ (d ++ List.replicate (59 - d.length) (0 : UInt8)))) 56 8 (st : Int)) _ = _
  rw [e3, Option.bind_some, len (by simp [be_length, headB_len hd]; omega), Option.bind_some]
  rw [show vcut (Int.toNat 64) 52 56 = some () from rfl, Option.bind_some, show vcut (Int.toNat 64) 0 52 = some () from rfl, Option.bind_some, show vcut (Int.toNat 64) 56 ((Int.toNat 64 : Nat) : Int) = some () from rfl, Option.bind_some]
  show Option.bind (pieceI (headB k n d ++ (List.replicate 4 0 ++ be 8 st)) 0 52) _ = _
  rw [p1, Option.bind_some]
  show Option.bind (pieceI (headB k n d ++ (List.replicate 4 0 ++ be 8 st)) 56 8) _ = _
  rw [p2, Option.bind_some, hS, Option.bind_some]
  rw [wi_id (by omega) (by omega)]
  show Option.bind (m_wal_put_v0 (headB k n d ++ (List.replicate 4 0 ++ be 8 st)) 52 4 ((Crc.crc (headB k n d ++ be 8 st) : Nat) : Int)) _ = _
  rw [e4, Option.bind_some, len (by simp [be_length, headB_len hd, entryB_len hd])]
  rfl

/-- A row that is an entry of its place. -/
def Valid (st : Nat) (r : List UInt8) : Prop := ∃ h s t : List UInt8, r = h ++ (s ++ t) ∧ h.length = 52 ∧ h.drop 37 = List.replicate 15 0 ∧ s = be 4 (Crc.crc (h ++ t)) ∧ t = be 8 st
theorem valid_entry {k n st : Nat} {d : List UInt8} (hd : d.length ≤ 32) : Valid st (entryB k n d st) := by
  refine ⟨headB k n d, _, _, rfl, headB_len hd, ?_, rfl, rfl⟩
  unfold headB
  have : (47 - d.length) = (32 - d.length) + 15 := by omega
  rw [this, ← List.replicate_append_replicate]
  have e : UInt8.ofNat k :: (be 4 n ++ (d ++ (List.replicate (32 - d.length) (0 : UInt8) ++ List.replicate 15 0))) = (UInt8.ofNat k :: (be 4 n ++ (d ++ List.replicate (32 - d.length) (0 : UInt8)))) ++ List.replicate 15 0 := by simp
  rw [e, List.drop_left' (by simp [be_length]; omega)]
end Go.Proofs.Ytjomnccladjpgaa

/-
  Plain: what a disk does.
-/
namespace Go.Proofs.Ytjomnccladjpgaa
open Go Go.RowKit
set_option linter.unusedVariables false
set_option linter.unusedSimpArgs false

abbrev pad (x : List UInt8) : List UInt8 := padA (0 : UInt8) x 0 64
theorem pad_len (x : List UInt8) : (pad x).length = 64 := padA_len x 64 0
theorem pad_id {x : List UInt8} (h : x.length = 64) : pad x = x := padA_id h

/-- A disk, plain. -/
structure Dsk where
  kept : List (List UInt8)
  now : List (List UInt8)
  wait : List S_disk_write
  fuse : Int
  off : Bool
  lives : Int

def apw (k : List (List UInt8)) (l : List S_disk_write) : List (List UInt8) := l.foldl (fun s w => s.set w.n_.toNat w.b_) k
theorem apw_snoc (k : List (List UInt8)) (l : List S_disk_write) (w : S_disk_write) : apw k (l ++ [w]) = (apw k l).set w.n_.toNat w.b_ := by simp [apw, List.foldl_append]

structure DIn (H : Hp) (i : Nat) (d : Dsk) : Prop where
  at_ : ∃ a b ks ns, a ≠ b ∧ H.dk[i]? = some ⟨(a, ks.length), (b, ns.length), d.wait, d.fuse, d.off, d.lives⟩ ∧ H.sec[a]? = some ks ∧ H.sec[b]? = some ns ∧ ks.map pad = d.kept ∧ ns.map pad = d.now
  len : d.kept.length = d.now.length
  wok : ∀ w ∈ d.wait, 0 ≤ w.n_ ∧ w.n_ < (d.now.length : Int) ∧ w.b_.length = 64
  same : d.now = apw d.kept d.wait

section
variable {H : Hp} {i : Nat} {d : Dsk}
theorem DIn.lg {H' : Hp} (h : DIn H i d) (h1 : H'.dk = H.dk) (h2 : H'.sec = H.sec) : DIn H' i d := by
  obtain ⟨h3, h4, h5, h6⟩ := h
  exact ⟨by rw [h1, h2]; exact h3, h4, h5, h6⟩
theorem DIn.row (h : DIn H i d) {k : Nat} {r : List UInt8} (hr : d.now[k]? = some r) : r.length = 64 := by
  obtain ⟨⟨a, b, ks, ns, hab, hd, hk, hn, ek, en⟩, _⟩ := h
  rw [← en, List.getElem?_map] at hr
  cases hq : ns[k]? with
  | none => rw [hq] at hr; cases hr
  | some y =>
    rw [hq] at hr
    injection hr with hr
    rw [← hr]
    exact pad_len y
theorem n_is (h : DIn H i d) (h0 : 0 < d.now.length) : m_disk_Disk_is (some i) H = some true := by
  obtain ⟨⟨a, b, ks, ns, hab, hd, hk, hn, ek, en⟩, _⟩ := h
  have hl : ns.length = d.now.length := by rw [← en, List.length_map]
  unfold m_disk_Disk_is
  show Option.bind (H.dk[i]?) _ = _
  rw [hd, Option.bind_some]
  show some (decide ((ns.length : Int) > 0)) = _
  rw [dec_t (by omega)]
theorem n_Size (h : DIn H i d) (h0 : 0 < d.now.length) : m_disk_Disk_Size (some i) H = some (d.now.length : Int) := by
  have hi := n_is h h0
  obtain ⟨⟨a, b, ks, ns, hab, hd, hk, hn, ek, en⟩, _⟩ := h
  have hl : ns.length = d.now.length := by rw [← en, List.length_map]
  unfold m_disk_Disk_Size
  rw [hi, Option.bind_some]
  show Option.bind (H.dk[i]?) _ = _
  rw [hd, Option.bind_some]
  show some (ns.length : Int) = _
  rw [hl]
theorem n_Off (h : DIn H i d) (h0 : 0 < d.now.length) : m_disk_Disk_Off (some i) H = some d.off := by
  have hi := n_is h h0
  obtain ⟨⟨a, b, ks, ns, hab, hd, hk, hn, ek, en⟩, _⟩ := h
  unfold m_disk_Disk_Off
  rw [hi, Option.bind_some]
  show Option.bind (H.dk[i]?) _ = _
  rw [hd, Option.bind_some]
theorem n_Lives (h : DIn H i d) (h0 : 0 < d.now.length) : m_disk_Disk_Lives (some i) H = some d.lives := by
  have hi := n_is h h0
  obtain ⟨⟨a, b, ks, ns, hab, hd, hk, hn, ek, en⟩, _⟩ := h
  unfold m_disk_Disk_Lives
  rw [hi, Option.bind_some]
  show Option.bind (H.dk[i]?) _ = _
  rw [hd, Option.bind_some]
theorem n_may (h : DIn H i d) (ho : d.off = false) {k : Nat} (hk : k < d.now.length) : m_disk_Disk_may (some i) (k : Int) H = some 0 := by
  have hi := n_is h (by omega)
  obtain ⟨⟨a, b, ks, ns, hab, hd, hk1, hn, ek, en⟩, _⟩ := h
  have hl : ns.length = d.now.length := by rw [← en, List.length_map]
  unfold m_disk_Disk_may
  rw [hi, Option.bind_some]
  show Option.bind (H.dk[i]?) _ = _
  rw [hd, Option.bind_some]
  show (bif d.off then _ else bif decide ((k : Int) < 0) then _ else bif decide ((k : Int) ≥ (ns.length : Int)) then _ else some 0) = _
  rw [ho, bif_neg rfl, bif_neg (dec_f (by omega)), bif_neg (dec_f (by omega))]
theorem n_burn {x : S_disk_Disk} (h : H.dk[i]? = some x) (hf : x.fuse_ < 0) : m_disk_Disk_burn (some i) H = some (false, H) := by
  unfold m_disk_Disk_burn
  show Option.bind (H.dk[i]?) _ = _
  rw [h, Option.bind_some, bif_pos (dec_t hf)]
theorem n_Read (h : DIn H i d) (ho : d.off = false) {k : Nat} {r : List UInt8} (hr : d.now[k]? = some r) : m_disk_Disk_Read (some i) (k : Int) H = some (r, 0) := by
  have hk : k < d.now.length := (List.getElem?_eq_some_iff.1 hr).1
  have hm := n_may h ho hk
  obtain ⟨⟨a, b, ks, ns, hab, hd, hk1, hn, ek, en⟩, _⟩ := h
  have hl : ns.length = d.now.length := by rw [← en, List.length_map]
  unfold m_disk_Disk_Read
  rw [hm, Option.bind_some, bif_neg (ine_f rfl)]
  show Option.bind (H.dk[i]?) _ = _
  rw [hd, Option.bind_some]
  show Option.bind (H.sec[b]?) _ = _
  rw [hn, Option.bind_some]
  unfold lenI
  rw [if_pos rfl, Option.bind_some, idx_nat (by omega), Option.bind_some]
  rw [← en, List.getElem?_map, List.getElem?_eq_getElem (by omega)] at hr
  injection hr with hr
  rw [← hr]
theorem n_Write (h : DIn H i d) (ho : d.off = false) (hf : d.fuse < 0) {k : Nat} (hk : k < d.now.length) {x : List UInt8} (hx : x.length = 64) (hw : d.wait.length < 1000000) :
    ∃ H', m_disk_Disk_Write (some i) (k : Int) x H = some (0, H') ∧ DIn H' i { d with now := d.now.set k x, wait := d.wait ++ [⟨k, x⟩] } ∧ H'.lg = H.lg := by
  have hm := n_may h ho hk
  obtain ⟨⟨a, b, ks, ns, hab, hd, hk1, hn, ek, en⟩, h4, h5, h6⟩ := h
  have hl : ns.length = d.now.length := by rw [← en, List.length_map]
  have hil : i < H.dk.length := (List.getElem?_eq_some_iff.1 hd).1
  have hbl : b < H.sec.length := (List.getElem?_eq_some_iff.1 hn).1
  let X : S_disk_Disk := ⟨(a, ks.length), (b, ns.length), d.wait ++ [⟨k, x⟩], d.fuse, d.off, d.lives⟩
  have g1 : ((H.st_dk i X).st_sec b (ns.set k x)).dk[i]? = some X := List.getElem?_set_self hil
  refine ⟨(H.st_dk i X).st_sec b (ns.set k x), ?_, ⟨⟨a, b, ks, ns.set k x, hab, ?_, ?_, ?_, ek, ?_⟩, ?_, ?_, ?_⟩, rfl⟩
  · unfold m_disk_Disk_Write
    rw [hm, Option.bind_some, bif_neg (ine_f rfl), bif_neg (ine_f (by omega))]
    have e1 : s2aI 64 x = some x := by
      unfold s2aI
      rw [if_pos (by omega), List.take_of_length_le (by omega)]
    rw [e1, Option.bind_some]
    show Option.bind (H.dk[i]?) _ = _
    rw [hd, Option.bind_some, appI_ok (by show (d.wait.length + _) * _ ≤ _; simp; omega), Option.bind_some]
    show Option.bind (H.sec[b]?) _ = _
    rw [hn, Option.bind_some]
    unfold lenI
    rw [if_pos rfl, Option.bind_some, idx_nat (by omega), Option.bind_some]
    show Option.bind (m_disk_Disk_burn (some i) ((H.st_dk i X).st_sec b (ns.set k x))) _ = _
    rw [n_burn g1 hf]
    rfl
  · rw [g1, List.length_set]
  · show (H.sec.set b _)[a]? = _
    rw [List.getElem?_set_ne (fun e => hab e.symm), hk1]
  · exact List.getElem?_set_self hbl
  · show _ = d.now.set k x
    rw [List.map_set, en, pad_id hx]
  · show d.kept.length = (d.now.set k x).length
    rw [List.length_set, h4]
  · intro w hw
    show 0 ≤ w.n_ ∧ w.n_ < ((d.now.set k x).length : Int) ∧ _
    rw [List.length_set]
    rcases List.mem_append.1 hw with hw | hw
    · exact h5 w hw
    · rw [List.mem_singleton.1 hw]
      exact ⟨by show (0 : Int) ≤ (k : Int); omega, by show (k : Int) < _; omega, hx⟩
  · show d.now.set k x = apw d.kept (d.wait ++ [⟨k, x⟩])
    rw [apw_snoc, ← h6]
    rfl
theorem n_Flush_l2 {a b : Nat} (hab : a ≠ b) {X : S_disk_Disk} {L : Nat} (hXk : X.kept_ = (a, L)) (hw : ∀ w ∈ X.wait_, 0 ≤ w.n_ ∧ w.n_ < (L : Int) ∧ w.b_.length = 64) (hwl : X.wait_.length < 4611686018427387904) (i : Nat) (ns : List (List UInt8)) : ∀ (n j : Nat) (H : Hp) (ks : List (List UInt8)), j ≤ X.wait_.length → X.wait_.length - j < n → H.dk[i]? = some X → H.sec[a]? = some ks → H.sec[b]? = some ns → ks.length = L →
    ∃ H' ks', m_disk_Disk_Flush_l2 X i (some i) n (j : Int) H = some (0, H') ∧ H'.dk[i]? = some ⟨X.kept_, X.now_, [], X.fuse_, X.off_, X.lives_⟩ ∧ H'.sec[a]? = some ks' ∧ H'.sec[b]? = some ns ∧ ks'.map pad = apw (ks.map pad) (X.wait_.drop j) ∧ H'.lg = H.lg ∧ ks'.length = L
  | 0, j, _, _, _, h, _, _, _, _ => by omega
  | n + 1, j, H, ks, hj, h, hd, hk, hn, hL => by
    unfold m_disk_Disk_Flush_l2
    by_cases hlt : j < X.wait_.length
    · obtain ⟨h1, h2, h3⟩ := hw _ (List.getElem_mem hlt)
      have hal : a < H.sec.length := (List.getElem?_eq_some_iff.1 hk).1
      rw [bif_pos (dec_t (by omega)), idx_nat hlt, Option.bind_some]
      show ∃ H' ks', Option.bind (H.dk[i]?) _ = _ ∧ _
      rw [hd, Option.bind_some]
      have e1 : Hp.ge_sec H X.kept_.1 = some ks := by rw [hXk]; exact hk
      rw [e1, Option.bind_some]
      have e2 : lenI ks.length X.kept_.2 = some () := by
        unfold lenI
        rw [hXk, if_pos hL]
      rw [e2, Option.bind_some]
      have e3 : idx ks X.wait_[j].n_ = some (ks[X.wait_[j].n_.toNat]'(by omega)) := by
        have := idx_nat (l := ks) (i := X.wait_[j].n_.toNat) (by omega)
        rwa [Int.toNat_of_nonneg h1] at this
      rw [e3, Option.bind_some, wi_succ (by omega)]
      have hk' : (H.st_sec X.kept_.1 (ks.set X.wait_[j].n_.toNat X.wait_[j].b_)).sec[a]? = some (ks.set X.wait_[j].n_.toNat X.wait_[j].b_) := by
        rw [hXk]
        exact List.getElem?_set_self hal
      have hn' : (H.st_sec X.kept_.1 (ks.set X.wait_[j].n_.toNat X.wait_[j].b_)).sec[b]? = some ns := by
        rw [hXk]
        show (H.sec.set a _)[b]? = _
        rw [List.getElem?_set_ne hab, hn]
      obtain ⟨H', ks', g1, g2, g3, g4, g5, g6, g7⟩ := n_Flush_l2 hab hXk hw hwl i ns n (j + 1) (H.st_sec X.kept_.1 (ks.set X.wait_[j].n_.toNat X.wait_[j].b_)) _ (by omega) (by omega) (show _ from hd) hk' hn' (by rw [List.length_set, hL])
      refine ⟨H', ks', g1, g2, g3, g4, ?_, g6, g7⟩
      rw [g5, List.drop_eq_getElem_cons hlt, List.map_set, pad_id h3]
      rfl
    · have e : j = X.wait_.length := by omega
      subst e
      rw [bif_neg (dec_f (by omega))]
      unfold m_disk_Disk_Flush_j1
      show ∃ H' ks', Option.bind (H.dk[i]?) _ = _ ∧ _
      rw [hd, Option.bind_some]
      refine ⟨_, ks, rfl, ?_, hk, hn, ?_, rfl, hL⟩
      · exact List.getElem?_set_self (List.getElem?_eq_some_iff.1 hd).1
      · rw [List.drop_length]
        rfl
theorem n_Flush (h : DIn H i d) (ho : d.off = false) (hf : d.fuse < 0) (h0 : 0 < d.now.length) (hw : d.wait.length < 1000000) :
    ∃ H', m_disk_Disk_Flush (some i) H = some (0, H') ∧ DIn H' i { d with kept := d.now, wait := [] } ∧ H'.lg = H.lg := by
  have hm := n_may h ho h0
  obtain ⟨⟨a, b, ks, ns, hab, hd, hk1, hn, ek, en⟩, h4, h5, h6⟩ := h
  have hl : ns.length = d.now.length := by rw [← en, List.length_map]
  have hl2 : ks.length = d.kept.length := by rw [← ek, List.length_map]
  unfold m_disk_Disk_Flush
  rw [show ((0 : Nat) : Int) = 0 from rfl] at hm
  rw [hm, Option.bind_some, bif_neg (ine_f rfl), n_burn hd hf, Option.bind_some, bif_neg rfl]
  show ∃ H', Option.bind (H.dk[i]?) _ = _ ∧ _
  rw [hd, Option.bind_some]
  obtain ⟨H', ks', g1, g2, g3, g4, g5, g6, g7⟩ := n_Flush_l2 hab (X := ⟨(a, ks.length), (b, ns.length), d.wait, d.fuse, d.off, d.lives⟩) (L := ks.length) rfl (fun w hw => by have := h5 w hw; exact ⟨this.1, by omega, this.2.2⟩) (by show d.wait.length < _; omega) i ns (d.wait.length + 1) 0 H ks (Nat.zero_le _) (by show d.wait.length - 0 < _; omega) hd hk1 hn rfl
  have e : ks'.map pad = d.now := by
    rw [g5, ek, h6]
    rfl
  exact ⟨H', g1, ⟨⟨a, b, ks', ns, hab, by rw [g2, g7], g3, g4, e, en⟩, rfl, fun w hw => absurd hw List.not_mem_nil, rfl⟩, g6⟩
theorem n_New {H : Hp} {n : Nat} (h1 : 1 ≤ n) (h2 : n ≤ 16384) : ∃ H', m_disk_New (n : Int) H = some (some H.dk.length, 0, H') ∧ DIn H' H.dk.length ⟨List.replicate n (List.replicate 64 0), List.replicate n (List.replicate 64 0), [], -1, false, 0⟩ ∧ H'.lg = H.lg := by
  have e : mkI 64 (n : Int) = some n := by
    unfold mkI
    rw [if_pos ⟨by omega, by omega, by omega⟩, Int.toNat_natCast]
  have hp : (List.replicate n ([] : List UInt8)).map pad = List.replicate n (List.replicate 64 0) := by
    rw [List.map_replicate]
    rfl
  unfold m_disk_New
  rw [bif_neg (dec_f (by omega)), bif_neg (dec_f (by omega)), e, Option.bind_some, Option.bind_some]
  refine ⟨_, rfl, ⟨⟨H.sec.length, H.sec.length + 1, List.replicate n [], List.replicate n [], by omega, ?_, ?_, ?_, hp, hp⟩, rfl, fun w hw => absurd hw List.not_mem_nil, rfl⟩, rfl⟩
  · show (H.dk ++ [_])[H.dk.length]? = _
    simp [Hp.ln_sec, Hp.nw_sec]
  · show (H.sec ++ [List.replicate n []] ++ [List.replicate n []])[H.sec.length]? = _
    simp
  · show (H.sec ++ [List.replicate n []] ++ [List.replicate n []])[H.sec.length + 1]? = _
    simp
end
end Go.Proofs.Ytjomnccladjpgaa

/-
  Plain: what a log does.
-/
namespace Go.Proofs.Ytjomnccladjpgaa
open Go Go.RowKit
set_option linter.unusedVariables false
set_option linter.unusedSimpArgs false

/-! ### Held against each other -/
theorem n_pair {α : Type} (a b : List α) (ha : a.length < 4611686018427387904) (eq : α → α → Option Bool) (F : Nat → Int → Option Bool)
    (hF : ∀ n z, F (n + 1) z = bif decide (z < (a.length : Int)) then (Option.bind (idx a z) fun x => Option.bind (idx b z) fun y => Option.bind (eq x y) fun e => bif (!e) then some false else F n (wi (z + 1))) else some true)
    (heq : ∀ x ∈ a, ∀ y, ∃ r, eq x y = some r ∧ (r = true ↔ x = y)) [DecidableEq α] : (bif ((a.length : Int) != (b.length : Int)) then some false else F (a.length + 1) 0) = some (decide (a = b)) := by
  by_cases hl : a.length = b.length
  · rw [bif_neg (ine_f (by omega))]
    obtain ⟨r, h1, h2⟩ := pair_loop a b hl ha eq F hF heq (a.length + 1) 0 (by omega) (by omega)
    rw [show ((0 : Nat) : Int) = 0 from rfl] at h1
    rw [h1]
    congr 1
    rw [Bool.eq_iff_iff, h2, decide_eq_true_iff]
    rfl
  · rw [bif_pos (ine_t (by omega)), decide_eq_false (fun e => hl (by rw [e]))]
theorem n_Equal (a b : List UInt8) (ha : a.length < 4611686018427387904) : m_slices_Equal_byte a b = some (decide (a = b)) :=
  n_pair a b ha (fun x y => some ((x.toNat : Int) == (y.toNat : Int))) (m_slices_Equal_byte_l1 a b) (fun n z => rfl) fun x _ y => ⟨_, rfl, by rw [beq_iff_eq, ← UInt8.toNat_inj]; omega⟩

/-! ### An entry read -/
def atE (st : Nat) (r : List UInt8) : S_wal_entry := ⟨((r.headD 0).toNat : Int), (ofBE ((r.drop 1).take 4) : Int), (r.drop 5).take 32, decide (r = entryB (r.headD 0).toNat (ofBE ((r.drop 1).take 4)) ((r.drop 5).take 32) st)⟩
theorem atE_bad {st : Nat} {r : List UInt8} (h : ¬ Valid st r) (hr : r.length = 64) : (atE st r).ok_ = false := by
  refine decide_eq_false fun e => h ?_
  rw [e]
  exact valid_entry (by rw [List.length_take]; omega)
theorem valid_end {st : Nat} {r : List UInt8} (h : Valid st r) : r.drop 56 = be 8 st := by
  obtain ⟨h0, s, t, rfl, hl, hz, hs, ht⟩ := h
  rw [← List.append_assoc, List.drop_left' (by simp [hl, hs, be_length]), ht]

/-! ### A log -/
structure LIn (H : Hp) (i j : Nat) (d : Dsk) (s base slot used : Nat) (com : Int) : Prop where
  dsk : DIn H i d
  off : d.off = false
  lg : H.lg[j]? = some ⟨some i, s, base, slot, used, d.lives, com⟩
  s3 : 3 ≤ s
  sl : 2 + s < d.now.length
  ln : d.now.length ≤ 16384
  bs : base + s ≤ 2305843009213693952
/-- The same, and the disk's fuse does not burn. -/
structure WIn (H : Hp) (i j : Nat) (d : Dsk) (s base slot used : Nat) (com : Int) : Prop extends LIn H i j d s base slot used com where
  fuse : d.fuse < 0
section
variable {H : Hp} {i j : Nat} {d : Dsk} {s base slot used : Nat} {com : Int}
theorem n_alive (h : LIn H i j d s base slot used com) : m_wal_Log_alive (some j) H = some 0 := by
  have := h.sl
  have h0 : 0 < d.now.length := by omega
  have hx := h.lg
  unfold m_wal_Log_alive
  show Option.bind (H.lg[j]?) _ = _
  rw [hx, Option.bind_some]
  show m_wal_Log_alive_j1 (some j) H false = _
  unfold m_wal_Log_alive_j1
  rw [bif_neg rfl]
  show Option.bind (H.lg[j]?) _ = _
  rw [hx, Option.bind_some]
  show Option.bind (m_disk_Disk_Off (some i) H) _ = _
  rw [n_Off h.dsk h0, Option.bind_some, h.off, bif_neg rfl]
  show Option.bind (m_disk_Disk_Lives (some i) H) _ = _
  rw [n_Lives h.dsk h0, Option.bind_some, bif_neg (ine_f rfl)]
theorem n_Homes (h : LIn H i j d s base slot used com) : m_wal_Log_Homes (some j) H = some ((d.now.length - 2 - s : Nat) : Int) := by
  have := h.sl
  have := h.ln
  unfold m_wal_Log_Homes
  show Option.bind (H.lg[j]?) _ = _
  rw [h.lg, Option.bind_some]
  show Option.bind (m_disk_Disk_Size (some i) H) _ = _
  rw [n_Size h.dsk (by omega), Option.bind_some]
  show some (wi (wi ((d.now.length : Int) - 2) - (s : Int))) = _
  rw [wi_id (z := (d.now.length : Int) - 2) (by omega) (by omega), wi_id (by omega) (by omega)]
  congr 1
  omega
theorem n_home (h : LIn H i j d s base slot used com) (k : Nat) (hk : k ≤ 100000) : m_wal_Log_home (some j) (k : Int) H = some ((2 + s + k : Nat) : Int) := by
  have := h.sl
  have := h.ln
  unfold m_wal_Log_home
  show Option.bind (H.lg[j]?) _ = _
  rw [h.lg, Option.bind_some]
  show some (wi (wi (2 + (s : Int)) + (k : Int))) = _
  rw [wi_id (z := 2 + (s : Int)) (by omega) (by omega), wi_id (by omega) (by omega)]
  congr 1
theorem n_LRead (h : LIn H i j d s base slot used com) {k : Nat} {r : List UInt8} (hr : d.now[2 + s + k]? = some r) : m_wal_Log_Read (some j) (k : Int) H = some (r, 0) := by
  have := h.ln
  have := h.sl
  have hk : 2 + s + k < d.now.length := (List.getElem?_eq_some_iff.1 hr).1
  unfold m_wal_Log_Read
  rw [n_alive h, Option.bind_some, bif_neg (ine_f rfl), bif_neg (dec_f (by omega)), n_Homes h, Option.bind_some, bif_neg (dec_f (by omega))]
  show Option.bind (H.lg[j]?) _ = _
  rw [h.lg, Option.bind_some, n_home h k (by omega), Option.bind_some]
  show Option.bind (m_disk_Disk_Read (some i) ((2 + s + k : Nat) : Int) H) _ = _
  rw [n_Read h.dsk h.off hr]
  rfl
theorem n_at (h : LIn H i j d s base slot used com) {p : Nat} {r : List UInt8} (hp : p < s) (hr : d.now[2 + p]? = some r) : m_wal_Log_at (some j) (p : Int) H = some (atE (base + p) r) := by
  have := h.ln
  have := h.sl
  have := h.bs
  have hl := h.dsk.row hr
  unfold m_wal_Log_at
  show Option.bind (H.lg[j]?) _ = _
  rw [h.lg, Option.bind_some]
  show (bif decide ((p : Int) ≥ (s : Int)) then _ else _) = _
  rw [bif_neg (dec_f (by omega)), wi_id (z := 2 + (p : Int)) (by omega) (by omega)]
  show Option.bind (m_disk_Disk_Read (some i) (2 + (p : Int)) H) _ = _
  rw [show 2 + (p : Int) = ((2 + p : Nat) : Int) by omega, n_Read h.dsk h.off hr, Option.bind_some, bif_neg (ine_f rfl)]
  have e0 : idx r 0 = some (r.headD 0) := by
    cases r with
    | nil => cases hl
    | cons x t => rfl
  have e1 : cutI r 5 37 = some ((r.drop 5).take 32) := cutI_mid (l := r) (lo := 5) (n := 32) (by omega) 37 rfl
  have e2 : cutI r 1 5 = some ((r.drop 1).take 4) := cutI_mid (l := r) (lo := 1) (n := 4) (by omega) 5 rfl
  have g := getN_4 (b := (r.drop 1).take 4) (by simp; omega)
  have hb := ofBE_lt 4 ((r.drop 1).take 4) (by simp; omega)
  show Option.bind (idx r 0) _ = _
  rw [e0, Option.bind_some]
  show Option.bind (cutI r 5 37) _ = _
  rw [e1, Option.bind_some]
  show Option.bind (cutI r 1 5) _ = _
  rw [e2, Option.bind_some, n_Get, Option.bind_some, g.1, g.2]
  show Option.bind (m_wal_entry_bytes ⟨((r.headD 0).toNat : Int), (ofBE ((r.drop 1).take 4) : Int), (r.drop 5).take 32, false⟩ (wi ((base : Int) + (p : Int)))) _ = _
  rw [wi_id (z := (base : Int) + (p : Int)) (by omega) (by omega), show (base : Int) + (p : Int) = ((base + p : Nat) : Int) by omega]
  rw [n_bytes (by have := (r.headD 0).toNat_lt; omega) (by omega) (by simp; omega) (by omega), Option.bind_some]
  show Option.bind (m_slices_Equal_byte r _) _ = _
  rw [n_Equal r _ (by omega)]
  rfl
/-! ### What the entries say -/
/-- Writes that a log takes. -/
def Good (s n : Nat) (ws : List S_api_Write) : Prop := ∀ w ∈ ws, 0 ≤ w.Home ∧ w.Home < ((n - 2 - s : Nat) : Int) ∧ w.Data.length = 64
/-- What stands at the places of the log: entries of ws up to the T-th. -/
structure Stand (H : Hp) (j : Nat) (ws : List S_api_Write) (T : Nat) : Prop where
  a : ∀ k (hk : k < ws.length), 2 * k < T → m_wal_Log_at (some j) ((2 * k : Nat) : Int) H = some ⟨1, ws[k].Home, ws[k].Data.take 32, true⟩
  b : ∀ k (hk : k < ws.length), 2 * k + 1 < T → m_wal_Log_at (some j) ((2 * k + 1 : Nat) : Int) H = some ⟨2, ws[k].Home, ws[k].Data.drop 32, true⟩
  c : 2 * ws.length < T → m_wal_Log_at (some j) ((2 * ws.length : Nat) : Int) H = some ⟨3, ws.length, List.replicate 32 0, true⟩
  t : ∃ e, m_wal_Log_at (some j) (T : Int) H = some e ∧ e.ok_ = false
theorem n_says_none (h : LIn H i j d s base slot used com) (hs : ∃ e, m_wal_Log_at (some j) 0 H = some e ∧ e.ok_ = false) : m_wal_Log_says (some j) H = some [] := by
  obtain ⟨e, e1, e2⟩ := hs
  unfold m_wal_Log_says
  show m_wal_Log_says_l1 (some j) H (16399 + 1) [] 0 = _
  unfold m_wal_Log_says_l1
  have g : m_wal_Log_one (some j) 0 H = some ([], 0) := by
    unfold m_wal_Log_one
    show m_wal_Log_one_l1 (some j) H 0 (16399 + 1) [] 0 = _
    unfold m_wal_Log_one_l1
    rw [e1, Option.bind_some, e2]
    rfl
  rw [g, Option.bind_some]
  rfl
end
end Go.Proofs.Ytjomnccladjpgaa

/-
  Plain: what a log does: redo, commit, checkpoint, format, open.
-/
namespace Go.Proofs.Ytjomnccladjpgaa
open Go Go.RowKit
set_option linter.unusedVariables false
set_option linter.unusedSimpArgs false

section
variable {H : Hp} {i j : Nat} {d : Dsk} {s base slot used : Nat} {com : Int}
theorem WIn.wr (h : WIn H i j d s base slot used com) {k : Nat} (hk : k < d.now.length) {x : List UInt8} (hx : x.length = 64) (hw : d.wait.length < 1000000) :
    ∃ H', m_disk_Disk_Write (some i) (k : Int) x H = some (0, H') ∧ WIn H' i j { d with now := d.now.set k x, wait := d.wait ++ [⟨k, x⟩] } s base slot used com := by
  obtain ⟨H', e1, e2, e3⟩ := n_Write h.dsk h.off h.fuse hk hx hw
  refine ⟨H', e1, ⟨e2, h.off, by rw [e3]; exact h.lg, h.s3, ?_, ?_, h.bs⟩, h.fuse⟩
  · show _ < (d.now.set k x).length
    rw [List.length_set]; exact h.sl
  · show (d.now.set k x).length ≤ _
    rw [List.length_set]; exact h.ln
theorem WIn.fl (h : WIn H i j d s base slot used com) (hw : d.wait.length < 1000000) :
    ∃ H', m_disk_Disk_Flush (some i) H = some (0, H') ∧ WIn H' i j { d with kept := d.now, wait := [] } s base slot used com := by
  have := h.sl
  obtain ⟨H', e1, e2, e3⟩ := n_Flush h.dsk h.off h.fuse (by omega) hw
  exact ⟨H', e1, ⟨e2, h.off, by rw [e3]; exact h.lg, h.s3, h.sl, h.ln, h.bs⟩, h.fuse⟩
theorem WIn.jl (h : WIn H i j d s base slot used com) : j < H.lg.length := (List.getElem?_eq_some_iff.1 h.lg).1

/-! ### redo -/
def rd (s : Nat) (now : List (List UInt8)) (ws : List S_api_Write) : List (List UInt8) := ws.foldl (fun t w => t.set (2 + s + w.Home.toNat) w.Data) now
theorem n_redo_l1 {ws : List S_api_Write} (hwl : ws.length ≤ 100000) : ∀ (n z : Nat) (H : Hp) (d : Dsk), WIn H i j d s base slot used com → Good s d.now.length ws → d.wait.length + (ws.length - z) ≤ 200000 → z ≤ ws.length → ws.length - z < n →
    ∃ H' d', m_wal_Log_redo_l1 ws (some j) n (z : Int) H = some (0, H') ∧ WIn H' i j d' s base slot used com ∧ d'.now = rd s d.now (ws.drop z) ∧ d'.kept = d.kept ∧ d'.wait.length ≤ d.wait.length + (ws.length - z) ∧ d'.lives = d.lives
  | 0, z, _, _, _, _, _, _, h => by omega
  | n + 1, z, H, d, h, hg, hw, hz, hn => by
    have := h.ln
    have := h.sl
    unfold m_wal_Log_redo_l1
    by_cases hlt : z < ws.length
    · obtain ⟨w1, w2, w3⟩ := hg _ (List.getElem_mem hlt)
      have hH : ws[z].Home = (ws[z].Home.toNat : Int) := (Int.toNat_of_nonneg w1).symm
      have hb : 2 + s + ws[z].Home.toNat < d.now.length := by omega
      rw [bif_pos (dec_t (by omega)), idx_nat hlt, Option.bind_some]
      show ∃ H' d', Option.bind (H.lg[j]?) _ = _ ∧ _
      rw [h.lg, Option.bind_some]
      have e1 : m_wal_Log_home (some j) ws[z].Home H = some ((2 + s + ws[z].Home.toNat : Nat) : Int) := by
        have := n_home h.toLIn ws[z].Home.toNat (by omega)
        rwa [← hH] at this
      rw [e1, Option.bind_some]
      obtain ⟨H1, g1, g2⟩ := h.wr hb w3 (by omega)
      show ∃ H' d', Option.bind (m_disk_Disk_Write (some i) ((2 + s + ws[z].Home.toNat : Nat) : Int) ws[z].Data H) _ = _ ∧ _
      rw [g1, Option.bind_some, bif_neg (by rfl), wi_succ (by omega)]
      obtain ⟨H', d', k1, k2, k3, k4, k5, k6⟩ := n_redo_l1 hwl n (z + 1) H1 _ g2 (by show Good s (d.now.set _ _).length ws; rw [List.length_set]; exact hg) (by show (d.wait ++ [_]).length + _ ≤ _; simp; omega) (by omega) (by omega)
      refine ⟨H', d', k1, k2, ?_, k4, ?_, k6⟩
      · rw [k3, List.drop_eq_getElem_cons hlt]
        rfl
      · have k5' : d'.wait.length ≤ (d.wait ++ [_]).length + (ws.length - (z + 1)) := k5
        simp at k5'
        omega
    · have e : z = ws.length := by omega
      subst e
      rw [bif_neg (dec_f (by omega))]
      exact ⟨H, d, rfl, h, by rw [List.drop_length]; rfl, rfl, by omega, rfl⟩
theorem n_redo {ws : List S_api_Write} (h : WIn H i j d s base slot used com) (hwl : ws.length ≤ 100000) (hg : Good s d.now.length ws) (hw : d.wait.length ≤ 100000) :
    ∃ H' d', m_wal_Log_redo (some j) ws H = some (0, H') ∧ WIn H' i j d' s base slot used com ∧ d'.now = rd s d.now ws ∧ d'.kept = d.kept ∧ d'.wait.length ≤ d.wait.length + ws.length ∧ d'.lives = d.lives :=
  n_redo_l1 hwl (ws.length + 1) 0 H d h hg (by omega) (by omega) (by omega)

/-! ### raise, Checkpoint -/
theorem n_raise (h : WIn H i j d s base slot used com) (hs : slot ≤ 1) (hb : base + s + s ≤ 2305843009213693952) (hw : d.wait.length < 999999) :
    ∃ H' d', m_wal_Log_raise (some j) H = some (0, H') ∧ WIn H' i j d' s (base + s) (1 - slot) 0 com ∧ d'.now = d.now.set (1 - slot) (slotB (base + s) s) ∧ d'.kept = d'.now ∧ d'.wait = [] ∧ d'.lives = d.lives := by
  have := h.sl
  have := h.ln
  unfold m_wal_Log_raise
  show ∃ H' d', Option.bind (H.lg[j]?) _ = _ ∧ _
  rw [h.lg, Option.bind_some]
  show ∃ H' d', Option.bind (m_wal_slotBytes (wi ((base : Int) + (s : Int))) (s : Int)) _ = _ ∧ _
  rw [wi_id (z := (base : Int) + (s : Int)) (by omega) (by omega), show (base : Int) + (s : Int) = ((base + s : Nat) : Int) by omega, n_slotBytes (by omega) (by omega), Option.bind_some]
  obtain ⟨H1, g1, g2⟩ := h.wr (k := 1 - slot) (by omega) (slotB_len (base + s) s) (by omega)
  show ∃ H' d', Option.bind (m_disk_Disk_Write (some i) (wi (1 - (slot : Int))) (slotB (base + s) s) H) _ = _ ∧ _
  rw [wi_id (z := 1 - (slot : Int)) (by omega) (by omega), show 1 - (slot : Int) = ((1 - slot : Nat) : Int) by omega, g1, Option.bind_some, bif_neg (by rfl)]
  show ∃ H' d', Option.bind (H1.lg[j]?) _ = _ ∧ _
  rw [g2.lg, Option.bind_some]
  obtain ⟨H2, k1, k2⟩ := g2.fl (by show (d.wait ++ [_]).length < _; simp; omega)
  show ∃ H' d', Option.bind (m_disk_Disk_Flush (some i) H1) _ = _ ∧ _
  rw [k1, Option.bind_some, bif_neg (by rfl)]
  show ∃ H' d', Option.bind (H2.lg[j]?) _ = _ ∧ _
  rw [k2.lg, Option.bind_some]
  refine ⟨_, _, rfl, ⟨⟨k2.dsk.lg rfl rfl, k2.off, ?_, h.s3, k2.sl, k2.ln, by omega⟩, k2.fuse⟩, rfl, rfl, rfl, rfl⟩
  have hj := k2.jl
  show (((H2.lg.set j _).set j _).set j _)[j]? = _
  rw [List.getElem?_set_self (by simp; omega)]
  show some (S_wal_Log.mk _ _ (wi ((base : Int) + (s : Int))) _ _ _ _) = _
  rw [wi_id (z := (base : Int) + (s : Int)) (by omega) (by omega), show (base : Int) + (s : Int) = ((base + s : Nat) : Int) by omega]
  rfl
theorem n_Checkpoint (h : WIn H i j d s base slot used com) (hs : slot ≤ 1) (hb : base + s + s ≤ 2305843009213693952) (hw : d.wait.length < 999999) :
    ∃ H' d', m_wal_Log_Checkpoint (some j) H = some (0, H') ∧ WIn H' i j d' s (base + s) (1 - slot) 0 com ∧ d'.now = d.now.set (1 - slot) (slotB (base + s) s) ∧ d'.kept = d'.now ∧ d'.wait = [] ∧ d'.lives = d.lives := by
  have := h.sl
  have := h.ln
  unfold m_wal_Log_Checkpoint
  rw [n_alive h.toLIn, Option.bind_some, bif_neg (by rfl)]
  show ∃ H' d', Option.bind (H.lg[j]?) _ = _ ∧ _
  rw [h.lg, Option.bind_some]
  show ∃ H' d', (bif decide ((base : Int) > wi (2305843009213693952 - (s : Int))) then _ else _) = _ ∧ _
  rw [wi_id (z := 2305843009213693952 - (s : Int)) (by omega) (by omega), bif_neg (dec_f (by omega))]
  obtain ⟨H1, g1, g2⟩ := h.fl (by omega)
  show ∃ H' d', Option.bind (m_disk_Disk_Flush (some i) H) _ = _ ∧ _
  rw [g1, Option.bind_some, bif_neg (by rfl)]
  obtain ⟨H', d', k1, k2, k3, k4, k5, k6⟩ := n_raise g2 hs hb (by show ([] : List S_disk_write).length < _; simp)
  show ∃ H' d', Option.bind (m_wal_Log_raise (some j) H1) _ = _ ∧ _
  rw [k1, Option.bind_some]
  exact ⟨H', d', rfl, k2, k3, k4, k5, k6⟩

/-! ### Commit -/
/-! ### Format -/
abbrev Z64 : List UInt8 := List.replicate 64 0
theorem n_Format_l2 {n s : Nat} (hn : n ≤ 16384) (hs : 2 + s < n) : ∀ (m z : Nat) (H : Hp) (d : Dsk), DIn H i d → d.off = false → d.fuse < 0 → d.now = List.replicate n Z64 → d.wait.length + (2 + s - z) ≤ 200000 → z ≤ 2 + s → 2 + s - z < m →
    ∃ H' d', m_wal_Format_l2 (s : Int) (some i) m (z : Int) H = m_wal_Format_j1 (some i) (s : Int) H' ∧ DIn H' i d' ∧ d'.off = false ∧ d'.fuse < 0 ∧ d'.now = List.replicate n Z64 ∧ d'.wait.length ≤ 200000 ∧ d'.lives = d.lives ∧ H'.lg = H.lg
  | 0, z, _, _, _, _, _, _, _, _, h => by omega
  | m + 1, z, H, d, h, ho, hf, hnow, hw, hz, hm => by
    unfold m_wal_Format_l2
    rw [wi_id (z := 2 + (s : Int)) (by omega) (by omega)]
    by_cases hlt : z < 2 + s
    · rw [bif_pos (dec_t (by omega))]
      obtain ⟨H1, g1, g2, g3⟩ := n_Write h ho hf (k := z) (x := Z64) (by rw [hnow, List.length_replicate]; omega) (by simp) (by omega)
      show ∃ H' d', Option.bind (m_disk_Disk_Write (some i) (z : Int) Z64 H) _ = _ ∧ _
      rw [g1, Option.bind_some, bif_neg (by rfl), wi_succ (by omega)]
      obtain ⟨H', d', k1, k2, k3, k4, k5, k6, k7, k8⟩ := n_Format_l2 hn hs m (z + 1) H1 _ g2 ho hf (by show d.now.set z Z64 = _; rw [hnow, List.set_replicate_self]) (by show (d.wait ++ [_]).length + _ ≤ _; simp; omega) (by omega) (by omega)
      exact ⟨H', d', k1, k2, k3, k4, k5, k6, k7, by rw [k8, g3]⟩
    · rw [bif_neg (dec_f (by omega))]
      exact ⟨H, d, rfl, h, ho, hf, hnow, by omega, rfl, rfl⟩
theorem n_room {n : Nat} (h : DIn H i d) (hl : d.now.length = n) (hn : n ≤ 16384) (hs : 3 ≤ s) (h2 : 2 + s < n) : m_wal_room (some i) (s : Int) H = some true := by
  unfold m_wal_room
  rw [bif_pos (dec_t (by omega)), n_Size h (by omega), Option.bind_some, wi_id (z := (d.now.length : Int) - 2) (by omega) (by omega), wi_id (by omega) (by omega), dec_t (by omega)]
theorem n_Format {n s : Nat} (h : DIn H i d) (ho : d.off = false) (hf : d.fuse < 0) (hnow : d.now = List.replicate n Z64) (hw : d.wait = []) (hn : n ≤ 16384) (hs : 3 ≤ s) (h2 : 2 + s < n) :
    ∃ H' d', m_wal_Format (some i) (s : Int) H = some (0, H') ∧ DIn H' i d' ∧ d'.off = false ∧ d'.fuse < 0 ∧ d'.now = (List.replicate n Z64).set 0 (slotB 1 s) ∧ d'.kept = d'.now ∧ d'.wait = [] ∧ d'.lives = d.lives ∧ H'.lg = H.lg := by
  have hl : d.now.length = n := by rw [hnow, List.length_replicate]
  unfold m_wal_Format
  rw [n_Size h (by omega), Option.bind_some, bif_neg (ieq_f (by omega)), n_room h hl hn hs h2, Option.bind_some, bif_neg (by rfl), wi_id (z := 2 + (s : Int)) (by omega) (by omega)]
  obtain ⟨H1, d1, g1, g2, g3, g4, g5, g6, g7, g8⟩ := n_Format_l2 (s := s) hn h2 ((2 + (s : Int)).toNat + 1) 1 H d h ho hf hnow (by rw [hw]; simp; omega) (by omega) (by omega)
  rw [show ((1 : Nat) : Int) = 1 from rfl] at g1
  rw [g1]
  unfold m_wal_Format_j1
  obtain ⟨H2, k1, k2, k3⟩ := n_Flush g2 g3 g4 (by rw [g5, List.length_replicate]; omega) (by omega)
  rw [k1, Option.bind_some, bif_neg (by rfl)]
  have eS := n_slotBytes (b := 1) (s := s) (by omega) (by omega)
  rw [show ((1 : Nat) : Int) = 1 from rfl] at eS
  rw [eS, Option.bind_some]
  obtain ⟨H3, m1, m2, m3⟩ := n_Write k2 g3 g4 (k := 0) (by show 0 < d1.now.length; rw [g5, List.length_replicate]; omega) (slotB_len 1 s) (by show ([] : List S_disk_write).length < _; simp)
  rw [show ((0 : Nat) : Int) = 0 from rfl] at m1
  show ∃ H' d', Option.bind (m_disk_Disk_Write (some i) 0 (slotB 1 s) H2) _ = _ ∧ _
  rw [m1, Option.bind_some, bif_neg (by rfl)]
  obtain ⟨H4, q1, q2, q3⟩ := n_Flush m2 g3 g4 (by show 0 < (d1.now.set 0 _).length; rw [List.length_set, g5, List.length_replicate]; omega) (by show ([] ++ [_] : List S_disk_write).length < _; simp)
  show ∃ H' d', Option.bind (m_disk_Disk_Flush (some i) H3) _ = _ ∧ _
  rw [q1]
  exact ⟨H4, _, rfl, q2, g3, g4, by show d1.now.set 0 _ = _; rw [g5], rfl, rfl, g7, by rw [q3, m3, k3, g8]⟩

/-! ### Open -/
theorem n_readSlot {n b s k : Nat} (h : DIn H i d) (ho : d.off = false) (hl : d.now.length = n) (hn : n ≤ 16384) (hs : 3 ≤ s) (h2 : 2 + s < n) (hb : 1 ≤ b) (hb2 : b ≤ 2305843009213693952) (hr : d.now[k]? = some (slotB b s)) : m_wal_readSlot (some i) (k : Int) H = some ((b : Int), (s : Int), true) := by
  unfold m_wal_readSlot
  rw [n_Read h ho hr, Option.bind_some, bif_neg (by rfl)]
  have hL := slotB_len b s
  have e1 : cutI (slotB b s) 0 8 = some (be 8 b) := by
    have := cutI_mid (l := slotB b s) (lo := 0) (n := 8) (by omega) 8 rfl
    rw [show ((0 : Nat) : Int) = 0 from rfl, List.drop_zero] at this
    rw [this]
    unfold slotB
    rw [List.take_left' (be_length 8 b)]
  have e2 : cutI (slotB b s) 56 ((slotB b s).length : Int) = some (be 8 b) := by
    have := cutI_drop (l := slotB b s) (n := 56) (by omega)
    rw [show ((56 : Nat) : Int) = 56 from rfl] at this
    rw [this]
    unfold slotB
    rw [show be 8 b ++ (be 4 s ++ (List.replicate 44 (0 : UInt8) ++ be 8 b)) = (be 8 b ++ (be 4 s ++ List.replicate 44 (0 : UInt8))) ++ be 8 b by simp only [List.append_assoc], List.drop_left' (by simp [be_length])]
  have e3 : cutI (slotB b s) 8 12 = some (be 4 s) := by
    have := cutI_mid (l := slotB b s) (lo := 8) (n := 4) (by omega) 12 rfl
    rw [show ((8 : Nat) : Int) = 8 from rfl] at this
    rw [this]
    unfold slotB
    rw [List.drop_left' (be_length 8 b), List.take_left' (be_length 4 s)]
  have e4 : cutI (slotB b s) 12 56 = some (List.replicate 44 0) := by
    have := cutI_mid (l := slotB b s) (lo := 12) (n := 44) (by omega) 56 rfl
    rw [show ((12 : Nat) : Int) = 12 from rfl] at this
    rw [this]
    unfold slotB
    rw [show be 8 b ++ (be 4 s ++ (List.replicate 44 (0 : UInt8) ++ be 8 b)) = (be 8 b ++ be 4 s) ++ (List.replicate 44 (0 : UInt8) ++ be 8 b) by simp only [List.append_assoc], List.drop_left' (by simp [be_length]), List.take_left' (by simp)]
  obtain ⟨gb, gb2⟩ := getN_be (n := b) (k := 8) (by omega) (by omega) (by omega) (by omega)
  obtain ⟨gs, gs2⟩ := getN_be (n := s) (k := 4) (by omega) (by omega) (by omega) (by omega)
  show Option.bind (cutI (slotB b s) 0 8) _ = _
  rw [e1, Option.bind_some, n_Get, Option.bind_some]
  show Option.bind (cutI (slotB b s) 56 ((slotB b s).length : Int)) _ = _
  rw [e2, Option.bind_some, n_Get, Option.bind_some]
  show Option.bind (cutI (slotB b s) 8 12) _ = _
  rw [e3, Option.bind_some, n_Get, Option.bind_some, gb, gb2, gs, gs2]
  rw [bif_neg (by rfl), bif_neg (by rfl), bif_neg (by rfl), bif_neg (ine_f rfl), bif_neg (dec_f (by show ¬ (b : Int) < 1; omega)), bif_neg (dec_f (by show ¬ (b : Int) > 2305843009213693952; omega))]
  show Option.bind (m_wal_room (some i) (s : Int) H) _ = _
  rw [n_room h hl hn hs h2, Option.bind_some, bif_neg (by rfl)]
  show Option.bind (cutI (slotB b s) 12 56) _ = _
  rw [e4, Option.bind_some, show m_wal_noughts (List.replicate 44 0) = some true by decide +kernel, Option.bind_some, bif_neg (by rfl)]
theorem n_readZero {k : Nat} (h : DIn H i d) (ho : d.off = false) (hr : d.now[k]? = some Z64) : m_wal_readSlot (some i) (k : Int) H = some (0, 0, false) := by
  unfold m_wal_readSlot
  rw [n_Read h ho hr, Option.bind_some, bif_neg (by rfl)]
  show Option.bind (cutI Z64 0 8) _ = _
  rw [show cutI Z64 0 8 = some (List.replicate 8 0) by decide +kernel, Option.bind_some, show m_word_Get (List.replicate 8 0) = some (0, 0) by decide +kernel, Option.bind_some]
  show Option.bind (cutI Z64 56 64) _ = _
  rw [show cutI Z64 56 64 = some (List.replicate 8 0) by decide +kernel, Option.bind_some, show m_word_Get (List.replicate 8 0) = some (0, 0) by decide +kernel, Option.bind_some]
  show Option.bind (cutI Z64 8 12) _ = _
  rw [show cutI Z64 8 12 = some (List.replicate 4 0) by decide +kernel, Option.bind_some, show m_word_Get (List.replicate 4 0) = some (0, 0) by decide +kernel, Option.bind_some]
  rfl
theorem n_Open_take {H0 K : Hp} {x : S_wal_Log} {b s n z : Nat} (hK : DIn K i d) (hx : K.lg[H0.lg.length]? = some x) (hz : z < 2) (hr : m_wal_readSlot (some i) (z : Int) K = some ((b : Int), (s : Int), true)) (hb : x.base_ < (b : Int)) :
    ∃ K', m_wal_Open_l5 i H0 (n + 1) (z : Int) K = m_wal_Open_l5 i H0 n ((z + 1 : Nat) : Int) K' ∧ K'.lg[H0.lg.length]? = some ⟨x.d_, s, b, z, x.used_, x.life_, x.commits_⟩ ∧ DIn K' i d := by
  have hl : H0.lg.length < K.lg.length := (List.getElem?_eq_some_iff.1 hx).1
  rw [m_wal_Open_l5, bif_pos (dec_t (by omega)), hr, Option.bind_some, bif_pos (by rfl)]
  show ∃ K', Option.bind (K.lg[H0.lg.length]?) _ = _ ∧ _
  rw [hx, Option.bind_some, dec_t (show (b : Int) > x.base_ from hb)]
  unfold m_wal_Open_j6
  rw [bif_pos (by rfl)]
  show ∃ K', Option.bind (K.lg[H0.lg.length]?) _ = _ ∧ _
  rw [hx, Option.bind_some, wi_succ (by omega)]
  refine ⟨_, rfl, ?_, hK.lg rfl rfl⟩
  show (((K.lg.set H0.lg.length _).set H0.lg.length _).set H0.lg.length _)[H0.lg.length]? = _
  rw [List.getElem?_set_self (by simp; omega)]
theorem n_Open_skip {H0 K : Hp} {u v : Int} {n z : Nat} (hz : z < 2) (hr : m_wal_readSlot (some i) (z : Int) K = some (u, v, false)) : m_wal_Open_l5 i H0 (n + 1) (z : Int) K = m_wal_Open_l5 i H0 n ((z + 1 : Nat) : Int) K := by
  rw [m_wal_Open_l5, bif_pos (dec_t (by omega)), hr, Option.bind_some, bif_neg (by rfl)]
  unfold m_wal_Open_j6
  rw [bif_neg (by rfl), wi_succ (by omega)]
theorem n_Open_l5 {n b s : Nat} (h : DIn H i d) (ho : d.off = false) (hf : d.fuse < 0) (hl : d.now.length = n) (hn : n ≤ 16384) (hs : 3 ≤ s) (h2 : 2 + s < n) (hb : 1 ≤ b) (hb2 : b + s ≤ 2305843009213693952) (h0 : d.now[0]? = some (slotB b s)) (c : Nat) (h1 : d.now[1]? = some Z64 ∧ c = 0 ∨ d.now[1]? = some (slotB c s) ∧ b < c ∧ c + s ≤ 2305843009213693952) :
    ∃ K, m_wal_Open (some i) H = m_wal_Open_j4 H K ∧ WIn K i H.lg.length d s (if c = 0 then b else c) (if c = 0 then 0 else 1) 0 0 := by
  unfold m_wal_Open
  rw [n_Size h (by omega), Option.bind_some, bif_neg (ieq_f (by omega)), n_Off h (by omega), Option.bind_some, ho, bif_neg (by rfl)]
  show ∃ K, Option.bind (m_disk_Disk_Lives (some i) H) _ = _ ∧ _
  rw [n_Lives h (by omega), Option.bind_some]
  have hK0 : DIn (H.nw_lg ⟨some i, 0, 0, 0, 0, d.lives, 0⟩) i d := h.lg rfl rfl
  obtain ⟨K1, g1, g2, g3⟩ := n_Open_take (H0 := H) (n := 2) (z := 0) hK0 (x := ⟨some i, 0, 0, 0, 0, d.lives, 0⟩) (by show (H.lg ++ [_])[H.lg.length]? = _; simp) (by omega) (n_readSlot hK0 ho hl hn hs h2 hb (by omega) h0) (by show (0 : Int) < (b : Int); omega)
  show ∃ K, m_wal_Open_l5 i H (2 + 1) ((0 : Nat) : Int) (H.nw_lg ⟨some i, 0, 0, 0, 0, d.lives, 0⟩) = _ ∧ _
  rw [g1]
  rcases h1 with ⟨h1, rfl⟩ | ⟨h1, h3, h4⟩
  · rw [n_Open_skip (z := 0 + 1) (by omega) (n_readZero g3 ho h1)]
    refine ⟨K1, ?_, ⟨g3, ho, g2, hs, by omega, by omega, hb2⟩, hf⟩
    show m_wal_Open_l5 i H (0 + 1) 2 K1 = _
    rw [m_wal_Open_l5, bif_neg (by decide)]
  · obtain ⟨K2, k1, k2, k3⟩ := n_Open_take (H0 := H) (n := 1) (z := 0 + 1) g3 g2 (by omega) (n_readSlot g3 ho hl hn hs h2 (by omega) (by omega) h1) (by show (b : Int) < (c : Int); omega)
    rw [k1, if_neg (by omega), if_neg (by omega)]
    refine ⟨K2, ?_, ⟨k3, ho, k2, hs, by omega, by omega, h4⟩, hf⟩
    show m_wal_Open_l5 i H (0 + 1) 2 K2 = _
    rw [m_wal_Open_l5, bif_neg (by decide)]
theorem n_Open_j4 {K : Hp} {L : List S_api_Write} (h : WIn K i H.lg.length d s base slot 0 com) (h1 : 1 ≤ base) (hs : slot ≤ 1) (hb : base + s + s ≤ 2305843009213693952) (hL : m_wal_Log_says (some H.lg.length) K = some L) (hg : Good s d.now.length L) (hl : L.length ≤ 100000) (hw : d.wait.length ≤ 1000) :
    ∃ H' d', m_wal_Open_j4 H K = some (some H.lg.length, 0, H') ∧ WIn H' i H.lg.length d' s (base + s) (1 - slot) 0 com ∧ d'.now = (rd s d.now L).set (1 - slot) (slotB (base + s) s) ∧ d'.kept = d'.now ∧ d'.wait = [] ∧ d'.lives = d.lives := by
  have := h.ln
  have := h.sl
  unfold m_wal_Open_j4
  show ∃ H' d', Option.bind (K.lg[H.lg.length]?) _ = _ ∧ _
  rw [h.lg, Option.bind_some]
  show ∃ H' d', (bif ((base : Int) == 0) then _ else bif decide ((base : Int) > wi (2305843009213693952 - (s : Int))) then _ else _) = _ ∧ _
  rw [bif_neg (ieq_f (by omega)), wi_id (z := 2305843009213693952 - (s : Int)) (by omega) (by omega), bif_neg (dec_f (by omega))]
  show ∃ H' d', Option.bind (m_wal_Log_says (some H.lg.length) K) _ = _ ∧ _
  rw [hL, Option.bind_some]
  obtain ⟨H1, d1, g1, g2, g3, g4, g5, g6⟩ := n_redo h hl hg (by omega)
  show ∃ H' d', Option.bind (m_wal_Log_redo (some H.lg.length) L K) _ = _ ∧ _
  rw [g1, Option.bind_some, bif_neg (by rfl)]
  obtain ⟨H2, d2, k1, k2, k3, k4, k5, k6⟩ := n_Checkpoint g2 hs hb (by omega)
  show ∃ H' d', Option.bind (m_wal_Log_Checkpoint (some H.lg.length) H1) _ = _ ∧ _
  rw [k1, Option.bind_some, bif_neg (by rfl)]
  exact ⟨H2, d2, rfl, k2, by rw [k3, g3], k4, k5, by rw [k6, g6]⟩
end
end Go.Proofs.Ytjomnccladjpgaa
