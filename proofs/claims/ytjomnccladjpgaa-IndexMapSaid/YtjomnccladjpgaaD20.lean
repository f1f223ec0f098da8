/-
  Texts joined: see the remark at the head of each part.
-/
import Derived.Test.YtjomnccladjpgaaD19
import Derived.Test.YtjomnccladjpgaaD11
set_option linter.unusedVariables false
set_option linter.unusedSimpArgs false
/-
 Loops of models: what they tell, where they go on, what they gather.
-/
namespace Go.Proofs.Ytjomnccladjpgaa
open Go Go.RowKit
set_option linter.unusedVariables false
set_option linter.unusedSimpArgs false
def zD4 (x : Option Bool) (p : Prop) : Prop := ∃ r, x = some r ∧ (r = true ↔ p)
theorem zD4.iff {x : Option Bool} {p q : Prop} (h : zD4 x p) (hpq : p ↔ q) : zD4 x q := by
 obtain ⟨r, h1, h2⟩ := h
 exact ⟨r, h1, h2.trans hpq⟩
theorem zD4.yes {x : Option Bool} {p : Prop} (h : zD4 x p) (hp : p) : x = some true := by
 obtain ⟨r, h1, h2⟩ := h
 rw [h1, h2.2 hp]
theorem zD4.no {x : Option Bool} {p : Prop} (h : zD4 x p) (hp : ¬ p) : x = some false := by
 obtain ⟨r, h1, h2⟩ := h
 cases r with
 | false => exact h1
 | true => exact absurd (h2.1 rfl) hp
theorem zD4.of {b : Bool} {p : Prop} (h : b = true ↔ p) : zD4 (some b) p := ⟨b, rfl, h⟩
theorem zD4.bool {x : Option Bool} {b : Bool} (h : zD4 x (b = true)) : x = some b := by
 cases b with
 | true => exact h.yes rfl
 | false => exact h.no (by simp)
theorem zG7 {len : Nat} (F : Nat → Int → Option Bool) (P : Nat → Prop) (E : Prop)
  (hstep : ∀ n i, i < len → ∃ c : Bool, (c = true ↔ P i) ∧ F (n + 1) (i : Int) = bif c then F n ((i + 1 : Nat) : Int) else some false)
  (hend : ∀ n, zD4 (F (n + 1) (len : Int)) E) : ∀ n i, i ≤ len → len - i < n → zD4 (F n (i : Int)) ((∀ j, i ≤ j → j < len → P j) ∧ E)
 | 0, i, _, h => by omega
 | n + 1, i, hi, h => by
  by_cases hlt : i < len
  ·
   obtain ⟨c, hc, he⟩ := hstep n i hlt
   rw [he]
   cases c with
   | false =>
    refine ⟨false, rfl, ⟨fun h => Bool.noConfusion h, fun h => ?_⟩⟩
    exact hc.2 (h.1 i (Nat.le_refl _) hlt)
   | true =>
    refine (zG7 F P E hstep hend n (i + 1) (by omega) (by omega)).iff ⟨fun h => ⟨fun j h1 h2 => ?_, h.2⟩, fun h => ⟨fun j h1 h2 => h.1 j (by omega) h2, h.2⟩⟩
    by_cases e : j = i
    · subst e; exact hc.1 rfl
    · exact h.1 j (by omega) h2
  ·
   have e : i = len := by omega
   subst e
   exact (hend n).iff ⟨fun h => ⟨fun j h1 h2 => by omega, h⟩, fun h => h.2⟩
end Go.Proofs.Ytjomnccladjpgaa

/-
 Plain arithmetic of the checksum, no program in sight: one step of the register, eight steps, a list of bytes; the step is injective below 2^32, so one turned byte turns the sum; the document's way (register and byte shifted side by side) comes to the same.
-/
namespace Go.Proofs.Ytjomnccladjpgaa.Crc
def poly : Nat := 3988292384
def stp (x : Nat) : Nat := if x % 2 = 1 then (x / 2) ^^^ poly else x / 2
def stpN : Nat → Nat → Nat
 | 0, x => x
 | k + 1, x => stpN k (stp x)
def upd (x c : Nat) : Nat := stpN 8 (x ^^^ c)
def run (x : Nat) (l : List UInt8) : Nat := l.foldl (fun x c => upd x c.toNat) x
def crc (l : List UInt8) : Nat := 4294967295 - run 4294967295 l
theorem xor_lt {a b : Nat} (ha : a < 4294967296) (hb : b < 4294967296) : a ^^^ b < 4294967296 := Nat.xor_lt_two_pow (n := 32) ha hb
theorem stp_lt {x : Nat} (h : x < 4294967296) : stp x < 4294967296 := by
 unfold stp
 split
 · exact xor_lt (by omega) (by decide)
 · omega
theorem stpN_lt (k : Nat) {x : Nat} (h : x < 4294967296) : stpN k x < 4294967296 := by
 induction k generalizing x with
 | zero => exact h
 | succ k ih => exact ih (stp_lt h)
theorem upd_lt {x : Nat} (h : x < 4294967296) (c : UInt8) : upd x c.toNat < 4294967296 := by
 have := c.toNat_lt
 exact stpN_lt 8 (xor_lt h (by omega))
theorem run_lt (l : List UInt8) {x : Nat} (h : x < 4294967296) : run x l < 4294967296 := by
 induction l generalizing x with
 | nil => exact h
 | cons c l ih => exact ih (upd_lt h c)
theorem run_append (x : Nat) (a b : List UInt8) : run x (a ++ b) = run (run x a) b := by simp [run, List.foldl_append]
theorem crc_le (l : List UInt8) : crc l < 4294967296 := by unfold crc; omega
end Go.Proofs.Ytjomnccladjpgaa.Crc

/-
 Plain: what the bytes of slots and entries are.
-/
namespace Go.Proofs.Ytjomnccladjpgaa
open Go Go.RowKit
set_option linter.unusedVariables false
set_option linter.unusedSimpArgs false
theorem zCg {α : Type} {l : List α} {lo n : Nat} (h : lo + n ≤ l.length) (z : Int) (hz : z = ((lo + n : Nat) : Int)) : cutI l (lo : Int) z = some ((l.drop lo).take n) := by
 subst hz
 unfold cutI
 rw [if_pos ⟨by omega, by omega, by omega⟩, Int.toNat_natCast, Int.toNat_natCast, List.drop_take]
 simp
def getN (b : List UInt8) : Int := if b.length = 0 ∨ 8 < b.length ∨ 4611686018427387904 < ofBE b then 0 else ofBE b
def getE (b : List UInt8) : Int := if b.length = 0 then 10 else if 8 < b.length then 2 else if 4611686018427387904 < ofBE b then 11 else 0
theorem zJb (b : List UInt8) (hb : b.length ≤ 8) : ∀ (n i : Nat), i ≤ b.length → b.length - i < n → zB5 b n ((ofBE (b.take i) : Nat) : Int) (i : Int) = zCZ ((ofBE b : Nat) : Int)
 | 0, i, _, h => by omega
 | n + 1, i, hi, h => by
  unfold zB5
  by_cases hlt : i < b.length
  ·
   have hsm : ofBE (b.take i) < 72057594037927936 := by
    have h := zGX i (b.take i) (by simp; omega)
    have : 256 ^ i ≤ 256 ^ 7 := Nat.pow_le_pow_right (by omega) (by omega)
    omega
   have ht : ofBE (b.take (i + 1)) = ofBE (b.take i) * 256 + b[i].toNat := by rw [← List.take_append_getElem hlt, zFe]
   rw [zX (zAe (by omega)), zAj hlt, Option.bind_some, get_step _ _ hsm b[i].toNat_lt, ← ht, zAI (by omega)]
   exact zJb b hb n (i + 1) (by omega) (by omega)
  · rw [zG (yY (by omega)), List.take_of_length_le (by omega)]
theorem zJx (b : List UInt8) : zBH b = some (getN b, getE b) := by
 unfold zBH getN getE
 by_cases h0 : b.length = 0
 · rw [zX (ieq_t (by omega)), if_pos (.inl h0), if_pos h0]
 ·
  rw [zG (zDn (by omega)), if_neg h0]
  by_cases h8 : 8 < b.length
  · rw [zX (zAe (by omega)), if_pos (.inr (.inl h8)), if_pos h8]
  ·
   rw [zG (yY (by omega)), if_neg h8]
   have := zJb b (by omega) (b.length + 1) 0 (Nat.zero_le _) (by omega)
   have h : zB5 b (b.length + 1) 0 0 = zCZ ((ofBE b : Nat) : Int) := this
   rw [h]
   unfold zCZ
   by_cases hb : 4611686018427387904 < ofBE b
   · rw [zX (zAe (by omega)), if_pos (.inr (.inr hb)), if_pos hb]
   · rw [zG (yY (by omega)), if_neg (by omega), if_neg hb, zBe (by omega) (by omega)]
theorem zJS {b : List UInt8} (h : b.length = 4) : getN b = ofBE b ∧ getE b = 0 := by
 have := zGX 4 b h
 unfold getN getE
 rw [if_neg (by omega), if_neg (by omega), if_neg (by omega), if_neg (by omega)]
 exact ⟨rfl, rfl⟩
theorem getN_be {n k : Nat} (h : n < 256 ^ k) (h1 : 1 ≤ k) (h8 : k ≤ 8) (hn : n ≤ 4611686018427387904) : getN (be k n) = n ∧ getE (be k n) = 0 := by
 have e : ofBE (be k n) = n := by rw [zHK, Nat.mod_eq_of_lt h]
 unfold getN getE
 rw [e, zR, if_neg (by omega), if_neg (by omega), if_neg (by omega), if_neg (by omega)]
 exact ⟨rfl, rfl⟩
theorem zIL {p : List UInt8} {o k n : Nat} (h : o + k ≤ p.length) (hn : n < 256 ^ k) (h1 : 1 ≤ k) (h8 : k ≤ 8) (hm : n ≤ 4611686018427387904) : yU p o k (n : Int) = some (p.take o ++ (be k n ++ p.drop (o + k))) := by
 unfold yU zDx
 rw [if_pos ⟨by omega, by omega, by omega, by omega, by simpa using hn⟩, Option.bind_some]
 unfold cpyI
 rw [if_pos h, Option.bind_some]
 have e : cpyL p o k (be k n) = p.take o ++ (be k n ++ p.drop (o + k)) := by
  unfold cpyL
  rw [zR, Nat.min_self, List.take_of_length_le (l := be k n) (by rw [zR]; omega)]
 simp only [Int.toNat_natCast]
 rw [e]
 unfold lenI
 rw [if_pos (by simp [zR]; omega)]
 rfl
def zBp (b s : Nat) : List UInt8 := be 8 b ++ (be 4 s ++ (List.replicate 44 0 ++ be 8 b))
theorem zFP (b s : Nat) : (zBp b s).length = 64 := by simp [zBp, zR]
theorem zGM {b s : Nat} (hb : b ≤ 4611686018427387904) (hs : s < 4294967296) : zBP (b : Int) (s : Int) = some (zBp b s) := by
 have hR : (List.replicate 64 (0 : UInt8)).length = 64 := List.length_replicate
 have e1 := zIL (p := List.replicate 64 (0 : UInt8)) (o := 0) (k := 8) (n := b) (by rw [hR]; omega) (by omega) (by omega) (by omega) hb
 have l1 : ((List.replicate 64 (0 : UInt8)).take 0 ++ (be 8 b ++ (List.replicate 64 (0 : UInt8)).drop (0 + 8))) = be 8 b ++ List.replicate 56 0 := by simp
 rw [l1] at e1
 have e2 := zIL (p := be 8 b ++ List.replicate 56 0) (o := 8) (k := 4) (n := s) (by simp [zR]) (by omega) (by omega) (by omega) (by omega)
 have l2 : ((be 8 b ++ List.replicate 56 (0 : UInt8)).take 8 ++ (be 4 s ++ (be 8 b ++ List.replicate 56 (0 : UInt8)).drop (8 + 4))) = be 8 b ++ (be 4 s ++ List.replicate 52 0) := by
  simp [List.take_append, List.drop_append, zR, List.take_of_length_le, List.drop_of_length_le]
 rw [l2] at e2
 have e3 := zIL (p := be 8 b ++ (be 4 s ++ List.replicate 52 0)) (o := 56) (k := 8) (n := b) (by simp [zR]) (by omega) (by omega) (by omega) hb
 have l3 : ((be 8 b ++ (be 4 s ++ List.replicate 52 (0 : UInt8))).take 56 ++ (be 8 b ++ (be 8 b ++ (be 4 s ++ List.replicate 52 (0 : UInt8))).drop (56 + 8))) = zBp b s := by
  simp [zBp, List.take_append, List.drop_append, zR, List.take_of_length_le, List.drop_of_length_le]
 rw [l3] at e3
 unfold zBP
 show Option.bind (yU (List.replicate 64 (0 : UInt8)) 0 8 (b : Int)) _ = _
 rw [e1, Option.bind_some]
 have k1 : lenI (be 8 b ++ List.replicate 56 (0 : UInt8)).length (List.replicate 64 (0 : UInt8)).length = some () := by unfold lenI; rw [if_pos (by simp [zR])]
 have k2 : lenI (be 8 b ++ (be 4 s ++ List.replicate 52 (0 : UInt8))).length (be 8 b ++ List.replicate 56 (0 : UInt8)).length = some () := by unfold lenI; rw [if_pos (by simp [zR])]
 have k3 : lenI (zBp b s).length (be 8 b ++ (be 4 s ++ List.replicate 52 (0 : UInt8))).length = some () := by unfold lenI; rw [if_pos (by simp [zR, zFP])]
 show Option.bind (lenI (be 8 b ++ List.replicate 56 (0 : UInt8)).length (List.replicate 64 (0 : UInt8)).length) _ = _
 rw [k1, Option.bind_some]
 show Option.bind (yU (be 8 b ++ List.replicate 56 (0 : UInt8)) 8 4 (s : Int)) _ = _
 rw [e2, Option.bind_some]
 show Option.bind (lenI (be 8 b ++ (be 4 s ++ List.replicate 52 (0 : UInt8))).length (be 8 b ++ List.replicate 56 (0 : UInt8)).length) _ = _
 rw [k2, Option.bind_some]
 show Option.bind (yU (be 8 b ++ (be 4 s ++ List.replicate 52 (0 : UInt8))) 56 8 (b : Int)) _ = _
 rw [e3, Option.bind_some]
 show Option.bind (lenI (zBp b s).length (be 8 b ++ (be 4 s ++ List.replicate 52 (0 : UInt8))).length) _ = _
 rw [k3]
 rfl
theorem u32_id {z : Int} (h1 : 0 ≤ z) (h2 : z ≤ 4294967295) : IntKind.u32.wrap z = z := by
 simp [IntKind.wrap, IntKind.bits, IntKind.signed]
 omega
theorem x32 {a b : Nat} (ha : a < 4294967296) (hb : b < 4294967296) : IntKind.u32.wrap ((((BitVec.ofInt IntKind.u32.bits (a : Int)) ^^^ (BitVec.ofInt IntKind.u32.bits (b : Int))).toNat : Nat) : Int) = ((a ^^^ b : Nat) : Int) := by
 have h2 : (BitVec.ofInt 32 (a : Int) ^^^ BitVec.ofInt 32 (b : Int)).toNat = a ^^^ b := by
  rw [BitVec.toNat_xor, BitVec.ofInt_natCast, BitVec.ofInt_natCast, BitVec.toNat_ofNat, BitVec.toNat_ofNat, Nat.mod_eq_of_lt (by omega), Nat.mod_eq_of_lt (by omega)]
 show IntKind.u32.wrap ((BitVec.ofInt 32 (a : Int) ^^^ BitVec.ofInt 32 (b : Int)).toNat : Int) = _
 have := Crc.xor_lt ha hb
 rw [h2, u32_id (by omega) (by omega)]
theorem a32 {a : Nat} (ha : a < 4294967296) : IntKind.u32.wrap ((((BitVec.ofInt IntKind.u32.bits (a : Int)) &&& (BitVec.ofInt IntKind.u32.bits 1)).toNat : Nat) : Int) = ((a % 2 : Nat) : Int) := by
 have h2 : (BitVec.ofInt 32 (a : Int) &&& BitVec.ofInt 32 ((1 : Nat) : Int)).toNat = a % 2 := by
  rw [BitVec.toNat_and, BitVec.ofInt_natCast, BitVec.ofInt_natCast, BitVec.toNat_ofNat, BitVec.toNat_ofNat, Nat.mod_eq_of_lt (by omega), Nat.mod_eq_of_lt (by omega), Nat.and_one_is_mod]
 show IntKind.u32.wrap ((BitVec.ofInt 32 (a : Int) &&& BitVec.ofInt 32 ((1 : Nat) : Int)).toNat : Int) = _
 rw [h2, u32_id (by omega) (by omega)]
theorem half {a : Nat} : Int.fdiv (a : Int) (2 ^ 1) = ((a / 2 : Nat) : Int) := by
 rw [Int.fdiv_eq_ediv_of_nonneg _ (by omega)]
 omega
theorem zI9 (kl : Int → Int → Option Int) (z : Int) : ∀ (n j x : Nat), j ≤ 8 → 8 - j < n → x < 4294967296 → zCQ kl z n (x : Int) (j : Int) = kl (Crc.stpN (8 - j) x : Nat) (wi (z + 1))
 | 0, j, x, _, h, _ => by omega
 | n + 1, j, x, hj, h, hx => by
  unfold zCQ
  by_cases hlt : j < 8
  ·
   have e : 8 - j = (8 - (j + 1)) + 1 := by omega
   have hy := Crc.stp_lt hx
   have ih := zI9 kl z n (j + 1) (Crc.stp x) (by omega) (by omega) hy
   rw [zX (zAe (by omega)), a32 hx, half, zAI (by omega), e]
   show _ = kl (Crc.stpN (8 - (j + 1)) (Crc.stp x) : Nat) (wi (z + 1))
   rw [← ih]
   by_cases hp : x % 2 = 1
   ·
    have hs : Crc.stp x = x / 2 ^^^ Crc.poly := by unfold Crc.stp; rw [if_pos hp]
    rw [zX (ieq_t (by omega)), hs]
    have := x32 (a := x / 2) (b := Crc.poly) (by omega) (by decide)
    rw [← this]
    rfl
   ·
    have hs : Crc.stp x = x / 2 := by unfold Crc.stp; rw [if_neg hp]
    rw [zG (zDn (by omega)), hs]
  ·
   have e : 8 - j = 0 := by omega
   rw [zG (yY (by omega)), e]
   rfl
theorem zJE (kl : Int → Int → Option Int) (p : List UInt8) (z : Int) (hp : p.length < 4611686018427387904) : ∀ (n i x : Nat), i ≤ p.length → p.length - i < n → x < 4294967296 → zBy kl p z n (x : Int) (i : Int) = kl (Crc.run x (p.drop i) : Nat) (wi (z + 1))
 | 0, i, x, _, h, _ => by omega
 | n + 1, i, x, hi, h, hx => by
  unfold zBy
  by_cases hlt : i < p.length
  ·
   have hc := p[i].toNat_lt
   have hX := Crc.xor_lt hx (b := p[i].toNat) (by omega)
   rw [zX (zAe (by omega)), zAj hlt, Option.bind_some, x32 hx (by omega)]
   have h4 := zI9 (zBy kl p z n) (i : Int) (Int.toNat 8 + 1) 0 (x ^^^ p[i].toNat) (by omega) (by decide) hX
   rw [show ((0 : Nat) : Int) = 0 from rfl] at h4
   rw [h4, zAI (by omega), zJE kl p z hp n (i + 1) _ (by omega) (by omega) (Crc.stpN_lt _ hX), List.drop_eq_getElem_cons hlt]
   rfl
  ·
   rw [zG (yY (by omega)), List.drop_of_length_le (by omega)]
   rfl
theorem zJR (ps : List (List UInt8)) (hl : ∀ p ∈ ps, p.length < 4611686018427387904) (hn : ps.length < 4611686018427387904) : ∀ (n i x : Nat), i ≤ ps.length → ps.length - i < n → x < 4294967296 → zBV ps n (x : Int) (i : Int) = zDf (Crc.run x (ps.drop i).flatten : Nat)
 | 0, i, x, _, h, _ => by omega
 | n + 1, i, x, hi, h, hx => by
  unfold zBV
  by_cases hlt : i < ps.length
  ·
   rw [zX (zAe (by omega)), zAj hlt, Option.bind_some]
   have h3 := zJE (zBV ps n) ps[i] (i : Int) (hl _ (List.getElem_mem hlt)) (ps[i].length + 1) 0 x (by omega) (by omega) hx
   rw [show ((0 : Nat) : Int) = 0 from rfl] at h3
   rw [h3, zAI (by omega), zJR ps hl hn n (i + 1) _ (by omega) (by omega) (Crc.run_lt _ hx), List.drop_eq_getElem_cons hlt, List.flatten_cons, Crc.run_append]
   rfl
  ·
   rw [zG (yY (by omega)), List.drop_of_length_le (by omega)]
   rfl
theorem n_Sum (ps : List (List UInt8)) (hl : ∀ p ∈ ps, p.length < 4611686018427387904) (hn : ps.length < 4611686018427387904) : zFN ps = some ((Crc.crc ps.flatten : Nat) : Int) := by
 unfold zFN
 have h2 := zJR ps hl hn (ps.length + 1) 0 4294967295 (by omega) (by omega) (by decide)
 rw [show ((0 : Nat) : Int) = 0 from rfl, show ((4294967295 : Nat) : Int) = 4294967295 from rfl] at h2
 rw [h2]
 have hx := Crc.run_lt ps.flatten (x := 4294967295) (by decide)
 have e : (4294967295 ^^^ Crc.run 4294967295 ps.flatten : Nat) = 4294967295 - Crc.run 4294967295 ps.flatten := by
  have h3 := congrArg BitVec.toNat (BitVec.allOnes_xor (x := BitVec.ofNat 32 (Crc.run 4294967295 ps.flatten)))
  rw [BitVec.toNat_xor, BitVec.toNat_not, BitVec.toNat_allOnes, BitVec.toNat_ofNat, Nat.mod_eq_of_lt hx] at h3
  exact h3
 unfold zDf
 have := x32 (a := 4294967295) (b := Crc.run 4294967295 (ps.drop 0).flatten) (by decide) hx
 refine congrArg some (this.trans ?_)
 rw [List.drop_zero, e]
 rfl
def zC5 (k n : Nat) (d : List UInt8) : List UInt8 := UInt8.ofNat k :: (be 4 n ++ (d ++ List.replicate (47 - d.length) 0))
def zGV (k n : Nat) (d : List UInt8) (st : Nat) : List UInt8 := zC5 k n d ++ (be 4 (Crc.crc (zC5 k n d ++ be 8 st)) ++ be 8 st)
theorem zBf {k n : Nat} {d : List UInt8} (h : d.length ≤ 32) : (zC5 k n d).length = 52 := by simp [zC5, zR]; omega
theorem zKB {k n st : Nat} {d : List UInt8} (h : d.length ≤ 32) : (zGV k n d st).length = 64 := by simp [zGV, zBf h, zR]
theorem n_bytes {k n st : Nat} {d : List UInt8} {ok : Bool} (hk : k < 256) (hn : n < 4294967296) (hd : d.length ≤ 32) (hs : st ≤ 4611686018427387904) : zBI ⟨(k : Int), (n : Int), d, ok⟩ (st : Int) = some (zGV k n d st) := by
 have hU : U8 (k : Int) = UInt8.ofNat k := by
  unfold U8
  congr 1
  omega
 have hL : (List.replicate 64 (0 : UInt8)).set 0 (U8 (k : Int)) = UInt8.ofNat k :: List.replicate 63 0 := by rw [hU]; rfl
 have e1 := zIL (p := UInt8.ofNat k :: List.replicate 63 0) (o := 1) (k := 4) (n := n) (by simp) (by omega) (by omega) (by omega) (by omega)
 have l1 : ((UInt8.ofNat k :: List.replicate 63 (0 : UInt8)).take 1 ++ (be 4 n ++ (UInt8.ofNat k :: List.replicate 63 (0 : UInt8)).drop (1 + 4))) = UInt8.ofNat k :: (be 4 n ++ List.replicate 59 0) := by simp
 rw [l1] at e1
 have l2 : cpyI (UInt8.ofNat k :: (be 4 n ++ List.replicate 59 (0 : UInt8))) 5 32 d = some (UInt8.ofNat k :: (be 4 n ++ (d ++ List.replicate (59 - d.length) 0))) := by
  unfold cpyI
  rw [if_pos (by simp [zR])]
  congr 1
  unfold cpyL
  rw [Nat.min_eq_left hd, List.take_of_length_le (l := d) hd]
  have h5 : (UInt8.ofNat k :: be 4 n).length = 5 := by simp [zR]
  rw [show UInt8.ofNat k :: (be 4 n ++ List.replicate 59 (0 : UInt8)) = (UInt8.ofNat k :: be 4 n) ++ List.replicate 59 0 from rfl, List.take_left' h5, List.drop_append, List.drop_of_length_le (l := UInt8.ofNat k :: be 4 n) (by omega), h5, List.drop_replicate, show 59 - (5 + d.length - 5) = 59 - d.length by omega]
  rfl
 have e3 := zIL (p := UInt8.ofNat k :: (be 4 n ++ (d ++ List.replicate (59 - d.length) 0))) (o := 56) (k := 8) (n := st) (by simp [zR]; omega) (by omega) (by omega) (by omega) hs
 have hT : (UInt8.ofNat k :: (be 4 n ++ (d ++ List.replicate (59 - d.length) (0 : UInt8)))) = zC5 k n d ++ List.replicate 12 0 := by
  unfold zC5
  rw [show 59 - d.length = (47 - d.length) + 12 by omega, ← List.replicate_append_replicate]
  simp
 have l3 : ((UInt8.ofNat k :: (be 4 n ++ (d ++ List.replicate (59 - d.length) (0 : UInt8)))).take 56 ++ (be 8 st ++ (UInt8.ofNat k :: (be 4 n ++ (d ++ List.replicate (59 - d.length) (0 : UInt8)))).drop (56 + 8))) = zC5 k n d ++ (List.replicate 4 0 ++ be 8 st) := by
  rw [hT]
  simp [List.take_append, List.drop_append, zBf hd, List.take_of_length_le, List.drop_of_length_le]
 rw [l3] at e3
 have p1 : zEK (zC5 k n d ++ (List.replicate 4 0 ++ be 8 st)) 0 52 = some (zC5 k n d) := by
  unfold zEK
  rw [if_pos (by simp [zBf hd, zR])]
  simp [List.take_append, zBf hd, List.take_of_length_le]
 have p2 : zEK (zC5 k n d ++ (List.replicate 4 0 ++ be 8 st)) 56 8 = some (be 8 st) := by
  unfold zEK
  rw [if_pos (by simp [zBf hd, zR])]
  simp [List.drop_append, zBf hd, List.take_of_length_le, zR, List.drop_of_length_le]
 have hS := n_Sum [zC5 k n d, be 8 st] (by
  intro p hp
  simp at hp
  rcases hp with rfl | rfl
  · rw [zBf hd]; omega
  · rw [zR]; omega) (by simp)
 rw [show [zC5 k n d, be 8 st].flatten = zC5 k n d ++ be 8 st by simp] at hS
 have hc := Crc.crc_le (zC5 k n d ++ be 8 st)
 have e4 := zIL (p := zC5 k n d ++ (List.replicate 4 0 ++ be 8 st)) (o := 52) (k := 4) (n := Crc.crc (zC5 k n d ++ be 8 st)) (by simp [zBf hd, zR]) (by omega) (by omega) (by omega) (by omega)
 have l4 : ((zC5 k n d ++ (List.replicate 4 0 ++ be 8 st)).take 52 ++ (be 4 (Crc.crc (zC5 k n d ++ be 8 st)) ++ (zC5 k n d ++ (List.replicate 4 0 ++ be 8 st)).drop (52 + 4))) = zGV k n d st := by
  simp [zGV, List.take_append, List.drop_append, zBf hd, List.take_of_length_le, List.drop_of_length_le]
 rw [l4] at e4
 have len : ∀ {a b : Nat}, a = b → lenI a b = some () := fun h => by unfold lenI; rw [if_pos h]
 unfold zBI
 show Option.bind (yU ((List.replicate 64 (0 : UInt8)).set 0 (U8 (k : Int))) 1 4 (n : Int)) _ = _
 rw [hL, e1, Option.bind_some]
 show Option.bind (lenI (UInt8.ofNat k :: (be 4 n ++ List.replicate 59 (0 : UInt8))).length ((List.replicate 64 (0 : UInt8)).set 0 (U8 (k : Int))).length) _ = _
 rw [len (by simp [zR]), Option.bind_some]
 rw [show vcut (Int.toNat 64) 5 37 = some () from rfl, Option.bind_some]
 show Option.bind (cpyI (UInt8.ofNat k :: (be 4 n ++ List.replicate 59 (0 : UInt8))) 5 32 d) _ = _
 rw [l2, Option.bind_some, len (by simp [zR]; omega), Option.bind_some]
 show Option.bind (yU (UInt8.ofNat k :: (be 4 n ++ (d ++ List.replicate (59 - d.length) (0 : UInt8)))) 56 8 (st : Int)) _ = _
 rw [e3, Option.bind_some, len (by simp [zR, zBf hd]; omega), Option.bind_some]
 rw [show vcut (Int.toNat 64) 52 56 = some () from rfl, Option.bind_some, show vcut (Int.toNat 64) 0 52 = some () from rfl, Option.bind_some, show vcut (Int.toNat 64) 56 ((Int.toNat 64 : Nat) : Int) = some () from rfl, Option.bind_some]
 show Option.bind (zEK (zC5 k n d ++ (List.replicate 4 0 ++ be 8 st)) 0 52) _ = _
 rw [p1, Option.bind_some]
 show Option.bind (zEK (zC5 k n d ++ (List.replicate 4 0 ++ be 8 st)) 56 8) _ = _
 rw [p2, Option.bind_some, hS, Option.bind_some]
 rw [zBe (by omega) (by omega)]
 show Option.bind (yU (zC5 k n d ++ (List.replicate 4 0 ++ be 8 st)) 52 4 ((Crc.crc (zC5 k n d ++ be 8 st) : Nat) : Int)) _ = _
 rw [e4, Option.bind_some, len (by simp [zR, zBf hd, zKB hd])]
 rfl
def Valid (st : Nat) (r : List UInt8) : Prop := ∃ h s t : List UInt8, r = h ++ (s ++ t) ∧ h.length = 52 ∧ h.drop 37 = List.replicate 15 0 ∧ s = be 4 (Crc.crc (h ++ t)) ∧ t = be 8 st
theorem zId {k n st : Nat} {d : List UInt8} (hd : d.length ≤ 32) : Valid st (zGV k n d st) := by
 refine ⟨zC5 k n d, _, _, rfl, zBf hd, ?_, rfl, rfl⟩
 unfold zC5
 have : (47 - d.length) = (32 - d.length) + 15 := by omega
 rw [this, ← List.replicate_append_replicate]
 have e : UInt8.ofNat k :: (be 4 n ++ (d ++ (List.replicate (32 - d.length) (0 : UInt8) ++ List.replicate 15 0))) = (UInt8.ofNat k :: (be 4 n ++ (d ++ List.replicate (32 - d.length) (0 : UInt8)))) ++ List.replicate 15 0 := by simp
 rw [e, List.drop_left' (by simp [zR]; omega)]
end Go.Proofs.Ytjomnccladjpgaa

/-
 Plain: what a disk does.
-/
namespace Go.Proofs.Ytjomnccladjpgaa
open Go Go.RowKit
set_option linter.unusedVariables false
set_option linter.unusedSimpArgs false
theorem ptM_s {α : Type} (i : Nat) (a : Option α) (f : Nat → Option α) : ptM (some i) a f = f i := rfl
abbrev pad (x : List UInt8) : List UInt8 := padA (0 : UInt8) x 0 64
theorem pad_len (x : List UInt8) : (pad x).length = 64 := zGG x 64 0
theorem pad_id {x : List UInt8} (h : x.length = 64) : pad x = x := padA_id h
structure Dsk where
 kept : List (List UInt8)
 now : List (List UInt8)
 wait : List zAX
 fuse : Int
 off : Bool
 lives : Int
def apw (k : List (List UInt8)) (l : List zAX) : List (List UInt8) := l.foldl (fun s w => s.set w.n_.toNat w.b_) k
theorem apw_snoc (k : List (List UInt8)) (l : List zAX) (w : zAX) : apw k (l ++ [w]) = (apw k l).set w.n_.toNat w.b_ := by simp [apw, List.foldl_append]
structure DIn (H : Hp) (i : Nat) (d : Dsk) : Prop where
 at_ : ∃ a b ks ns, a ≠ b ∧ H.dk[i]? = some ⟨(a, ks.length), (b, ns.length), d.wait, d.fuse, d.off, d.lives⟩ ∧ H.sec[a]? = some ks ∧ H.sec[b]? = some ns ∧ ks.map pad = d.kept ∧ ns.map pad = d.now
 len : d.kept.length = d.now.length
 wok : ∀ w ∈ d.wait, 0 ≤ w.n_ ∧ w.n_ < (d.now.length : Int) ∧ w.b_.length = 64
 same : d.now = apw d.kept d.wait
section
variable {H : Hp} {i : Nat} {d : Dsk}
theorem DIn.lg {H' : Hp} (h : DIn H i d) (h1 : H'.dk = H.dk) (h2 : H'.sec = H.sec) : DIn H' i d := by
 obtain ⟨h3, h4, h5, h6⟩ := h
 exact ⟨by rw [h1, h2]; exact h3, h4, h5, h6⟩
theorem DIn.row (h : DIn H i d) {k : Nat} {r : List UInt8} (hr : d.now[k]? = some r) : r.length = 64 := by
 obtain ⟨⟨a, b, ks, ns, hab, hd, hk, hn, ek, en⟩, _⟩ := h
 rw [← en, List.getElem?_map] at hr
 cases hq : ns[k]? with
 | none => rw [hq] at hr; cases hr
 | some y =>
  rw [hq] at hr
  injection hr with hr
  rw [← hr]
  exact pad_len y
theorem n_is (h : DIn H i d) (h0 : 0 < d.now.length) : zA8 (some i) H = some true := by
 obtain ⟨⟨a, b, ks, ns, hab, hd, hk, hn, ek, en⟩, _⟩ := h
 have hl : ns.length = d.now.length := by rw [← en, List.length_map]
 unfold zA8
 show Option.bind (H.dk[i]?) _ = _
 rw [hd, Option.bind_some]
 show some (decide ((ns.length : Int) > 0)) = _
 rw [zAe (by omega)]
theorem zJU (h : DIn H i d) (h0 : 0 < d.now.length) : zAO (some i) H = some (d.now.length : Int) := by
 have hi := n_is h h0
 obtain ⟨⟨a, b, ks, ns, hab, hd, hk, hn, ek, en⟩, _⟩ := h
 have hl : ns.length = d.now.length := by rw [← en, List.length_map]
 unfold zAO
 rw [hi, Option.bind_some]
 show Option.bind (H.dk[i]?) _ = _
 rw [hd, Option.bind_some]
 show some (ns.length : Int) = _
 rw [hl]
theorem n_Off (h : DIn H i d) (h0 : 0 < d.now.length) : zBT (some i) H = some d.off := by
 have hi := n_is h h0
 obtain ⟨⟨a, b, ks, ns, hab, hd, hk, hn, ek, en⟩, _⟩ := h
 unfold zBT
 rw [hi, Option.bind_some]
 show Option.bind (H.dk[i]?) _ = _
 rw [hd, Option.bind_some]
theorem n_Lives (h : DIn H i d) (h0 : 0 < d.now.length) : zAB (some i) H = some d.lives := by
 have hi := n_is h h0
 obtain ⟨⟨a, b, ks, ns, hab, hd, hk, hn, ek, en⟩, _⟩ := h
 unfold zAB
 rw [hi, Option.bind_some]
 show Option.bind (H.dk[i]?) _ = _
 rw [hd, Option.bind_some]
theorem n_may (h : DIn H i d) (ho : d.off = false) {k : Nat} (hk : k < d.now.length) : zAv (some i) (k : Int) H = some 0 := by
 have hi := n_is h (by omega)
 obtain ⟨⟨a, b, ks, ns, hab, hd, hk1, hn, ek, en⟩, _⟩ := h
 have hl : ns.length = d.now.length := by rw [← en, List.length_map]
 unfold zAv
 rw [hi, Option.bind_some]
 show Option.bind (H.dk[i]?) _ = _
 rw [hd, Option.bind_some]
 show (bif d.off then _ else bif decide ((k : Int) < 0) then _ else bif decide ((k : Int) ≥ (ns.length : Int)) then _ else some 0) = _
 rw [ho, zG rfl, zG (yY (by omega)), zG (yY (by omega))]
theorem n_burn {x : zN} (h : H.dk[i]? = some x) (hf : x.fuse_ < 0) : zA2 (some i) H = some (false, H) := by
 unfold zA2
 show Option.bind (H.dk[i]?) _ = _
 rw [h, Option.bind_some, zX (zAe hf)]
theorem zJB (h : DIn H i d) (ho : d.off = false) {k : Nat} {r : List UInt8} (hr : d.now[k]? = some r) : zAN (some i) (k : Int) H = some (r, 0) := by
 have hk : k < d.now.length := (List.getElem?_eq_some_iff.1 hr).1
 have hm := n_may h ho hk
 obtain ⟨⟨a, b, ks, ns, hab, hd, hk1, hn, ek, en⟩, _⟩ := h
 have hl : ns.length = d.now.length := by rw [← en, List.length_map]
 unfold zAN
 rw [hm, Option.bind_some, zG (zCT rfl)]
 show Option.bind (H.dk[i]?) _ = _
 rw [hd, Option.bind_some]
 show Option.bind (H.sec[b]?) _ = _
 rw [hn, Option.bind_some]
 unfold lenI
 rw [if_pos rfl, Option.bind_some, zAj (by omega), Option.bind_some]
 rw [← en, List.getElem?_map, List.getElem?_eq_getElem (by omega)] at hr
 injection hr with hr
 rw [← hr]
theorem zIm (h : DIn H i d) (ho : d.off = false) (hf : d.fuse < 0) {k : Nat} (hk : k < d.now.length) {x : List UInt8} (hx : x.length = 64) (hw : d.wait.length < 1000000) :
  ∃ H', qZ (some i) (k : Int) x H = some (0, H') ∧ DIn H' i { d with now := d.now.set k x, wait := d.wait ++ [⟨k, x⟩] } ∧ H'.lg = H.lg := by
 have hm := n_may h ho hk
 obtain ⟨⟨a, b, ks, ns, hab, hd, hk1, hn, ek, en⟩, h4, h5, h6⟩ := h
 have hl : ns.length = d.now.length := by rw [← en, List.length_map]
 have hil : i < H.dk.length := (List.getElem?_eq_some_iff.1 hd).1
 have hbl : b < H.sec.length := (List.getElem?_eq_some_iff.1 hn).1
 let X : zN := ⟨(a, ks.length), (b, ns.length), d.wait ++ [⟨k, x⟩], d.fuse, d.off, d.lives⟩
 have g1 : ((H.st_dk i X).st_sec b (ns.set k x)).dk[i]? = some X := List.getElem?_set_self hil
 refine ⟨(H.st_dk i X).st_sec b (ns.set k x), ?_, ⟨⟨a, b, ks, ns.set k x, hab, ?_, ?_, ?_, ek, ?_⟩, ?_, ?_, ?_⟩, rfl⟩
 ·
  unfold qZ
  rw [hm, Option.bind_some, zG (zCT rfl), zG (zCT (by omega))]
  have e1 : s2aI 64 x = some x := by
   unfold s2aI
   rw [if_pos (by omega), List.take_of_length_le (by omega)]
  rw [e1, Option.bind_some]
  show Option.bind (H.dk[i]?) _ = _
  rw [hd, Option.bind_some, zFA (by show (d.wait.length + _) * _ ≤ _; simp; omega), Option.bind_some]
  show Option.bind (H.sec[b]?) _ = _
  rw [hn, Option.bind_some]
  unfold lenI
  rw [if_pos rfl, Option.bind_some, zAj (by omega), Option.bind_some]
  show Option.bind (zA2 (some i) ((H.st_dk i X).st_sec b (ns.set k x))) _ = _
  rw [n_burn g1 hf]
  rfl
 · rw [g1, List.length_set]
 ·
  show (H.sec.set b _)[a]? = _
  rw [List.getElem?_set_ne (fun e => hab e.symm), hk1]
 · exact List.getElem?_set_self hbl
 ·
  show _ = d.now.set k x
  rw [List.map_set, en, pad_id hx]
 ·
  show d.kept.length = (d.now.set k x).length
  rw [List.length_set, h4]
 ·
  intro w hw
  show 0 ≤ w.n_ ∧ w.n_ < ((d.now.set k x).length : Int) ∧ _
  rw [List.length_set]
  rcases List.mem_append.1 hw with hw | hw
  · exact h5 w hw
  ·
   rw [List.mem_singleton.1 hw]
   exact ⟨by show (0 : Int) ≤ (k : Int); omega, by show (k : Int) < _; omega, hx⟩
 ·
  show d.now.set k x = apw d.kept (d.wait ++ [⟨k, x⟩])
  rw [apw_snoc, ← h6]
  rfl
theorem zHC {a b : Nat} (hab : a ≠ b) {X : zN} {L : Nat} (hXk : X.kept_ = (a, L)) (hw : ∀ w ∈ X.wait_, 0 ≤ w.n_ ∧ w.n_ < (L : Int) ∧ w.b_.length = 64) (hwl : X.wait_.length < 4611686018427387904) (i : Nat) (ns : List (List UInt8)) : ∀ (n j : Nat) (H : Hp) (ks : List (List UInt8)), j ≤ X.wait_.length → X.wait_.length - j < n → H.dk[i]? = some X → H.sec[a]? = some ks → H.sec[b]? = some ns → ks.length = L →
  ∃ H' ks', zAg X i (some i) n (j : Int) H = some (0, H') ∧ H'.dk[i]? = some ⟨X.kept_, X.now_, [], X.fuse_, X.off_, X.lives_⟩ ∧ H'.sec[a]? = some ks' ∧ H'.sec[b]? = some ns ∧ ks'.map pad = apw (ks.map pad) (X.wait_.drop j) ∧ H'.lg = H.lg ∧ ks'.length = L
 | 0, j, _, _, _, h, _, _, _, _ => by omega
 | n + 1, j, H, ks, hj, h, hd, hk, hn, hL => by
  unfold zAg
  by_cases hlt : j < X.wait_.length
  ·
   obtain ⟨h1, h2, h3⟩ := hw _ (List.getElem_mem hlt)
   have hal : a < H.sec.length := (List.getElem?_eq_some_iff.1 hk).1
   rw [zX (zAe (by omega)), zAj hlt, Option.bind_some]
   show ∃ H' ks', Option.bind (H.dk[i]?) _ = _ ∧ _
   rw [hd, Option.bind_some]
   have e1 : Hp.ge_sec H X.kept_.1 = some ks := by rw [hXk]; exact hk
   rw [e1, Option.bind_some]
   have e2 : lenI ks.length X.kept_.2 = some () := by
    unfold lenI
    rw [hXk, if_pos hL]
   rw [e2, Option.bind_some]
   have e3 : idx ks X.wait_[j].n_ = some (ks[X.wait_[j].n_.toNat]'(by omega)) := by
    have := zAj (l := ks) (i := X.wait_[j].n_.toNat) (by omega)
    rwa [Int.toNat_of_nonneg h1] at this
   rw [e3, Option.bind_some, zAI (by omega)]
   have hk' : (H.st_sec X.kept_.1 (ks.set X.wait_[j].n_.toNat X.wait_[j].b_)).sec[a]? = some (ks.set X.wait_[j].n_.toNat X.wait_[j].b_) := by
    rw [hXk]
    exact List.getElem?_set_self hal
   have hn' : (H.st_sec X.kept_.1 (ks.set X.wait_[j].n_.toNat X.wait_[j].b_)).sec[b]? = some ns := by
    rw [hXk]
    show (H.sec.set a _)[b]? = _
    rw [List.getElem?_set_ne hab, hn]
   obtain ⟨H', ks', g1, g2, g3, g4, g5, g6, g7⟩ := zHC hab hXk hw hwl i ns n (j + 1) (H.st_sec X.kept_.1 (ks.set X.wait_[j].n_.toNat X.wait_[j].b_)) _ (by omega) (by omega) (show _ from hd) hk' hn' (by rw [List.length_set, hL])
   refine ⟨H', ks', g1, g2, g3, g4, ?_, g6, g7⟩
   rw [g5, List.drop_eq_getElem_cons hlt, List.map_set, pad_id h3]
   rfl
  ·
   have e : j = X.wait_.length := by omega
   subst e
   rw [zG (yY (by omega))]
   unfold zB8
   show ∃ H' ks', Option.bind (H.dk[i]?) _ = _ ∧ _
   rw [hd, Option.bind_some]
   refine ⟨_, ks, rfl, ?_, hk, hn, ?_, rfl, hL⟩
   · exact List.getElem?_set_self (List.getElem?_eq_some_iff.1 hd).1
   ·
    rw [List.drop_length]
    rfl
theorem zIl (h : DIn H i d) (ho : d.off = false) (hf : d.fuse < 0) (h0 : 0 < d.now.length) (hw : d.wait.length < 1000000) :
  ∃ H', yH (some i) H = some (0, H') ∧ DIn H' i { d with kept := d.now, wait := [] } ∧ H'.lg = H.lg := by
 have hm := n_may h ho h0
 obtain ⟨⟨a, b, ks, ns, hab, hd, hk1, hn, ek, en⟩, h4, h5, h6⟩ := h
 have hl : ns.length = d.now.length := by rw [← en, List.length_map]
 have hl2 : ks.length = d.kept.length := by rw [← ek, List.length_map]
 unfold yH
 rw [show ((0 : Nat) : Int) = 0 from rfl] at hm
 rw [hm, Option.bind_some, zG (zCT rfl), n_burn hd hf, Option.bind_some, zG rfl]
 show ∃ H', Option.bind (H.dk[i]?) _ = _ ∧ _
 rw [hd, Option.bind_some]
 obtain ⟨H', ks', g1, g2, g3, g4, g5, g6, g7⟩ := zHC hab (X := ⟨(a, ks.length), (b, ns.length), d.wait, d.fuse, d.off, d.lives⟩) (L := ks.length) rfl (fun w hw => by have := h5 w hw; exact ⟨this.1, by omega, this.2.2⟩) (by show d.wait.length < _; omega) i ns (d.wait.length + 1) 0 H ks (Nat.zero_le _) (by show d.wait.length - 0 < _; omega) hd hk1 hn rfl
 have e : ks'.map pad = d.now := by
  rw [g5, ek, h6]
  rfl
 exact ⟨H', g1, ⟨⟨a, b, ks', ns, hab, by rw [g2, g7], g3, g4, e, en⟩, rfl, fun w hw => absurd hw List.not_mem_nil, rfl⟩, g6⟩
theorem n_New {H : Hp} {n : Nat} (h1 : 1 ≤ n) (h2 : n ≤ 16384) : ∃ H', zDs (n : Int) H = some (some H.dk.length, 0, H') ∧ DIn H' H.dk.length ⟨List.replicate n (List.replicate 64 0), List.replicate n (List.replicate 64 0), [], -1, false, 0⟩ ∧ H'.lg = H.lg := by
 have e : mkI 64 (n : Int) = some n := by
  unfold mkI
  rw [if_pos ⟨by omega, by omega, by omega⟩, Int.toNat_natCast]
 have hp : (List.replicate n ([] : List UInt8)).map pad = List.replicate n (List.replicate 64 0) := by
  rw [List.map_replicate]
  rfl
 unfold zDs
 rw [zG (yY (by omega)), zG (yY (by omega)), e, Option.bind_some, Option.bind_some]
 refine ⟨_, rfl, ⟨⟨H.sec.length, H.sec.length + 1, List.replicate n [], List.replicate n [], by omega, ?_, ?_, ?_, hp, hp⟩, rfl, fun w hw => absurd hw List.not_mem_nil, rfl⟩, rfl⟩
 ·
  show (H.dk ++ [_])[H.dk.length]? = _
  simp [Hp.ln_sec, Hp.nw_sec]
 ·
  show (H.sec ++ [List.replicate n []] ++ [List.replicate n []])[H.sec.length]? = _
  simp
 ·
  show (H.sec ++ [List.replicate n []] ++ [List.replicate n []])[H.sec.length + 1]? = _
  simp
end
end Go.Proofs.Ytjomnccladjpgaa

/-
 Plain: what a log does.
-/
namespace Go.Proofs.Ytjomnccladjpgaa
open Go Go.RowKit
set_option linter.unusedVariables false
set_option linter.unusedSimpArgs false
theorem n_pair {α : Type} (a b : List α) (ha : a.length < 4611686018427387904) (eq : α → α → Option Bool) (F : Nat → Int → Option Bool)
  (hF : ∀ n z, F (n + 1) z = bif decide (z < (a.length : Int)) then (Option.bind (idx a z) fun x => Option.bind (idx b z) fun y => Option.bind (eq x y) fun e => bif (!e) then some false else F n (wi (z + 1))) else some true)
  (heq : ∀ x ∈ a, ∀ y, ∃ r, eq x y = some r ∧ (r = true ↔ x = y)) [DecidableEq α] : (bif ((a.length : Int) != (b.length : Int)) then some false else F (a.length + 1) 0) = some (decide (a = b)) := by
 by_cases hl : a.length = b.length
 ·
  rw [zG (zCT (by omega))]
  obtain ⟨r, h1, h2⟩ := zH5 a b hl ha eq F hF heq (a.length + 1) 0 (by omega) (by omega)
  rw [show ((0 : Nat) : Int) = 0 from rfl] at h1
  rw [h1]
  congr 1
  rw [Bool.eq_iff_iff, h2, decide_eq_true_iff]
  rfl
 · rw [zX (ine_t (by omega)), decide_eq_false (fun e => hl (by rw [e]))]
theorem n_Equal (a b : List UInt8) (ha : a.length < 4611686018427387904) : zAt a b = some (decide (a = b)) :=
 n_pair a b ha (fun x y => some ((x.toNat : Int) == (y.toNat : Int))) (zAx a b) (fun n z => rfl) fun x _ y => ⟨_, rfl, by rw [beq_iff_eq, ← UInt8.toNat_inj]; omega⟩
def atE (st : Nat) (r : List UInt8) : zAr := ⟨((r.headD 0).toNat : Int), (ofBE ((r.drop 1).take 4) : Int), (r.drop 5).take 32, decide (r = zGV (r.headD 0).toNat (ofBE ((r.drop 1).take 4)) ((r.drop 5).take 32) st)⟩
theorem atE_bad {st : Nat} {r : List UInt8} (h : ¬ Valid st r) (hr : r.length = 64) : (atE st r).ok_ = false := by
 refine decide_eq_false fun e => h ?_
 rw [e]
 exact zId (by rw [List.length_take]; omega)
theorem valid_end {st : Nat} {r : List UInt8} (h : Valid st r) : r.drop 56 = be 8 st := by
 obtain ⟨h0, s, t, rfl, hl, hz, hs, ht⟩ := h
 rw [← List.append_assoc, List.drop_left' (by simp [hl, hs, zR]), ht]
structure LIn (H : Hp) (i j : Nat) (d : Dsk) (s base slot used : Nat) (com : Int) : Prop where
 dsk : DIn H i d
 off : d.off = false
 lg : H.lg[j]? = some ⟨some i, s, base, slot, used, d.lives, com⟩
 s3 : 3 ≤ s
 sl : 2 + s < d.now.length
 ln : d.now.length ≤ 16384
 bs : base + s ≤ 2305843009213693952
structure WIn (H : Hp) (i j : Nat) (d : Dsk) (s base slot used : Nat) (com : Int) : Prop extends LIn H i j d s base slot used com where
 fuse : d.fuse < 0
section
variable {H : Hp} {i j : Nat} {d : Dsk} {s base slot used : Nat} {com : Int}
theorem zHf (h : LIn H i j d s base slot used com) : zAK (some j) H = some 0 := by
 have := h.sl
 have h0 : 0 < d.now.length := by omega
 have hx := h.lg
 unfold zAK
 show Option.bind (H.lg[j]?) _ = _
 rw [hx, Option.bind_some]
 show zAc (some j) H false = _
 unfold zAc
 rw [zG rfl]
 show Option.bind (H.lg[j]?) _ = _
 rw [hx, Option.bind_some]
 show Option.bind (zBT (some i) H) _ = _
 rw [n_Off h.dsk h0, Option.bind_some, h.off, zG rfl]
 show Option.bind (zAB (some i) H) _ = _
 rw [n_Lives h.dsk h0, Option.bind_some, zG (zCT rfl)]
theorem n_Homes (h : LIn H i j d s base slot used com) : zAL (some j) H = some ((d.now.length - 2 - s : Nat) : Int) := by
 have := h.sl
 have := h.ln
 unfold zAL
 show Option.bind (H.lg[j]?) _ = _
 rw [h.lg, Option.bind_some]
 show Option.bind (zAO (some i) H) _ = _
 rw [zJU h.dsk (by omega), Option.bind_some]
 show some (wi (wi ((d.now.length : Int) - 2) - (s : Int))) = _
 rw [zBe (z := (d.now.length : Int) - 2) (by omega) (by omega), zBe (by omega) (by omega)]
 congr 1
 omega
theorem n_home (h : LIn H i j d s base slot used com) (k : Nat) (hk : k ≤ 100000) : zBC (some j) (k : Int) H = some ((2 + s + k : Nat) : Int) := by
 have := h.sl
 have := h.ln
 unfold zBC
 show Option.bind (H.lg[j]?) _ = _
 rw [h.lg, Option.bind_some]
 show some (wi (wi (2 + (s : Int)) + (k : Int))) = _
 rw [zBe (z := 2 + (s : Int)) (by omega) (by omega), zBe (by omega) (by omega)]
 congr 1
theorem n_LRead (h : LIn H i j d s base slot used com) {k : Nat} {r : List UInt8} (hr : d.now[2 + s + k]? = some r) : zBk (some j) (k : Int) H = some (r, 0) := by
 have := h.ln
 have := h.sl
 have hk : 2 + s + k < d.now.length := (List.getElem?_eq_some_iff.1 hr).1
 unfold zBk
 rw [zHf h, Option.bind_some, zG (zCT rfl), zG (yY (by omega)), n_Homes h, Option.bind_some, zG (yY (by omega))]
 show Option.bind (H.lg[j]?) _ = _
 rw [h.lg, Option.bind_some, n_home h k (by omega), Option.bind_some]
 show Option.bind (zAN (some i) ((2 + s + k : Nat) : Int) H) _ = _
 rw [zJB h.dsk h.off hr]
 rfl
theorem n_at (h : LIn H i j d s base slot used com) {p : Nat} {r : List UInt8} (hp : p < s) (hr : d.now[2 + p]? = some r) : zAk (some j) (p : Int) H = some (atE (base + p) r) := by
 have := h.ln
 have := h.sl
 have := h.bs
 have hl := h.dsk.row hr
 unfold zAk
 show Option.bind (H.lg[j]?) _ = _
 rw [h.lg, Option.bind_some]
 show (bif decide ((p : Int) ≥ (s : Int)) then _ else _) = _
 rw [zG (yY (by omega)), zBe (z := 2 + (p : Int)) (by omega) (by omega)]
 show Option.bind (zAN (some i) (2 + (p : Int)) H) _ = _
 rw [show 2 + (p : Int) = ((2 + p : Nat) : Int) by omega, zJB h.dsk h.off hr, Option.bind_some, zG (zCT rfl)]
 have e0 : idx r 0 = some (r.headD 0) := by
  cases r with
  | nil => cases hl
  | cons x t => rfl
 have e1 : cutI r 5 37 = some ((r.drop 5).take 32) := zCg (l := r) (lo := 5) (n := 32) (by omega) 37 rfl
 have e2 : cutI r 1 5 = some ((r.drop 1).take 4) := zCg (l := r) (lo := 1) (n := 4) (by omega) 5 rfl
 have g := zJS (b := (r.drop 1).take 4) (by simp; omega)
 have hb := zGX 4 ((r.drop 1).take 4) (by simp; omega)
 show Option.bind (idx r 0) _ = _
 rw [e0, Option.bind_some]
 show Option.bind (cutI r 5 37) _ = _
 rw [e1, Option.bind_some]
 show Option.bind (cutI r 1 5) _ = _
 rw [e2, Option.bind_some, zJx, Option.bind_some, g.1, g.2]
 show Option.bind (zBI ⟨((r.headD 0).toNat : Int), (ofBE ((r.drop 1).take 4) : Int), (r.drop 5).take 32, false⟩ (wi ((base : Int) + (p : Int)))) _ = _
 rw [zBe (z := (base : Int) + (p : Int)) (by omega) (by omega), show (base : Int) + (p : Int) = ((base + p : Nat) : Int) by omega]
 rw [n_bytes (by have := (r.headD 0).toNat_lt; omega) (by omega) (by simp; omega) (by omega), Option.bind_some]
 show Option.bind (zAt r _) _ = _
 rw [n_Equal r _ (by omega)]
 rfl
def Good (s n : Nat) (ws : List qF) : Prop := ∀ w ∈ ws, 0 ≤ w.Home ∧ w.Home < ((n - 2 - s : Nat) : Int) ∧ w.Data.length = 64
structure Stand (H : Hp) (j : Nat) (ws : List qF) (T : Nat) : Prop where
 a : ∀ k (hk : k < ws.length), 2 * k < T → zAk (some j) ((2 * k : Nat) : Int) H = some ⟨1, ws[k].Home, ws[k].Data.take 32, true⟩
 b : ∀ k (hk : k < ws.length), 2 * k + 1 < T → zAk (some j) ((2 * k + 1 : Nat) : Int) H = some ⟨2, ws[k].Home, ws[k].Data.drop 32, true⟩
 c : 2 * ws.length < T → zAk (some j) ((2 * ws.length : Nat) : Int) H = some ⟨3, ws.length, List.replicate 32 0, true⟩
 t : ∃ e, zAk (some j) (T : Int) H = some e ∧ e.ok_ = false
theorem zIj (h : LIn H i j d s base slot used com) (hs : ∃ e, zAk (some j) 0 H = some e ∧ e.ok_ = false) : zA9 (some j) H = some [] := by
 obtain ⟨e, e1, e2⟩ := hs
 unfold zA9
 show zBQ (some j) H (16399 + 1) [] 0 = _
 unfold zBQ
 have g : zDD (some j) 0 H = some ([], 0) := by
  unfold zDD
  show yW (some j) H 0 (16399 + 1) [] 0 = _
  unfold yW
  rw [e1, Option.bind_some, e2]
  rfl
 rw [g, Option.bind_some]
 rfl
end
end Go.Proofs.Ytjomnccladjpgaa

/-
 Plain: what a log does: redo, commit, checkpoint, format, open.
-/
namespace Go.Proofs.Ytjomnccladjpgaa
open Go Go.RowKit
set_option linter.unusedVariables false
set_option linter.unusedSimpArgs false
section
variable {H : Hp} {i j : Nat} {d : Dsk} {s base slot used : Nat} {com : Int}
theorem WIn.wr (h : WIn H i j d s base slot used com) {k : Nat} (hk : k < d.now.length) {x : List UInt8} (hx : x.length = 64) (hw : d.wait.length < 1000000) :
  ∃ H', qZ (some i) (k : Int) x H = some (0, H') ∧ WIn H' i j { d with now := d.now.set k x, wait := d.wait ++ [⟨k, x⟩] } s base slot used com := by
 obtain ⟨H', e1, e2, e3⟩ := zIm h.dsk h.off h.fuse hk hx hw
 refine ⟨H', e1, ⟨e2, h.off, by rw [e3]; exact h.lg, h.s3, ?_, ?_, h.bs⟩, h.fuse⟩
 ·
  show _ < (d.now.set k x).length
  rw [List.length_set]; exact h.sl
 ·
  show (d.now.set k x).length ≤ _
  rw [List.length_set]; exact h.ln
theorem WIn.fl (h : WIn H i j d s base slot used com) (hw : d.wait.length < 1000000) :
  ∃ H', yH (some i) H = some (0, H') ∧ WIn H' i j { d with kept := d.now, wait := [] } s base slot used com := by
 have := h.sl
 obtain ⟨H', e1, e2, e3⟩ := zIl h.dsk h.off h.fuse (by omega) hw
 exact ⟨H', e1, ⟨e2, h.off, by rw [e3]; exact h.lg, h.s3, h.sl, h.ln, h.bs⟩, h.fuse⟩
theorem WIn.jl (h : WIn H i j d s base slot used com) : j < H.lg.length := (List.getElem?_eq_some_iff.1 h.lg).1
def rd (s : Nat) (now : List (List UInt8)) (ws : List qF) : List (List UInt8) := ws.foldl (fun t w => t.set (2 + s + w.Home.toNat) w.Data) now
theorem zIO {ws : List qF} (hwl : ws.length ≤ 100000) : ∀ (n z : Nat) (H : Hp) (d : Dsk), WIn H i j d s base slot used com → Good s d.now.length ws → d.wait.length + (ws.length - z) ≤ 200000 → z ≤ ws.length → ws.length - z < n →
  ∃ H' d', zBF ws (some j) n (z : Int) H = some (0, H') ∧ WIn H' i j d' s base slot used com ∧ d'.now = rd s d.now (ws.drop z) ∧ d'.kept = d.kept ∧ d'.wait.length ≤ d.wait.length + (ws.length - z) ∧ d'.lives = d.lives
 | 0, z, _, _, _, _, _, _, h => by omega
 | n + 1, z, H, d, h, hg, hw, hz, hn => by
  have := h.ln
  have := h.sl
  unfold zBF
  by_cases hlt : z < ws.length
  ·
   obtain ⟨w1, w2, w3⟩ := hg _ (List.getElem_mem hlt)
   have hH : ws[z].Home = (ws[z].Home.toNat : Int) := (Int.toNat_of_nonneg w1).symm
   have hb : 2 + s + ws[z].Home.toNat < d.now.length := by omega
   rw [zX (zAe (by omega)), zAj hlt, Option.bind_some]
   show ∃ H' d', Option.bind (H.lg[j]?) _ = _ ∧ _
   rw [h.lg, Option.bind_some]
   have e1 : zBC (some j) ws[z].Home H = some ((2 + s + ws[z].Home.toNat : Nat) : Int) := by
    have := n_home h.toLIn ws[z].Home.toNat (by omega)
    rwa [← hH] at this
   rw [e1, Option.bind_some]
   obtain ⟨H1, g1, g2⟩ := h.wr hb w3 (by omega)
   show ∃ H' d', Option.bind (qZ (some i) ((2 + s + ws[z].Home.toNat : Nat) : Int) ws[z].Data H) _ = _ ∧ _
   rw [g1, Option.bind_some, zG (by rfl), zAI (by omega)]
   obtain ⟨H', d', k1, k2, k3, k4, k5, k6⟩ := zIO hwl n (z + 1) H1 _ g2 (by show Good s (d.now.set _ _).length ws; rw [List.length_set]; exact hg) (by show (d.wait ++ [_]).length + _ ≤ _; simp; omega) (by omega) (by omega)
   refine ⟨H', d', k1, k2, ?_, k4, ?_, k6⟩
   ·
    rw [k3, List.drop_eq_getElem_cons hlt]
    rfl
   ·
    have k5' : d'.wait.length ≤ (d.wait ++ [_]).length + (ws.length - (z + 1)) := k5
    simp at k5'
    omega
  ·
   have e : z = ws.length := by omega
   subst e
   rw [zG (yY (by omega))]
   exact ⟨H, d, rfl, h, by rw [List.drop_length]; rfl, rfl, by omega, rfl⟩
theorem n_redo {ws : List qF} (h : WIn H i j d s base slot used com) (hwl : ws.length ≤ 100000) (hg : Good s d.now.length ws) (hw : d.wait.length ≤ 100000) :
  ∃ H' d', zCF (some j) ws H = some (0, H') ∧ WIn H' i j d' s base slot used com ∧ d'.now = rd s d.now ws ∧ d'.kept = d.kept ∧ d'.wait.length ≤ d.wait.length + ws.length ∧ d'.lives = d.lives :=
 zIO hwl (ws.length + 1) 0 H d h hg (by omega) (by omega) (by omega)
theorem n_raise (h : WIn H i j d s base slot used com) (hs : slot ≤ 1) (hb : base + s + s ≤ 2305843009213693952) (hw : d.wait.length < 999999) :
  ∃ H' d', zBu (some j) H = some (0, H') ∧ WIn H' i j d' s (base + s) (1 - slot) 0 com ∧ d'.now = d.now.set (1 - slot) (zBp (base + s) s) ∧ d'.kept = d'.now ∧ d'.wait = [] ∧ d'.lives = d.lives := by
 have := h.sl
 have := h.ln
 unfold zBu
 show ∃ H' d', Option.bind (H.lg[j]?) _ = _ ∧ _
 rw [h.lg, Option.bind_some]
 show ∃ H' d', Option.bind (zBP (wi ((base : Int) + (s : Int))) (s : Int)) _ = _ ∧ _
 rw [zBe (z := (base : Int) + (s : Int)) (by omega) (by omega), show (base : Int) + (s : Int) = ((base + s : Nat) : Int) by omega, zGM (by omega) (by omega), Option.bind_some]
 obtain ⟨H1, g1, g2⟩ := h.wr (k := 1 - slot) (by omega) (zFP (base + s) s) (by omega)
 show ∃ H' d', Option.bind (qZ (some i) (wi (1 - (slot : Int))) (zBp (base + s) s) H) _ = _ ∧ _
 rw [zBe (z := 1 - (slot : Int)) (by omega) (by omega), show 1 - (slot : Int) = ((1 - slot : Nat) : Int) by omega, g1, Option.bind_some, zG (by rfl)]
 show ∃ H' d', Option.bind (H1.lg[j]?) _ = _ ∧ _
 rw [g2.lg, Option.bind_some]
 obtain ⟨H2, k1, k2⟩ := g2.fl (by show (d.wait ++ [_]).length < _; simp; omega)
 show ∃ H' d', Option.bind (yH (some i) H1) _ = _ ∧ _
 rw [k1, Option.bind_some, zG (by rfl)]
 show ∃ H' d', Option.bind (H2.lg[j]?) _ = _ ∧ _
 rw [k2.lg, Option.bind_some]
 refine ⟨_, _, rfl, ⟨⟨k2.dsk.lg rfl rfl, k2.off, ?_, h.s3, k2.sl, k2.ln, by omega⟩, k2.fuse⟩, rfl, rfl, rfl, rfl⟩
 have hj := k2.jl
 show (((H2.lg.set j _).set j _).set j _)[j]? = _
 rw [List.getElem?_set_self (by simp; omega)]
 show some (zU.mk _ _ (wi ((base : Int) + (s : Int))) _ _ _ _) = _
 rw [zBe (z := (base : Int) + (s : Int)) (by omega) (by omega), show (base : Int) + (s : Int) = ((base + s : Nat) : Int) by omega]
 rfl
theorem zH1 (h : WIn H i j d s base slot used com) (hs : slot ≤ 1) (hb : base + s + s ≤ 2305843009213693952) (hw : d.wait.length < 999999) :
  ∃ H' d', zAM (some j) H = some (0, H') ∧ WIn H' i j d' s (base + s) (1 - slot) 0 com ∧ d'.now = d.now.set (1 - slot) (zBp (base + s) s) ∧ d'.kept = d'.now ∧ d'.wait = [] ∧ d'.lives = d.lives := by
 have := h.sl
 have := h.ln
 unfold zAM
 rw [zHf h.toLIn, Option.bind_some, zG (by rfl)]
 show ∃ H' d', Option.bind (H.lg[j]?) _ = _ ∧ _
 rw [h.lg, Option.bind_some]
 show ∃ H' d', (bif decide ((base : Int) > wi (2305843009213693952 - (s : Int))) then _ else _) = _ ∧ _
 rw [zBe (z := 2305843009213693952 - (s : Int)) (by omega) (by omega), zG (yY (by omega))]
 obtain ⟨H1, g1, g2⟩ := h.fl (by omega)
 show ∃ H' d', Option.bind (yH (some i) H) _ = _ ∧ _
 rw [g1, Option.bind_some, zG (by rfl)]
 obtain ⟨H', d', k1, k2, k3, k4, k5, k6⟩ := n_raise g2 hs hb (by show ([] : List zAX).length < _; simp)
 show ∃ H' d', Option.bind (zBu (some j) H1) _ = _ ∧ _
 rw [k1, Option.bind_some]
 exact ⟨H', d', rfl, k2, k3, k4, k5, k6⟩
abbrev Z64 : List UInt8 := List.replicate 64 0
theorem zGf {n s : Nat} (hn : n ≤ 16384) (hs : 2 + s < n) : ∀ (m z : Nat) (H : Hp) (d : Dsk), DIn H i d → d.off = false → d.fuse < 0 → d.now = List.replicate n Z64 → d.wait.length + (2 + s - z) ≤ 200000 → z ≤ 2 + s → 2 + s - z < m →
  ∃ H' d', zBv (s : Int) (some i) m (z : Int) H = zCa (some i) (s : Int) H' ∧ DIn H' i d' ∧ d'.off = false ∧ d'.fuse < 0 ∧ d'.now = List.replicate n Z64 ∧ d'.wait.length ≤ 200000 ∧ d'.lives = d.lives ∧ H'.lg = H.lg
 | 0, z, _, _, _, _, _, _, _, _, h => by omega
 | m + 1, z, H, d, h, ho, hf, hnow, hw, hz, hm => by
  unfold zBv
  rw [zBe (z := 2 + (s : Int)) (by omega) (by omega)]
  by_cases hlt : z < 2 + s
  ·
   rw [zX (zAe (by omega))]
   obtain ⟨H1, g1, g2, g3⟩ := zIm h ho hf (k := z) (x := Z64) (by rw [hnow, List.length_replicate]; omega) (by simp) (by omega)
   show ∃ H' d', Option.bind (qZ (some i) (z : Int) Z64 H) _ = _ ∧ _
   rw [g1, Option.bind_some, zG (by rfl), zAI (by omega)]
   obtain ⟨H', d', k1, k2, k3, k4, k5, k6, k7, k8⟩ := zGf hn hs m (z + 1) H1 _ g2 ho hf (by show d.now.set z Z64 = _; rw [hnow, List.set_replicate_self]) (by show (d.wait ++ [_]).length + _ ≤ _; simp; omega) (by omega) (by omega)
   exact ⟨H', d', k1, k2, k3, k4, k5, k6, k7, by rw [k8, g3]⟩
  ·
   rw [zG (yY (by omega))]
   exact ⟨H, d, rfl, h, ho, hf, hnow, by omega, rfl, rfl⟩
theorem n_room {n : Nat} (h : DIn H i d) (hl : d.now.length = n) (hn : n ≤ 16384) (hs : 3 ≤ s) (h2 : 2 + s < n) : zDL (some i) (s : Int) H = some true := by
 unfold zDL
 rw [zX (zAe (by omega)), zJU h (by omega), Option.bind_some, zBe (z := (d.now.length : Int) - 2) (by omega) (by omega), zBe (by omega) (by omega), zAe (by omega)]
theorem n_Format {n s : Nat} (h : DIn H i d) (ho : d.off = false) (hf : d.fuse < 0) (hnow : d.now = List.replicate n Z64) (hw : d.wait = []) (hn : n ≤ 16384) (hs : 3 ≤ s) (h2 : 2 + s < n) :
  ∃ H' d', zCO (some i) (s : Int) H = some (0, H') ∧ DIn H' i d' ∧ d'.off = false ∧ d'.fuse < 0 ∧ d'.now = (List.replicate n Z64).set 0 (zBp 1 s) ∧ d'.kept = d'.now ∧ d'.wait = [] ∧ d'.lives = d.lives ∧ H'.lg = H.lg := by
 have hl : d.now.length = n := by rw [hnow, List.length_replicate]
 unfold zCO
 rw [zJU h (by omega), Option.bind_some, zG (zDn (by omega)), n_room h hl hn hs h2, Option.bind_some, zG (by rfl), zBe (z := 2 + (s : Int)) (by omega) (by omega)]
 obtain ⟨H1, d1, g1, g2, g3, g4, g5, g6, g7, g8⟩ := zGf (s := s) hn h2 ((2 + (s : Int)).toNat + 1) 1 H d h ho hf hnow (by rw [hw]; simp; omega) (by omega) (by omega)
 rw [show ((1 : Nat) : Int) = 1 from rfl] at g1
 rw [g1]
 unfold zCa
 obtain ⟨H2, k1, k2, k3⟩ := zIl g2 g3 g4 (by rw [g5, List.length_replicate]; omega) (by omega)
 rw [k1, Option.bind_some, zG (by rfl)]
 have eS := zGM (b := 1) (s := s) (by omega) (by omega)
 rw [show ((1 : Nat) : Int) = 1 from rfl] at eS
 rw [eS, Option.bind_some]
 obtain ⟨H3, m1, m2, m3⟩ := zIm k2 g3 g4 (k := 0) (by show 0 < d1.now.length; rw [g5, List.length_replicate]; omega) (zFP 1 s) (by show ([] : List zAX).length < _; simp)
 rw [show ((0 : Nat) : Int) = 0 from rfl] at m1
 show ∃ H' d', Option.bind (qZ (some i) 0 (zBp 1 s) H2) _ = _ ∧ _
 rw [m1, Option.bind_some, zG (by rfl)]
 obtain ⟨H4, q1, q2, q3⟩ := zIl m2 g3 g4 (by show 0 < (d1.now.set 0 _).length; rw [List.length_set, g5, List.length_replicate]; omega) (by show ([] ++ [_] : List zAX).length < _; simp)
 show ∃ H' d', Option.bind (yH (some i) H3) _ = _ ∧ _
 rw [q1]
 exact ⟨H4, _, rfl, q2, g3, g4, by show d1.now.set 0 _ = _; rw [g5], rfl, rfl, g7, by rw [q3, m3, k3, g8]⟩
theorem zG6 {n b s k : Nat} (h : DIn H i d) (ho : d.off = false) (hl : d.now.length = n) (hn : n ≤ 16384) (hs : 3 ≤ s) (h2 : 2 + s < n) (hb : 1 ≤ b) (hb2 : b ≤ 2305843009213693952) (hr : d.now[k]? = some (zBp b s)) : zAU (some i) (k : Int) H = some ((b : Int), (s : Int), true) := by
 unfold zAU
 rw [zJB h ho hr, Option.bind_some, zG (by rfl)]
 have hL := zFP b s
 have e1 : cutI (zBp b s) 0 8 = some (be 8 b) := by
  have := zCg (l := zBp b s) (lo := 0) (n := 8) (by omega) 8 rfl
  rw [show ((0 : Nat) : Int) = 0 from rfl, List.drop_zero] at this
  rw [this]
  unfold zBp
  rw [List.take_left' (zR 8 b)]
 have e2 : cutI (zBp b s) 56 ((zBp b s).length : Int) = some (be 8 b) := by
  have := cutI_drop (l := zBp b s) (n := 56) (by omega)
  rw [show ((56 : Nat) : Int) = 56 from rfl] at this
  rw [this]
  unfold zBp
  rw [show be 8 b ++ (be 4 s ++ (List.replicate 44 (0 : UInt8) ++ be 8 b)) = (be 8 b ++ (be 4 s ++ List.replicate 44 (0 : UInt8))) ++ be 8 b by simp only [List.append_assoc], List.drop_left' (by simp [zR])]
 have e3 : cutI (zBp b s) 8 12 = some (be 4 s) := by
  have := zCg (l := zBp b s) (lo := 8) (n := 4) (by omega) 12 rfl
  rw [show ((8 : Nat) : Int) = 8 from rfl] at this
  rw [this]
  unfold zBp
  rw [List.drop_left' (zR 8 b), List.take_left' (zR 4 s)]
 have e4 : cutI (zBp b s) 12 56 = some (List.replicate 44 0) := by
  have := zCg (l := zBp b s) (lo := 12) (n := 44) (by omega) 56 rfl
  rw [show ((12 : Nat) : Int) = 12 from rfl] at this
  rw [this]
  unfold zBp
  rw [show be 8 b ++ (be 4 s ++ (List.replicate 44 (0 : UInt8) ++ be 8 b)) = (be 8 b ++ be 4 s) ++ (List.replicate 44 (0 : UInt8) ++ be 8 b) by simp only [List.append_assoc], List.drop_left' (by simp [zR]), List.take_left' (by simp)]
 obtain ⟨gb, gb2⟩ := getN_be (n := b) (k := 8) (by omega) (by omega) (by omega) (by omega)
 obtain ⟨gs, gs2⟩ := getN_be (n := s) (k := 4) (by omega) (by omega) (by omega) (by omega)
 show Option.bind (cutI (zBp b s) 0 8) _ = _
 rw [e1, Option.bind_some, zJx, Option.bind_some]
 show Option.bind (cutI (zBp b s) 56 ((zBp b s).length : Int)) _ = _
 rw [e2, Option.bind_some, zJx, Option.bind_some]
 show Option.bind (cutI (zBp b s) 8 12) _ = _
 rw [e3, Option.bind_some, zJx, Option.bind_some, gb, gb2, gs, gs2]
 rw [zG (by rfl), zG (by rfl), zG (by rfl), zG (zCT rfl), zG (yY (by show ¬ (b : Int) < 1; omega)), zG (yY (by show ¬ (b : Int) > 2305843009213693952; omega))]
 show Option.bind (zDL (some i) (s : Int) H) _ = _
 rw [n_room h hl hn hs h2, Option.bind_some, zG (by rfl)]
 show Option.bind (cutI (zBp b s) 12 56) _ = _
 rw [e4, Option.bind_some, show zDI (List.replicate 44 0) = some true by decide +kernel, Option.bind_some, zG (by rfl)]
theorem zJk {k : Nat} (h : DIn H i d) (ho : d.off = false) (hr : d.now[k]? = some Z64) : zAU (some i) (k : Int) H = some (0, 0, false) := by
 unfold zAU
 rw [zJB h ho hr, Option.bind_some, zG (by rfl)]
 show Option.bind (cutI Z64 0 8) _ = _
 rw [show cutI Z64 0 8 = some (List.replicate 8 0) by decide +kernel, Option.bind_some, show zBH (List.replicate 8 0) = some (0, 0) by decide +kernel, Option.bind_some]
 show Option.bind (cutI Z64 56 64) _ = _
 rw [show cutI Z64 56 64 = some (List.replicate 8 0) by decide +kernel, Option.bind_some, show zBH (List.replicate 8 0) = some (0, 0) by decide +kernel, Option.bind_some]
 show Option.bind (cutI Z64 8 12) _ = _
 rw [show cutI Z64 8 12 = some (List.replicate 4 0) by decide +kernel, Option.bind_some, show zBH (List.replicate 4 0) = some (0, 0) by decide +kernel, Option.bind_some]
 rfl
theorem zGR {H0 K : Hp} {x : zU} {b s n z : Nat} (hK : DIn K i d) (hx : K.lg[H0.lg.length]? = some x) (hz : z < 2) (hr : zAU (some i) (z : Int) K = some ((b : Int), (s : Int), true)) (hb : x.base_ < (b : Int)) :
  ∃ K', yE i H0 (n + 1) (z : Int) K = yE i H0 n ((z + 1 : Nat) : Int) K' ∧ K'.lg[H0.lg.length]? = some ⟨x.d_, s, b, z, x.used_, x.life_, x.commits_⟩ ∧ DIn K' i d := by
 have hl : H0.lg.length < K.lg.length := (List.getElem?_eq_some_iff.1 hx).1
 rw [yE, zX (zAe (by omega)), hr, Option.bind_some, zX (by rfl)]
 show ∃ K', Option.bind (K.lg[H0.lg.length]?) _ = _ ∧ _
 rw [hx, Option.bind_some, zAe (show (b : Int) > x.base_ from hb)]
 unfold zCb
 rw [zX (by rfl)]
 show ∃ K', Option.bind (K.lg[H0.lg.length]?) _ = _ ∧ _
 rw [hx, Option.bind_some, zAI (by omega)]
 refine ⟨_, rfl, ?_, hK.lg rfl rfl⟩
 show (((K.lg.set H0.lg.length _).set H0.lg.length _).set H0.lg.length _)[H0.lg.length]? = _
 rw [List.getElem?_set_self (by simp; omega)]
theorem zIp {H0 K : Hp} {u v : Int} {n z : Nat} (hz : z < 2) (hr : zAU (some i) (z : Int) K = some (u, v, false)) : yE i H0 (n + 1) (z : Int) K = yE i H0 n ((z + 1 : Nat) : Int) K := by
 rw [yE, zX (zAe (by omega)), hr, Option.bind_some, zG (by rfl)]
 unfold zCb
 rw [zG (by rfl), zAI (by omega)]
theorem n_Open_l5 {n b s : Nat} (h : DIn H i d) (ho : d.off = false) (hf : d.fuse < 0) (hl : d.now.length = n) (hn : n ≤ 16384) (hs : 3 ≤ s) (h2 : 2 + s < n) (hb : 1 ≤ b) (hb2 : b + s ≤ 2305843009213693952) (h0 : d.now[0]? = some (zBp b s)) (c : Nat) (h1 : d.now[1]? = some Z64 ∧ c = 0 ∨ d.now[1]? = some (zBp c s) ∧ b < c ∧ c + s ≤ 2305843009213693952) :
  ∃ K, zDJ (some i) H = zCW H K ∧ WIn K i H.lg.length d s (if c = 0 then b else c) (if c = 0 then 0 else 1) 0 0 := by
 unfold zDJ
 rw [zJU h (by omega), Option.bind_some, zG (zDn (by omega)), n_Off h (by omega), Option.bind_some, ho, zG (by rfl)]
 show ∃ K, Option.bind (zAB (some i) H) _ = _ ∧ _
 rw [n_Lives h (by omega), Option.bind_some]
 have hK0 : DIn (H.nw_lg ⟨some i, 0, 0, 0, 0, d.lives, 0⟩) i d := h.lg rfl rfl
 obtain ⟨K1, g1, g2, g3⟩ := zGR (H0 := H) (n := 2) (z := 0) hK0 (x := ⟨some i, 0, 0, 0, 0, d.lives, 0⟩) (by show (H.lg ++ [_])[H.lg.length]? = _; simp) (by omega) (zG6 hK0 ho hl hn hs h2 hb (by omega) h0) (by show (0 : Int) < (b : Int); omega)
 show ∃ K, yE i H (2 + 1) ((0 : Nat) : Int) (H.nw_lg ⟨some i, 0, 0, 0, 0, d.lives, 0⟩) = _ ∧ _
 rw [g1]
 rcases h1 with ⟨h1, rfl⟩ | ⟨h1, h3, h4⟩
 ·
  rw [zIp (z := 0 + 1) (by omega) (zJk g3 ho h1)]
  refine ⟨K1, ?_, ⟨g3, ho, g2, hs, by omega, by omega, hb2⟩, hf⟩
  show yE i H (0 + 1) 2 K1 = _
  rw [yE, zG (by decide)]
 ·
  obtain ⟨K2, k1, k2, k3⟩ := zGR (H0 := H) (n := 1) (z := 0 + 1) g3 g2 (by omega) (zG6 g3 ho hl hn hs h2 (by omega) (by omega) h1) (by show (b : Int) < (c : Int); omega)
  rw [k1, if_neg (by omega), if_neg (by omega)]
  refine ⟨K2, ?_, ⟨k3, ho, k2, hs, by omega, by omega, h4⟩, hf⟩
  show yE i H (0 + 1) 2 K2 = _
  rw [yE, zG (by decide)]
theorem n_Open_j4 {K : Hp} {L : List qF} (h : WIn K i H.lg.length d s base slot 0 com) (h1 : 1 ≤ base) (hs : slot ≤ 1) (hb : base + s + s ≤ 2305843009213693952) (hL : zA9 (some H.lg.length) K = some L) (hg : Good s d.now.length L) (hl : L.length ≤ 100000) (hw : d.wait.length ≤ 1000) :
  ∃ H' d', zCW H K = some (some H.lg.length, 0, H') ∧ WIn H' i H.lg.length d' s (base + s) (1 - slot) 0 com ∧ d'.now = (rd s d.now L).set (1 - slot) (zBp (base + s) s) ∧ d'.kept = d'.now ∧ d'.wait = [] ∧ d'.lives = d.lives := by
 have := h.ln
 have := h.sl
 unfold zCW
 show ∃ H' d', Option.bind (K.lg[H.lg.length]?) _ = _ ∧ _
 rw [h.lg, Option.bind_some]
 show ∃ H' d', (bif ((base : Int) == 0) then _ else bif decide ((base : Int) > wi (2305843009213693952 - (s : Int))) then _ else _) = _ ∧ _
 rw [zG (zDn (by omega)), zBe (z := 2305843009213693952 - (s : Int)) (by omega) (by omega), zG (yY (by omega))]
 show ∃ H' d', Option.bind (zA9 (some H.lg.length) K) _ = _ ∧ _
 rw [hL, Option.bind_some]
 obtain ⟨H1, d1, g1, g2, g3, g4, g5, g6⟩ := n_redo h hl hg (by omega)
 show ∃ H' d', Option.bind (zCF (some H.lg.length) L K) _ = _ ∧ _
 rw [g1, Option.bind_some, zG (by rfl)]
 obtain ⟨H2, d2, k1, k2, k3, k4, k5, k6⟩ := zH1 g2 hs hb (by omega)
 show ∃ H' d', Option.bind (zAM (some H.lg.length) H1) _ = _ ∧ _
 rw [k1, Option.bind_some, zG (by rfl)]
 exact ⟨H2, d2, rfl, k2, by rw [k3, g3], k4, k5, by rw [k6, g6]⟩
end
end Go.Proofs.Ytjomnccladjpgaa

/-
 Plain: what a transaction does.
-/
namespace Go.Proofs.Ytjomnccladjpgaa
open Go Go.RowKit
set_option linter.unusedVariables false
set_option linter.unusedSimpArgs false
section
variable {ν : Type}
theorem mf_nil (k : Int) : zY ([] : List (Int × ν)) k = none := rfl
theorem zGc (a : Int × ν) (l : List (Int × ν)) (k : Int) : zY (a :: l) k = if k = a.1 then some a.2 else zY l k := by
 unfold zY mpos
 rw [List.findIdx?_cons]
 by_cases h : k = a.1
 ·
  rw [if_pos (by simpa using h), if_pos h]
  rfl
 ·
  rw [if_neg (by simpa using h), if_neg h]
  cases List.findIdx? (fun p : Int × ν => k == p.1) l <;> rfl
theorem ms_nil (k : Int) (v : ν) : mset [] k v = [(k, v)] := rfl
theorem ms_cons (a : Int × ν) (l : List (Int × ν)) (k : Int) (v : ν) : mset (a :: l) k v = if k = a.1 then (k, v) :: l else a :: mset l k v := by
 unfold mset mpos
 rw [List.findIdx?_cons]
 by_cases h : k = a.1
 ·
  rw [if_pos (by simpa using h), if_pos h]
  rfl
 ·
  rw [if_neg (by simpa using h), if_neg h]
  cases List.findIdx? (fun p : Int × ν => k == p.1) l <;> rfl
theorem mf_ms (l : List (Int × ν)) (k q : Int) (v : ν) : zY (mset l k v) q = if q = k then some v else zY l q := by
 induction l with
 | nil => rw [ms_nil, zGc, mf_nil]
 | cons a l ih =>
  rw [ms_cons]
  by_cases h : k = a.1
  ·
   rw [if_pos h, zGc, zGc]
   by_cases h2 : q = k
   · rw [if_pos h2, if_pos h2]
   · rw [if_neg h2, if_neg h2, if_neg (by rw [← h]; exact h2)]
  ·
   rw [if_neg h, zGc, zGc, ih]
   by_cases h2 : q = k
   · rw [if_pos h2, if_pos h2, if_neg (by rw [h2]; exact h)]
   · rw [if_neg h2, if_neg h2]
end
structure TIn (H : Hp) (t : Nat) (hs : List (List UInt8)) (mp : List (Int × List UInt8)) : Prop where
 at_ : ∃ i j d s b sl us com m, LIn H i j d s b sl us com ∧ H.tx[t]? = some ⟨some j, com, false, m⟩ ∧ H.mp[m]? = some mp ∧ hs.length = d.now.length - 2 - s ∧
  ∀ (k : Nat) (r : List UInt8), hs[k]? = some r → zY mp (k : Int) = some r ∨ zY mp (k : Int) = none ∧ d.now[2 + s + k]? = some r
 row : ∀ r ∈ hs, r.length = 64
 keys : ∀ (q : Int) (r : List UInt8), zY mp q = some r → 0 ≤ q ∧ q < (hs.length : Int)
section
variable {H : Hp} {t : Nat} {hs : List (List UInt8)} {mp : List (Int × List UInt8)}
theorem TIn.low (h : TIn H t hs mp) : hs.length ≤ 16384 := by
 obtain ⟨⟨i, j, d, s, b, sl, us, com, m, h1, h2, h3, h4, h5⟩, _, _⟩ := h
 have := h1.ln
 omega
theorem TIn.wide (h : TIn H t hs mp) {k : Nat} {r : List UInt8} (hk : hs[k]? = some r) : r.length = 64 := h.row r (List.mem_of_getElem? hk)
theorem TIn.ht (h : TIn H t hs mp) : t < H.tx.length := by
 obtain ⟨⟨i, j, d, s, b, sl, us, com, m, h1, h2, h3, h4, h5⟩, _, _⟩ := h
 exact (List.getElem?_eq_some_iff.1 h2).1
theorem TIn.tell {H' : Hp} (h : TIn H t hs mp) (e1 : H'.dk = H.dk) (e2 : H'.sec = H.sec) (e3 : H'.lg = H.lg) (e4 : H'.tx = H.tx) (e5 : H'.mp = H.mp) : TIn H' t hs mp := by
 obtain ⟨⟨i, j, d, s, b, sl, us, com, m, h1, h2, h3, h4, h5⟩, h6, h7⟩ := h
 exact ⟨⟨i, j, d, s, b, sl, us, com, m, ⟨h1.dsk.lg e1 e2, h1.off, by rw [e3]; exact h1.lg, h1.s3, h1.sl, h1.ln, h1.bs⟩, by rw [e4]; exact h2, by rw [e5]; exact h3, h4, h5⟩, h6, h7⟩
theorem zHg (h : TIn H t hs mp) : zBN (some t) H = some 0 := by
 obtain ⟨⟨i, j, d, s, b, sl, us, com, m, h1, h2, h3, h4, h5⟩, h6, h7⟩ := h
 unfold zBN
 show Option.bind (H.tx[t]?) _ = _
 rw [h2, Option.bind_some]
 show Option.bind (zAK (some j) H) _ = _
 rw [zHf h1, Option.bind_some, zG (zCT rfl)]
 show Option.bind (H.lg[j]?) _ = _
 rw [h1.lg, Option.bind_some]
 show (bif com != com then some 34 else some 0) = _
 rw [zG (zCT rfl)]
theorem n_TRead (h : TIn H t hs mp) {k : Nat} {r : List UInt8} (hr : hs[k]? = some r) : zCE (some t) (k : Int) H = some (r, 0) := by
 have ha := zHg h
 have hw := h.wide hr
 obtain ⟨⟨i, j, d, s, b, sl, us, com, m, h1, h2, h3, h4, h5⟩, h6, h7⟩ := h
 unfold zCE
 rw [ha, Option.bind_some, zG (zCT rfl)]
 show Option.bind (H.tx[t]?) _ = _
 rw [h2, Option.bind_some]
 show Option.bind (H.mp[m]?) _ = _
 rw [h3, Option.bind_some]
 rcases h5 k r hr with h8 | ⟨h8, h9⟩
 ·
  rw [h8, zX (by rfl)]
  show Option.bind (yB r) _ = _
  unfold yB
  rw [zFA (by rw [List.length_nil]; omega), Option.bind_some]
  rfl
 ·
  rw [h8, zG (by rfl)]
  show Option.bind (zBk (some j) (k : Int) H) _ = _
  rw [n_LRead h1 h9]
  rfl
theorem zGE (h : TIn H t hs mp) {k : Nat} (hk : k < hs.length) {x : List UInt8} (hx : x.length = 64) :
  ∃ H', yZ (some t) (k : Int) x H = some (0, H') ∧ TIn H' t (hs.set k x) (mset mp (k : Int) x) ∧ ∃ m v, H' = H.st_mp m v := by
 have ha := zHg h
 obtain ⟨⟨i, j, d, s, b, sl, us, com, m, h1, h2, h3, h4, h5⟩, h6, h7⟩ := h
 have hm : m < H.mp.length := (List.getElem?_eq_some_iff.1 h3).1
 refine ⟨H.st_mp m (mset mp (k : Int) x), ?_, ⟨⟨i, j, d, s, b, sl, us, com, m, ⟨h1.dsk.lg rfl rfl, h1.off, h1.lg, h1.s3, h1.sl, h1.ln, h1.bs⟩, h2, List.getElem?_set_self hm, by rw [List.length_set]; exact h4, fun q r hq => ?_⟩, fun r hr => ?_, fun q r hq => ?_⟩, m, _, rfl⟩
 ·
  unfold yZ
  rw [ha, Option.bind_some, zG (zCT rfl), zG (yY (by omega))]
  show Option.bind (H.tx[t]?) _ = _
  rw [h2, Option.bind_some]
  show Option.bind (zAL (some j) H) _ = _
  rw [n_Homes h1, Option.bind_some, zG (yY (by omega)), zG (zCT (by omega))]
  unfold yB
  rw [zFA (by rw [List.length_nil]; omega), Option.bind_some]
  show Option.bind (H.mp[m]?) _ = _
  rw [h3, Option.bind_some]
  rfl
 ·
  rw [mf_ms]
  by_cases e : q = k
  ·
   subst e
   rw [List.getElem?_set_self hk] at hq
   rw [if_pos rfl]
   exact .inl hq
  ·
   rw [List.getElem?_set_ne (by omega)] at hq
   rw [if_neg (by omega)]
   exact h5 q r hq
 ·
  rcases List.mem_or_eq_of_mem_set hr with hr | rfl
  · exact h6 r hr
  · exact hx
 ·
  rw [List.length_set]
  rw [mf_ms] at hq
  by_cases e : q = k
  · omega
  ·
   rw [if_neg e] at hq
   exact h7 q r hq
end
theorem z_badA {st : Nat} (h1 : 0 < st) (h2 : st < 18446744073709551616) : ¬ Valid st Z64 := by
 intro h
 have := congrArg ofBE (valid_end h)
 rw [zHK, Nat.mod_eq_of_lt (by omega), show ofBE (Z64.drop 56) = 0 by decide +kernel] at this
 omega
theorem open_new (w1 : Hp) {n s : Nat} (hn : n ≤ 16384) (hs : 3 ≤ s) (h2 : 2 + s < n) : ∃ H1 H2 H3 i j d, zDs (n : Int) w1 = some (some i, 0, H1) ∧ zCO (some i) (s : Int) H1 = some (0, H2) ∧ zDJ (some i) H2 = some (some j, 0, H3) ∧ WIn H3 i j d s (1 + s) 1 0 0 ∧ d.wait = [] ∧ d.now = ((List.replicate n Z64).set 0 (zBp 1 s)).set 1 (zBp (1 + s) s) := by
 obtain ⟨H1, e1, e2, e3⟩ := n_New (H := w1) (n := n) (by omega) (by omega)
 obtain ⟨H2, d2, f1, f2, f3, f4, f5, f6, f7, f8, f9⟩ := n_Format (n := n) (s := s) e2 rfl (by show (-1 : Int) < 0; omega) rfl rfl (by omega) (by omega) (by omega)
 have hl : d2.now.length = n := by rw [f5]; simp
 obtain ⟨K, g1, g2⟩ := n_Open_l5 (b := 1) (s := s) f2 f3 f4 hl (by omega) (by omega) (by omega) (by omega) (by omega) (by rw [f5, List.getElem?_set_self (by simp; omega)]) 0 (.inl ⟨by rw [f5, List.getElem?_set_ne (by omega), List.getElem?_replicate, if_pos (by omega)], rfl⟩)
 rw [if_pos rfl, if_pos rfl] at g2
 have hr : d2.now[2 + 0]? = some Z64 := by rw [f5, List.getElem?_set_ne (by omega), List.getElem?_replicate, if_pos (by omega)]
 have hs2 := zIj g2.toLIn ⟨_, n_at g2.toLIn (p := 0) (by omega) hr, atE_bad (z_badA (by omega) (by omega)) (by simp)⟩
 obtain ⟨H3, d3, k1, k2, k3, k4, k5, k6⟩ := n_Open_j4 (H := H2) g2 (by omega) (by omega) (by omega) hs2 (fun w hw => absurd hw List.not_mem_nil) (by simp) (by rw [f7]; simp)
 refine ⟨H1, H2, H3, w1.dk.length, H2.lg.length, d3, e1, f1, ?_, k2, k5, ?_⟩
 · rw [g1, k1]
 ·
  rw [k3, f5]
  rfl
theorem n_Begin {H : Hp} {i j : Nat} {d : Dsk} {s b sl us : Nat} {com : Int} (h : LIn H i j d s b sl us com) : ∃ H', zBr (some j) H = some (some H.tx.length, 0, H') ∧ TIn H' H.tx.length (d.now.drop (2 + s)) [] ∧ H'.ix = H.ix := by
 have hsl := h.sl
 let X : zCD := ⟨some j, com, false, H.mp.length⟩
 have e1 : ((H.nw_mp []).nw_tx X).tx[H.tx.length]? = some X := by
  show (H.tx ++ [X])[H.tx.length]? = _
  exact List.getElem?_concat_length
 have e2 : ((H.nw_mp []).nw_tx X).mp[H.mp.length]? = some [] := by
  show (H.mp ++ [[]])[H.mp.length]? = _
  exact List.getElem?_concat_length
 refine ⟨(H.nw_mp []).nw_tx X, ?_, ⟨⟨i, j, d, s, b, sl, us, com, H.mp.length, ⟨h.dsk.lg rfl rfl, h.off, h.lg, h.s3, h.sl, h.ln, h.bs⟩, e1, e2, by rw [List.length_drop]; omega, fun k r hk => .inr ⟨rfl, by rw [List.getElem?_drop] at hk; exact hk⟩⟩, fun r hr => ?_, fun q r hq => by cases hq⟩, rfl⟩
 ·
  unfold zBr
  rw [zHf h, Option.bind_some, zG (zCT rfl)]
  show Option.bind (H.lg[j]?) _ = _
  rw [h.lg, Option.bind_some]
  rfl
 ·
  obtain ⟨k, hk⟩ := List.getElem?_of_mem hr
  rw [List.getElem?_drop] at hk
  exact h.dsk.row hk
end Go.Proofs.Ytjomnccladjpgaa
