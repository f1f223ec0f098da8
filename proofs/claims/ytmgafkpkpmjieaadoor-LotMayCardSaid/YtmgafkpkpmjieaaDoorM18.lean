/-
  Texts joined: see the remark at the head of each part.
-/
import Derived.Test.YtmgafkpkpmjieaaDoorM17
set_option linter.unusedVariables false
set_option linter.unusedSimpArgs false
/-
 The plain law of the sums: bytes as words, the highest byte first.
-/
namespace Go.Proofs.YtmgafkpkpmjieaaDoor
open Go Go.RowKit
set_option linter.unusedVariables false
def wdf (n : Nat) (c : UInt8) : Nat := n * 256 + c.toNat
def wd (b : List UInt8) : Nat := b.foldl wdf 0
theorem wd_lt (b : List UInt8) : ∀ n, b.foldl wdf n < (n + 1) * 256 ^ b.length := by
 induction b with
 | nil => intro n; simp
 | cons c b ih =>
  intro n
  refine Nat.lt_of_lt_of_le (ih (wdf n c)) ?_
  rw [List.length_cons, Nat.pow_succ, Nat.mul_comm (256 ^ b.length) 256, ← Nat.mul_assoc]
  refine Nat.mul_le_mul_right _ ?_
  have := c.toNat_lt
  unfold wdf
  omega
theorem wd_lt8 {b : List UInt8} (h : b.length ≤ 8) : wd b < 18446744073709551616 := by
 have h1 := wd_lt b 0
 have h2 : 256 ^ b.length ≤ 256 ^ 8 := Nat.pow_le_pow_right (by decide) h
 have h3 : (256 : Nat) ^ 8 = 18446744073709551616 := rfl
 unfold wd
 omega
theorem zH4 (b : List UInt8) (c : UInt8) : wd (b ++ [c]) = wd b * 256 + c.toNat := by
 unfold wd
 rw [List.foldl_append]
 rfl
theorem zAo {b : List UInt8} {i : Nat} (h : i < b.length) : b.take (i + 1) = b.take i ++ [b[i]] := by
 rw [List.take_add_one, List.getElem?_eq_getElem h]
 rfl
theorem wd_lt7 {b : List UInt8} {i : Nat} (hi : i < 8) : wd (b.take i) < 72057594037927936 := by
 have h1 := wd_lt (b.take i) 0
 have h4 : (b.take i).length ≤ 7 := by rw [List.length_take]; omega
 have h2 : 256 ^ (b.take i).length ≤ 256 ^ 7 := Nat.pow_le_pow_right (by decide) h4
 have h3 : (256 : Nat) ^ 7 = 72057594037927936 := rfl
 unfold wd
 omega
theorem n_w4 (kl : List UInt8 → List Int → Option (List Int × Int)) (b : List UInt8) (z4 : List Int) (z3 : List UInt8) (hb : b.length ≤ 8) : ∀ (k i : Nat), i + k = b.length → ∀ fuel, k < fuel → zAK kl b z4 z3 fuel ((wd (b.take i) : Nat) : Int) (i : Int) = zBI kl z4 z3 ((wd b : Nat) : Int)
 | 0, i, hi, fuel + 1, hf => by
  unfold zAK
  rw [yB (by omega), cond_false, List.take_of_length_le (by omega)]
 | k + 1, i, hi, fuel + 1, hf => by
  unfold zAK
  have hlt : i < b.length := by omega
  rw [yX (by omega), cond_true, zC6 hlt, Option.bind_some, get_step _ _ (wd_lt7 (by omega)) (b[i]).toNat_lt, ← zH4, ← zAo hlt, show (i : Int) + 1 = ((i + 1 : Nat) : Int) by omega, zBJ (by omega)]
  exact n_w4 kl b z4 z3 hb k (i + 1) (by omega) fuel (by omega)
def wds : Nat → List UInt8 → List Nat
 | 0, _ => []
 | n + 1, b => wd (b.take 8) :: wds n (b.drop 8)
theorem zDZ : ∀ (n : Nat) (b : List UInt8), (wds n b).length = n
 | 0, _ => rfl
 | n + 1, b => by rw [wds, List.length_cons, zDZ n]
theorem wds_64 : ∀ (n : Nat) (b : List UInt8), zFx (wds n b)
 | 0, _ => fun x h => by cases h
 | n + 1, b => fun x h => by
  rcases List.mem_cons.1 h with rfl | h
  · exact wd_lt8 (by rw [List.length_take]; omega)
  · exact wds_64 n _ x h
theorem n_w2 : ∀ (n : Nat) (b : List UInt8) (acc : List Nat), b.length = 8 * n → acc.length + n ≤ 1000 → ∀ fuel, n < fuel → yH fuel b (ci acc) = some (ci (acc ++ wds n b), 0)
 | 0, b, acc, hb, ha, fuel + 1, hf => by
  unfold yH
  rw [yB (by omega), cond_false]
  unfold zB4
  simp [wds]
 | n + 1, b, acc, hb, ha, fuel + 1, hf => by
  unfold yH
  have h8 : (b.take 8).length = 8 := by rw [List.length_take]; omega
  have hc : cutI b 0 8 = some (b.take 8) := by unfold cutI; rw [if_pos (by omega)]; rfl
  rw [yX (by omega), cond_true, hc, Option.bind_some]
  have h4 := n_w4 (yH fuel) (b.take 8) (ci acc) b (by omega) 8 0 (by omega) ((b.take 8).length + 1) (by omega)
  rw [show ((wd ((b.take 8).take 0) : Nat) : Int) = 0 from rfl, show ((0 : Nat) : Int) = 0 from rfl] at h4
  rw [h4]
  unfold zBI
  have ha2 : appI 8 (ci acc) [((wd (b.take 8) : Nat) : Int)] = some (ci (acc ++ [wd (b.take 8)])) := by
   unfold appI
   rw [zFA, if_pos (by simp only [List.length_cons, List.length_nil]; omega)]
   unfold ci
   rw [List.map_append]
   rfl
  have hd : cutI b 8 (b.length : Int) = some (b.drop 8) := by
   unfold cutI
   rw [if_pos (by omega), Int.toNat_natCast, List.take_length]
   rfl
  rw [ha2, Option.bind_some, hd, Option.bind_some, n_w2 n (b.drop 8) (acc ++ [wd (b.take 8)]) (by rw [List.length_drop]; omega) (by simp; omega) fuel (by omega)]
  simp [wds]
theorem n_words {n : Nat} {b : List UInt8} (hb : b.length = 8 * n) (hn : n ≤ 1000) : zCA b = some (ci (wds n b), 0) := by
 unfold zCA
 have h0 : (Int.tmod (b.length : Int) 8 != 0) = false := by
  rw [show Int.tmod (b.length : Int) 8 = ((b.length % 8 : Nat) : Int) from rfl, show b.length % 8 = 0 by omega]
  rfl
 rw [h0, cond_false]
 exact n_w2 n b [] hb (by simpa using hn) _ (by omega)
theorem zIW {p : List UInt8} (hp : p.length = 128) : zCC p = some (ci (wext 64 (wds 16 p))) := by
 unfold zCC
 rw [n_words (n := 16) (by omega) (by omega), Option.bind_some]
 have hc : cpyI (List.replicate 80 (0 : Int)) 0 80 (ci (wds 16 p)) = some (ci (wds 16 p ++ List.replicate 64 0)) := by
  unfold cpyI
  rw [if_pos (by simp)]
  congr 1
 rw [hc, Option.bind_some, show lenI (ci (wds 16 p ++ List.replicate 64 0)).length (List.replicate 80 (0 : Int)).length = some () by rw [zFA, List.length_append, zDZ]; rfl, Option.bind_some]
 have h := zGt 64 (wds 16 p) (wds_64 16 p) (by rw [zDZ]; omega) (by rw [zDZ]) (Int.toNat 80 + 1) (by decide)
 rw [zDZ] at h
 exact h
end Go.Proofs.YtmgafkpkpmjieaaDoor

/-
 The plain law of the sums: a round on eight numbers; a piece.
-/
namespace Go.Proofs.YtmgafkpkpmjieaaDoor
open Go Go.RowKit
set_option linter.unusedVariables false
set_option maxHeartbeats 1000000
def chN (e f g : Nat) : Nat := (e &&& f) ||| ((18446744073709551615 ^^^ e) &&& g)
def majN (a b c : Nat) : Nat := ((a &&& b) ||| (a &&& c)) ||| (b &&& c)
def oneN (e f g h k w : Nat) : Nat := ad (ad (ad (ad h (sg e 14 18 41)) (chN e f g)) k) w
def twoN (a b c : Nat) : Nat := ad (sg a 28 34 39) (majN a b c)
theorem notx {v : Nat} (hv : v < 18446744073709551616) : IntKind.u64.wrap ((((BitVec.ofInt IntKind.u64.bits 18446744073709551615) ^^^ (BitVec.ofInt IntKind.u64.bits (v : Int))).toNat : Nat) : Int) = ((18446744073709551615 ^^^ v : Nat) : Int) := zBo (a := 18446744073709551615) (by omega) hv
theorem notm {v : Nat} (hv : v < 18446744073709551616) : IntKind.u64.wrap (18446744073709551615 - (v : Int)) = ((18446744073709551615 - v : Nat) : Int) := by
 rw [show (18446744073709551615 : Int) - (v : Int) = ((18446744073709551615 - v : Nat) : Int) by omega, zAy (by omega)]
theorem one_p {e f g h k w : Nat} (he : e < 18446744073709551616) (hf : f < 18446744073709551616) (hg : g < 18446744073709551616) : (IntKind.u64.wrap ((IntKind.u64.wrap ((IntKind.u64.wrap ((IntKind.u64.wrap ((h : Int) + ((sg e 14 18 41 : Nat) : Int))) + (IntKind.u64.wrap ((((BitVec.ofInt IntKind.u64.bits (IntKind.u64.wrap ((((BitVec.ofInt IntKind.u64.bits (e : Int)) &&& (BitVec.ofInt IntKind.u64.bits (f : Int))).toNat : Nat) : Int))) ||| (BitVec.ofInt IntKind.u64.bits (IntKind.u64.wrap ((((BitVec.ofInt IntKind.u64.bits (IntKind.u64.wrap ((((BitVec.ofInt IntKind.u64.bits 18446744073709551615) ^^^ (BitVec.ofInt IntKind.u64.bits (e : Int))).toNat : Nat) : Int))) &&& (BitVec.ofInt IntKind.u64.bits (g : Int))).toNat : Nat) : Int)))).toNat : Nat) : Int)))) + (k : Int))) + (w : Int))) = ((oneN e f g h k w : Nat) : Int) := by
 have l1 : 18446744073709551615 ^^^ e < 18446744073709551616 := zDd (by decide) he
 rw [notx he, zDC he hf, zDC l1 hg, zII (zAw he) (zAw l1), yK, yK, yK, yK]
 rfl
theorem two_p {a b c : Nat} (ha : a < 18446744073709551616) (hb : b < 18446744073709551616) (hc : c < 18446744073709551616) : (IntKind.u64.wrap (((sg a 28 34 39 : Nat) : Int) + (IntKind.u64.wrap ((((BitVec.ofInt IntKind.u64.bits (IntKind.u64.wrap ((((BitVec.ofInt IntKind.u64.bits (IntKind.u64.wrap ((((BitVec.ofInt IntKind.u64.bits (a : Int)) &&& (BitVec.ofInt IntKind.u64.bits (b : Int))).toNat : Nat) : Int))) ||| (BitVec.ofInt IntKind.u64.bits (IntKind.u64.wrap ((((BitVec.ofInt IntKind.u64.bits (a : Int)) &&& (BitVec.ofInt IntKind.u64.bits (c : Int))).toNat : Nat) : Int)))).toNat : Nat) : Int))) ||| (BitVec.ofInt IntKind.u64.bits (IntKind.u64.wrap ((((BitVec.ofInt IntKind.u64.bits (b : Int)) &&& (BitVec.ofInt IntKind.u64.bits (c : Int))).toNat : Nat) : Int)))).toNat : Nat) : Int)))) = ((twoN a b c : Nat) : Int) := by
 rw [zDC ha hb, zDC ha hc, zDC hb hc, zII (zAw ha) (zAw ha), zII (or_lt64 (zAw ha) (zAw ha)) (zAw hb), yK]
 rfl
theorem one_r {e f g h k w : Nat} (he : e < 18446744073709551616) (hf : f < 18446744073709551616) (hg : g < 18446744073709551616) : (IntKind.u64.wrap ((IntKind.u64.wrap ((IntKind.u64.wrap ((IntKind.u64.wrap ((h : Int) + (IntKind.u64.wrap ((((BitVec.ofInt IntKind.u64.bits (IntKind.u64.wrap ((((BitVec.ofInt IntKind.u64.bits ((rotr e 14 : Nat) : Int)) ^^^ (BitVec.ofInt IntKind.u64.bits ((rotr e 18 : Nat) : Int))).toNat : Nat) : Int))) ^^^ (BitVec.ofInt IntKind.u64.bits ((rotr e 41 : Nat) : Int))).toNat : Nat) : Int)))) + (IntKind.u64.wrap ((((BitVec.ofInt IntKind.u64.bits (IntKind.u64.wrap ((((BitVec.ofInt IntKind.u64.bits (e : Int)) &&& (BitVec.ofInt IntKind.u64.bits (f : Int))).toNat : Nat) : Int))) ^^^ (BitVec.ofInt IntKind.u64.bits (IntKind.u64.wrap ((((BitVec.ofInt IntKind.u64.bits (IntKind.u64.wrap (18446744073709551615 - (e : Int)))) &&& (BitVec.ofInt IntKind.u64.bits (g : Int))).toNat : Nat) : Int)))).toNat : Nat) : Int)))) + (k : Int))) + (w : Int))) = ((oneN e f g h k w : Nat) : Int) := by
 have l1 : 18446744073709551615 - e < 18446744073709551616 := by omega
 have r1 := zBr he (a := 14) (by omega)
 have r2 := zBr he (a := 18) (by omega)
 have r3 := zBr he (a := 41) (by omega)
 rw [notm he, zDC he hf, zDC l1 hg, zBo (zAw he) (zAw l1), zBo r1 r2, zBo (zDd r1 r2) r3, yK, yK, yK, yK, ← ch_eq he]
 rfl
theorem two_r {a b c : Nat} (ha : a < 18446744073709551616) (hb : b < 18446744073709551616) (hc : c < 18446744073709551616) : (IntKind.u64.wrap ((IntKind.u64.wrap ((((BitVec.ofInt IntKind.u64.bits (IntKind.u64.wrap ((((BitVec.ofInt IntKind.u64.bits ((rotr a 28 : Nat) : Int)) ^^^ (BitVec.ofInt IntKind.u64.bits ((rotr a 34 : Nat) : Int))).toNat : Nat) : Int))) ^^^ (BitVec.ofInt IntKind.u64.bits ((rotr a 39 : Nat) : Int))).toNat : Nat) : Int)) + (IntKind.u64.wrap ((((BitVec.ofInt IntKind.u64.bits (IntKind.u64.wrap ((((BitVec.ofInt IntKind.u64.bits (IntKind.u64.wrap ((((BitVec.ofInt IntKind.u64.bits (a : Int)) &&& (BitVec.ofInt IntKind.u64.bits (b : Int))).toNat : Nat) : Int))) ^^^ (BitVec.ofInt IntKind.u64.bits (IntKind.u64.wrap ((((BitVec.ofInt IntKind.u64.bits (a : Int)) &&& (BitVec.ofInt IntKind.u64.bits (c : Int))).toNat : Nat) : Int)))).toNat : Nat) : Int))) ^^^ (BitVec.ofInt IntKind.u64.bits (IntKind.u64.wrap ((((BitVec.ofInt IntKind.u64.bits (b : Int)) &&& (BitVec.ofInt IntKind.u64.bits (c : Int))).toNat : Nat) : Int)))).toNat : Nat) : Int)))) = ((twoN a b c : Nat) : Int) := by
 have r1 := zBr ha (a := 28) (by omega)
 have r2 := zBr ha (a := 34) (by omega)
 have r3 := zBr ha (a := 39) (by omega)
 rw [zDC ha hb, zDC ha hc, zDC hb hc, zBo (zAw ha) (zAw ha), zBo (zDd (zAw ha) (zAw ha)) (zAw hb), zBo r1 r2, zBo (zDd r1 r2) r3, yK, ← maj_eq]
 rfl
attribute [local irreducible] ad oneN twoN
structure St8 where
 (a b c d e f g h : Nat)
def St8.l (s : St8) : List Nat := [s.a, s.b, s.c, s.d, s.e, s.f, s.g, s.h]
def rnd (s : St8) (k w : Nat) : St8 := ⟨ad (oneN s.e s.f s.g s.h k w) (twoN s.a s.b s.c), s.a, s.b, s.c, ad s.d (oneN s.e s.f s.g s.h k w), s.e, s.f, s.g⟩
def it {σ : Type} (f : Nat → σ → σ) : Nat → Nat → σ → σ
 | 0, _, s => s
 | k + 1, i, s => it f k (i + 1) (f i s)
theorem it_z {σ : Type} (f : Nat → σ → σ) (i : Nat) (s : σ) : it f 0 i s = s := rfl
theorem it_s {σ : Type} (f : Nat → σ → σ) (k i : Nat) (s : σ) : it f (k + 1) i s = it f k (i + 1) (f i s) := rfl
def rndA (ks ws : List Nat) (i : Nat) (s : St8) : St8 := rnd s (ks.getD i 0) (ws.getD i 0)
structure St8.Ok (s : St8) : Prop where
 a : s.a < 18446744073709551616
 b : s.b < 18446744073709551616
 c : s.c < 18446744073709551616
 d : s.d < 18446744073709551616
 e : s.e < 18446744073709551616
 f : s.f < 18446744073709551616
 g : s.g < 18446744073709551616
 h : s.h < 18446744073709551616
theorem St8.Ok.rnd {s : St8} (h : s.Ok) (k w : Nat) : (rnd s k w).Ok := ⟨zFh (oneN s.e s.f s.g s.h k w) (twoN s.a s.b s.c), h.a, h.b, h.c, zFh s.d (oneN s.e s.f s.g s.h k w), h.e, h.f, h.g⟩
theorem zHx {l : List Nat} {n : Nat} (h : l.length = n) : padA (0 : Int) (ci l) 0 n = ci l := zCl (by rw [zFA]; exact h)
theorem pad8 (a b c d e f g h : Int) : padA (0 : Int) [a, b, c, d, e, f, g, h] 0 8 = [a, b, c, d, e, f, g, h] := rfl
attribute [local irreducible] padA sg rotr
theorem zHu {ks ws : List Nat} (hk : ks.length = 80) (hw : ws.length = 80) (p0 : List Int) : ∀ (k i : Nat) (s : St8), s.Ok → i + k = 80 → ∀ fuel, k < fuel → zAs (ci ws) (ci ks) p0 fuel (i : Int) (ci s.l) = zCB p0 (ci (it (rndA ks ws) k i s).l)
 | 0, i, s, ho, hi, fuel + 1, hf => by
  unfold zAs
  rw [yB (by omega), cond_false, it_z]
 | k + 1, i, s, ho, hi, fuel + 1, hf => by
  unfold zAs
  rw [it_s]
  have e0 : idxA 8 (ci s.l) 0 = some (s.a : Int) := rfl
  have e1 : idxA 8 (ci s.l) 1 = some (s.b : Int) := rfl
  have e2 : idxA 8 (ci s.l) 2 = some (s.c : Int) := rfl
  have e3 : idxA 8 (ci s.l) 3 = some (s.d : Int) := rfl
  have e4 : idxA 8 (ci s.l) 4 = some (s.e : Int) := rfl
  have e5 : idxA 8 (ci s.l) 5 = some (s.f : Int) := rfl
  have e6 : idxA 8 (ci s.l) 6 = some (s.g : Int) := rfl
  have e7 : idxA 8 (ci s.l) 7 = some (s.h : Int) := rfl
  rw [yX (by omega), cond_true, zHx hw, zGZ (by omega) hw, Option.bind_some, e0, Option.bind_some, e4, Option.bind_some, e7, Option.bind_some, n_turns1 ho.e, Option.bind_some, e5, Option.bind_some, e6, Option.bind_some, zHx hk, zGZ (by omega) hk, Option.bind_some, n_turns2 ho.a, Option.bind_some, e1, Option.bind_some, e2, Option.bind_some, Option.bind_some, Option.bind_some, Option.bind_some, Option.bind_some, Option.bind_some, e3, Option.bind_some, Option.bind_some, Option.bind_some, Option.bind_some, show lenI (ci s.l).length 8 = some () from rfl, Option.bind_some, one_p ho.e ho.f ho.g, two_p ho.a ho.b ho.c, yK, yK, pad8, show (i : Int) + 1 = ((i + 1 : Nat) : Int) by omega, zBJ (by omega)]
  exact zHu hk hw p0 k (i + 1) (rndA ks ws i s) (ho.rnd (ks.getD i 0) (ws.getD i 0)) (by omega) fuel (by omega)
end Go.Proofs.YtmgafkpkpmjieaaDoor

/-
 The plain law of the sums: a piece, pieces in a row, a number's bytes, what is padded: the program's side.
-/
namespace Go.Proofs.YtmgafkpkpmjieaaDoor
open Go Go.RowKit
set_option linter.unusedVariables false
set_option linter.unusedSimpArgs false
def upS (s t : St8) : St8 := ⟨ad s.a t.a, ad s.b t.b, ad s.c t.c, ad s.d t.d, ad s.e t.e, ad s.f t.f, ad s.g t.g, ad s.h t.h⟩
theorem upS_ok (s t : St8) : (upS s t).Ok := ⟨zFh _ _, zFh _ _, zFh _ _, zFh _ _, zFh _ _, zFh _ _, zFh _ _, zFh _ _⟩
attribute [local irreducible] ad
theorem n_addup (s t : St8) : zB9 (ci t.l) 9 0 (ci s.l) = some (ci (upS s t).l) := by
 have e : ci (upS s t).l = [IntKind.u64.wrap ((s.a : Int) + (t.a : Int)), IntKind.u64.wrap ((s.b : Int) + (t.b : Int)), IntKind.u64.wrap ((s.c : Int) + (t.c : Int)), IntKind.u64.wrap ((s.d : Int) + (t.d : Int)), IntKind.u64.wrap ((s.e : Int) + (t.e : Int)), IntKind.u64.wrap ((s.f : Int) + (t.f : Int)), IntKind.u64.wrap ((s.g : Int) + (t.g : Int)), IntKind.u64.wrap ((s.h : Int) + (t.h : Int))] := by
  rw [yK, yK, yK, yK, yK, yK, yK, yK]
  rfl
 rw [e]
 unfold ci St8.l
 simp only [List.map_cons, List.map_nil]
 generalize (s.a : Int) = a0
 generalize (s.b : Int) = a1
 generalize (s.c : Int) = a2
 generalize (s.d : Int) = a3
 generalize (s.e : Int) = a4
 generalize (s.f : Int) = a5
 generalize (s.g : Int) = a6
 generalize (s.h : Int) = a7
 generalize (t.a : Int) = b0
 generalize (t.b : Int) = b1
 generalize (t.c : Int) = b2
 generalize (t.d : Int) = b3
 generalize (t.e : Int) = b4
 generalize (t.f : Int) = b5
 generalize (t.g : Int) = b6
 generalize (t.h : Int) = b7
 rfl
theorem zGj : ∀ (k : Nat) (l : List Nat), (wext k l).length = l.length + k
 | 0, _ => rfl
 | k + 1, l => by rw [wext, zGj k, List.length_append]; simp only [List.length_cons, List.length_nil]; omega
def zCz (ks : List Nat) (s : St8) (p : List UInt8) : St8 := upS s (it (rndA ks (wext 64 (wds 16 p))) 80 0 s)
theorem n_piece {ks : List Nat} (hk : ks.length = 80) {s : St8} (hs : s.Ok) {p : List UInt8} (hp : p.length = 128) : zCk (ci s.l) (ci ks) p = some (ci (zCz ks s p).l) := by
 have hw : (wext 64 (wds 16 p)).length = 80 := by rw [zGj, zDZ]
 have h8 : s.l.length = 8 := rfl
 have e8 : padA (0 : Int) (ci s.l) 0 8 = ci s.l := zHx h8
 unfold zCk
 rw [e8, e8, show lenI (ci s.l).length 8 = some () from rfl, Option.bind_some, show lenI (List.replicate 8 (0 : Int)).length 8 = some () from rfl, Option.bind_some, zIW hp, Option.bind_some]
 have h := zHu hk hw (ci s.l) 80 0 s hs rfl (Int.toNat 80 + 1) (by decide)
 refine h.trans ?_
 unfold zCB
 rw [e8]
 exact n_addup s _
def byP {σ : Type} (f : σ → List UInt8 → σ) : Nat → List UInt8 → σ → σ
 | 0, _, s => s
 | n + 1, b, s => byP f n (b.drop 128) (f s (b.take 128))
section
variable {σ : Type} (f : σ → List UInt8 → σ)
theorem byP_z (b : List UInt8) (s : σ) : byP f 0 b s = s := rfl
theorem zIi (n : Nat) (b : List UInt8) (s : σ) : byP f (n + 1) b s = byP f n (b.drop 128) (f s (b.take 128)) := rfl
theorem byP_ok (P : σ → Prop) (h : ∀ s p, P (f s p)) : ∀ (n : Nat) (b : List UInt8) (s : σ), P s → P (byP f n b s)
 | 0, _, _, h => h
 | n + 1, b, s, hs => byP_ok P h n (b.drop 128) (f s (b.take 128)) (h _ _)
theorem byP_add : ∀ (p q : Nat) (b : List UInt8) (s : σ), byP f (p + q) b s = byP f q (b.drop (128 * p)) (byP f p b s)
 | 0, q, b, s => by rw [Nat.zero_add]; rfl
 | p + 1, q, b, s => by
  rw [show p + 1 + q = (p + q) + 1 by omega, zIi, byP_add p q, List.drop_drop, zIi, show 128 + 128 * p = 128 * (p + 1) by omega]
theorem byP_app (r : List UInt8) : ∀ (p : Nat) (b : List UInt8) (s : σ), 128 * p ≤ b.length → byP f p (b ++ r) s = byP f p b s
 | 0, b, s, _ => rfl
 | p + 1, b, s, h => by
  rw [zIi, zIi, List.drop_append_of_le_length (by omega), List.take_append_of_le_length (by omega), byP_app r p _ _ (by rw [List.length_drop]; omega)]
end
theorem zFT (ks : List Nat) (s : St8) (p : List UInt8) : (zCz ks s p).Ok := upS_ok s (it (rndA ks (wext 64 (wds 16 p))) 80 0 s)
attribute [local irreducible] zCz
theorem n_takeL {ks : List Nat} (hk : ks.length = 80) : ∀ (q : Nat) (lf : List UInt8) (s : St8), s.Ok → 128 * q ≤ lf.length → lf.length < 128 * q + 128 → ∀ fuel, q < fuel → zIj (ci ks) fuel lf (ci s.l) = some (lf.drop (128 * q), ci (byP (zCz ks) q lf s).l)
 | 0, lf, s, hs, h1, h2, fuel + 1, hf => by
  unfold zIj
  rw [yB (by omega), cond_false, byP_z, Nat.mul_zero, List.drop_zero]
 | q + 1, lf, s, hs, h1, h2, fuel + 1, hf => by
  unfold zIj
  have hc : cutI lf 0 128 = some (lf.take 128) := zEn (n := 128) (by omega)
  rw [yX (by omega), cond_true, hc, Option.bind_some, n_piece hk hs (by rw [List.length_take]; omega), Option.bind_some, n_takeL hk q (lf.drop 128) _ (zFT _ _ _) (by rw [List.length_drop]; omega) (by rw [List.length_drop]; omega) fuel (by omega), List.drop_drop, show 128 + 128 * q = 128 * (q + 1) by omega, zIi]
def left (m : List UInt8) : List UInt8 := m.drop (128 * (m.length / 128))
def stt (ks : List Nat) (s0 : St8) (m : List UInt8) : St8 := byP (zCz ks) (m.length / 128) m s0
theorem stt_ok (ks : List Nat) {s0 : St8} (h : s0.Ok) (m : List UInt8) : (stt ks s0 m).Ok := byP_ok (zCz ks) St8.Ok (zFT ks) _ m s0 h
theorem n_takeM {ks : List Nat} (hk : ks.length = 80) {s0 : St8} (hs : s0.Ok) {m p : List UInt8} (hl : m.length + p.length ≤ 1000000000) : takeM (ci ks) (left m) (ci (stt ks s0 m).l) p = some (left (m ++ p), ci (stt ks s0 (m ++ p)).l) := by
 have e1 : left m ++ p = (m ++ p).drop (128 * (m.length / 128)) := by
  unfold left
  rw [List.drop_append_of_le_length (by omega)]
 have hle : (left m).length ≤ m.length := by unfold left; rw [List.length_drop]; omega
 have e2 : (left m ++ p).length = (m.length + p.length) - 128 * (m.length / 128) := by rw [e1, List.length_drop, List.length_append]
 unfold takeM
 rw [yV (by omega), Option.bind_some]
 have h := n_takeL hk ((left m ++ p).length / 128) (left m ++ p) (stt ks s0 m) (stt_ok ks hs m) (by omega) (by omega) ((left m ++ p).length + 1) (by omega)
 rw [h]
 have e3 : m.length / 128 + (left m ++ p).length / 128 = (m ++ p).length / 128 := by rw [e2, List.length_append]; omega
 have e4 : stt ks s0 m = byP (zCz ks) (m.length / 128) (m ++ p) s0 := by
  unfold stt
  rw [byP_app (zCz ks) p _ m s0 (by omega)]
 refine congrArg some (Prod.ext ?_ ?_)
 ·
  show (left m ++ p).drop _ = left (m ++ p)
  rw [e1, List.drop_drop, ← Nat.mul_add, ← e1, e3]
  rfl
 ·
  show ci (byP (zCz ks) _ (left m ++ p) _).l = _
  rw [e4, e1, ← byP_add, ← e1, e3]
  rfl
theorem n_b8 {kl : List UInt8 → Int → Option (List UInt8)} {x : Nat} {z2 : Int} : ∀ (j : Nat) (z : List UInt8) (y : Int), y = (8 * j : Int) - 8 → j ≤ 8 → z.length + j ≤ 1000000 → ∀ fuel, j < fuel → zAI kl (x : Int) z2 fuel z y = kl (z ++ be j x) (wi (z2 + 1))
 | 0, z, y, hy, hj, hz, fuel + 1, hf => by
  unfold zAI
  rw [yB (by omega), cond_false, show be 0 x = [] from rfl, List.append_nil]
 | j + 1, z, y, hy, hj, hz, fuel + 1, hf => by
  unfold zAI
  have hy2 : y = ((8 * j : Nat) : Int) := by omega
  have hu : U8 ((x >>> (8 * j) : Nat) : Int) = UInt8.ofNat (x / 256 ^ j % 256) := by
   unfold U8
   rw [Nat.shiftRight_eq_div_pow, Nat.pow_mul, show ((x / (2 ^ 8) ^ j : Nat) : Int) % 256 = ((x / (2 ^ 8) ^ j % 256 : Nat) : Int) by omega, Int.toNat_natCast]
  rw [yX (by omega), cond_true, hy2, zAy (by omega), shr_nat (by omega), Option.bind_some, hu, yV (by simp only [List.length_cons, List.length_nil]; omega), Option.bind_some, n_b8 j _ _ (by rw [zEY (by omega) (by omega)]; omega) (by omega) (by rw [List.length_append]; simp only [List.length_cons, List.length_nil]; omega) fuel (by omega), zHZ, List.append_assoc]
  rfl
theorem n_b64l (l : List Nat) (hl : l.length ≤ 1000) : ∀ (k i : Nat) (z : List UInt8), i + k = l.length → z.length = 8 * i → ∀ fuel, k < fuel → zAC (ci l) fuel z (i : Int) = some (z ++ (l.drop i).flatMap (be 8))
 | 0, i, z, hi, hz, fuel + 1, hf => by
  unfold zAC
  rw [yB (by rw [zFA]; omega), cond_false, List.drop_of_length_le (by omega)]
  simp
 | k + 1, i, z, hi, hz, fuel + 1, hf => by
  unfold zAC
  have hlt : i < l.length := by omega
  rw [yX (by rw [zFA]; omega), cond_true, zGw hlt, Option.bind_some, n_b8 8 z 56 (by omega) (by omega) (by omega) 10 (by omega), zAc (by omega), n_b64l l hl k (i + 1) _ (by omega) (by rw [List.length_append, zAi]; omega) fuel (by omega), List.drop_eq_getElem_cons hlt, List.flatMap_cons, List.append_assoc, List.getD_eq_getElem?_getD, List.getElem?_eq_getElem hlt]
  rfl
theorem zHI (l : List Nat) (hl : l.length ≤ 1000) : zAt (ci l) = some (l.flatMap (be 8)) := by
 unfold zAt
 have h := n_b64l l hl l.length 0 [] (by omega) rfl ((ci l).length + 1) (by rw [zFA]; omega)
 rw [List.drop_zero, List.nil_append] at h
 exact h
def padN (n : Nat) : List UInt8 := (128 : UInt8) :: (List.replicate ((239 - n % 128) % 128 + 8) 0 ++ be 8 (n * 8))
theorem padN_len (n : Nat) : (n + (padN n).length) % 128 = 0 := by
 unfold padN
 rw [List.length_cons, List.length_append, List.length_replicate, zAi]
 omega
theorem n_pad {n : Nat} (h : n ≤ 1000000000) : zEc (n : Int) = some (padN n) := by
 unfold zEc
 have e : wi (Int.tmod (wi (239 - Int.tmod (n : Int) 128)) 128 + 8) = (((239 - n % 128) % 128 + 8 : Nat) : Int) := by
  rw [show Int.tmod (n : Int) 128 = ((n % 128 : Nat) : Int) from rfl, show (239 : Int) - ((n % 128 : Nat) : Int) = ((239 - n % 128 : Nat) : Int) by omega, zBJ (by omega), show Int.tmod ((239 - n % 128 : Nat) : Int) 128 = (((239 - n % 128) % 128 : Nat) : Int) from rfl, show (((239 - n % 128) % 128 : Nat) : Int) + 8 = (((239 - n % 128) % 128 + 8 : Nat) : Int) by omega, zBJ (by omega)]
 have e2 : IntKind.u64.wrap ((IntKind.u64.wrap (n : Int)) * 2 ^ 3) = ((n * 8 : Nat) : Int) := by
  rw [zAy (by omega), show (n : Int) * 2 ^ 3 = ((n * 8 : Nat) : Int) by omega, zAy (by omega)]
 have e3 : apzI 1 [(128 : Nat)].length (((239 - n % 128) % 128 + 8 : Nat) : Int) = some ((239 - n % 128) % 128 + 8) := by
  unfold apzI
  rw [if_pos ⟨by omega, by simp only [List.length_cons, List.length_nil]; omega⟩, Int.toNat_natCast]
 have e4 := zHI [n * 8] (by simp)
 rw [yB (by omega), cond_false, yB (by omega), cond_false, e, e3, Option.bind_some, e2, show [((n * 8 : Nat) : Int)] = ci [n * 8] from rfl, e4, Option.bind_some]
 simp only [List.flatMap_cons, List.flatMap_nil, List.append_nil]
 rw [yV (by rw [List.length_append, List.length_replicate, zAi]; simp only [List.length_cons, List.length_nil]; omega), Option.bind_some]
 rfl
end Go.Proofs.YtmgafkpkpmjieaaDoor

/-
 The plain law of the sums: sha.Sum tells zHQ of all parts in a row.
-/
namespace Go.Proofs.YtmgafkpkpmjieaaDoor
open Go Go.RowKit
set_option linter.unusedVariables false
set_option linter.unusedSimpArgs false
set_option maxRecDepth 20000
def kN : List Nat := [4794697086780616226, 8158064640168781261, 13096744586834688815, 16840607885511220156, 4131703408338449720, 6480981068601479193, 10538285296894168987, 12329834152419229976, 15566598209576043074, 1334009975649890238, 2608012711638119052, 6128411473006802146, 8268148722764581231, 9286055187155687089, 11230858885718282805, 13951009754708518548, 16472876342353939154, 17275323862435702243, 1135362057144423861, 2597628984639134821, 3308224258029322869, 5365058923640841347, 6679025012923562964, 8573033837759648693, 10970295158949994411, 12119686244451234320, 12683024718118986047, 13788192230050041572, 14330467153632333762, 15395433587784984357, 489312712824947311, 1452737877330783856, 2861767655752347644, 3322285676063803686, 5560940570517711597, 5996557281743188959, 7280758554555802590, 8532644243296465576, 9350256976987008742, 10552545826968843579, 11727347734174303076, 12113106623233404929, 14000437183269869457, 14369950271660146224, 15101387698204529176, 15463397548674623760, 17586052441742319658, 1182934255886127544, 1847814050463011016, 2177327727835720531, 2830643537854262169, 3796741975233480872, 4115178125766777443, 5681478168544905931, 6601373596472566643, 7507060721942968483, 8399075790359081724, 8693463985226723168, 9568029438360202098, 10144078919501101548, 10430055236837252648, 11840083180663258601, 13761210420658862357, 14299343276471374635, 14566680578165727644, 15097957966210449927, 16922976911328602910, 17689382322260857208, 500013540394364858, 748580250866718886, 1242879168328830382, 1977374033974150939, 2944078676154940804, 3659926193048069267, 4368137639120453308, 4836135668995329356, 5532061633213252278, 6448918945643986474, 6902733635092675308, 7801388544844847127]
def s0N : St8 := ⟨7640891576956012808, 13503953896175478587, 4354685564936845355, 11912009170470909681, 5840696475078001361, 11170449401992604703, 2270897969802886507, 6620516959819538809⟩
theorem kN_len : kN.length = 80 := rfl
theorem zH0 : s0N.Ok := by constructor <;> decide
def outN (s : St8) : List UInt8 := s.l.flatMap (be 8)
theorem zIO (s : St8) : (outN s).length = 64 := by
 unfold outN St8.l
 simp only [List.flatMap_cons, List.flatMap_nil, List.length_append, zAi, List.length_nil]
def zHQ (m : List UInt8) : List UInt8 := outN (stt kN s0N (m ++ padN m.length))
theorem zDH (m : List UInt8) : (zHQ m).length = 64 := zIO _
attribute [local irreducible] byP zCz stt left padN
theorem n_kinds : zDW = some (ci kN) := by
 unfold zDW
 refine congrArg some ?_
 kernel_rfl
theorem n_begin : zDl = some (ci s0N.l) := by
 unfold zDl
 refine congrArg some ?_
 kernel_rfl
theorem n_sumE {ks : List Nat} (hk : ks.length = 80) {s0 : St8} (hs : s0.Ok) {m : List UInt8} (h : m.length ≤ 900000000) : ∃ y, sumE (ci ks) (left m) (ci (stt ks s0 m).l) (m.length : Int) = some (outN (stt ks s0 (m ++ padN m.length)), y) := by
 have hpl : (padN m.length).length ≤ 200 := by
  unfold padN
  rw [List.length_cons, List.length_append, List.length_replicate, zAi]
  omega
 refine ⟨(left (m ++ padN m.length), ci (stt ks s0 (m ++ padN m.length)).l), ?_⟩
 unfold sumE
 have ho := zIO (stt ks s0 (m ++ padN m.length))
 rw [n_pad (by omega), Option.bind_some, n_takeM hk hs (by omega), Option.bind_some]
 show Option.bind (zAt (padA (0 : Int) (ci (stt ks s0 (m ++ padN m.length)).l) 0 8)) _ = _
 have h8 : (stt ks s0 (m ++ padN m.length)).l.length = 8 := rfl
 rw [zHx h8, zHI _ (by omega), Option.bind_some]
 have hc : cpyI (List.replicate 64 (0 : UInt8)) 0 64 ((stt ks s0 (m ++ padN m.length)).l.flatMap (be 8)) = some (outN (stt ks s0 (m ++ padN m.length))) := by
  show cpyI (List.replicate 64 (0 : UInt8)) 0 64 (outN (stt ks s0 (m ++ padN m.length))) = _
  unfold cpyI cpyL
  rw [if_pos (by decide), List.take_zero, List.nil_append, ho, List.take_of_length_le (by omega), List.drop_of_length_le (by decide), List.append_nil]
 have hn : notE ((stt ks s0 (m ++ padN m.length)).l.flatMap (be 8)) = some () := by
  show notE (outN (stt ks s0 (m ++ padN m.length))) = _
  unfold notE
  cases hx : outN (stt ks s0 (m ++ padN m.length)) with
  | nil => rw [hx] at ho; cases ho
  | cons a b => rfl
 rw [hn, Option.bind_some, hc, Option.bind_some, zFY ho, Option.bind_some]
theorem flat_take (p0 : List (List UInt8)) (i : Nat) (h : i < p0.length) : (p0.take (i + 1)).flatten = (p0.take i).flatten ++ p0[i] := by
 rw [List.take_succ_eq_append_getElem h, List.flatten_append]
 simp
theorem flat_le (p0 : List (List UInt8)) (i : Nat) : (p0.take i).flatten.length ≤ p0.flatten.length := by
 conv => rhs; rw [← List.take_append_drop i p0, List.flatten_append, List.length_append]
 omega
theorem n_sumL {ks : List Nat} (hk : ks.length = 80) {s0 : St8} (hs : s0.Ok) (p0 : List (List UInt8)) (hb : p0.flatten.length ≤ 900000000) (hp : p0.length ≤ 1000000) : ∀ (k i : Nat), i + k = p0.length → ∀ fuel, k < fuel →
  sumL (ci ks) p0 fuel (left (p0.take i).flatten) (ci (stt ks s0 (p0.take i).flatten).l) ((p0.take i).flatten.length : Int) (i : Int) = sumE (ci ks) (left p0.flatten) (ci (stt ks s0 p0.flatten).l) (p0.flatten.length : Int)
 | 0, i, hi, fuel + 1, hf => by
  unfold sumL
  rw [yB (by omega), cond_false, List.take_of_length_le (by omega)]
 | k + 1, i, hi, fuel + 1, hf => by
  unfold sumL
  have hlt : i < p0.length := by omega
  have h1 := flat_le p0 i
  have h2 := flat_le p0 (i + 1)
  have h3 := flat_take p0 i hlt
  have h4 := congrArg List.length h3
  rw [List.length_append] at h4
  rw [yX (by omega), cond_true, zC6 hlt, Option.bind_some, n_takeM hk hs (by omega), Option.bind_some, ← h3, show ((p0.take i).flatten.length : Int) + (p0[i].length : Int) = (((p0.take (i + 1)).flatten.length : Nat) : Int) by omega, zBJ (by omega), zAc (by omega)]
  exact n_sumL hk hs p0 hb hp k (i + 1) (by omega) fuel (by omega)
theorem left_nil : left [] = [] := by unfold left; rfl
theorem stt_nil (ks : List Nat) (s : St8) : stt ks s [] = s := by unfold stt; rw [show ([] : List UInt8).length / 128 = 0 from rfl, byP_z]
theorem n_Sum (p0 : List (List UInt8)) (hb : p0.flatten.length ≤ 900000000) (hp : p0.length ≤ 1000000) : zCm p0 = some (zHQ p0.flatten) := by
 obtain ⟨y, hy⟩ := n_sumE kN_len zH0 hb
 have h := n_sumL kN_len zH0 p0 hb hp p0.length 0 (by omega) (p0.length + 1) (by omega)
 rw [List.take_zero, List.flatten_nil, left_nil, stt_nil] at h
 unfold zCm sum3
 rw [n_kinds, Option.bind_some, n_begin, Option.bind_some]
 refine (congrArg (Option.map _) (h.trans hy)).trans ?_
 rfl
end Go.Proofs.YtmgafkpkpmjieaaDoor

/-
 The plain law of the sums: what the document pads with; its words.
-/
namespace Go.Proofs.YtmgafkpkpmjieaaDoor
open Go Go.RowKit
set_option linter.unusedVariables false
set_option linter.unusedSimpArgs false
theorem u8_mod (x : Nat) : U8 (Int.tmod (x : Int) 256) = UInt8.ofNat (x % 256) := by
 unfold U8
 rw [show Int.tmod (x : Int) 256 = ((x % 256 : Nat) : Int) from rfl, show (((x % 256 : Nat) : Int) % 256).toNat = x % 256 by omega]
theorem quo_pow {x : Nat} (hx : x < 18446744073709551616) (j : Nat) : quoI .u64 (x : Int) ((256 ^ j : Nat) : Int) = some ((x / 256 ^ j : Nat) : Int) := by
 have hne : (((256 ^ j : Nat) : Int) != 0) = true := by
  have := Nat.pow_pos (a := 256) (n := j) (by decide)
  simpa using (by omega : ¬ ((256 ^ j : Nat) : Int) = 0)
 unfold quoI
 rw [hne, cond_true, zIM, zAy (Nat.lt_of_le_of_lt (Nat.div_le_self _ _) hx)]
theorem pow256 {j : Nat} (h : j ≤ 7) : 256 ^ j < 18446744073709551616 := Nat.lt_of_le_of_lt (Nat.pow_le_pow_right (by decide) h) (by decide)
theorem zGH {j : Nat} (h : j + 1 ≤ 7) : IntKind.u64.wrap (Int.tdiv ((256 ^ (j + 1) : Nat) : Int) 256) = ((256 ^ j : Nat) : Int) := by
 rw [show Int.tdiv ((256 ^ (j + 1) : Nat) : Int) 256 = ((256 ^ (j + 1) / 256 : Nat) : Int) from rfl, Nat.pow_succ, Nat.mul_div_cancel _ (by decide), zAy (pow256 (by omega))]
theorem n_rpad3 {x : Nat} (hx : x < 18446744073709551616) {n : Nat} (hn : IntKind.u64.wrap ((IntKind.u64.wrap (n : Int)) * 8) = (x : Int)) : ∀ (j : Nat) (z : List UInt8) (sc : Int) (i : Int), (j ≠ 0 → sc = ((256 ^ (j - 1) : Nat) : Int)) → i = 8 - (j : Int) → j ≤ 8 → z.length + j ≤ 1000 → ∀ fuel, j < fuel → zBY (n : Int) fuel z sc i = some (z ++ be j x)
 | 0, z, sc, i, hs, hi, hj, hz, fuel + 1, hf => by
  unfold zBY
  rw [yB (by omega), cond_false, show be 0 x = [] from rfl, List.append_nil]
 | j + 1, z, sc, i, hs, hi, hj, hz, fuel + 1, hf => by
  unfold zBY
  have hsc : sc = ((256 ^ j : Nat) : Int) := hs (by omega)
  rw [yX (by omega), cond_true, hn, hsc, quo_pow hx, Option.bind_some, u8_mod, yV (by simp only [List.length_cons, List.length_nil]; omega), Option.bind_some, zEY (by omega) (by omega), zHZ]
  rw [n_rpad3 hx hn j _ _ (i + 1) (fun h0 => by
   obtain ⟨q, rfl⟩ : ∃ q, j = q + 1 := ⟨j - 1, by omega⟩
   rw [zGH (by omega)]
   rfl) (by omega) (by omega) (by rw [List.length_append]; simp only [List.length_cons, List.length_nil]; omega) fuel (by omega), List.append_assoc]
  rfl
theorem n_rpad4 {n x : Nat} (hx : x < 18446744073709551616) (hn : IntKind.u64.wrap ((IntKind.u64.wrap (n : Int)) * 8) = (x : Int)) : ∀ (k : Nat) (z : List UInt8) (i : Int), i = 8 - (k : Int) → k ≤ 8 → z.length + k ≤ 900 → ∀ fuel, k < fuel → zBe (n : Int) fuel z i = some (z ++ (List.replicate k 0 ++ be 8 x))
 | 0, z, i, hi, hk, hz, fuel + 1, hf => by
  unfold zBe
  rw [yB (by omega), cond_false]
  unfold zD3
  rw [n_rpad3 hx hn 8 z 72057594037927936 0 (fun _ => rfl) (by omega) (by omega) (by omega) _ (by decide)]
  rfl
 | k + 1, z, i, hi, hk, hz, fuel + 1, hf => by
  unfold zBe
  rw [yX (by omega), cond_true, yV (by simp only [List.length_cons, List.length_nil]; omega), Option.bind_some, zEY (by omega) (by omega), n_rpad4 hx hn k _ (i + 1) (by omega) (by omega) (by rw [List.length_append]; simp only [List.length_cons, List.length_nil]; omega) fuel (by omega), List.append_assoc, List.replicate_succ]
  rfl
theorem n_rpad5 {n x : Nat} (hn0 : n ≤ 1000000000) (hx : x < 18446744073709551616) (hn : IntKind.u64.wrap ((IntKind.u64.wrap (n : Int)) * 8) = (x : Int)) : ∀ (k j : Nat), j + k = (239 - n % 128) % 128 → ∀ fuel, k < fuel → zBa (n : Int) fuel ((128 : UInt8) :: List.replicate j 0) = some ((128 : UInt8) :: (List.replicate (j + k + 8) 0 ++ be 8 x))
 | 0, j, hj, fuel + 1, hf => by
  unfold zBa
  have h1 : ((Int.tmod (wi ((n : Int) + (((128 : UInt8) :: List.replicate j 0).length : Int))) 128) != 112) = false := by
   rw [List.length_cons, List.length_replicate, show (n : Int) + ((j + 1 : Nat) : Int) = ((n + (j + 1) : Nat) : Int) by omega, zBJ (by omega), show Int.tmod ((n + (j + 1) : Nat) : Int) 128 = (((n + (j + 1)) % 128 : Nat) : Int) from rfl, show (n + (j + 1)) % 128 = 112 by omega]
   rfl
  rw [h1, cond_false]
  unfold zD8
  rw [n_rpad4 hx hn 8 _ 0 (by omega) (by omega) (by rw [List.length_cons, List.length_replicate]; omega) _ (by decide), Nat.add_zero, ← List.replicate_append_replicate, List.append_assoc]
  rfl
 | k + 1, j, hj, fuel + 1, hf => by
  unfold zBa
  have h1 : ((Int.tmod (wi ((n : Int) + (((128 : UInt8) :: List.replicate j 0).length : Int))) 128) != 112) = true := by
   rw [List.length_cons, List.length_replicate, show (n : Int) + ((j + 1 : Nat) : Int) = ((n + (j + 1) : Nat) : Int) by omega, zBJ (by omega), show Int.tmod ((n + (j + 1) : Nat) : Int) 128 = (((n + (j + 1)) % 128 : Nat) : Int) from rfl]
   exact ine_t (by omega)
  rw [h1, cond_true, yV (by simp only [List.length_cons, List.length_nil, List.length_replicate]; omega), Option.bind_some, List.cons_append, ← List.replicate_succ', n_rpad5 hn0 hx hn k (j + 1) (by omega) fuel (by omega), show j + 1 + k + 8 = j + (k + 1) + 8 by omega]
theorem n_rpad {n : Nat} (h : n ≤ 1000000000) : zEj (n : Int) = some (padN n) := by
 have e2 : IntKind.u64.wrap ((IntKind.u64.wrap (n : Int)) * 8) = ((n * 8 : Nat) : Int) := by
  rw [zAy (by omega), show (n : Int) * 8 = ((n * 8 : Nat) : Int) by omega, zAy (by omega)]
 unfold zEj
 have h5 := n_rpad5 h (by omega) e2 ((239 - n % 128) % 128) 0 (by omega) 140 (by omega)
 rw [Nat.zero_add] at h5
 exact h5
theorem zHy (b : List UInt8) (hb : b.length ≤ 8) : ∀ (k i : Nat), i + k = b.length → ∀ fuel, k < fuel → zBC b fuel ((wd (b.take i) : Nat) : Int) (i : Int) = some ((wd b : Nat) : Int)
 | 0, i, hi, fuel + 1, hf => by
  unfold zBC
  rw [yB (by omega), cond_false, List.take_of_length_le (by omega)]
 | k + 1, i, hi, fuel + 1, hf => by
  unfold zBC
  have hlt : i < b.length := by omega
  have h7 := wd_lt7 (b := b) (i := i) (by omega)
  have hc := (b[i]).toNat_lt
  rw [yX (by omega), cond_true, zC6 hlt, Option.bind_some, show (256 : Int) * ((wd (b.take i) : Nat) : Int) = ((wd (b.take i) * 256 : Nat) : Int) by omega, zAy (by omega), ← Int.natCast_add, zAy (by omega), ← zH4, ← zAo hlt, zAc (by omega)]
  exact zHy b hb k (i + 1) (by omega) fuel (by omega)
theorem n_wide {b : List UInt8} (hb : b.length ≤ 8) : zE2 b = some ((wd b : Nat) : Int) := zHy b hb b.length 0 (by omega) _ (by omega)
end Go.Proofs.YtmgafkpkpmjieaaDoor

/-
 The plain law of the sums: the document's sum is zHQ as well.
-/
namespace Go.Proofs.YtmgafkpkpmjieaaDoor
open Go Go.RowKit
set_option linter.unusedVariables false
set_option linter.unusedSimpArgs false
set_option maxRecDepth 20000
set_option maxHeartbeats 1000000
attribute [local irreducible] ad oneN twoN rotr sg
theorem n_rl8 {ks ws : List Nat} (hk : ks.length = 80) (hw : ws.length = 80) (kl : List Int → Int → Option (List UInt8)) (z28 : List Int) (z29 : Int) : ∀ (k i : Nat) (s : St8), s.Ok → i + k = 80 → ∀ fuel, k < fuel → zBd kl (ci ks) (ci ws) z28 z29 fuel (s.a : Int) (s.b : Int) (s.c : Int) (s.d : Int) (s.e : Int) (s.f : Int) (s.g : Int) (s.h : Int) (i : Int) = zCD kl z28 z29 ((it (rndA ks ws) k i s).a : Int) ((it (rndA ks ws) k i s).b : Int) ((it (rndA ks ws) k i s).c : Int) ((it (rndA ks ws) k i s).d : Int) ((it (rndA ks ws) k i s).e : Int) ((it (rndA ks ws) k i s).f : Int) ((it (rndA ks ws) k i s).g : Int) ((it (rndA ks ws) k i s).h : Int)
 | 0, i, s, ho, hi, fuel + 1, hf => by
  unfold zBd
  rw [yB (by omega), cond_false, it_z]
 | k + 1, i, s, ho, hi, fuel + 1, hf => by
  unfold zBd
  rw [it_s]
  rw [yX (by omega), cond_true, show (14 : Int) = ((14 : Nat) : Int) from rfl, show (18 : Int) = ((18 : Nat) : Int) from rfl, show (41 : Int) = ((41 : Nat) : Int) from rfl, show (28 : Int) = ((28 : Nat) : Int) from rfl, show (34 : Int) = ((34 : Nat) : Int) from rfl, show (39 : Int) = ((39 : Nat) : Int) from rfl, zET ho.e (by omega) (by omega), Option.bind_some, zET ho.e (by omega) (by omega), Option.bind_some, zET ho.e (by omega) (by omega), Option.bind_some, zGw (by omega), Option.bind_some, zGw (by omega), Option.bind_some, zET ho.a (by omega) (by omega), Option.bind_some, zET ho.a (by omega) (by omega), Option.bind_some, zET ho.a (by omega) (by omega), Option.bind_some, one_r ho.e ho.f ho.g, two_r ho.a ho.b ho.c, yK, yK, zAc (by omega)]
  exact n_rl8 hk hw kl z28 z29 k (i + 1) (rndA ks ws i s) (ho.rnd (ks.getD i 0) (ws.getD i 0)) (by omega) fuel (by omega)
theorem n_rj7 (kl : List Int → Int → Option (List UInt8)) (s t : St8) (z29 : Int) : zCD kl (ci s.l) z29 (t.a : Int) (t.b : Int) (t.c : Int) (t.d : Int) (t.e : Int) (t.f : Int) (t.g : Int) (t.h : Int) = kl (ci (upS s t).l) (wi (z29 + 128)) := by
 have e0 : idx (ci s.l) 0 = some (s.a : Int) := rfl
 have e1 : idx (ci s.l) 1 = some (s.b : Int) := rfl
 have e2 : idx (ci s.l) 2 = some (s.c : Int) := rfl
 have e3 : idx (ci s.l) 3 = some (s.d : Int) := rfl
 have e4 : idx (ci s.l) 4 = some (s.e : Int) := rfl
 have e5 : idx (ci s.l) 5 = some (s.f : Int) := rfl
 have e6 : idx (ci s.l) 6 = some (s.g : Int) := rfl
 have e7 : idx (ci s.l) 7 = some (s.h : Int) := rfl
 unfold zCD
 rw [e0, Option.bind_some, e1, Option.bind_some, e2, Option.bind_some, e3, Option.bind_some, e4, Option.bind_some, e5, Option.bind_some, e6, Option.bind_some, e7, Option.bind_some, yK, yK, yK, yK, yK, yK, yK, yK]
 rfl
theorem n_rj6 {ks ws : List Nat} (hk : ks.length = 80) (hw : ws.length = 80) (kl : List Int → Int → Option (List UInt8)) {s : St8} (ho : s.Ok) (z29 : Int) : zBg kl (ci s.l) (ci ks) z29 (ci ws) = kl (ci (upS s (it (rndA ks ws) 80 0 s)).l) (wi (z29 + 128)) := by
 have e0 : idx (ci s.l) 0 = some (s.a : Int) := rfl
 have e1 : idx (ci s.l) 1 = some (s.b : Int) := rfl
 have e2 : idx (ci s.l) 2 = some (s.c : Int) := rfl
 have e3 : idx (ci s.l) 3 = some (s.d : Int) := rfl
 have e4 : idx (ci s.l) 4 = some (s.e : Int) := rfl
 have e5 : idx (ci s.l) 5 = some (s.f : Int) := rfl
 have e6 : idx (ci s.l) 6 = some (s.g : Int) := rfl
 have e7 : idx (ci s.l) 7 = some (s.h : Int) := rfl
 unfold zBg
 rw [e0, Option.bind_some, e1, Option.bind_some, e2, Option.bind_some, e3, Option.bind_some, e4, Option.bind_some, e5, Option.bind_some, e6, Option.bind_some, e7, Option.bind_some]
 refine (n_rl8 hk hw kl (ci s.l) z29 80 0 s ho rfl (Int.toNat 80 + 1) (by decide)).trans ?_
 exact n_rj7 kl s _ z29
theorem appI_ci {l : List Nat} {v : Nat} (h : l.length ≤ 1000) : appI 8 (ci l) [(v : Int)] = some (ci (l ++ [v])) := by
 rw [yV (by rw [zFA]; simp only [List.length_cons, List.length_nil]; omega)]
 unfold ci
 rw [List.map_append]
 rfl
theorem n_rl9b (kl : List Int → Int → Option (List UInt8)) (x7 : List UInt8) (z29 : Int) (z28 x1 : List Int) : ∀ (k : Nat) (l : List Nat), zFx l → 16 ≤ l.length → l.length + k = 80 → ∀ fuel, k < fuel → zAG kl x7 z29 z28 x1 fuel (l.length : Int) (ci l) = zBg kl z28 x1 z29 (ci (wext k l))
 | 0, l, hl, h16, h80, fuel + 1, hf => by
  unfold zAG
  rw [yB (by omega), cond_false]
  rfl
 | k + 1, l, hl, h16, h80, fuel + 1, hf => by
  unfold zAG
  have g : ∀ c, 0 < c → c ≤ 16 → idx (ci l) (wi ((l.length : Int) - (c : Nat))) = some ((l.getD (l.length - c) 0 : Nat) : Int) := fun c h0 hc => by
   rw [wi_sub c (by omega) (by omega), zGw (by omega)]
  have hx := hl.get (l.length - 15)
  have hy := hl.get (l.length - 2)
  rw [yX (by omega), cond_true, yB (by omega), cond_false]
  rw [show wi ((l.length : Int) - 15) = wi ((l.length : Int) - ((15 : Nat) : Int)) from rfl, g 15 (by omega) (by omega), Option.bind_some,
   show wi ((l.length : Int) - 2) = wi ((l.length : Int) - ((2 : Nat) : Int)) from rfl, g 2 (by omega) (by omega), Option.bind_some,
   show wi ((l.length : Int) - 16) = wi ((l.length : Int) - ((16 : Nat) : Int)) from rfl, g 16 (by omega) (by omega), Option.bind_some,
   show (1 : Int) = ((1 : Nat) : Int) from rfl, show (8 : Int) = ((8 : Nat) : Int) from rfl, show (19 : Int) = ((19 : Nat) : Int) from rfl, show (61 : Int) = ((61 : Nat) : Int) from rfl]
  rw [zET hx (by omega) (by omega), Option.bind_some, zET hx (by omega) (by omega), Option.bind_some, show zBS ((l.getD (l.length - 15) 0 : Nat) : Int) 7 = some ((l.getD (l.length - 15) 0 / 2 ^ 7 : Nat) : Int) from n_shift (a := 7) hx (by omega), Option.bind_some,
   show wi ((l.length : Int) - 7) = wi ((l.length : Int) - ((7 : Nat) : Int)) from rfl, g 7 (by omega) (by omega), Option.bind_some, zET hy (by omega) (by omega), Option.bind_some, zET hy (by omega) (by omega), Option.bind_some, show zBS ((l.getD (l.length - 2) 0 : Nat) : Int) 6 = some ((l.getD (l.length - 2) 0 / 2 ^ 6 : Nat) : Int) from n_shift (a := 6) hy (by omega), Option.bind_some, next_eq hx hy]
  show Option.bind (appI 8 (ci l) [((zHK l : Nat) : Int)]) _ = _
  rw [appI_ci (by omega), Option.bind_some]
  unfold zBu
  rw [show (l.length : Int) + 1 = (((l ++ [zHK l]).length : Nat) : Int) by simp, zBJ (by simp; omega)]
  exact n_rl9b kl x7 z29 z28 x1 k (l ++ [zHK l]) (hl.app (zIG l)) (by simp; omega) (by simp; omega) fuel (by omega)
theorem zIA : ∀ (n i : Nat) (b : List UInt8), i < n → (wds n b).take (i + 1) = (wds n b).take i ++ [wd ((b.drop (8 * i)).take 8)]
 | n + 1, 0, b, _ => rfl
 | n + 1, i + 1, b, h => by
  rw [wds, List.take_succ_cons, zIA n i (b.drop 8) (by omega), List.take_succ_cons, List.drop_drop, show 8 + 8 * i = 8 * (i + 1) by omega]
  rfl
theorem n_rl9a (kl : List Int → Int → Option (List UInt8)) (x7 : List UInt8) (q : Nat) (hq : 128 * q + 128 ≤ x7.length) (hb : x7.length ≤ 2000000000) (z28 x1 : List Int) : ∀ (k i : Nat), i + k = 16 → ∀ fuel, k + 64 < fuel → zAG kl x7 ((128 * q : Nat) : Int) z28 x1 fuel (i : Int) (ci ((wds 16 ((x7.drop (128 * q)).take 128)).take i)) = zBg kl z28 x1 ((128 * q : Nat) : Int) (ci (wext 64 (wds 16 ((x7.drop (128 * q)).take 128))))
 | 0, i, hi, fuel, hf => by
  have hl : (wds 16 ((x7.drop (128 * q)).take 128)).length = 16 := zDZ _ _
  have h := n_rl9b kl x7 ((128 * q : Nat) : Int) z28 x1 64 _ (wds_64 16 ((x7.drop (128 * q)).take 128)) (by omega) (by omega) fuel (by omega)
  rw [hl] at h
  rw [show i = 16 by omega, List.take_of_length_le (by omega)]
  exact h
 | k + 1, i, hi, fuel + 1, hf => by
  unfold zAG
  have hw : wi (8 * (i : Int)) = ((8 * i : Nat) : Int) := by rw [zEY (by omega) (by omega)]; omega
  have hw2 : wi (((128 * q : Nat) : Int) + ((8 * i : Nat) : Int)) = ((128 * q + 8 * i : Nat) : Int) := by rw [← Int.natCast_add, zBJ (by omega)]
  have hw3 : wi (((128 * q + 8 * i : Nat) : Int) + 8) = ((128 * q + 8 * i + 8 : Nat) : Int) := by rw [zEY (by omega) (by omega)]; omega
  have hc : cutI x7 ((128 * q + 8 * i : Nat) : Int) ((128 * q + 8 * i + 8 : Nat) : Int) = some ((((x7.drop (128 * q)).take 128).drop (8 * i)).take 8) := by
   unfold cutI
   rw [if_pos (by omega), Int.toNat_natCast, Int.toNat_natCast]
   refine congrArg some ?_
   rw [List.drop_take, List.drop_take, List.take_take, List.drop_drop, show min 8 (128 - 8 * i) = 8 by omega, show 128 * q + 8 * i + 8 - (128 * q + 8 * i) = 8 by omega]
  have hl8 : ((((x7.drop (128 * q)).take 128).drop (8 * i)).take 8).length ≤ 8 := by rw [List.length_take]; omega
  have hlt : ((wds 16 ((x7.drop (128 * q)).take 128)).take i).length ≤ 1000 := by rw [List.length_take, zDZ]; omega
  rw [yX (by omega), cond_true, yX (by omega), cond_true, hw, hw2, hw3, hc, Option.bind_some, n_wide hl8, Option.bind_some, appI_ci hlt, Option.bind_some, ← zIA 16 i _ (by omega)]
  unfold zBu
  rw [zAc (by omega)]
  exact n_rl9a kl x7 q hq hb z28 x1 k (i + 1) (by omega) fuel (by omega)
end Go.Proofs.YtmgafkpkpmjieaaDoor

/-
 The plain law of the sums: the document's sum, whole.
-/
namespace Go.Proofs.YtmgafkpkpmjieaaDoor
open Go Go.RowKit
set_option linter.unusedVariables false
set_option linter.unusedSimpArgs false
set_option maxRecDepth 20000
attribute [local irreducible] zCz
theorem n_rl5 {ks : List Nat} (hk : ks.length = 80) (x7 : List UInt8) (Q : Nat) (hx : x7.length = 128 * Q) (hb : x7.length ≤ 2000000000) : ∀ (k q : Nat) (s : St8), q + k = Q → s.Ok → ∀ fuel, k < fuel → yW x7 (ci ks) fuel (ci s.l) ((128 * q : Nat) : Int) = zCw (ci (byP (zCz ks) k (x7.drop (128 * q)) s).l)
 | 0, q, s, hq, ho, fuel + 1, hf => by
  unfold yW
  rw [yB (by omega), cond_false, byP_z]
 | k + 1, q, s, hq, ho, fuel + 1, hf => by
  unfold yW
  have hw : (wext 64 (wds 16 ((x7.drop (128 * q)).take 128))).length = 80 := by rw [zGj, zDZ]
  have e : zCz ks s ((x7.drop (128 * q)).take 128) = upS s (it (rndA ks (wext 64 (wds 16 ((x7.drop (128 * q)).take 128)))) 80 0 s) := by unfold zCz; rfl
  rw [yX (by omega), cond_true]
  refine (n_rl9a (yW x7 (ci ks) fuel) x7 q (by omega) hb (ci s.l) (ci ks) 16 0 (by omega) (Int.toNat 80 + 1) (by decide)).trans ?_
  rw [n_rj6 hk hw _ ho, ← e, show ((128 * q : Nat) : Int) + 128 = ((128 * (q + 1) : Nat) : Int) by omega, zBJ (by omega), n_rl5 hk x7 Q hx hb k (q + 1) _ (by omega) (zFT _ _ _) fuel (by omega), zIi, List.drop_drop, show 128 * q + 128 = 128 * (q + 1) by omega]
theorem set0 (d : List UInt8) (k : Nat) (v : UInt8) : (d ++ List.replicate (k + 1) 0).set d.length v = (d ++ [v]) ++ List.replicate k 0 := by
 rw [List.set_append_right _ _ (Nat.le_refl _), Nat.sub_self, List.replicate_succ, List.set_cons_zero]
 simp
theorem n_o4 (kl : Int → List UInt8 → Option (List UInt8)) (l : List Nat) (i : Nat) (hi : i < l.length) (h8 : l.length = 8) (hx : l.getD i 0 < 18446744073709551616) : ∀ (j : Nat) (sc z17 : Int) (d : List UInt8) (r : Nat), (j ≠ 0 → sc = ((256 ^ (j - 1) : Nat) : Int)) → z17 = 8 - (j : Int) → j ≤ 8 → d.length + j = 8 * i + 8 → d.length + j + r = 64 → ∀ fuel, j < fuel → zBZ kl (ci l) (i : Int) fuel sc z17 (d ++ List.replicate (j + r) 0) = zC1 kl (i : Int) ((d ++ be j (l.getD i 0)) ++ List.replicate r 0)
 | 0, sc, z17, d, r, hs, hz, hj, hd, hr, fuel + 1, hf => by
  unfold zBZ
  rw [yB (by omega), cond_false, show be 0 (l.getD i 0) = [] from rfl, List.append_nil, Nat.zero_add]
 | j + 1, sc, z17, d, r, hs, hz, hj, hd, hr, fuel + 1, hf => by
  unfold zBZ
  have hsc : sc = ((256 ^ j : Nat) : Int) := hs (by omega)
  have hat : wi (wi (8 * (i : Int)) + z17) = ((d.length : Nat) : Int) := by rw [zEY (z := 8 * (i : Int)) (by omega) (by omega), zEY (by omega) (by omega)]; omega
  have hg : idxA 64 (d ++ List.replicate (j + 1 + r) 0) ((d.length : Nat) : Int) = some (0 : UInt8) := by
   unfold idxA
   rw [if_pos ⟨by omega, by omega⟩, Int.toNat_natCast, List.getElem?_append_right (Nat.le_refl _), Nat.sub_self, show j + 1 + r = (j + r) + 1 by omega, List.replicate_succ]
   rfl
  rw [yX (by omega), cond_true, zGw hi, Option.bind_some, hsc, quo_pow hx, Option.bind_some, hat, hg, Option.bind_some, u8_mod, Int.toNat_natCast, show j + 1 + r = (j + r) + 1 by omega, set0, zEY (by omega) (by omega), zHZ]
  rw [n_o4 kl l i hi h8 hx j _ (z17 + 1) _ r (fun h0 => by
   obtain ⟨q, rfl⟩ : ∃ q, j = q + 1 := ⟨j - 1, by omega⟩
   rw [zGH (by omega)]
   rfl) (by omega) (by omega) (by rw [List.length_append]; simp only [List.length_cons, List.length_nil]; omega) (by rw [List.length_append]; simp only [List.length_cons, List.length_nil]; omega) fuel (by omega)]
  simp only [List.append_assoc, List.cons_append, List.nil_append]
theorem n_o2 (l : List Nat) (h8 : l.length = 8) (hl : zFx l) : ∀ (k i : Nat) (d : List UInt8), i + k = 8 → d.length = 8 * i → ∀ fuel, k < fuel → zAQ (ci l) fuel (i : Int) (d ++ List.replicate (8 * k) 0) = some (d ++ (l.drop i).flatMap (be 8))
 | 0, i, d, hi, hd, fuel + 1, hf => by
  unfold zAQ
  rw [yB (by omega), cond_false, List.drop_of_length_le (by omega), show (List.replicate (8 * 0) (0 : UInt8)) = [] from rfl, List.append_nil, zFY (by omega), Option.bind_some]
  simp
 | k + 1, i, d, hi, hd, fuel + 1, hf => by
  unfold zAQ
  have hlt : i < l.length := by omega
  have h := n_o4 (zAQ (ci l) fuel) l i hlt h8 (hl.get i) 8 72057594037927936 0 d (8 * k) (fun _ => rfl) (by omega) (by omega) (by omega) (by omega) (Int.toNat 8 + 1) (by decide)
  rw [show 8 + 8 * k = 8 * (k + 1) by omega] at h
  rw [yX (by omega), cond_true, h]
  unfold zC1
  rw [zAc (by omega), n_o2 l h8 hl k (i + 1) _ (by omega) (by rw [List.length_append, zAi]; omega) fuel (by omega), List.drop_eq_getElem_cons hlt, List.flatMap_cons, List.append_assoc, List.getD_eq_getElem?_getD, List.getElem?_eq_getElem hlt]
  rfl
theorem St8.Ok.all {s : St8} (h : s.Ok) : zFx s.l := by
 intro x hx
 unfold St8.l at hx
 simp only [List.mem_cons, List.not_mem_nil, or_false] at hx
 rcases hx with rfl | rfl | rfl | rfl | rfl | rfl | rfl | rfl
 · exact h.a
 · exact h.b
 · exact h.c
 · exact h.d
 · exact h.e
 · exact h.f
 · exact h.g
 · exact h.h
theorem n_told : zEE = some (ci kN) := by
 unfold zEE
 refine congrArg some ?_
 kernel_rfl
theorem n_rbegin : zDi = some (ci s0N.l) := by
 unfold zDi
 refine congrArg some ?_
 kernel_rfl
attribute [local irreducible] byP kN s0N
theorem n_RSum (m : List UInt8) (hm : m.length ≤ 900000000) : zDQ m = some (zHQ m) := by
 have hp : (padN m.length).length ≤ 200 := by
  unfold padN
  rw [List.length_cons, List.length_append, List.length_replicate, zAi]
  omega
 have hmod := padN_len m.length
 have hlen : (m ++ padN m.length).length = 128 * ((m ++ padN m.length).length / 128) := by
  rw [List.length_append]
  omega
 have hle : (m ++ padN m.length).length ≤ 2000000000 := by rw [List.length_append]; omega
 unfold zDQ
 rw [n_told, Option.bind_some, yV (by simp only [List.length_nil]; omega), List.nil_append, Option.bind_some, n_rpad (by omega), Option.bind_some, yV (by omega), Option.bind_some, n_rbegin, Option.bind_some]
 refine (n_rl5 kN_len (m ++ padN m.length) ((m ++ padN m.length).length / 128) hlen hle ((m ++ padN m.length).length / 128) 0 s0N (by omega) zH0 _ (by omega)).trans ?_
 rw [Nat.mul_zero, List.drop_zero]
 have hok := stt_ok kN zH0 (m ++ padN m.length)
 unfold zCw
 have h := n_o2 _ rfl hok.all 8 0 [] (by omega) rfl (Int.toNat 8 + 1) (by decide)
 rw [List.drop_zero, List.nil_append, List.nil_append] at h
 exact h
theorem zHt (b : List UInt8) (hb : b.length = 64) : ∀ (k i : Nat), i + k = 64 → ∀ fuel, k < fuel → zBH b fuel (b.take i) (i : Int) = some b
 | 0, i, hi, fuel + 1, hf => by
  unfold zBH
  rw [yB (by omega), cond_false, List.take_of_length_le (by omega)]
 | k + 1, i, hi, fuel + 1, hf => by
  unfold zBH
  have hlt : i < b.length := by omega
  have hg : idxA 64 (padA (0 : UInt8) b 0 64) (i : Int) = some b[i] := by
   rw [zCl hb]
   unfold idxA
   rw [if_pos ⟨by omega, by omega⟩, Int.toNat_natCast, List.getElem?_eq_getElem hlt]
  rw [yX (by omega), cond_true, hg, Option.bind_some, yV (by rw [List.length_take]; simp only [List.length_cons, List.length_nil]; omega), Option.bind_some, ← zAo hlt, zAc (by omega)]
  exact zHt b hb k (i + 1) (by omega) fuel (by omega)
theorem n_list {b : List UInt8} (hb : b.length = 64) : zEI b = some b := zHt b hb 64 0 (by omega) _ (by decide)
end Go.Proofs.YtmgafkpkpmjieaaDoor

/-
 The plain law of the lots: the document's numbers; keys of 128 bytes; tags.
-/
namespace Go.Proofs.YtmgafkpkpmjieaaDoor
open Go Go.RowKit
set_option linter.unusedVariables false
set_option linter.unusedSimpArgs false
set_option maxRecDepth 20000
theorem U8_nat {n : Nat} (h : n < 256) : U8 (n : Int) = UInt8.ofNat n := by
 unfold U8
 congr 1
 omega
theorem zFB (k : Nat) (hk : k ≤ 8) : ∀ (n i m : Nat) (out : List UInt8), i ≤ k → k - i < n → out.length = i → m ≤ 4611686018427387904 → zBc (k : Int) n (m : Int) out (i : Int) = some (if 0 < m / 256 ^ (k - i) then ([], 2) else (out ++ le (k - i) m, 0))
 | 0, i, m, out, _, h, _, _ => by omega
 | n + 1, i, m, out, hi, h, ho, hm => by
  unfold zBc
  by_cases hlt : i < k
  ·
   rw [zEs (yX (by omega)), yV (by simp; omega), Option.bind_some, zAc (by omega)]
   have e1 : Int.tdiv (m : Int) 256 = ((m / 256 : Nat) : Int) := rfl
   have e2 : Int.tmod (m : Int) 256 = ((m % 256 : Nat) : Int) := rfl
   rw [e1, e2, zEY (by omega) (by omega), U8_nat (by omega), zFB k hk n (i + 1) (m / 256) _ (by omega) (by omega) (by simp [ho]) (by omega)]
   obtain ⟨j, hj⟩ : ∃ j, k - i = j + 1 := ⟨k - i - 1, by omega⟩
   rw [show k - (i + 1) = j by omega, hj, Nat.div_div_eq_div_mul, ← Nat.pow_succ', le]
   simp
  ·
   have e : k - i = 0 := by omega
   rw [zDF (yB (by omega)), e]
   unfold zD6
   by_cases h0 : 0 < m
   · rw [zEs (yX (by omega)), if_pos (by simpa using h0)]
   ·
    rw [zDF (yB (by omega)), if_neg (by simpa using h0)]
    simp [le]
theorem zD9 (b : List UInt8) (hb : b.length ≤ 4611686018427387904) : ∀ (n i : Nat) (out : List UInt8), i ≤ b.length → i < n → out.length + i ≤ 1000000000 → zA9 b n out ((i : Int) - 1) = some (out ++ (b.take i).reverse)
 | 0, i, out, _, h, _ => by omega
 | n + 1, i, out, hi, h, ho => by
  unfold zA9
  cases i with
  | zero =>
   rw [zDF (yB (by omega))]
   simp
  | succ i =>
   rw [zEs (yX (by omega)), show ((i + 1 : Nat) : Int) - 1 = (i : Int) by omega, zC6 (by omega), Option.bind_some, yV (by simp; omega), Option.bind_some, zEY (by omega) (by omega),
    zD9 b hb n i _ (by omega) (by omega) (by simp; omega), ← List.take_append_getElem (by omega : i < b.length), List.reverse_append]
   simp
theorem zHB {n k : Nat} (h : n < 256 ^ k) (h1 : 1 ≤ k) (h8 : k ≤ 8) (hn : n ≤ 4611686018427387904) : zCe (n : Int) (k : Int) = some (be k n, 0) := by
 unfold zCe zFs
 rw [zDF (yB (by omega)), zDF (yB (by omega)), zDF (yB (by omega)), zDF (yB (by omega)), Int.toNat_natCast]
 have hl := zFB k h8 (k + 1) 0 n [] (by omega) (by omega) rfl hn
 rw [Nat.sub_zero, if_neg (by rw [Nat.div_eq_of_lt h]; omega)] at hl
 show Option.bind (zBc (k : Int) (k + 1) (n : Int) [] ((0 : Nat) : Int)) _ = _
 rw [hl, Option.bind_some]
 show Option.bind (zCy (le k n)) _ = _
 unfold zCy
 rw [zAT, zEY (by omega) (by omega)]
 have ht := zD9 (le k n) (by rw [zAT]; omega) (Int.toNat ((k : Int) - 1) + 2) k [] (by rw [zAT]; exact Nat.le_refl _) (by omega) (by simp; omega)
 rw [ht, Option.bind_some, show (le k n).take k = le k n from List.take_of_length_le (by rw [zAT]; exact Nat.le_refl _)]
 rfl
theorem zEg (a b : List UInt8) (hl : a.length = b.length) (hb : a.length < 4611686018427387904) : ∀ (n i : Nat), i ≤ a.length → a.length - i < n → zBv a b n (i : Int) = some (a.drop i == b.drop i)
 | 0, i, _, h => by omega
 | n + 1, i, hi, h => by
  unfold zBv
  by_cases hlt : i < a.length
  ·
   have hlb : i < b.length := by omega
   rw [zEs (yX (by omega)), zC6 hlt, Option.bind_some, zC6 hlb, Option.bind_some, zAc (by omega), zEg a b hl hb n (i + 1) (by omega) (by omega)]
   have ha : a.drop i = a[i] :: a.drop (i + 1) := List.drop_eq_getElem_cons hlt
   have hb : b.drop i = b[i] :: b.drop (i + 1) := List.drop_eq_getElem_cons hlb
   rw [ha, hb]
   generalize a[i] = x
   generalize b[i] = y
   by_cases he : x = y
   ·
    subst he
    rw [zDF (zFl rfl)]
    simp
   ·
    rw [zEs (ine_t (fun h => he (UInt8.toNat_inj.1 (by omega))))]
    simp [he]
  ·
   rw [zDF (yB (by omega)), List.drop_eq_nil_of_le (by omega), List.drop_eq_nil_of_le (by omega)]
   rfl
theorem zDJ (a b : List UInt8) (hb : a.length < 4611686018427387904) : zAY a b = some (a == b) := by
 unfold zAY
 by_cases hl : a.length = b.length
 ·
  rw [zDF (zFl (by omega))]
  exact zEg a b hl hb _ 0 (Nat.zero_le _) (by omega)
 ·
  rw [zEs (ine_t (by omega))]
  congr 1
  symm
  rw [beq_eq_false_iff_ne]
  exact fun e => hl (by rw [e])
theorem n_wput {n k : Nat} (h : n < 256 ^ k) (h1 : 1 ≤ k) (h8 : k ≤ 8) (hn : n ≤ 4611686018427387904) : zBX (n : Int) (k : Int) = some (be k n, 0) := by
 unfold zBX
 rw [if_pos ⟨by omega, by omega, by omega, by omega, by simpa using h⟩]
 simp
def xb (c x : UInt8) : UInt8 := U8 ((((BitVec.ofInt IntKind.u8.bits (x.toNat : Int)) ^^^ (BitVec.ofInt IntKind.u8.bits (c.toNat : Int))).toNat : Nat) : Int)
theorem xb54 : xb 54 0 = 54 := by decide
theorem xb92 : xb 92 0 = 92 := by decide
def zAa (p : List UInt8) : List UInt8 := p ++ List.replicate (128 - p.length) 0
theorem zCj {p : List UInt8} (h : p.length ≤ 128) : (zAa p).length = 128 := by
 unfold zAa
 rw [List.length_append, List.length_replicate]
 omega
def kpad (p : List UInt8) (c : UInt8) : List UInt8 := (zAa p).map (xb c)
theorem zEH {p : List UInt8} (h : p.length ≤ 128) (c : UInt8) : (kpad p c).length = 128 := by
 unfold kpad
 rw [List.length_map, zCj h]
attribute [local irreducible] xb
theorem mid_idx (f : UInt8 → UInt8) (l : List UInt8) (i : Nat) (h : i < l.length) : idx ((l.take i).map f ++ l.drop i) (i : Int) = some l[i] := by
 have hl : ((l.take i).map f).length = i := by rw [List.length_map, List.length_take]; omega
 unfold idx
 rw [yX (by omega), cond_true, Int.toNat_natCast, List.getElem?_append_right (by omega), hl, Nat.sub_self, List.drop_eq_getElem_cons h]
 rfl
theorem mid_set (f : UInt8 → UInt8) (l : List UInt8) (i : Nat) (h : i < l.length) : ((l.take i).map f ++ l.drop i).set i (f l[i]) = (l.take (i + 1)).map f ++ l.drop (i + 1) := by
 have hl : ((l.take i).map f).length = i := by rw [List.length_map, List.length_take]; omega
 rw [List.set_append_right _ _ (by omega), hl, Nat.sub_self, List.drop_eq_getElem_cons h, List.set_cons_zero, zAo h, List.map_append, List.append_assoc]
 rfl
theorem zHv (c : UInt8) (l : List UInt8) (hl : l.length = 128) : ∀ (k i : Nat), i + k = 128 → ∀ fuel, k < fuel → zAM 128 c fuel (i : Int) ((l.take i).map (xb c) ++ l.drop i) = some (l.map (xb c))
 | 0, i, hi, fuel + 1, hf => by
  unfold zAM
  rw [yB (by omega), cond_false, List.take_of_length_le (by omega), List.drop_of_length_le (by omega), List.append_nil]
 | k + 1, i, hi, fuel + 1, hf => by
  unfold zAM
  have hlt : i < l.length := by omega
  rw [yX (by omega), cond_true, mid_idx _ l i hlt, Option.bind_some, Option.bind_some, Int.toNat_natCast]
  show zAM 128 c fuel (wi ((i : Int) + 1)) (((l.take i).map (xb c) ++ l.drop i).set i (U8 ((((BitVec.ofInt IntKind.u8.bits (l[i].toNat : Int)) ^^^ (BitVec.ofInt IntKind.u8.bits (c.toNat : Int))).toNat : Nat) : Int))) = _
  rw [show U8 ((((BitVec.ofInt IntKind.u8.bits (l[i].toNat : Int)) ^^^ (BitVec.ofInt IntKind.u8.bits (c.toNat : Int))).toNat : Nat) : Int) = xb c l[i] by unfold xb; rfl, mid_set _ l i hlt, zAc (by omega)]
  exact zHv c l hl k (i + 1) (by omega) fuel (by omega)
theorem n_dpad {p : List UInt8} (h : p.length ≤ 128) (c : UInt8) : zCJ p c = some (kpad p c) := by
 unfold zCJ
 rw [yB (by omega), cond_false]
 unfold zBm
 have hc : cpyI (List.replicate 128 (0 : UInt8)) 0 128 p = some (zAa p) := by
  unfold cpyI cpyL zAa
  rw [if_pos (by simp), List.take_zero, List.nil_append, List.take_of_length_le h, List.drop_replicate, Nat.zero_add, show min p.length 128 = p.length by omega]
 rw [show mkI 1 128 = some 128 from rfl, Option.bind_some, hc, Option.bind_some, zFY (by rw [zCj h, List.length_replicate]), Option.bind_some]
 exact zHv c (zAa p) (zCj h) 128 0 (by omega) (Int.toNat ((128 : Nat) : Int) + 1) (by decide)
theorem zGs {c : UInt8} (hc : xb c 0 = c) (p : List UInt8) (h : p.length ≤ 128) : ∀ (k i : Nat), i + k = 128 → ∀ fuel, k < fuel → zAR p c fuel (((zAa p).take i).map (xb c)) (i : Int) = some ((zAa p).map (xb c))
 | 0, i, hi, fuel + 1, hf => by
  unfold zAR
  rw [yB (by omega), cond_false, List.take_of_length_le (by rw [zCj h]; omega)]
 | k + 1, i, hi, fuel + 1, hf => by
  unfold zAR
  have hw := zCj h
  have hlt : i < (zAa p).length := by omega
  have hl : (((zAa p).take i).map (xb c)).length = i := by rw [List.length_map, List.length_take]; omega
  rw [yX (by omega), cond_true]
  have key : ∀ v, xb c (zAa p)[i] = v → Option.bind (appI 1 (((zAa p).take i).map (xb c)) [v]) (fun x9 => zCE (zAR p c fuel) (i : Int) x9) = some ((zAa p).map (xb c)) := fun v hv => by
   rw [yV (by rw [hl]; simp only [List.length_cons, List.length_nil]; omega), Option.bind_some, ← hv]
   unfold zCE
   rw [show ((zAa p).take i).map (xb c) ++ [xb c (zAa p)[i]] = ((zAa p).take (i + 1)).map (xb c) by rw [zAo hlt, List.map_append]; rfl, zAc (by omega)]
   exact zGs hc p h k (i + 1) (by omega) fuel (by omega)
  by_cases hp : i < p.length
  ·
   rw [yX (by omega), cond_true, zC6 hp, Option.bind_some]
   refine key _ ?_
   have e : (zAa p)[i] = p[i] := List.getElem_append_left hp
   rw [e]
   unfold xb
   rfl
  ·
   rw [yB (by omega), cond_false]
   refine key _ ?_
   have e0 : (zAa p)[i]? = some 0 := by
    unfold zAa
    rw [List.getElem?_append_right (by omega), List.getElem?_replicate, if_pos (by omega)]
   have e : (zAa p)[i] = 0 := Option.some.inj ((List.getElem?_eq_getElem hlt).symm.trans e0)
   rw [e, hc]
theorem n_rkpad {c : UInt8} (hc : xb c 0 = c) {p : List UInt8} (h : p.length ≤ 128) : zD7 p c = some (kpad p c) := by
 unfold zD7
 rw [yB (by omega), cond_false]
 unfold zC2
 exact zGs hc p h 128 0 (by omega) (Int.toNat 128 + 1) (by decide)
attribute [local irreducible] zHQ kpad
def tagN (p m : List UInt8) : List UInt8 := zHQ (kpad p 92 ++ zHQ (kpad p 54 ++ m))
theorem zEi (p m : List UInt8) : (tagN p m).length = 64 := zDH _
theorem cut64 {b : List UInt8} (h : b.length = 64) : cutI (padA (0 : UInt8) b 0 64) 0 64 = some b := by
 rw [zCl h]
 have := zEn (l := b) (n := 64) (by omega)
 rw [List.take_of_length_le (by omega)] at this
 exact this
theorem n_dtag {p : List UInt8} (h : p.length ≤ 128) (ps : List (List UInt8)) (hp : ps.length ≤ 1000) (hs : ps.flatten.length ≤ 100000000) : zCr p ps = some (tagN p ps.flatten) := by
 unfold zCr
 rw [n_dpad h, Option.bind_some, yV (by simp only [List.length_cons, List.length_nil]; omega), Option.bind_some, n_Sum _ (by rw [List.singleton_append, List.flatten_cons, List.length_append, zEH h]; omega) (by rw [List.singleton_append, List.length_cons]; omega), Option.bind_some, n_dpad h, Option.bind_some, cut64 (zDH _), Option.bind_some, n_Sum _ (by simp only [List.flatten_cons, List.flatten_nil, List.length_append, List.length_nil, zEH h, zDH]; omega) (by simp), Option.bind_some]
 unfold tagN
 simp only [List.singleton_append, List.flatten_cons, List.flatten_nil, List.append_nil]
theorem n_rtag {p : List UInt8} (h : p.length ≤ 128) (m : List UInt8) (hs : m.length ≤ 100000000) : zEl p m = some (tagN p m) := by
 unfold zEl
 rw [n_rkpad xb54 h, Option.bind_some, yV (by rw [zEH h]; omega), Option.bind_some, n_rkpad xb92 h, Option.bind_some, n_RSum _ (by rw [List.length_append, zEH h]; omega), Option.bind_some, n_list (zDH _), Option.bind_some, yV (by rw [zEH h, zDH]; omega), Option.bind_some, n_RSum _ (by rw [List.length_append, zEH h, zDH]; omega), Option.bind_some]
 rfl
end Go.Proofs.YtmgafkpkpmjieaaDoor
