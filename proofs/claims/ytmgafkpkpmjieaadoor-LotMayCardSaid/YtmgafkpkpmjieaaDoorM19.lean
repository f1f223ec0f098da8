/-
  Texts joined: see the remark at the head of each part.
-/
import Derived.Test.YtmgafkpkpmjieaaDoorM18
import Derived.Test.YtmgafkpkpmjieaaDoorM12
import Derived.Test.YtmgafkpkpmjieaaDoorM17
import Derived.Test.YtmgafkpkpmjieaaDoorM04
import Derived.ProofKit
import Derived.Lib.SmallJoins
import Derived.Test.YtmgafkpkpmjieaaDoorM08
import Derived.OpenShut
set_option linter.unusedVariables false
set_option linter.unusedSimpArgs false
/-
 The plain law of the lots: keys, lots, calls.
-/
namespace Go.Proofs.YtmgafkpkpmjieaaDoor
open Go Go.RowKit
set_option linter.unusedVariables false
set_option linter.unusedSimpArgs false
set_option maxRecDepth 20000
attribute [local irreducible] tagN be
def keyD (b : List UInt8) : List UInt8 := [3, 108, 111, 116] ++ (be 4 8 ++ b)
def lotN (s : List UInt8) (i : Nat) : List UInt8 := (tagN s (keyD (be 8 i))).take 32
theorem zEL (s : List UInt8) (i : Nat) : (lotN s i).length = 32 := by
 unfold lotN
 rw [List.length_take, zEi]
 rfl
theorem n_ctn {b : List UInt8} (hb : b.length = 8) : yY [b] zAL = some false := by
 have h1 : zAL b = some false := by
  unfold zAL
  rw [yB (by omega)]
 unfold yY zAp
 have h2 : qZ [b] zAL ([b].length + 1) 0 = some (-1) := by
  show qZ [b] zAL 2 0 = _
  unfold qZ
  rw [yX (by simp only [List.length_cons, List.length_nil]; omega), cond_true, zGS, Option.bind_some, h1, Option.bind_some, cond_false]
  rfl
 rw [h2]
 rfl
theorem n_dkey {s b : List UInt8} (hs : s.length = 32) (hb : b.length = 8) : zC3 s [108, 111, 116] [b] = some ((tagN s (keyD b)).take 32, 0) := by
 have h4 : zBX (b.length : Int) 4 = some (be 4 8, 0) := by
  rw [hb]
  exact n_wput (n := 8) (k := 4) (by decide) (by decide) (by decide) (by decide)
 have hst : strB [108, 111, 116] = some [108, 111, 116] := if_pos (by decide)
 unfold zC3
 rw [ieq_f (by omega), cond_false, yB (by simp only [List.length_cons, List.length_nil]; omega), cond_false, yB (by simp only [List.length_cons, List.length_nil]; omega), cond_false, n_ctn hb, Option.bind_some, cond_false, hst, Option.bind_some]
 show zAZ [b] s 2 _ 0 = _
 unfold zAZ
 rw [yX (by simp only [List.length_cons, List.length_nil]; omega), cond_true, zGS, Option.bind_some, h4, Option.bind_some, yV (by simp only [List.length_cons, List.length_nil]; omega), Option.bind_some]
 unfold zAZ
 rw [yB (by rw [zEY (by omega) (by omega)]; simp only [List.length_cons, List.length_nil]; omega), cond_false]
 unfold zCo
 have h4l : (be 4 8).length = 4 := zAi _ _
 have hd : ([[(U8 (([108, 111, 116] : List UInt8).length : Int))], [108, 111, 116]] ++ [be 4 8, b]).flatten = keyD b := by
  unfold keyD
  simp only [List.cons_append, List.nil_append, List.flatten_cons, List.flatten_nil, List.append_nil]
  rfl
 have hkl : (keyD b).length = 16 := by unfold keyD; simp only [List.cons_append, List.nil_append, List.length_cons, List.length_append, h4l, hb]
 rw [n_dtag (by omega) _ (by simp only [List.cons_append, List.nil_append, List.length_cons, List.length_nil]; omega) (by rw [hd]; omega), Option.bind_some, hd, zCl (zEi _ _)]
 have hc : cutI (tagN s (keyD b)) 0 32 = some ((tagN s (keyD b)).take 32) := zEn (n := 32) (by rw [zEi]; omega)
 have hl : ((tagN s (keyD b)).take 32).length = 32 := by rw [List.length_take, zEi]; rfl
 rw [hc, Option.bind_some]
 unfold s2aI
 rw [if_pos (by omega), List.take_of_length_le (by omega), Option.bind_some]
theorem n_rkey4 (x : List UInt8) (hx : x.length = 64) : ∀ (k i : Nat), i + k = 32 → ∀ fuel, k < fuel → zBW x fuel (i : Int) (x.take i ++ List.replicate k 0) = some (x.take 32, 0)
 | 0, i, hi, fuel + 1, hf => by
  unfold zBW zD2
  rw [yB (by omega), cond_false, show i = 32 by omega, show List.replicate 0 (0 : UInt8) = [] from rfl, List.append_nil, zFY (by rw [List.length_take]; omega), Option.bind_some]
 | k + 1, i, hi, fuel + 1, hf => by
  unfold zBW
  have hlt : i < x.length := by omega
  have hti : (x.take i).length = i := by rw [List.length_take]; omega
  have hg : idxA 64 (padA (0 : UInt8) x 0 64) (i : Int) = some x[i] := by
   rw [zCl hx]
   unfold idxA
   rw [if_pos ⟨by omega, by omega⟩, Int.toNat_natCast, List.getElem?_eq_getElem hlt]
  have hg2 : idxA 32 (x.take i ++ List.replicate (k + 1) 0) (i : Int) = some (0 : UInt8) := by
   unfold idxA
   rw [if_pos ⟨by omega, by omega⟩, Int.toNat_natCast, List.getElem?_append_right (by omega), hti, Nat.sub_self, List.replicate_succ]
   rfl
  have hset := set0 (x.take i) k x[i]
  rw [hti, ← zAo hlt] at hset
  rw [yX (by omega), cond_true, hg, Option.bind_some, hg2, Option.bind_some, Int.toNat_natCast, hset, zAc (by omega)]
  exact n_rkey4 x hx k (i + 1) (by omega) fuel (by omega)
theorem n_rkey {s b : List UInt8} (hs : s.length = 32) (hb : b.length = 8) : zEf s [108, 111, 116] [b] = some ((tagN s (keyD b)).take 32, 0) := by
 have h4 : zCe (b.length : Int) 4 = some (be 4 8, 0) := by
  rw [hb]
  exact zHB (n := 8) (k := 4) (by decide) (by decide) (by decide) (by decide)
 have h4l : (be 4 8).length = 4 := zAi _ _
 unfold zEf
 rw [ieq_f (by omega), cond_false, yB (by simp only [List.length_cons, List.length_nil]; omega), cond_false, yB (by simp only [List.length_cons, List.length_nil]; omega), cond_false]
 have h6 : zCv [108, 111, 116] [b] s (([108, 111, 116] : List UInt8).length + 1) [(U8 (([108, 111, 116] : List UInt8).length : Int))] 0 = zC5 [b] s [3, 108, 111, 116] := rfl
 rw [h6]
 unfold zC5
 show zBb [b] s 2 _ 0 = _
 unfold zBb
 rw [yX (by simp only [List.length_cons, List.length_nil]; omega), cond_true, zGS, Option.bind_some, h4, Option.bind_some]
 show Option.bind (appI 1 [3, 108, 111, 116] (be 4 8)) _ = _
 rw [yV (by rw [h4l]; simp only [List.length_cons, List.length_nil]; omega), Option.bind_some, Option.bind_some, yV (by rw [List.length_append, h4l, hb]; simp only [List.length_cons, List.length_nil]; omega), Option.bind_some]
 unfold zBb
 rw [yB (by rw [zEY (by omega) (by omega)]; simp only [List.length_cons, List.length_nil]; omega), cond_false]
 unfold zD5
 have hd : [3, 108, 111, 116] ++ be 4 8 ++ b = keyD b := by unfold keyD; rw [List.append_assoc]
 have hkl : (keyD b).length = 16 := by unfold keyD; simp only [List.cons_append, List.nil_append, List.length_cons, List.length_append, h4l, hb]
 rw [hd, n_rtag (by omega) _ (by omega), Option.bind_some, zFY (by rw [List.length_replicate]), Option.bind_some]
 exact n_rkey4 _ (zEi _ _) 32 0 (by omega) (Int.toNat 32 + 1) (by decide)
theorem cut32 {s : List UInt8} (hs : s.length = 32) : cutI (padA (0 : UInt8) s 0 32) 0 32 = some s := by
 rw [zCl hs]
 have := zEn (l := s) (n := 32) (by omega)
 rw [List.take_of_length_le (by omega)] at this
 exact this
theorem n_lot {s : List UInt8} (hs : s.length = 32) {i : Nat} (hi : i ≤ 1024) : zD1 s (i : Int) = some (lotN s i, 0) := by
 have h8 : zBX (i : Int) 8 = some (be 8 i, 0) := n_wput (k := 8) (Nat.lt_of_le_of_lt hi (by decide)) (by decide) (by decide) (by omega)
 unfold zD1
 rw [yB (by omega), cond_false, yB (by omega), cond_false, h8, Option.bind_some, cut32 hs, Option.bind_some, n_dkey hs (zAi _ _), Option.bind_some]
 rfl
theorem n_rlot {s : List UInt8} (hs : s.length = 32) {i : Nat} (hi : i ≤ 1024) : zDO s (i : Int) = some (lotN s i) := by
 have h8 : zCe (i : Int) 8 = some (be 8 i, 0) := zHB (k := 8) (Nat.lt_of_le_of_lt hi (by decide)) (by decide) (by decide) (by omega)
 unfold zDO
 rw [h8, Option.bind_some, cut32 hs, Option.bind_some, n_rkey hs (zAi _ _), Option.bind_some]
 rfl
end Go.Proofs.YtmgafkpkpmjieaaDoor

/-
 The plain law of the lots: what is chosen is the document's call.
-/
namespace Go.Proofs.YtmgafkpkpmjieaaDoor
open Go Go.RowKit
set_option linter.unusedVariables false
set_option linter.unusedSimpArgs false
set_option maxRecDepth 20000
set_option maxHeartbeats 1000000
theorem n_named (c : UInt8) : ∀ n : Nat, n < 10 → qX [c] (n : Int) = qV c (n : Int)
 | 0, _ => rfl
 | 1, _ => rfl
 | 2, _ => rfl
 | 3, _ => rfl
 | 4, _ => rfl
 | 5, _ => rfl
 | 6, _ => rfl
 | 7, _ => rfl
 | 8, _ => rfl
 | 9, _ => rfl
 | n + 10, h => by omega
theorem zEO (c : UInt8) (x k : Nat) (h0 : 0 < k) (h : k ≤ 10) : qX [c] (Int.tmod (x : Int) (k : Int)) = qV c (Int.tmod (x : Int) (k : Int)) := by
 have := Nat.mod_lt x h0
 exact n_named c (x % k) (by omega)
theorem zIK (x : UInt8) : ∃ K : Int, idx zBA (Int.tmod (x.toNat : Int) 17) = some K ∧ idx [2, 8, 8, 8, 5, 5, 6, 7, 9, 9, 10, 12, 13, 11, 3, 4, 14] (Int.tmod (x.toNat : Int) 17) = some K ∧ (K = 2 ∨ K = 3 ∨ K = 4 ∨ K = 5 ∨ K = 6 ∨ K = 7 ∨ K = 8 ∨ K = 9 ∨ K = 10 ∨ K = 11 ∨ K = 12 ∨ K = 13 ∨ K = 14) := by
 rw [show Int.tmod (x.toNat : Int) 17 = ((x.toNat % 17 : Nat) : Int) from rfl]
 have h := Nat.mod_lt x.toNat (show 0 < 17 by decide)
 generalize x.toNat % 17 = m at h
 rcases (show m = 0 ∨ m = 1 ∨ m = 2 ∨ m = 3 ∨ m = 4 ∨ m = 5 ∨ m = 6 ∨ m = 7 ∨ m = 8 ∨ m = 9 ∨ m = 10 ∨ m = 11 ∨ m = 12 ∨ m = 13 ∨ m = 14 ∨ m = 15 ∨ m = 16 by omega) with rfl | rfl | rfl | rfl | rfl | rfl | rfl | rfl | rfl | rfl | rfl | rfl | rfl | rfl | rfl | rfl | rfl <;> exact ⟨_, rfl, rfl, by decide⟩
section
variable {l : List UInt8} (hl : l.length = 32)
include hl
theorem g32 (i : Nat) (h : i < 32) : idxA 32 (padA (0 : UInt8) l 0 32) (i : Int) = some (l.getD i 0) := by
 rw [zCl hl]
 unfold idxA
 rw [if_pos ⟨by omega, by omega⟩, Int.toNat_natCast, List.getD_eq_getElem?_getD, List.getElem?_eq_getElem (by omega)]
 rfl
theorem n_c1 (i : Nat) (h : i < 32) (n : Int) (hn : n ≠ 0) : zJ (i : Int) n l = some (Int.tmod ((l.getD i 0).toNat : Int) n) := by
 unfold zJ remI
 rw [g32 hl i h, Option.bind_some, ine_t hn, cond_true, Option.bind_some]
theorem n_cut (n : Nat) (h : n ≤ 16) : cutI (padA (0 : UInt8) l 0 32) 16 (wi (16 + (n : Int))) = some ((l.drop 16).take n) := by
 rw [zCl hl, show (16 : Int) + (n : Int) = ((16 + n : Nat) : Int) by omega, zBJ (by omega)]
 unfold cutI
 rw [if_pos ⟨by omega, by omega, by omega⟩, Int.toNat_natCast]
 refine congrArg some ?_
 rw [show Int.toNat 16 = 16 from rfl, List.drop_take, show 16 + n - 16 = n by omega]
theorem n_call6 (x8 : Int) (x12 x21 y26 y24 : List UInt8) (y25 y27 : Int) : ∀ (k i : Nat), i + k = (l.getD 6 0).toNat % 9 → ∀ fuel, k < fuel → zAl l x8 x12 x21 y26 y24 y25 y27 fuel ((l.drop 16).take i) (i : Int) = some (zC.mk x8 x12 x21 y26 y24 y25 y27 ((l.drop 16).take ((l.getD 6 0).toNat % 9)))
 | 0, i, hi, fuel + 1, hf => by
  unfold zAl
  rw [show idxA 32 (padA (0 : UInt8) l 0 32) 6 = some (l.getD 6 0) from g32 hl 6 (by omega), Option.bind_some, show Int.tmod ((l.getD 6 0).toNat : Int) 9 = (((l.getD 6 0).toNat % 9 : Nat) : Int) from rfl, yB (by omega), cond_false, show i = (l.getD 6 0).toNat % 9 by omega]
 | k + 1, i, hi, fuel + 1, hf => by
  unfold zAl
  have hlt : i < (l.drop 16).length := by rw [List.length_drop]; omega
  rw [show idxA 32 (padA (0 : UInt8) l 0 32) 6 = some (l.getD 6 0) from g32 hl 6 (by omega), Option.bind_some, show Int.tmod ((l.getD 6 0).toNat : Int) 9 = (((l.getD 6 0).toNat % 9 : Nat) : Int) from rfl, yX (by omega), cond_true, show (16 : Int) + (i : Int) = ((16 + i : Nat) : Int) by omega, zBJ (by omega), g32 hl (16 + i) (by omega), Option.bind_some, yV (by rw [List.length_take]; simp only [List.length_cons, List.length_nil]; omega), Option.bind_some, show l.getD (16 + i) 0 = (l.drop 16)[i] by rw [List.getD_eq_getElem?_getD, List.getElem?_eq_getElem (by omega), List.getElem_drop]; rfl, ← zAo hlt, zAc (by omega)]
  exact n_call6 x8 x12 x21 y26 y24 y25 y27 k (i + 1) (by omega) fuel (by omega)
theorem zIC (s : List UInt8) (i : Int) (hi : 4 ≤ i) (hr : zDO s i = some l) : ∃ c, zAk l = some c ∧ zBB s i = some c ∧ c.Data.length ≤ 16 := by
 have c0 : zJ 0 17 l = _ := n_c1 hl 0 (by omega) 17 (by decide)
 have c1 : zJ 1 4 l = _ := n_c1 hl 1 (by omega) 4 (by decide)
 have c2 : zJ 2 5 l = _ := n_c1 hl 2 (by omega) 5 (by decide)
 have c3 : zJ 3 2 l = _ := n_c1 hl 3 (by omega) 2 (by decide)
 have c4 : zJ 4 4 l = _ := n_c1 hl 4 (by omega) 4 (by decide)
 have c5 : zJ 5 3 l = _ := n_c1 hl 5 (by omega) 3 (by decide)
 have c6 : zJ 6 9 l = _ := n_c1 hl 6 (by omega) 9 (by decide)
 have c73 : zJ 7 3 l = _ := n_c1 hl 7 (by omega) 3 (by decide)
 have c74 : zJ 7 4 l = _ := n_c1 hl 7 (by omega) 4 (by decide)
 have c76 : zJ 7 6 l = _ := n_c1 hl 7 (by omega) 6 (by decide)
 have g0 : idxA 32 (padA (0 : UInt8) l 0 32) 0 = _ := g32 hl 0 (by omega)
 have g1 : idxA 32 (padA (0 : UInt8) l 0 32) 1 = _ := g32 hl 1 (by omega)
 have g2 : idxA 32 (padA (0 : UInt8) l 0 32) 2 = _ := g32 hl 2 (by omega)
 have g3 : idxA 32 (padA (0 : UInt8) l 0 32) 3 = _ := g32 hl 3 (by omega)
 have g4 : idxA 32 (padA (0 : UInt8) l 0 32) 4 = _ := g32 hl 4 (by omega)
 have g5 : idxA 32 (padA (0 : UInt8) l 0 32) 5 = _ := g32 hl 5 (by omega)
 have g7 : idxA 32 (padA (0 : UInt8) l 0 32) 7 = _ := g32 hl 7 (by omega)
 have q1 : qX [117] (Int.tmod ((l.getD 1 0).toNat : Int) 4) = qV 117 (Int.tmod ((l.getD 1 0).toNat : Int) 4) := zEO 117 (l.getD 1 0).toNat 4 (by decide) (by decide)
 have q2 : qX [102] (Int.tmod ((l.getD 2 0).toNat : Int) 5) = qV 102 (Int.tmod ((l.getD 2 0).toNat : Int) 5) := zEO 102 (l.getD 2 0).toNat 5 (by decide) (by decide)
 have q3 : qX [120] (Int.tmod ((l.getD 3 0).toNat : Int) 2) = qV 120 (Int.tmod ((l.getD 3 0).toNat : Int) 2) := zEO 120 (l.getD 3 0).toNat 2 (by decide) (by decide)
 have q74 : qX [117] (Int.tmod ((l.getD 7 0).toNat : Int) 4) = qV 117 (Int.tmod ((l.getD 7 0).toNat : Int) 4) := zEO 117 (l.getD 7 0).toNat 4 (by decide) (by decide)
 have q76 : qX [102] (Int.tmod ((l.getD 7 0).toNat : Int) 6) = qV 102 (Int.tmod ((l.getD 7 0).toNat : Int) 6) := zEO 102 (l.getD 7 0).toNat 6 (by decide) (by decide)
 have qd : qX [117] (Int.tmod (wi ((wi ((Int.tmod ((l.getD 1 0).toNat : Int) 4) + 1)) + (Int.tmod ((l.getD 7 0).toNat : Int) 3))) 4) = qV 117 (Int.tmod (wi ((wi ((Int.tmod ((l.getD 1 0).toNat : Int) 4) + 1)) + (Int.tmod ((l.getD 7 0).toNat : Int) 3))) 4) := by
  have e : wi ((wi ((Int.tmod ((l.getD 1 0).toNat : Int) 4) + 1)) + (Int.tmod ((l.getD 7 0).toNat : Int) 3)) = (((l.getD 1 0).toNat % 4 + 1 + (l.getD 7 0).toNat % 3 : Nat) : Int) := by
   rw [show Int.tmod ((l.getD 1 0).toNat : Int) 4 = (((l.getD 1 0).toNat % 4 : Nat) : Int) from rfl, show Int.tmod ((l.getD 7 0).toNat : Int) 3 = (((l.getD 7 0).toNat % 3 : Nat) : Int) from rfl, zAc (by omega), ← Int.natCast_add, zBJ (by omega)]
  rw [e]
  exact zEO 117 _ 4 (by decide) (by decide)
 have hcut : cutI (padA (0 : UInt8) l 0 32) 16 (wi (16 + (Int.tmod ((l.getD 6 0).toNat : Int) 9))) = some ((l.drop 16).take ((l.getD 6 0).toNat % 9)) := n_cut hl ((l.getD 6 0).toNat % 9) (by omega)
 have hlen : ((l.drop 16).take ((l.getD 6 0).toNat % 9)).length ≤ 16 := by rw [List.length_take]; omega
 have happ : appI 1 [] ((l.drop 16).take ((l.getD 6 0).toNat % 9)) = some ((l.drop 16).take ((l.getD 6 0).toNat % 9)) := by
  rw [yV (by simp only [List.length_nil]; omega), List.nil_append]
 have h6 : ∀ (x8 : Int) (x12 x21 y26 y24 : List UInt8) (y25 y27 : Int), zAl l x8 x12 x21 y26 y24 y25 y27 10 [] 0 = some (zC.mk x8 x12 x21 y26 y24 y25 y27 ((l.drop 16).take ((l.getD 6 0).toNat % 9))) := fun x8 x12 x21 y26 y24 y25 y27 => n_call6 hl x8 x12 x21 y26 y24 y25 y27 ((l.getD 6 0).toNat % 9) 0 (by omega) 10 (by omega)
 obtain ⟨K, k1, k2, hK⟩ := zIK (l.getD 0 0)
 unfold zAk zBB
 rw [yB (by omega), cond_false, hr, Option.bind_some, c0, g0, Option.bind_some, Option.bind_some, k1, k2, Option.bind_some, Option.bind_some, c1, g1, Option.bind_some, Option.bind_some, q1]
 clear k1 k2 hr c0 g0
 generalize l.getD 1 0 = b1 at *
 generalize l.getD 2 0 = b2 at *
 generalize l.getD 3 0 = b3 at *
 generalize l.getD 4 0 = b4 at *
 generalize l.getD 5 0 = b5 at *
 generalize l.getD 6 0 = b6 at *
 generalize l.getD 7 0 = b7 at *
 have hn : ∀ (c : UInt8) (z : Int), qV c z = some [c, U8 (48 + ((U8 z).toNat : Int))] := fun _ _ => rfl
 rcases hK with rfl | rfl | rfl | rfl | rfl | rfl | rfl | rfl | rfl | rfl | rfl | rfl | rfl
 all_goals simp [zAz, zA5, zA3, zDn, zBE, zBs, zBn, zAm, zCV, zCS, hn, c1, c2, c3, c4, c5, c6, c73, c74, c76, g1, g2, g3, g4, g5, g7, q1, q2, q3, q74, q76, qd, hcut, happ, h6, -List.length_take, hlen]
 all_goals
  generalize decide (Int.tmod (b7.toNat : Int) 6 < 5) = d1
  generalize (U8 (48 + ((U8 (Int.tmod (b7.toNat : Int) 6)).toNat : Int)) == U8 (48 + ((U8 (Int.tmod (b2.toNat : Int) 5)).toNat : Int))) = d2
  cases d1 <;> cases d2 <;> simp
end
end Go.Proofs.YtmgafkpkpmjieaaDoor

/-
 The plain law of the lots: all calls, all events; LotCalls.
-/
namespace Go.Proofs.YtmgafkpkpmjieaaDoor
open Go Go.RowKit
set_option linter.unusedVariables false
set_option linter.unusedSimpArgs false
set_option maxRecDepth 20000
attribute [local irreducible] lotN
def noCall : zC := zC.mk 0 [] [] [] [] 0 0 []
def zDE (s : List UInt8) (i : Nat) : zC := (zBB s (i : Int)).getD noCall
theorem zHD {s : List UInt8} (hs : s.length = 32) {i : Nat} (hi : i ≤ 1024) : zAv s (i : Int) = some (zDE s i, 0) ∧ zBB s (i : Int) = some (zDE s i) ∧ (zDE s i).Data.length ≤ 16 := by
 have key : ∀ c, zAv s (i : Int) = some (c, 0) → zBB s (i : Int) = some c → c.Data.length ≤ 16 → zAv s (i : Int) = some (zDE s i, 0) ∧ zBB s (i : Int) = some (zDE s i) ∧ (zDE s i).Data.length ≤ 16 := fun c h1 h2 h3 => by
  have e : zDE s i = c := by unfold zDE; rw [h2]; rfl
  rw [e]
  exact ⟨h1, h2, h3⟩
 by_cases h4 : i < 4
 ·
  have hn : qV 117 (i : Int) = some [117, U8 (48 + ((U8 (i : Int)).toNat : Int))] := rfl
  refine key (zC.mk 1 [117, U8 (48 + ((U8 (i : Int)).toNat : Int))] [] [] [] 0 0 []) ?_ ?_ (by simp)
  ·
   unfold zAv
   rw [n_lot hs hi, Option.bind_some, zFl rfl, cond_false, yX (by omega), cond_true, hn, Option.bind_some]
  ·
   unfold zBB
   rw [yX (by omega), cond_true, n_named 117 i (by omega), hn, Option.bind_some]
 ·
  obtain ⟨c, h1, h2, h3⟩ := zIC (zEL s i) s (i : Int) (by omega) (n_rlot hs hi)
  refine key c ?_ h2 h3
  unfold zAv
  rw [n_lot hs hi, Option.bind_some, zFl rfl, cond_false, yB (by omega), cond_false]
  show Option.bind (zAk (lotN s i)) _ = _
  rw [h1, Option.bind_some]
theorem n_same {c : zC} (h : c.Data.length ≤ 16) : zBh c c = some true := by
 unfold zBh
 rw [ieq_t rfl, cond_true, beq_self_eq_true, cond_true, beq_self_eq_true, cond_true, beq_self_eq_true, cond_true, beq_self_eq_true, cond_true, ieq_t rfl, cond_true, ieq_t rfl, cond_true, zDJ _ _ (by omega), Option.bind_some, beq_self_eq_true]
theorem n_awake : zDe = some true := by
 unfold zDe
 have h := zHD (s := [7, (0 : UInt8), (0 : UInt8), (0 : UInt8), (0 : UInt8), (0 : UInt8), (0 : UInt8), (0 : UInt8), (0 : UInt8), (0 : UInt8), (0 : UInt8), (0 : UInt8), (0 : UInt8), (0 : UInt8), (0 : UInt8), (0 : UInt8), (0 : UInt8), (0 : UInt8), (0 : UInt8), (0 : UInt8), (0 : UInt8), (0 : UInt8), (0 : UInt8), (0 : UInt8), (0 : UInt8), (0 : UInt8), (0 : UInt8), (0 : UInt8), (0 : UInt8), (0 : UInt8), (0 : UInt8), (0 : UInt8)]) rfl (i := 0) (by omega)
 have e : zDE [7, (0 : UInt8), (0 : UInt8), (0 : UInt8), (0 : UInt8), (0 : UInt8), (0 : UInt8), (0 : UInt8), (0 : UInt8), (0 : UInt8), (0 : UInt8), (0 : UInt8), (0 : UInt8), (0 : UInt8), (0 : UInt8), (0 : UInt8), (0 : UInt8), (0 : UInt8), (0 : UInt8), (0 : UInt8), (0 : UInt8), (0 : UInt8), (0 : UInt8), (0 : UInt8), (0 : UInt8), (0 : UInt8), (0 : UInt8), (0 : UInt8), (0 : UInt8), (0 : UInt8), (0 : UInt8), (0 : UInt8)] 0 = zC.mk 1 [117, 48] [] [] [] 0 0 [] := rfl
 rw [e] at h
 have h1 := h.1
 rw [show ((0 : Nat) : Int) = (0 : Int) from rfl] at h1
 rw [h1, Option.bind_some]
 show Option.bind (zBh (zC.mk 1 [117, 48] [] [] [] 0 0 []) (zC.mk 1 [117, 48] [] [] [] 0 0 [])) _ = _
 rw [n_same (by decide), Option.bind_some]
def zCQ (s : List UInt8) (n : Nat) : List zC := (List.range n).map (zDE s)
theorem zDT (s : List UInt8) (n : Nat) : (zCQ s n).length = n := by unfold zCQ; rw [List.length_map, List.length_range]
theorem callsN_s (s : List UInt8) (n : Nat) : zCQ s (n + 1) = zCQ s n ++ [zDE s n] := by unfold zCQ; rw [List.range_succ, List.map_append]; rfl
theorem zIl (s : List UInt8) (n i : Nat) (h : i < n) : idx (zCQ s n) (i : Int) = some (zDE s i) := by
 rw [zC6 (by rw [zDT]; exact h)]
 unfold zCQ
 rw [List.getElem_map, List.getElem_range]
theorem zG0 {s : List UInt8} (hs : s.length = 32) {n : Nat} (hn : n ≤ 1024) : ∀ (k i : Nat), i + k = n → ∀ fuel, k < fuel → zAr (n : Int) s fuel (zCQ s i) (i : Int) = some (zCQ s n, 0)
 | 0, i, hi, fuel + 1, hf => by
  unfold zAr zDB
  rw [yB (by omega), cond_false, show i = n by omega]
 | k + 1, i, hi, fuel + 1, hf => by
  unfold zAr
  rw [yX (by omega), cond_true, (zHD hs (i := i) (by omega)).1, Option.bind_some, zFl rfl, cond_false, yV (by rw [zDT]; simp only [List.length_cons, List.length_nil]; omega), Option.bind_some, ← callsN_s, zAc (by omega)]
  exact zG0 hs hn k (i + 1) (by omega) fuel (by omega)
theorem n_calls {s : List UInt8} (hs : s.length = 32) {n : Nat} (hn : n ≤ 1024) : zDh s (n : Int) = some (zCQ s n, 0) := by
 unfold zDh
 rw [yB (by omega), cond_false, yB (by omega), cond_false]
 exact zG0 hs hn n 0 (by omega) _ (by omega)
def outE (l : List UInt8) : zB := zB.mk 4 (zC.mk 0 [] [] [] [] 0 0 []) 0 (zQ.mk (((l.getD 9 0).toNat + (l.getD 10 0).toNat : Nat) : Int) ((l.drop 11).take 5) ((l.getD 24 0).toNat : Int) ((l.drop 25).take 2)) [] [] []
def zHX (c : zC) : zB := zB.mk 1 c 0 (zQ.mk 0 [] 0 []) [] [] []
def evN (s : List UInt8) (i : Nat) : List zB := (if (lotN s i).getD 8 0 < 64 then [outE (lotN s i)] else []) ++ [zHX (zDE s i)]
def evsN (s : List UInt8) (n : Nat) : List zB := (List.range n).flatMap (evN s)
theorem zGy (s : List UInt8) (n : Nat) : evsN s (n + 1) = evsN s n ++ evN s n := by unfold evsN; rw [List.range_succ, List.flatMap_append]; simp
theorem evN_len (s : List UInt8) (i : Nat) : (evN s i).length ≤ 2 := by
 unfold evN
 split <;> simp
theorem zFS (s : List UInt8) : ∀ n, (evsN s n).length ≤ 2 * n
 | 0 => by unfold evsN; simp
 | n + 1 => by
  have h1 := zFS s n
  have h2 := evN_len s n
  rw [zGy, List.length_append]
  omega
theorem cutA {l : List UInt8} (hl : l.length = 32) (a b : Nat) (h : a + b ≤ 32) : cutI (padA (0 : UInt8) l 0 32) (a : Int) ((a + b : Nat) : Int) = some ((l.drop a).take b) := by
 rw [zCl hl]
 unfold cutI
 rw [if_pos ⟨by omega, by omega, by omega⟩, Int.toNat_natCast, Int.toNat_natCast]
 refine congrArg some ?_
 rw [List.drop_take, show a + b - a = b by omega]
theorem zF7 {s : List UInt8} (hs : s.length = 32) {n : Nat} (hn : n ≤ 1024) : ∀ (k i : Nat), i + k = n → ∀ fuel, k < fuel → yS (zCQ s n, 0) s fuel (evsN s i) (i : Int) = some (evsN s n, 0)
 | 0, i, hi, fuel + 1, hf => by
  unfold yS zCa
  have hc := zDT s n
  rw [yB (by show ¬ (i : Int) < ((zCQ s n).length : Int); omega), cond_false, show i = n by omega]
 | k + 1, i, hi, fuel + 1, hf => by
  unfold yS
  have hc := zDT s n
  have hl := zEL s i
  have hle := zFS s i
  rw [yX (by show (i : Int) < ((zCQ s n).length : Int); omega), cond_true]
  show Option.bind (idx (zCQ s n) (i : Int)) _ = _
  rw [zIl s n i (by omega), Option.bind_some, n_lot hs (by omega), Option.bind_some, zFl rfl, cond_false]
  show Option.bind (idxA 32 (padA (0 : UInt8) (lotN s i) 0 32) 8) _ = _
  have key : ∀ z : List zB, z.length ≤ 2 * i + 1 → z ++ [zHX (zDE s i)] = evsN s (i + 1) → zA2 (yS (zCQ s n, 0) s fuel) (zDE s i) (i : Int) z = some (evsN s n, 0) := fun z hz e => by
   unfold zA2
   rw [yV (by simp only [List.length_cons, List.length_nil]; omega), Option.bind_some, show z ++ [zB.mk 1 (zDE s i) 0 (zQ.mk 0 [] 0 []) [] [] []] = evsN s (i + 1) from e, zAc (by omega)]
   exact zF7 hs hn k (i + 1) (by omega) fuel (by omega)
  rw [show idxA 32 (padA (0 : UInt8) (lotN s i) 0 32) 8 = _ from g32 hl 8 (by omega), Option.bind_some]
  by_cases h8 : (lotN s i).getD 8 0 < 64
  ·
   have h8' : ((lotN s i).getD 8 0).toNat < 64 := h8
   have b9 := ((lotN s i).getD 9 0).toNat_lt
   have b10 := ((lotN s i).getD 10 0).toNat_lt
   rw [yX (by omega), cond_true, show idxA 32 (padA (0 : UInt8) (lotN s i) 0 32) 9 = _ from g32 hl 9 (by omega), Option.bind_some, show idxA 32 (padA (0 : UInt8) (lotN s i) 0 32) 10 = _ from g32 hl 10 (by omega), Option.bind_some, show cutI (padA (0 : UInt8) (lotN s i) 0 32) 11 16 = _ from cutA hl 11 5 (by omega), Option.bind_some, yV (by rw [List.length_take]; simp only [List.length_nil]; omega), Option.bind_some, show idxA 32 (padA (0 : UInt8) (lotN s i) 0 32) 24 = _ from g32 hl 24 (by omega), Option.bind_some, show cutI (padA (0 : UInt8) (lotN s i) 0 32) 25 27 = _ from cutA hl 25 2 (by omega), Option.bind_some, yV (by rw [List.length_take]; simp only [List.length_nil]; omega), Option.bind_some, ← Int.natCast_add, zBJ (by omega), yV (by simp only [List.length_cons, List.length_nil]; omega), Option.bind_some]
   refine key _ (by rw [List.length_append]; simp only [List.length_cons, List.length_nil]; omega) ?_
   rw [zGy, List.append_assoc]
   unfold evN
   rw [if_pos h8]
   rfl
  ·
   have h8' : ¬ ((lotN s i).getD 8 0).toNat < 64 := h8
   rw [yB (by omega), cond_false]
   refine key _ (by omega) ?_
   rw [zGy]
   unfold evN
   rw [if_neg h8]
   rfl
theorem n_events {s : List UInt8} (hs : s.length = 32) {n : Nat} (hn : n ≤ 1024) : zCp s (n : Int) = some (evsN s n, 0) := by
 unfold zCp
 rw [n_calls hs hn, Option.bind_some, zFl rfl, cond_false]
 exact zF7 hs hn n 0 (by omega) _ (by show n < (zCQ s n).length + 1; rw [zDT]; omega)
end Go.Proofs.YtmgafkpkpmjieaaDoor

/-
 The plain law of the lots: calls by lot may be.
-/
namespace Go.Proofs.YtmgafkpkpmjieaaDoor
open Go Go.RowKit
set_option linter.unusedVariables false
set_option linter.unusedSimpArgs false
set_option maxRecDepth 20000
set_option maxHeartbeats 1000000
def digB (z : Int) : UInt8 := U8 (48 + ((U8 z).toNat : Int))
theorem zIH {n : Nat} (h : n < 10) : (digB (n : Int)).toNat = 48 + n := by
 rcases (show n = 0 ∨ n = 1 ∨ n = 2 ∨ n = 3 ∨ n = 4 ∨ n = 5 ∨ n = 6 ∨ n = 7 ∨ n = 8 ∨ n = 9 by omega) with rfl | rfl | rfl | rfl | rfl | rfl | rfl | rfl | rfl | rfl <;> rfl
theorem zGV (x k : Nat) (h0 : 0 < k) (h : k ≤ 10) : (digB (Int.tmod (x : Int) (k : Int))).toNat = 48 + x % k := by
 have := Nat.mod_lt x h0
 exact zIH (n := x % k) (by omega)
theorem n_rname {a b : UInt8} (h1 : 97 ≤ a.toNat) (h2 : a.toNat ≤ 122) (h3 : 48 ≤ b.toNat) (h4 : b.toNat ≤ 57) : zAe [a, b] = some true := by
 have i0 : idx [a, b] 0 = some a := rfl
 have i1 : idx [a, b] 1 = some b := rfl
 have w0 : wi (0 + 1) = 1 := rfl
 have w1 : wi (1 + 1) = 2 := rfl
 unfold zAe
 rw [yB (by simp only [List.length_cons, List.length_nil]; omega), cond_false, yB (by simp only [List.length_cons, List.length_nil]; omega), cond_false]
 show yE [a, b] 3 0 = _
 unfold yE
 rw [yX (by simp only [List.length_cons, List.length_nil]; omega), cond_true, i0, Option.bind_some, yX (by omega), cond_true, Option.bind_some, yX (by omega)]
 unfold zBq
 rw [i0, Option.bind_some]
 have e : ∀ y, zBF (yE [a, b] 2) true 0 y = yE [a, b] 2 1 := fun y => by
  unfold zBF zBx
  rw [Bool.not_true, cond_false, w0]
 have e2 : yE [a, b] 2 1 = some true := by
  unfold yE
  rw [yX (by simp only [List.length_cons, List.length_nil]; omega), cond_true, i1, Option.bind_some, yB (by omega), cond_false]
  unfold zBq
  rw [i1, Option.bind_some, yX (by omega), cond_true, Option.bind_some, yX (by omega)]
  unfold zBF zBx
  rw [Bool.not_false, cond_true, Bool.not_true, cond_false, w1]
  unfold yE
  rw [yB (by simp only [List.length_cons, List.length_nil]; omega), cond_false]
 by_cases hd : (a.toNat : Int) ≥ 48
 · rw [yX hd, cond_true, Option.bind_some, e, e2]
 · rw [yB hd, cond_false, e, e2]
theorem n_tname {a b : UInt8} (h1 : 97 ≤ a.toNat) (h2 : a.toNat ≤ 122) (h3 : 48 ≤ b.toNat) (h4 : b.toNat ≤ 57) : zB5 [a, b] = some true := by
 have i0 : idx [a, b] 0 = some a := rfl
 have i1 : idx [a, b] 1 = some b := rfl
 have w0 : wi (0 + 1) = 1 := rfl
 have w1 : wi (1 + 1) = 2 := rfl
 unfold zB5
 show zAE [a, b] 3 0 = _
 unfold zAE
 rw [yX (by simp only [List.length_cons, List.length_nil]; omega), cond_true, i0, Option.bind_some, yB (by omega), cond_false, yB (by omega), cond_false, w0]
 unfold zAE
 rw [yX (by simp only [List.length_cons, List.length_nil]; omega), cond_true, i1, Option.bind_some, yX (by omega), cond_true, yB (by omega), cond_false, yB (by omega), cond_false, w1]
 unfold zAE
 rw [yB (by simp only [List.length_cons, List.length_nil]; omega), cond_false]
 rfl
def Nm (x : List UInt8) : Prop := ∃ a b : UInt8, x = [a, b] ∧ 97 ≤ a.toNat ∧ a.toNat ≤ 122 ∧ 48 ≤ b.toNat ∧ b.toNat ≤ 57
theorem Nm.r {x : List UInt8} (h : Nm x) : zAe x = some true := by
 obtain ⟨a, b, rfl, h1, h2, h3, h4⟩ := h
 exact n_rname h1 h2 h3 h4
theorem Nm.t {x : List UInt8} (h : Nm x) : zB5 x = some true := by
 obtain ⟨a, b, rfl, h1, h2, h3, h4⟩ := h
 exact n_tname h1 h2 h3 h4
theorem Nm.ne {x : List UInt8} (h : Nm x) : (x == []) = false := by
 obtain ⟨a, b, rfl, _⟩ := h
 rfl
theorem zF1 (c : UInt8) (hc : 97 ≤ c.toNat ∧ c.toNat ≤ 122) (x k : Nat) (h0 : 0 < k) (h : k ≤ 10) : Nm [c, digB (Int.tmod (x : Int) (k : Int))] := by
 have e := zGV x k h0 h
 have := Nat.mod_lt x h0
 exact ⟨c, _, rfl, hc.1, hc.2, by omega, by omega⟩
def MayC (c : zC) : Prop := yT c = some true ∧ yI c = some true
theorem wi0 : wi 0 = 0 := rfl
theorem wi1 : wi 1 = 1 := rfl
theorem wi2 : wi 2 = 2 := rfl
theorem wi4 : wi 4 = 4 := rfl
theorem wi8 : wi 8 = 8 := rfl
theorem wi16 : wi 16 = 16 := rfl
theorem wi32 : wi 32 = 32 := rfl
theorem wi64 : wi 64 = 64 := rfl
section
variable {u f n o : List UInt8} {r v : Int} {d : List UInt8}
theorem may1 (hu : Nm u) : MayC (zC.mk 1 u [] [] [] 0 0 []) := by
 have hx : idx zO 1 = some 0 := rfl
 have u1 := hu.r
 have u2 := hu.t
 have u3 : ([] == u) = false := by obtain ⟨a, b, rfl, _⟩ := hu; rfl
 constructor
 · simp [yT, qI, qD, zT, qC, qE, qM, qN, qQ, qO, qA, zZ, *]
 · simp [yI, qB, zW, zR, qK, zV, IntKind.bits, wi0, wi1, wi2, wi4, wi8, wi16, wi32, wi64, *]
theorem may2a (hu : Nm u) (hf : Nm f) : MayC (zC.mk 2 u f [] [] 0 0 []) := by
 have hx : idx zO 2 = some 9 := rfl
 have u1 := hu.r
 have u2 := hu.t
 have f1 := hf.r
 have f2 := hf.t
 have f3 := hf.ne
 have u3 : ([] == u) = false := by obtain ⟨a, b, rfl, _⟩ := hu; rfl
 have f4 : ([] == f) = false := by obtain ⟨a, b, rfl, _⟩ := hf; rfl
 constructor
 · simp [yT, qI, qD, zT, qC, qE, qM, qN, qQ, qO, qA, zZ, *]
 · simp [yI, qB, zW, zR, qK, zV, IntKind.bits, wi0, wi1, wi2, wi4, wi8, wi16, wi32, wi64, *]
theorem may2b (hu : Nm u) (hf : Nm f) (ho : Nm o) (hne : (o == f) = false) : MayC (zC.mk 2 u f [] o 0 0 []) := by
 have hx : idx zO 2 = some 9 := rfl
 have u1 := hu.r
 have u2 := hu.t
 have f1 := hf.r
 have f2 := hf.t
 have f3 := hf.ne
 have o1 := ho.r
 have o2 := ho.t
 have o3 := ho.ne
 have u3 : ([] == u) = false := by obtain ⟨a, b, rfl, _⟩ := hu; rfl
 constructor
 · simp [yT, qI, qD, zT, qC, qE, qM, qN, qQ, qO, qA, zZ, *]
 · simp [yI, qB, zW, zR, qK, zV, IntKind.bits, wi0, wi1, wi2, wi4, wi8, wi16, wi32, wi64, *]
theorem may3a (hu : Nm u) (hf : Nm f) : MayC (zC.mk 3 u f [] [] 0 0 []) := by
 have hx : idx zO 3 = some 9 := rfl
 have u1 := hu.r
 have u2 := hu.t
 have f1 := hf.r
 have f2 := hf.t
 have f3 := hf.ne
 have u3 : ([] == u) = false := by obtain ⟨a, b, rfl, _⟩ := hu; rfl
 constructor
 · simp [yT, qI, qD, zT, qC, qE, qM, qN, qQ, qO, qA, zZ, *]
 · simp [yI, qB, zW, zR, qK, zV, IntKind.bits, wi0, wi1, wi2, wi4, wi8, wi16, wi32, wi64, *]
theorem may3b (hu : Nm u) (hf : Nm f) (ho : Nm o) : MayC (zC.mk 3 u f [] o 0 0 []) := by
 have hx : idx zO 3 = some 9 := rfl
 have u1 := hu.r
 have u2 := hu.t
 have f1 := hf.r
 have f2 := hf.t
 have f3 := hf.ne
 have o1 := ho.r
 have o2 := ho.t
 have o3 := ho.ne
 have u3 : ([] == u) = false := by obtain ⟨a, b, rfl, _⟩ := hu; rfl
 constructor
 · simp [yT, qI, qD, zT, qC, qE, qM, qN, qQ, qO, qA, zZ, *]
 · simp [yI, qB, zW, zR, qK, zV, IntKind.bits, wi0, wi1, wi2, wi4, wi8, wi16, wi32, wi64, *]
theorem may4 (hu : Nm u) (hf : Nm f) : MayC (zC.mk 4 u f [] [] 0 0 []) := by
 have hx : idx zO 4 = some 1 := rfl
 have u1 := hu.r
 have u2 := hu.t
 have f1 := hf.r
 have f2 := hf.t
 have f3 := hf.ne
 have u3 : ([] == u) = false := by obtain ⟨a, b, rfl, _⟩ := hu; rfl
 constructor
 · simp [yT, qI, qD, zT, qC, qE, qM, qN, qQ, qO, qA, zZ, *]
 · simp [yI, qB, zW, zR, qK, zV, IntKind.bits, wi0, wi1, wi2, wi4, wi8, wi16, wi32, wi64, *]
theorem may5 (hu : Nm u) (hf : Nm f) (ho : Nm o) (r1 : 1 ≤ r) (r4 : r ≤ 4) : MayC (zC.mk 5 u f [] o r 0 []) := by
 have hx : idx zO 5 = some 21 := rfl
 have u1 := hu.r
 have u2 := hu.t
 have f1 := hf.r
 have f2 := hf.t
 have f3 := hf.ne
 have o1 := ho.r
 have o2 := ho.t
 have o3 := ho.ne
 have r2 : ¬ r < 1 := by omega
 have r3 : ¬ r > 4 := by omega
 constructor
 · simp [yT, qI, qD, zT, qC, qE, qM, qN, qQ, qO, qA, zZ, *]
 · simp [yI, qB, zW, zR, qK, zV, IntKind.bits, wi0, wi1, wi2, wi4, wi8, wi16, wi32, wi64, *]
theorem may6 (hu : Nm u) (hf : Nm f) (ho : Nm o) (r1 : 1 ≤ r) (r4 : r ≤ 4) : MayC (zC.mk 6 u f [] o r 0 []) := by
 have hx : idx zO 6 = some 21 := rfl
 have u1 := hu.r
 have u2 := hu.t
 have f1 := hf.r
 have f2 := hf.t
 have f3 := hf.ne
 have o1 := ho.r
 have o2 := ho.t
 have o3 := ho.ne
 have r2 : ¬ r < 1 := by omega
 have r3 : ¬ r > 4 := by omega
 constructor
 · simp [yT, qI, qD, zT, qC, qE, qM, qN, qQ, qO, qA, zZ, *]
 · simp [yI, qB, zW, zR, qK, zV, IntKind.bits, wi0, wi1, wi2, wi4, wi8, wi16, wi32, wi64, *]
theorem may7 (hu : Nm u) (hf : Nm f) (ho : Nm o) : MayC (zC.mk 7 u f [] o 0 0 []) := by
 have hx : idx zO 7 = some 5 := rfl
 have u1 := hu.r
 have u2 := hu.t
 have f1 := hf.r
 have f2 := hf.t
 have f3 := hf.ne
 have o1 := ho.r
 have o2 := ho.t
 have o3 := ho.ne
 constructor
 · simp [yT, qI, qD, zT, qC, qE, qM, qN, qQ, qO, qA, zZ, *]
 · simp [yI, qB, zW, zR, qK, zV, IntKind.bits, wi0, wi1, wi2, wi4, wi8, wi16, wi32, wi64, *]
theorem may8 (hu : Nm u) (hf : Nm f) (hn : Nm n) (hd : d.length ≤ 512) : MayC (zC.mk 8 u f n [] 0 0 d) := by
 have hx : idx zO 8 = some 67 := rfl
 have u1 := hu.r
 have u2 := hu.t
 have f1 := hf.r
 have f2 := hf.t
 have f3 := hf.ne
 have n1 := hn.r
 have n2 := hn.t
 have n3 := hn.ne
 have u3 : ([] == u) = false := by obtain ⟨a, b, rfl, _⟩ := hu; rfl
 have d1 : (d.length : Int) ≤ 512 := by omega
 constructor
 · simp [yT, qI, qD, zT, qC, qE, qM, qN, qQ, qO, qA, zZ, *]
 · simp [yI, qB, zW, zR, qK, zV, IntKind.bits, wi0, wi1, wi2, wi4, wi8, wi16, wi32, wi64, *]
theorem may9 (hu : Nm u) (hf : Nm f) (hn : Nm n) (v1 : 0 ≤ v) (v4 : v ≤ 1099511627776) : MayC (zC.mk 9 u f n [] 0 v []) := by
 have hx : idx zO 9 = some 35 := rfl
 have u1 := hu.r
 have u2 := hu.t
 have f1 := hf.r
 have f2 := hf.t
 have f3 := hf.ne
 have n1 := hn.r
 have n2 := hn.t
 have n3 := hn.ne
 have u3 : ([] == u) = false := by obtain ⟨a, b, rfl, _⟩ := hu; rfl
 have v2 : ¬ v < 0 := by omega
 have v3 : ¬ v > 1099511627776 := by omega
 constructor
 · simp [yT, qI, qD, zT, qC, qE, qM, qN, qQ, qO, qA, zZ, *]
 · simp [yI, qB, zW, zR, qK, zV, IntKind.bits, wi0, wi1, wi2, wi4, wi8, wi16, wi32, wi64, *]
theorem may10 (hu : Nm u) (hf : Nm f) : MayC (zC.mk 10 u f [] [] 0 0 []) := by
 have hx : idx zO 10 = some 1 := rfl
 have u1 := hu.r
 have u2 := hu.t
 have f1 := hf.r
 have f2 := hf.t
 have f3 := hf.ne
 have u3 : ([] == u) = false := by obtain ⟨a, b, rfl, _⟩ := hu; rfl
 constructor
 · simp [yT, qI, qD, zT, qC, qE, qM, qN, qQ, qO, qA, zZ, *]
 · simp [yI, qB, zW, zR, qK, zV, IntKind.bits, wi0, wi1, wi2, wi4, wi8, wi16, wi32, wi64, *]
theorem may13 (hu : Nm u) (hf : Nm f) : MayC (zC.mk 13 u f [] [] 0 0 []) := by
 have hx : idx zO 13 = some 1 := rfl
 have u1 := hu.r
 have u2 := hu.t
 have f1 := hf.r
 have f2 := hf.t
 have f3 := hf.ne
 have u3 : ([] == u) = false := by obtain ⟨a, b, rfl, _⟩ := hu; rfl
 constructor
 · simp [yT, qI, qD, zT, qC, qE, qM, qN, qQ, qO, qA, zZ, *]
 · simp [yI, qB, zW, zR, qK, zV, IntKind.bits, wi0, wi1, wi2, wi4, wi8, wi16, wi32, wi64, *]
theorem may11 (hu : Nm u) (hf : Nm f) (hn : Nm n) : MayC (zC.mk 11 u f n [] 0 0 []) := by
 have hx : idx zO 11 = some 3 := rfl
 have u1 := hu.r
 have u2 := hu.t
 have f1 := hf.r
 have f2 := hf.t
 have f3 := hf.ne
 have n1 := hn.r
 have n2 := hn.t
 have n3 := hn.ne
 have u3 : ([] == u) = false := by obtain ⟨a, b, rfl, _⟩ := hu; rfl
 constructor
 · simp [yT, qI, qD, zT, qC, qE, qM, qN, qQ, qO, qA, zZ, *]
 · simp [yI, qB, zW, zR, qK, zV, IntKind.bits, wi0, wi1, wi2, wi4, wi8, wi16, wi32, wi64, *]
theorem may12 (hu : Nm u) (hf : Nm f) (hn : Nm n) : MayC (zC.mk 12 u f n [] 0 0 []) := by
 have hx : idx zO 12 = some 3 := rfl
 have u1 := hu.r
 have u2 := hu.t
 have f1 := hf.r
 have f2 := hf.t
 have f3 := hf.ne
 have n1 := hn.r
 have n2 := hn.t
 have n3 := hn.ne
 have u3 : ([] == u) = false := by obtain ⟨a, b, rfl, _⟩ := hu; rfl
 constructor
 · simp [yT, qI, qD, zT, qC, qE, qM, qN, qQ, qO, qA, zZ, *]
 · simp [yI, qB, zW, zR, qK, zV, IntKind.bits, wi0, wi1, wi2, wi4, wi8, wi16, wi32, wi64, *]
theorem may14 (hu : Nm u) (ho : Nm o) (hne : (o == u) = false) : MayC (zC.mk 14 u [] [] o 0 0 []) := by
 have hx : idx zO 14 = some 4 := rfl
 have u1 := hu.r
 have u2 := hu.t
 have o1 := ho.r
 have o2 := ho.t
 have o3 := ho.ne
 have u3 : ([] == u) = false := by obtain ⟨a, b, rfl, _⟩ := hu; rfl
 constructor
 · simp [yT, qI, qD, zT, qC, qE, qM, qN, qQ, qO, qA, zZ, *]
 · simp [yI, qB, zW, zR, qK, zV, IntKind.bits, wi0, wi1, wi2, wi4, wi8, wi16, wi32, wi64, *]
end
end Go.Proofs.YtmgafkpkpmjieaaDoor

/-
 The plain law of the lots: the document's events; LotMay.
-/
namespace Go.Proofs.YtmgafkpkpmjieaaDoor
open Go Go.RowKit
set_option linter.unusedVariables false
set_option linter.unusedSimpArgs false
set_option maxRecDepth 20000
set_option maxHeartbeats 1000000
theorem n_mayCh {l : List UInt8} (hl : l.length = 32) {c : zC} (h : zAk l = some c) : MayC c := by
 have c0 : zJ 0 17 l = _ := n_c1 hl 0 (by omega) 17 (by decide)
 have c1 : zJ 1 4 l = _ := n_c1 hl 1 (by omega) 4 (by decide)
 have c2 : zJ 2 5 l = _ := n_c1 hl 2 (by omega) 5 (by decide)
 have c3 : zJ 3 2 l = _ := n_c1 hl 3 (by omega) 2 (by decide)
 have c4 : zJ 4 4 l = _ := n_c1 hl 4 (by omega) 4 (by decide)
 have c5 : zJ 5 3 l = _ := n_c1 hl 5 (by omega) 3 (by decide)
 have c6 : zJ 6 9 l = _ := n_c1 hl 6 (by omega) 9 (by decide)
 have c73 : zJ 7 3 l = _ := n_c1 hl 7 (by omega) 3 (by decide)
 have c74 : zJ 7 4 l = _ := n_c1 hl 7 (by omega) 4 (by decide)
 have c76 : zJ 7 6 l = _ := n_c1 hl 7 (by omega) 6 (by decide)
 have hcut : cutI (padA (0 : UInt8) l 0 32) 16 (wi (16 + (Int.tmod ((l.getD 6 0).toNat : Int) 9))) = some ((l.drop 16).take ((l.getD 6 0).toNat % 9)) := n_cut hl ((l.getD 6 0).toNat % 9) (by omega)
 have hlen : ((l.drop 16).take ((l.getD 6 0).toNat % 9)).length ≤ 512 := by rw [List.length_take]; omega
 have happ : appI 1 [] ((l.drop 16).take ((l.getD 6 0).toNat % 9)) = some ((l.drop 16).take ((l.getD 6 0).toNat % 9)) := by
  rw [yV (by simp only [List.length_nil]; omega), List.nil_append]
 have u : Nm [117, digB (Int.tmod ((l.getD 1 0).toNat : Int) 4)] := zF1 117 (by decide) _ 4 (by decide) (by decide)
 have f : Nm [102, digB (Int.tmod ((l.getD 2 0).toNat : Int) 5)] := zF1 102 (by decide) _ 5 (by decide) (by decide)
 have x : Nm [120, digB (Int.tmod ((l.getD 3 0).toNat : Int) 2)] := zF1 120 (by decide) _ 2 (by decide) (by decide)
 have u7 : Nm [117, digB (Int.tmod ((l.getD 7 0).toNat : Int) 4)] := zF1 117 (by decide) _ 4 (by decide) (by decide)
 have f7 : Nm [102, digB (Int.tmod ((l.getD 7 0).toNat : Int) 6)] := zF1 102 (by decide) _ 6 (by decide) (by decide)
 have e14 : wi ((wi ((Int.tmod ((l.getD 1 0).toNat : Int) 4) + 1)) + (Int.tmod ((l.getD 7 0).toNat : Int) 3)) = (((l.getD 1 0).toNat % 4 + 1 + (l.getD 7 0).toNat % 3 : Nat) : Int) := by
  rw [show Int.tmod ((l.getD 1 0).toNat : Int) 4 = (((l.getD 1 0).toNat % 4 : Nat) : Int) from rfl, show Int.tmod ((l.getD 7 0).toNat : Int) 3 = (((l.getD 7 0).toNat % 3 : Nat) : Int) from rfl, zAc (by omega), ← Int.natCast_add, zBJ (by omega)]
 have ud : Nm [117, digB (Int.tmod (wi ((wi ((Int.tmod ((l.getD 1 0).toNat : Int) 4) + 1)) + (Int.tmod ((l.getD 7 0).toNat : Int) 3))) 4)] := by
  rw [e14]
  exact zF1 117 (by decide) _ 4 (by decide) (by decide)
 have und : ([117, digB (Int.tmod (wi ((wi ((Int.tmod ((l.getD 1 0).toNat : Int) 4) + 1)) + (Int.tmod ((l.getD 7 0).toNat : Int) 3))) 4)] == [117, digB (Int.tmod ((l.getD 1 0).toNat : Int) 4)]) = false := by
  rw [e14]
  have d1 := zGV ((l.getD 1 0).toNat % 4 + 1 + (l.getD 7 0).toNat % 3) 4 (by decide) (by decide)
  have d2 := zGV (l.getD 1 0).toNat 4 (by decide) (by decide)
  rw [beq_eq_false_iff_ne]
  intro e
  injection e with _ e
  injection e with e
  have e := congrArg UInt8.toNat e
  have e3 : ((4 : Nat) : Int) = (4 : Int) := rfl
  rw [e3] at d1 d2
  omega
 have w4 : wi (1 + (Int.tmod ((l.getD 4 0).toNat : Int) 4)) = ((1 + (l.getD 4 0).toNat % 4 : Nat) : Int) := by
  rw [show Int.tmod ((l.getD 4 0).toNat : Int) 4 = (((l.getD 4 0).toNat % 4 : Nat) : Int) from rfl, show (1 : Int) + (((l.getD 4 0).toNat % 4 : Nat) : Int) = ((1 + (l.getD 4 0).toNat % 4 : Nat) : Int) by omega, zBJ (by omega)]
 have r1 : 1 ≤ wi (1 + (Int.tmod ((l.getD 4 0).toNat : Int) 4)) := by rw [w4]; omega
 have r4 : wi (1 + (Int.tmod ((l.getD 4 0).toNat : Int) 4)) ≤ 4 := by rw [w4]; omega
 have v1 : 0 ≤ Int.tmod ((l.getD 5 0).toNat : Int) 3 := by rw [show Int.tmod ((l.getD 5 0).toNat : Int) 3 = (((l.getD 5 0).toNat % 3 : Nat) : Int) from rfl]; omega
 have v4 : Int.tmod ((l.getD 5 0).toNat : Int) 3 ≤ 1099511627776 := by rw [show Int.tmod ((l.getD 5 0).toNat : Int) 3 = (((l.getD 5 0).toNat % 3 : Nat) : Int) from rfl]; omega
 obtain ⟨K, k1, _, hK⟩ := zIK (l.getD 0 0)
 have hn : ∀ (c : UInt8) (z : Int), qV c z = some [c, digB z] := fun _ _ => rfl
 unfold zAk at h
 rw [c0, Option.bind_some, k1, Option.bind_some, c1, Option.bind_some, hn, Option.bind_some] at h
 clear k1 c0 w4 e14
 generalize l.getD 1 0 = b1 at *
 generalize l.getD 2 0 = b2 at *
 generalize l.getD 3 0 = b3 at *
 generalize l.getD 4 0 = b4 at *
 generalize l.getD 5 0 = b5 at *
 generalize l.getD 6 0 = b6 at *
 generalize l.getD 7 0 = b7 at *
 rcases hK with rfl | rfl | rfl | rfl | rfl | rfl | rfl | rfl | rfl | rfl | rfl | rfl | rfl
 all_goals simp [-List.length_take, zAz, zA5, zA3, zDn, hn, c1, c2, c3, c4, c5, c6, c73, c74, c76, hcut, happ] at h
 ·
  cases hd : decide (Int.tmod (b7.toNat : Int) 6 < 5) with
  | false =>
   rw [hd] at h
   simp only [cond_false, Option.bind_some, Option.some.injEq] at h
   rw [← h]
   exact may2a u f
  | true =>
   rw [hd] at h
   cases he : (digB (Int.tmod (b7.toNat : Int) 6) == digB (Int.tmod (b2.toNat : Int) 5)) with
   | true =>
    rw [he] at h
    simp only [cond_true, Option.bind_some, Option.some.injEq] at h
    rw [← h]
    exact may2a u f
   | false =>
    rw [he] at h
    simp only [cond_true, cond_false, Option.bind_some, Option.some.injEq] at h
    rw [← h]
    exact may2b u f f7 (by simpa using he)
 ·
  cases hd : decide (Int.tmod (b7.toNat : Int) 6 < 5) with
  | false =>
   rw [hd] at h
   simp only [cond_false, Option.bind_some, Option.some.injEq] at h
   rw [← h]
   exact may3a u f
  | true =>
   rw [hd] at h
   cases he : (digB (Int.tmod (b7.toNat : Int) 6) == digB (Int.tmod (b2.toNat : Int) 5)) with
   | true =>
    rw [he] at h
    simp only [cond_true, Option.bind_some, Option.some.injEq] at h
    rw [← h]
    exact may3a u f
   | false =>
    rw [he] at h
    simp only [cond_true, cond_false, Option.bind_some, Option.some.injEq] at h
    rw [← h]
    exact may3b u f f7
 · rw [← h]; exact may4 u f
 · rw [← h]; exact may5 u f u7 r1 r4
 · rw [← h]; exact may6 u f u7 r1 r4
 · rw [← h]; exact may7 u f u7
 · rw [← h]; exact may8 u f x hlen
 · rw [← h]; exact may9 u f x v1 v4
 · rw [← h]; exact may10 u f
 · rw [← h]; exact may11 u f x
 · rw [← h]; exact may12 u f x
 · rw [← h]; exact may13 u f
 · rw [← h]; exact may14 u ud und
theorem n_mayN {s : List UInt8} (hs : s.length = 32) {i : Nat} (hi : i ≤ 1024) : MayC (zDE s i) := by
 have hc := (zHD hs hi).1
 by_cases h4 : i < 4
 ·
  have hn : qV 117 (i : Int) = some [117, digB (i : Int)] := rfl
  unfold zAv at hc
  rw [n_lot hs hi, Option.bind_some, zFl rfl, cond_false, yX (by omega), cond_true, hn, Option.bind_some] at hc
  injection hc with hc
  injection hc with hc
  have e := zIH (n := i) (by omega)
  rw [← hc]
  exact may1 ⟨117, _, rfl, by decide, by decide, by omega, by omega⟩
 ·
  obtain ⟨c, h1, _, _⟩ := zIC (zEL s i) s (i : Int) (by omega) (n_rlot hs hi)
  unfold zAv at hc
  rw [n_lot hs hi, Option.bind_some, zFl rfl, cond_false, yB (by omega), cond_false] at hc
  have hc : Option.bind (zAk (lotN s i)) (fun x7 => some (x7, (0 : Int))) = some (zDE s i, 0) := hc
  rw [h1, Option.bind_some] at hc
  injection hc with hc
  injection hc with hc
  rw [← hc]
  exact n_mayCh (zEL s i) h1
theorem zCb {l : List UInt8} {i : Nat} (h : i < l.length) : l.drop i = l.getD i 0 :: l.drop (i + 1) := by
 rw [List.drop_eq_getElem_cons h, List.getD_eq_getElem?_getD, List.getElem?_eq_getElem h]
 rfl
attribute [local irreducible] lotN zDE
theorem zFi {s : List UInt8} (hs : s.length = 32) {n : Nat} (hn : n ≤ 1024) : ∀ (k i : Nat), i + k = n → ∀ fuel, k < fuel → yU (n : Int) s fuel (evsN s i) (i : Int) = some (evsN s n)
 | 0, i, hi, fuel + 1, hf => by
  unfold yU
  rw [yB (by omega), cond_false, show i = n by omega]
 | k + 1, i, hi, fuel + 1, hf => by
  unfold yU
  have hl := zEL s i
  have hle := zFS s i
  have key : ∀ z : List zB, z.length ≤ 2 * i + 1 → z ++ [zHX (zDE s i)] = evsN s (i + 1) → zA1 (yU (n : Int) s fuel) s (i : Int) z = some (evsN s n) := fun z hz e => by
   unfold zA1
   rw [(zHD hs (i := i) (by omega)).2.1, Option.bind_some, yV (by simp only [List.length_cons, List.length_nil]; omega), Option.bind_some, show z ++ [zB.mk 1 (zDE s i) 0 (zQ.mk 0 [] 0 []) [] [] []] = evsN s (i + 1) from e, zAc (by omega)]
   exact zFi hs hn k (i + 1) (by omega) fuel (by omega)
  rw [yX (by omega), cond_true, n_rlot hs (by omega), Option.bind_some, show idxA 32 (padA (0 : UInt8) (lotN s i) 0 32) 8 = _ from g32 hl 8 (by omega), Option.bind_some]
  by_cases h8 : (lotN s i).getD 8 0 < 64
  ·
   have h8' : ((lotN s i).getD 8 0).toNat < 64 := h8
   have b9 := ((lotN s i).getD 9 0).toNat_lt
   have b10 := ((lotN s i).getD 10 0).toNat_lt
   rw [yX (by omega), cond_true, show idxA 32 (padA (0 : UInt8) (lotN s i) 0 32) 9 = _ from g32 hl 9 (by omega), Option.bind_some, show idxA 32 (padA (0 : UInt8) (lotN s i) 0 32) 10 = _ from g32 hl 10 (by omega), Option.bind_some, show idxA 32 (padA (0 : UInt8) (lotN s i) 0 32) 11 = _ from g32 hl 11 (by omega), Option.bind_some, show idxA 32 (padA (0 : UInt8) (lotN s i) 0 32) 12 = _ from g32 hl 12 (by omega), Option.bind_some, show idxA 32 (padA (0 : UInt8) (lotN s i) 0 32) 13 = _ from g32 hl 13 (by omega), Option.bind_some, show idxA 32 (padA (0 : UInt8) (lotN s i) 0 32) 14 = _ from g32 hl 14 (by omega), Option.bind_some, show idxA 32 (padA (0 : UInt8) (lotN s i) 0 32) 15 = _ from g32 hl 15 (by omega), Option.bind_some, show idxA 32 (padA (0 : UInt8) (lotN s i) 0 32) 24 = _ from g32 hl 24 (by omega), Option.bind_some, show idxA 32 (padA (0 : UInt8) (lotN s i) 0 32) 25 = _ from g32 hl 25 (by omega), Option.bind_some, show idxA 32 (padA (0 : UInt8) (lotN s i) 0 32) 26 = _ from g32 hl 26 (by omega), Option.bind_some, ← Int.natCast_add, zBJ (by omega), yV (by simp only [List.length_cons, List.length_nil]; omega), Option.bind_some]
   refine key _ (by rw [List.length_append]; simp only [List.length_cons, List.length_nil]; omega) ?_
   rw [zGy, List.append_assoc]
   unfold evN outE
   rw [if_pos h8, zCb (i := 11) (by omega), zCb (i := 11 + 1) (by omega), zCb (i := 11 + 1 + 1) (by omega), zCb (i := 11 + 1 + 1 + 1) (by omega), zCb (i := 11 + 1 + 1 + 1 + 1) (by omega), zCb (i := 25) (by omega), zCb (i := 25 + 1) (by omega)]
   rfl
  ·
   have h8' : ¬ ((lotN s i).getD 8 0).toNat < 64 := h8
   rw [yB (by omega), cond_false]
   refine key _ (by omega) ?_
   rw [zGy]
   unfold evN
   rw [if_neg h8]
   rfl
theorem n_revents {s : List UInt8} (hs : s.length = 32) {n : Nat} (hn : n ≤ 1024) : zCx s (n : Int) = some (evsN s n) := by
 unfold zCx
 exact zFi hs hn n 0 (by omega) _ (by omega)
def EvOk (x : zB) : Prop := zA6 x x = some true ∧ zBP x = some true ∧ zCF x = some true
theorem zF5 {c : zC} : zDX c c = some true := by
 unfold zDX zAU
 simp
theorem n_evcall {c : zC} (hd : c.Data.length ≤ 16) (hm : MayC c) : EvOk (zHX c) := by
 have h1 := n_same hd
 have h2 : zAY [] [] = some true := by rw [zDJ _ _ (by simp)]; rfl
 have h3 := hm.1
 have h4 := hm.2
 have h5 := zF5 (c := c)
 refine ⟨?_, ?_, ?_⟩
 · simp [zA6, zHX, h1, h2]
 · simp [zBP, zAj, zAX, zAf, zAb, zAB, zAA, zAd, zHX, h3]
 · simp [zCF, zA0, zCU, zBQ, zAx, zAn, zAU, zHX, h4, h5]
theorem n_evout {l : List UInt8} (hl : l.length = 32) : EvOk (outE l) := by
 have h0 : zBh (zC.mk 0 [] [] [] [] 0 0 []) (zC.mk 0 [] [] [] [] 0 0 []) = some true := n_same (c := zC.mk 0 [] [] [] [] 0 0 []) (by decide)
 have h2 : zAY [] [] = some true := by rw [zDJ _ _ (by simp)]; rfl
 have l1 : ((l.drop 11).take 5).length ≤ 16 := by rw [List.length_take]; omega
 have l2 : ((l.drop 25).take 2).length ≤ 16 := by rw [List.length_take]; omega
 have h3 : zAY ((l.drop 11).take 5) ((l.drop 11).take 5) = some true := by rw [zDJ _ _ (by omega), beq_self_eq_true]
 have h4 : zAY ((l.drop 25).take 2) ((l.drop 25).take 2) = some true := by rw [zDJ _ _ (by omega), beq_self_eq_true]
 have h5 := zF5 (c := zC.mk 0 [] [] [] [] 0 0 [])
 have b9 := (l.getD 9 0).toNat_lt
 have b10 := (l.getD 10 0).toNat_lt
 have b24 := (l.getD 24 0).toNat_lt
 unfold EvOk outE
 generalize (l.drop 11).take 5 = ch at *
 generalize (l.drop 25).take 2 = mo at *
 have f1 : ¬ (((l.getD 9 0).toNat + (l.getD 10 0).toNat : Nat) : Int) < -1 := by omega
 have f2 : ¬ (((l.getD 9 0).toNat + (l.getD 10 0).toNat : Nat) : Int) > 1073741824 := by omega
 have f3 : (((l.getD 9 0).toNat + (l.getD 10 0).toNat : Nat) : Int) ≥ -1 := by omega
 have f4 : (((l.getD 9 0).toNat + (l.getD 10 0).toNat : Nat) : Int) ≤ 1073741824 := by omega
 have g1 : ¬ ((l.getD 24 0).toNat : Int) < -1 := by omega
 have g2 : ¬ ((l.getD 24 0).toNat : Int) > 1073741824 := by omega
 have g3 : ((l.getD 24 0).toNat : Int) ≥ -1 := by omega
 have g4 : ((l.getD 24 0).toNat : Int) ≤ 1073741824 := by omega
 generalize (((l.getD 9 0).toNat + (l.getD 10 0).toNat : Nat) : Int) = fu at *
 generalize ((l.getD 24 0).toNat : Int) = ag at *
 have k1 : ¬ (ch.length : Int) > 4096 := by omega
 have k2 : ¬ (mo.length : Int) > 4096 := by omega
 have k3 : (ch.length : Int) ≤ 4096 := by omega
 have k4 : (mo.length : Int) ≤ 4096 := by omega
 refine ⟨?_, ?_, ?_⟩
 · simp [zA6, h0, h2, h3, h4]
 ·
  simp only [zBP, zAj, zAX, zAf, zAb, zAB, zAA, zAd, h0, yB f1, yB f2, yB g1, yB g2, yB k1, yB k2]
  rfl
 ·
  simp only [zCF, zCU, zCO, zAx, zAn, zAU]
  simp [zA0, zCh, h5, f3, f4, g3, g4, k3, k4]
theorem evs_ok {s : List UInt8} (hs : s.length = 32) {n : Nat} (hn : n ≤ 1024) : ∀ x ∈ evsN s n, EvOk x := by
 intro x hx
 unfold evsN at hx
 obtain ⟨i, hi, hx⟩ := List.mem_flatMap.1 hx
 have hi := List.mem_range.1 hi
 obtain ⟨_, _, h3⟩ := zHD hs (i := i) (by omega)
 unfold evN at hx
 rcases List.mem_append.1 hx with hx | hx
 ·
  split at hx
  ·
   rw [List.mem_singleton.1 hx]
   exact n_evout (zEL s i)
  · cases hx
 ·
  rw [List.mem_singleton.1 hx]
  exact n_evcall h3 (n_mayN hs (by omega))
theorem n_ctnE {l : List zB} (hl : l.length ≤ 4096) (h : ∀ x ∈ l, EvOk x) : ∀ (k i : Nat), i + k = l.length → ∀ fuel, k < fuel → qH l zAN fuel (i : Int) = some (-1)
 | 0, i, hi, fuel + 1, hf => by
  unfold qH
  rw [yB (by omega), cond_false]
 | k + 1, i, hi, fuel + 1, hf => by
  unfold qH
  have hlt : i < l.length := by omega
  have he : zAN l[i] = some false := by
   unfold zAN
   rw [(h _ (List.getElem_mem hlt)).2.2]
   rfl
  rw [yX (by omega), cond_true, zC6 hlt, Option.bind_some, he, Option.bind_some, cond_false, zAc (by omega)]
  exact n_ctnE hl h k (i + 1) (by omega) fuel (by omega)
theorem zHl {l : List zB} (hl : l.length ≤ 4096) (h : ∀ x ∈ l, EvOk x) : zCI (zBV.mk [] 0 0 l) = some true := by
 have h1 : yR l zAN = some false := by
  unfold yR zAh
  rw [show qH l zAN (l.length + 1) 0 = some (-1) from n_ctnE hl h l.length 0 (by omega) _ (by omega)]
  rfl
 have k : ¬ (l.length : Int) > 4096 := by omega
 simp only [zCI, zBy, h1, yB k]
 rfl
theorem n_lm2 {l : List zB} (hl : l.length ≤ 4096) (h : ∀ x ∈ l, EvOk x) : ∀ (k i : Nat), i + k = l.length → ∀ fuel, k < fuel → zAg (l, 0) l fuel (i : Int) = some true
 | 0, i, hi, fuel + 1, hf => by
  unfold zAg zCd
  rw [yB (by show ¬ (i : Int) < (l.length : Int); omega), cond_false]
  show Option.bind (zCI (zBV.mk [] 0 0 l)) _ = _
  rw [zHl hl h, Option.bind_some]
 | k + 1, i, hi, fuel + 1, hf => by
  unfold zAg
  have hlt : i < l.length := by omega
  obtain ⟨h1, h2, _⟩ := h _ (List.getElem_mem hlt)
  rw [yX (by show (i : Int) < (l.length : Int); omega), cond_true]
  show Option.bind (idx l (i : Int)) _ = _
  rw [zC6 hlt, Option.bind_some, Option.bind_some, h1, Option.bind_some, Bool.not_true, cond_false, h2, Option.bind_some, Bool.not_true, cond_false, zAc (by omega)]
  exact n_lm2 hl h k (i + 1) (by omega) fuel (by omega)
theorem n_LotMay {s : List UInt8} (hs : s.length = 32) (n : UInt8) : zCu s n = some true := by
 have hm := Nat.mod_lt n.toNat (show 0 < 40 by decide)
 have e : wi (Int.tmod (n.toNat : Int) 40) = ((n.toNat % 40 : Nat) : Int) := by
  rw [show Int.tmod (n.toNat : Int) 40 = ((n.toNat % 40 : Nat) : Int) from rfl, zBJ (by omega)]
 generalize n.toNat % 40 = m at *
 have hl := zFS s m
 unfold zCu
 rw [n_awake, Option.bind_some, Bool.not_true, cond_false, e, n_events hs (by omega), Option.bind_some, n_revents hs (by omega), Option.bind_some, zFl rfl, cond_false, zFl rfl, cond_false]
 exact n_lm2 (by omega) (evs_ok hs (by omega)) _ 0 (by rw [Nat.zero_add]) _ (by show _ < (evsN s m).length + 1; omega)
end Go.Proofs.YtmgafkpkpmjieaaDoor

/-
 LotMay's contract, told without a heap.
-/
namespace Go.Proofs.YtmgafkpkpmjieaaDoor
open Go Go.RowKit
theorem zGY (p0 : List UInt8) (p1 : UInt8) (r : Bool) (h : zCu p0 p1 = some r) : FC Tryd.prog 4 [.t (.agg (ar cU8 (0 : UInt8) p0 0 32)), .t (.d (.lit (.int .u8 (p1.toNat : Int))))] [] (.t (.d (.lit (.bool r)))) :=
 zHn (zFz p0 p1 Hp.e r h) hpA_e rfl (Nat.le_of_ble_eq_true rfl)
end Go.Proofs.YtmgafkpkpmjieaaDoor

/-
 What came in: from the reading of the arguments to data.
-/
namespace Go.Proofs.YtmgafkpkpmjieaaDoor
open Go Go.RowKit Go.ChangeShapes Go.WideShapes Go.ChangeAt
set_option linter.unusedVariables false
set_option maxRecDepth 20000
def memW (w : World) : Mem := fun b p => w.cell? ⟨b, p, none⟩
theorem memW_sat (w : World) : ∀ b p u, memW w b p = some u → w.cell? ⟨b, p, none⟩ = some u := fun _ _ _ h => h
def OpT {H : Type} (enc : TypeId × Value → H) (w : World) {α : Type} (t : TypeId) (c : α → List D) (ok : α → Prop) : Prop :=
 ∀ (base : Nat) (spare : Nat → Bool) (held : Bool) (fuel : Nat) (cs : List Value) (x : DataW H × List MemPlace), DataW.trod enc Tryd.prog w base spare held fuel t cs = some x → ∃ v : α, RepL (memW w) (c v) cs ∧ ok v
def OpF {H : Type} (enc : TypeId × Value → H) (w : World) {α : Type} (m : Nat) (t : TypeId) (c : α → List D) (ok : α → Prop) : Prop :=
 ∀ (base : Nat) (spare : Nat → Bool) (held : Bool) (fuel : Nat) (cs : List Value) (x : DataW H × List MemPlace), fuel < m → DataW.trod enc Tryd.prog w base spare held fuel t cs = some x → ∃ v : α, RepL (memW w) (c v) cs ∧ ok v
theorem OpT.lt {H : Type} {enc : TypeId × Value → H} {w : World} {α : Type} {t : TypeId} {c : α → List D} {ok : α → Prop} (h : OpT enc w t c ok) (m : Nat) : OpF enc w m t c ok := fun b s l f cs x _ k => h b s l f cs x k
theorem OpT.of {H : Type} {enc : TypeId × Value → H} {w : World} {α : Type} {t : TypeId} {c : α → List D} {ok : α → Prop} (h : ∀ m, OpF enc w m t c ok) : OpT enc w t c ok := fun b s l f cs x k => h (f + 1) b s l f cs x (Nat.lt_succ_self f) k
def okAny {α : Type} (_ : α) : Prop := True
theorem repl_one {m : Mem} {d : D} {u : Value} (h : RepD m d u) : RepL m [d] [u] := by
 refine ⟨rfl, fun j e hj => ?_⟩
 match j, hj with
 | 0, hj => injection hj with hj; subst hj; exact ⟨u, rfl, h⟩
 | j + 1, hj => simp at hj
theorem repl_cons {m : Mem} {l1 l2 : List D} {cs : List Value} {o k : Nat} (h1 : RepL m l1 ((cs.drop o).take k)) (h2 : RepL m l2 (cs.drop (o + k))) : RepL m (l1 ++ l2) (cs.drop o) := by
 have e : cs.drop o = (cs.drop o).take k ++ cs.drop (o + k) := by rw [← List.drop_drop, List.take_append_drop]
 rw [e]
 refine ⟨by rw [List.length_append, List.length_append, h1.1, h2.1], fun j d hj => ?_⟩
 rcases Nat.lt_or_ge j l1.length with hl | hl
 ·
  rw [List.getElem?_append_left hl] at hj
  obtain ⟨u, a, b⟩ := h1.2 j d hj
  exact ⟨u, by rw [List.getElem?_append_left (by rw [h1.1]; exact hl)]; exact a, b⟩
 ·
  rw [List.getElem?_append_right hl] at hj
  obtain ⟨u, a, b⟩ := h2.2 _ d hj
  exact ⟨u, by rw [List.getElem?_append_right (by rw [h1.1]; exact hl), h1.1]; exact a, b⟩
theorem repl_nil {m : Mem} {cs : List Value} {n : Nat} (h : cs.length = n) : RepL m [] (cs.drop n) := by
 rw [List.drop_of_length_le (by omega)]
 exact ⟨rfl, fun j d hj => by simp at hj⟩
section
variable {H : Type} {enc : TypeId × Value → H} {w : World}
theorem op_u8 {t : TypeId} (ht : Tryd.prog.underlying t = some (.int .u8)) : OpT enc w t cU8 okAny := fun b s l f cs x h => by
 obtain ⟨n, rfl, _, hw⟩ := DataW.trod_int ht h
 refine ⟨UInt8.ofNat n.toNat, repl_one ?_, trivial⟩
 have hr : 0 ≤ n ∧ n ≤ 255 := by
  simp [Lit.wf, IntKind.min, IntKind.max, IntKind.signed, IntKind.bits] at hw
  omega
 have : ((UInt8.ofNat n.toNat).toNat : Int) = n := by
  simp
  omega
 rw [this]
 exact .lit _ rfl
theorem zGu {α : Type} (P : Nat → α → Prop) : ∀ n : Nat, (∀ i, i < n → ∃ x, P i x) → ∃ l : List α, l.length = n ∧ ∀ i (h : i < l.length), P i l[i]
 | 0, _ => ⟨[], rfl, fun i h => absurd h (by simp)⟩
 | n + 1, h => by
  obtain ⟨l, hl, hp⟩ := zGu P n fun i hi => h i (by omega)
  obtain ⟨x, hx⟩ := h n (by omega)
  refine ⟨l ++ [x], by simp [hl], fun i hi => ?_⟩
  by_cases h1 : i < l.length
  · rw [List.getElem_append_left h1]; exact hp i h1
  ·
   have : i = n := by simp at hi; omega
   subst this
   rw [List.getElem_append_right (by omega)]
   simpa [hl] using hx
end
theorem fc_law {f : FuncId} {args : List A} (h : FC Tryd.prog f args [] (.t (.d (.lit (.bool true))))) {w : World} {vals : Array Value} (hs : vals.size = args.length) (hsat : ∀ b p u, memW w b p = some u → w.cell? ⟨b, p, none⟩ = some u) (hr : ∀ s, RepA (memW w) w (fun _ => none) (argS args) s (argS args s) (vals.getD s undef)) (htbl : Mle TBL (memW w) := by intro b p u h; simp [TBL, TBLS] at h) :
    Calls Tryd.prog f vals w fun e w' => e = .returned (.bool true) ∧ Below w.heap.size w w' := by
  refine (h w (memW w) (fun _ => none) vals hsat htbl (fun _ _ h => by cases h) (fun _ _ _ h => by cases h) hs hr).mono ?_
  rintro e w' ⟨u, m', o', S', a', ρ, rfl, J, hu, _⟩
  have hS : Same (fun _ => False) w w' := J.same.weaken fun g h => h rfl
  have hu : RepD m' (.lit (.bool true)) u := hu
  cases hu
  exact ⟨rfl, hS.below⟩
theorem u8_of {n : Int} (hw : (Lit.int .u8 n).wf = true) : ∃ x : UInt8, n = (x.toNat : Int) := by
 have hr : 0 ≤ n ∧ n ≤ 255 := by
  simp [Lit.wf, IntKind.min, IntKind.max, IntKind.signed, IntKind.bits] at hw
  omega
 refine ⟨UInt8.ofNat n.toNat, ?_⟩
 simp
 omega
end Go.Proofs.YtmgafkpkpmjieaaDoor

/-
 What came in: arrays of elements of one cell each.
-/
namespace Go.Proofs.YtmgafkpkpmjieaaDoor
open Go Go.RowKit Go.ChangeShapes Go.WideShapes Go.ChangeAt
set_option linter.unusedVariables false
set_option maxRecDepth 20000
def okArr {α : Type} (n : Nat) (ok : α → Prop) (l : List α) : Prop := l.length = n ∧ ∀ x ∈ l, ok x
theorem repl_ar {m : Mem} {α : Type} {c : α → List D} {z : α} {l : List α} {cs : List Value} (hl : l.length = cs.length) (h : ∀ i (hi : i < l.length), RepL m (c l[i]) ((cs.drop i).take 1)) : ∀ (k i : Nat), i + k = l.length → RepL m (ar c z l i k) (cs.drop i)
 | 0, i, hi => by
  rw [show i = cs.length by omega]
  exact repl_nil rfl
 | k + 1, i, hi => by
  have hlt : i < l.length := by omega
  have e : l.getD i z = l[i] := by rw [List.getD_eq_getElem?_getD, List.getElem?_eq_getElem hlt]; rfl
  have h2 := repl_ar (z := z) hl h k (i + 1) (by omega)
  have h1 := h i hlt
  rw [← e] at h1
  exact repl_cons (k := 1) h1 h2
theorem op_arr {H : Type} {enc : TypeId × Value → H} {w : World} {α : Type} {n : Nat} {t te : TypeId} {c : α → List D} {z : α} {ok : α → Prop} (ht : Tryd.prog.underlying t = some (.array n te)) (hk : Tryd.prog.cellsOf te = 1) (hc : Tryd.prog.cellsOf t = n) (he : OpT enc w te c ok) : OpT enc w t (fun l : List α => ar c z l 0 n) (okArr n ok) := by
 intro base spare held fuel cs x h
 obtain ⟨xs, m, rfl, _, hl, hxl, hfd⟩ := DataW.trod_array ht h
 obtain ⟨l, hll, hlp⟩ := zGu (fun i v => RepL (memW w) (c v) ((cs.drop i).take 1) ∧ ok v) n (fun i hi => by
  obtain ⟨y, hy⟩ : ∃ y, xs[i]? = some y := ⟨xs[i], List.getElem?_eq_getElem (by omega)⟩
  have f := (hfd i hi).trans hy
  rw [hk, Nat.mul_one] at f
  exact he _ _ _ _ _ _ f)
 have hcl : l.length = cs.length := by rw [hll, hl, hc]
 have := repl_ar (z := z) hcl (fun i hi => (hlp i hi).1) n 0 (by omega)
 exact ⟨l, this, hll, fun x hx => by
  obtain ⟨i, hi, rfl⟩ := List.getElem_of_mem hx
  exact (hlp i hi).2⟩
theorem zId {P : Program} {w : World} {r : Reach} {base : Nat} {t e : TypeId} {n : Nat} {v : Value} (ht : P.underlying t = some (.array n e)) (h : Value.okWide P w r base t v) : ∃ cs, v = .agg cs := by
 simp only [Value.okWide, ht] at h
 obtain ⟨cs, h1, _⟩ := h
 exact ⟨cs, h1⟩
end Go.Proofs.YtmgafkpkpmjieaaDoor
