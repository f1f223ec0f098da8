/-
  Texts joined: see the remark at the head of each part.
-/
import Derived.Test.YtmgafkpkpmjieaaDoorK15
set_option linter.unusedVariables false
set_option linter.unusedSimpArgs false
/-
 The plain law of the sums: a piece, pieces in a row, a number's bytes, what is padded: the program's side.
-/
namespace Go.Proofs.YtmgafkpkpmjieaaDoor
open Go Go.RowKit
set_option linter.unusedVariables false
set_option linter.unusedSimpArgs false
def upS (s t : St8) : St8 := ⟨ad s.a t.a, ad s.b t.b, ad s.c t.c, ad s.d t.d, ad s.e t.e, ad s.f t.f, ad s.g t.g, ad s.h t.h⟩
theorem upS_ok (s t : St8) : (upS s t).Ok := ⟨zEH _ _, zEH _ _, zEH _ _, zEH _ _, zEH _ _, zEH _ _, zEH _ _, zEH _ _⟩
attribute [local irreducible] ad
theorem n_addup (s t : St8) : zBP (ci t.l) 9 0 (ci s.l) = some (ci (upS s t).l) := by
 have e : ci (upS s t).l = [IntKind.u64.wrap ((s.a : Int) + (t.a : Int)), IntKind.u64.wrap ((s.b : Int) + (t.b : Int)), IntKind.u64.wrap ((s.c : Int) + (t.c : Int)), IntKind.u64.wrap ((s.d : Int) + (t.d : Int)), IntKind.u64.wrap ((s.e : Int) + (t.e : Int)), IntKind.u64.wrap ((s.f : Int) + (t.f : Int)), IntKind.u64.wrap ((s.g : Int) + (t.g : Int)), IntKind.u64.wrap ((s.h : Int) + (t.h : Int))] := by
  rw [qK, qK, qK, qK, qK, qK, qK, qK]
  rfl
 rw [e]
 unfold ci St8.l
 simp only [List.map_cons, List.map_nil]
 generalize (s.a : Int) = a0
 generalize (s.b : Int) = a1
 generalize (s.c : Int) = a2
 generalize (s.d : Int) = a3
 generalize (s.e : Int) = a4
 generalize (s.f : Int) = a5
 generalize (s.g : Int) = a6
 generalize (s.h : Int) = a7
 generalize (t.a : Int) = b0
 generalize (t.b : Int) = b1
 generalize (t.c : Int) = b2
 generalize (t.d : Int) = b3
 generalize (t.e : Int) = b4
 generalize (t.f : Int) = b5
 generalize (t.g : Int) = b6
 generalize (t.h : Int) = b7
 rfl
theorem zFG : ∀ (k : Nat) (l : List Nat), (wext k l).length = l.length + k
 | 0, _ => rfl
 | k + 1, l => by rw [wext, zFG k, List.length_append]; simp only [List.length_cons, List.length_nil]; omega
def zB8 (ks : List Nat) (s : St8) (p : List UInt8) : St8 := upS s (it (rndA ks (wext 64 (wds 16 p))) 80 0 s)
theorem n_piece {ks : List Nat} (hk : ks.length = 80) {s : St8} (hs : s.Ok) {p : List UInt8} (hp : p.length = 128) : zBm (ci s.l) (ci ks) p = some (ci (zB8 ks s p).l) := by
 have hw : (wext 64 (wds 16 p)).length = 80 := by rw [zFG, zCU]
 have h8 : s.l.length = 8 := rfl
 have e8 : padA (0 : Int) (ci s.l) 0 8 = ci s.l := zGh h8
 unfold zBm
 rw [e8, e8, show lenI (ci s.l).length 8 = some () from rfl, Option.bind_some, show lenI (List.replicate 8 (0 : Int)).length 8 = some () from rfl, Option.bind_some, zHR hp, Option.bind_some]
 have h := zGc hk hw (ci s.l) 80 0 s hs rfl (Int.toNat 80 + 1) (by decide)
 refine h.trans ?_
 unfold zBR
 rw [e8]
 exact n_addup s _
def byP {σ : Type} (f : σ → List UInt8 → σ) : Nat → List UInt8 → σ → σ
 | 0, _, s => s
 | n + 1, b, s => byP f n (b.drop 128) (f s (b.take 128))
section
variable {σ : Type} (f : σ → List UInt8 → σ)
theorem byP_z (b : List UInt8) (s : σ) : byP f 0 b s = s := rfl
theorem zHO (n : Nat) (b : List UInt8) (s : σ) : byP f (n + 1) b s = byP f n (b.drop 128) (f s (b.take 128)) := rfl
theorem byP_ok (P : σ → Prop) (h : ∀ s p, P (f s p)) : ∀ (n : Nat) (b : List UInt8) (s : σ), P s → P (byP f n b s)
 | 0, _, _, h => h
 | n + 1, b, s, hs => byP_ok P h n (b.drop 128) (f s (b.take 128)) (h _ _)
theorem byP_add : ∀ (p q : Nat) (b : List UInt8) (s : σ), byP f (p + q) b s = byP f q (b.drop (128 * p)) (byP f p b s)
 | 0, q, b, s => by rw [Nat.zero_add]; rfl
 | p + 1, q, b, s => by
  rw [show p + 1 + q = (p + q) + 1 by omega, zHO, byP_add p q, List.drop_drop, zHO, show 128 + 128 * p = 128 * (p + 1) by omega]
theorem byP_app (r : List UInt8) : ∀ (p : Nat) (b : List UInt8) (s : σ), 128 * p ≤ b.length → byP f p (b ++ r) s = byP f p b s
 | 0, b, s, _ => rfl
 | p + 1, b, s, h => by
  rw [zHO, zHO, List.drop_append_of_le_length (by omega), List.take_append_of_le_length (by omega), byP_app r p _ _ (by rw [List.length_drop]; omega)]
end
theorem zEZ (ks : List Nat) (s : St8) (p : List UInt8) : (zB8 ks s p).Ok := upS_ok s (it (rndA ks (wext 64 (wds 16 p))) 80 0 s)
attribute [local irreducible] zB8
theorem n_takeL {ks : List Nat} (hk : ks.length = 80) : ∀ (q : Nat) (lf : List UInt8) (s : St8), s.Ok → 128 * q ≤ lf.length → lf.length < 128 * q + 128 → ∀ fuel, q < fuel → zHM (ci ks) fuel lf (ci s.l) = some (lf.drop (128 * q), ci (byP (zB8 ks) q lf s).l)
 | 0, lf, s, hs, h1, h2, fuel + 1, hf => by
  unfold zHM
  rw [qM (by omega), cond_false, byP_z, Nat.mul_zero, List.drop_zero]
 | q + 1, lf, s, hs, h1, h2, fuel + 1, hf => by
  unfold zHM
  have hc : cutI lf 0 128 = some (lf.take 128) := zDg (n := 128) (by omega)
  rw [yA (by omega), cond_true, hc, Option.bind_some, n_piece hk hs (by rw [List.length_take]; omega), Option.bind_some, n_takeL hk q (lf.drop 128) _ (zEZ _ _ _) (by rw [List.length_drop]; omega) (by rw [List.length_drop]; omega) fuel (by omega), List.drop_drop, show 128 + 128 * q = 128 * (q + 1) by omega, zHO]
def left (m : List UInt8) : List UInt8 := m.drop (128 * (m.length / 128))
def stt (ks : List Nat) (s0 : St8) (m : List UInt8) : St8 := byP (zB8 ks) (m.length / 128) m s0
theorem stt_ok (ks : List Nat) {s0 : St8} (h : s0.Ok) (m : List UInt8) : (stt ks s0 m).Ok := byP_ok (zB8 ks) St8.Ok (zEZ ks) _ m s0 h
theorem n_takeM {ks : List Nat} (hk : ks.length = 80) {s0 : St8} (hs : s0.Ok) {m p : List UInt8} (hl : m.length + p.length ≤ 1000000000) : takeM (ci ks) (left m) (ci (stt ks s0 m).l) p = some (left (m ++ p), ci (stt ks s0 (m ++ p)).l) := by
 have e1 : left m ++ p = (m ++ p).drop (128 * (m.length / 128)) := by
  unfold left
  rw [List.drop_append_of_le_length (by omega)]
 have hle : (left m).length ≤ m.length := by unfold left; rw [List.length_drop]; omega
 have e2 : (left m ++ p).length = (m.length + p.length) - 128 * (m.length / 128) := by rw [e1, List.length_drop, List.length_append]
 unfold takeM
 rw [yC (by omega), Option.bind_some]
 have h := n_takeL hk ((left m ++ p).length / 128) (left m ++ p) (stt ks s0 m) (stt_ok ks hs m) (by omega) (by omega) ((left m ++ p).length + 1) (by omega)
 rw [h]
 have e3 : m.length / 128 + (left m ++ p).length / 128 = (m ++ p).length / 128 := by rw [e2, List.length_append]; omega
 have e4 : stt ks s0 m = byP (zB8 ks) (m.length / 128) (m ++ p) s0 := by
  unfold stt
  rw [byP_app (zB8 ks) p _ m s0 (by omega)]
 refine congrArg some (Prod.ext ?_ ?_)
 ·
  show (left m ++ p).drop _ = left (m ++ p)
  rw [e1, List.drop_drop, ← Nat.mul_add, ← e1, e3]
  rfl
 ·
  show ci (byP (zB8 ks) _ (left m ++ p) _).l = _
  rw [e4, e1, ← byP_add, ← e1, e3]
  rfl
theorem n_b8 {kl : List UInt8 → Int → Option (List UInt8)} {x : Nat} {z2 : Int} : ∀ (j : Nat) (z : List UInt8) (y : Int), y = (8 * j : Int) - 8 → j ≤ 8 → z.length + j ≤ 1000000 → ∀ fuel, j < fuel → yH kl (x : Int) z2 fuel z y = kl (z ++ be j x) (wi (z2 + 1))
 | 0, z, y, hy, hj, hz, fuel + 1, hf => by
  unfold yH
  rw [qM (by omega), cond_false, show be 0 x = [] from rfl, List.append_nil]
 | j + 1, z, y, hy, hj, hz, fuel + 1, hf => by
  unfold yH
  have hy2 : y = ((8 * j : Nat) : Int) := by omega
  have hu : U8 ((x >>> (8 * j) : Nat) : Int) = UInt8.ofNat (x / 256 ^ j % 256) := by
   unfold U8
   rw [Nat.shiftRight_eq_div_pow, Nat.pow_mul, show ((x / (2 ^ 8) ^ j : Nat) : Int) % 256 = ((x / (2 ^ 8) ^ j % 256 : Nat) : Int) by omega, Int.toNat_natCast]
  rw [yA (by omega), cond_true, hy2, zAR (by omega), shr_nat (by omega), Option.bind_some, hu, yC (by simp only [List.length_cons, List.length_nil]; omega), Option.bind_some, n_b8 j _ _ (by rw [zDO (by omega) (by omega)]; omega) (by omega) (by rw [List.length_append]; simp only [List.length_cons, List.length_nil]; omega) fuel (by omega), zGD, List.append_assoc]
  rfl
theorem n_b64l (l : List Nat) (hl : l.length ≤ 1000) : ∀ (k i : Nat) (z : List UInt8), i + k = l.length → z.length = 8 * i → ∀ fuel, k < fuel → qX (ci l) fuel z (i : Int) = some (z ++ (l.drop i).flatMap (be 8))
 | 0, i, z, hi, hz, fuel + 1, hf => by
  unfold qX
  rw [qM (by rw [zDx]; omega), cond_false, List.drop_of_length_le (by omega)]
  simp
 | k + 1, i, z, hi, hz, fuel + 1, hf => by
  unfold qX
  have hlt : i < l.length := by omega
  rw [yA (by rw [zDx]; omega), cond_true, zFu hlt, Option.bind_some, n_b8 8 z 56 (by omega) (by omega) (by omega) 10 (by omega), zAN (by omega), n_b64l l hl k (i + 1) _ (by omega) (by rw [List.length_append, yV]; omega) fuel (by omega), List.drop_eq_getElem_cons hlt, List.flatMap_cons, List.append_assoc, List.getD_eq_getElem?_getD, List.getElem?_eq_getElem hlt]
  rfl
theorem zFW (l : List Nat) (hl : l.length ≤ 1000) : zAL (ci l) = some (l.flatMap (be 8)) := by
 unfold zAL
 have h := n_b64l l hl l.length 0 [] (by omega) rfl ((ci l).length + 1) (by rw [zDx]; omega)
 rw [List.drop_zero, List.nil_append] at h
 exact h
def padN (n : Nat) : List UInt8 := (128 : UInt8) :: (List.replicate ((239 - n % 128) % 128 + 8) 0 ++ be 8 (n * 8))
theorem padN_len (n : Nat) : (n + (padN n).length) % 128 = 0 := by
 unfold padN
 rw [List.length_cons, List.length_append, List.length_replicate, yV]
 omega
theorem n_pad {n : Nat} (h : n ≤ 1000000000) : zDk (n : Int) = some (padN n) := by
 unfold zDk
 have e : wi (Int.tmod (wi (239 - Int.tmod (n : Int) 128)) 128 + 8) = (((239 - n % 128) % 128 + 8 : Nat) : Int) := by
  rw [show Int.tmod (n : Int) 128 = ((n % 128 : Nat) : Int) from rfl, show (239 : Int) - ((n % 128 : Nat) : Int) = ((239 - n % 128 : Nat) : Int) by omega, zBH (by omega), show Int.tmod ((239 - n % 128 : Nat) : Int) 128 = (((239 - n % 128) % 128 : Nat) : Int) from rfl, show (((239 - n % 128) % 128 : Nat) : Int) + 8 = (((239 - n % 128) % 128 + 8 : Nat) : Int) by omega, zBH (by omega)]
 have e2 : IntKind.u64.wrap ((IntKind.u64.wrap (n : Int)) * 2 ^ 3) = ((n * 8 : Nat) : Int) := by
  rw [zAR (by omega), show (n : Int) * 2 ^ 3 = ((n * 8 : Nat) : Int) by omega, zAR (by omega)]
 have e3 : apzI 1 [(128 : Nat)].length (((239 - n % 128) % 128 + 8 : Nat) : Int) = some ((239 - n % 128) % 128 + 8) := by
  unfold apzI
  rw [if_pos ⟨by omega, by simp only [List.length_cons, List.length_nil]; omega⟩, Int.toNat_natCast]
 have e4 := zFW [n * 8] (by simp)
 rw [qM (by omega), cond_false, qM (by omega), cond_false, e, e3, Option.bind_some, e2, show [((n * 8 : Nat) : Int)] = ci [n * 8] from rfl, e4, Option.bind_some]
 simp only [List.flatMap_cons, List.flatMap_nil, List.append_nil]
 rw [yC (by rw [List.length_append, List.length_replicate, yV]; simp only [List.length_cons, List.length_nil]; omega), Option.bind_some]
 rfl
end Go.Proofs.YtmgafkpkpmjieaaDoor

/-
 The plain law of the sums: sha.Sum tells zFf of all parts in a row.
-/
namespace Go.Proofs.YtmgafkpkpmjieaaDoor
open Go Go.RowKit
set_option linter.unusedVariables false
set_option linter.unusedSimpArgs false
set_option maxRecDepth 20000
def kN : List Nat := [4794697086780616226, 8158064640168781261, 13096744586834688815, 16840607885511220156, 4131703408338449720, 6480981068601479193, 10538285296894168987, 12329834152419229976, 15566598209576043074, 1334009975649890238, 2608012711638119052, 6128411473006802146, 8268148722764581231, 9286055187155687089, 11230858885718282805, 13951009754708518548, 16472876342353939154, 17275323862435702243, 1135362057144423861, 2597628984639134821, 3308224258029322869, 5365058923640841347, 6679025012923562964, 8573033837759648693, 10970295158949994411, 12119686244451234320, 12683024718118986047, 13788192230050041572, 14330467153632333762, 15395433587784984357, 489312712824947311, 1452737877330783856, 2861767655752347644, 3322285676063803686, 5560940570517711597, 5996557281743188959, 7280758554555802590, 8532644243296465576, 9350256976987008742, 10552545826968843579, 11727347734174303076, 12113106623233404929, 14000437183269869457, 14369950271660146224, 15101387698204529176, 15463397548674623760, 17586052441742319658, 1182934255886127544, 1847814050463011016, 2177327727835720531, 2830643537854262169, 3796741975233480872, 4115178125766777443, 5681478168544905931, 6601373596472566643, 7507060721942968483, 8399075790359081724, 8693463985226723168, 9568029438360202098, 10144078919501101548, 10430055236837252648, 11840083180663258601, 13761210420658862357, 14299343276471374635, 14566680578165727644, 15097957966210449927, 16922976911328602910, 17689382322260857208, 500013540394364858, 748580250866718886, 1242879168328830382, 1977374033974150939, 2944078676154940804, 3659926193048069267, 4368137639120453308, 4836135668995329356, 5532061633213252278, 6448918945643986474, 6902733635092675308, 7801388544844847127]
def s0N : St8 := ⟨7640891576956012808, 13503953896175478587, 4354685564936845355, 11912009170470909681, 5840696475078001361, 11170449401992604703, 2270897969802886507, 6620516959819538809⟩
theorem kN_len : kN.length = 80 := rfl
theorem zGq : s0N.Ok := by constructor <;> decide
def outN (s : St8) : List UInt8 := s.l.flatMap (be 8)
theorem zGv (s : St8) : (outN s).length = 64 := by
 unfold outN St8.l
 simp only [List.flatMap_cons, List.flatMap_nil, List.length_append, yV, List.length_nil]
def zFf (m : List UInt8) : List UInt8 := outN (stt kN s0N (m ++ padN m.length))
theorem zCN (m : List UInt8) : (zFf m).length = 64 := zGv _
attribute [local irreducible] byP zB8 stt left padN
theorem n_kinds : zCl = some (ci kN) := by
 unfold zCl
 refine congrArg some ?_
 kernel_rfl
theorem n_begin : zCj = some (ci s0N.l) := by
 unfold zCj
 refine congrArg some ?_
 kernel_rfl
theorem n_sumE {ks : List Nat} (hk : ks.length = 80) {s0 : St8} (hs : s0.Ok) {m : List UInt8} (h : m.length ≤ 900000000) : ∃ y, sumE (ci ks) (left m) (ci (stt ks s0 m).l) (m.length : Int) = some (outN (stt ks s0 (m ++ padN m.length)), y) := by
 have hpl : (padN m.length).length ≤ 200 := by
  unfold padN
  rw [List.length_cons, List.length_append, List.length_replicate, yV]
  omega
 refine ⟨(left (m ++ padN m.length), ci (stt ks s0 (m ++ padN m.length)).l), ?_⟩
 unfold sumE
 have ho := zGv (stt ks s0 (m ++ padN m.length))
 rw [n_pad (by omega), Option.bind_some, n_takeM hk hs (by omega), Option.bind_some]
 show Option.bind (zAL (padA (0 : Int) (ci (stt ks s0 (m ++ padN m.length)).l) 0 8)) _ = _
 have h8 : (stt ks s0 (m ++ padN m.length)).l.length = 8 := rfl
 rw [zGh h8, zFW _ (by omega), Option.bind_some]
 have hc : cpyI (List.replicate 64 (0 : UInt8)) 0 64 ((stt ks s0 (m ++ padN m.length)).l.flatMap (be 8)) = some (outN (stt ks s0 (m ++ padN m.length))) := by
  show cpyI (List.replicate 64 (0 : UInt8)) 0 64 (outN (stt ks s0 (m ++ padN m.length))) = _
  unfold cpyI cpyL
  rw [if_pos (by decide), List.take_zero, List.nil_append, ho, List.take_of_length_le (by omega), List.drop_of_length_le (by decide), List.append_nil]
 have hn : notE ((stt ks s0 (m ++ padN m.length)).l.flatMap (be 8)) = some () := by
  show notE (outN (stt ks s0 (m ++ padN m.length))) = _
  unfold notE
  cases hx : outN (stt ks s0 (m ++ padN m.length)) with
  | nil => rw [hx] at ho; cases ho
  | cons a b => rfl
 rw [hn, Option.bind_some, hc, Option.bind_some, zEV ho, Option.bind_some]
theorem flat_take (p0 : List (List UInt8)) (i : Nat) (h : i < p0.length) : (p0.take (i + 1)).flatten = (p0.take i).flatten ++ p0[i] := by
 rw [List.take_succ_eq_append_getElem h, List.flatten_append]
 simp
theorem flat_le (p0 : List (List UInt8)) (i : Nat) : (p0.take i).flatten.length ≤ p0.flatten.length := by
 conv => rhs; rw [← List.take_append_drop i p0, List.flatten_append, List.length_append]
 omega
theorem n_sumL {ks : List Nat} (hk : ks.length = 80) {s0 : St8} (hs : s0.Ok) (p0 : List (List UInt8)) (hb : p0.flatten.length ≤ 900000000) (hp : p0.length ≤ 1000000) : ∀ (k i : Nat), i + k = p0.length → ∀ fuel, k < fuel →
  sumL (ci ks) p0 fuel (left (p0.take i).flatten) (ci (stt ks s0 (p0.take i).flatten).l) ((p0.take i).flatten.length : Int) (i : Int) = sumE (ci ks) (left p0.flatten) (ci (stt ks s0 p0.flatten).l) (p0.flatten.length : Int)
 | 0, i, hi, fuel + 1, hf => by
  unfold sumL
  rw [qM (by omega), cond_false, List.take_of_length_le (by omega)]
 | k + 1, i, hi, fuel + 1, hf => by
  unfold sumL
  have hlt : i < p0.length := by omega
  have h1 := flat_le p0 i
  have h2 := flat_le p0 (i + 1)
  have h3 := flat_take p0 i hlt
  have h4 := congrArg List.length h3
  rw [List.length_append] at h4
  rw [yA (by omega), cond_true, zCw hlt, Option.bind_some, n_takeM hk hs (by omega), Option.bind_some, ← h3, show ((p0.take i).flatten.length : Int) + (p0[i].length : Int) = (((p0.take (i + 1)).flatten.length : Nat) : Int) by omega, zBH (by omega), zAN (by omega)]
  exact n_sumL hk hs p0 hb hp k (i + 1) (by omega) fuel (by omega)
theorem left_nil : left [] = [] := by unfold left; rfl
theorem stt_nil (ks : List Nat) (s : St8) : stt ks s [] = s := by unfold stt; rw [show ([] : List UInt8).length / 128 = 0 from rfl, byP_z]
theorem n_Sum (p0 : List (List UInt8)) (hb : p0.flatten.length ≤ 900000000) (hp : p0.length ≤ 1000000) : zBu p0 = some (zFf p0.flatten) := by
 obtain ⟨y, hy⟩ := n_sumE kN_len zGq hb
 have h := n_sumL kN_len zGq p0 hb hp p0.length 0 (by omega) (p0.length + 1) (by omega)
 rw [List.take_zero, List.flatten_nil, left_nil, stt_nil] at h
 unfold zBu sum3
 rw [n_kinds, Option.bind_some, n_begin, Option.bind_some]
 refine (congrArg (Option.map _) (h.trans hy)).trans ?_
 rfl
end Go.Proofs.YtmgafkpkpmjieaaDoor

/-
 The plain law of the sums: what the document pads with; its words.
-/
namespace Go.Proofs.YtmgafkpkpmjieaaDoor
open Go Go.RowKit
set_option linter.unusedVariables false
set_option linter.unusedSimpArgs false
theorem u8_mod (x : Nat) : U8 (Int.tmod (x : Int) 256) = UInt8.ofNat (x % 256) := by
 unfold U8
 rw [show Int.tmod (x : Int) 256 = ((x % 256 : Nat) : Int) from rfl, show (((x % 256 : Nat) : Int) % 256).toNat = x % 256 by omega]
theorem quo_pow {x : Nat} (hx : x < 18446744073709551616) (j : Nat) : quoI .u64 (x : Int) ((256 ^ j : Nat) : Int) = some ((x / 256 ^ j : Nat) : Int) := by
 have hne : (((256 ^ j : Nat) : Int) != 0) = true := by
  have := Nat.pow_pos (a := 256) (n := j) (by decide)
  simpa using (by omega : ¬ ((256 ^ j : Nat) : Int) = 0)
 unfold quoI
 rw [hne, cond_true, zGR, zAR (Nat.lt_of_le_of_lt (Nat.div_le_self _ _) hx)]
theorem pow256 {j : Nat} (h : j ≤ 7) : 256 ^ j < 18446744073709551616 := Nat.lt_of_le_of_lt (Nat.pow_le_pow_right (by decide) h) (by decide)
theorem zEo {j : Nat} (h : j + 1 ≤ 7) : IntKind.u64.wrap (Int.tdiv ((256 ^ (j + 1) : Nat) : Int) 256) = ((256 ^ j : Nat) : Int) := by
 rw [show Int.tdiv ((256 ^ (j + 1) : Nat) : Int) 256 = ((256 ^ (j + 1) / 256 : Nat) : Int) from rfl, Nat.pow_succ, Nat.mul_div_cancel _ (by decide), zAR (pow256 (by omega))]
theorem n_rpad3 {x : Nat} (hx : x < 18446744073709551616) {n : Nat} (hn : IntKind.u64.wrap ((IntKind.u64.wrap (n : Int)) * 8) = (x : Int)) : ∀ (j : Nat) (z : List UInt8) (sc : Int) (i : Int), (j ≠ 0 → sc = ((256 ^ (j - 1) : Nat) : Int)) → i = 8 - (j : Int) → j ≤ 8 → z.length + j ≤ 1000 → ∀ fuel, j < fuel → zAs (n : Int) fuel z sc i = some (z ++ be j x)
 | 0, z, sc, i, hs, hi, hj, hz, fuel + 1, hf => by
  unfold zAs
  rw [qM (by omega), cond_false, show be 0 x = [] from rfl, List.append_nil]
 | j + 1, z, sc, i, hs, hi, hj, hz, fuel + 1, hf => by
  unfold zAs
  have hsc : sc = ((256 ^ j : Nat) : Int) := hs (by omega)
  rw [yA (by omega), cond_true, hn, hsc, quo_pow hx, Option.bind_some, u8_mod, yC (by simp only [List.length_cons, List.length_nil]; omega), Option.bind_some, zDO (by omega) (by omega), zGD]
  rw [n_rpad3 hx hn j _ _ (i + 1) (fun h0 => by
   obtain ⟨q, rfl⟩ : ∃ q, j = q + 1 := ⟨j - 1, by omega⟩
   rw [zEo (by omega)]
   rfl) (by omega) (by omega) (by rw [List.length_append]; simp only [List.length_cons, List.length_nil]; omega) fuel (by omega), List.append_assoc]
  rfl
theorem n_rpad4 {n x : Nat} (hx : x < 18446744073709551616) (hn : IntKind.u64.wrap ((IntKind.u64.wrap (n : Int)) * 8) = (x : Int)) : ∀ (k : Nat) (z : List UInt8) (i : Int), i = 8 - (k : Int) → k ≤ 8 → z.length + k ≤ 900 → ∀ fuel, k < fuel → zAq (n : Int) fuel z i = some (z ++ (List.replicate k 0 ++ be 8 x))
 | 0, z, i, hi, hk, hz, fuel + 1, hf => by
  unfold zAq
  rw [qM (by omega), cond_false]
  unfold zC0
  rw [n_rpad3 hx hn 8 z 72057594037927936 0 (fun _ => rfl) (by omega) (by omega) (by omega) _ (by decide)]
  rfl
 | k + 1, z, i, hi, hk, hz, fuel + 1, hf => by
  unfold zAq
  rw [yA (by omega), cond_true, yC (by simp only [List.length_cons, List.length_nil]; omega), Option.bind_some, zDO (by omega) (by omega), n_rpad4 hx hn k _ (i + 1) (by omega) (by omega) (by rw [List.length_append]; simp only [List.length_cons, List.length_nil]; omega) fuel (by omega), List.append_assoc, List.replicate_succ]
  rfl
theorem n_rpad5 {n x : Nat} (hn0 : n ≤ 1000000000) (hx : x < 18446744073709551616) (hn : IntKind.u64.wrap ((IntKind.u64.wrap (n : Int)) * 8) = (x : Int)) : ∀ (k j : Nat), j + k = (239 - n % 128) % 128 → ∀ fuel, k < fuel → zAn (n : Int) fuel ((128 : UInt8) :: List.replicate j 0) = some ((128 : UInt8) :: (List.replicate (j + k + 8) 0 ++ be 8 x))
 | 0, j, hj, fuel + 1, hf => by
  unfold zAn
  have h1 : ((Int.tmod (wi ((n : Int) + (((128 : UInt8) :: List.replicate j 0).length : Int))) 128) != 112) = false := by
   rw [List.length_cons, List.length_replicate, show (n : Int) + ((j + 1 : Nat) : Int) = ((n + (j + 1) : Nat) : Int) by omega, zBH (by omega), show Int.tmod ((n + (j + 1) : Nat) : Int) 128 = (((n + (j + 1)) % 128 : Nat) : Int) from rfl, show (n + (j + 1)) % 128 = 112 by omega]
   rfl
  rw [h1, cond_false]
  unfold zC1
  rw [n_rpad4 hx hn 8 _ 0 (by omega) (by omega) (by rw [List.length_cons, List.length_replicate]; omega) _ (by decide), Nat.add_zero, ← List.replicate_append_replicate, List.append_assoc]
  rfl
 | k + 1, j, hj, fuel + 1, hf => by
  unfold zAn
  have h1 : ((Int.tmod (wi ((n : Int) + (((128 : UInt8) :: List.replicate j 0).length : Int))) 128) != 112) = true := by
   rw [List.length_cons, List.length_replicate, show (n : Int) + ((j + 1 : Nat) : Int) = ((n + (j + 1) : Nat) : Int) by omega, zBH (by omega), show Int.tmod ((n + (j + 1) : Nat) : Int) 128 = (((n + (j + 1)) % 128 : Nat) : Int) from rfl]
   exact ine_t (by omega)
  rw [h1, cond_true, yC (by simp only [List.length_cons, List.length_nil, List.length_replicate]; omega), Option.bind_some, List.cons_append, ← List.replicate_succ', n_rpad5 hn0 hx hn k (j + 1) (by omega) fuel (by omega), show j + 1 + k + 8 = j + (k + 1) + 8 by omega]
theorem n_rpad {n : Nat} (h : n ≤ 1000000000) : zDa (n : Int) = some (padN n) := by
 have e2 : IntKind.u64.wrap ((IntKind.u64.wrap (n : Int)) * 8) = ((n * 8 : Nat) : Int) := by
  rw [zAR (by omega), show (n : Int) * 8 = ((n * 8 : Nat) : Int) by omega, zAR (by omega)]
 unfold zDa
 have h5 := n_rpad5 h (by omega) e2 ((239 - n % 128) % 128) 0 (by omega) 140 (by omega)
 rw [Nat.zero_add] at h5
 exact h5
theorem zGj (b : List UInt8) (hb : b.length ≤ 8) : ∀ (k i : Nat), i + k = b.length → ∀ fuel, k < fuel → zAY b fuel ((wd (b.take i) : Nat) : Int) (i : Int) = some ((wd b : Nat) : Int)
 | 0, i, hi, fuel + 1, hf => by
  unfold zAY
  rw [qM (by omega), cond_false, List.take_of_length_le (by omega)]
 | k + 1, i, hi, fuel + 1, hf => by
  unfold zAY
  have hlt : i < b.length := by omega
  have h7 := wd_lt7 (b := b) (i := i) (by omega)
  have hc := (b[i]).toNat_lt
  rw [yA (by omega), cond_true, zCw hlt, Option.bind_some, show (256 : Int) * ((wd (b.take i) : Nat) : Int) = ((wd (b.take i) * 256 : Nat) : Int) by omega, zAR (by omega), ← Int.natCast_add, zAR (by omega), ← zGu, ← zAE hlt, zAN (by omega)]
  exact zGj b hb k (i + 1) (by omega) fuel (by omega)
theorem n_wide {b : List UInt8} (hb : b.length ≤ 8) : zDt b = some ((wd b : Nat) : Int) := zGj b hb b.length 0 (by omega) _ (by omega)
end Go.Proofs.YtmgafkpkpmjieaaDoor

/-
 The plain law of the sums: the document's sum is zFf as well.
-/
namespace Go.Proofs.YtmgafkpkpmjieaaDoor
open Go Go.RowKit
set_option linter.unusedVariables false
set_option linter.unusedSimpArgs false
set_option maxRecDepth 20000
set_option maxHeartbeats 1000000
attribute [local irreducible] ad oneN twoN rotr sg
theorem n_rl8 {ks ws : List Nat} (hk : ks.length = 80) (hw : ws.length = 80) (kl : List Int → Int → Option (List UInt8)) (z28 : List Int) (z29 : Int) : ∀ (k i : Nat) (s : St8), s.Ok → i + k = 80 → ∀ fuel, k < fuel → zAm kl (ci ks) (ci ws) z28 z29 fuel (s.a : Int) (s.b : Int) (s.c : Int) (s.d : Int) (s.e : Int) (s.f : Int) (s.g : Int) (s.h : Int) (i : Int) = zBY kl z28 z29 ((it (rndA ks ws) k i s).a : Int) ((it (rndA ks ws) k i s).b : Int) ((it (rndA ks ws) k i s).c : Int) ((it (rndA ks ws) k i s).d : Int) ((it (rndA ks ws) k i s).e : Int) ((it (rndA ks ws) k i s).f : Int) ((it (rndA ks ws) k i s).g : Int) ((it (rndA ks ws) k i s).h : Int)
 | 0, i, s, ho, hi, fuel + 1, hf => by
  unfold zAm
  rw [qM (by omega), cond_false, it_z]
 | k + 1, i, s, ho, hi, fuel + 1, hf => by
  unfold zAm
  rw [it_s]
  rw [yA (by omega), cond_true, show (14 : Int) = ((14 : Nat) : Int) from rfl, show (18 : Int) = ((18 : Nat) : Int) from rfl, show (41 : Int) = ((41 : Nat) : Int) from rfl, show (28 : Int) = ((28 : Nat) : Int) from rfl, show (34 : Int) = ((34 : Nat) : Int) from rfl, show (39 : Int) = ((39 : Nat) : Int) from rfl, zDN ho.e (by omega) (by omega), Option.bind_some, zDN ho.e (by omega) (by omega), Option.bind_some, zDN ho.e (by omega) (by omega), Option.bind_some, zFu (by omega), Option.bind_some, zFu (by omega), Option.bind_some, zDN ho.a (by omega) (by omega), Option.bind_some, zDN ho.a (by omega) (by omega), Option.bind_some, zDN ho.a (by omega) (by omega), Option.bind_some, one_r ho.e ho.f ho.g, two_r ho.a ho.b ho.c, qK, qK, zAN (by omega)]
  exact n_rl8 hk hw kl z28 z29 k (i + 1) (rndA ks ws i s) (ho.rnd (ks.getD i 0) (ws.getD i 0)) (by omega) fuel (by omega)
theorem n_rj7 (kl : List Int → Int → Option (List UInt8)) (s t : St8) (z29 : Int) : zBY kl (ci s.l) z29 (t.a : Int) (t.b : Int) (t.c : Int) (t.d : Int) (t.e : Int) (t.f : Int) (t.g : Int) (t.h : Int) = kl (ci (upS s t).l) (wi (z29 + 128)) := by
 have e0 : idx (ci s.l) 0 = some (s.a : Int) := rfl
 have e1 : idx (ci s.l) 1 = some (s.b : Int) := rfl
 have e2 : idx (ci s.l) 2 = some (s.c : Int) := rfl
 have e3 : idx (ci s.l) 3 = some (s.d : Int) := rfl
 have e4 : idx (ci s.l) 4 = some (s.e : Int) := rfl
 have e5 : idx (ci s.l) 5 = some (s.f : Int) := rfl
 have e6 : idx (ci s.l) 6 = some (s.g : Int) := rfl
 have e7 : idx (ci s.l) 7 = some (s.h : Int) := rfl
 unfold zBY
 rw [e0, Option.bind_some, e1, Option.bind_some, e2, Option.bind_some, e3, Option.bind_some, e4, Option.bind_some, e5, Option.bind_some, e6, Option.bind_some, e7, Option.bind_some, qK, qK, qK, qK, qK, qK, qK, qK]
 rfl
theorem n_rj6 {ks ws : List Nat} (hk : ks.length = 80) (hw : ws.length = 80) (kl : List Int → Int → Option (List UInt8)) {s : St8} (ho : s.Ok) (z29 : Int) : zAw kl (ci s.l) (ci ks) z29 (ci ws) = kl (ci (upS s (it (rndA ks ws) 80 0 s)).l) (wi (z29 + 128)) := by
 have e0 : idx (ci s.l) 0 = some (s.a : Int) := rfl
 have e1 : idx (ci s.l) 1 = some (s.b : Int) := rfl
 have e2 : idx (ci s.l) 2 = some (s.c : Int) := rfl
 have e3 : idx (ci s.l) 3 = some (s.d : Int) := rfl
 have e4 : idx (ci s.l) 4 = some (s.e : Int) := rfl
 have e5 : idx (ci s.l) 5 = some (s.f : Int) := rfl
 have e6 : idx (ci s.l) 6 = some (s.g : Int) := rfl
 have e7 : idx (ci s.l) 7 = some (s.h : Int) := rfl
 unfold zAw
 rw [e0, Option.bind_some, e1, Option.bind_some, e2, Option.bind_some, e3, Option.bind_some, e4, Option.bind_some, e5, Option.bind_some, e6, Option.bind_some, e7, Option.bind_some]
 refine (n_rl8 hk hw kl (ci s.l) z29 80 0 s ho rfl (Int.toNat 80 + 1) (by decide)).trans ?_
 exact n_rj7 kl s _ z29
theorem appI_ci {l : List Nat} {v : Nat} (h : l.length ≤ 1000) : appI 8 (ci l) [(v : Int)] = some (ci (l ++ [v])) := by
 rw [yC (by rw [zDx]; simp only [List.length_cons, List.length_nil]; omega)]
 unfold ci
 rw [List.map_append]
 rfl
theorem n_rl9b (kl : List Int → Int → Option (List UInt8)) (x7 : List UInt8) (z29 : Int) (z28 x1 : List Int) : ∀ (k : Nat) (l : List Nat), zEf l → 16 ≤ l.length → l.length + k = 80 → ∀ fuel, k < fuel → yD kl x7 z29 z28 x1 fuel (l.length : Int) (ci l) = zAw kl z28 x1 z29 (ci (wext k l))
 | 0, l, hl, h16, h80, fuel + 1, hf => by
  unfold yD
  rw [qM (by omega), cond_false]
  rfl
 | k + 1, l, hl, h16, h80, fuel + 1, hf => by
  unfold yD
  have g : ∀ c, 0 < c → c ≤ 16 → idx (ci l) (wi ((l.length : Int) - (c : Nat))) = some ((l.getD (l.length - c) 0 : Nat) : Int) := fun c h0 hc => by
   rw [wi_sub c (by omega) (by omega), zFu (by omega)]
  have hx := hl.get (l.length - 15)
  have hy := hl.get (l.length - 2)
  rw [yA (by omega), cond_true, qM (by omega), cond_false]
  rw [show wi ((l.length : Int) - 15) = wi ((l.length : Int) - ((15 : Nat) : Int)) from rfl, g 15 (by omega) (by omega), Option.bind_some,
   show wi ((l.length : Int) - 2) = wi ((l.length : Int) - ((2 : Nat) : Int)) from rfl, g 2 (by omega) (by omega), Option.bind_some,
   show wi ((l.length : Int) - 16) = wi ((l.length : Int) - ((16 : Nat) : Int)) from rfl, g 16 (by omega) (by omega), Option.bind_some,
   show (1 : Int) = ((1 : Nat) : Int) from rfl, show (8 : Int) = ((8 : Nat) : Int) from rfl, show (19 : Int) = ((19 : Nat) : Int) from rfl, show (61 : Int) = ((61 : Nat) : Int) from rfl]
  rw [zDN hx (by omega) (by omega), Option.bind_some, zDN hx (by omega) (by omega), Option.bind_some, show zAh ((l.getD (l.length - 15) 0 : Nat) : Int) 7 = some ((l.getD (l.length - 15) 0 / 2 ^ 7 : Nat) : Int) from n_shift (a := 7) hx (by omega), Option.bind_some,
   show wi ((l.length : Int) - 7) = wi ((l.length : Int) - ((7 : Nat) : Int)) from rfl, g 7 (by omega) (by omega), Option.bind_some, zDN hy (by omega) (by omega), Option.bind_some, zDN hy (by omega) (by omega), Option.bind_some, show zAh ((l.getD (l.length - 2) 0 : Nat) : Int) 6 = some ((l.getD (l.length - 2) 0 / 2 ^ 6 : Nat) : Int) from n_shift (a := 6) hy (by omega), Option.bind_some, next_eq hx hy]
  show Option.bind (appI 8 (ci l) [((zFp l : Nat) : Int)]) _ = _
  rw [appI_ci (by omega), Option.bind_some]
  unfold zBA
  rw [show (l.length : Int) + 1 = (((l ++ [zFp l]).length : Nat) : Int) by simp, zBH (by simp; omega)]
  exact n_rl9b kl x7 z29 z28 x1 k (l ++ [zFp l]) (hl.app (zGi l)) (by simp; omega) (by simp; omega) fuel (by omega)
theorem zGo : ∀ (n i : Nat) (b : List UInt8), i < n → (wds n b).take (i + 1) = (wds n b).take i ++ [wd ((b.drop (8 * i)).take 8)]
 | n + 1, 0, b, _ => rfl
 | n + 1, i + 1, b, h => by
  rw [wds, List.take_succ_cons, zGo n i (b.drop 8) (by omega), List.take_succ_cons, List.drop_drop, show 8 + 8 * i = 8 * (i + 1) by omega]
  rfl
theorem n_rl9a (kl : List Int → Int → Option (List UInt8)) (x7 : List UInt8) (q : Nat) (hq : 128 * q + 128 ≤ x7.length) (hb : x7.length ≤ 2000000000) (z28 x1 : List Int) : ∀ (k i : Nat), i + k = 16 → ∀ fuel, k + 64 < fuel → yD kl x7 ((128 * q : Nat) : Int) z28 x1 fuel (i : Int) (ci ((wds 16 ((x7.drop (128 * q)).take 128)).take i)) = zAw kl z28 x1 ((128 * q : Nat) : Int) (ci (wext 64 (wds 16 ((x7.drop (128 * q)).take 128))))
 | 0, i, hi, fuel, hf => by
  have hl : (wds 16 ((x7.drop (128 * q)).take 128)).length = 16 := zCU _ _
  have h := n_rl9b kl x7 ((128 * q : Nat) : Int) z28 x1 64 _ (wds_64 16 ((x7.drop (128 * q)).take 128)) (by omega) (by omega) fuel (by omega)
  rw [hl] at h
  rw [show i = 16 by omega, List.take_of_length_le (by omega)]
  exact h
 | k + 1, i, hi, fuel + 1, hf => by
  unfold yD
  have hw : wi (8 * (i : Int)) = ((8 * i : Nat) : Int) := by rw [zDO (by omega) (by omega)]; omega
  have hw2 : wi (((128 * q : Nat) : Int) + ((8 * i : Nat) : Int)) = ((128 * q + 8 * i : Nat) : Int) := by rw [← Int.natCast_add, zBH (by omega)]
  have hw3 : wi (((128 * q + 8 * i : Nat) : Int) + 8) = ((128 * q + 8 * i + 8 : Nat) : Int) := by rw [zDO (by omega) (by omega)]; omega
  have hc : cutI x7 ((128 * q + 8 * i : Nat) : Int) ((128 * q + 8 * i + 8 : Nat) : Int) = some ((((x7.drop (128 * q)).take 128).drop (8 * i)).take 8) := by
   unfold cutI
   rw [if_pos (by omega), Int.toNat_natCast, Int.toNat_natCast]
   refine congrArg some ?_
   rw [List.drop_take, List.drop_take, List.take_take, List.drop_drop, show min 8 (128 - 8 * i) = 8 by omega, show 128 * q + 8 * i + 8 - (128 * q + 8 * i) = 8 by omega]
  have hl8 : ((((x7.drop (128 * q)).take 128).drop (8 * i)).take 8).length ≤ 8 := by rw [List.length_take]; omega
  have hlt : ((wds 16 ((x7.drop (128 * q)).take 128)).take i).length ≤ 1000 := by rw [List.length_take, zCU]; omega
  rw [yA (by omega), cond_true, yA (by omega), cond_true, hw, hw2, hw3, hc, Option.bind_some, n_wide hl8, Option.bind_some, appI_ci hlt, Option.bind_some, ← zGo 16 i _ (by omega)]
  unfold zBA
  rw [zAN (by omega)]
  exact n_rl9a kl x7 q hq hb z28 x1 k (i + 1) (by omega) fuel (by omega)
end Go.Proofs.YtmgafkpkpmjieaaDoor

/-
 The plain law of the sums: the document's sum, whole.
-/
namespace Go.Proofs.YtmgafkpkpmjieaaDoor
open Go Go.RowKit
set_option linter.unusedVariables false
set_option linter.unusedSimpArgs false
set_option maxRecDepth 20000
attribute [local irreducible] zB8
theorem n_rl5 {ks : List Nat} (hk : ks.length = 80) (x7 : List UInt8) (Q : Nat) (hx : x7.length = 128 * Q) (hb : x7.length ≤ 2000000000) : ∀ (k q : Nat) (s : St8), q + k = Q → s.Ok → ∀ fuel, k < fuel → qT x7 (ci ks) fuel (ci s.l) ((128 * q : Nat) : Int) = zB7 (ci (byP (zB8 ks) k (x7.drop (128 * q)) s).l)
 | 0, q, s, hq, ho, fuel + 1, hf => by
  unfold qT
  rw [qM (by omega), cond_false, byP_z]
 | k + 1, q, s, hq, ho, fuel + 1, hf => by
  unfold qT
  have hw : (wext 64 (wds 16 ((x7.drop (128 * q)).take 128))).length = 80 := by rw [zFG, zCU]
  have e : zB8 ks s ((x7.drop (128 * q)).take 128) = upS s (it (rndA ks (wext 64 (wds 16 ((x7.drop (128 * q)).take 128)))) 80 0 s) := by unfold zB8; rfl
  rw [yA (by omega), cond_true]
  refine (n_rl9a (qT x7 (ci ks) fuel) x7 q (by omega) hb (ci s.l) (ci ks) 16 0 (by omega) (Int.toNat 80 + 1) (by decide)).trans ?_
  rw [n_rj6 hk hw _ ho, ← e, show ((128 * q : Nat) : Int) + 128 = ((128 * (q + 1) : Nat) : Int) by omega, zBH (by omega), n_rl5 hk x7 Q hx hb k (q + 1) _ (by omega) (zEZ _ _ _) fuel (by omega), zHO, List.drop_drop, show 128 * q + 128 = 128 * (q + 1) by omega]
theorem set0 (d : List UInt8) (k : Nat) (v : UInt8) : (d ++ List.replicate (k + 1) 0).set d.length v = (d ++ [v]) ++ List.replicate k 0 := by
 rw [List.set_append_right _ _ (Nat.le_refl _), Nat.sub_self, List.replicate_succ, List.set_cons_zero]
 simp
theorem n_o4 (kl : Int → List UInt8 → Option (List UInt8)) (l : List Nat) (i : Nat) (hi : i < l.length) (h8 : l.length = 8) (hx : l.getD i 0 < 18446744073709551616) : ∀ (j : Nat) (sc z17 : Int) (d : List UInt8) (r : Nat), (j ≠ 0 → sc = ((256 ^ (j - 1) : Nat) : Int)) → z17 = 8 - (j : Int) → j ≤ 8 → d.length + j = 8 * i + 8 → d.length + j + r = 64 → ∀ fuel, j < fuel → zAt kl (ci l) (i : Int) fuel sc z17 (d ++ List.replicate (j + r) 0) = zB6 kl (i : Int) ((d ++ be j (l.getD i 0)) ++ List.replicate r 0)
 | 0, sc, z17, d, r, hs, hz, hj, hd, hr, fuel + 1, hf => by
  unfold zAt
  rw [qM (by omega), cond_false, show be 0 (l.getD i 0) = [] from rfl, List.append_nil, Nat.zero_add]
 | j + 1, sc, z17, d, r, hs, hz, hj, hd, hr, fuel + 1, hf => by
  unfold zAt
  have hsc : sc = ((256 ^ j : Nat) : Int) := hs (by omega)
  have hat : wi (wi (8 * (i : Int)) + z17) = ((d.length : Nat) : Int) := by rw [zDO (z := 8 * (i : Int)) (by omega) (by omega), zDO (by omega) (by omega)]; omega
  have hg : idxA 64 (d ++ List.replicate (j + 1 + r) 0) ((d.length : Nat) : Int) = some (0 : UInt8) := by
   unfold idxA
   rw [if_pos ⟨by omega, by omega⟩, Int.toNat_natCast, List.getElem?_append_right (Nat.le_refl _), Nat.sub_self, show j + 1 + r = (j + r) + 1 by omega, List.replicate_succ]
   rfl
  rw [yA (by omega), cond_true, zFu hi, Option.bind_some, hsc, quo_pow hx, Option.bind_some, hat, hg, Option.bind_some, u8_mod, Int.toNat_natCast, show j + 1 + r = (j + r) + 1 by omega, set0, zDO (by omega) (by omega), zGD]
  rw [n_o4 kl l i hi h8 hx j _ (z17 + 1) _ r (fun h0 => by
   obtain ⟨q, rfl⟩ : ∃ q, j = q + 1 := ⟨j - 1, by omega⟩
   rw [zEo (by omega)]
   rfl) (by omega) (by omega) (by rw [List.length_append]; simp only [List.length_cons, List.length_nil]; omega) (by rw [List.length_append]; simp only [List.length_cons, List.length_nil]; omega) fuel (by omega)]
  simp only [List.append_assoc, List.cons_append, List.nil_append]
theorem n_o2 (l : List Nat) (h8 : l.length = 8) (hl : zEf l) : ∀ (k i : Nat) (d : List UInt8), i + k = 8 → d.length = 8 * i → ∀ fuel, k < fuel → yQ (ci l) fuel (i : Int) (d ++ List.replicate (8 * k) 0) = some (d ++ (l.drop i).flatMap (be 8))
 | 0, i, d, hi, hd, fuel + 1, hf => by
  unfold yQ
  rw [qM (by omega), cond_false, List.drop_of_length_le (by omega), show (List.replicate (8 * 0) (0 : UInt8)) = [] from rfl, List.append_nil, zEV (by omega), Option.bind_some]
  simp
 | k + 1, i, d, hi, hd, fuel + 1, hf => by
  unfold yQ
  have hlt : i < l.length := by omega
  have h := n_o4 (yQ (ci l) fuel) l i hlt h8 (hl.get i) 8 72057594037927936 0 d (8 * k) (fun _ => rfl) (by omega) (by omega) (by omega) (by omega) (Int.toNat 8 + 1) (by decide)
  rw [show 8 + 8 * k = 8 * (k + 1) by omega] at h
  rw [yA (by omega), cond_true, h]
  unfold zB6
  rw [zAN (by omega), n_o2 l h8 hl k (i + 1) _ (by omega) (by rw [List.length_append, yV]; omega) fuel (by omega), List.drop_eq_getElem_cons hlt, List.flatMap_cons, List.append_assoc, List.getD_eq_getElem?_getD, List.getElem?_eq_getElem hlt]
  rfl
theorem St8.Ok.all {s : St8} (h : s.Ok) : zEf s.l := by
 intro x hx
 unfold St8.l at hx
 simp only [List.mem_cons, List.not_mem_nil, or_false] at hx
 rcases hx with rfl | rfl | rfl | rfl | rfl | rfl | rfl | rfl
 · exact h.a
 · exact h.b
 · exact h.c
 · exact h.d
 · exact h.e
 · exact h.f
 · exact h.g
 · exact h.h
theorem n_told : zDC = some (ci kN) := by
 unfold zDC
 refine congrArg some ?_
 kernel_rfl
theorem n_rbegin : zCY = some (ci s0N.l) := by
 unfold zCY
 refine congrArg some ?_
 kernel_rfl
attribute [local irreducible] byP kN s0N
theorem n_RSum (m : List UInt8) (hm : m.length ≤ 900000000) : zCR m = some (zFf m) := by
 have hp : (padN m.length).length ≤ 200 := by
  unfold padN
  rw [List.length_cons, List.length_append, List.length_replicate, yV]
  omega
 have hmod := padN_len m.length
 have hlen : (m ++ padN m.length).length = 128 * ((m ++ padN m.length).length / 128) := by
  rw [List.length_append]
  omega
 have hle : (m ++ padN m.length).length ≤ 2000000000 := by rw [List.length_append]; omega
 unfold zCR
 rw [n_told, Option.bind_some, yC (by simp only [List.length_nil]; omega), List.nil_append, Option.bind_some, n_rpad (by omega), Option.bind_some, yC (by omega), Option.bind_some, n_rbegin, Option.bind_some]
 refine (n_rl5 kN_len (m ++ padN m.length) ((m ++ padN m.length).length / 128) hlen hle ((m ++ padN m.length).length / 128) 0 s0N (by omega) zGq _ (by omega)).trans ?_
 rw [Nat.mul_zero, List.drop_zero]
 have hok := stt_ok kN zGq (m ++ padN m.length)
 unfold zB7
 have h := n_o2 _ rfl hok.all 8 0 [] (by omega) rfl (Int.toNat 8 + 1) (by decide)
 rw [List.drop_zero, List.nil_append, List.nil_append] at h
 exact h
theorem zGs (b : List UInt8) (hb : b.length = 64) : ∀ (k i : Nat), i + k = 64 → ∀ fuel, k < fuel → zAV b fuel (b.take i) (i : Int) = some b
 | 0, i, hi, fuel + 1, hf => by
  unfold zAV
  rw [qM (by omega), cond_false, List.take_of_length_le (by omega)]
 | k + 1, i, hi, fuel + 1, hf => by
  unfold zAV
  have hlt : i < b.length := by omega
  have hg : idxA 64 (padA (0 : UInt8) b 0 64) (i : Int) = some b[i] := by
   rw [zBv hb]
   unfold idxA
   rw [if_pos ⟨by omega, by omega⟩, Int.toNat_natCast, List.getElem?_eq_getElem hlt]
  rw [yA (by omega), cond_true, hg, Option.bind_some, yC (by rw [List.length_take]; simp only [List.length_cons, List.length_nil]; omega), Option.bind_some, ← zAE hlt, zAN (by omega)]
  exact zGs b hb k (i + 1) (by omega) fuel (by omega)
theorem n_list {b : List UInt8} (hb : b.length = 64) : zDD b = some b := zGs b hb 64 0 (by omega) _ (by decide)
end Go.Proofs.YtmgafkpkpmjieaaDoor

/-
 The plain law of the lots: the document's numbers; keys of 128 bytes; tags.
-/
namespace Go.Proofs.YtmgafkpkpmjieaaDoor
open Go Go.RowKit
set_option linter.unusedVariables false
set_option linter.unusedSimpArgs false
set_option maxRecDepth 20000
theorem U8_nat {n : Nat} (h : n < 256) : U8 (n : Int) = UInt8.ofNat n := by
 unfold U8
 congr 1
 omega
theorem zD6 (k : Nat) (hk : k ≤ 8) : ∀ (n i m : Nat) (out : List UInt8), i ≤ k → k - i < n → out.length = i → m ≤ 4611686018427387904 → zAk (k : Int) n (m : Int) out (i : Int) = some (if 0 < m / 256 ^ (k - i) then ([], 2) else (out ++ le (k - i) m, 0))
 | 0, i, m, out, _, h, _, _ => by omega
 | n + 1, i, m, out, hi, h, ho, hm => by
  unfold zAk
  by_cases hlt : i < k
  ·
   rw [zDn (yA (by omega)), yC (by simp; omega), Option.bind_some, zAN (by omega)]
   have e1 : Int.tdiv (m : Int) 256 = ((m / 256 : Nat) : Int) := rfl
   have e2 : Int.tmod (m : Int) 256 = ((m % 256 : Nat) : Int) := rfl
   rw [e1, e2, zDO (by omega) (by omega), U8_nat (by omega), zD6 k hk n (i + 1) (m / 256) _ (by omega) (by omega) (by simp [ho]) (by omega)]
   obtain ⟨j, hj⟩ : ∃ j, k - i = j + 1 := ⟨k - i - 1, by omega⟩
   rw [show k - (i + 1) = j by omega, hj, Nat.div_div_eq_div_mul, ← Nat.pow_succ', le]
   simp
  ·
   have e : k - i = 0 := by omega
   rw [zCE (qM (by omega)), e]
   unfold zCy
   by_cases h0 : 0 < m
   · rw [zDn (yA (by omega)), if_pos (by simpa using h0)]
   ·
    rw [zCE (qM (by omega)), if_neg (by simpa using h0)]
    simp [le]
theorem zC5 (b : List UInt8) (hb : b.length ≤ 4611686018427387904) : ∀ (n i : Nat) (out : List UInt8), i ≤ b.length → i < n → out.length + i ≤ 1000000000 → zAS b n out ((i : Int) - 1) = some (out ++ (b.take i).reverse)
 | 0, i, out, _, h, _ => by omega
 | n + 1, i, out, hi, h, ho => by
  unfold zAS
  cases i with
  | zero =>
   rw [zCE (qM (by omega))]
   simp
  | succ i =>
   rw [zDn (yA (by omega)), show ((i + 1 : Nat) : Int) - 1 = (i : Int) by omega, zCw (by omega), Option.bind_some, yC (by simp; omega), Option.bind_some, zDO (by omega) (by omega),
    zC5 b hb n i _ (by omega) (by omega) (by simp; omega), ← List.take_append_getElem (by omega : i < b.length), List.reverse_append]
   simp
theorem zFl {n k : Nat} (h : n < 256 ^ k) (h1 : 1 ≤ k) (h8 : k ≤ 8) (hn : n ≤ 4611686018427387904) : zBo (n : Int) (k : Int) = some (be k n, 0) := by
 unfold zBo zEa
 rw [zCE (qM (by omega)), zCE (qM (by omega)), zCE (qM (by omega)), zCE (qM (by omega)), Int.toNat_natCast]
 have hl := zD6 k h8 (k + 1) 0 n [] (by omega) (by omega) rfl hn
 rw [Nat.sub_zero, if_neg (by rw [Nat.div_eq_of_lt h]; omega)] at hl
 show Option.bind (zAk (k : Int) (k + 1) (n : Int) [] ((0 : Nat) : Int)) _ = _
 rw [hl, Option.bind_some]
 show Option.bind (zB4 (le k n)) _ = _
 unfold zB4
 rw [yS, zDO (by omega) (by omega)]
 have ht := zC5 (le k n) (by rw [yS]; omega) (Int.toNat ((k : Int) - 1) + 2) k [] (by rw [yS]; exact Nat.le_refl _) (by omega) (by simp; omega)
 rw [ht, Option.bind_some, show (le k n).take k = le k n from List.take_of_length_le (by rw [yS]; exact Nat.le_refl _)]
 rfl
theorem zDV (a b : List UInt8) (hl : a.length = b.length) (hb : a.length < 4611686018427387904) : ∀ (n i : Nat), i ≤ a.length → a.length - i < n → zA6 a b n (i : Int) = some (a.drop i == b.drop i)
 | 0, i, _, h => by omega
 | n + 1, i, hi, h => by
  unfold zA6
  by_cases hlt : i < a.length
  ·
   have hlb : i < b.length := by omega
   rw [zDn (yA (by omega)), zCw hlt, Option.bind_some, zCw hlb, Option.bind_some, zAN (by omega), zDV a b hl hb n (i + 1) (by omega) (by omega)]
   have ha : a.drop i = a[i] :: a.drop (i + 1) := List.drop_eq_getElem_cons hlt
   have hb : b.drop i = b[i] :: b.drop (i + 1) := List.drop_eq_getElem_cons hlb
   rw [ha, hb]
   generalize a[i] = x
   generalize b[i] = y
   by_cases he : x = y
   ·
    subst he
    rw [zCE (zFI rfl)]
    simp
   ·
    rw [zDn (ine_t (fun h => he (UInt8.toNat_inj.1 (by omega))))]
    simp [he]
  ·
   rw [zCE (qM (by omega)), List.drop_eq_nil_of_le (by omega), List.drop_eq_nil_of_le (by omega)]
   rfl
theorem zHJ (a b : List UInt8) (hb : a.length < 4611686018427387904) : zDF a b = some (a == b) := by
 unfold zDF
 by_cases hl : a.length = b.length
 ·
  rw [zCE (zFI (by omega))]
  exact zDV a b hl hb _ 0 (Nat.zero_le _) (by omega)
 ·
  rw [zDn (ine_t (by omega))]
  congr 1
  symm
  rw [beq_eq_false_iff_ne]
  exact fun e => hl (by rw [e])
theorem n_wput {n k : Nat} (h : n < 256 ^ k) (h1 : 1 ≤ k) (h8 : k ≤ 8) (hn : n ≤ 4611686018427387904) : zAv (n : Int) (k : Int) = some (be k n, 0) := by
 unfold zAv
 rw [if_pos ⟨by omega, by omega, by omega, by omega, by simpa using h⟩]
 simp
def xb (c x : UInt8) : UInt8 := U8 ((((BitVec.ofInt IntKind.u8.bits (x.toNat : Int)) ^^^ (BitVec.ofInt IntKind.u8.bits (c.toNat : Int))).toNat : Nat) : Int)
theorem xb54 : xb 54 0 = 54 := by decide
theorem xb92 : xb 92 0 = 92 := by decide
def yY (p : List UInt8) : List UInt8 := p ++ List.replicate (128 - p.length) 0
theorem zBp {p : List UInt8} (h : p.length ≤ 128) : (yY p).length = 128 := by
 unfold yY
 rw [List.length_append, List.length_replicate]
 omega
def kpad (p : List UInt8) (c : UInt8) : List UInt8 := (yY p).map (xb c)
theorem zDH {p : List UInt8} (h : p.length ≤ 128) (c : UInt8) : (kpad p c).length = 128 := by
 unfold kpad
 rw [List.length_map, zBp h]
attribute [local irreducible] xb
theorem mid_idx (f : UInt8 → UInt8) (l : List UInt8) (i : Nat) (h : i < l.length) : idx ((l.take i).map f ++ l.drop i) (i : Int) = some l[i] := by
 have hl : ((l.take i).map f).length = i := by rw [List.length_map, List.length_take]; omega
 unfold idx
 rw [yA (by omega), cond_true, Int.toNat_natCast, List.getElem?_append_right (by omega), hl, Nat.sub_self, List.drop_eq_getElem_cons h]
 rfl
theorem mid_set (f : UInt8 → UInt8) (l : List UInt8) (i : Nat) (h : i < l.length) : ((l.take i).map f ++ l.drop i).set i (f l[i]) = (l.take (i + 1)).map f ++ l.drop (i + 1) := by
 have hl : ((l.take i).map f).length = i := by rw [List.length_map, List.length_take]; omega
 rw [List.set_append_right _ _ (by omega), hl, Nat.sub_self, List.drop_eq_getElem_cons h, List.set_cons_zero, zAE h, List.map_append, List.append_assoc]
 rfl
theorem zGY (c : UInt8) (l : List UInt8) (hl : l.length = 128) : ∀ (k i : Nat), i + k = 128 → ∀ fuel, k < fuel → yM 128 c fuel (i : Int) ((l.take i).map (xb c) ++ l.drop i) = some (l.map (xb c))
 | 0, i, hi, fuel + 1, hf => by
  unfold yM
  rw [qM (by omega), cond_false, List.take_of_length_le (by omega), List.drop_of_length_le (by omega), List.append_nil]
 | k + 1, i, hi, fuel + 1, hf => by
  unfold yM
  have hlt : i < l.length := by omega
  rw [yA (by omega), cond_true, mid_idx _ l i hlt, Option.bind_some, Option.bind_some, Int.toNat_natCast]
  show yM 128 c fuel (wi ((i : Int) + 1)) (((l.take i).map (xb c) ++ l.drop i).set i (U8 ((((BitVec.ofInt IntKind.u8.bits (l[i].toNat : Int)) ^^^ (BitVec.ofInt IntKind.u8.bits (c.toNat : Int))).toNat : Nat) : Int))) = _
  rw [show U8 ((((BitVec.ofInt IntKind.u8.bits (l[i].toNat : Int)) ^^^ (BitVec.ofInt IntKind.u8.bits (c.toNat : Int))).toNat : Nat) : Int) = xb c l[i] by unfold xb; rfl, mid_set _ l i hlt, zAN (by omega)]
  exact zGY c l hl k (i + 1) (by omega) fuel (by omega)
theorem n_dpad {p : List UInt8} (h : p.length ≤ 128) (c : UInt8) : zBX p c = some (kpad p c) := by
 unfold zBX
 rw [qM (by omega), cond_false]
 unfold zA1
 have hc : cpyI (List.replicate 128 (0 : UInt8)) 0 128 p = some (yY p) := by
  unfold cpyI cpyL yY
  rw [if_pos (by simp), List.take_zero, List.nil_append, List.take_of_length_le h, List.drop_replicate, Nat.zero_add, show min p.length 128 = p.length by omega]
 rw [show mkI 1 128 = some 128 from rfl, Option.bind_some, hc, Option.bind_some, zEV (by rw [zBp h, List.length_replicate]), Option.bind_some]
 exact zGY c (yY p) (zBp h) 128 0 (by omega) (Int.toNat ((128 : Nat) : Int) + 1) (by decide)
theorem zFq {c : UInt8} (hc : xb c 0 = c) (p : List UInt8) (h : p.length ≤ 128) : ∀ (k i : Nat), i + k = 128 → ∀ fuel, k < fuel → yP p c fuel (((yY p).take i).map (xb c)) (i : Int) = some ((yY p).map (xb c))
 | 0, i, hi, fuel + 1, hf => by
  unfold yP
  rw [qM (by omega), cond_false, List.take_of_length_le (by rw [zBp h]; omega)]
 | k + 1, i, hi, fuel + 1, hf => by
  unfold yP
  have hw := zBp h
  have hlt : i < (yY p).length := by omega
  have hl : (((yY p).take i).map (xb c)).length = i := by rw [List.length_map, List.length_take]; omega
  rw [yA (by omega), cond_true]
  have key : ∀ v, xb c (yY p)[i] = v → Option.bind (appI 1 (((yY p).take i).map (xb c)) [v]) (fun x9 => zBW (yP p c fuel) (i : Int) x9) = some ((yY p).map (xb c)) := fun v hv => by
   rw [yC (by rw [hl]; simp only [List.length_cons, List.length_nil]; omega), Option.bind_some, ← hv]
   unfold zBW
   rw [show ((yY p).take i).map (xb c) ++ [xb c (yY p)[i]] = ((yY p).take (i + 1)).map (xb c) by rw [zAE hlt, List.map_append]; rfl, zAN (by omega)]
   exact zFq hc p h k (i + 1) (by omega) fuel (by omega)
  by_cases hp : i < p.length
  ·
   rw [yA (by omega), cond_true, zCw hp, Option.bind_some]
   refine key _ ?_
   have e : (yY p)[i] = p[i] := List.getElem_append_left hp
   rw [e]
   unfold xb
   rfl
  ·
   rw [qM (by omega), cond_false]
   refine key _ ?_
   have e0 : (yY p)[i]? = some 0 := by
    unfold yY
    rw [List.getElem?_append_right (by omega), List.getElem?_replicate, if_pos (by omega)]
   have e : (yY p)[i] = 0 := Option.some.inj ((List.getElem?_eq_getElem hlt).symm.trans e0)
   rw [e, hc]
theorem n_rkpad {c : UInt8} (hc : xb c 0 = c) {p : List UInt8} (h : p.length ≤ 128) : zCx p c = some (kpad p c) := by
 unfold zCx
 rw [qM (by omega), cond_false]
 unfold zB9
 exact zFq hc p h 128 0 (by omega) (Int.toNat 128 + 1) (by decide)
attribute [local irreducible] zFf kpad
def tagN (p m : List UInt8) : List UInt8 := zFf (kpad p 92 ++ zFf (kpad p 54 ++ m))
theorem zDb (p m : List UInt8) : (tagN p m).length = 64 := zCN _
theorem cut64 {b : List UInt8} (h : b.length = 64) : cutI (padA (0 : UInt8) b 0 64) 0 64 = some b := by
 rw [zBv h]
 have := zDg (l := b) (n := 64) (by omega)
 rw [List.take_of_length_le (by omega)] at this
 exact this
theorem n_dtag {p : List UInt8} (h : p.length ≤ 128) (ps : List (List UInt8)) (hp : ps.length ≤ 1000) (hs : ps.flatten.length ≤ 100000000) : zBx p ps = some (tagN p ps.flatten) := by
 unfold zBx
 rw [n_dpad h, Option.bind_some, yC (by simp only [List.length_cons, List.length_nil]; omega), Option.bind_some, n_Sum _ (by rw [List.singleton_append, List.flatten_cons, List.length_append, zDH h]; omega) (by rw [List.singleton_append, List.length_cons]; omega), Option.bind_some, n_dpad h, Option.bind_some, cut64 (zCN _), Option.bind_some, n_Sum _ (by simp only [List.flatten_cons, List.flatten_nil, List.length_append, List.length_nil, zDH h, zCN]; omega) (by simp), Option.bind_some]
 unfold tagN
 simp only [List.singleton_append, List.flatten_cons, List.flatten_nil, List.append_nil]
theorem n_rtag {p : List UInt8} (h : p.length ≤ 128) (m : List UInt8) (hs : m.length ≤ 100000000) : zDf p m = some (tagN p m) := by
 unfold zDf
 rw [n_rkpad xb54 h, Option.bind_some, yC (by rw [zDH h]; omega), Option.bind_some, n_rkpad xb92 h, Option.bind_some, n_RSum _ (by rw [List.length_append, zDH h]; omega), Option.bind_some, n_list (zCN _), Option.bind_some, yC (by rw [zDH h, zCN]; omega), Option.bind_some, n_RSum _ (by rw [List.length_append, zDH h, zCN]; omega), Option.bind_some]
 rfl
end Go.Proofs.YtmgafkpkpmjieaaDoor

/-
 The plain law of the lots: keys, lots, calls.
-/
namespace Go.Proofs.YtmgafkpkpmjieaaDoor
open Go Go.RowKit
set_option linter.unusedVariables false
set_option linter.unusedSimpArgs false
set_option maxRecDepth 20000
attribute [local irreducible] tagN be
def keyD (b : List UInt8) : List UInt8 := [3, 108, 111, 116] ++ (be 4 8 ++ b)
def lotN (s : List UInt8) (i : Nat) : List UInt8 := (tagN s (keyD (be 8 i))).take 32
theorem zGt (s : List UInt8) (i : Nat) : (lotN s i).length = 32 := by
 unfold lotN
 rw [List.length_take, zDb]
 rfl
theorem n_ctn {b : List UInt8} (hb : b.length = 8) : qU [b] yL = some false := by
 have h1 : yL b = some false := by
  unfold yL
  rw [qM (by omega)]
 unfold qU zAC
 have h2 : qB [b] yL ([b].length + 1) 0 = some (-1) := by
  show qB [b] yL 2 0 = _
  unfold qB
  rw [yA (by simp only [List.length_cons, List.length_nil]; omega), cond_true, zFA, Option.bind_some, h1, Option.bind_some, cond_false]
  rfl
 rw [h2]
 rfl
theorem n_dkey {s b : List UInt8} (hs : s.length = 32) (hb : b.length = 8) : zB0 s [108, 111, 116] [b] = some ((tagN s (keyD b)).take 32, 0) := by
 have h4 : zAv (b.length : Int) 4 = some (be 4 8, 0) := by
  rw [hb]
  exact n_wput (n := 8) (k := 4) (by decide) (by decide) (by decide) (by decide)
 have hst : strB [108, 111, 116] = some [108, 111, 116] := if_pos (by decide)
 unfold zB0
 rw [ieq_f (by omega), cond_false, qM (by simp only [List.length_cons, List.length_nil]; omega), cond_false, qM (by simp only [List.length_cons, List.length_nil]; omega), cond_false, n_ctn hb, Option.bind_some, cond_false, hst, Option.bind_some]
 show yX [b] s 2 _ 0 = _
 unfold yX
 rw [yA (by simp only [List.length_cons, List.length_nil]; omega), cond_true, zFA, Option.bind_some, h4, Option.bind_some, yC (by simp only [List.length_cons, List.length_nil]; omega), Option.bind_some]
 unfold yX
 rw [qM (by rw [zDO (by omega) (by omega)]; simp only [List.length_cons, List.length_nil]; omega), cond_false]
 unfold zBq
 have h4l : (be 4 8).length = 4 := yV _ _
 have hd : ([[(U8 (([108, 111, 116] : List UInt8).length : Int))], [108, 111, 116]] ++ [be 4 8, b]).flatten = keyD b := by
  unfold keyD
  simp only [List.cons_append, List.nil_append, List.flatten_cons, List.flatten_nil, List.append_nil]
  rfl
 have hkl : (keyD b).length = 16 := by unfold keyD; simp only [List.cons_append, List.nil_append, List.length_cons, List.length_append, h4l, hb]
 rw [n_dtag (by omega) _ (by simp only [List.cons_append, List.nil_append, List.length_cons, List.length_nil]; omega) (by rw [hd]; omega), Option.bind_some, hd, zBv (zDb _ _)]
 have hc : cutI (tagN s (keyD b)) 0 32 = some ((tagN s (keyD b)).take 32) := zDg (n := 32) (by rw [zDb]; omega)
 have hl : ((tagN s (keyD b)).take 32).length = 32 := by rw [List.length_take, zDb]; rfl
 rw [hc, Option.bind_some]
 unfold s2aI
 rw [if_pos (by omega), List.take_of_length_le (by omega), Option.bind_some]
theorem n_rkey4 (x : List UInt8) (hx : x.length = 64) : ∀ (k i : Nat), i + k = 32 → ∀ fuel, k < fuel → zAo x fuel (i : Int) (x.take i ++ List.replicate k 0) = some (x.take 32, 0)
 | 0, i, hi, fuel + 1, hf => by
  unfold zAo zCv
  rw [qM (by omega), cond_false, show i = 32 by omega, show List.replicate 0 (0 : UInt8) = [] from rfl, List.append_nil, zEV (by rw [List.length_take]; omega), Option.bind_some]
 | k + 1, i, hi, fuel + 1, hf => by
  unfold zAo
  have hlt : i < x.length := by omega
  have hti : (x.take i).length = i := by rw [List.length_take]; omega
  have hg : idxA 64 (padA (0 : UInt8) x 0 64) (i : Int) = some x[i] := by
   rw [zBv hx]
   unfold idxA
   rw [if_pos ⟨by omega, by omega⟩, Int.toNat_natCast, List.getElem?_eq_getElem hlt]
  have hg2 : idxA 32 (x.take i ++ List.replicate (k + 1) 0) (i : Int) = some (0 : UInt8) := by
   unfold idxA
   rw [if_pos ⟨by omega, by omega⟩, Int.toNat_natCast, List.getElem?_append_right (by omega), hti, Nat.sub_self, List.replicate_succ]
   rfl
  have hset := set0 (x.take i) k x[i]
  rw [hti, ← zAE hlt] at hset
  rw [yA (by omega), cond_true, hg, Option.bind_some, hg2, Option.bind_some, Int.toNat_natCast, hset, zAN (by omega)]
  exact n_rkey4 x hx k (i + 1) (by omega) fuel (by omega)
theorem n_rkey {s b : List UInt8} (hs : s.length = 32) (hb : b.length = 8) : zDU s [108, 111, 116] [b] = some ((tagN s (keyD b)).take 32, 0) := by
 have h4 : zBo (b.length : Int) 4 = some (be 4 8, 0) := by
  rw [hb]
  exact zFl (n := 8) (k := 4) (by decide) (by decide) (by decide) (by decide)
 have h4l : (be 4 8).length = 4 := yV _ _
 unfold zDU
 rw [ieq_f (by omega), cond_false, qM (by simp only [List.length_cons, List.length_nil]; omega), cond_false, qM (by simp only [List.length_cons, List.length_nil]; omega), cond_false]
 have h6 : zB2 [108, 111, 116] [b] s (([108, 111, 116] : List UInt8).length + 1) [(U8 (([108, 111, 116] : List UInt8).length : Int))] 0 = zBz [b] s [3, 108, 111, 116] := rfl
 rw [h6]
 unfold zBz
 show zAu [b] s 2 _ 0 = _
 unfold zAu
 rw [yA (by simp only [List.length_cons, List.length_nil]; omega), cond_true, zFA, Option.bind_some, h4, Option.bind_some]
 show Option.bind (appI 1 [3, 108, 111, 116] (be 4 8)) _ = _
 rw [yC (by rw [h4l]; simp only [List.length_cons, List.length_nil]; omega), Option.bind_some, Option.bind_some, yC (by rw [List.length_append, h4l, hb]; simp only [List.length_cons, List.length_nil]; omega), Option.bind_some]
 unfold zAu
 rw [qM (by rw [zDO (by omega) (by omega)]; simp only [List.length_cons, List.length_nil]; omega), cond_false]
 unfold zC3
 have hd : [3, 108, 111, 116] ++ be 4 8 ++ b = keyD b := by unfold keyD; rw [List.append_assoc]
 have hkl : (keyD b).length = 16 := by unfold keyD; simp only [List.cons_append, List.nil_append, List.length_cons, List.length_append, h4l, hb]
 rw [hd, n_rtag (by omega) _ (by omega), Option.bind_some, zEV (by rw [List.length_replicate]), Option.bind_some]
 exact n_rkey4 _ (zDb _ _) 32 0 (by omega) (Int.toNat 32 + 1) (by decide)
theorem cut32 {s : List UInt8} (hs : s.length = 32) : cutI (padA (0 : UInt8) s 0 32) 0 32 = some s := by
 rw [zBv hs]
 have := zDg (l := s) (n := 32) (by omega)
 rw [List.take_of_length_le (by omega)] at this
 exact this
theorem n_lot {s : List UInt8} (hs : s.length = 32) {i : Nat} (hi : i ≤ 1024) : zBU s (i : Int) = some (lotN s i, 0) := by
 have h8 : zAv (i : Int) 8 = some (be 8 i, 0) := n_wput (k := 8) (Nat.lt_of_le_of_lt hi (by decide)) (by decide) (by decide) (by omega)
 unfold zBU
 rw [qM (by omega), cond_false, qM (by omega), cond_false, h8, Option.bind_some, cut32 hs, Option.bind_some, n_dkey hs (yV _ _), Option.bind_some]
 rfl
theorem zFb (s : List UInt8) {i : Int} (hi : i < 0 ∨ 1024 < i) : zBU s i = some ([], 2) := by
 unfold zBU
 by_cases h : i < 0
 · rw [yA h, cond_true]
 · rw [qM h, cond_false, yA (by omega), cond_true]
theorem n_rlot {s : List UInt8} (hs : s.length = 32) {i : Nat} (hi : i ≤ 1024) : zCM s (i : Int) = some (lotN s i) := by
 have h8 : zBo (i : Int) 8 = some (be 8 i, 0) := zFl (k := 8) (Nat.lt_of_le_of_lt hi (by decide)) (by decide) (by decide) (by omega)
 unfold zCM
 rw [h8, Option.bind_some, cut32 hs, Option.bind_some, n_rkey hs (yV _ _), Option.bind_some]
 rfl
end Go.Proofs.YtmgafkpkpmjieaaDoor

/-
 The plain law of the lots: what is chosen is the document's call.
-/
namespace Go.Proofs.YtmgafkpkpmjieaaDoor
open Go Go.RowKit
set_option linter.unusedVariables false
set_option linter.unusedSimpArgs false
set_option maxRecDepth 20000
set_option maxHeartbeats 1000000
theorem n_named (c : UInt8) : ∀ n : Nat, n < 10 → qA [c] (n : Int) = qD c (n : Int)
 | 0, _ => rfl
 | 1, _ => rfl
 | 2, _ => rfl
 | 3, _ => rfl
 | 4, _ => rfl
 | 5, _ => rfl
 | 6, _ => rfl
 | 7, _ => rfl
 | 8, _ => rfl
 | 9, _ => rfl
 | n + 10, h => by omega
theorem zC8 (c : UInt8) (x k : Nat) (h0 : 0 < k) (h : k ≤ 10) : qA [c] (Int.tmod (x : Int) (k : Int)) = qD c (Int.tmod (x : Int) (k : Int)) := by
 have := Nat.mod_lt x h0
 exact n_named c (x % k) (by omega)
theorem kinds_in (x : UInt8) : ∃ K : Int, idx zAX (Int.tmod (x.toNat : Int) 17) = some K ∧ idx [2, 8, 8, 8, 5, 5, 6, 7, 9, 9, 10, 12, 13, 11, 3, 4, 14] (Int.tmod (x.toNat : Int) 17) = some K ∧ (K = 2 ∨ K = 3 ∨ K = 4 ∨ K = 5 ∨ K = 6 ∨ K = 7 ∨ K = 8 ∨ K = 9 ∨ K = 10 ∨ K = 11 ∨ K = 12 ∨ K = 13 ∨ K = 14) := by
 rw [show Int.tmod (x.toNat : Int) 17 = ((x.toNat % 17 : Nat) : Int) from rfl]
 have h := Nat.mod_lt x.toNat (show 0 < 17 by decide)
 generalize x.toNat % 17 = m at h
 rcases (show m = 0 ∨ m = 1 ∨ m = 2 ∨ m = 3 ∨ m = 4 ∨ m = 5 ∨ m = 6 ∨ m = 7 ∨ m = 8 ∨ m = 9 ∨ m = 10 ∨ m = 11 ∨ m = 12 ∨ m = 13 ∨ m = 14 ∨ m = 15 ∨ m = 16 by omega) with rfl | rfl | rfl | rfl | rfl | rfl | rfl | rfl | rfl | rfl | rfl | rfl | rfl | rfl | rfl | rfl | rfl <;> exact ⟨_, rfl, rfl, by decide⟩
section
variable {l : List UInt8} (hl : l.length = 32)
include hl
theorem g32 (i : Nat) (h : i < 32) : idxA 32 (padA (0 : UInt8) l 0 32) (i : Int) = some (l.getD i 0) := by
 rw [zBv hl]
 unfold idxA
 rw [if_pos ⟨by omega, by omega⟩, Int.toNat_natCast, List.getD_eq_getElem?_getD, List.getElem?_eq_getElem (by omega)]
 rfl
theorem n_c1 (i : Nat) (h : i < 32) (n : Int) (hn : n ≠ 0) : zF (i : Int) n l = some (Int.tmod ((l.getD i 0).toNat : Int) n) := by
 unfold zF remI
 rw [g32 hl i h, Option.bind_some, ine_t hn, cond_true, Option.bind_some]
theorem n_cut (n : Nat) (h : n ≤ 16) : cutI (padA (0 : UInt8) l 0 32) 16 (wi (16 + (n : Int))) = some ((l.drop 16).take n) := by
 rw [zBv hl, show (16 : Int) + (n : Int) = ((16 + n : Nat) : Int) by omega, zBH (by omega)]
 unfold cutI
 rw [if_pos ⟨by omega, by omega, by omega⟩, Int.toNat_natCast]
 refine congrArg some ?_
 rw [show Int.toNat 16 = 16 from rfl, List.drop_take, show 16 + n - 16 = n by omega]
theorem n_call6 (x8 : Int) (x12 x21 y26 y24 : List UInt8) (y25 y27 : Int) : ∀ (k i : Nat), i + k = (l.getD 6 0).toNat % 9 → ∀ fuel, k < fuel → zAD l x8 x12 x21 y26 y24 y25 y27 fuel ((l.drop 16).take i) (i : Int) = some (zD.mk x8 x12 x21 y26 y24 y25 y27 ((l.drop 16).take ((l.getD 6 0).toNat % 9)))
 | 0, i, hi, fuel + 1, hf => by
  unfold zAD
  rw [show idxA 32 (padA (0 : UInt8) l 0 32) 6 = some (l.getD 6 0) from g32 hl 6 (by omega), Option.bind_some, show Int.tmod ((l.getD 6 0).toNat : Int) 9 = (((l.getD 6 0).toNat % 9 : Nat) : Int) from rfl, qM (by omega), cond_false, show i = (l.getD 6 0).toNat % 9 by omega]
 | k + 1, i, hi, fuel + 1, hf => by
  unfold zAD
  have hlt : i < (l.drop 16).length := by rw [List.length_drop]; omega
  rw [show idxA 32 (padA (0 : UInt8) l 0 32) 6 = some (l.getD 6 0) from g32 hl 6 (by omega), Option.bind_some, show Int.tmod ((l.getD 6 0).toNat : Int) 9 = (((l.getD 6 0).toNat % 9 : Nat) : Int) from rfl, yA (by omega), cond_true, show (16 : Int) + (i : Int) = ((16 + i : Nat) : Int) by omega, zBH (by omega), g32 hl (16 + i) (by omega), Option.bind_some, yC (by rw [List.length_take]; simp only [List.length_cons, List.length_nil]; omega), Option.bind_some, show l.getD (16 + i) 0 = (l.drop 16)[i] by rw [List.getD_eq_getElem?_getD, List.getElem?_eq_getElem (by omega), List.getElem_drop]; rfl, ← zAE hlt, zAN (by omega)]
  exact n_call6 x8 x12 x21 y26 y24 y25 y27 k (i + 1) (by omega) fuel (by omega)
theorem n_chosen (s : List UInt8) (i : Int) (hi : 4 ≤ i) (hr : zCM s i = some l) : ∃ c, zBZ l = some c ∧ zAI s i = some c ∧ c.Data.length ≤ 16 := by
 have c0 : zF 0 17 l = _ := n_c1 hl 0 (by omega) 17 (by decide)
 have c1 : zF 1 4 l = _ := n_c1 hl 1 (by omega) 4 (by decide)
 have c2 : zF 2 5 l = _ := n_c1 hl 2 (by omega) 5 (by decide)
 have c3 : zF 3 2 l = _ := n_c1 hl 3 (by omega) 2 (by decide)
 have c4 : zF 4 4 l = _ := n_c1 hl 4 (by omega) 4 (by decide)
 have c5 : zF 5 3 l = _ := n_c1 hl 5 (by omega) 3 (by decide)
 have c6 : zF 6 9 l = _ := n_c1 hl 6 (by omega) 9 (by decide)
 have c73 : zF 7 3 l = _ := n_c1 hl 7 (by omega) 3 (by decide)
 have c74 : zF 7 4 l = _ := n_c1 hl 7 (by omega) 4 (by decide)
 have c76 : zF 7 6 l = _ := n_c1 hl 7 (by omega) 6 (by decide)
 have g0 : idxA 32 (padA (0 : UInt8) l 0 32) 0 = _ := g32 hl 0 (by omega)
 have g1 : idxA 32 (padA (0 : UInt8) l 0 32) 1 = _ := g32 hl 1 (by omega)
 have g2 : idxA 32 (padA (0 : UInt8) l 0 32) 2 = _ := g32 hl 2 (by omega)
 have g3 : idxA 32 (padA (0 : UInt8) l 0 32) 3 = _ := g32 hl 3 (by omega)
 have g4 : idxA 32 (padA (0 : UInt8) l 0 32) 4 = _ := g32 hl 4 (by omega)
 have g5 : idxA 32 (padA (0 : UInt8) l 0 32) 5 = _ := g32 hl 5 (by omega)
 have g7 : idxA 32 (padA (0 : UInt8) l 0 32) 7 = _ := g32 hl 7 (by omega)
 have q1 : qA [117] (Int.tmod ((l.getD 1 0).toNat : Int) 4) = qD 117 (Int.tmod ((l.getD 1 0).toNat : Int) 4) := zC8 117 (l.getD 1 0).toNat 4 (by decide) (by decide)
 have q2 : qA [102] (Int.tmod ((l.getD 2 0).toNat : Int) 5) = qD 102 (Int.tmod ((l.getD 2 0).toNat : Int) 5) := zC8 102 (l.getD 2 0).toNat 5 (by decide) (by decide)
 have q3 : qA [120] (Int.tmod ((l.getD 3 0).toNat : Int) 2) = qD 120 (Int.tmod ((l.getD 3 0).toNat : Int) 2) := zC8 120 (l.getD 3 0).toNat 2 (by decide) (by decide)
 have q74 : qA [117] (Int.tmod ((l.getD 7 0).toNat : Int) 4) = qD 117 (Int.tmod ((l.getD 7 0).toNat : Int) 4) := zC8 117 (l.getD 7 0).toNat 4 (by decide) (by decide)
 have q76 : qA [102] (Int.tmod ((l.getD 7 0).toNat : Int) 6) = qD 102 (Int.tmod ((l.getD 7 0).toNat : Int) 6) := zC8 102 (l.getD 7 0).toNat 6 (by decide) (by decide)
 have qd : qA [117] (Int.tmod (wi ((wi ((Int.tmod ((l.getD 1 0).toNat : Int) 4) + 1)) + (Int.tmod ((l.getD 7 0).toNat : Int) 3))) 4) = qD 117 (Int.tmod (wi ((wi ((Int.tmod ((l.getD 1 0).toNat : Int) 4) + 1)) + (Int.tmod ((l.getD 7 0).toNat : Int) 3))) 4) := by
  have e : wi ((wi ((Int.tmod ((l.getD 1 0).toNat : Int) 4) + 1)) + (Int.tmod ((l.getD 7 0).toNat : Int) 3)) = (((l.getD 1 0).toNat % 4 + 1 + (l.getD 7 0).toNat % 3 : Nat) : Int) := by
   rw [show Int.tmod ((l.getD 1 0).toNat : Int) 4 = (((l.getD 1 0).toNat % 4 : Nat) : Int) from rfl, show Int.tmod ((l.getD 7 0).toNat : Int) 3 = (((l.getD 7 0).toNat % 3 : Nat) : Int) from rfl, zAN (by omega), ← Int.natCast_add, zBH (by omega)]
  rw [e]
  exact zC8 117 _ 4 (by decide) (by decide)
 have hcut : cutI (padA (0 : UInt8) l 0 32) 16 (wi (16 + (Int.tmod ((l.getD 6 0).toNat : Int) 9))) = some ((l.drop 16).take ((l.getD 6 0).toNat % 9)) := n_cut hl ((l.getD 6 0).toNat % 9) (by omega)
 have hlen : ((l.drop 16).take ((l.getD 6 0).toNat % 9)).length ≤ 16 := by rw [List.length_take]; omega
 have happ : appI 1 [] ((l.drop 16).take ((l.getD 6 0).toNat % 9)) = some ((l.drop 16).take ((l.getD 6 0).toNat % 9)) := by
  rw [yC (by simp only [List.length_nil]; omega), List.nil_append]
 have h6 : ∀ (x8 : Int) (x12 x21 y26 y24 : List UInt8) (y25 y27 : Int), zAD l x8 x12 x21 y26 y24 y25 y27 10 [] 0 = some (zD.mk x8 x12 x21 y26 y24 y25 y27 ((l.drop 16).take ((l.getD 6 0).toNat % 9))) := fun x8 x12 x21 y26 y24 y25 y27 => n_call6 hl x8 x12 x21 y26 y24 y25 y27 ((l.getD 6 0).toNat % 9) 0 (by omega) 10 (by omega)
 obtain ⟨K, k1, k2, hK⟩ := kinds_in (l.getD 0 0)
 unfold zBZ zAI
 rw [qM (by omega), cond_false, hr, Option.bind_some, c0, g0, Option.bind_some, Option.bind_some, k1, k2, Option.bind_some, Option.bind_some, c1, g1, Option.bind_some, Option.bind_some, q1]
 clear k1 k2 hr c0 g0
 generalize l.getD 1 0 = b1 at *
 generalize l.getD 2 0 = b2 at *
 generalize l.getD 3 0 = b3 at *
 generalize l.getD 4 0 = b4 at *
 generalize l.getD 5 0 = b5 at *
 generalize l.getD 6 0 = b6 at *
 generalize l.getD 7 0 = b7 at *
 have hn : ∀ (c : UInt8) (z : Int), qD c z = some [c, U8 (48 + ((U8 z).toNat : Int))] := fun _ _ => rfl
 rcases hK with rfl | rfl | rfl | rfl | rfl | rfl | rfl | rfl | rfl | rfl | rfl | rfl | rfl
 all_goals simp [zA3, zA7, zA2, zDS, zAW, zBC, zA4, zAB, zBg, zBi, hn, c1, c2, c3, c4, c5, c6, c73, c74, c76, g1, g2, g3, g4, g5, g7, q1, q2, q3, q74, q76, qd, hcut, happ, h6, -List.length_take, hlen]
 all_goals
  generalize decide (Int.tmod (b7.toNat : Int) 6 < 5) = d1
  generalize (U8 (48 + ((U8 (Int.tmod (b7.toNat : Int) 6)).toNat : Int)) == U8 (48 + ((U8 (Int.tmod (b2.toNat : Int) 5)).toNat : Int))) = d2
  cases d1 <;> cases d2 <;> simp
end
end Go.Proofs.YtmgafkpkpmjieaaDoor
