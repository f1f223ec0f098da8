/-
  Texts joined: see the remark at the head of each part.
-/
import Derived.Test.YtjomnccladjpgaaGreatQ09
import Derived.Test.YtjomnccladjpgaaGreatQ04
import Derived.Test.YtjomnccladjpgaaGreatQ05
import Derived.Lib.AppendZeros
import Derived.MapKept
import Derived.Test.YtjomnccladjpgaaGreatQ07
import Derived.WalkSpells
import Derived.Lib.BufferWrite
set_option linter.unusedVariables false
set_option linter.unusedSimpArgs false
/-
 The contracts of word.Low, slices.Clone, slices.Reverse, word.turned and word.Put at bytes.
-/
namespace Go.Proofs.YtjomnccladjpgaaGreat
open Go.RowKit
theorem pow8 (k : Nat) : 2 ^ (8 * k) = 256 ^ k := by rw [Nat.pow_mul]
theorem div8 (n k : Nat) : ((n : Int) / 2 ^ (8 * k)) = ((n / 256 ^ k : Nat) : Int) := by
 rw [← pow8, Int.natCast_ediv, Int.natCast_pow]
 rfl
theorem fill_step (n k size : Nat) (h : k < size) : (le k n ++ List.replicate (size - k) 0).set k (UInt8.ofNat (n / 256 ^ k % 256)) = le (k + 1) n ++ List.replicate (size - (k + 1)) 0 := by
 rw [List.set_append_right _ _ (by rw [zBl]; omega), zBl, Nat.sub_self, le_snoc, List.append_assoc]
 congr 1
 rw [show size - k = (size - (k + 1)) + 1 by omega, List.replicate_succ]
 rfl
set_option maxHeartbeats 2000000 in
theorem low_any (n size : Nat) (w : World) (hn : n ≤ 4611686018427387904) (h1 : 1 ≤ size) (h8 : size ≤ 8) (hw : wid n ≤ size) :
  Calls Tryz.prog 90 #[.int .i64 n, .int .i64 size] w (zJi (le size n) 0 w) := by
 have hd : ((n : Int) / 2 ^ (8 * size) != 0) = false := by
  rw [div8, Nat.div_eq_of_lt ((lt_wid _ n).2 hw)]
  rfl
 go_enter Tryz.func90, Tryz.ntmps90
 go_wp2_with (first | (at_make; go_loud (refine zKs _ Tryz.underlying40 (by kernel_rfl) rfl _ _ rfl w.heap.size _ _ _ _ size rfl rfl rfl rfl (by omega) (Nat.le_refl _) ?_)))
 all_goals
  intro w1 hO1 hg1
  have hB1 : Below w.heap.size w w1 := (Below.refl _ _).grown hg1 (Nat.le_refl _) (by simp)
  have hsz1 := hO1.lt _ rfl
  clear hg1
  go_wp2_with fail
  go_loopw [38] (fun i wr => ∃ k : Nat, k ≤ size ∧ i = .int .i64 k ∧ Own wr w.heap.size 5 1 (some ⟨w.heap.size, 0, none⟩) size size (u8s (le k n ++ List.replicate (size - k) 0)) ∧ Below w.heap.size w wr)
   (fun i _ => size - (intOf i).toNat)
  case atStart => exact ⟨0, Nat.zero_le _, rfl, hO1, hB1⟩
  case round =>
   obtain ⟨k, hk, rfl, hO, hB⟩ := hrel
   by_cases hlt : k < size
   ·
    have HS := Lib.hid (fill_step n k size hlt)
    have hdk := div8 n k
    have hc := hO.byteAt (j := k) (by rw [List.length_append, zBl, List.length_replicate]; omega)
    obtain ⟨hc1, hc2⟩ := hc
    generalize (le k n ++ List.replicate (size - k) 0)[k]'(by rw [List.length_append, zBl, List.length_replicate]; omega) = old at *
    have hO2 := hO.setByte k (UInt8.ofNat (n / 256 ^ k % 256))
    generalize n / 256 ^ k = q at *
    rw [HS.out, ← u8_ofNat] at hO2
    clear hO HS
    have hB2 := hB.setCell (p := ⟨w.heap.size, k, none⟩) (Nat.le_refl _) (.int .u8 ((q : Int) % 256))
    go_wp2_with fail
    go_roundw
    case rel => exact ⟨k + 1, by omega, by go_num, hO2, hB2⟩
    case measure => simp [intOf]; omega
   ·
    have HE : Hid (le k n ++ List.replicate (size - k) 0 = le size n) := by
     show _ = _
     rw [show k = size by omega, Nat.sub_self]; simp
    go_wp2_with fail
    go_ret2
    rw [HE.out] at hO
    obtain ⟨a1, a2, a3⟩ := hO.byt
    exact ⟨_, _, by rw [zBl]; rfl, a1, a3, hB⟩
def GivesO (bs : List UInt8) (w : World) (e : Ending) (w' : World) : Prop := ∃ A c, e = .returned (.slice A bs.length c) ∧ Own w' w.heap.size 5 1 A bs.length c (u8s bs) ∧ Below w.heap.size w w'
set_option maxHeartbeats 1000000 in
theorem clone_any (bs : List UInt8) (A : Option Addr) (n c : Nat) (w : World) (hn : bs.length = n) (hl : n ≤ 1000000000000) (ha : Byt w A bs) :
  Calls Tryz.prog 85 #[.slice A n c] w (GivesO bs w) := by
 have hnil := fun (w : World) (A : Option Addr) (n c : Nat) => Lib.run_eql_slice_nil (P := Tryz.prog) w 40 5 A n c 0 0 Tryz.underlying40
 cases A with
 | none =>
  have hb : bs = [] := by
   cases bs with
   | nil => rfl
   | cons b r => obtain ⟨ad, h, _⟩ := ha.at_ (j := 0) (by simp); cases h
  subst hb
  go_enter Tryz.func85, Tryz.ntmps85
  go_wp2_with fail
  go_ret
  exact ⟨none, 0, rfl, Own.nil _ _ _ _, Below.refl _ _⟩
 | some ad =>
  have HN := Lib.hid hn
  have hn1 : n ≤ bs.length := by omega
  have hn2 : bs.length ≤ n := by omega
  clear hn
  go_enter Tryz.func85, Tryz.ntmps85
  go_wp2_with (first | (at_builtin; go_loud (refine zLJ _ el_u8 rfl _ _ rfl w.heap.size _ 0 0 [] rfl (Own.litAt #[] _ 1 0 [] rfl (Nat.le_refl _) (by decide) rfl rfl) (some ad) n c (u8s bs) rfl (by rw [zFc, HN.out]; omega) (ha.alloc _) (u8_one _) (by omega) (by simp) ?_)))
  intro A2 c2 w2 hO2 hg2 _
  have hB2 := (Own.litAt (B := w.heap.size) (w := w) #[] 5 1 0 [] rfl (Nat.le_refl _) (by decide) rfl rfl).belowOf (((Below.refl _ _).alloc (Nat.le_refl _) _)) hg2 (by simp) (Nat.le_refl _)
  go_wp2_with fail
  go_ret
  exact ⟨A2, c2, by rw [HN.out]; rfl, by rw [HN.out]; simpa using hO2, hB2⟩
theorem swap_step (bs L : List UInt8) (i j : Nat) (hl : L.length = bs.length) (hij : i + j + 1 = bs.length) (h : i < j)
  (hL : ∀ t, t < bs.length → L[t]? = if t < i ∨ j < t then bs.reverse[t]? else bs[t]?) (hi : i < L.length) (hj : j < L.length) :
  ∀ t, t < bs.length → ((L.set i L[j]).set j L[i])[t]? = if t < i + 1 ∨ j - 1 < t then bs.reverse[t]? else bs[t]? := by
 intro t ht
 have gi : L[i] = bs[i]'(by omega) := by
  have := hL i (by omega)
  rw [if_neg (by omega), List.getElem?_eq_getElem hi, List.getElem?_eq_getElem (by omega)] at this
  exact Option.some.inj this
 have gj : L[j] = bs[j]'(by omega) := by
  have := hL j (by omega)
  rw [if_neg (by omega), List.getElem?_eq_getElem hj, List.getElem?_eq_getElem (by omega)] at this
  exact Option.some.inj this
 by_cases h1 : t = j
 ·
  subst h1
  rw [if_pos (by omega), List.getElem?_set_self (by simp; omega), gi, List.getElem?_reverse (by omega), List.getElem?_eq_getElem (by omega)]
  congr 2
  omega
 ·
  rw [List.getElem?_set_ne (by omega)]
  by_cases h2 : t = i
  ·
   subst h2
   rw [if_pos (by omega), List.getElem?_set_self (by omega), gj, List.getElem?_reverse (by omega), List.getElem?_eq_getElem (by omega)]
   congr 2
   omega
  ·
   rw [List.getElem?_set_ne (by omega), hL t ht]
   by_cases h3 : t < i ∨ j < t
   · rw [if_pos h3, if_pos (by omega)]
   · rw [if_neg h3, if_neg (by omega)]
theorem swap_done (bs L : List UInt8) (i : Nat) (j : Int) (hl : L.length = bs.length) (hij : (i : Int) + j + 1 = bs.length) (h : ¬ (i : Int) < j)
  (hL : ∀ t, t < bs.length → L[t]? = if t < i ∨ j < (t : Int) then bs.reverse[t]? else bs[t]?) : L = bs.reverse := by
 apply List.ext_getElem?
 intro t
 by_cases ht : t < bs.length
 ·
  rw [hL t ht]
  by_cases h3 : t < i ∨ j < (t : Int)
  · rw [if_pos h3]
  ·
   rw [if_neg h3, List.getElem?_reverse (by omega)]
   congr 1
   omega
 · rw [List.getElem?_eq_none (by omega), List.getElem?_eq_none (by simp; omega)]
set_option maxHeartbeats 2000000 in
theorem zJk (bs : List UInt8) (B : Nat) (A : Option Addr) (n c : Nat) (w : World) (hn : bs.length = n) (hl : n ≤ 1000000000000) (hO : Own w B 5 1 A n c (u8s bs)) :
  Calls Tryz.prog 100 #[.slice A n c] w fun e w' => e = .returned (.tuple #[]) ∧ Own w' B 5 1 A n c (u8s bs.reverse) ∧ Below B w w' := by
 by_cases h2 : n < 2
 ·
  have hr : bs.reverse = bs := by
   match bs, hn with
   | [], _ => rfl
   | [a], _ => rfl
   | a :: b :: r, hn => simp at hn; omega
  rw [hr]
  have hlt : ¬ (0 : Int) < (n : Int) - 1 := by omega
  go_enter Tryz.func100, Tryz.ntmps100
  go_wp2_with fail
  refine wp_loop_rounds 1 ?_
  rw [rounds_succ]
  go_wp2_with fail
  go_end0
  exact ⟨rfl, hO, Below.refl _ _⟩
 ·
  obtain ⟨g, rfl, hg1, hg2⟩ := hO.addr (by omega)
  have HN := Lib.hid hn
  have hn1 : bs.length ≤ n := by omega
  have hn2 : n ≤ bs.length := by omega
  clear hn
  go_enter Tryz.func100, Tryz.ntmps100
  go_wp2_with fail
  go_loopw [2, 3] (fun x y wr => ∃ (i : Nat) (j : Int) (L : List UInt8), x = .int .i64 i ∧ y = .int .i64 j ∧ Hid ((i : Int) + j + 1 = n) ∧ L.length ≤ n ∧ n ≤ L.length ∧ -1 ≤ j ∧ (i : Int) ≤ n ∧ j < n ∧ Own wr B 5 1 (some ⟨g, 0, none⟩) n c (u8s L) ∧ Below B w wr ∧
    Hid (∀ t, t < bs.length → L[t]? = if t < i ∨ j < (t : Int) then bs.reverse[t]? else bs[t]?)) (fun _ y _ => (intOf y + 1).toNat)
  case atStart => exact ⟨0, _, bs, rfl, rfl, Lib.hid (by omega), hn1, hn2, by omega, by omega, by omega, hO, Below.refl _ _, fun t ht => by rw [if_neg (by omega)]⟩
  case round =>
   obtain ⟨i, j, L, rfl, rfl, HI, hL1, hL2, hj1, hj2, hj3, hOw, hB, HL⟩ := hrel
   by_cases hlt : (i : Int) < j
   ·
    obtain ⟨jn, hjn⟩ : ∃ jn : Nat, j = jn := ⟨j.toNat, by omega⟩
    subst hjn
    have hi' : i < L.length := by omega
    have hj' : jn < L.length := by omega
    obtain ⟨c1, f1⟩ := hOw.byteAt hi'
    obtain ⟨c2, f2⟩ := hOw.byteAt hj'
    have i1 : (i : Int) < (n : Int) := by omega
    have i2 : (jn : Int) < (n : Int) := by omega
    have i3 : (0 : Int) ≤ (i : Int) := by omega
    have i4 : (0 : Int) ≤ (jn : Int) := by omega
    go_wp2_with fail
    go_region
    have hO2 : Own ((wr.setCell ⟨g, i, none⟩ (.int .u8 (L[jn].toNat : Int))).setCell ⟨g, jn, none⟩ (.int .u8 (L[i].toNat : Int))).drew B 5 1 (some ⟨g, 0, none⟩) n c (u8s ((L.set i L[jn]).set jn L[i])) :=
     ((hOw.setByte i L[jn]).setByte jn L[i]).drew
    have hB2 := ((hB.setCell (p := ⟨g, i, none⟩) hg1 (.int .u8 (L[jn].toNat : Int))).setCell (p := ⟨g, jn, none⟩) hg1 (.int .u8 (L[i].toNat : Int))).drew
    have HS : Hid (∀ t, t < bs.length → ((L.set i L[jn]).set jn L[i])[t]? = if t < i + 1 ∨ (jn : Int) - 1 < (t : Int) then bs.reverse[t]? else bs[t]?) := by
     intro t ht
     have hij := HI.out
     have h := swap_step bs L i jn (by omega) (by omega) (by omega) (fun t ht => by
      rw [HL.out t ht]
      by_cases h : t < i ∨ jn < t
      · rw [if_pos h, if_pos (by omega)]
      · rw [if_neg h, if_neg (by omega)]) hi' hj' t ht
     rw [h]
     by_cases h : t < i + 1 ∨ jn - 1 < t
     · rw [if_pos h, if_pos (by omega)]
     · rw [if_neg h, if_neg (by omega)]
    have hL3 : ((L.set i L[jn]).set jn L[i]).length ≤ n := by simp; omega
    have hL4 : n ≤ ((L.set i L[jn]).set jn L[i]).length := by simp; omega
    generalize (L.set i L[jn]).set jn L[i] = L2 at *
    clear hOw hB HL
    go_wp2_with fail
    go_roundw
    case rel => exact ⟨i + 1, _, L2, by go_num, rfl, by have := HI.out; exact Lib.hid (by omega), hL3, hL4, by omega, by omega, by omega, hO2, hB2, HS.out⟩
    case measure => simp [intOf] <;> omega
   ·
    go_wp2_with fail
    go_end0
    have hij := HI.out
    have := swap_done bs L i j (by omega) (by omega) (by omega) HL.out
    subst this
    exact ⟨rfl, hOw, hB⟩
set_option maxHeartbeats 1000000 in
theorem zLA (bs : List UInt8) (A : Option Addr) (n c : Nat) (w : World) (hn : bs.length = n) (hl : n ≤ 1000000000000) (ha : Byt w A bs) :
  Calls Tryz.prog 91 #[.slice A n c] w (GivesB bs.reverse w) := by
 subst hn
 go_enter Tryz.func91, Tryz.ntmps91
 go_wp2_with fail
 refine (clone_any bs A bs.length c w rfl hl ha).mono ?_
 rintro e w1 ⟨A1, c1, rfl, hO, hB⟩
 go_wp2_with fail
 refine (zJk bs w.heap.size A1 bs.length c1 w1 rfl (by omega) hO).mono ?_
 rintro e w2 ⟨rfl, hO2, hB2⟩
 go_wp2_with fail
 go_ret
 rw [← List.length_reverse] at hO2
 obtain ⟨a1, a2, a3⟩ := hO2.byt
 exact ⟨A1, c1, by rw [List.length_reverse]; rfl, a1, a3, hB.trans hB2⟩
set_option maxHeartbeats 1000000 in
theorem put_any (n size : Nat) (w : World) (hn : n ≤ 4611686018427387904) (h1 : 1 ≤ size) (h8 : size ≤ 8) (hw : wid n ≤ size) :
  Calls Tryz.prog 77 #[.int .i64 n, .int .i64 size] w (zJi (be size n) 0 w) := by
 go_enter Tryz.func77, Tryz.ntmps77
 go_wp2_with fail
 refine (low_any n size _ hn h1 h8 hw).mono ?_
 rintro e w1 ⟨A, c, rfl, hb, hc, hB⟩
 go_wp2_with fail
 refine (zLA (le size n) A _ c w1 rfl (by rw [zBl]; omega) hb.1).mono ?_
 rintro e w2 ⟨A2, c2, rfl, hb2, hc2, hB2⟩
 go_wp2_with fail
 go_ret2
 exact ⟨A2, c2, by rw [qB, zBl]; rfl, hb2.from hB.size, by rw [qB]; simpa [zBl] using hc2, hB.trans (hB2.mono hB.size)⟩
end Go.Proofs.YtjomnccladjpgaaGreat

/-
 What the library's functions do: a copy of a slice; the program's numbers as bytes.
-/
namespace Go.Proofs.YtjomnccladjpgaaGreat
open Go Go.RowKit
set_option linter.unusedVariables false
set_option maxHeartbeats 4000000
set_option maxRecDepth 20000
theorem zDv (p0 : List UInt8) (r : List UInt8) (h : zBF p0 = some r) : FC Tryz.prog 85 [.t (.d (.seq 1 (zN p0)))] [] (.t (.d (.seq 1 (zN r)))) := by
 refine zD5 (rs := [.tmp 2]) (n := 8) Tryz.func85 rfl rfl (Nat.le_of_ble_eq_true rfl) rfl (pins := []) rfl (L := [(0, .t (.d (.seq 1 (zN p0))))]) rfl ?_
 have hr : r = p0 := by
  have := (zFe h).2
  simpa using this
 refine zJ ?_
 refine zL ?_
 refine o_s (.t (.d (.lit (.slice none 0 0)))) (g0 rfl) rfl rfl rfl ?_
 refine zA ?_
 refine yL ?_
 refine zJ ?_
 refine zJ ?_
 refine c_nil (l1 := [_]) (k := 1) (l := zN p0) rfl rfl rfl rfl ?_
 refine o_s (.t (.d (.seq 1 (zN p0)))) (g0 rfl) rfl rfl rfl ?_
 refine zA ⟨rfl, rfl, fun b hb => ?_⟩
 refine yL ?_
 refine zKX rfl (fun hc => ?_) (fun hc => ?_)
 ·
  have hb := hb hc
  have hp : p0 = [] := by unfold zN at hb; simpa using hb
  refine zJ ?_
  refine zL ?_
  refine o_s (.t (.d (.lit (.slice none 0 0)))) (g0 rfl) rfl rfl rfl ?_
  refine zA ?_
  refine yL ?_
  refine zF ?_
  repeat (refine zCw ?_)
  subst hr hp
  exact end0 rfl (.t (.d (.nil _)))
 ·
  refine zG ?_
  refine yL ?_
  refine zJ ?_
  refine zL ?_
  refine o_b0 (.t (.own 5 1 (List.map cU8 []))) (g0 rfl) rfl rfl rfl rfl rfl ?_
  refine o_s (.t (.d (.seq 1 (zN p0)))) (g0 rfl) rfl rfl rfl ?_
  refine o_2c (g0 rfl) rfl rfl rfl (appE (c := cU8) h) (appC (c := cU8) h) ?_
  refine o_2 (.t (.d (.seq 1 (zN r)))) (.t (.own 5 1 (zN r))) (g0 rfl) rfl rfl rfl ?_
  refine zA ?_
  refine yL ?_
  refine zF ?_
  exact end0 rfl (.t (.own _ _ _))
theorem zJa (p0 p1 : Int) (r : List UInt8 × Int) (h : zFb p0 p1 = some r) : FC Tryz.prog 77 [.t (.d (.lit (.int .i64 p0))), .t (.d (.lit (.int .i64 p1)))] [] (.tup [.d (.seq 1 (zN r.1)), .d (.lit (.int .i64 r.2))]) := by
 unfold zFb at h
 split at h
 case isFalse => cases h
 rename_i hc
 injection h with h
 subst h
 obtain ⟨h1, h2, h3, h4, h5⟩ := hc
 obtain ⟨n, rfl⟩ := Int.eq_ofNat_of_zero_le h1
 obtain ⟨k, rfl⟩ := Int.eq_ofNat_of_zero_le (show 0 ≤ p1 by omega)
 refine zIu fun w m o vals hs hrep => ?_
 rw [vals2 hs (int_of (hrep 0)) (int_of (hrep 1))]
 simp only [Int.toNat_natCast] at h5 ⊢
 exact put_any n k w (by omega) (by omega) (by omega) ((lt_wid k n).1 h5)
end Go.Proofs.YtjomnccladjpgaaGreat

/-
 A slice of zeros appended; a slice that may grow out of a call's results; the program's numbers as bytes that may grow.
-/
namespace Go.Proofs.YtjomnccladjpgaaGreat
open Go Go.RowKit
set_option linter.unusedVariables false
set_option linter.unusedSimpArgs false
theorem zEh {z : Value} (n : Nat) : Builtin.zeroCells #[z] n = (List.replicate n z).toArray := by
 unfold Builtin.zeroCells
 apply Array.ext_getElem?
 intro i
 rw [Array.getElem?_map, Array.getElem?_range]
 by_cases h : i < n
 · rw [if_pos (by simpa using h)]; simp [h, Nat.mod_one]
 · rw [if_neg (by simpa using h)]; simp [h]
theorem zIQ (P : Program) (w : World) {t tn e : TypeId} {ie : TypeInfo} {z : Value} (hu : P.underlying t = some (.slice e)) (kn : IntKind) (htn : P.underlying tn = some (.int kn)) (hi : P.info? e = some ie) (hz : ie.zero = some z) (hs1 : ie.size = 1) (hz1 : z.cells = #[z]) (hz2 : z.oneCell' = true) (hpb : 0 < ie.bytes) (ty : TypeId) (A' : Option Addr) (n c : Nat) (xs : List Value) (hown : Own w 0 e 1 A' n c xs)
  (ki : IntKind) (k : Nat) (hb : (n + k) * ie.bytes ≤ 140737488355328) :
  ∃ A2 c2 w', (Builtin.append_ #[t, tn] ty #[.slice A' n c, .int ki k]).run P w = .ok (.slice A2 (n + k) c2) w' ∧ Own w' 0 e 1 A2 (n + k) c2 (xs ++ List.replicate k z) ∧
   ((blk A2 = blk A' ∧ w.grownBy w' (blk A') ∧ ∀ g, zB2 w w' g) ∨ (blk A2 = some w.heap.size ∧ w.grownBy w' none)) := by
 have h63 : n + k ≤ maxLen := by
  have := Nat.le_mul_of_pos_right (n + k) hpb
  unfold maxLen; omega
 have hsmall : n + k ≤ 9223372036854775807 := by simp only [maxLen] at h63; omega
 have hw : IntKind.i64.wrap (k : Int) = k := by rw [IntKind.wrap_i64]; omega
 have hneg : ¬ ((k : Int) < 0) := by omega
 have hkb : k * ie.bytes ≤ 140737488355328 := Nat.le_trans (Nat.mul_le_mul_right _ (by omega)) hb
 have h48i : ¬ (281474976710656 < (k : Int) * (ie.bytes : Int)) := by
  rw [← Int.natCast_mul]
  omega
 have hlen : (xs ++ List.replicate k z).length = (n + k) * 1 := by rw [List.length_append, hown.1, List.length_replicate, Nat.add_mul, Nat.mul_one k]
 have hxl : xs.length = n := by rw [hown.1, Nat.mul_one]
 have grown : ∀ (old : Nat), old < n + k → 
   Own (w.drew.alloc (.cells (xs.toArray ++ (List.replicate k z).toArray ++ Builtin.zeroCells z.cells (grownCap w (n + k) old e - (n + k))) e)) 0 e 1 (some ⟨w.heap.size, 0, none⟩) (n + k) (grownCap w (n + k) old e) (xs ++ List.replicate k z) ∧
   w.grownBy (w.drew.alloc (.cells (xs.toArray ++ (List.replicate k z).toArray ++ Builtin.zeroCells z.cells (grownCap w (n + k) old e - (n + k))) e)) none := by
  intro old ho
  have hge := grownCap_ge w (n + k) old e
  have hcm : grownCap w (n + k) old e ≤ maxLen := grownCap_le_maxLen w (n + k) old e h63
  refine ⟨⟨hlen, .inr ⟨w.heap.size, _, _, rfl, Nat.zero_le _, heap_alloc_new w.drew _, hge, hcm, ?_, ?_⟩⟩, ⟨rfl, rfl, rfl, by simp, fun q hq _ => Below.heap_alloc w.drew _ q hq⟩⟩
  ·
   simp only [Array.size_append, List.size_toArray, size_zeroCells, hz1, hxl, List.length_replicate, Nat.mul_one]
   rw [List.length_singleton, Nat.mul_one]
   omega
  ·
   simp only [Array.toList_append, List.append_assoc]
   rw [← List.append_assoc, ← hlen]
   exact List.take_left
 rcases hown.2 with ⟨hv, rfl⟩ | ⟨g, cap, cur, hv, hbg, hg, hnc, hcm, hcs, htake⟩
 ·
  injection hv with hv hv2 hv3
  subst hv hv3
  have hx : xs = [] := List.eq_nil_of_length_eq_zero hxl
  subst hx
  by_cases hm : k = 0
  ·
   subst hm
   refine ⟨none, 0, w, ?_, World.ownsRow_nil w 0 e 1, .inl ⟨rfl, World.grownBy.refl w _, fun _ => .refl _ _⟩⟩
   simp [Builtin.append_, run_underlying hu, run_underlying htn, sizeOf, typeInfo, hi, asInt, asIntOf, show IntKind.i64.wrap 0 = 0 from rfl, hs1]
  ·
   have hr := Lib.run_append_nil_zeros (P := P) w t tn ty e ie z ki kn hu htn hi hz k (by omega) (by omega) (by omega) (by omega)
   have hgr := grown 0 (by omega)
   simp only [Nat.zero_add, List.nil_append, Array.empty_append] at hgr ⊢
   have hzk : Builtin.zeroCells z.cells k = (List.replicate k z).toArray := by rw [hz1, zEh]
   rw [hzk] at hr
   exact ⟨_, _, _, hr, hgr.1, .inr ⟨rfl, hgr.2⟩⟩
 ·
  injection hv with hv hv2 hv3
  subst hv hv3
  by_cases hm : k = 0
  ·
   subst hm
   refine ⟨some ⟨g, 0, none⟩, c, w, ?_, by simpa using hown, .inl ⟨rfl, World.grownBy.refl w _, fun _ => .refl _ _⟩⟩
   simp [Builtin.append_, run_underlying hu, run_underlying htn, sizeOf, typeInfo, hi, asInt, asIntOf, show IntKind.i64.wrap 0 = 0 from rfl, hs1, hnc, storeCells]
  by_cases hroom : n + k ≤ c
  ·
   have hfit : n * ie.size + (List.replicate k z).length ≤ cur.size := by rw [List.length_replicate, hcs, hs1, Nat.mul_one, Nat.mul_one]; exact hroom
   have hst := run_storeCells_at P g (n * ie.size) e (List.replicate k z) 0 cur w hg (by simpa using hfit) (fun u hu => by rw [(List.mem_replicate.1 hu).2]; exact hz2)
   simp only [Nat.add_zero] at hst
   have hr : (Builtin.append_ #[t, tn] ty #[.slice (some ⟨g, 0, none⟩) n c, .int ki k]).run P w = .ok (.slice (some ⟨g, 0, none⟩) (n + k) c) (w.setRow g (cur.toList.take (n * ie.size) ++ List.replicate k z ++ cur.toList.drop (n * ie.size + (List.replicate k z).length)).toArray) := by
    have hzk : Builtin.zeroCells #[z] k = (List.replicate k z).toArray := zEh k
    rw [hs1, Nat.mul_one] at hst
    simp [Builtin.append_, run_underlying hu, run_underlying htn, sizeOf, typeInfo, zeroValue, hi, hz, hs1, hz1, hm, asInt, asIntOf, hw, hneg, h48i, hroom, hzk, Addr.add_lit, hst]
   refine ⟨_, _, _, hr, ⟨hlen, .inr ⟨g, c, _, rfl, hbg, setRow_heap w g cur _ e _ hg, hroom, hcm, ?_, ?_⟩⟩, .inl ⟨rfl, ⟨rfl, rfl, rfl, by simp, fun k _ hk => setRow_other w g k _ (fun e => hk (by simp [blk, e]))⟩, fun q => zBY hg (by
    simp only [List.size_toArray, List.length_append, List.length_take, List.length_drop, Array.length_toList]
    omega) q⟩⟩
   ·
    simp only [List.size_toArray, List.length_append, List.length_take, List.length_drop, Array.length_toList]
    omega
   ·
    rw [hs1, htake, ← hlen]
    exact List.take_left
  ·
   have holds : ∀ j u, xs[j]? = some u → w.cell? ((⟨g, 0, none⟩ : Addr).add j) = some u := World.ownsRow.cells hown (g := g) rfl
   have hn : ¬ (n + k ≤ c) := hroom
   have h63' : ¬ (9223372036854775807 < ((n : Int) + (k : Int))) := by omega
   have h48' : ¬ (281474976710656 < Builtin.nextslicecap (n + k) c * ie.bytes) := by have := growslice_fits (need := n + k) (old := c) (bytes := ie.bytes) (by omega) hb; omega
   have hfo := run_firstCells_some (P := P) w.drew ie.size n ⟨g, 0, none⟩ n c xs (by rw [hs1, hown.1]) (by simpa using holds)
   have hzk : ∀ q, Builtin.zeroCells #[z] q = (List.replicate q z).toArray := zEh
   have hgr := grown c (by omega)
   refine ⟨_, _, _, ?_, hgr.1, .inr ⟨rfl, hgr.2⟩⟩
   rw [hs1] at hfo
   simp [Builtin.append_, run_underlying hu, run_underlying htn, sizeOf, typeInfo, zeroValue, hi, hz, hs1, hz1, hm, asInt, asIntOf, hw, hneg, h48i, hn, h63', h48', Question.forced, hfo, newRow, grownCap, hzk]
section
variable {w0 : World} {m0 : Mem} {o0 : OwnM} {G : GD} {pins : List Nat} {S M : Nat → A} {a : Act} {w : World} {m : Mem} {o : OwnM} {P : Program} {N : Nat}
def zerF (P : Program) (t tn : TypeId) : Option (Nat × Nat × Value) := match P.underlying t, P.underlying tn with
 | some (.slice e), some (.int _) => match P.info? e with
  | some ie => match ie.zero with
   | some (.int kz nz) => if ie.size = 1 ∧ 0 < ie.bytes then some (e, ie.bytes, .int kz nz) else none
   | _ => none
  | none => none
 | _, _ => none
end
end Go.Proofs.YtjomnccladjpgaaGreat

/-
 Growing a nil slice: cap, a cut of nil, append of zeros to nil, and the empty piece of what that gives.
-/
namespace Go.Proofs.YtjomnccladjpgaaGreat
open Go Go.RowKit
set_option linter.unusedVariables false
section
variable {w0 : World} {m0 : Mem} {o0 : OwnM} {G : GD} {pins : List Nat} {S M : Nat → A} {a : Act} {w : World} {m : Mem} {o : OwnM} {P : Program} {N : Nat} {op : Oper} {d : Nat}
theorem h_cap0 (hM : Mk M S) {t e : Nat} {x : Operand} (hop : op.op = .call { callee := .builtin .cap, args := ⟨[x]⟩, argTypes := ⟨[t]⟩ }) (hx : vO M x = some (.slice none 0 0)) (hu : P.underlying t = some (.slice e)) (hd : op.dst = some d) (hok : okD N pins S d = true) : OpH P pins N op S (app S [(d, .t (.d (.lit (.int .i64 0))))]) := by
 refine .of (e := [(d, _)]) fun hN => ⟨?_, zB3 (qX hN hok)⟩
 refine zW fun w0 m0 o0 G ac w m o hN' I => ?_
 obtain ⟨h1, h2, h3⟩ := qH (yM hN hok)
 refine ⟨.int .i64 0, w, m, o, ?_, by rw [hd]; exact I.set d _ _ (by omega) h2 (.lit _ rfl)⟩
 unfold execOp
 rw [hop]
 simp only [resolve, invoke, builtin, Sem.run_bind, Sem.run_pure, Result.andThen_ok, List.map_toArray, List.map_cons, List.map_nil]
 rw [zCS hM.hx I hx]
 simp [Builtin.cap_, run_underlying hu, goInt]
theorem h_slnil (hM : Mk M S) {t e : Nat} {x : Operand} {hi : Option Operand} {ie : TypeInfo} (hop : op.op = .slice t x none hi none) (hx : vO M x = some (.slice none 0 0)) (hhi : bndO M hi = some (some 0)) (hu : P.underlying t = some (.slice e)) (hie : P.info? e = some ie) (hd : op.dst = some d) (hok : okD N pins S d = true) : OpH P pins N op S (app S [(d, .t (.d (.lit (.slice none 0 0))))]) := by
 refine .of (e := [(d, _)]) fun hN => ⟨?_, zB3 (qX hN hok)⟩
 refine zW fun w0 m0 o0 G ac w m o hN' I => ?_
 obtain ⟨h1, h2, h3⟩ := qH (yM hN hok)
 obtain ⟨kh, e2⟩ := zDa hM.hx I hhi
 refine ⟨.slice none 0 0, w, m, o, ?_, by rw [hd]; exact I.set d _ _ (by omega) h2 (.lit _ rfl)⟩
 unfold execOp
 rw [hop]
 simp only [Sem.run_bind]
 rw [e2, zCS hM.hx I hx]
 have hb : (Instr.sliceBounds true 0 0 none ((some (0 : Int)).map fun z => .int (kh z) z) none).run P w = .ok (0, 0, 0) w := by
  unfold Instr.sliceBounds
  simp only [Option.map_some, Option.isSome_some, Sem.run_bind, Sem.run_pure, Result.andThen_ok]
  repeat (rw [zBD (by omega) (by omega), Result.andThen_ok])
  rfl
 show Result.andThen (Sem.run P (Instr.sliceAt t (.slice none 0 0) none _ none) w) _ = _
 unfold Instr.sliceAt
 simp only [Sem.run_bind, run_underlying hu, Result.andThen_ok]
 unfold Instr.slice
 simp only [Sem.run_bind, run_underlying hu, Result.andThen_ok]
 rw [hb]
 simp [sizeOf, typeInfo, hie]
def growI (nb : Nat) (n : Int) : Option Nat := if 0 < n ∧ n.toNat * nb ≤ 140737488355328 then some n.toNat else none
theorem h_apfr (hM : Mk M S) {t tn e nb q : Nat} {z : Value} {x y : Operand} {ki : IntKind} {n : Int} (hop : op.op = .call { callee := .builtin .append, args := ⟨[x, y]⟩, argTypes := ⟨[t, tn]⟩ }) (hx : vO M x = some (.slice none 0 0)) (hn : vO M y = some (.int ki n)) (hz : zerF P t tn = some (e, nb, z)) (hq : growI nb n = some q) (hd : op.dst = some d) (hok : okD N pins S d = true) : OpH P pins N op S (app S [(d, .fr e 1)]) := by
 unfold zerF at hz
 split at hz
 case h_2 => cases hz
 rename_i e' kn hu htn
 split at hz
 case h_2 => cases hz
 rename_i ie hi
 split at hz
 case h_2 => cases hz
 rename_i kz nz hz0
 split at hz
 case isFalse => cases hz
 rename_i hc
 obtain ⟨hs1, hpb⟩ := hc
 generalize hzz : Value.int kz nz = z' at *
 have hz1 : z'.cells = #[z'] := by rw [← hzz]; rfl
 have hz2 : z'.oneCell' = true := by rw [← hzz]; rfl
 injection hz with hz
 injection hz with q1 hz
 injection hz with q2 q3
 subst q1 q2 q3
 unfold growI at hq
 split at hq
 case isFalse => cases hq
 rename_i hq'
 injection hq with hq
 subst hq
 obtain ⟨hq0, hb⟩ := hq'
 obtain ⟨k, rfl⟩ := Int.eq_ofNat_of_zero_le (Int.le_of_lt hq0)
 simp only [Int.toNat_natCast] at hb
 have hk : 0 < k := by omega
 refine .of (e := [(d, _)]) fun hN => ⟨?_, zB3 (qX hN hok)⟩
 refine zW fun w0 m0 o0 G a w m o hN' I => ?_
 obtain ⟨h1, h2, h3⟩ := qH (yM hN hok)
 obtain ⟨A2, c2, w', hrun, hown, hcase⟩ := zIQ P w hu kn htn hi hz0 hs1 hz1 hz2 hpb op.type none 0 0 [] (World.ownsRow_nil w 0 e' 1) ki k (by simpa using hb)
 rw [Nat.zero_add] at hrun hown
 obtain ⟨g, cap, cur, hv, _, hg, hcap, hmax, hsz, htk⟩ := hown.2.resolve_left fun h => by omega
 injection hv with hv _ hv2
 subst hv hv2
 have hgr : g = w.heap.size ∧ w.grownBy w' none := by
  rcases hcase with ⟨h, _⟩ | ⟨h, h'⟩
  · cases h
  · injection h with h; exact ⟨h, h'⟩
 obtain ⟨rfl, hgr⟩ := hgr
 refine ⟨_, w', _, _, ?_, by
  rw [hd]
  refine I.own_put d (.fr e' 1) (.slice (some ⟨w.heap.size, 0, none⟩) k c2) (fun _ => none) w.heap.size w' (by omega) h2 h3 (I.free (Nat.le_refl _)) (I.newG (Nat.le_refl _)) ⟨hgr.os, hgr.tape, hgr.output, hgr.size, fun j hj _ => hgr.block j hj (by simp), fun j => (zB2.of_lt fun hj => hgr.block j hj (by simp)).w⟩ (by
   exact (Array.getElem?_eq_some_iff.1 hg).1) (fun p u h => by rw [I.mem_none (Nat.le_refl _)] at h; cases h) (fun p u h => by cases h) ?_
  exact ⟨w.heap.size, k, c2, cur, rfl, zAt _ _ _, fun p => zBt _ _ _ _, hg, hcap, hmax, hsz⟩⟩
 unfold execOp
 rw [hop]
 simp only [resolve, invoke, builtin, Sem.run_bind, Sem.run_pure, Result.andThen_ok, List.map_toArray, List.map_cons, List.map_nil]
 rw [zCS hM.hx I hx, zCS hM.hx I hn, hrun]
 rfl
theorem Inv.unown (I : Inv w0 m0 o0 G pins S a w m o) {s g : Nat} (hs : s < OB) (hp : s ∉ pins) (hS : S s = .any) (ho : o g = some (s, 0)) : Inv w0 m0 o0 G pins S a w m (fun b => if b = g then none else o b) := by
 have hk : ∀ b l, (fun b => if b = g then none else o b) b = some l → b ≠ g ∧ o b = some l := by
  intro b l h
  show _ ∧ _
  by_cases e : b = g
  · simp only [e, if_pos] at h; cases h
  · simp only [e, if_neg, if_false] at h; exact ⟨e, h⟩
 have K : Keep (fun l => l.1 = s) m w o m w (fun b => if b = g then none else o b) := ⟨Mle.refl _, fun _ _ _ _ => rfl, fun _ _ _ _ => rfl, fun b l h hn => by
   show (if b = g then none else o b) = _
   rw [if_neg (fun e => by rw [e, ho] at h; injection h with h; exact hn (by rw [← h])), h], fun b j h => by
   show (if b = g then none else o b) = _
   rw [if_neg (fun e => by rw [e, ho] at h; injection h with h; injection h with h; omega), h], fun b t k _ h => ⟨b, k, (hk b _ h).2⟩, fun _ _ _ => .of_eq rfl⟩
 refine ⟨I.same, I.sat, I.mono, I.old, fun b l h => I.own b l (hk b l h).2, fun b l h => I.lt b l (hk b l h).2, fun b b' l h h' => I.inj b b' l (hk b l h).2 (hk b' l h').2, fun p hpp b hb => ?_, fun t => ?_, I.defers, I.tbl, I.wide, I.shps⟩
 · exact K.own b _ (I.pinned p hpp b hb) (fun e => hpp.elim (fun h => hp (by have e : p = s := e; rw [← e]; exact h)) fun h => by have e : p = s := e; omega)
 ·
  by_cases e : t = s
  · subst e; rw [hS]; trivial
  ·
   refine RepA.keep K (fun _ e2 => e e2) (fun b off he hb => ⟨fun e2 => ?_, id⟩) (I.slots t)
   have e2 : b = s := e2
   subst e2
   have h := I.slots t
   rw [he] at h
   obtain ⟨_, _, _, h3⟩ := h
   obtain ⟨l, hl⟩ := h3 hb
   rw [hS] at hl
   cases hl
theorem h_slfr {s : Nat} (hM : Mk M S) {t e E k : Nat} {hi : Option Operand} {ie : TypeInfo} (hop : op.op = .slice t (.tmp s) none hi none) (hxs : M s = .fr E k) (hhi : bndO M hi = some (some 0)) (hu : P.underlying t = some (.slice e)) (hie : P.info? e = some ie) (hsd : (s == d) = false) (hsp : (Nat.blt s OB && !pins.contains s) = true) (hd : op.dst = some d) (hok : okD N pins S d = true) : OpH P pins N op S (app S [(s, .any), (d, .t (.own E k []))]) := by
 simp only [Bool.and_eq_true, Bool.not_eq_true', List.contains_eq_mem, decide_eq_false_iff_not] at hsp
 have hsO : s < OB := by simpa using hsp.1
 have hne : s ≠ d := by simpa using hsd
 refine .of (e := [(s, _), (d, _)]) fun hN => ⟨?_, fun z hz => by
  simp at hz
  rcases hz with rfl | rfl
  · exact .inl hsO
  · exact .inl (qX hN hok)⟩
 refine zW fun w0 m0 o0 G a w m o hN' I => ?_
 obtain ⟨h1, h2, h3⟩ := qH (yM hN hok)
 have hSs : hx S s = .fr E k := by
  rcases hM s with h | h
  · rw [h] at hxs; cases hxs
  · exact zCe (h.symm.trans hxs) (by simp)
 have hs := I.slots s
 rw [hSs] at hs
 obtain ⟨g, n, cap, cur, q1, q2, q3, q4, q5, q6, q7⟩ := hs
 obtain ⟨kh, e2⟩ := zDa hM.hx I hhi
 have I1 := I.tell s .any (by rw [hSs]; rfl) trivial
 have I2 := I1.unown (g := g) hsO hsp.2 (zY _ _ _) q2
 have hev : a.eval (.tmp s) = .slice (some ⟨g, 0, none⟩) n cap := q1
 have hb : (Instr.sliceBounds true n cap none ((some (0 : Int)).map fun z => .int (kh z) z) none).run P w = .ok (0, 0, cap) w := by
  unfold Instr.sliceBounds
  simp only [Option.map_some, Option.isSome_some, Sem.run_bind, Sem.run_pure, Result.andThen_ok]
  repeat (rw [zBD (by omega) (by omega), Result.andThen_ok])
  rfl
 refine ⟨.slice (some ⟨g, 0, none⟩) 0 cap, w, _, _, ?_, by
  rw [hd]
  refine I2.own_put d (.t (.own E k [])) (.slice (some ⟨g, 0, none⟩) 0 cap) (fun _ => none) g w (by omega) (by rw [zK (Ne.symm hne)]; exact h2) h3 (fun l h => by simp at h) (I.own g _ q2) (Same.refl _ _) (I.lt g _ q2) (fun p u h => by rw [q3] at h; cases h) (fun p u h => by cases h) ?_
  refine ⟨some ⟨g, 0, none⟩, cap, [], rfl, ⟨by simp, .inr ⟨g, cap, cur, rfl, Nat.zero_le _, q4, Nat.zero_le _, q6, q7, by simp⟩⟩, fun g' hg' => ?_, fun i r h => by simp at h, fun i r j d h => by simp at h⟩
  injection hg' with hg'
  subst hg'
  exact ⟨zAt _ _ _, fun p => zBt _ _ _ _⟩⟩
 unfold execOp
 rw [hop]
 simp only [Sem.run_bind]
 rw [e2, hev]
 show Result.andThen (Sem.run P (Instr.sliceAt t _ none _ none) w) _ = _
 unfold Instr.sliceAt
 simp only [Sem.run_bind, run_underlying hu, Result.andThen_ok]
 unfold Instr.slice
 simp only [Sem.run_bind, run_underlying hu, Result.andThen_ok]
 rw [hb]
 by_cases hc : cap = 0
 · simp [sizeOf, typeInfo, hie, hc]
 · simp [sizeOf, typeInfo, hie, hc, Addr.add_mid]
end
end Go.Proofs.YtjomnccladjpgaaGreat

/-
 Maps: a map that a local object holds, told by its entries in the order in which they came.
-/
namespace Go.Proofs.YtjomnccladjpgaaGreat
open Go Go.RowKit
set_option linter.unusedVariables false
section
variable {κ ν : Type} [BEq κ]
def mpos (l : List (κ × ν)) (k : κ) : Option Nat := l.findIdx? fun p => k == p.1
def zAu (l : List (κ × ν)) (k : κ) : Option ν := match mpos l k with
 | some i => (l[i]?).map (·.2)
 | none => none
def mset (l : List (κ × ν)) (k : κ) (v : ν) : List (κ × ν) := match mpos l k with
 | some i => l.set i (k, v)
 | none => l ++ [(k, v)]
end
structure KeyT (P : Program) (kt : TypeId) {κ : Type} [BEq κ] (kv : κ → Value) where
 d : TypeDesc
 und : P.underlying kt = some d
 same : ∀ a b, Instr.sameNow d (kv a) (kv b) = some (a == b)
 chk : ∀ a (e : Bool) (w : World), (Instr.checkKey e 10000 kt (kv a)).run P w = .ok () w
 bits : ∀ a b, (a == b) = true → Instr.sameBits 10000 (kv b) (kv a) = true
 one : ∀ a, (kv a).oneCell' = true
def keyInt {P : Program} {kt : TypeId} {k : IntKind} (h : P.underlying kt = some (.int k)) : KeyT P kt (fun z : Int => Value.int k z) :=
 ⟨.int k, h, fun a b => by simp [Instr.sameNow], fun a e w => MapKept.run_checkKey h (by simp [MapKept.IsKey]) e 9999, fun (a b : Int) (h : (a == b) = true) => by simp at h; simp [Instr.sameBits, h], fun _ => rfl⟩
def EntR (m : Mem) {κ ν : Type} (kv : κ → Value) (cv : ν → D) (l : List (κ × ν)) (es : List MapEntry) : Prop := es.length = l.length ∧ ∀ (i : Nat) (x : κ × ν), l[i]? = some x → ∃ e, es[i]? = some e ∧ e.key = kv x.1 ∧ RepD m (cv x.2) e.val
section
variable {κ ν : Type} [BEq κ] {P : Program} {kt : TypeId} {kv : κ → Value} {cv : ν → D} {m : Mem}
theorem zG4 (K : KeyT P kt kv) (k : κ) : ∀ (l : List (κ × ν)) (es : List MapEntry) (i0 : Nat), EntR m kv cv l es → Instr.findNow K.d (kv k) es i0 = some ((l.findIdx? fun p => k == p.1).map fun i => (i0 + i, ((es[i]?).map (·.val)).getD undef))
 | [], es, i0, h => by
  rw [List.eq_nil_of_length_eq_zero h.1]
  rfl
 | x :: r, es, i0, h => by
  obtain ⟨e, h1, h2, h3⟩ := h.2 0 x rfl
  cases es with
  | nil => simp at h1
  | cons e' es =>
   injection h1 with h1
   subst h1
   unfold Instr.findNow
   rw [h2, K.same]
   have hr : EntR m kv cv r es := ⟨by simpa using h.1, fun i y hy => by simpa using h.2 (i + 1) y (by simpa using hy)⟩
   cases hk : (k == x.1) with
   | true => simp [List.findIdx?_cons, hk]
   | false =>
    simp only
    rw [zG4 K k r es (i0 + 1) hr, List.findIdx?_cons, hk]
    simp only [cond_false, Bool.false_eq_true, if_false, Option.map_map]
    congr 1
    congr 1
    funext i
    simp only [Function.comp, List.getElem?_cons_succ]
    congr 1
    omega
end
section
variable {w0 : World} {m0 : Mem} {o0 : OwnM} {G : GD} {pins : List Nat} {S M : Nat → A} {a : Act} {w : World} {m : Mem} {o : OwnM} {P : Program} {N : Nat} {op : Oper} {d : Nat}
abbrev mpA {κ ν : Type} (kv : κ → Value) (cv : ν → D) (l : List (κ × ν)) : A := .mp (l.map fun p => (D.lit (kv p.1), cv p.2))
theorem zKe {κ ν : Type} {kv : κ → Value} {cv : ν → D} {l : List (κ × ν)} {es : Array MapEntry} (h : es.size = (l.map fun p => (D.lit (kv p.1), cv p.2)).length ∧ ∀ (i : Nat) (x : D × D), (l.map fun p => (D.lit (kv p.1), cv p.2))[i]? = some x → ∃ e, es[i]? = some e ∧ RepD m x.1 e.key ∧ RepD m x.2 e.val) : EntR m kv cv l es.toList := by
 refine ⟨by simpa using h.1, fun i x hi => ?_⟩
 obtain ⟨e, h1, h2, h3⟩ := h.2 i (D.lit (kv x.1), cv x.2) (by rw [List.getElem?_map, hi]; rfl)
 have h2 : RepD m (.lit (kv x.1)) e.key := h2
 generalize hk : e.key = u at h2
 refine ⟨e, by simpa using h1, ?_, h3⟩
 rw [hk]
 cases h2 with
 | lit u hu => rfl
theorem ent_mp {κ ν : Type} {kv : κ → Value} {cv : ν → D} {l : List (κ × ν)} {es : Array MapEntry} (h1 : ∀ a, (kv a).oneCell' = true) (h : EntR m kv cv l es.toList) : es.size = (l.map fun p => (D.lit (kv p.1), cv p.2)).length ∧ ∀ (i : Nat) (x : D × D), (l.map fun p => (D.lit (kv p.1), cv p.2))[i]? = some x → ∃ e, es[i]? = some e ∧ RepD m x.1 e.key ∧ RepD m x.2 e.val := by
 refine ⟨by simpa using h.1, fun i x hi => ?_⟩
 rw [List.getElem?_map] at hi
 cases hl : l[i]? with
 | none => rw [hl] at hi; cases hi
 | some y =>
  rw [hl] at hi
  injection hi with hi
  subst hi
  obtain ⟨e, h2, h3, h4⟩ := h.2 i y hl
  exact ⟨e, by simpa using h2, by rw [h3]; exact .lit _ (h1 _), h4⟩
theorem Inv.map_turn (I : Inv w0 m0 o0 G pins S a w m o) {j g : Nat} {l l' : List (D × D)} (hb : S (OB + j) = .mp l) (ho : o g = some (OB + j, 0)) {es es' : Array MapEntry} {ck ck' : Nat} (hg : w.heap[g]? = some (.map es ck)) (hmn : ∀ p, m g p = none) (hst : Stm es' ck')
  (hc : es'.size = l'.length ∧ ∀ (i : Nat) (x : D × D), l'[i]? = some x → ∃ e, es'[i]? = some e ∧ RepD m x.1 e.key ∧ RepD m x.2 e.val) :
  Inv w0 m0 o0 G pins (upd S (OB + j) (.mp l')) a { w with heap := w.heap.setIfInBounds g (.map es' ck') } m o := by
 obtain ⟨q1, q2⟩ := MapKept.heap_set (o' := .map es' ck') hg
 have hglt : g < w.heap.size := (Array.getElem?_eq_some_iff.1 hg).1
 have hne : ∀ b l, o b = some l → l ≠ (OB + j, 0) → b ≠ g := fun b l h hn e => by rw [e, ho] at h; injection h with h; exact hn h.symm
 have hsh : ∀ g', zB2 w { w with heap := w.heap.setIfInBounds g (.map es' ck') } g' := fun g' => by
  by_cases e : g' = g
  · subst e; intro cs E f h; rw [hg] at h; cases h
  · exact .of_eq (q2 g' e)
 have hS : Same (fun x => G x ∨ w0.heap.size ≤ x) w { w with heap := w.heap.setIfInBounds g (.map es' ck') } := ⟨rfl, rfl, rfl, by simp, fun k _ hk => q2 k fun e => hk (by rw [e]; exact I.own g _ ho), fun k => (hsh k).w⟩
 have K : Keep (fun l => l = (OB + j, 0)) m w o m { w with heap := w.heap.setIfInBounds g (.map es' ck') } o :=
  ⟨Mle.refl _, fun _ _ _ _ => rfl, fun b l h hn => q2 b (hne b l h hn), fun b l h _ => h, fun b j' h => h, fun b s k _ h => ⟨b, k, h⟩, fun g' _ _ => hsh g'⟩
 refine ⟨I.same.trans hS, fun b p u h => ?_, I.mono, I.old, I.own, fun g' l h => by simpa using I.lt g' l h, I.inj, I.pinned, fun s => ?_, I.defers, I.tbl, I.wide, I.shps.keep I.pinned K.sh⟩
 ·
  have h1 := I.sat b p u h
  have hbg : b ≠ g := fun e => by rw [e, hmn] at h; cases h
  rw [World.cell?_of_block (w := w) (q2 b hbg)]
  exact h1
 ·
  by_cases e : s = OB + j
  ·
   subst e
   rw [zY]
   exact ⟨g, ho, hmn, es', ck', q1, hst, hc.1, hc.2⟩
  ·
   rw [zK e]
   refine RepA.keep K (fun _ e' => by injection e' with e' _; exact e e') (fun b off _ hb' => ⟨fun e' => by injection e' with e' _; omega, fun ⟨l', hl'⟩ => ⟨l', ?_⟩⟩) (I.slots s)
   rw [zK (by omega), hl']
theorem Inv.map_new (I : Inv w0 m0 o0 G pins S a w m o) {j : Nat} (hfree : S (OB + j) = .free) : Inv w0 m0 o0 G pins (upd S (OB + j) (.mp [])) a (w.alloc (.map #[] 0)) m (newO o (OB + j) w.heap.size) := by
 have hf : ∀ g k, o g ≠ some (OB + j, k) := by have := I.slots (OB + j); rw [hfree] at this; exact this
 have hS : Same (fun _ => False) w (w.alloc (.map #[] 0)) := Same.alloc _ _ _
 have hne : ∀ b l, o b = some l → b ≠ w.heap.size := fun b l h e => by have := I.lt b l h; omega
 have hk : ∀ b l, o b = some l → newO o (OB + j) w.heap.size b = some l := by
  intro b l h
  unfold newO
  rw [if_neg (hne b l h), h, if_neg]
  intro e
  obtain ⟨s, k⟩ := l
  injection e with e
  subst e
  exact hf b k h
 have hk' : ∀ b l, newO o (OB + j) w.heap.size b = some l → (b = w.heap.size ∧ l = (OB + j, 0)) ∨ (b ≠ w.heap.size ∧ o b = some l) := by
  intro b l h
  unfold newO at h
  split at h
  · rename_i e; injection h with h; exact .inl ⟨e, h.symm⟩
  ·
   split at h
   · cases h
   · rename_i e _; exact .inr ⟨e, h⟩
 have hsh : ∀ g, zB2 w (w.alloc (.map #[] 0)) g := fun g => .of_lt fun h => hS.block g h id
 have K : Keep (fun l => l.1 = OB + j) m w o m (w.alloc (.map #[] 0)) (newO o (OB + j) w.heap.size) :=
  ⟨Mle.refl _, fun _ _ _ _ => rfl, fun b l h _ => hS.block b (I.lt b l h) id, fun b l h _ => hk b l h, fun b j' h => hk b _ h, fun b s k hs h => by
   rcases hk' b _ h with ⟨_, e⟩ | ⟨_, e⟩
   · injection e with e _; exact absurd e hs
   · exact ⟨b, k, e⟩, fun g _ _ => hsh g⟩
 refine ⟨I.same.trans (hS.weaken fun _ h => h.elim), fun b p u h => ?_, I.mono, I.old, fun g l h => ?_, fun g l h => ?_, fun g g' l h h' => ?_, fun s hs g hg => hk g _ (I.pinned s hs g hg), fun s => ?_, I.defers, I.tbl, I.wide, I.shps.keep I.pinned K.sh⟩
 ·
  have h1 := I.sat b p u h
  have hlt : b < w.heap.size := by have := World.block_lt_of_cell? w _ h1; simpa using this
  rw [World.cell?_of_block (w := w) (hS.block b hlt id)]
  exact h1
 ·
  rcases hk' g l h with ⟨e, _⟩ | ⟨_, e⟩
  · subst e; exact I.newG (Nat.le_refl _)
  · exact I.own g l e
 ·
  rcases hk' g l h with ⟨e, _⟩ | ⟨_, e⟩
  · subst e; simp
  · exact Nat.lt_of_lt_of_le (I.lt g l e) hS.size
 ·
  rcases hk' g l h with ⟨e, q⟩ | ⟨_, e⟩ <;> rcases hk' g' l h' with ⟨e', q'⟩ | ⟨_, e'⟩
  · rw [e, e']
  · subst q; exact absurd e' (hf _ _)
  · subst q'; exact absurd e (hf _ _)
  · exact I.inj _ _ _ e e'
 ·
  by_cases e : s = OB + j
  ·
   subst e
   rw [zY]
   exact ⟨w.heap.size, zAt _ _ _, fun p => I.mem_none (Nat.le_refl _), #[], 0, (MapKept.heap_alloc w _).1, ⟨by simp, by simp⟩, rfl, fun i x hi => by simp at hi⟩
  ·
   rw [zK e]
   exact RepA.keep K (fun _ => e) (fun b off _ hb => ⟨fun e' => by have : b = OB + j := e'; omega, fun ⟨l', hl'⟩ => ⟨l', by rw [zK (by omega), hl']⟩⟩) (I.slots s)
theorem ok_mkm {j t : Nat} (hop : op.op = .makeMap t none) (hd : op.dst = some d) (hok : okD N pins S d = true) (hdO : d < OB) (hfree : S (OB + j) = .free) : OpOK P pins N op S (upd (upd S (OB + j) (.mp [])) d (.t (.mpt j))) := by
 refine zW fun w0 m0 o0 G a w m o hN I => ?_
 obtain ⟨h1, h2, h3⟩ := qH hok
 have J := I.map_new hfree
 refine ⟨.map (some w.heap.size), _, _, _, ?_, by rw [hd]; exact J.set d _ _ (by omega) (by rw [zK (by omega)]; exact h2) ⟨_, zAt _ _ _, rfl⟩⟩
 unfold execOp
 rw [hop]
 rfl
theorem ok_mlk {κ ν : Type} [BEq κ] {kv : κ → Value} {cv : ν → D} (hM : Mk M S) {j t kt et : Nat} {x y : Operand} {l : List (κ × ν)} {k : κ} {z : ν} (hop : op.op = .lookup t x y false) (hx : cpO M x = .t (.mpt j)) (hb : S (OB + j) = mpA kv cv l) (hy : vO M y = some (kv k)) (hu : P.underlying t = some (.map kt et)) (K : KeyT P kt kv)
  {i : TypeInfo} {zv : Value} (hi : P.info? et = some i) (hz : i.zero = some zv) (hzr : ∀ m, RepD m (cv z) zv) (hd : op.dst = some d) (hok : okD N pins S d = true) : OpOK P pins N op S (upd S d (.t (.d (cv ((zAu l k).getD z))))) := by
 refine zW fun w0 m0 o0 G a w m o hN I => ?_
 obtain ⟨h1, h2, h3⟩ := qH hok
 have hxr := qS hM I x 0
 rw [hx] at hxr
 obtain ⟨g, k1, k2⟩ := hxr
 have hbs := I.slots (OB + j)
 rw [hb] at hbs
 obtain ⟨g', q1, q2, es, ck, q3, hst, q4⟩ := hbs
 obtain rfl := I.inj _ _ _ k1 q1
 have hE := zKe q4
 have hf := zG4 (m := m) K k l es.toList 0 hE
 have hpos : (l.findIdx? fun p => k == p.1) = mpos l k := rfl
 rw [hpos] at hf
 have hrun : ∀ r, (match mpos l k with | some q => (((es[q]?).map (·.val)).getD undef) | none => zv) = r → (Instr.lookup t (.map (some g)) (kv k) false).run P w = .ok r w := fun r hr => by
  unfold Instr.lookup
  simp only [Sem.run_bind, run_underlying hu, Result.andThen_ok]
  rw [MapKept.run_getObj_map q3]
  simp only [Result.andThen_ok, Sem.run_pure, pure_bind, Sem.run_bind]
  rw [K.chk]
  simp only [Result.andThen_ok, Sem.run_bind]
  rw [MapKept.run_findKey K.und hf]
  simp only [Result.andThen_ok]
  cases hp : mpos l k with
  | none => rw [hp] at hr; simp only [Option.map_none]; simp [zeroValue, typeInfo, hi, hz, go_sem, ← hr]
  | some q => rw [hp] at hr; simp only [Option.map_some]; simp [← hr]
 have hv : RepD m (cv ((zAu l k).getD z)) (match mpos l k with | some q => (((es[q]?).map (·.val)).getD undef) | none => zv) := by
  unfold zAu
  cases hp : mpos l k with
  | none => exact hzr m
  | some q =>
   have hlt : q < l.length := (List.findIdx?_eq_some_iff_getElem.1 hp).1
   obtain ⟨e, h4, h5, h6⟩ := hE.2 q l[q] (List.getElem?_eq_getElem hlt)
   simp only [List.getElem?_eq_getElem hlt, Option.map_some, Option.getD_some]
   have h4 : es[q]? = some e := by simpa using h4
   rw [h4]
   exact h6
 refine ⟨_, w, m, o, ?_, by rw [hd]; exact I.set d (.t (.d (cv ((zAu l k).getD z)))) _ (by omega) h2 hv⟩
 unfold execOp
 rw [hop]
 simp only [Sem.run_bind]
 rw [zCS hM I hy, k2, hrun _ rfl]
 rfl
theorem stm_push {es : Array MapEntry} {ck : Nat} {k v : Value} (h : Stm es ck) : Stm (es.push { key := k, val := v, born := ck }) (ck + 1) := by
 refine ⟨fun x hx => ?_, ?_⟩
 ·
  simp only [Array.toList_push, List.mem_append, List.mem_singleton] at hx
  rcases hx with hx | rfl
  · exact Nat.lt_succ_of_lt (h.1 x hx)
  · exact Nat.lt_succ_self _
 ·
  simp only [Array.toList_push, List.map_append, List.map_cons, List.map_nil]
  refine List.nodup_append.2 ⟨h.2, by simp, fun a ha b hb => ?_⟩
  simp only [List.mem_singleton] at hb
  subst hb
  obtain ⟨x, hx, rfl⟩ := List.mem_map.1 ha
  exact Nat.ne_of_lt (h.1 x hx)
theorem zK8 {es : Array MapEntry} {ck q : Nat} {k v : Value} (h : Stm es ck) : Stm (es.modify q fun e => { e with key := k, val := v }) ck := by
 have hb : (es.modify q fun e => { e with key := k, val := v }).toList.map (·.born) = es.toList.map (·.born) := by
  apply List.ext_getElem?
  intro j
  simp only [List.getElem?_map, Array.getElem?_toList, Array.getElem?_modify]
  by_cases hij : q = j
  · subst hij; cases es[q]? <;> simp
  · simp [hij]
 refine ⟨fun x hx => ?_, by rw [hb]; exact h.2⟩
 have h1 : x.born ∈ (es.modify q fun e => { e with key := k, val := v }).toList.map (·.born) := List.mem_map.2 ⟨x, hx, rfl⟩
 rw [hb] at h1
 obtain ⟨y, hy, e⟩ := List.mem_map.1 h1
 rw [← e]
 exact h.1 y hy
theorem run_mup {t kt et : TypeId} {κ ν : Type} [BEq κ] {kv : κ → Value} {cv : ν → D} (K : KeyT P kt kv) (hu : P.underlying t = some (.map kt et)) {g ck : Nat} {es : Array MapEntry} (hg : w.heap[g]? = some (.map es ck)) {l : List (κ × ν)} (hE : EntR m kv cv l es.toList) (hst : Stm es ck) (k : κ) {v : ν} {u : Value} (hv : RepD m (cv v) u) :
  ∃ es' ck', Stm es' ck' ∧ (Instr.mapUpdate t (.map (some g)) (kv k) u).run P w = .ok () { w with heap := w.heap.setIfInBounds g (.map es' ck') } ∧ EntR m kv cv (mset l k v) es'.toList := by
 have hf := zG4 (m := m) K k l es.toList 0 hE
 have hpos : (l.findIdx? fun p => k == p.1) = mpos l k := rfl
 rw [hpos] at hf
 have start : ∀ r, (match mpos l k with
   | some i => do
    let key ← Instr.keyThatStays (((es[i]?).map (·.key)).getD (kv k)) (kv k)
    setObj g (.map (es.modify i fun e => { e with key, val := u }) ck)
   | none => setObj g (.map (es.push { key := kv k, val := u, born := ck }) (ck + 1)) : Sem Unit).run P w = r → (Instr.mapUpdate t (.map (some g)) (kv k) u).run P w = r := fun r hr => by
  unfold Instr.mapUpdate
  simp only [Sem.run_bind, run_underlying hu, Result.andThen_ok]
  rw [MapKept.run_getObj_map hg]
  simp only [Result.andThen_ok, Sem.run_bind]
  rw [K.chk]
  simp only [Result.andThen_ok, Sem.run_bind]
  rw [MapKept.run_findKey K.und hf]
  simp only [Result.andThen_ok]
  cases hp : mpos l k with
  | none => rw [hp] at hr; exact hr
  | some q => rw [hp] at hr; simp only [Option.map_some, Nat.zero_add]; exact hr
 cases hp : mpos l k with
 | none =>
  rw [hp] at start
  refine ⟨es.push { key := kv k, val := u, born := ck }, ck + 1, stm_push hst, start _ (MapKept.run_setObj_map _ hg), ?_⟩
  unfold mset
  rw [hp]
  refine ⟨by simp [hE.1], fun i x hi => ?_⟩
  rw [List.getElem?_append] at hi
  have hlen := hE.1
  split at hi
  ·
   rename_i hlt
   obtain ⟨e, h1, h2, h3⟩ := hE.2 i x hi
   refine ⟨e, ?_, h2, h3⟩
   rw [Array.toList_push, List.getElem?_append_left (by omega)]
   exact h1
  ·
   rename_i hlt
   have hil : i = l.length := by
    rcases Nat.lt_or_ge (i - l.length) 1 with h | h
    · omega
    · rw [List.getElem?_eq_none (by simpa using h)] at hi; cases hi
   subst hil
   rw [Nat.sub_self] at hi
   injection hi with hi
   subst hi
   refine ⟨{ key := kv k, val := u, born := ck }, ?_, rfl, hv⟩
   rw [Array.toList_push, List.getElem?_append_right (by omega), hlen, Nat.sub_self]
   rfl
 | some q =>
  rw [hp] at start
  have hp' := List.findIdx?_eq_some_iff_getElem.1 hp
  obtain ⟨hlt, heq, _⟩ := hp'
  obtain ⟨e, h4, h5, h6⟩ := hE.2 q l[q] (List.getElem?_eq_getElem hlt)
  have h4' : es[q]? = some e := by simpa using h4
  have hk : Instr.keyThatStays (((es[q]?).map (·.key)).getD (kv k)) (kv k) = pure (kv k) := by
   unfold Instr.keyThatStays
   rw [h4']
   simp only [Option.map_some, Option.getD_some]
   rw [h5, if_pos (K.bits _ _ heq)]
  refine ⟨es.modify q fun e => { e with key := kv k, val := u }, ck, zK8 hst, start _ (by show (do let key ← Instr.keyThatStays (((es[q]?).map (·.key)).getD (kv k)) (kv k); setObj g (.map (es.modify q fun e => { e with key, val := u }) ck) : Sem Unit).run P w = _; rw [hk]; simp only [pure_bind]; exact MapKept.run_setObj_map _ hg), ?_⟩
  unfold mset
  rw [hp]
  have hes : (es.modify q fun e => { e with key := kv k, val := u }).toList = es.toList.modify q fun e => { e with key := kv k, val := u } := by simp
  rw [hes]
  refine ⟨by simp [hE.1], fun i x hi => ?_⟩
  rw [List.getElem?_set] at hi
  rw [List.getElem?_modify]
  split at hi
  ·
   rename_i e2
   subst e2
   first | rw [if_pos hlt] at hi | skip
   injection hi with hi
   subst hi
   exact ⟨{ e with key := kv k, val := u }, by rw [h4]; simp, rfl, hv⟩
  ·
   rename_i e2
   obtain ⟨e', h1, h2, h3⟩ := hE.2 i x hi
   exact ⟨e', by rw [h1]; simp [e2], h2, h3⟩
theorem ok_mup {κ ν : Type} [BEq κ] {kv : κ → Value} {cv : ν → D} (hM : Mk M S) {j t kt et : Nat} {x y z : Operand} {l : List (κ × ν)} {k : κ} {v : ν} (hop : op.op = .mapUpdate t x y z) (hx : cpO M x = .t (.mpt j)) (hb : S (OB + j) = mpA kv cv l) (hy : vO M y = some (kv k)) (hz : dO M z = some (cv v)) (hu : P.underlying t = some (.map kt et)) (K : KeyT P kt kv)
  (hd : op.dst = none) : OpOK P pins N op S (upd S (OB + j) (mpA kv cv (mset l k v))) := by
 refine zFf hd fun w0 m0 o0 G a w m o hN I => ?_
 have hxr := qS hM I x 0
 rw [hx] at hxr
 obtain ⟨g, k1, k2⟩ := hxr
 have hbs := I.slots (OB + j)
 rw [hb] at hbs
 obtain ⟨g', q1, q2, es, ck, q3, hst, q4⟩ := hbs
 obtain rfl := I.inj _ _ _ k1 q1
 obtain ⟨es', ck', hst', hr, hE'⟩ := run_mup (m := m) K hu q3 (zKe q4) hst k (zEX hM I hz)
 refine ⟨_, m, o, ?_, I.map_turn (ck' := ck') hb q1 q3 q2 hst' (ent_mp K.one hE')⟩
 unfold execOp
 rw [hop]
 simp only [Sem.run_bind]
 rw [zCS hM I hy, k2, hr]
 rfl
theorem ok_mln {κ ν : Type} [BEq κ] {kv : κ → Value} {cv : ν → D} (hM : Mk M S) {j t kt et : Nat} {x : Operand} {l : List (κ × ν)} (hop : op.op = .call { callee := .builtin .len, args := #[x], argTypes := #[t] }) (hx : cpO M x = .t (.mpt j)) (hb : S (OB + j) = mpA kv cv l) (hu : P.underlying t = some (.map kt et)) (hd : op.dst = some d) (hok : okD N pins S d = true) : OpOK P pins N op S (upd S d (.t (.d (.lit (.int .i64 l.length))))) := by
 refine zW fun w0 m0 o0 G a w m o hN I => ?_
 obtain ⟨h1, h2, h3⟩ := qH hok
 have hxr := qS hM I x 0
 rw [hx] at hxr
 obtain ⟨g, k1, k2⟩ := hxr
 have hbs := I.slots (OB + j)
 rw [hb] at hbs
 obtain ⟨g', q1, q2, es, ck, q3, hst, q4⟩ := hbs
 obtain rfl := I.inj _ _ _ k1 q1
 refine ⟨.int .i64 l.length, w, m, o, ?_, by rw [hd]; exact I.set d _ _ (by omega) h2 (.lit _ rfl)⟩
 unfold execOp
 rw [hop]
 simp only [resolve, invoke, builtin, Sem.run_bind, Sem.run_pure, Result.andThen_ok, List.map_toArray, List.map_cons, List.map_nil]
 rw [k2]
 have hl : es.size = l.length := by simpa using q4.1
 have hr : (Builtin.len_ #[t] op.type #[.map (some g)]).run P w = .ok (.int .i64 l.length) w := by
  unfold Builtin.len_
  simp only [List.getElem?_toArray, List.getElem?_cons_zero]
  simp only [Sem.run_bind, run_underlying hu, Result.andThen_ok]
  rw [MapKept.run_getObj_map q3]
  simp [goInt, hl]
 rw [hr]
 rfl
end
end Go.Proofs.YtjomnccladjpgaaGreat

/-
 Maps that the heap holds.
-/
namespace Go.Proofs.YtjomnccladjpgaaGreat
open Go Go.RowKit
set_option linter.unusedVariables false
section
variable {w0 : World} {m0 : Mem} {o0 : OwnM} {G : GD} {pins : List Nat} {S M : Nat → A} {a : Act} {w : World} {m : Mem} {o : OwnM} {P : Program} {N : Nat} {op : Oper} {d c : Nat} {f f' : Nat → A}
theorem hx_mp {l : List (D × D)} (hl : Low S) (hk : S HK = .hp f) (hf : f c = .mp l) : hx S (OB + (OB + c)) = .mp l := by rw [zE3 hl hk, hf]; rfl
theorem h_putM {l' : List (D × D)} (hk : S HK = .hp f) (hf' : f' = updF f c (.mp l')) (h : N ≤ OB → Low S → OpOK P pins N op (hx S) (upd (hx S) (OB + (OB + c)) (.mp l'))) : OpH P pins N op S (app S [(HK, .hp f')]) := by
 subst hf'
 intro hN hl
 refine ⟨?_, hl.upd zHu⟩
 show OpOK P pins N op (hx S) (hx (upd S HK _))
 rw [zKa hl hk rfl]
 refine (h hN hl).hkpost (f := f) ?_
 rw [zK (by unfold HK OB; omega)]
 exact zCe hk (by simp)
theorem h_mkM {l' : List (D × D)} {x : A} (hk : S HK = .hp f) (hf' : f' = updF f c (.mp l')) (hok : okD N pins S d = true) (h : N ≤ OB → Low S → OpOK P pins N op (hx S) (upd (upd (hx S) (OB + (OB + c)) (.mp l')) d x)) : OpH P pins N op S (app S [(HK, .hp f'), (d, x)]) := by
 subst hf'
 intro hN hl
 have hdO := qX hN hok
 have hd2 : d ≠ HK := by unfold HK; unfold OB at hdO; omega
 refine ⟨?_, (hl.upd zHu).upd (lt2 hdO)⟩
 show OpOK P pins N op (hx S) (hx (upd (upd S HK _) d x))
 rw [zD3 (lt2 hdO) hd2, zKa hl hk rfl, zF2 (Ne.symm hd2)]
 refine (h hN hl).hkpost (f := f) ?_
 show upd (upd (hx S) (OB + (OB + c)) _) d x HK = _
 rw [zK (Ne.symm hd2), zK (by unfold HK OB; omega)]
 exact zCe hk (by simp)
theorem h_mkmH {t : Nat} (hk : S HK = .hp f) (hop : op.op = .makeMap t none) (hd : op.dst = some d) (hok : okD N pins S d = true) (hf : f c = .free) (hf' : f' = updF f c (.mp [])) : OpH P pins N op S (app S [(HK, .hp f'), (d, .t (.mpt (OB + c)))]) :=
 h_mkM hk hf' hok fun hN hlo => ok_mkm hop hd (yM hN hok) (by simpa using qX hN hok) (zJy hlo hk hf)
theorem h_mlkH {κ ν : Type} [BEq κ] {kv : κ → Value} {cv : ν → D} (hM : Mk M S) (hk : S HK = .hp f) {t kt et : Nat} {x y : Operand} {l : List (κ × ν)} {k : κ} {z : ν} {r : A} (hop : op.op = .lookup t x y false) (hx : cpO M x = .t (.mpt (OB + c))) (hf : f c = mpA kv cv l) (hy : vO M y = some (kv k)) (hu : P.underlying t = some (.map kt et)) (K : KeyT P kt kv)
  {i : TypeInfo} {zv : Value} (hi : P.info? et = some i) (hz : i.zero = some zv) (hzr : ∀ m, RepD m (cv z) zv) (hr : A.t (.d (cv ((zAu l k).getD z))) = r) (hd : op.dst = some d) (hok : okD N pins S d = true) : OpH P pins N op S (app S [(d, r)]) := by
 subst hr
 exact .of' (e := [(d, _)]) fun hN hlo => ⟨ok_mlk hM.hx hop hx (hx_mp hlo hk hf) hy hu K hi hz hzr hd (yM hN hok), zB3 (qX hN hok)⟩
theorem ok_mlk2 {κ ν : Type} [BEq κ] {kv : κ → Value} {cv : ν → D} (hM : Mk M S) {j t kt et : Nat} {x y : Operand} {l : List (κ × ν)} {k : κ} {z : ν} (hop : op.op = .lookup t x y true) (hx : cpO M x = .t (.mpt j)) (hb : S (OB + j) = mpA kv cv l) (hy : vO M y = some (kv k)) (hu : P.underlying t = some (.map kt et)) (K : KeyT P kt kv)
  {i : TypeInfo} {zv : Value} (hi : P.info? et = some i) (hz : i.zero = some zv) (hzr : ∀ m, RepD m (cv z) zv) (hd : op.dst = some d) (hok : okD N pins S d = true) : OpOK P pins N op S (upd S d (.tup [.d (cv ((zAu l k).getD z)), .d (.lit (.bool (zAu l k).isSome))])) := by
 refine zW fun w0 m0 o0 G a w m o hN I => ?_
 obtain ⟨h1, h2, h3⟩ := qH hok
 have hxr := qS hM I x 0
 rw [hx] at hxr
 obtain ⟨g, k1, k2⟩ := hxr
 have hbs := I.slots (OB + j)
 rw [hb] at hbs
 obtain ⟨g', q1, q2, es, ck, q3, hst, q4⟩ := hbs
 obtain rfl := I.inj _ _ _ k1 q1
 have hE := zKe q4
 have hf := zG4 (m := m) K k l es.toList 0 hE
 have hpos : (l.findIdx? fun p => k == p.1) = mpos l k := rfl
 rw [hpos] at hf
 have hrun : ∀ r, (match mpos l k with | some q => (((es[q]?).map (·.val)).getD undef) | none => zv) = r → (Instr.lookup t (.map (some g)) (kv k) true).run P w = .ok (.tuple #[r, .bool (mpos l k).isSome]) w := fun r hr => by
  unfold Instr.lookup
  simp only [Sem.run_bind, run_underlying hu, Result.andThen_ok]
  rw [MapKept.run_getObj_map q3]
  simp only [Result.andThen_ok, Sem.run_pure, pure_bind, Sem.run_bind]
  rw [K.chk]
  simp only [Result.andThen_ok, Sem.run_bind]
  rw [MapKept.run_findKey K.und hf]
  simp only [Result.andThen_ok]
  cases hp : mpos l k with
  | none => rw [hp] at hr; simp only [Option.map_none]; simp [zeroValue, typeInfo, hi, hz, go_sem, ← hr]
  | some q => rw [hp] at hr; simp only [Option.map_some]; simp [← hr]
 have hv : RepD m (cv ((zAu l k).getD z)) (match mpos l k with | some q => (((es[q]?).map (·.val)).getD undef) | none => zv) := by
  unfold zAu
  cases hp : mpos l k with
  | none => exact hzr m
  | some q =>
   have hlt : q < l.length := (List.findIdx?_eq_some_iff_getElem.1 hp).1
   obtain ⟨e, h4, h5, h6⟩ := hE.2 q l[q] (List.getElem?_eq_getElem hlt)
   simp only [List.getElem?_eq_getElem hlt, Option.map_some, Option.getD_some]
   have h4 : es[q]? = some e := by simpa using h4
   rw [h4]
   exact h6
 have hs : (mpos l k).isSome = (zAu l k).isSome := by
  unfold zAu
  cases hp : mpos l k with
  | none => rfl
  | some q =>
   have hlt : q < l.length := (List.findIdx?_eq_some_iff_getElem.1 hp).1
   simp [List.getElem?_eq_getElem hlt]
 rw [hs] at hrun
 obtain ⟨rv, hrv⟩ : ∃ rv : Value, (match mpos l k with | some q => (((es[q]?).map (fun e : MapEntry => e.val)).getD undef) | none => zv) = rv := ⟨_, rfl⟩
 rw [hrv] at hv
 have hrep : RepA m w o S d (.tup [.d (cv ((zAu l k).getD z)), .d (.lit (.bool (zAu l k).isSome))]) (.tuple #[rv, .bool (zAu l k).isSome]) := by
  refine ⟨#[rv, .bool (zAu l k).isSome], rfl, rfl, fun q x hq => ?_⟩
  match q, hq with
  | 0, hq =>
   injection hq with hq
   subst hq
   exact ⟨_, rfl, hv⟩
  | 1, hq =>
   injection hq with hq
   subst hq
   exact ⟨_, rfl, .lit _ rfl⟩
  | q + 2, hq => simp at hq
 refine ⟨.tuple #[rv, .bool (zAu l k).isSome], w, m, o, ?_, by rw [hd]; exact I.set d _ _ (by omega) h2 hrep⟩
 unfold execOp
 rw [hop]
 simp only [Sem.run_bind]
 rw [zCS hM I hy, k2, hrun _ hrv]
 rfl
theorem h_mlk2H {κ ν : Type} [BEq κ] {kv : κ → Value} {cv : ν → D} (hM : Mk M S) (hk : S HK = .hp f) {t kt et : Nat} {x y : Operand} {l : List (κ × ν)} {k : κ} {z : ν} (hop : op.op = .lookup t x y true) (hx : cpO M x = .t (.mpt (OB + c))) (hf : f c = mpA kv cv l) (hy : vO M y = some (kv k)) (hu : P.underlying t = some (.map kt et)) (K : KeyT P kt kv)
  {i : TypeInfo} {zv : Value} (hi : P.info? et = some i) (hz : i.zero = some zv) (hzr : ∀ m, RepD m (cv z) zv) (hd : op.dst = some d) (hok : okD N pins S d = true) : OpH P pins N op S (app S [(d, .tup [.d (cv ((zAu l k).getD z)), .d (.lit (.bool (zAu l k).isSome))])]) :=
 .of' (e := [(d, _)]) fun hN hlo => ⟨ok_mlk2 hM.hx hop hx (hx_mp hlo hk hf) hy hu K hi hz hzr hd (yM hN hok), zB3 (qX hN hok)⟩
theorem h_mupH {κ ν : Type} [BEq κ] {kv : κ → Value} {cv : ν → D} (hM : Mk M S) (hk : S HK = .hp f) {t kt et : Nat} {x y z : Operand} {l : List (κ × ν)} {k : κ} {v : ν} (hop : op.op = .mapUpdate t x y z) (hx : cpO M x = .t (.mpt (OB + c))) (hf : f c = mpA kv cv l) (hy : vO M y = some (kv k)) (hz : dO M z = some (cv v)) (hu : P.underlying t = some (.map kt et)) (K : KeyT P kt kv)
  (hd : op.dst = none) (hf' : f' = updF f c (mpA kv cv (mset l k v))) : OpH P pins N op S (app S [(HK, .hp f')]) :=
 h_putM hk hf' fun hN hlo => ok_mup hM.hx hop hx (hx_mp hlo hk hf) hy hz hu K hd
theorem h_mlnH {κ ν : Type} [BEq κ] {kv : κ → Value} {cv : ν → D} (hM : Mk M S) (hk : S HK = .hp f) {t kt et : Nat} {x : Operand} {l : List (κ × ν)} {r : A} (hop : op.op = .call { callee := .builtin .len, args := #[x], argTypes := #[t] }) (hx : cpO M x = .t (.mpt (OB + c))) (hf : f c = mpA kv cv l) (hu : P.underlying t = some (.map kt et)) (hr : A.t (.d (.lit (.int .i64 l.length))) = r) (hd : op.dst = some d) (hok : okD N pins S d = true) : OpH P pins N op S (app S [(d, r)]) := by
 subst hr
 exact .of' (e := [(d, _)]) fun hN hlo => ⟨ok_mln hM.hx hop hx (hx_mp hlo hk hf) hu hd (yM hN hok), zB3 (qX hN hok)⟩
theorem ok_mn (hM : Mk M S) {bop : BinOp} {t yt kt et j : Nat} {x : Operand} {ng : Bool} (hop : op.op = .binOp bop t x (.const (.map none)) yt) (hb : bop = bif ng then .neq else .eql) (ht : P.underlying t = some (.map kt et)) (hx : cpO M x = .t (.mpt j)) (hd : op.dst = some d) (hok : okD N pins S d = true) : OpOK P pins N op S (upd S d (.t (.d (.lit (.bool ng))))) := by
 refine zW fun w0 m0 o0 G a w m o hN I => ?_
 obtain ⟨h1, h2, h3⟩ := qH hok
 have hxr := qS hM I x 0
 rw [hx] at hxr
 obtain ⟨g, k1, k2⟩ := hxr
 refine ⟨.bool ng, w, m, o, ?_, by rw [hd]; exact I.set d _ _ (by omega) h2 (.lit _ rfl)⟩
 subst hb
 unfold execOp
 rw [hop]
 show Sem.run P (do pure (Next.value (← (do eqGuard _ t x _ (a.eval x) (.map none); binOp _ t (a.eval x) (.map none))))) w = _
 rw [k2, Sem.run_bind]
 have hg : ∀ bop : BinOp, (eqGuard bop t x (.const (.map none)) (.map (some g)) (.map none)).run P w = .ok () w := by
  intro bop
  unfold eqGuard
  cases bop <;> rfl
 cases ng with
 | false =>
  show Result.andThen (Sem.run P (do eqGuard .eql t x _ (.map (some g)) (.map none); binOp .eql t (.map (some g)) (.map none)) w) _ = _
  rw [Sem.run_bind, hg, Result.andThen_ok, run_eql_map_nil w t kt et (some g) ht]
  rfl
 | true =>
  show Result.andThen (Sem.run P (do eqGuard .neq t x _ (.map (some g)) (.map none); binOp .neq t (.map (some g)) (.map none)) w) _ = _
  rw [Sem.run_bind, hg, Result.andThen_ok, run_neq_map_nil w t kt et (some g) ht]
  rfl
theorem h_mn (hM : Mk M S) {bop : BinOp} {t yt kt et j : Nat} {x : Operand} {ng : Bool} (hop : op.op = .binOp bop t x (.const (.map none)) yt) (hb : bop = bif ng then .neq else .eql) (ht : P.underlying t = some (.map kt et)) (hx : cpO M x = .t (.mpt j)) (hd : op.dst = some d) (hok : okD N pins S d = true) : OpH P pins N op S (app S [(d, .t (.d (.lit (.bool ng))))]) :=
 .of (e := [(d, _)]) fun hN => ⟨ok_mn hM.hx hop hb ht hx hd (yM hN hok), zB3 (qX hN hok)⟩
theorem mpt_loc (c : Nat) : (T.mpt (OB + c)).isLoc = false := by
 show Nat.blt (OB + c) OB = false
 have h : ¬ (OB + c < OB) := by omega
 cases hb : Nat.blt (OB + c) OB with
 | false => rfl
 | true => exact absurd (by simpa using hb) h
def arM {κ ν : Type} (kv : κ → Value) (cv : ν → D) (l : List (List (κ × ν))) (i : Nat) : A := match l[i]? with
 | some x => mpA kv cv x
 | none => .free
variable {κ ν : Type} {kv : κ → Value} {cv : ν → D} {ms : List (List (κ × ν))} {i : Nat} {x x' : List (κ × ν)}
theorem arM_get (h : ms[i]? = some x) : arM kv cv ms i = mpA kv cv x := by unfold arM; rw [h]
theorem arM_ne {j : Nat} (h : j ≠ i) : arM kv cv (ms.set i x') j = arM kv cv ms j := by unfold arM; rw [List.getElem?_set_ne (Ne.symm h)]
theorem arM_eq (h : ms[i]? = some x) : arM kv cv (ms.set i x') i = mpA kv cv x' := arM_get (zR h)
theorem arM_free : arM kv cv ms ms.length = .free := by unfold arM; rw [List.getElem?_eq_none (Nat.le_refl _)]
theorem arM_new : arM kv cv (ms ++ [x]) ms.length = mpA kv cv x := by
 unfold arM
 rw [List.getElem?_append_right (Nat.le_refl _)]
 simp
theorem arM_old {j : Nat} (h : j ≠ ms.length) : arM kv cv (ms ++ [x]) j = arM kv cv ms j := by
 unfold arM
 rcases Nat.lt_or_ge j ms.length with h1 | h1
 · rw [List.getElem?_append_left h1]
 · rw [List.getElem?_eq_none h1, List.getElem?_eq_none (by simp; omega)]
theorem arM_pure {l : List T} (h : arM kv cv ms i = .box l) : ∀ y ∈ l, y.isLoc = false := by
 unfold arM at h
 split at h <;> cases h
theorem san_arM (kv : κ → Value) (cv : ν → D) (l : List (List (κ × ν))) (i : Nat) : san (arM kv cv l i) = arM kv cv l i := by unfold arM; split <;> rfl
end
open Go.Lib
end Go.Proofs.YtjomnccladjpgaaGreat
