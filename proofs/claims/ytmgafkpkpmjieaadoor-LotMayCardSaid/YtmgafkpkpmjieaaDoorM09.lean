/-
  Texts joined: see the remark at the head of each part.
-/
import Derived.Test.YtmgafkpkpmjieaaDoorM04
import Derived.Test.YtmgafkpkpmjieaaDoorM08
import Derived.Test.YtmgafkpkpmjieaaDoorM05
import Derived.Lib.AppendZeros
import Derived.Test.YtmgafkpkpmjieaaDoorM07
set_option linter.unusedVariables false
set_option linter.unusedSimpArgs false
/-
 From contracts that name memory to contracts over data.
-/
namespace Go.Proofs.YtmgafkpkpmjieaaDoor
open Go Go.RowKit
set_option linter.unusedVariables false
def zE4 (m : Mem) (w w' : World) : Mem := fun b p => if b < w.heap.size then m b p else w'.cell? ⟨b, p, none⟩
theorem zG1 {w w' : World} {m : Mem} {o : OwnM} {pins : List Nat} (hsat : ∀ b p u, m b p = some u → w.cell? ⟨b, p, none⟩ = some u) (htbl : Mle TBL m) (hlt : ∀ g l, o g = some l → g < w.heap.size ∧ l.1 < OB) (hinj : ∀ g g' l, o g = some l → o g' = some l → g = g') (hb : Below w.heap.size w w') :
  Inv w m o ⟨fun g => o g ≠ none, []⟩ pins (fun _ => .any) { tmps := #[], defers := [] } w' (zE4 m w w') o := by
 have hlow : ∀ b p u, m b p = some u → b < w.heap.size := fun b p u h => by
  have := World.block_lt_of_cell? w _ (hsat b p u h)
  simpa using this
 refine ⟨Same.of_below hb, fun b p u h => ?_, fun b p u h => ?_, fun b hb' _ => ?_, fun g l h => .inl (by show o g ≠ none; rw [h]; simp), fun g l h => Nat.lt_of_lt_of_le (hlt g l h).1 hb.size, hinj, fun s _ g hg => hg, fun s => trivial, rfl, htbl, Nat.zero_le _, fun g j h => absurd (hlt g _ h).2 (by show ¬ OB + j < OB; omega)⟩
 ·
  unfold zE4 at h
  split at h
  ·
   rename_i hlt
   rw [hb.cell (p := ⟨b, p, none⟩) hlt]
   exact hsat b p u h
  · exact h
 ·
  unfold zE4
  rw [if_pos (hlow b p u h)]
  exact h
 ·
  funext p
  unfold zE4
  rw [if_pos hb']
theorem zIc {w w' : World} {m : Mem} {A' : Option Addr} {bs : List UInt8} {c : Nat} (h : New w w' A' bs) (hc : bs.length ≤ c ∧ c ≤ maxLen) : RepD (zE4 m w w') (.seq 1 (zD bs)) (.slice A' bs.length c) := by
 have hl : (zD bs).length = bs.length := zGi bs
 have key : ∀ A0 : Option Addr, (zD bs ≠ [] → ∃ g p, A0 = some ⟨g, p, none⟩ ∧ w.heap.size ≤ g ∧ ∀ i (hi : i < bs.length), w'.cell? ⟨g, p + i, none⟩ = some (.int .u8 (bs[i].toNat : Int))) → RepD (zE4 m w w') (.seq 1 (zD bs)) (.slice A0 (zD bs).length c) := by
  intro A0 hA0
  by_cases he : zD bs = []
  ·
   rw [he]
   exact .seq 1 [] A0 c 0 0 (fun _ _ => undef) (by simp) hc.2 (fun h => absurd rfl h) (fun i r h => by simp at h) (fun i r j d h => by simp at h) (fun i r j d h => by simp at h)
  ·
   obtain ⟨g, p, e, hg, hcell⟩ := hA0 he
   have hb : ∀ (i : Nat) (r : List D), (zD bs)[i]? = some r → ∃ hi : i < bs.length, r = [D.lit (.int .u8 (bs[i].toNat : Int))] := by
    intro i r hi
    have hlt : i < bs.length := by rw [← hl]; exact (List.getElem?_eq_some_iff.1 hi).1
    refine ⟨hlt, ?_⟩
    unfold zD at hi
    rw [List.getElem?_map, List.getElem?_eq_getElem hlt] at hi
    injection hi with hi
    exact hi.symm
   refine .seq 1 _ A0 c g p (fun i _ => if h : i < bs.length then .int .u8 (bs[i].toNat : Int) else undef) (by rw [hl]; exact hc.1) hc.2 (fun _ => e) (fun i r hi => ?_) (fun i r j d hi hj => ?_) (fun i r j d hi hj => ?_)
   ·
    obtain ⟨_, rfl⟩ := hb i r hi
    rfl
   ·
    obtain ⟨hlt, rfl⟩ := hb i r hi
    cases j with
    | succ j => simp at hj
    | zero =>
     unfold zE4
     rw [if_neg (by omega), Nat.mul_one, Nat.add_zero, hcell i hlt]
     simp [hlt]
   ·
    obtain ⟨hlt, rfl⟩ := hb i r hi
    cases j with
    | succ j => simp at hj
    | zero =>
     injection hj with hj
     subst hj
     simp only [hlt, dif_pos]
     exact .lit _ rfl
 rw [← hl]
 refine key A' fun hne => ?_
 have hpos : 0 < bs.length := by rw [← hl]; exact List.length_pos_iff.2 hne
 obtain ⟨ad, e, hc0⟩ := h.1.at_ (j := 0) hpos
 have hs : ad.spot = none := by
  have := World.cell?_spot hc0
  simpa [Addr.add] using this
 obtain ⟨g, p, sp⟩ := ad
 simp only at hs
 subst hs
 refine ⟨g, p, e, h.2 _ e, fun i hi => ?_⟩
 obtain ⟨ad', e', hci⟩ := h.1.at_ (j := i) hi
 rw [e] at e'
 injection e' with e'
 subst e'
 rwa [Addr.add_mid] at hci
theorem zGq {f : FuncId} {args : List A} {bs : List UInt8} {er : Int} (h : ∀ (w : World) (m : Mem) (o : OwnM) (vals : Array Value), vals.size = args.length → (∀ s, RepA m w o (argS args) s (argS args s) (vals.getD s undef)) → Calls Tryd.prog f vals w (zHW bs er w)) : FC Tryd.prog f args [] (.tup [.d (.seq 1 (zD bs)), .d (.lit (.int .i64 er))]) := by
 intro w m o vals hsat htbl hlt hinj hsz hrep
 refine (h w m o vals hsz hrep).mono ?_
 rintro e w' ⟨A', c, rfl, hnew, hc, hb⟩
 refine ⟨_, zE4 m w w', o, _, _, 0, rfl, zG1 hsat htbl hlt hinj hb, ⟨_, rfl, rfl, fun j x hj => ?_⟩, fun i l h => by cases h⟩
 match j, hj with
 | 0, hj => injection hj with hj; subst hj; exact ⟨_, rfl, zIc hnew hc⟩
 | 1, hj => injection hj with hj; subst hj; exact ⟨_, rfl, .lit _ rfl⟩
 | j + 2, hj => simp at hj
theorem vals2 {x y : Value} {vals : Array Value} (hs : vals.size = 2) (h0 : vals.getD 0 undef = x) (h1 : vals.getD 1 undef = y) : vals = #[x, y] := by
 obtain ⟨l⟩ := vals
 match l, hs with
 | [p, q], _ => simp at h0 h1; rw [h0, h1]
theorem int_of {m : Mem} {w : World} {o : OwnM} {S : Nat → A} {s : Nat} {n : Int} {v : Value} (h : RepA m w o S s (intA n) v) : v = .int .i64 n := by
 have h : RepD m (.lit (.int .i64 n)) v := h
 cases h
 rfl
end Go.Proofs.YtmgafkpkpmjieaaDoor

/-
 The contracts of word.Low, slices.Clone, slices.Reverse, word.turned and word.Put at bytes.
-/
namespace Go.Proofs.YtmgafkpkpmjieaaDoor
open Go.RowKit
theorem pow8 (k : Nat) : 2 ^ (8 * k) = 256 ^ k := by rw [Nat.pow_mul]
theorem div8 (n k : Nat) : ((n : Int) / 2 ^ (8 * k)) = ((n / 256 ^ k : Nat) : Int) := by
 rw [← pow8, Int.natCast_ediv, Int.natCast_pow]
 rfl
theorem fill_step (n k size : Nat) (h : k < size) : (le k n ++ List.replicate (size - k) 0).set k (UInt8.ofNat (n / 256 ^ k % 256)) = le (k + 1) n ++ List.replicate (size - (k + 1)) 0 := by
 rw [List.set_append_right _ _ (by rw [zAT]; omega), zAT, Nat.sub_self, zHf, List.append_assoc]
 congr 1
 rw [show size - k = (size - (k + 1)) + 1 by omega, List.replicate_succ]
 rfl
set_option maxHeartbeats 2000000 in
theorem low_any (n size : Nat) (w : World) (hn : n ≤ 4611686018427387904) (h1 : 1 ≤ size) (h8 : size ≤ 8) (hw : wid n ≤ size) :
  Calls Tryd.prog 29 #[.int .i64 n, .int .i64 size] w (zHW (le size n) 0 w) := by
 have hd : ((n : Int) / 2 ^ (8 * size) != 0) = false := by
  rw [div8, Nat.div_eq_of_lt ((lt_wid _ n).2 hw)]
  rfl
 go_enter Tryd.func29, Tryd.ntmps29
 go_wp2_with (first | (at_make; go_loud (refine zIV _ Tryd.underlying27 (by kernel_rfl) rfl _ _ rfl w.heap.size _ _ _ _ size rfl rfl rfl rfl (by omega) (Nat.le_refl _) ?_)))
 all_goals
  intro w1 hO1 hg1
  have hB1 : Below w.heap.size w w1 := (Below.refl _ _).grown hg1 (Nat.le_refl _) (by simp)
  have hsz1 := hO1.lt _ rfl
  clear hg1
  go_wp2_with fail
  go_loopw [38] (fun i wr => ∃ k : Nat, k ≤ size ∧ i = .int .i64 k ∧ Own wr w.heap.size 5 1 (some ⟨w.heap.size, 0, none⟩) size size (u8s (le k n ++ List.replicate (size - k) 0)) ∧ Below w.heap.size w wr)
   (fun i _ => size - (intOf i).toNat)
  case atStart => exact ⟨0, Nat.zero_le _, rfl, hO1, hB1⟩
  case round =>
   obtain ⟨k, hk, rfl, hO, hB⟩ := hrel
   by_cases hlt : k < size
   ·
    have HS := Lib.hid (fill_step n k size hlt)
    have hdk := div8 n k
    have hc := hO.byteAt (j := k) (by rw [List.length_append, zAT, List.length_replicate]; omega)
    obtain ⟨hc1, hc2⟩ := hc
    generalize (le k n ++ List.replicate (size - k) 0)[k]'(by rw [List.length_append, zAT, List.length_replicate]; omega) = old at *
    have hO2 := hO.setByte k (UInt8.ofNat (n / 256 ^ k % 256))
    generalize n / 256 ^ k = q at *
    rw [HS.out, ← u8_ofNat] at hO2
    clear hO HS
    have hB2 := hB.setCell (p := ⟨w.heap.size, k, none⟩) (Nat.le_refl _) (.int .u8 ((q : Int) % 256))
    go_wp2_with fail
    go_roundw
    case rel => exact ⟨k + 1, by omega, by go_num, hO2, hB2⟩
    case measure => simp [intOf]; omega
   ·
    have HE : Hid (le k n ++ List.replicate (size - k) 0 = le size n) := by
     show _ = _
     rw [show k = size by omega, Nat.sub_self]; simp
    go_wp2_with fail
    go_ret2
    rw [HE.out] at hO
    obtain ⟨a1, a2, a3⟩ := hO.byt
    exact ⟨_, _, by rw [zAT]; rfl, a1, a3, hB⟩
def GivesO (bs : List UInt8) (w : World) (e : Ending) (w' : World) : Prop := ∃ A c, e = .returned (.slice A bs.length c) ∧ Own w' w.heap.size 5 1 A bs.length c (u8s bs) ∧ Below w.heap.size w w'
set_option maxHeartbeats 1000000 in
theorem clone_any (bs : List UInt8) (A : Option Addr) (n c : Nat) (w : World) (hn : bs.length = n) (hl : n ≤ 1000000000000) (ha : Byt w A bs) :
  Calls Tryd.prog 46 #[.slice A n c] w (GivesO bs w) := by
 have hnil := fun (w : World) (A : Option Addr) (n c : Nat) => Lib.run_eql_slice_nil (P := Tryd.prog) w 27 5 A n c 0 0 Tryd.underlying27
 cases A with
 | none =>
  have hb : bs = [] := by
   cases bs with
   | nil => rfl
   | cons b r => obtain ⟨ad, h, _⟩ := ha.at_ (j := 0) (by simp); cases h
  subst hb
  go_enter Tryd.func46, Tryd.ntmps46
  go_wp2_with fail
  go_ret
  exact ⟨none, 0, rfl, Own.nil _ _ _ _, Below.refl _ _⟩
 | some ad =>
  have HN := Lib.hid hn
  have hn1 : n ≤ bs.length := by omega
  have hn2 : bs.length ≤ n := by omega
  clear hn
  go_enter Tryd.func46, Tryd.ntmps46
  go_wp2_with (first | (at_builtin; go_loud (refine zIn _ el_u8 rfl _ _ rfl w.heap.size _ 0 0 [] rfl (Own.litAt #[] _ 1 0 [] rfl (Nat.le_refl _) (by decide) rfl rfl) (some ad) n c (u8s bs) rfl (by rw [zEG, HN.out]; omega) (ha.alloc _) (u8_one _) (by omega) (by simp) ?_)))
  intro A2 c2 w2 hO2 hg2 _
  have hB2 := (Own.litAt (B := w.heap.size) (w := w) #[] 5 1 0 [] rfl (Nat.le_refl _) (by decide) rfl rfl).belowOf (((Below.refl _ _).alloc (Nat.le_refl _) _)) hg2 (by simp) (Nat.le_refl _)
  go_wp2_with fail
  go_ret
  exact ⟨A2, c2, by rw [HN.out]; rfl, by rw [HN.out]; simpa using hO2, hB2⟩
theorem swap_step (bs L : List UInt8) (i j : Nat) (hl : L.length = bs.length) (hij : i + j + 1 = bs.length) (h : i < j)
  (hL : ∀ t, t < bs.length → L[t]? = if t < i ∨ j < t then bs.reverse[t]? else bs[t]?) (hi : i < L.length) (hj : j < L.length) :
  ∀ t, t < bs.length → ((L.set i L[j]).set j L[i])[t]? = if t < i + 1 ∨ j - 1 < t then bs.reverse[t]? else bs[t]? := by
 intro t ht
 have gi : L[i] = bs[i]'(by omega) := by
  have := hL i (by omega)
  rw [if_neg (by omega), List.getElem?_eq_getElem hi, List.getElem?_eq_getElem (by omega)] at this
  exact Option.some.inj this
 have gj : L[j] = bs[j]'(by omega) := by
  have := hL j (by omega)
  rw [if_neg (by omega), List.getElem?_eq_getElem hj, List.getElem?_eq_getElem (by omega)] at this
  exact Option.some.inj this
 by_cases h1 : t = j
 ·
  subst h1
  rw [if_pos (by omega), List.getElem?_set_self (by simp; omega), gi, List.getElem?_reverse (by omega), List.getElem?_eq_getElem (by omega)]
  congr 2
  omega
 ·
  rw [List.getElem?_set_ne (by omega)]
  by_cases h2 : t = i
  ·
   subst h2
   rw [if_pos (by omega), List.getElem?_set_self (by omega), gj, List.getElem?_reverse (by omega), List.getElem?_eq_getElem (by omega)]
   congr 2
   omega
  ·
   rw [List.getElem?_set_ne (by omega), hL t ht]
   by_cases h3 : t < i ∨ j < t
   · rw [if_pos h3, if_pos (by omega)]
   · rw [if_neg h3, if_neg (by omega)]
theorem swap_done (bs L : List UInt8) (i : Nat) (j : Int) (hl : L.length = bs.length) (hij : (i : Int) + j + 1 = bs.length) (h : ¬ (i : Int) < j)
  (hL : ∀ t, t < bs.length → L[t]? = if t < i ∨ j < (t : Int) then bs.reverse[t]? else bs[t]?) : L = bs.reverse := by
 apply List.ext_getElem?
 intro t
 by_cases ht : t < bs.length
 ·
  rw [hL t ht]
  by_cases h3 : t < i ∨ j < (t : Int)
  · rw [if_pos h3]
  ·
   rw [if_neg h3, List.getElem?_reverse (by omega)]
   congr 1
   omega
 · rw [List.getElem?_eq_none (by omega), List.getElem?_eq_none (by simp; omega)]
set_option maxHeartbeats 2000000 in
theorem zHh (bs : List UInt8) (B : Nat) (A : Option Addr) (n c : Nat) (w : World) (hn : bs.length = n) (hl : n ≤ 1000000000000) (hO : Own w B 5 1 A n c (u8s bs)) :
  Calls Tryd.prog 47 #[.slice A n c] w fun e w' => e = .returned (.tuple #[]) ∧ Own w' B 5 1 A n c (u8s bs.reverse) ∧ Below B w w' := by
 by_cases h2 : n < 2
 ·
  have hr : bs.reverse = bs := by
   match bs, hn with
   | [], _ => rfl
   | [a], _ => rfl
   | a :: b :: r, hn => simp at hn; omega
  rw [hr]
  have hlt : ¬ (0 : Int) < (n : Int) - 1 := by omega
  go_enter Tryd.func47, Tryd.ntmps47
  go_wp2_with fail
  refine wp_loop_rounds 1 ?_
  rw [rounds_succ]
  go_wp2_with fail
  go_end0
  exact ⟨rfl, hO, Below.refl _ _⟩
 ·
  obtain ⟨g, rfl, hg1, hg2⟩ := hO.addr (by omega)
  have HN := Lib.hid hn
  have hn1 : bs.length ≤ n := by omega
  have hn2 : n ≤ bs.length := by omega
  clear hn
  go_enter Tryd.func47, Tryd.ntmps47
  go_wp2_with fail
  go_loopw [2, 3] (fun x y wr => ∃ (i : Nat) (j : Int) (L : List UInt8), x = .int .i64 i ∧ y = .int .i64 j ∧ Hid ((i : Int) + j + 1 = n) ∧ L.length ≤ n ∧ n ≤ L.length ∧ -1 ≤ j ∧ (i : Int) ≤ n ∧ j < n ∧ Own wr B 5 1 (some ⟨g, 0, none⟩) n c (u8s L) ∧ Below B w wr ∧
    Hid (∀ t, t < bs.length → L[t]? = if t < i ∨ j < (t : Int) then bs.reverse[t]? else bs[t]?)) (fun _ y _ => (intOf y + 1).toNat)
  case atStart => exact ⟨0, _, bs, rfl, rfl, Lib.hid (by omega), hn1, hn2, by omega, by omega, by omega, hO, Below.refl _ _, fun t ht => by rw [if_neg (by omega)]⟩
  case round =>
   obtain ⟨i, j, L, rfl, rfl, HI, hL1, hL2, hj1, hj2, hj3, hOw, hB, HL⟩ := hrel
   by_cases hlt : (i : Int) < j
   ·
    obtain ⟨jn, hjn⟩ : ∃ jn : Nat, j = jn := ⟨j.toNat, by omega⟩
    subst hjn
    have hi' : i < L.length := by omega
    have hj' : jn < L.length := by omega
    obtain ⟨c1, f1⟩ := hOw.byteAt hi'
    obtain ⟨c2, f2⟩ := hOw.byteAt hj'
    have i1 : (i : Int) < (n : Int) := by omega
    have i2 : (jn : Int) < (n : Int) := by omega
    have i3 : (0 : Int) ≤ (i : Int) := by omega
    have i4 : (0 : Int) ≤ (jn : Int) := by omega
    go_wp2_with fail
    go_region
    have hO2 : Own ((wr.setCell ⟨g, i, none⟩ (.int .u8 (L[jn].toNat : Int))).setCell ⟨g, jn, none⟩ (.int .u8 (L[i].toNat : Int))).drew B 5 1 (some ⟨g, 0, none⟩) n c (u8s ((L.set i L[jn]).set jn L[i])) :=
     ((hOw.setByte i L[jn]).setByte jn L[i]).drew
    have hB2 := ((hB.setCell (p := ⟨g, i, none⟩) hg1 (.int .u8 (L[jn].toNat : Int))).setCell (p := ⟨g, jn, none⟩) hg1 (.int .u8 (L[i].toNat : Int))).drew
    have HS : Hid (∀ t, t < bs.length → ((L.set i L[jn]).set jn L[i])[t]? = if t < i + 1 ∨ (jn : Int) - 1 < (t : Int) then bs.reverse[t]? else bs[t]?) := by
     intro t ht
     have hij := HI.out
     have h := swap_step bs L i jn (by omega) (by omega) (by omega) (fun t ht => by
      rw [HL.out t ht]
      by_cases h : t < i ∨ jn < t
      · rw [if_pos h, if_pos (by omega)]
      · rw [if_neg h, if_neg (by omega)]) hi' hj' t ht
     rw [h]
     by_cases h : t < i + 1 ∨ jn - 1 < t
     · rw [if_pos h, if_pos (by omega)]
     · rw [if_neg h, if_neg (by omega)]
    have hL3 : ((L.set i L[jn]).set jn L[i]).length ≤ n := by simp; omega
    have hL4 : n ≤ ((L.set i L[jn]).set jn L[i]).length := by simp; omega
    generalize (L.set i L[jn]).set jn L[i] = L2 at *
    clear hOw hB HL
    go_wp2_with fail
    go_roundw
    case rel => exact ⟨i + 1, _, L2, by go_num, rfl, by have := HI.out; exact Lib.hid (by omega), hL3, hL4, by omega, by omega, by omega, hO2, hB2, HS.out⟩
    case measure => simp [intOf] <;> omega
   ·
    go_wp2_with fail
    go_end0
    have hij := HI.out
    have := swap_done bs L i j (by omega) (by omega) (by omega) HL.out
    subst this
    exact ⟨rfl, hOw, hB⟩
set_option maxHeartbeats 1000000 in
theorem zIa (bs : List UInt8) (A : Option Addr) (n c : Nat) (w : World) (hn : bs.length = n) (hl : n ≤ 1000000000000) (ha : Byt w A bs) :
  Calls Tryd.prog 30 #[.slice A n c] w (GivesB bs.reverse w) := by
 subst hn
 go_enter Tryd.func30, Tryd.ntmps30
 go_wp2_with fail
 refine (clone_any bs A bs.length c w rfl hl ha).mono ?_
 rintro e w1 ⟨A1, c1, rfl, hO, hB⟩
 go_wp2_with fail
 refine (zHh bs w.heap.size A1 bs.length c1 w1 rfl (by omega) hO).mono ?_
 rintro e w2 ⟨rfl, hO2, hB2⟩
 go_wp2_with fail
 go_ret
 rw [← List.length_reverse] at hO2
 obtain ⟨a1, a2, a3⟩ := hO2.byt
 exact ⟨A1, c1, by rw [List.length_reverse]; rfl, a1, a3, hB.trans hB2⟩
set_option maxHeartbeats 1000000 in
theorem put_any (n size : Nat) (w : World) (hn : n ≤ 4611686018427387904) (h1 : 1 ≤ size) (h8 : size ≤ 8) (hw : wid n ≤ size) :
  Calls Tryd.prog 17 #[.int .i64 n, .int .i64 size] w (zHW (be size n) 0 w) := by
 go_enter Tryd.func17, Tryd.ntmps17
 go_wp2_with fail
 refine (low_any n size _ hn h1 h8 hw).mono ?_
 rintro e w1 ⟨A, c, rfl, hb, hc, hB⟩
 go_wp2_with fail
 refine (zIa (le size n) A _ c w1 rfl (by rw [zAT]; omega) hb.1).mono ?_
 rintro e w2 ⟨A2, c2, rfl, hb2, hc2, hB2⟩
 go_wp2_with fail
 go_ret2
 exact ⟨A2, c2, by rw [zAi, zAT]; rfl, hb2.from hB.size, by rw [zAi]; simpa [zAT] using hc2, hB.trans (hB2.mono hB.size)⟩
end Go.Proofs.YtmgafkpkpmjieaaDoor

/-
 What the library's functions do: a copy of a slice; the program's numbers as bytes.
-/
namespace Go.Proofs.YtmgafkpkpmjieaaDoor
open Go Go.RowKit
set_option linter.unusedVariables false
set_option maxHeartbeats 4000000
set_option maxRecDepth 20000
theorem zFX (p0 p1 : Int) (r : List UInt8 × Int) (h : zBX p0 p1 = some r) : FC Tryd.prog 17 [.t (.d (.lit (.int .i64 p0))), .t (.d (.lit (.int .i64 p1)))] [] (.tup [.d (.seq 1 (zD r.1)), .d (.lit (.int .i64 r.2))]) := by
 unfold zBX at h
 split at h
 case isFalse => cases h
 rename_i hc
 injection h with h
 subst h
 obtain ⟨h1, h2, h3, h4, h5⟩ := hc
 obtain ⟨n, rfl⟩ := Int.eq_ofNat_of_zero_le h1
 obtain ⟨k, rfl⟩ := Int.eq_ofNat_of_zero_le (show 0 ≤ p1 by omega)
 refine zGq fun w m o vals hs hrep => ?_
 rw [vals2 hs (int_of (hrep 0)) (int_of (hrep 1))]
 simp only [Int.toNat_natCast] at h5 ⊢
 exact put_any n k w (by omega) (by omega) (by omega) ((lt_wid k n).1 h5)
end Go.Proofs.YtmgafkpkpmjieaaDoor

/-
 A slice of zeros appended; a slice that may grow out of a call's results; the program's numbers as bytes that may grow.
-/
namespace Go.Proofs.YtmgafkpkpmjieaaDoor
open Go Go.RowKit
set_option linter.unusedVariables false
set_option linter.unusedSimpArgs false
theorem zDU {z : Value} (n : Nat) : Builtin.zeroCells #[z] n = (List.replicate n z).toArray := by
 unfold Builtin.zeroCells
 apply Array.ext_getElem?
 intro i
 rw [Array.getElem?_map, Array.getElem?_range]
 by_cases h : i < n
 · rw [if_pos (by simpa using h)]; simp [h, Nat.mod_one]
 · rw [if_neg (by simpa using h)]; simp [h]
theorem zGd (P : Program) (w : World) {t tn e : TypeId} {ie : TypeInfo} {z : Value} (hu : P.underlying t = some (.slice e)) (kn : IntKind) (htn : P.underlying tn = some (.int kn)) (hi : P.info? e = some ie) (hz : ie.zero = some z) (hs1 : ie.size = 1) (hz1 : z.cells = #[z]) (hz2 : z.oneCell' = true) (hpb : 0 < ie.bytes) (ty : TypeId) (A' : Option Addr) (n c : Nat) (xs : List Value) (hown : Own w 0 e 1 A' n c xs)
  (ki : IntKind) (k : Nat) (hb : (n + k) * ie.bytes ≤ 140737488355328) :
  ∃ A2 c2 w', (Builtin.append_ #[t, tn] ty #[.slice A' n c, .int ki k]).run P w = .ok (.slice A2 (n + k) c2) w' ∧ Own w' 0 e 1 A2 (n + k) c2 (xs ++ List.replicate k z) ∧
   ((blk A2 = blk A' ∧ w.grownBy w' (blk A') ∧ ∀ g, zAq w w' g) ∨ (blk A2 = some w.heap.size ∧ w.grownBy w' none)) := by
 have h63 : n + k ≤ maxLen := by
  have := Nat.le_mul_of_pos_right (n + k) hpb
  unfold maxLen; omega
 have hsmall : n + k ≤ 9223372036854775807 := by simp only [maxLen] at h63; omega
 have hw : IntKind.i64.wrap (k : Int) = k := by rw [IntKind.wrap_i64]; omega
 have hneg : ¬ ((k : Int) < 0) := by omega
 have hkb : k * ie.bytes ≤ 140737488355328 := Nat.le_trans (Nat.mul_le_mul_right _ (by omega)) hb
 have h48i : ¬ (281474976710656 < (k : Int) * (ie.bytes : Int)) := by
  rw [← Int.natCast_mul]
  omega
 have hlen : (xs ++ List.replicate k z).length = (n + k) * 1 := by rw [List.length_append, hown.1, List.length_replicate, Nat.add_mul, Nat.mul_one k]
 have hxl : xs.length = n := by rw [hown.1, Nat.mul_one]
 have grown : ∀ (old : Nat), old < n + k → 
   Own (w.drew.alloc (.cells (xs.toArray ++ (List.replicate k z).toArray ++ Builtin.zeroCells z.cells (grownCap w (n + k) old e - (n + k))) e)) 0 e 1 (some ⟨w.heap.size, 0, none⟩) (n + k) (grownCap w (n + k) old e) (xs ++ List.replicate k z) ∧
   w.grownBy (w.drew.alloc (.cells (xs.toArray ++ (List.replicate k z).toArray ++ Builtin.zeroCells z.cells (grownCap w (n + k) old e - (n + k))) e)) none := by
  intro old ho
  have hge := grownCap_ge w (n + k) old e
  have hcm : grownCap w (n + k) old e ≤ maxLen := grownCap_le_maxLen w (n + k) old e h63
  refine ⟨⟨hlen, .inr ⟨w.heap.size, _, _, rfl, Nat.zero_le _, heap_alloc_new w.drew _, hge, hcm, ?_, ?_⟩⟩, ⟨rfl, rfl, rfl, by simp, fun q hq _ => Below.heap_alloc w.drew _ q hq⟩⟩
  ·
   simp only [Array.size_append, List.size_toArray, size_zeroCells, hz1, hxl, List.length_replicate, Nat.mul_one]
   rw [List.length_singleton, Nat.mul_one]
   omega
  ·
   simp only [Array.toList_append, List.append_assoc]
   rw [← List.append_assoc, ← hlen]
   exact List.take_left
 rcases hown.2 with ⟨hv, rfl⟩ | ⟨g, cap, cur, hv, hbg, hg, hnc, hcm, hcs, htake⟩
 ·
  injection hv with hv hv2 hv3
  subst hv hv3
  have hx : xs = [] := List.eq_nil_of_length_eq_zero hxl
  subst hx
  by_cases hm : k = 0
  ·
   subst hm
   refine ⟨none, 0, w, ?_, World.ownsRow_nil w 0 e 1, .inl ⟨rfl, World.grownBy.refl w _, fun _ => .refl _ _⟩⟩
   simp [Builtin.append_, run_underlying hu, run_underlying htn, sizeOf, typeInfo, hi, asInt, asIntOf, show IntKind.i64.wrap 0 = 0 from rfl, hs1]
  ·
   have hr := Lib.run_append_nil_zeros (P := P) w t tn ty e ie z ki kn hu htn hi hz k (by omega) (by omega) (by omega) (by omega)
   have hgr := grown 0 (by omega)
   simp only [Nat.zero_add, List.nil_append, Array.empty_append] at hgr ⊢
   have hzk : Builtin.zeroCells z.cells k = (List.replicate k z).toArray := by rw [hz1, zDU]
   rw [hzk] at hr
   exact ⟨_, _, _, hr, hgr.1, .inr ⟨rfl, hgr.2⟩⟩
 ·
  injection hv with hv hv2 hv3
  subst hv hv3
  by_cases hm : k = 0
  ·
   subst hm
   refine ⟨some ⟨g, 0, none⟩, c, w, ?_, by simpa using hown, .inl ⟨rfl, World.grownBy.refl w _, fun _ => .refl _ _⟩⟩
   simp [Builtin.append_, run_underlying hu, run_underlying htn, sizeOf, typeInfo, hi, asInt, asIntOf, show IntKind.i64.wrap 0 = 0 from rfl, hs1, hnc, storeCells]
  by_cases hroom : n + k ≤ c
  ·
   have hfit : n * ie.size + (List.replicate k z).length ≤ cur.size := by rw [List.length_replicate, hcs, hs1, Nat.mul_one, Nat.mul_one]; exact hroom
   have hst := run_storeCells_at P g (n * ie.size) e (List.replicate k z) 0 cur w hg (by simpa using hfit) (fun u hu => by rw [(List.mem_replicate.1 hu).2]; exact hz2)
   simp only [Nat.add_zero] at hst
   have hr : (Builtin.append_ #[t, tn] ty #[.slice (some ⟨g, 0, none⟩) n c, .int ki k]).run P w = .ok (.slice (some ⟨g, 0, none⟩) (n + k) c) (w.setRow g (cur.toList.take (n * ie.size) ++ List.replicate k z ++ cur.toList.drop (n * ie.size + (List.replicate k z).length)).toArray) := by
    have hzk : Builtin.zeroCells #[z] k = (List.replicate k z).toArray := zDU k
    rw [hs1, Nat.mul_one] at hst
    simp [Builtin.append_, run_underlying hu, run_underlying htn, sizeOf, typeInfo, zeroValue, hi, hz, hs1, hz1, hm, asInt, asIntOf, hw, hneg, h48i, hroom, hzk, Addr.add_lit, hst]
   refine ⟨_, _, _, hr, ⟨hlen, .inr ⟨g, c, _, rfl, hbg, setRow_heap w g cur _ e _ hg, hroom, hcm, ?_, ?_⟩⟩, .inl ⟨rfl, ⟨rfl, rfl, rfl, by simp, fun k _ hk => setRow_other w g k _ (fun e => hk (by simp [blk, e]))⟩, fun q => zAP hg (by
    simp only [List.size_toArray, List.length_append, List.length_take, List.length_drop, Array.length_toList]
    omega) q⟩⟩
   ·
    simp only [List.size_toArray, List.length_append, List.length_take, List.length_drop, Array.length_toList]
    omega
   ·
    rw [hs1, htake, ← hlen]
    exact List.take_left
  ·
   have holds : ∀ j u, xs[j]? = some u → w.cell? ((⟨g, 0, none⟩ : Addr).add j) = some u := World.ownsRow.cells hown (g := g) rfl
   have hn : ¬ (n + k ≤ c) := hroom
   have h63' : ¬ (9223372036854775807 < ((n : Int) + (k : Int))) := by omega
   have h48' : ¬ (281474976710656 < Builtin.nextslicecap (n + k) c * ie.bytes) := by have := growslice_fits (need := n + k) (old := c) (bytes := ie.bytes) (by omega) hb; omega
   have hfo := run_firstCells_some (P := P) w.drew ie.size n ⟨g, 0, none⟩ n c xs (by rw [hs1, hown.1]) (by simpa using holds)
   have hzk : ∀ q, Builtin.zeroCells #[z] q = (List.replicate q z).toArray := zDU
   have hgr := grown c (by omega)
   refine ⟨_, _, _, ?_, hgr.1, .inr ⟨rfl, hgr.2⟩⟩
   rw [hs1] at hfo
   simp [Builtin.append_, run_underlying hu, run_underlying htn, sizeOf, typeInfo, zeroValue, hi, hz, hs1, hz1, hm, asInt, asIntOf, hw, hneg, h48i, hn, h63', h48', Question.forced, hfo, newRow, grownCap, hzk]
section
variable {w0 : World} {m0 : Mem} {o0 : OwnM} {G : GD} {pins : List Nat} {S M : Nat → A} {a : Act} {w : World} {m : Mem} {o : OwnM} {P : Program} {N : Nat}
theorem apz_ok (I : Inv w0 m0 o0 G pins S a w m o) {e sz : Nat} {X : Sem Value} {d : Nat} (hd : d < a.tmps.size) (hbox : (S d).isBox = false) (hpin : d ∉ pins)
  {A' : Option Addr} {c : Nat} {l : List (List D)} {xs : List Value} (hown : Own w 0 e sz A' l.length c xs) (hrows : zDj m sz l xs) (hblk : ∀ g, blk A' = some g → (∀ l, o g = some l → l.1 = d) ∧ (G g ∨ w0.heap.size ≤ g) ∧ g < w.heap.size ∧ ∀ p, m g p = xs[p]?)
  {l' : List (List D)} {news : List Value} (hr' : zDj m sz l' news) 
  (hX : ∃ A2 c2 w', X.run P w = .ok (.slice A2 (l.length + l'.length) c2) w' ∧ Own w' 0 e sz A2 (l.length + l'.length) c2 (xs ++ news) ∧ ((blk A2 = blk A' ∧ w.grownBy w' (blk A') ∧ ∀ g, zAq w w' g) ∨ (blk A2 = some w.heap.size ∧ w.grownBy w' none))) :
  ∃ v w' m' o', X.run P w = .ok v w' ∧ Inv w0 m0 o0 G pins (upd S d (.t (.own e sz (l ++ l')))) (a.put (some d) v) w' m' o' := by
 obtain ⟨A2, c2, w', hrun, hown2, hcase⟩ := hX
 refine ⟨.slice A2 (l.length + l'.length) c2, w', ?_⟩
 have hwid : ∀ (i : Nat) (r : List D), (l ++ l')[i]? = some r → r.length = sz := (hrows.append hr').2.1
 have fin : ∀ (g : Nat), blk A2 = some g → (∀ l, o g = some l → l.1 = d) → (G g ∨ w0.heap.size ≤ g) → Same (fun b => b = g ∧ b < w.heap.size) w w' → (∀ p u, m g p = some u → (xs ++ news)[p]? = some u) → ∃ m' o', X.run P w = .ok (.slice A2 (l.length + l'.length) c2) w' ∧ Inv w0 m0 o0 G pins (upd S d (.t (.own e sz (l ++ l')))) (a.put (some d) (.slice A2 (l.length + l'.length) c2)) w' m' o' := by
  intro g hg h2 h3 h4 h5
  have hlt : g < w'.heap.size := (Own.lt hown2 g hg).2
  refine ⟨_, _, hrun, I.own_put d _ _ (fun p => (xs ++ news)[p]?) g w' hd hbox hpin h2 h3 h4 hlt h5 (fun p u hp => Own.cellAt hown2 hg hp) ?_⟩
  have hmle : Mle m (newM m g fun p => (xs ++ news)[p]?) := by
   intro b p u hu
   unfold newM
   split
   · rename_i e; subst e; exact h5 p u hu
   · exact hu
  refine ⟨A2, c2, xs ++ news, by rw [List.length_append], by rw [List.length_append]; exact zEF hown2, fun g' hg' => ?_, hwid, ((hrows.append hr').mono hmle).2.2⟩
  rw [hg] at hg'
  injection hg' with hg'
  subst hg'
  exact ⟨yZ _ _ _, fun p _ => by rw [Own.off0 hown2, Nat.zero_add]; exact zDI _ _ _ _⟩
 rcases hcase with ⟨hb2, hgr, hshp⟩ | ⟨hb2, hgr⟩
 ·
  rcases zFO hown with rfl | ⟨g, rfl⟩
  ·
   have hA2 : A2 = none := by
    rcases zFO hown2 with h | ⟨g, h⟩
    · exact h
    · rw [h] at hb2; cases hb2
   subst hA2
   have hS : Same (fun _ => False) w w' := ⟨hgr.os, hgr.tape, hgr.output, hgr.size, fun k hk _ => hgr.block k hk (by simp [blk]), fun k => (hshp k).w⟩
   refine ⟨m, o, hrun, I.put d _ _ hd hbox ⟨none, c2, xs ++ news, by rw [List.length_append], by rw [List.length_append]; exact zEF hown2, fun g hg => (by cases hg), hwid, (hrows.append hr').2.2⟩ (I.same.trans (hS.weaken fun _ h => h.elim)) (fun b p u h => ?_) (Mle.refl _) (fun _ _ => rfl) (fun g hg => hS.block g hg id) hgr.size⟩
   have h1 := I.sat b p u h
   have hlt : b < w.heap.size := by have := World.block_lt_of_cell? w _ h1; simpa using this
   rw [World.cell?_of_block (w := w) (hS.block b hlt id)]
   exact h1
  ·
   obtain ⟨h2, h3, h4, h5⟩ := hblk g rfl
   refine fin g hb2 h2 h3 ⟨hgr.os, hgr.tape, hgr.output, hgr.size, fun k hk hn => hgr.block k hk fun e => hn ?_, fun k => (hshp k).w⟩ fun p u hu => ?_
   · injection e with e; exact ⟨e, hk⟩
   ·
    rw [h5] at hu
    rw [List.getElem?_append_left (List.getElem?_eq_some_iff.1 hu).1]
    exact hu
 · exact fin _ hb2 (I.free (Nat.le_refl _)) (I.newG (Nat.le_refl _)) ⟨hgr.os, hgr.tape, hgr.output, hgr.size, fun k hk hn => hgr.block k hk (by simp), fun k => (zAq.of_lt fun hk => hgr.block k hk (by simp)).w⟩ fun p u hu => by rw [I.mem_none (Nat.le_refl _)] at hu; cases hu
def zerF (P : Program) (t tn : TypeId) : Option (Nat × Nat × Value) := match P.underlying t, P.underlying tn with
 | some (.slice e), some (.int _) => match P.info? e with
  | some ie => match ie.zero with
   | some (.int kz nz) => if ie.size = 1 ∧ 0 < ie.bytes then some (e, ie.bytes, .int kz nz) else none
   | _ => none
  | none => none
 | _, _ => none
def apzI (nb m : Nat) (n : Int) : Option Nat := if 0 ≤ n ∧ (m + n.toNat) * nb ≤ 140737488355328 then some n.toNat else none
theorem ok_apz (hM : Mk M S) {op : Oper} {d s t tn e nb q : Nat} {z : Value} {y : Operand} {ki : IntKind} {n : Int} (hop : op.op = .call { callee := .builtin .append, args := #[.tmp s, y], argTypes := #[t, tn] }) (hd : op.dst = some d) (hok : okD N pins S d = true) (hz : zerF P t tn = some (e, nb, z)) (hn : vO M y = some (.int ki n))
  {l : List (List D)} (hs : M s = .t (.own e 1 l)) (hne : (s == d) = false) (hsp : pins.contains s = false) (hq : apzI nb l.length n = some q) (hEO : Nat.blt e OFB = true) :
  OpOK P pins N op S (app S [(s, .t (.d (.seq 1 l))), (d, .t (.own e 1 (l ++ List.replicate q [.lit z])))]) := by
 have hne : s ≠ d := by simpa using hne
 have hsp : s ∉ pins := by simpa using hsp
 unfold zerF at hz
 split at hz
 case h_2 => cases hz
 rename_i e' kn hu htn
 split at hz
 case h_2 => cases hz
 rename_i ie hi
 split at hz
 case h_2 => cases hz
 rename_i kz nz hz0
 split at hz
 case isFalse => cases hz
 rename_i hc
 obtain ⟨hs1, hpb⟩ := hc
 generalize hzz : Value.int kz nz = z' at *
 have hz1 : z'.cells = #[z'] := by rw [← hzz]; rfl
 have hz2 : z'.oneCell' = true := by rw [← hzz]; rfl
 injection hz with hz
 injection hz with q1 hz
 injection hz with q2 q3
 subst q1 q2 q3
 unfold apzI at hq
 split at hq
 case isFalse => cases hq
 rename_i hq'
 injection hq with hq
 subst hq
 obtain ⟨hq0, hb⟩ := hq'
 obtain ⟨k, rfl⟩ := Int.eq_ofNat_of_zero_le hq0
 simp only [Int.toNat_natCast] at hb ⊢
 refine zP fun w0 m0 o0 G a w m o hN I => ?_
 obtain ⟨h1, h2, h3⟩ := qF hok
 have hS : S s = .t (.own e' 1 l) := by
  rcases hM s with k | k
  · rw [k] at hs; cases hs
  · rw [← k]; exact hs
 have hown : zGT m w o (s, 0) e' 1 l (a.tmps.getD s undef) := by
  have := I.slots s
  rw [hS] at this
  exact this
 have hsO : s < OB := by
  rcases Nat.lt_or_ge s a.tmps.size with h | h
  · exact Nat.lt_of_lt_of_le h I.wide
  ·
   obtain ⟨A', cap, xs, e, _⟩ := hown
   rw [Array.getD_eq_getD_getElem?, Array.getElem?_eq_none h] at e
   cases e
 have I1 := I.degrade s (by rw [hS]; rfl)
 rw [hS] at I1
 obtain ⟨o1, I2, ho1⟩ := I1.drop s hsp hsO (x := .seq 1 l) (by simp [upd, cpA, cpT])
 obtain ⟨A', cap, xs, e1, k1, k2, k3, k4⟩ := hown
 have hrows : zDj m 1 l xs := ⟨k1.1, k3, k4⟩
 rw [e1] at k1
 have hrz : zDj m 1 (List.replicate k [D.lit z']) (List.replicate k z') := by
  refine ⟨by simp, fun i r hi => ?_, fun i r j x hi hj => ?_⟩
  ·
   rw [List.getElem?_replicate] at hi
   split at hi
   · injection hi with hi; subst hi; rfl
   · cases hi
  ·
   rw [List.getElem?_replicate] at hi
   split at hi
   ·
    rename_i hlt
    injection hi with hi
    subst hi
    cases j with
    | zero => injection hj with hj; subst hj; exact ⟨z', by rw [List.getElem?_replicate]; simp [hlt], .lit z' hz2⟩
    | succ j => simp at hj
   · cases hi
 obtain ⟨v, w', m', o', hr, J⟩ := apz_ok (d := d) (P := P) (X := Builtin.append_ #[t, tn] op.type #[.slice A' l.length cap, .int ki k]) I2 (by omega) (by rw [zI (Ne.symm hne)]; exact h2) h3 (k1.own hEO) hrows (fun g hg => by
  obtain ⟨q1, q2⟩ := k2 g hg
  refine ⟨fun l hl => ?_, I.own g _ q1, I.lt g _ q1, I.ownAll (k1.own hEO) hg fun p hp => by have := q2 p hp; rwa [Own.off0 (k1.own hEO), Nat.zero_add] at this⟩
  obtain ⟨z1, z2⟩ := ho1 g l hl
  rw [q1] at z2
  injection z2 with z2
  exact absurd (by rw [← z2]) z1) hrz (by
   rw [List.length_replicate]
   exact zGd P w hu kn htn hi hz0 hs1 hz1 hz2 hpb op.type A' l.length cap xs (k1.own hEO) ki k hb)
 refine ⟨v, w', m', o', ?_, by rw [hd]; exact J⟩
 unfold execOp
 rw [hop]
 simp only [resolve, invoke, builtin, Sem.run_bind, Sem.run_pure, Result.andThen_ok, List.map_toArray, List.map_cons, List.map_nil]
 rw [zCG hM I hn, show a.eval (.tmp s) = .slice A' l.length cap from e1, hr]
 rfl
end
theorem apzC {α β : Type} {nb q : Nat} {l : List α} {c : α → β} {n : Int} (h : apzI nb l.length n = some q) : apzI nb (l.map c).length n = some q := by rw [List.length_map]; exact h
theorem apzE {α : Type} {E k q : Nat} {l : List α} {c : α → List D} {a : α} {z : Value} (h : c a = [.lit z]) : A.t (.own E k (l.map c ++ List.replicate q [.lit z])) = .t (.own E k ((l ++ List.replicate q a).map c)) := by
 rw [List.map_append, List.map_replicate, h]
section
variable {P : Program} {pins : List Nat} {N : Nat} {ops : Array Oper} {Q : SL → Prop} {r : List Oper} {op : Oper} {L : SL}
theorem o_apz {d s t tn e nb q : Nat} {z : Value} {y : Operand} {ki : IntKind} {n : Int} {l : List (List D)} {x : A} (u : A) (hq : apzI nb l.length n = some q) (hx : A.t (.own e 1 (l ++ List.replicate q [.lit z])) = x) (hy : yes ops op L true) (hop : op.op = .call { callee := .builtin .append, args := #[.tmp s, y], argTypes := #[t, tn] }) (hd : op.dst = some d) (hok : okD N pins (gt L) d = true) (hz : zerF P t tn = some (e, nb, z)) (hn : vO (gt L) y = some (.int ki n))
  (hs : gt L s = .t (.own e 1 l)) (hne : (s == d) = false) (hsp : pins.contains s = false) (hu : A.t (.d (.seq 1 l)) = u) (h : qY P pins N ops Q r ((d, x) :: (s, u) :: L)) (hEO : Nat.blt e OFB = true := by rfl) : qY P pins N ops Q (op :: r) L := by
 subst hx hu
 exact o_of (e := [(s, _), (d, _)]) hy (.of (e := [(s, _), (d, _)]) fun hN => ⟨ok_apz (zIZ _) hop hd (yL hN hok) hz hn hs hne hsp hq hEO, eff_2 (zFr (Mk.refl _) hs rfl) rfl (yG hN hok)⟩) rfl h
end
end Go.Proofs.YtmgafkpkpmjieaaDoor

/-
 Growing a nil slice: cap, a cut of nil, append of zeros to nil, and the empty piece of what that gives.
-/
namespace Go.Proofs.YtmgafkpkpmjieaaDoor
open Go Go.RowKit
set_option linter.unusedVariables false
end Go.Proofs.YtmgafkpkpmjieaaDoor

/-
 Slices that may grow and start anywhere in their block: cut, appended to.
-/
namespace Go.Proofs.YtmgafkpkpmjieaaDoor
open Go Go.RowKit
set_option linter.unusedVariables false
section
variable {w0 : World} {m0 : Mem} {o0 : OwnM} {G : GD} {pins : List Nat} {S M : Nat → A} {a : Act} {w : World} {m : Mem} {o : OwnM} {P : Program} {N : Nat} {op : Oper} {d s : Nat}
theorem ok_cutQ (hM : Mk M S) {t e E k : Nat} {lo : Operand} {kl : IntKind} {n : Int} {ie : TypeInfo} {l l' : List (List D)} (hop : op.op = .slice t (.tmp s) (some lo) none none) (hs : M s = .t (.own E k l)) (hlo : vO M lo = some (.int kl n)) (hu : P.underlying t = some (.slice e)) (hie : P.info? e = some ie) (hk : ie.size = k)
  (hc : 0 ≤ n ∧ n ≤ l.length) (hl' : l.drop n.toNat = l') (hne : (s == d) = false) (hsp : pins.contains s = false) (hd : op.dst = some d) (hok : okD N pins S d = true) :
  OpOK P pins N op S (upd (upd S s (.t (.d (.seq k l)))) d (.t (.own OFB k l'))) := by
 subst hl' hk
 refine zP fun w0 m0 o0 G a w m o hN I => ?_
 obtain ⟨h1, h2, h3⟩ := qF hok
 have hne : s ≠ d := by simpa using hne
 have hsp : s ∉ pins := by simpa using hsp
 have hS : S s = .t (.own E ie.size l) := by
  rcases hM s with k | k
  · rw [k] at hs; cases hs
  · rw [← k]; exact hs
 have hown : zGT m w o (s, 0) E ie.size l (a.tmps.getD s undef) := by
  have := I.slots s
  rw [hS] at this
  exact this
 have hsO : s < OB := by
  rcases Nat.lt_or_ge s a.tmps.size with h | h
  · exact Nat.lt_of_lt_of_le h I.wide
  ·
   obtain ⟨A', cap, xs, e, _⟩ := hown
   rw [Array.getD_eq_getD_getElem?, Array.getElem?_eq_none h] at e
   cases e
 have I1 := I.degrade s (by rw [hS]; rfl)
 rw [hS] at I1
 obtain ⟨o1, I2, ho1⟩ := I1.drop s hsp hsO (x := .seq ie.size l) (by simp [upd, cpA, cpT])
 have hbox2 : (upd S s (cpA (.t (.own E ie.size l))) d).isBox = false := by rw [zI (Ne.symm hne)]; exact h2
 obtain ⟨A', cap, xs, e1, k1, k2, k3, k4⟩ := hown
 rw [e1] at k1
 obtain ⟨q, hq⟩ : ∃ q : Nat, n = q := ⟨n.toNat, by omega⟩
 subst hq
 have hql : q ≤ l.length := by omega
 simp only [Int.toNat_natCast]
 have hcap : l.length ≤ cap ∧ cap ≤ maxLen := by
  rcases k1.addr with ⟨rfl, h0⟩ | ⟨g, p, cur, rfl, _, h, h', _⟩
  ·
   rcases k1.2 with ⟨hv, h⟩ | ⟨_, _, _, _, hv, _⟩
   · rw [h0, h]; exact ⟨Nat.le_refl _, Nat.zero_le _⟩
   · injection hv with hv; cases hv
  · exact ⟨h, h'⟩
 have hb : (Instr.sliceBounds true l.length cap (some (.int kl q)) none none).run P w = .ok (q, l.length, cap) w := by
  unfold Instr.sliceBounds
  simp only [Option.isSome_none, Sem.run_bind, Sem.run_pure, Result.andThen_ok]
  repeat (rw [zBG (by omega) (by omega), Result.andThen_ok])
  simp
 have hrun : (Instr.sliceAt t (.slice A' l.length cap) (some (.int kl q)) none none).run P w = .ok (.slice (if cap = q then A' else A'.map (·.add (q * ie.size))) (l.length - q) (cap - q)) w := by
  unfold Instr.sliceAt
  simp only [Sem.run_bind, run_underlying hu, Result.andThen_ok]
  unfold Instr.slice
  simp only [Sem.run_bind, run_underlying hu, Result.andThen_ok]
  rw [hb]
  simp [sizeOf, typeInfo, hie]
 have hexec : (execOp a.eval op).run P w = .ok (.value (.slice (if cap = q then A' else A'.map (·.add (q * ie.size))) (l.length - q) (cap - q))) w := by
  unfold execOp
  rw [hop]
  simp only [Sem.run_bind, Option.map_some, Option.map_none]
  rw [show a.eval (.tmp s) = .slice A' l.length cap from e1, zCG hM I hlo]
  rw [hrun]
  rfl
 have hw' : ∀ (i : Nat) (r : List D), (l.drop q)[i]? = some r → r.length = ie.size := fun i r hi => k3 (q + i) r (by rw [List.getElem?_drop] at hi; exact hi)
 have hx' : ∀ m', Mle m m' → ∀ (i : Nat) (r : List D) (j : Nat) (x : D), (l.drop q)[i]? = some r → r[j]? = some x → ∃ u, (xs.drop (q * ie.size))[i * ie.size + j]? = some u ∧ RepD m' x u := fun m' hm i r j x hi hj => by
  obtain ⟨u, h5, h6⟩ := k4 (q + i) r j x (by rw [List.getElem?_drop] at hi; exact hi) hj
  refine ⟨u, ?_, h6.mono hm⟩
  rw [List.getElem?_drop, ← h5]
  congr 1
  rw [Nat.add_mul]
  omega
 have hlen : (xs.drop (q * ie.size)).length = (l.length - q) * ie.size := by rw [List.length_drop, k1.1, Nat.sub_mul]
 rcases k1.addr with ⟨rfl, h0⟩ | ⟨g, p, cur, rfl, ⟨e2, hg, _⟩, hn, hm, hsz, htk⟩
 ·
  have hl0 : l = [] := List.eq_nil_of_length_eq_zero (by omega)
  subst hl0
  have hq0 : q = 0 := by simpa using hql
  subst hq0
  have hxs : xs = [] := List.eq_nil_of_length_eq_zero (by have := k1.1; simpa using this)
  subst hxs
  subst h0
  refine ⟨_, w, m, o1, hexec, ?_⟩
  rw [hd]
  refine I2.set d _ _ (by omega) hbox2 ⟨none, 0, [], by simp, ?_, fun g hg => (by cases hg), fun i r h => by simp at h, fun i r j d h => by simp at h⟩
  exact ⟨by simp, .inl ⟨by simp, by simp⟩⟩
 ·
  obtain ⟨ho, hmg⟩ := k2 g rfl
  have hlt := I.lt g _ ho
  have hme : newM m g (m g) = m := by
   funext b p
   unfold newM
   split
   · rename_i e; rw [e]
   · rfl
  refine ⟨_, w, newM m g (m g), newO o1 d g, hexec, ?_⟩
  rw [hd]
  refine I2.own_put d _ _ (m g) g w (by omega) hbox2 h3 (fun l hl => ?_) (I.own g _ ho) (Same.refl _ _) hlt (fun p u h => h) (fun p u h => I.sat g p u h) ?_
  ·
   obtain ⟨z1, z2⟩ := ho1 g l hl
   rw [ho] at z2
   injection z2 with z2
   exact absurd (by rw [← z2]) z1
  ·
   rw [hme]
   by_cases hcq : cap = q
   ·
    have hlq : l.length = q := by omega
    rw [if_pos hcq]
    refine ⟨some ⟨g, p, none⟩, cap - q, xs.drop (q * ie.size), by rw [List.length_drop], ?_, fun g' hg' => ?_, hw', hx' m (Mle.refl _)⟩
    ·
     rw [List.length_drop]
     refine ⟨hlen, .inr ⟨g, p, cap - q, cur, rfl, ⟨e2, hg, .inl rfl⟩, by omega, by omega, .inr ⟨by omega, by rcases hsz with h | h <;> omega⟩, ?_⟩⟩
     rw [hlq, Nat.sub_self, Nat.zero_mul, List.take_zero]
     symm
     exact List.eq_nil_of_length_eq_zero (by rw [hlen, hlq, Nat.sub_self, Nat.zero_mul])
    ·
     injection hg' with hg'
     subst hg'
     exact ⟨yZ _ _ _, fun p' hp' => absurd hp' (by rw [hcq, Nat.sub_self, Nat.zero_mul]; omega)⟩
   ·
    have hadd : Option.map (fun x : Addr => x.add (q * ie.size)) (some ⟨g, p, none⟩) = some ⟨g, p + q * ie.size, none⟩ := by rw [Option.map_some, Addr.add_mid]
    rw [if_neg hcq, hadd]
    have hsz : cur.size = p + cap * ie.size := hsz.resolve_right fun h => by omega
    have hcm : (cap - q) * ie.size + q * ie.size = cap * ie.size := by rw [← Nat.add_mul]; congr 1; omega
    have hnm : (l.length - q) * ie.size + q * ie.size = l.length * ie.size := by rw [← Nat.add_mul]; congr 1; omega
    refine ⟨some ⟨g, p + q * ie.size, none⟩, cap - q, xs.drop (q * ie.size), by rw [List.length_drop], ?_, fun g' hg' => ?_, hw', hx' m (Mle.refl _)⟩
    ·
     rw [List.length_drop]
     refine ⟨hlen, .inr ⟨g, p + q * ie.size, cap - q, cur, rfl, ⟨e2, hg, .inl rfl⟩, by omega, by omega, .inl (by omega), ?_⟩⟩
     rw [← htk, List.drop_take, List.drop_drop]
     congr 1
     omega
    ·
     injection hg' with hg'
     subst hg'
     refine ⟨yZ _ _ _, fun p' hp' => ?_⟩
     show m g (p + q * ie.size + p') = _
     have := hmg (q * ie.size + p') (by omega)
     rw [List.getElem?_drop, ← this, Nat.add_assoc]
     rfl
theorem ok_appQ (hM : Mk M S) {t e sz nb : Nat} {y : Operand} (hop : op.op = .call { callee := .builtin .append, args := #[.tmp s, y], argTypes := #[t, t] }) (hd : op.dst = some d) (hok : okD N pins S d = true) (hE : elF P t = some (e, sz, nb))
  {l l' l2 : List (List D)} (hs : M s = .t (.own OFB sz l)) (hne : (s == d) = false) (hsp : pins.contains s = false) (hl' : slD sz (dO M y) = some l') (hb : (l.length + l'.length) * nb ≤ 140737488355328) (hl2 : l ++ l' = l2) :
  OpOK P pins N op S (upd (upd S s (.t (.d (.seq sz l)))) d (.t (.own OFB sz l2))) := by
 subst hl2
 have hne : s ≠ d := by simpa using hne
 have hsp : s ∉ pins := by simpa using hsp
 refine zP fun w0 m0 o0 G a w m o hN I => ?_
 obtain ⟨h1, h2, h3⟩ := qF hok
 have hS : S s = .t (.own OFB sz l) := by
  rcases hM s with k | k
  · rw [k] at hs; cases hs
  · rw [← k]; exact hs
 have hown : zGT m w o (s, 0) OFB sz l (a.tmps.getD s undef) := by
  have := I.slots s
  rw [hS] at this
  exact this
 have hv' : RepD m (.seq sz l') (a.eval y) := zDq hl' fun d hd => zCs hM I hd
 have hsO : s < OB := by
  rcases Nat.lt_or_ge s a.tmps.size with h | h
  · exact Nat.lt_of_lt_of_le h I.wide
  ·
   obtain ⟨A', cap, xs, e, _⟩ := hown
   rw [Array.getD_eq_getD_getElem?, Array.getElem?_eq_none h] at e
   cases e
 have I1 := I.degrade s (by rw [hS]; rfl)
 rw [hS] at I1
 obtain ⟨o1, I2, ho1⟩ := I1.drop s hsp hsO (x := .seq sz l) (by simp [upd, cpA, cpT])
 obtain ⟨A', cap, xs, e1, k1, k2, k3, k4⟩ := hown
 have hrows : zDj m sz l xs := ⟨k1.1, k3, k4⟩
 rw [e1] at k1
 obtain ⟨v, w', m', o', hr, J⟩ := app_ok (d := d) I2 (zFW hE) (.inr rfl) op.type (by omega) (by rw [zI (Ne.symm hne)]; exact h2) h3 k1 hrows (fun g hg => by
  obtain ⟨q1, q2⟩ := k2 g hg
  refine ⟨fun l hl => ?_, I.own g _ q1, I.lt g _ q1, q2⟩
  obtain ⟨z1, z2⟩ := ho1 g l hl
  rw [q1] at z2
  injection z2 with z2
  exact absurd (by rw [← z2]) z1) hv' hb
 refine ⟨v, w', m', o', ?_, by rw [hd]; exact J⟩
 unfold execOp
 rw [hop]
 simp only [resolve, invoke, builtin, Sem.run_bind, Sem.run_pure, Result.andThen_ok, List.map_toArray, List.map_cons, List.map_nil]
 rw [show a.eval (.tmp s) = .slice A' l.length cap from e1, hr]
 rfl
end
end Go.Proofs.YtmgafkpkpmjieaaDoor

/-
 Arrays: read and written at a place that a variable tells.
-/
namespace Go.Proofs.YtmgafkpkpmjieaaDoor
open Go Go.RowKit
set_option linter.unusedVariables false
def idxA {α : Type} (n : Nat) (l : List α) (i : Int) : Option α := if 0 ≤ i ∧ i < n then l[i.toNat]? else none
theorem zGW {α : Type} {n : Nat} {l : List α} {i : Int} {x : α} : idxA n l i = some x ↔ (0 ≤ i ∧ i < n) ∧ l[i.toNat]? = some x := by
 unfold idxA
 split
 · rename_i h; simp [h]
 · rename_i h; simp [h]
theorem zAH {α : Type} {n : Nat} {l : List α} {i : Int} {x : α} (h : idxA n l i = some x) : idx l i = some x := by
 obtain ⟨⟨h1, _⟩, h2⟩ := zGW.1 h
 unfold idx
 rw [show decide (0 ≤ i) = true by simpa using h1]
 exact h2
theorem qJ {α : Type} {n : Nat} {l : List α} {i : Int} {x : α} (h : idxA n l i = some x) : 0 ≤ i ∧ i < n := (zGW.1 h).1
theorem yJ {α : Type} {c : α → List D} {z : α} {l : List α} {n : Nat} {i : Int} {x : α} {y : D} (h : idxA n (padA z l 0 n) i = some x) (hc : ∀ a, (c a).length = 1) (hy : c x = [y]) : (ar c z l 0 n)[i.toNat]? = some y := by
 have h2 := (zGW.1 h).2
 rw [zHP]
 have := fl_row hc h2
 rw [Nat.mul_one, hy] at this
 have h3 : (((fl c (padA z l 0 n)).drop i.toNat).take 1)[0]? = some y := by rw [this]; rfl
 rwa [List.getElem?_take, if_pos (by omega), List.getElem?_drop, Nat.add_zero] at h3
section
variable {P : Program} {pins : List Nat} {N : Nat} {S M : Nat → A} {op : Oper} {d : Nat}
theorem zBz (hM : Mk M S) {b off t e len : Nat} {x i : Operand} {ki : IntKind} {z : Int} {ie : TypeInfo} {y : A} (hop : op.op = .indexAddr t x i) (hx : cpO M x = .ref b off) (hi : vO M i = some (.int ki z)) (hu : P.underlying t = some (.array len e)) (hie : P.info? e = some ie) (hz : 0 ≤ z ∧ z < len) (hy : A.ref b (off + z.toNat * ie.size) = y) (hd : op.dst = some d) (hok : okD N pins S d = true) : OpH P pins N op S (app S [(d, y)]) := by
 subst hy
 exact .of (e := [(d, _)]) fun hN => ⟨ok_ixa hM.hx hop hx hi hu hie hz hd (yL hN hok), zB0 (yG hN hok)⟩
theorem zBK (hM : Mk M S) {t e len : Nat} {x i : Operand} {ki : IntKind} {z : Int} {ie : TypeInfo} {l : List D} {y : D} (hop : op.op = .indexAddr t x i) (hx : cpO M x = .imm l) (hi : vO M i = some (.int ki z)) (hu : P.underlying t = some (.array len e)) (hie : P.info? e = some ie) (hs : ie.size = 1) (hz : 0 ≤ z ∧ z < len) (hy : l[z.toNat]? = some y) (hd : op.dst = some d) (hok : okD N pins S d = true) : OpH P pins N op S (app S [(d, .imm [y])]) :=
 .of (e := [(d, _)]) fun hNO => ⟨by
  refine zP fun w0 m0 o0 G a w m o hN I => ?_
  obtain ⟨h1, h2, h3⟩ := qF (yL hNO hok)
  have hv : ixF P M t x i = some (.imm (l.drop (z.toNat * ie.size))) := by
   unfold ixF
   simp only [hi, hu, hie, hx]
   rw [if_pos hz]
  obtain ⟨v, hr, hrep⟩ := zIE hM.hx I op (y := .imm (l.drop (z.toNat * ie.size))) (by rw [hop]; exact hv) d
  obtain ⟨g, p, e1, h4⟩ := hrep
  have hrep2 : RepA m w o (upd (Go.Proofs.YtmgafkpkpmjieaaDoor.hx S) d (.imm [y])) d (.imm [y]) v := by
   refine ⟨g, p, e1, fun j dd hj => ?_⟩
   cases j with
   | succ j => simp at hj
   | zero =>
    injection hj with hj
    subst hj
    refine h4 0 y ?_
    rw [hs, Nat.mul_one, List.getElem?_drop, Nat.add_zero]
    exact hy
  exact ⟨v, w, m, o, hr, by rw [hd]; exact I.set d (.imm [y]) _ (by omega) h2 hrep2⟩, zB0 (yG hNO hok)⟩
theorem h_idxv (hM : Mk M S) {t e len : Nat} {x i : Operand} {ki : IntKind} {z : Int} {ie : TypeInfo} {td : TypeDesc} {l : List D} {y : D} (hop : op.op = .index t x i) (hx : cpO M x = .t (.agg l)) (hi : vO M i = some (.int ki z)) (hu : P.underlying t = some (.array len e)) (hie : P.info? e = some ie) (hs : ie.size = 1) (hue : P.underlying e = some td) (ha : TypeDesc.aggr td = false) (hz : 0 ≤ z ∧ z < len) (hy : l[z.toNat]? = some y) (hd : op.dst = some d) (hok : okD N pins S d = true) : OpH P pins N op S (app S [(d, .t (.d y))]) :=
 .of (e := [(d, _)]) fun hNO => ⟨by
  refine zP fun w0 m0 o0 G a w m o hN I => ?_
  obtain ⟨h1, h2, h3⟩ := qF (yL hNO hok)
  have hxr := yA hM.hx I x 0
  rw [hx] at hxr
  obtain ⟨vs, e1, h4⟩ := hxr
  obtain ⟨u, h5, h6⟩ := h4.2 _ y hy
  refine ⟨u, w, m, o, ?_, by rw [hd]; exact I.set d (.t (.d y)) _ (by omega) h2 h6⟩
  unfold execOp
  rw [hop]
  simp only [Sem.run_bind]
  rw [zCG hM.hx I hi, e1]
  have hp := part_run hue hie hs ha (xs := vs) (off := z.toNat) (u := u) (by rw [← Array.getElem?_toList]; exact h5) w
  simp [Instr.index, asIntOf, run_underlying hu, hz, sizeOf, typeInfo, hie, hs, hp], zB0 (yG hNO hok)⟩
theorem zEb {α : Type} {c : α → List D} {z : α} {l : List α} (hM : Mk M S) {b t n : Nat} {x : Operand} (hop : op.op = .load t x) (ht : tyA P t = some (true, n)) (hx : cpO M x = .ref b 0) (hb : M b = .box (fl (dT c) l)) (hc : ∀ a, (c a).length = 1) (hl : l.length = n) (hpos : Nat.blt 0 n = true) (hd : op.dst = some d) (hok : okD N pins S d = true) : OpH P pins N op S (app S [(d, .t (.agg (ar c z l 0 n)))]) := by
 have e1 : fl (dT c) l = (fl c l).map T.d := by
  have := ar_dT (c := c) (z := z) l n 0
  rw [ar_id hl, zCl hl] at this
  exact this.symm
 have e2 : (fl (dT c) l).length = n := by rw [zEo (zEm hc), Nat.mul_one, hl]
 refine h_llr hM hop ht hx hb (r := fl (dT c) l) ?_ e2 hpos ?_ ?_ hd hok
 · rw [List.drop_zero, List.take_of_length_le (Nat.le_of_eq e2)]
 · rw [e1]; exact noPt_d _
 ·
  rw [ar_id hl, e1, List.map_map]
  exact (List.map_congr_left (fun _ _ => rfl)).trans (List.map_id _)
theorem h_lstA {α : Type} {c : α → List D} {z : α} {l v : List α} (hM : Mk M S) {t b n : Nat} {x y : Operand} (hop : op.op = .store t x y) (hd : op.dst = none) {i : TypeInfo} (hi : P.info? t = some i) (hsz : i.size = n) (hx : cpO M x = .ref b 0) (hb : M b = .box (fl (dT c) l)) (hc : ∀ a, (c a).length = 1) (hl : l.length = n) (hy : zC4 (cpO M y) = some ((ar c z v 0 n).map T.d)) : OpH P pins N op S (app S [(b, .box (fl (dT c) (padA z v 0 n)))]) := by
 have e1 : ((ar c z v 0 n).map T.d).length = n := by rw [List.length_map, ar_len hc, Nat.mul_one]
 have e2 : (fl (dT c) l).length = n := by rw [zEo (zEm hc), Nat.mul_one, hl]
 refine zIk hM hop hd hi hx hb hy (by rw [e1, hsz]) (by rw [hsz, e2]; omega) ?_
 unfold yC
 rw [List.take_zero, List.nil_append, e1, Nat.zero_add, List.drop_of_length_le (by omega), List.append_nil, ar_dT]
end
end Go.Proofs.YtmgafkpkpmjieaaDoor

/-
 Models of functions: printed by a program of this claim's own (gen.py) off the given translation.
-/
namespace Go.Proofs.YtmgafkpkpmjieaaDoor
open Go Go.RowKit
set_option linter.unusedVariables false
structure Hp where
 u : Unit
def Hp.e : Hp := ⟨()⟩
def hpA (_ : Hp) : Nat → A := fun _ => .free
theorem zEJ (H : Hp) : zDy (hpA H) := fun c l h => nomatch h
theorem hpA_e (c : Nat) : san (hpA Hp.e c) = .free := rfl
def zB4 (y2 : (List Int)) : Option ((List Int) × Int) :=
some (y2, 0)
def zBI (kl2 : (List UInt8) → (List Int) → Option ((List Int) × Int)) (z4 : (List Int)) (z3 : (List UInt8)) (y6 : Int) : Option ((List Int) × Int) :=
Option.bind (appI 8 z4 [y6]) fun x7 =>
Option.bind (cutI z3 8 (z3.length : Int)) fun x9 =>
kl2 x9 x7
def zAK (kl2 : (List UInt8) → (List Int) → Option ((List Int) × Int)) (x11 : (List UInt8)) (z4 : (List Int)) (z3 : (List UInt8)) : Nat → Int → Int → Option ((List Int) × Int)
 | 0, _, _ => none
 | nl4 + 1, z13, z14 =>
  bif (decide (z14 < (x11.length : Int))) then (Option.bind (idx x11 z14) fun x16 =>
  (zAK kl2 x11 z4 z3 nl4) (IntKind.u64.wrap ((((BitVec.ofInt IntKind.u64.bits (IntKind.u64.wrap (z13 * 2 ^ 8))) ||| (BitVec.ofInt IntKind.u64.bits (x16.toNat : Int))).toNat : Nat) : Int)) (wi (z14 + 1))) else (zBI kl2 z4 z3 z13)
def yH : Nat → (List UInt8) → (List Int) → Option ((List Int) × Int)
 | 0, _, _ => none
 | nl2 + 1, z3, z4 =>
  bif (decide ((z3.length : Int) > 0)) then (Option.bind (cutI z3 0 8) fun x11 =>
  zAK (yH nl2) x11 z4 z3 (x11.length + 1) 0 0) else (zB4 z4)
def zCA (p0 : (List UInt8)) : Option ((List Int) × Int) :=
bif ((Int.tmod (p0.length : Int) 8) != 0) then (some ([], 2)) else (yH (p0.length + 1) p0 [])
def zN (p0 : Int) (p1 : Int) : Option Int :=
Option.bind (shlI .u64 p0 (IntKind.u64.wrap ((((BitVec.ofInt IntKind.u64.bits (IntKind.u64.wrap p1)) &&& (BitVec.ofInt IntKind.u64.bits 63)).toNat : Nat) : Int))) fun x1 =>
Option.bind (shrI .u64 p0 (IntKind.u64.wrap (64 - (IntKind.u64.wrap ((((BitVec.ofInt IntKind.u64.bits (IntKind.u64.wrap p1)) &&& (BitVec.ofInt IntKind.u64.bits 63)).toNat : Nat) : Int))))) fun x3 =>
some (IntKind.u64.wrap ((((BitVec.ofInt IntKind.u64.bits x1) ||| (BitVec.ofInt IntKind.u64.bits x3)).toNat : Nat) : Int))
def zAD : Nat → Int → (List Int) → Option (List Int)
 | 0, _, _ => none
 | nl1 + 1, z7, z8 =>
  bif (decide (z7 < 80)) then (Option.bind (idxA 80 z8 (wi (z7 - 15))) fun x10 =>
  Option.bind (idxA 80 z8 (wi (z7 - 2))) fun x12 =>
  Option.bind (idxA 80 z8 (wi (z7 - 16))) fun x14 =>
  Option.bind (zN x10 (-1)) fun x16 =>
  Option.bind (zN x10 (-8)) fun x18 =>
  Option.bind (idxA 80 z8 (wi (z7 - 7))) fun x20 =>
  Option.bind (zN x12 (-19)) fun x22 =>
  Option.bind (zN x12 (-61)) fun x24 =>
  Option.bind (idxA 80 z8 z7) fun x26 =>
  (zAD nl1) (wi (z7 + 1)) (z8.set (Int.toNat z7) (IntKind.u64.wrap ((IntKind.u64.wrap ((IntKind.u64.wrap (x14 + (IntKind.u64.wrap ((((BitVec.ofInt IntKind.u64.bits (IntKind.u64.wrap ((((BitVec.ofInt IntKind.u64.bits x16) ^^^ (BitVec.ofInt IntKind.u64.bits x18)).toNat : Nat) : Int))) ^^^ (BitVec.ofInt IntKind.u64.bits (Int.fdiv x10 (2 ^ 7)))).toNat : Nat) : Int)))) + x20)) + (IntKind.u64.wrap ((((BitVec.ofInt IntKind.u64.bits (IntKind.u64.wrap ((((BitVec.ofInt IntKind.u64.bits x22) ^^^ (BitVec.ofInt IntKind.u64.bits x24)).toNat : Nat) : Int))) ^^^ (BitVec.ofInt IntKind.u64.bits (Int.fdiv x12 (2 ^ 6)))).toNat : Nat) : Int)))))) else (Option.bind (lenI z8.length 80) fun x28 =>
  some z8)
def zCC (p0 : (List UInt8)) : Option (List Int) :=
Option.bind (zCA p0) fun x1 =>
Option.bind (cpyI (List.replicate 80 (0 : Int)) 0 80 x1.1) fun x3 =>
Option.bind (lenI x3.length (List.replicate 80 (0 : Int)).length) fun x5 =>
zAD (Int.toNat 80 + 1) 16 x3
def zBT (p0 : Int) (p1 : Int) (p2 : Int) (p3 : Int) : Option Int :=
Option.bind (zN p0 (wi (0 - p1))) fun x1 =>
Option.bind (zN p0 (wi (0 - p2))) fun x3 =>
Option.bind (zN p0 (wi (0 - p3))) fun x5 =>
some (IntKind.u64.wrap ((((BitVec.ofInt IntKind.u64.bits (IntKind.u64.wrap ((((BitVec.ofInt IntKind.u64.bits x1) ^^^ (BitVec.ofInt IntKind.u64.bits x3)).toNat : Nat) : Int))) ^^^ (BitVec.ofInt IntKind.u64.bits x5)).toNat : Nat) : Int))
def zB9 (y5 : (List Int)) : Nat → Int → (List Int) → Option (List Int)
 | 0, _, _ => none
 | nl2 + 1, z6, z7 =>
  bif (decide (z6 < 8)) then (Option.bind (idxA 8 z7 z6) fun x9 =>
  Option.bind (idxA 8 y5 z6) fun x11 =>
  Option.bind (idxA 8 z7 z6) fun x13 =>
  (zB9 y5 nl2) (wi (z6 + 1)) (z7.set (Int.toNat z6) (IntKind.u64.wrap (x9 + x11)))) else (Option.bind (lenI z7.length 8) fun x15 =>
  some z7)
def zCB (p0 : (List Int)) (y5 : (List Int)) : Option (List Int) :=
zB9 y5 (Int.toNat 8 + 1) 0 (padA (0 : Int) p0 0 8)
def zAs (x17 : (List Int)) (p1 : (List Int)) (p0 : (List Int)) : Nat → Int → (List Int) → Option (List Int)
 | 0, _, _ => none
 | nl3 + 1, z19, z20 =>
  bif (decide (z19 < 80)) then (Option.bind (idxA 80 (padA (0 : Int) x17 0 80) z19) fun x22 =>
  Option.bind (idxA 8 z20 0) fun x24 =>
  Option.bind (idxA 8 z20 4) fun x26 =>
  Option.bind (idxA 8 z20 7) fun x28 =>
  Option.bind (zBT x26 14 18 41) fun x30 =>
  Option.bind (idxA 8 z20 5) fun x32 =>
  Option.bind (idxA 8 z20 6) fun x34 =>
  Option.bind (idxA 80 (padA (0 : Int) p1 0 80) z19) fun x36 =>
  Option.bind (zBT x24 28 34 39) fun x38 =>
  Option.bind (idxA 8 z20 1) fun x40 =>
  Option.bind (idxA 8 z20 2) fun x42 =>
  Option.bind (idxA 8 z20 1) fun x44 =>
  Option.bind (idxA 8 z20 2) fun x46 =>
  Option.bind (idxA 8 z20 0) fun x48 =>
  Option.bind (idxA 8 z20 1) fun x50 =>
  Option.bind (idxA 8 z20 2) fun x52 =>
  Option.bind (idxA 8 z20 3) fun x54 =>
  Option.bind (idxA 8 z20 4) fun x56 =>
  Option.bind (idxA 8 z20 5) fun x58 =>
  Option.bind (idxA 8 z20 6) fun x60 =>
  Option.bind (lenI z20.length 8) fun x62 =>
  (zAs x17 p1 p0 nl3) (wi (z19 + 1)) (padA (0 : Int) [(IntKind.u64.wrap ((IntKind.u64.wrap ((IntKind.u64.wrap ((IntKind.u64.wrap ((IntKind.u64.wrap (x28 + x30)) + (IntKind.u64.wrap ((((BitVec.ofInt IntKind.u64.bits (IntKind.u64.wrap ((((BitVec.ofInt IntKind.u64.bits x26) &&& (BitVec.ofInt IntKind.u64.bits x32)).toNat : Nat) : Int))) ||| (BitVec.ofInt IntKind.u64.bits (IntKind.u64.wrap ((((BitVec.ofInt IntKind.u64.bits (IntKind.u64.wrap ((((BitVec.ofInt IntKind.u64.bits 18446744073709551615) ^^^ (BitVec.ofInt IntKind.u64.bits x26)).toNat : Nat) : Int))) &&& (BitVec.ofInt IntKind.u64.bits x34)).toNat : Nat) : Int)))).toNat : Nat) : Int)))) + x36)) + x22)) + (IntKind.u64.wrap (x38 + (IntKind.u64.wrap ((((BitVec.ofInt IntKind.u64.bits (IntKind.u64.wrap ((((BitVec.ofInt IntKind.u64.bits (IntKind.u64.wrap ((((BitVec.ofInt IntKind.u64.bits x24) &&& (BitVec.ofInt IntKind.u64.bits x40)).toNat : Nat) : Int))) ||| (BitVec.ofInt IntKind.u64.bits (IntKind.u64.wrap ((((BitVec.ofInt IntKind.u64.bits x24) &&& (BitVec.ofInt IntKind.u64.bits x42)).toNat : Nat) : Int)))).toNat : Nat) : Int))) ||| (BitVec.ofInt IntKind.u64.bits (IntKind.u64.wrap ((((BitVec.ofInt IntKind.u64.bits x44) &&& (BitVec.ofInt IntKind.u64.bits x46)).toNat : Nat) : Int)))).toNat : Nat) : Int)))))), x48, x50, x52, (IntKind.u64.wrap (x54 + (IntKind.u64.wrap ((IntKind.u64.wrap ((IntKind.u64.wrap ((IntKind.u64.wrap (x28 + x30)) + (IntKind.u64.wrap ((((BitVec.ofInt IntKind.u64.bits (IntKind.u64.wrap ((((BitVec.ofInt IntKind.u64.bits x26) &&& (BitVec.ofInt IntKind.u64.bits x32)).toNat : Nat) : Int))) ||| (BitVec.ofInt IntKind.u64.bits (IntKind.u64.wrap ((((BitVec.ofInt IntKind.u64.bits (IntKind.u64.wrap ((((BitVec.ofInt IntKind.u64.bits 18446744073709551615) ^^^ (BitVec.ofInt IntKind.u64.bits x26)).toNat : Nat) : Int))) &&& (BitVec.ofInt IntKind.u64.bits x34)).toNat : Nat) : Int)))).toNat : Nat) : Int)))) + x36)) + x22)))), x56, x58, x60] 0 8)) else (zCB p0 z20)
def zCk (p0 : (List Int)) (p1 : (List Int)) (p2 : (List UInt8)) : Option (List Int) :=
Option.bind (lenI (padA (0 : Int) p0 0 8).length 8) fun x1 =>
Option.bind (lenI (List.replicate 8 (0 : Int)).length 8) fun x3 =>
Option.bind (zCC p2) fun x17 =>
zAs x17 p1 p0 (Int.toNat 80 + 1) 0 (padA (0 : Int) (padA (0 : Int) p0 0 8) 0 8)
def zDW : Option (List Int) :=
some [4794697086780616226, 8158064640168781261, 13096744586834688815, 16840607885511220156, 4131703408338449720, 6480981068601479193, 10538285296894168987, 12329834152419229976, 15566598209576043074, 1334009975649890238, 2608012711638119052, 6128411473006802146, 8268148722764581231, 9286055187155687089, 11230858885718282805, 13951009754708518548, 16472876342353939154, 17275323862435702243, 1135362057144423861, 2597628984639134821, 3308224258029322869, 5365058923640841347, 6679025012923562964, 8573033837759648693, 10970295158949994411, 12119686244451234320, 12683024718118986047, 13788192230050041572, 14330467153632333762, 15395433587784984357, 489312712824947311, 1452737877330783856, 2861767655752347644, 3322285676063803686, 5560940570517711597, 5996557281743188959, 7280758554555802590, 8532644243296465576, 9350256976987008742, 10552545826968843579, 11727347734174303076, 12113106623233404929, 14000437183269869457, 14369950271660146224, 15101387698204529176, 15463397548674623760, 17586052441742319658, 1182934255886127544, 1847814050463011016, 2177327727835720531, 2830643537854262169, 3796741975233480872, 4115178125766777443, 5681478168544905931, 6601373596472566643, 7507060721942968483, 8399075790359081724, 8693463985226723168, 9568029438360202098, 10144078919501101548, 10430055236837252648, 11840083180663258601, 13761210420658862357, 14299343276471374635, 14566680578165727644, 15097957966210449927, 16922976911328602910, 17689382322260857208, 500013540394364858, 748580250866718886, 1242879168328830382, 1977374033974150939, 2944078676154940804, 3659926193048069267, 4368137639120453308, 4836135668995329356, 5532061633213252278, 6448918945643986474, 6902733635092675308, 7801388544844847127]
def zDl : Option (List Int) :=
some [7640891576956012808, 13503953896175478587, 4354685564936845355, 11912009170470909681, 5840696475078001361, 11170449401992604703, 2270897969802886507, 6620516959819538809]
def zAI (kl1 : (List UInt8) → Int → Option (List UInt8)) (x4 : Int) (z2 : Int) : Nat → (List UInt8) → Int → Option (List UInt8)
 | 0, _, _ => none
 | nl2 + 1, z6, z7 =>
  bif (decide (z7 ≥ 0)) then (Option.bind (shrI .u64 x4 (IntKind.u64.wrap z7)) fun x9 =>
  Option.bind (appI 1 z6 [(U8 x9)]) fun x11 =>
  (zAI kl1 x4 z2 nl2) x11 (wi (z7 - 8))) else (kl1 z6 (wi (z2 + 1)))
def zAC (p0 : (List Int)) : Nat → (List UInt8) → Int → Option (List UInt8)
 | 0, _, _ => none
 | nl1 + 1, z1, z2 =>
  bif (decide (z2 < (p0.length : Int))) then (Option.bind (idx p0 z2) fun x4 =>
  zAI (zAC p0 nl1) x4 z2 (10) z1 56) else (some z1)
def zAt (p0 : (List Int)) : Option (List UInt8) :=
zAC p0 (p0.length + 1) [] 0
def zEc (p0 : Int) : Option (List UInt8) :=
bif (decide (p0 < 0)) then (some []) else (bif (decide (p0 > 1099511627776)) then (some []) else (Option.bind (apzI 1 [128].length (wi ((Int.tmod (wi (239 - (Int.tmod p0 128))) 128) + 8))) fun x3 =>
Option.bind (zAt [(IntKind.u64.wrap ((IntKind.u64.wrap p0) * 2 ^ 3))]) fun x5 =>
Option.bind (appI 1 ([128] ++ List.replicate x3 (0 : UInt8)) x5) fun x7 =>
some x7))
end Go.Proofs.YtmgafkpkpmjieaaDoor

/-
 The heap's objects are pure: found by instance.
-/
namespace Go.Proofs.YtmgafkpkpmjieaaDoor
instance {H : Hp} : PuH (hpA H) := ⟨zEJ H⟩
end Go.Proofs.YtmgafkpkpmjieaaDoor
