/-
  slices.Backward's closure and Top: a range over a function (after the worked text GgSlicesIterAtTheDump).
-/
import Derived.RangeFuncBox
import Derived.RangeFuncLeaves
import Derived.RangeFuncCalls
import Derived.Shelf.Abstract
import Derived.WalkKit
import Derived.OwnWalkIn
import Derived.TacticsInMore
import Derived.LoopNIn
import Derived.LoopIn
import Derived.Test.YtimdogdplphmoaaDoorSpW
import Derived.Test.YtimdogdplphmoaaDoorNum
namespace Go.Proofs.YtimdogdplphmoaaDoor
open Go Go.RowKit Go.Shelf
attribute [local go_sem] Oper.semAt_some

def upto {α : Type} (f : Nat → α) (k : Nat) : List α := (List.range k).map f
theorem upto_succ {α : Type} (f : Nat → α) (k : Nat) : upto f (k + 1) = upto f k ++ [f k] := by simp [upto, List.range_succ]
theorem upto_length {α : Type} (f : Nat → α) (k : Nat) : (upto f k).length = k := by simp [upto]
/-- What comes in round j: the last one first. -/
def bk (zs : List Int) (j : Nat) : Nat × Int := (zs.length - 1 - j, zs[zs.length - 1 - j]?.getD 0)

theorem bk_step {zs : List Int} {k : Nat} (hk : k + 1 ≤ zs.length) : upto (bk zs) (zs.length - (k + 1)) ++ [(k, zs[k]?.getD 0)] = upto (bk zs) (zs.length - k) := by
  have e : zs.length - k = (zs.length - (k + 1)) + 1 := by omega
  rw [e, upto_succ]
  have e2 : zs.length - 1 - (zs.length - (k + 1)) = k := by omega
  unfold bk
  rw [e2]

set_option maxRecDepth 100000 in
set_option maxHeartbeats 2000000 in
theorem back1_in (F : Fence) (n : Nat) (h8 : F.fn 32) (hro : F.round = none) (hn : 1 ≤ n) (l Bs n₀ b cap : Nat) (ad : Option Addr) (zs : List Int) (had : zs.length ≠ 0 → ad = some ⟨b, 0, none⟩) (hreach : zs.length * 8 ≤ 140737488351232) (hb : b < n₀) (J Jx : List (Nat × Int) → World → Prop)
    (hY : ∀ pre x W, J pre W → pre.length < zs.length → YieldAt F (n - 1) Tryd.prog l #[.int .i64 (x.1 : Int), .int .u64 x.2] W fun e W' =>
      (e = .returned (.bool true) ∧ J (pre ++ [x]) W' ∧ Below n₀ W W') ∨ (e = .returned (.bool false) ∧ Jx (pre ++ [x]) W'))
    (W : World) (hBs : W.cell? ⟨Bs, 0, none⟩ = some (.slice ad zs.length cap)) (hc : ∀ j, j < zs.length → W.cell? ⟨b, j, none⟩ = some (.int .u64 (zs[j]?.getD 0))) (hBn : Bs < n₀) (h0 : J [] W) :
    CallsIn F n Tryd.prog 32 #[.func (.yield l) #[] #[], .pointer (some ⟨Bs, 0, none⟩)] W fun e W' => (∃ v, e = .returned v) ∧
      (J (upto (bk zs) zs.length) W' ∨ (∃ k, k ≤ zs.length ∧ Jx (upto (bk zs) k) W')) := by
  refine callsIn_of_wp Tryd.func32 rfl h8 ?_ hro
  simp only [Tryd.ntmps32, List.size_toArray, List.length_cons, List.length_nil, Nat.reduceAdd, Nat.reduceSub, Array.replicate_succ, Array.replicate_zero, List.push_toArray, List.append_toArray, List.nil_append, List.cons_append]
  gi_wp2
  gi_loopw [3] (fun i wr => ∃ k : Nat, k ≤ zs.length ∧ i = .int .i64 ((k : Int) - 1) ∧ J (upto (bk zs) (zs.length - k)) wr ∧ Below n₀ W wr)
    (fun i _ => (intOf i + 1).toNat)
  case atStart => exact ⟨zs.length, Nat.le_refl _, rfl, by rw [Nat.sub_self]; exact h0, Below.refl _ _⟩
  case round =>
    obtain ⟨k, hk, rfl, hJs, hnx⟩ := hrel
    cases k with
    | zero =>
      have e : ((0 : Nat) : Int) - 1 = -1 := rfl
      rw [e]
      gi_wp2
      go_end0
      exact ⟨⟨_, rfl⟩, .inl hJs⟩
    | succ k =>
      obtain rfl := had (by omega)
      have e : ((k + 1 : Nat) : Int) - 1 = k := by omega
      rw [e]
      have hcx : wr.cell? ⟨b, k, none⟩ = some (.int .u64 (zs[k]?.getD 0)) := (hnx.cell (p := ⟨b, k, none⟩) hb).trans (hc k hk)
      have hcs := (hnx.cell (p := ⟨Bs, 0, none⟩) hBn).trans hBs
      obtain ⟨fn, tmps, assign, body, hy, hR⟩ := hY _ (k, zs[k]?.getD 0) wr hJs (by rw [upto_length]; omega)
      dsimp only at hy
      gi_wp2
      refine hR.mono ?_
      rintro e W3 (⟨rfl, hJ3, hk3⟩ | ⟨rfl, hJx3⟩)
      · gi_wp2
        go_roundw
        case rel => exact ⟨k, by omega, rfl, by rw [← bk_step hk]; exact hJ3, hnx.trans hk3⟩
        case measure => simp only [intOf]; omega
      · gi_wp2
        refine bodyPost_ret (results_none rfl _ _ _) rfl ?_
        exact ⟨⟨_, rfl⟩, .inr ⟨zs.length - k, by omega, by rw [← bk_step hk]; exact hJx3⟩⟩

set_option maxHeartbeats 1000000 in
/-- **slices.Backward(s)**: the slice value is boxed; the function value captures the box. -/
theorem back_in (F : Fence) (n : Nat) (h6 : F.fn 24) (hro : F.round = none) (a : Option Addr) (len cap : Nat) (w : World) :
    CallsIn F n Tryd.prog 24 #[.slice a len cap] w fun e w' => e = .returned (.func (.func 32) #[] #[.pointer (some ⟨w.heap.size, 0, none⟩)]) ∧ w' = w.alloc (.cells #[.slice a len cap] 56) := by
  refine callsIn_of_wp Tryd.func24 rfl h6 ?_ hro
  simp only [Tryd.ntmps24, List.size_toArray, List.length_cons, List.length_nil, Nat.reduceAdd, Nat.reduceSub, Array.replicate_succ, Array.replicate_zero, List.push_toArray, List.append_toArray, List.nil_append, List.cons_append]
  gi_wp2
  go_ret
  exact ⟨rfl, rfl⟩
/-- What Backward hands back, as a contract: all, or a part. -/
theorem back_stops (F : Fence) (n : Nat) (h8 : F.fn 32) (hro : F.round = none) (hn : 1 ≤ n) (Bs n₀ b cap : Nat) (ad : Option Addr) (zs : List Int) (had : zs.length ≠ 0 → ad = some ⟨b, 0, none⟩) (hreach : zs.length * 8 ≤ 140737488351232) (hb : b < n₀) (hBn : Bs < n₀) (w : World) (hn₀ : n₀ ≤ w.heap.size)
    (hBs : w.cell? ⟨Bs, 0, none⟩ = some (.slice ad zs.length cap)) (hc : ∀ j, j < zs.length → w.cell? ⟨b, j, none⟩ = some (.int .u64 (zs[j]?.getD 0))) :
    SeqStopsK F n Tryd.prog 32 #[.pointer (some ⟨Bs, 0, none⟩)] (fun x : Nat × Int => #[Value.int .i64 (x.1 : Int), Value.int .u64 x.2]) (Below n₀) (fun ys => ys = upto (bk zs) zs.length)
      (fun pre => ∃ k, k ≤ zs.length ∧ pre = upto (bk zs) k) zs.length w := fun l J Jx W hW _ _ hY h0 =>
  (back1_in F n h8 hro hn l Bs n₀ b cap ad zs had hreach hb J Jx hY W ((hW.cell (p := ⟨Bs, 0, none⟩) (Nat.lt_of_lt_of_le hBn hn₀)).trans hBs) (fun j hj => (hW.cell (p := ⟨b, j, none⟩) (Nat.lt_of_lt_of_le hb hn₀)).trans (hc j hj)) hBn h0).mono fun e W' ⟨he, h⟩ =>
    ⟨he, h.imp (fun h => ⟨_, rfl, h⟩) (fun ⟨k, hk, h⟩ => ⟨_, ⟨k, hk, rfl⟩, h⟩)⟩

/-- What Top tells: the highest word that is not nought. -/
def topM (zs : List Int) : Nat → Option Int
  | 0 => some (-1)
  | k + 1 => bif zs[k]?.getD 0 != 0 then (Option.bind (m_math_bits_Len64 (zs[k]?.getD 0)) fun v => some (wi (wi (wi (64 * (k : Int)) + v) - 1))) else topM zs k
def m_space_Space_Top (p0 : Option Nat) (w0 : Hp) : Option (Int × Hp) := ptM p0 (some (-1, w0)) fun i => Option.bind (w0.ge_space i) fun x => Option.bind (bif decide (x.l_.length ≤ 10000000000000) then some () else none) fun _ => Option.bind (topM x.l_ x.l_.length) fun v => some (v, w0)

theorem len64_calls {W : World} {m : Mem} (hsat : ∀ b p u, m b p = some u → W.cell? ⟨b, p, none⟩ = some u) (htbl : Mle TBL m) {z v : Int} (h : m_math_bits_Len64 z = some v) :
    Calls Tryd.prog 25 #[.int .u64 z] W fun e W' => e = .returned (.int .i64 v) ∧ Below W.heap.size W W' := by
  refine (fc_math_bits_Len64 z v h W m (fun _ => none) #[.int .u64 z] hsat htbl (fun g l h => by cases h) (fun g g' l h => by cases h) rfl (fun s => ?_)).mono ?_
  · cases s with
    | zero => exact RepD.lit _ rfl
    | succ s => trivial
  · rintro e W' ⟨u, m', o', S', a', ρ, rfl, I, hr, _⟩
    refine ⟨?_, (I.same.weaken fun k hk => hk rfl).below⟩
    cases hr with
    | lit u hu => rfl
def tblLen : List UInt8 := ([0, 1, 2, 2, 3, 3, 3, 3, 4, 4, 4, 4, 4, 4, 4, 4, 5, 5, 5, 5, 5, 5, 5, 5, 5, 5, 5, 5, 5, 5, 5, 5, 6, 6, 6, 6, 6, 6, 6, 6, 6, 6, 6, 6, 6, 6, 6, 6, 6, 6, 6, 6, 6, 6, 6, 6, 6, 6, 6, 6, 6, 6, 6, 6, 7, 7, 7, 7, 7, 7, 7, 7, 7, 7, 7, 7, 7, 7, 7, 7, 7, 7, 7, 7, 7, 7, 7, 7, 7, 7, 7, 7, 7, 7, 7, 7, 7, 7, 7, 7, 7, 7, 7, 7, 7, 7, 7, 7, 7, 7, 7, 7, 7, 7, 7, 7, 7, 7, 7, 7, 7, 7, 7, 7, 7, 7, 7, 7, 8, 8, 8, 8, 8, 8, 8, 8, 8, 8, 8, 8, 8, 8, 8, 8, 8, 8, 8, 8, 8, 8, 8, 8, 8, 8, 8, 8, 8, 8, 8, 8, 8, 8, 8, 8, 8, 8, 8, 8, 8, 8, 8, 8, 8, 8, 8, 8, 8, 8, 8, 8, 8, 8, 8, 8, 8, 8, 8, 8, 8, 8, 8, 8, 8, 8, 8, 8, 8, 8, 8, 8, 8, 8, 8, 8, 8, 8, 8, 8, 8, 8, 8, 8, 8, 8, 8, 8, 8, 8, 8, 8, 8, 8, 8, 8, 8, 8, 8, 8, 8, 8, 8, 8, 8, 8, 8, 8, 8, 8, 8, 8, 8, 8, 8, 8, 8, 8, 8, 8, 8, 8, 8, 8, 8, 8, 8, 8])
theorem tblLen_len : tblLen.length = 256 := by kernel_rfl
theorem idx_some {α : Type} {l : List α} {i : Nat} (h : i < l.length) : ∃ y, idx l (i : Int) = some y := ⟨_, idx_nat h⟩
theorem bnd {α β : Type} {x : Option α} {y : α} {f : α → β} (h : x = some y) : (Option.bind x fun z => some (f z)) = some (f y) := by rw [h]; rfl
theorem len64_some (z : Int) : ∃ v, m_math_bits_Len64 z = some v := by
  have h3 : ∀ a b, ∃ v, m_math_bits_Len64_j3 a b = some v := fun a b => by
    unfold m_math_bits_Len64_j3
    obtain ⟨y, hy⟩ := idx_some (l := tblLen) (i := (U8 a).toNat) (by rw [tblLen_len]; exact (U8 a).toNat_lt)
    exact ⟨wi (b + (y.toNat : Int)), bnd hy⟩
  have h2 : ∀ a b, ∃ v, m_math_bits_Len64_j2 a b = some v := fun a b => by
    unfold m_math_bits_Len64_j2
    cases decide (a ≥ 256) <;> exact h3 _ _
  have h1 : ∀ a b, ∃ v, m_math_bits_Len64_j1 a b = some v := fun a b => by
    unfold m_math_bits_Len64_j1
    cases decide (a ≥ 65536) <;> exact h2 _ _
  unfold m_math_bits_Len64
  cases decide (z ≥ 4294967296) <;> exact h1 _ _
structure Hid (p : Prop) : Prop where
  out : p
theorem keepsFrom_of_below {B : Nat} {W W' : World} (h : Below W.heap.size W W') : KeepsFrom B W W' :=
  ⟨h.size, fun k o _ hk _ => (h.block k (Array.getElem?_eq_some_iff.1 hk).1).trans hk⟩

set_option maxRecDepth 100000 in
set_option maxHeartbeats 4000000 in
theorem Top_in (n : Nat) (hn : 3 ≤ n) (w : World) (m : Mem) (hsat : ∀ b p u, m b p = some u → w.cell? ⟨b, p, none⟩ = some u) (htbl : Mle TBL m) (g b cap : Nat) (ad : Option Addr) (zs : List Int) (had : zs.length ≠ 0 → ad = some ⟨b, 0, none⟩)
    (hreach : zs.length * 8 ≤ 140737488351232) (hb : b < w.heap.size) (hcs : w.cell? ⟨g, 2, none⟩ = some (.slice ad zs.length cap)) (hc : ∀ j, j < zs.length → w.cell? ⟨b, j, none⟩ = some (.int .u64 (zs[j]?.getD 0))) (v : Int) (hv : topM zs zs.length = some v) :
    CallsIn Fence.wide n Tryd.prog 9 #[.pointer (some ⟨g, 0, none⟩)] w fun e W' => e = .returned (.int .i64 v) ∧ Below w.heap.size w W' := by
  have h1 : 1 ≤ n := by omega
  have hro : Fence.wide.round = none := rfl
  have hF : ∀ f, Fence.wide.fn f := fun _ => trivial
  refine callsIn_of_wp_marks Tryd.func9 rfl (hF _) ?_ hro
  simp only [Tryd.ntmps9, List.size_toArray, List.length_cons, List.length_nil, Nat.reduceAdd, Nat.reduceSub, Array.replicate_succ, Array.replicate_zero, List.push_toArray, List.append_toArray, List.nil_append, List.cons_append]
  have hg : g < w.heap.size := by simpa using World.block_lt_of_cell? w _ hcs
  gi_wp2_with (gi_at_call 24; refine (back_in Fence.wide (n - 1) (hF _) hro _ _ _ _).mono ?_; rintro e w' ⟨rfl, rfl⟩)
  have bR := Boxed.new w 3 (.int .i64 0)
  have bN := Boxed.new (w.alloc (.cells #[.int .i64 0] 3)) 56 (.slice ad zs.length cap)
  rw [World.size_alloc] at bN
  have hB0 : Below w.heap.size w ((w.alloc (.cells #[.int .i64 0] 3)).alloc (.cells #[.slice ad zs.length cap] 56)) := ((Below.refl _ w).alloc (Nat.le_refl _) _).alloc (by simp) _
  have hlow : ∀ b p u, m b p = some u → b < w.heap.size := fun b p u h => by
    have := World.block_lt_of_cell? w _ (hsat b p u h)
    simpa using this
  refine wpIn_rangeFunc_ownG hro h1 (gf := 32) (lb := #[.pointer (some ⟨w.heap.size + 1, 0, none⟩)]) rfl (hF _) (enters_of Tryd.func32 (by kernel_rfl) rfl)
    (back_stops Fence.wide (n - 1) (hF _) hro (by omega) (w.heap.size + 1) (w.heap.size + 2) b cap ad zs had hreach (by omega) (by omega) _ (by simp) bN.cell (fun j hj => (hB0.cell (p := ⟨b, j, none⟩) hb).trans (hc j hj))) belowK_t (belowK_b (by simp)) (Below.refl _ _) (fun _ => rfl)
    (fun pre W => ((∃ k, k ≤ zs.length ∧ pre.length = zs.length - k ∧ (pre = upto (bk zs) pre.length → topM zs k = some v)) ∧ W.cell? ⟨w.heap.size, 0, none⟩ = some (.int .i64 0) ∧ W.frozen? ⟨w.heap.size, 0, none⟩ = false) ∧ Below w.heap.size w W)
    (fun c pre W => (c = .ret ∧ (pre = upto (bk zs) pre.length → W.cell? ⟨w.heap.size, 0, none⟩ = some (.int .i64 v))) ∧ Below w.heap.size w W)
    (OwnFrom.and (Own.from (fun s A B row hs hg hr => ⟨hs.1, cell_kept hs.2.1 hg hr, (frozen_kept hs.2.1 hg hr).trans hs.2.2⟩) _) (ownFrom_below (Nat.le_refl _) (by simp; omega)))
    (fun c => OwnFrom.and (Own.from (fun s A B row hs hg hr => ⟨hs.1, fun e => cell_kept (hs.2 e) hg hr⟩) _) (ownFrom_below (Nat.le_refl _) (by simp; omega)))
    ⟨⟨⟨zs.length, Nat.le_refl _, by simp, fun _ => hv⟩, (bR.alloc _).cell, (bR.alloc _).frozen⟩, hB0⟩
    (fun x => { tmps := #[.pointer (some ⟨g, 0, none⟩), undef, .pointer (some ⟨w.heap.size, 0, none⟩), .int .i64 (x.1 : Int), .int .u64 x.2, .pointer (some ⟨g, 0, none⟩), .bool false, .pointer (some ⟨g, 0, none⟩), .pointer (some ⟨g, 0, none⟩), .pointer (some ⟨g, 2, none⟩), .slice ad zs.length cap, .func (.func 32) #[] #[.pointer (some ⟨w.heap.size + 1, 0, none⟩)], .int .i64 (x.1 : Int), .int .u64 x.2, undef, undef, undef, undef, undef, undef, undef, undef], defers := [] }) ?assign ?body ?done ?stop
  case assign =>
    intro l x W K hK
    gi_wp2
    exact hK
  case body =>
    rintro l pre x W ⟨⟨⟨k, hk, hpre, ht⟩, hcr, hfr⟩, hB⟩ hlen
    obtain ⟨z, hz⟩ := len64_some x.2
    obtain ⟨k, rfl⟩ : ∃ j, k = j + 1 := ⟨k - 1, by omega⟩
    have hsatW : ∀ b p u, m b p = some u → W.cell? ⟨b, p, none⟩ = some u := fun b p u h => (hB.cell (p := ⟨b, p, none⟩) (hlow b p u h)).trans (hsat b p u h)
    have hcall := len64_calls hsatW htbl hz
    have HH : Hid (m_math_bits_Len64 x.2 = some z ∧ pre.length < zs.length ∧ pre.length = zs.length - (k + 1) ∧ (pre = upto (bk zs) pre.length → topM zs (k + 1) = some v)) := ⟨hz, hlen, hpre, ht⟩
    clear hsatW hz hlen hpre ht
    gi_wp2
    · have hW : w.heap.size < W.heap.size := by simpa using World.block_lt_of_cell? W _ hcr
      refine ⟨fun _ => by omega, (CallsIn.inRound l (callsIn_wide.2 hcall)).mono ?_⟩
      rintro e W' ⟨rfl, hBW⟩
      have hcr' := (hBW.cell (p := ⟨w.heap.size, 0, none⟩) hW).trans hcr
      have hfr' := (hBW.frozen (p := ⟨w.heap.size, 0, none⟩) hW).trans hfr
      have hB' : Below w.heap.size w W' := hB.trans (hBW.mono (Nat.le_of_lt hW))
      dsimp only
      gi_wp2
      obtain ⟨hz, hlen, hpre, ht⟩ := HH.out
      have key : pre ++ [x] = upto (bk zs) (pre ++ [x]).length → topM zs (k + 1) = some v ∧ x = (k, zs[k]?.getD 0) := fun e => by
        rw [List.length_append, List.length_singleton, upto_succ] at e
        obtain ⟨e1, e2⟩ := List.append_inj' e rfl
        refine ⟨ht e1, ?_⟩
        injection e2 with e2
        rw [e2]
        unfold bk
        rw [show zs.length - 1 - pre.length = k by omega]
      have hx : (x.2 != 0) = true := by assumption
      refine ⟨(keepsFrom_of_below hBW).trans ((KeepsOthers.setCell _ _ _).from _), ⟨rfl, fun e => ?_⟩, hB'.setCell (p := ⟨w.heap.size, 0, none⟩) (Nat.le_refl _) _⟩
      obtain ⟨h1, h2⟩ := key e
      have hv2 : wi (wi (wi (64 * (x.1 : Int)) + z) - 1) = v := by
        unfold topM at h1
        rw [h2] at hx hz
        rw [show (zs[k]?.getD 0 != 0) = true from hx, cond_true, hz] at h1
        rw [h2]
        injection h1
      rw [← hv2]
      have hw : ∀ z, wi z = wrap64 z := IntWalk.i64_left
      rw [hw, hw, hw]
      exact World.cell?_setCell_same' _ _ _ (by rw [hcr']; rfl)
    · obtain ⟨hz, hlen, hpre, ht⟩ := HH.out
      have key : pre ++ [x] = upto (bk zs) (pre ++ [x]).length → topM zs (k + 1) = some v ∧ x = (k, zs[k]?.getD 0) := fun e => by
        rw [List.length_append, List.length_singleton, upto_succ] at e
        obtain ⟨e1, e2⟩ := List.append_inj' e rfl
        refine ⟨ht e1, ?_⟩
        injection e2 with e2
        rw [e2]
        unfold bk
        rw [show zs.length - 1 - pre.length = k by omega]
      have hx : x.2 = 0 := by have h : (x.2 != 0) = false := by assumption
                              simpa using h
      refine ⟨KeepsFrom.refl _ _, Below.refl _ _, ⟨⟨k, by omega, by simp; omega, fun e => ?_⟩, hcr, hfr⟩, hB⟩
      obtain ⟨h1, h2⟩ := key e
      unfold topM at h1
      rw [h2] at hx
      rwa [show (zs[k]?.getD 0 != 0) = false by simpa using hx] at h1
  case done =>
    rintro D ys W hD rfl ⟨⟨⟨k, hk, hpre, ht⟩, hcr, hfr⟩, hB⟩ hK
    rw [upto_length] at hpre ht
    obtain rfl : k = 0 := by omega
    obtain rfl : v = -1 := by have h := ht rfl; injection h with h; exact h.symm
    clear ht
    gi_wp2
    have hK' := (KeepsOthers.setCell W ⟨w.heap.size, 0, none⟩ (.int .i64 (-1))).same D _ hK rfl
    refine ⟨by simp, .inl ⟨_, _, rfl, run_takeDeferred hK', ?_⟩⟩
    have hc5 := cell_kept (World.cell?_setCell_same' W ⟨w.heap.size, 0, none⟩ (.int .i64 (-1)) (by rw [hcr]; rfl)) (grownBy_putObj' _ D (.deferred none)) (fun r e => by cases e; exact ⟨_, hK', rfl⟩)
    refine ⟨.int .i64 (-1), ?_, rfl, (hB.setCell (p := ⟨w.heap.size, 0, none⟩) (Nat.le_refl _) _).trans (belowK_b (w := w) (Nat.le_refl _) _ D _ _ (by simp at hD; omega) hK' rfl rfl)⟩
    simp [results, Tryd.f9, go_sem, hc5]
  case stop =>
    rintro D c pre W hD ⟨k, hk, rfl⟩ ⟨⟨rfl, hcr⟩, hB⟩ hK
    have hcr := hcr (by rw [upto_length])
    gi_wp2
    refine ⟨by simp, .inl ⟨_, _, rfl, run_takeDeferred hK, ?_⟩⟩
    have hc5 := cell_kept hcr (grownBy_putObj' _ D (.deferred none)) (fun r e => by cases e; exact ⟨_, hK, rfl⟩)
    refine ⟨.int .i64 v, ?_, rfl, hB.trans (belowK_b (w := w) (Nat.le_refl _) W D _ _ (by simp at hD; omega) hK rfl rfl)⟩
    simp [results, Tryd.f9, go_sem, hc5]

set_option maxRecDepth 100000 in
theorem Top_nil (n : Nat) (hn : 3 ≤ n) (w : World) : CallsIn Fence.wide n Tryd.prog 9 #[.pointer none] w fun e W' => e = .returned (.int .i64 (-1)) ∧ Below w.heap.size w W' := by
  have hro : Fence.wide.round = none := rfl
  have hF : ∀ f, Fence.wide.fn f := fun _ => trivial
  refine callsIn_of_wp Tryd.func9 rfl (hF _) ?_ hro
  simp only [Tryd.ntmps9, List.size_toArray, List.length_cons, List.length_nil, Nat.reduceAdd, Nat.reduceSub, Array.replicate_succ, Array.replicate_zero, List.push_toArray, List.append_toArray, List.nil_append, List.cons_append]
  gi_wp2
  refine bodyPost_ret (v := .int .i64 (-1)) ?_ rfl ⟨rfl, (Below.refl _ w).alloc (Nat.le_refl _) _⟩
  have hc := (Boxed.new w 3 (.int .i64 (-1))).cell
  simp [results, Tryd.f9, go_sem, hc]
theorem cells_at {w : World} {g : Nat} {cs : Array Value} {E : Nat} (h : w.heap[g]? = some (.cells cs E (0, 0))) {p : Nat} {u : Value} (hp : cs[p]? = some u) : w.cell? ⟨g, p, none⟩ = some u := by
  simp [World.cell?, h, hp]
theorem fch_space_Space_Top (p0 : Option Nat) (w0 : Hp) (r : Int × Hp) (h : m_space_Space_Top p0 w0 = some r) : FCH Tryd.prog 9 [.t (ptT 1 p0)] [] [] (hpA w0) (hpA r.2) (.t (.d (.lit (.int .i64 r.1)))) := by
  intro w m o vals hsat htbl hlt hinj hsz hrep
  have hlow : ∀ b p u, m b p = some u → b < w.heap.size := fun b p u h => by
    have := World.block_lt_of_cell? w _ (hsat b p u h)
    simpa using this
  have hargO : ∀ g j, o g = some (OB + j, 0) → OB2 ≤ OB + j := by
    intro g j h
    refine Nat.le_of_not_lt fun h2 => ?_
    have hs := hrep (OB + j)
    have e : argH [.t (ptT 1 p0)] [] (hpA w0) (OB + j) = .free := by unfold argH; rw [if_neg (by omega), if_neg (by omega)]; rfl
    rw [e] at hs
    exact hs g 0 h
  have fin : ∀ (v : Int), r = (v, w0) → (Calls Tryd.prog 9 vals w fun e W' => e = .returned (.int .i64 v) ∧ Below w.heap.size w W') → Calls Tryd.prog 9 vals w fun e w' => ∃ (u : Value) (m' : Mem) (o' : OwnM) (S' : Nat → A) (a' : Act) (ρ : Nat), e = .returned u ∧ Inv w m o (fun g => o g ≠ none) (pinsH 0) S' a' w' m' o' ∧ RepA m' w' o' S' ρ (.t (.d (.lit (.int .i64 r.1)))) u ∧ (∀ (i : Nat) (x : A), ([] : List A)[i]? = some x → S' (OB + i) = x) ∧ (∀ c, S' (OB + (OB + c)) = san (hpA r.2 c)) ∧ ρ < OB := by
    intro v hr hc
    subst hr
    refine hc.mono ?_
    rintro e w' ⟨rfl, hb⟩
    have K : Keep (fun _ => False) m w o m w' o := ⟨Mle.refl _, fun _ _ _ _ => rfl, fun g l h _ => hb.block g (hlt g l h), fun _ _ h _ => h, fun _ _ h => h, fun g _ k _ h => ⟨g, k, h⟩, fun g _ h => .of_eq (hb.block g (hlt g _ h))⟩
    refine ⟨.int .i64 v, m, o, argH [.t (ptT 1 p0)] [] (hpA w0), { tmps := vals, defers := [] }, 0, rfl, ⟨Same.of_below hb, fun b p u h => (hb.cell (p := ⟨b, p, none⟩) (hlow b p u h)).trans (hsat b p u h), Mle.refl _, fun _ _ _ => rfl, fun g l h => .inl (by rw [h]; simp), fun g l h => Nat.lt_of_lt_of_le (hlt g l h) hb.size, hinj, fun s _ g hg => hg, fun s => (hrep s).keep K (fun _ => id) (fun b off _ _ => ⟨id, id⟩), rfl, htbl, by rw [hsz]; exact (show 1 ≤ OB by decide), fun g j h => ⟨.inr (hargO g j h), K.sh g j h⟩⟩, .lit _ rfl, fun i x h => by simp at h, fun c => ?_, by decide⟩
    unfold argH
    rw [if_neg (by omega), if_pos (by rw [← ob2_eq]; omega), ← ob2_eq, Nat.add_sub_cancel_left]
  obtain ⟨v0, rfl⟩ : ∃ v0, vals = #[v0] := ⟨vals[0]'(by rw [hsz]; exact Nat.one_pos), by
    apply Array.ext (by simp [hsz])
    intro i h1 h2
    simp at h2
    subst h2
    rfl⟩
  have h0 := hrep 0
  have hheap : ∀ c, RepA m w o (argH [.t (ptT 1 p0)] [] (hpA w0)) (OB + (OB + c)) (san (hpA w0 c)) (#[v0].getD (OB + (OB + c)) undef) := fun c => by
    have := hrep (OB + (OB + c))
    have e : argH [.t (ptT 1 p0)] [] (hpA w0) (OB + (OB + c)) = san (hpA w0 c) := by
      unfold argH
      rw [if_neg (by omega), if_pos (by rw [← ob2_eq]; omega), ← ob2_eq, Nat.add_sub_cancel_left]
    rw [e] at this
    exact this
  unfold m_space_Space_Top at h
  rcases ptM_some h with ⟨rfl, h⟩ | ⟨i, rfl, h⟩
  · injection h with h
    obtain rfl : v0 = .pointer none := by
      have h0 : RepD m (.lit (.pointer none)) v0 := h0
      cases h0
      rfl
    exact fin (-1) h.symm ((Top_nil 3 (by omega) w).calls fun k => room_wide k)
  · obtain ⟨x, hx, h⟩ := bind_some h
    obtain ⟨_, hlen, h⟩ := bind_some h
    obtain ⟨v, hv, h⟩ := bind_some h
    injection h with h
    have hlen : x.l_.length ≤ 10000000000000 := by
      cases hd : decide (x.l_.length ≤ 10000000000000) with
      | true => exact of_decide_eq_true hd
      | false => rw [hd] at hlen; cases hlen
    obtain ⟨g, hg, rfl⟩ : ∃ g, o g = some (OB + (OB + cd 1 i), 0) ∧ v0 = .pointer (some ⟨g, 0, none⟩) := h0
    have hb1 := hheap (cd 1 i)
    rw [san_hpA, gl_space hx] at hb1
    obtain ⟨g1, -, k1, k2, cs, E, k3, k4, k5⟩ := hb1
    obtain rfl := hinj g g1 _ hg k1
    obtain ⟨-, u, k6, k7⟩ := k5 2 _ rfl
    obtain ⟨A', q, q1, q2, rfl, q4⟩ := k7
    have hb2 := hheap (cd 2 i)
    rw [san_hpA, gl_space_l hx] at hb2
    obtain ⟨b, -, j1, j2, cs2, E2, j3, j4, j5⟩ := hb2
    refine fin v h.symm ((Top_in 3 (by omega) w m hsat htbl g b q A' x.l_ (fun hne => ?_) (by omega) (hlt b _ j1) (cells_at k3 k6) (fun j hj => ?_) v hv).calls fun k => room_wide k)
    · rcases q4 with rfl | ⟨b', cs', e1, e2, -⟩
      · omega
      · obtain rfl := hinj b b' _ j1 e1
        exact e2
    · obtain ⟨-, u, l1, l2⟩ := j5 j _ (by
        have := fl_at (c := cInt .u64) (idx_nat hj) rfl (fun _ => rfl)
        rw [Int.toNat_natCast, Nat.zero_add, Nat.mul_one] at this
        exact this)
      cases l2 with
      | lit _ _ => rw [List.getElem?_eq_getElem hj]; exact cells_at j3 l1
end Go.Proofs.YtimdogdplphmoaaDoor
