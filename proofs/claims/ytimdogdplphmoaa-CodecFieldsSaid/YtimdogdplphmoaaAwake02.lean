/-
  The laws' awake (layer 2): the chapter's examples.
-/
import Derived.Test.YtimdogdplphmoaaEncode
import Derived.Test.YtimdogdplphmoaaFew
namespace Go.Proofs.Ytimdogdplphmoaa
open Go.RowKit

theorem wid258 : wid 258 = 2 := by rw [wid_pos (by decide), wid_pos (by decide), wid_zero]
theorem enc258 : V.enc (.mk 1 258 [] []) = [1, 2, 1, 2] := by
  rw [V.enc_eq]
  rw [if_pos (show V.k (.mk 1 258 [] []) = 1 from rfl)]
  show 1 :: UInt8.ofNat (wid 258) :: plainB 258 = _
  rw [plainB, wid258]
  rfl
theorem right258 : V.right (.mk 1 258 [] []) = true := by
  have h : V.sz (.mk 1 258 [] []) = 4 := by rw [← V.enc_length, enc258]; rfl
  unfold V.right
  rw [h]
  rfl
theorem encE : V.enc (.mk 3 0 [] []) = [3, 0, 0] := by rw [V.enc_eq]; rfl
theorem rightE : V.right (.mk 3 0 [] []) = true := by
  have h : V.sz (.mk 3 0 [] []) = 3 := by rw [← V.enc_length, encE]; rfl
  unfold V.right
  rw [h]
  rfl
theorem rep_nil (w : World) (k n : Int) (hk : Fits k) (hn : Fits n) : Rep w (.mk k n [] []) none 0 none 0 :=
  Rep.mk' (Byt.nil _ _) (Nat.le_refl _) ⟨Nat.le_refl _, by unfold maxLen; omega⟩ hk hn ((items_iff _ 0).2 fun j hj => absurd hj (by simp [V.l]))

theorem byt_new {w : World} {cs : Array Value} {t : TypeId} {g : Nat} {bs : List UInt8} (hg : g = w.heap.size) (h : cs.toList = u8s bs) : Byt (w.alloc (.cells cs t)) (some ⟨g, 0, none⟩) bs := by
  subst hg
  exact Byt.of_block (heap_alloc_new w _) (by rw [← u8s_length, ← h, List.take_length])

theorem same_yes (bs : List UInt8) (A B : Option Addr) (n m c d : Nat) (w : World) (hn : bs.length = n) (hm : bs.length = m) (hl : n ≤ 1000000000000) (ha : Byt w A bs) (hb : Byt w B bs) :
    Calls Try.prog 16 #[.slice A n c, .slice B m d] w fun e w' => e = .returned (.bool true) ∧ ∃ k, w' = w.drewN k := by
  have := same_any bs bs A B n m c d w hn hm hl ha hb
  rwa [decide_eq_true rfl] at this

set_option maxHeartbeats 2000000 in
theorem awake_any (w : World) : Calls Try.prog 8 #[] w fun e w' => e = .returned (.bool true) ∧ Below w.heap.size w w' := by
  go_enter Try.func8, Try.ntmps8
  go_wp2_with fail
  refine (num_any 258 _).mono ?_
  rintro e w1 ⟨rfl, hB1⟩
  go_wp2_with fail
  refine (encode_yes (.mk 1 258 [] []) none 0 none 0 w1 (by decide) (rep_nil _ _ _ rfl rfl) right258).mono ?_
  rintro e w2 ⟨A2, c2, rfl, hb2, hc2, hB2⟩
  rw [enc258] at hb2 hc2 ⊢
  have hB3 := hB1.trans (hB2.mono hB1.size)
  go_wp2_with fail
  refine (of_any none 0 0 _).mono ?_
  rintro e w3 ⟨rfl, hB4⟩
  go_wp2_with fail
  refine (encode_yes (.mk 3 0 [] []) none 0 none 0 w3 (by decide) (rep_nil _ _ _ rfl rfl) rightE).mono ?_
  rintro e w4 ⟨A4, c4, rfl, hb4, hc4, hB5⟩
  rw [encE] at hb4 hc4 ⊢
  have hB6 := hB4.trans (hB5.mono hB4.size)
  have hB7 := hB3.trans (hB6.mono hB3.size)
  have hb2' := hb2.1.below hB6
  go_wp2_with fail
  refine (same_yes [1, 2, 1, 2] A2 (some ⟨w4.heap.size, 0, none⟩) 4 4 c2 4 _ rfl rfl (by omega) (hb2'.alloc _) (Byt.of_block (heap_alloc_new w4 _) rfl)).mono ?_
  rintro e w5 ⟨rfl, k1, rfl⟩
  go_wp2_with fail
  refine (same_yes [3, 0, 0] A4 (some ⟨w4.heap.size + 1, 0, none⟩) 3 3 c4 3 _ rfl rfl (by omega) (((hb4.1.alloc _).drewN k1).alloc _) (byt_new (by simp) rfl)).mono ?_
  rintro e w6 ⟨rfl, k2, rfl⟩
  go_wp2_with fail
  go_ret
  exact ⟨rfl, World.drewN_below ((World.drewN_below (hB7.alloc hB7.size _) k1).alloc (by have := hB7.size; simp; omega) _) k2⟩
end Go.Proofs.Ytimdogdplphmoaa
