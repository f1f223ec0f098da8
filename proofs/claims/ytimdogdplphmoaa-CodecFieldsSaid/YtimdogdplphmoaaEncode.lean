/-
  The contract of codec's Encode; of Num, Of; of the laws' parts and Few.
-/
import Derived.Test.YtimdogdplphmoaaPut
namespace Go.Proofs.Ytimdogdplphmoaa
open Go.RowKit

theorem right_parts {v : V} (h : v.right = true) : v.rpure = true ∧ v.deep ≤ 16 ∧ v.sz ≤ 1048576 := by
  unfold V.right at h
  simp at h
  exact ⟨h.1.1, h.1.2, h.2⟩

set_option maxHeartbeats 1000000 in
theorem encode_yes (v : V) (A : Option Addr) (cb : Nat) (A' : Option Addr) (cl : Nat) (w : World) (hwt : v.wt ≤ 1000000000) (hr : Rep w v A cb A' cl) (hv : v.right = true) :
    Calls Try.prog 11 #[vv v A cb A' cl] w (GivesBE (V.enc v) 0 w) := by
  have hs := size_any v A cb A' cl (w.alloc (.cells #[.int .i64 v.k, .int .i64 v.n, .slice A v.b.length cb, .slice A' v.l.length cl] 30)) (by omega) (hr.alloc _)
  rw [V.sizeF_eq, if_pos hv] at hs
  obtain ⟨hp, _, hsz⟩ := right_parts hv
  have HS := Lib.hid hs
  have HP := Lib.hid hp
  clear hs hv hp
  go_enter Try.func11, Try.ntmps11
  go_wp2_with fail
  refine HS.out.mono ?_
  rintro e w1 ⟨rfl, hB⟩
  simp only [World.size_alloc] at hB
  obtain ⟨q0, q1, q2, q3⟩ := box4 hB
  unfold sizeV
  simp only [Option.getD_some, Option.isSome_some]
  have hB1 := unbox hB
  have hs1 := hB1.size
  go_wp2_with fail
  refine (put_any_value w.heap.size w v.ht [] none 0 0 v A cb A' cl w1 (Nat.le_refl _) hwt HP.out hsz hs1 (Own.nil _ _ _ _) (by omega) hr (Nat.le_refl _) hB1).mono ?_
  rintro e w2 ⟨A2, c2, rfl, hO, hB2⟩
  rw [List.nil_append] at hO ⊢
  generalize hen : V.enc v = en at *
  have HEN := Lib.hid hen
  clear hen
  go_wp2_with fail
  go_ret2
  obtain ⟨a1, a2, a3⟩ := hO.byt
  exact ⟨A2, c2, rfl, a1, a3, hB1.trans hB2⟩

set_option maxHeartbeats 1000000 in
theorem encode_no (v : V) (A : Option Addr) (cb : Nat) (A' : Option Addr) (cl : Nat) (w : World) (hwt : v.wt ≤ 1000000000) (hr : Rep w v A cb A' cl) (hv : v.right = false) :
    Calls Try.prog 11 #[vv v A cb A' cl] w fun e w' => e = .returned (.tuple #[.slice none 0 0, .int .i64 2]) ∧ Below w.heap.size w w' := by
  have hs := size_any v A cb A' cl (w.alloc (.cells #[.int .i64 v.k, .int .i64 v.n, .slice A v.b.length cb, .slice A' v.l.length cl] 30)) (by omega) (hr.alloc _)
  rw [V.sizeF_eq, if_neg (by rw [hv]; decide)] at hs
  have HS := Lib.hid hs
  clear hs hv
  go_enter Try.func11, Try.ntmps11
  go_wp2_with fail
  refine HS.out.mono ?_
  rintro e w1 ⟨rfl, hB⟩
  simp only [World.size_alloc] at hB
  unfold sizeV
  simp only [Option.getD_none, Option.isSome_none]
  go_wp2_with fail
  go_ret2
  exact ⟨rfl, unbox hB⟩

namespace V
def num (n : Int) : V := .mk 1 n [] []
end V

set_option maxHeartbeats 1000000 in
theorem num_any (n : Int) (w : World) :
    Calls Try.prog 20 #[.int .i64 n] w fun e w' => e = .returned (.agg #[.int .i64 1, .int .i64 n, .slice none 0 0, .slice none 0 0]) ∧ Below w.heap.size w w' := by
  go_enter Try.func20, Try.ntmps20
  go_wp2_with fail
  exact bodyPost_ret (v := .agg #[.int .i64 1, .int .i64 n, .slice none 0 0, .slice none 0 0]) (by simp [results, Try.results20, go_sem]) rfl ⟨rfl, (Below.refl _ _).alloc (Nat.le_refl _) _⟩

set_option maxHeartbeats 1000000 in
theorem of_any (A' : Option Addr) (nl cl : Nat) (w : World) :
    Calls Try.prog 19 #[.slice A' nl cl] w fun e w' => e = .returned (.agg #[.int .i64 3, .int .i64 0, .slice none 0 0, .slice A' nl cl]) ∧ Below w.heap.size w w' := by
  go_enter Try.func19, Try.ntmps19
  go_wp2_with fail
  exact bodyPost_ret (v := .agg #[.int .i64 3, .int .i64 0, .slice none 0 0, .slice A' nl cl]) (by simp [results, Try.results19, go_sem]) rfl ⟨rfl, (Below.refl _ _).alloc (Nat.le_refl _) _⟩
end Go.Proofs.Ytimdogdplphmoaa
