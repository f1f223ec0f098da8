/-
  The walk of the law 'CodecEncodes': whatever the value, it returns true and changes nothing that was there.
-/
import Derived.Test.YtimdogdplphmoaaAwake02
namespace Go.Proofs.Ytimdogdplphmoaa
open Go.RowKit

theorem step_box {w w1 w2 : World} {o : Obj} (h : Below (w.heap.size + 1) (w.alloc o) w1) (h2 : Below w1.heap.size w1 w2) : Below (w.heap.size + 1) (w.alloc o) w2 :=
  h.trans (h2.mono (by have := h.size; simpa using this))

set_option maxHeartbeats 4000000 in
theorem encodes_walk (v : V) (A : Option Addr) (cb : Nat) (A' : Option Addr) (cl : Nat) (w : World) (hr : Rep w v A cb A' cl) :
    Calls Try.prog 4 #[vv v A cb A' cl] w fun e w' => e = .returned (.bool true) ∧ Below w.heap.size w w' := by
  cases hf : few v with
  | false =>
    have HF := Lib.hid hf
    clear hf
    go_enter Try.func4, Try.ntmps4
    go_wp2_with fail
    refine (awake_any _).mono ?_
    rintro e w1 ⟨rfl, hB1⟩
    simp only [World.size_alloc] at hB1
    obtain ⟨q0, q1, q2, q3⟩ := box4 hB1
    go_wp2_with fail
    refine (few_any v A cb A' cl w1 (hr.below (unbox hB1))).mono ?_
    rintro e w2 ⟨rfl, hB2⟩
    rw [HF.out]
    go_wp2_with fail
    go_ret
    exact ⟨rfl, unbox (step_box hB1 hB2)⟩
  | true =>
    have hwt := few_wt hf
    have HF := Lib.hid hf
    clear hf
    have hht := V.ht_le_wt v
    have hdh := V.deep_le_ht _ v (Nat.le_refl _)
    cases hv : v.right with
    | false =>
      have HV := Lib.hid hv
      have HZ : Hid (V.sizeF v = none) := by show _ = _; rw [V.sizeF_eq, if_neg (by rw [hv]; decide)]
      have henc := fun w' hr' => encode_no v A cb A' cl w' (by omega) hr' hv
      have HENC := Lib.hid henc
      clear henc hv
      go_enter Try.func4, Try.ntmps4
      go_wp2_with fail
      refine (awake_any _).mono ?_
      rintro e w1 ⟨rfl, hB1⟩
      simp only [World.size_alloc] at hB1
      obtain ⟨q0, q1, q2, q3⟩ := box4 hB1
      go_wp2_with fail
      refine (few_any v A cb A' cl w1 (hr.below (unbox hB1))).mono ?_
      rintro e w2 ⟨rfl, hB2⟩
      rw [HF.out]
      have hB3 := step_box hB1 hB2
      clear q0 q1 q2 q3 hB1 hB2
      obtain ⟨q0, q1, q2, q3⟩ := box4 hB3
      go_wp2_with fail
      refine (size_any v A cb A' cl w2 (by omega) (hr.below (unbox hB3))).mono ?_
      rintro e w3 ⟨rfl, hB4⟩
      rw [HZ.out]
      unfold sizeV
      simp only [Option.getD_none, Option.isSome_none]
      have hB5 := step_box hB3 hB4
      clear q0 q1 q2 q3 hB3 hB4
      obtain ⟨q0, q1, q2, q3⟩ := box4 hB5
      go_wp2_with fail
      refine (HENC.out w3 (hr.below (unbox hB5))).mono ?_
      rintro e w4 ⟨rfl, hB6⟩
      have hB7 := step_box hB5 hB6
      clear q0 q1 q2 q3 hB5 hB6
      obtain ⟨q0, q1, q2, q3⟩ := box4 hB7
      have hmin : (if (17 : Int) < (v.deep : Int) then (17 : Int) else (v.deep : Int)) = ((min v.deep 17 : Nat) : Int) := by
        by_cases h : 17 < v.deep
        · rw [if_pos (by omega), Nat.min_eq_right (by omega)]; rfl
        · rw [if_neg (by omega), Nat.min_eq_left (by omega)]
      have HX : Hid (min v.deep 17 = min v.deep 17) := rfl
      generalize hmx : min v.deep 17 = X at *
      have HMX := Lib.hid hmx
      clear hmx
      go_wp2_with fail
      go_region_held3 (fun w' => w'.cell? ⟨w.heap.size, 0, none⟩ = some (.int .i64 v.k) ∧ w'.cell? ⟨w.heap.size, 1, none⟩ = some (.int .i64 v.n) ∧ w'.cell? ⟨w.heap.size, 2, none⟩ = some (.slice A v.b.length cb) ∧ w'.cell? ⟨w.heap.size, 3, none⟩ = some (.slice A' v.l.length cl))
        (first | exact box4 hB7 | exact box4 hB7.drew | exact box4 hB9 | exact box4 hB11)
        (first
          | (go_at_call 12; with_reducible refine (codecDepth_any v A cb A' cl _ (by omega) (hr.below (unbox hB7)).drew).mono ?_; rintro e w5 ⟨rfl, hB8⟩; rw [HMX.out]; have hB9 := step_box hB7.drew hB8)
          | (go_at_call 13; with_reducible refine (rdeep_any v.ht v A cb A' cl w5 (Nat.le_refl _) (by omega) (hr.below (unbox hB9))).mono ?_; rintro e w6 ⟨rfl, hB10⟩; have hB11 := step_box hB9 hB10))
      go_wp2_with fail
      refine (rright_any v A cb A' cl w6 (by omega) (hr.below (unbox hB11))).mono ?_
      rintro e w7 ⟨rfl, hB12⟩
      rw [HV.out]
      have hB13 := step_box hB11 hB12
      clear q0 q1 q2 q3
      obtain ⟨q0, q1, q2, q3⟩ := box4 hB13
      go_wp2_with fail
      go_ret
      exact ⟨rfl, unbox hB13⟩
    | true =>
      have HV := Lib.hid hv
      obtain ⟨hpu, _, hsz⟩ := right_parts hv
      have HP := Lib.hid hpu
      have HZ : Hid (V.sizeF v = some v.sz) := by show _ = _; rw [V.sizeF_eq, if_pos hv]
      have hl := V.enc_length v
      have henc := fun w' hr' => encode_yes v A cb A' cl w' (by omega) hr' hv
      have HENC := Lib.hid henc
      have HBY := Lib.hid (fun w' hr' => rbytes_any v.ht v A cb A' cl w' (Nat.le_refl _) (by omega) hpu hr')
      clear henc hv hpu
      generalize hen : V.enc v = en at *
      clear hen
      go_enter Try.func4, Try.ntmps4
      go_wp2_with fail
      refine (awake_any _).mono ?_
      rintro e w1 ⟨rfl, hB1⟩
      simp only [World.size_alloc] at hB1
      obtain ⟨q0, q1, q2, q3⟩ := box4 hB1
      go_wp2_with fail
      refine (few_any v A cb A' cl w1 (hr.below (unbox hB1))).mono ?_
      rintro e w2 ⟨rfl, hB2⟩
      rw [HF.out]
      have hB3 := step_box hB1 hB2
      clear q0 q1 q2 q3 hB1 hB2
      obtain ⟨q0, q1, q2, q3⟩ := box4 hB3
      go_wp2_with fail
      refine (size_any v A cb A' cl w2 (by omega) (hr.below (unbox hB3))).mono ?_
      rintro e w3 ⟨rfl, hB4⟩
      rw [HZ.out]
      unfold sizeV
      simp only [Option.getD_some, Option.isSome_some]
      have hB5 := step_box hB3 hB4
      clear q0 q1 q2 q3 hB3 hB4
      obtain ⟨q0, q1, q2, q3⟩ := box4 hB5
      go_wp2_with fail
      refine (HENC.out w3 (hr.below (unbox hB5))).mono ?_
      rintro e w4 ⟨A2, c2, rfl, hN2, hc2, hB6⟩
      have hB7 := step_box hB5 hB6
      clear q0 q1 q2 q3 hB5 hB6
      obtain ⟨q0, q1, q2, q3⟩ := box4 hB7
      have hmin : (if (17 : Int) < (v.deep : Int) then (17 : Int) else (v.deep : Int)) = ((min v.deep 17 : Nat) : Int) := by
        by_cases h : 17 < v.deep
        · rw [if_pos (by omega), Nat.min_eq_right (by omega)]; rfl
        · rw [if_neg (by omega), Nat.min_eq_left (by omega)]
      have HX : Hid (min v.deep 17 = min v.deep 17) := rfl
      generalize hmx : min v.deep 17 = X at *
      have HMX := Lib.hid hmx
      clear hmx
      go_wp2_with fail
      go_region_held3 (fun w' => w'.cell? ⟨w.heap.size, 0, none⟩ = some (.int .i64 v.k) ∧ w'.cell? ⟨w.heap.size, 1, none⟩ = some (.int .i64 v.n) ∧ w'.cell? ⟨w.heap.size, 2, none⟩ = some (.slice A v.b.length cb) ∧ w'.cell? ⟨w.heap.size, 3, none⟩ = some (.slice A' v.l.length cl))
        (first | exact box4 hB7 | exact box4 hB7.drew | exact box4 hB9 | exact box4 hB11)
        (first
          | (go_at_call 12; with_reducible refine (codecDepth_any v A cb A' cl _ (by omega) (hr.below (unbox hB7)).drew).mono ?_; rintro e w5 ⟨rfl, hB8⟩; rw [HMX.out]; have hB9 := step_box hB7.drew hB8)
          | (go_at_call 13; with_reducible refine (rdeep_any v.ht v A cb A' cl w5 (Nat.le_refl _) (by omega) (hr.below (unbox hB9))).mono ?_; rintro e w6 ⟨rfl, hB10⟩; have hB11 := step_box hB9 hB10))
      go_wp2_with fail
      refine (rright_any v A cb A' cl w6 (by omega) (hr.below (unbox hB11))).mono ?_
      rintro e w7 ⟨rfl, hB12⟩
      rw [HV.out]
      have hB13 := step_box hB11 hB12
      clear q0 q1 q2 q3
      obtain ⟨q0, q1, q2, q3⟩ := box4 hB13
      go_wp2_with fail
      refine (HBY.out w7 (hr.below (unbox hB13))).mono ?_
      rintro e w8 ⟨A3, c3, rfl, hN3, hc3, hB14⟩
      go_wp2_with fail
      refine (same_yes en A2 A3 v.sz v.sz c2 c3 w8 hl hl (by omega) (((((hN2.1.drewN 1).below hB8).below hB10).below hB12).below hB14) hN3.1).mono ?_
      rintro e w9 ⟨rfl, k, rfl⟩
      go_wp2_with fail
      go_ret
      exact ⟨rfl, World.drewN_below (unbox (step_box hB13 hB14)) k⟩
end Go.Proofs.Ytimdogdplphmoaa
