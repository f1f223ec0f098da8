/-
  The contract of the document's Pure.
-/
import Derived.Test.YtimdogdplphmoaaSize
namespace Go.Proofs.Ytimdogdplphmoaa
open Go.RowKit

set_option maxHeartbeats 1000000 in
theorem rpure_p1a (v : V) (A : Option Addr) (cb : Nat) (A' : Option Addr) (cl : Nat) (w : World) (h0 : (v.k == 1) = true) (h1 : v.n < 0) :
    Calls Try.prog 27 #[vv v A cb A' cl] w fun e w' => e = .returned (.bool false) ∧ Below w.heap.size w w' := by
  go_enter Try.func27, Try.ntmps27
  go_wp2_with fail
  all_goals
    go_ret
    exact ⟨rfl, (Below.refl _ _).alloc (Nat.le_refl _) _⟩

set_option maxHeartbeats 1000000 in
theorem rpure_p1b (v : V) (A : Option Addr) (cb : Nat) (A' : Option Addr) (cl : Nat) (w : World) (h0 : (v.k == 1) = true) (h1 : 0 ≤ v.n) (h2 : 4611686018427387904 < v.n) :
    Calls Try.prog 27 #[vv v A cb A' cl] w fun e w' => e = .returned (.bool false) ∧ Below w.heap.size w w' := by
  go_enter Try.func27, Try.ntmps27
  go_wp2_with fail
  all_goals
    go_ret
    exact ⟨rfl, (Below.refl _ _).alloc (Nat.le_refl _) _⟩

set_option maxHeartbeats 1000000 in
theorem rpure_p1c (v : V) (A : Option Addr) (cb : Nat) (A' : Option Addr) (cl : Nat) (w : World) (h0 : (v.k == 1) = true) (h1 : 0 ≤ v.n) (h2 : v.n ≤ 4611686018427387904) (h3 : ((v.b.length : Int) == 0) = false) :
    Calls Try.prog 27 #[vv v A cb A' cl] w fun e w' => e = .returned (.bool false) ∧ Below w.heap.size w w' := by
  go_enter Try.func27, Try.ntmps27
  go_wp2_with fail
  all_goals
    go_ret
    exact ⟨rfl, (Below.refl _ _).alloc (Nat.le_refl _) _⟩

set_option maxHeartbeats 1000000 in
theorem rpure_p1d (v : V) (A : Option Addr) (cb : Nat) (A' : Option Addr) (cl : Nat) (w : World) (h0 : (v.k == 1) = true) (h1 : 0 ≤ v.n) (h2 : v.n ≤ 4611686018427387904) (h3 : ((v.b.length : Int) == 0) = true) (h4 : ((v.l.length : Int) == 0) = false) :
    Calls Try.prog 27 #[vv v A cb A' cl] w fun e w' => e = .returned (.bool false) ∧ Below w.heap.size w w' := by
  go_enter Try.func27, Try.ntmps27
  go_wp2_with fail
  all_goals
    go_ret
    exact ⟨rfl, (Below.refl _ _).alloc (Nat.le_refl _) _⟩

set_option maxHeartbeats 1000000 in
theorem rpure_p1t (v : V) (A : Option Addr) (cb : Nat) (A' : Option Addr) (cl : Nat) (w : World) (h0 : (v.k == 1) = true) (h1 : 0 ≤ v.n) (h2 : v.n ≤ 4611686018427387904) (h3 : ((v.b.length : Int) == 0) = true) (h4 : ((v.l.length : Int) == 0) = true) :
    Calls Try.prog 27 #[vv v A cb A' cl] w fun e w' => e = .returned (.bool true) ∧ Below w.heap.size w w' := by
  go_enter Try.func27, Try.ntmps27
  go_wp2_with fail
  all_goals
    go_ret
    exact ⟨rfl, (Below.refl _ _).alloc (Nat.le_refl _) _⟩

set_option maxHeartbeats 1000000 in
theorem rpure_p2a (v : V) (A : Option Addr) (cb : Nat) (A' : Option Addr) (cl : Nat) (w : World) (h0 : (v.k == 1) = false) (h1 : (v.k == 2) = true) (h2 : (v.n == 0) = false) :
    Calls Try.prog 27 #[vv v A cb A' cl] w fun e w' => e = .returned (.bool false) ∧ Below w.heap.size w w' := by
  go_enter Try.func27, Try.ntmps27
  go_wp2_with fail
  all_goals
    go_ret
    exact ⟨rfl, (Below.refl _ _).alloc (Nat.le_refl _) _⟩

set_option maxHeartbeats 1000000 in
theorem rpure_p2c (v : V) (A : Option Addr) (cb : Nat) (A' : Option Addr) (cl : Nat) (w : World) (h0 : (v.k == 1) = false) (h1 : (v.k == 2) = true) (h2 : (v.n == 0) = true) (h3 : ((v.l.length : Int) == 0) = false) :
    Calls Try.prog 27 #[vv v A cb A' cl] w fun e w' => e = .returned (.bool false) ∧ Below w.heap.size w w' := by
  go_enter Try.func27, Try.ntmps27
  go_wp2_with fail
  all_goals
    go_ret
    exact ⟨rfl, (Below.refl _ _).alloc (Nat.le_refl _) _⟩

set_option maxHeartbeats 1000000 in
theorem rpure_p2t (v : V) (A : Option Addr) (cb : Nat) (A' : Option Addr) (cl : Nat) (w : World) (h0 : (v.k == 1) = false) (h1 : (v.k == 2) = true) (h2 : (v.n == 0) = true) (h3 : ((v.l.length : Int) == 0) = true) :
    Calls Try.prog 27 #[vv v A cb A' cl] w fun e w' => e = .returned (.bool true) ∧ Below w.heap.size w w' := by
  go_enter Try.func27, Try.ntmps27
  go_wp2_with fail
  all_goals
    go_ret
    exact ⟨rfl, (Below.refl _ _).alloc (Nat.le_refl _) _⟩

set_option maxHeartbeats 1000000 in
theorem rpure_p3a (v : V) (A : Option Addr) (cb : Nat) (A' : Option Addr) (cl : Nat) (w : World) (h0 : (v.k == 1) = false) (h1 : (v.k == 2) = false) (h2 : (v.k != 3) = false) (h3 : (v.n != 0) = true) :
    Calls Try.prog 27 #[vv v A cb A' cl] w fun e w' => e = .returned (.bool false) ∧ Below w.heap.size w w' := by
  go_enter Try.func27, Try.ntmps27
  go_wp2_with fail
  all_goals
    go_ret
    exact ⟨rfl, (Below.refl _ _).alloc (Nat.le_refl _) _⟩

set_option maxHeartbeats 1000000 in
theorem rpure_p3b (v : V) (A : Option Addr) (cb : Nat) (A' : Option Addr) (cl : Nat) (w : World) (h0 : (v.k == 1) = false) (h1 : (v.k == 2) = false) (h2 : (v.k != 3) = false) (h3 : (v.n != 0) = false) (h4 : ((v.b.length : Int) != 0) = true) :
    Calls Try.prog 27 #[vv v A cb A' cl] w fun e w' => e = .returned (.bool false) ∧ Below w.heap.size w w' := by
  go_enter Try.func27, Try.ntmps27
  go_wp2_with fail
  all_goals
    go_ret
    exact ⟨rfl, (Below.refl _ _).alloc (Nat.le_refl _) _⟩

set_option maxHeartbeats 1000000 in
theorem rpure_p3c (v : V) (A : Option Addr) (cb : Nat) (A' : Option Addr) (cl : Nat) (w : World) (h0 : (v.k == 1) = false) (h1 : (v.k == 2) = false) (h2 : (v.k != 3) = false) (h3 : (v.n != 0) = false) (h4 : ((v.b.length : Int) != 0) = false) (h5 : (4096 : Int) < v.l.length) :
    Calls Try.prog 27 #[vv v A cb A' cl] w fun e w' => e = .returned (.bool false) ∧ Below w.heap.size w w' := by
  go_enter Try.func27, Try.ntmps27
  go_wp2_with fail
  all_goals
    go_ret
    exact ⟨rfl, (Below.refl _ _).alloc (Nat.le_refl _) _⟩

set_option maxHeartbeats 1000000 in
theorem rpure_p4 (v : V) (A : Option Addr) (cb : Nat) (A' : Option Addr) (cl : Nat) (w : World) (h0 : (v.k == 1) = false) (h1 : (v.k == 2) = false) (h2 : (v.k != 3) = true) :
    Calls Try.prog 27 #[vv v A cb A' cl] w fun e w' => e = .returned (.bool false) ∧ Below w.heap.size w w' := by
  go_enter Try.func27, Try.ntmps27
  go_wp2_with fail
  all_goals
    go_ret
    exact ⟨rfl, (Below.refl _ _).alloc (Nat.le_refl _) _⟩


theorem rpure_flat_no {v : V} (h : v.flat = false) : v.rpure = false := by rw [V.rpure_eq, h]; rfl

set_option maxHeartbeats 2000000 in
theorem rpure_any : ∀ (d : Nat) (v : V) (A : Option Addr) (cb : Nat) (A' : Option Addr) (cl : Nat) (w : World), v.ht ≤ d → v.wt ≤ 1000000000000 → Rep w v A cb A' cl →
    Calls Try.prog 27 #[vv v A cb A' cl] w fun e w' => e = .returned (.bool v.rpure) ∧ Below w.heap.size w w' := by
  have be : ∀ b : List UInt8, (((b.length : Int) == 0) = true ↔ b = []) := fun b => by cases b <;> simp <;> omega
  have le : ∀ b : List V, (((b.length : Int) == 0) = true ↔ b = []) := fun b => by cases b <;> simp <;> omega
  have bt : ∀ b : Bool, ¬ b = true → b = false := fun b h => by cases b <;> simp_all
  intro d
  induction d with
  | zero => intro v _ _ _ _ _ hd; exact absurd (V.ht_pos v) (by omega)
  | succ d ih =>
    intro v A cb A' cl w hd hwt hr
    by_cases k1 : v.k = 1
    · have e1 : (v.k == 1) = true := by simpa using k1
      by_cases a1 : 0 ≤ v.n
      · by_cases a2 : v.n ≤ 4611686018427387904
        · by_cases a3 : v.b = []
          · by_cases a4 : v.l = []
            · rw [show v.rpure = true from by rw [V.rpure_eq, V.flat]; simp [k1, a1, a2, a3, a4]]
              exact rpure_p1t v A cb A' cl w e1 a1 a2 ((be _).2 a3) ((le _).2 a4)
            · rw [rpure_flat_no (by rw [V.flat]; simp [k1, a4])]
              exact rpure_p1d v A cb A' cl w e1 a1 a2 ((be _).2 a3) (bt _ (fun h => a4 ((le _).1 h)))
          · rw [rpure_flat_no (by rw [V.flat]; simp [k1, a3])]
            exact rpure_p1c v A cb A' cl w e1 a1 a2 (bt _ (fun h => a3 ((be _).1 h)))
        · rw [rpure_flat_no (by rw [V.flat]; simp [k1, a2])]
          exact rpure_p1b v A cb A' cl w e1 a1 (by omega)
      · rw [rpure_flat_no (by rw [V.flat]; simp [k1, a1])]
        exact rpure_p1a v A cb A' cl w e1 (by omega)
    · have e1 : (v.k == 1) = false := by simpa using k1
      by_cases k2 : v.k = 2
      · have e2 : (v.k == 2) = true := by simpa using k2
        by_cases a1 : v.n = 0
        · have g1 : (v.n == 0) = true := by simpa using a1
          by_cases a3 : v.l = []
          · rw [show v.rpure = true from by rw [V.rpure_eq, V.flat]; simp [k2, a1, a3]]
            exact rpure_p2t v A cb A' cl w e1 e2 g1 ((le _).2 a3)
          · rw [rpure_flat_no (by rw [V.flat]; simp [k2, a3])]
            exact rpure_p2c v A cb A' cl w e1 e2 g1 (bt _ (fun h => a3 ((le _).1 h)))
        · rw [rpure_flat_no (by rw [V.flat]; simp [k2, a1])]
          exact rpure_p2a v A cb A' cl w e1 e2 (by simpa using a1)
      · have e2 : (v.k == 2) = false := by simpa using k2
        by_cases k3 : v.k = 3
        · have e3 : (v.k != 3) = false := by simpa using k3
          by_cases a1 : v.n = 0
          · have g1 : (v.n != 0) = false := by simpa using a1
            by_cases a2 : v.b = []
            · have g2 : ((v.b.length : Int) != 0) = false := by rw [a2]; rfl
              by_cases a3 : v.l.length ≤ 4096
              · have HP : Hid (v.rpure = V.rpure.all v.l) := by show _ = _; rw [V.rpure_eq, V.flat]; simp [k3, a1, a2, a3]
                have g3 : (v.l.length : Int) ≤ 4096 := by omega
                clear be le bt k1 k2 k3 a1 a2
                go_enter Try.func27, Try.ntmps27
                go_wp2_with fail
                go_loopw [3] (fun i wr => ∃ k : Nat, k ≤ v.l.length ∧ i = .int .i64 k ∧ Hid (V.rpure.all (v.l.drop k) = V.rpure.all v.l) ∧
                    Below (w.heap.size + 1) (w.alloc (.cells #[.int .i64 v.k, .int .i64 v.n, .slice A v.b.length cb, .slice A' v.l.length cl] 30)) wr) (fun i _ => v.l.length - (intOf i).toNat)
                case atStart => exact ⟨0, Nat.zero_le _, rfl, rfl, Below.refl _ _⟩
                case round =>
                  obtain ⟨k, hk, rfl, HI, hB⟩ := hrel
                  obtain ⟨q0, q1, q2, q3⟩ := box4 hB
                  by_cases hlt : k < v.l.length
                  · obtain ⟨g, o, B, c1, B', c2, rfl, h0, h1, h2, h3, hri⟩ := (hr.below (unbox hB)).item hlt
                    have hx := List.getElem_mem hlt
                    have hxw := v.wt_item _ hx
                    have hxh := v.ht_item _ hx
                    have HN : Hid (V.rpure.all (v.l.drop k) = (v.l[k].rpure && V.rpure.all (v.l.drop (k + 1)))) := by show _ = _; rw [List.drop_eq_getElem_cons hlt, V.rpure.all]
                    generalize v.l[k] = x at *
                    clear hx
                    have hcall := ih x B c1 B' c2 wr (by omega) (by omega) hri
                    cases hp : x.rpure
                    · rw [hp] at hcall
                      have HX := Lib.hid hp
                      have HC := Lib.hid hcall
                      clear hp hcall
                      go_wp2_with fail
                      refine HC.out.mono ?_
                      rintro e w2 ⟨rfl, hB2⟩
                      go_wp2_with fail
                      go_ret
                      exact ⟨ret_bool (by rw [HP.out, ← HI.out, HN.out, HX.out]; rfl), unbox (hB.trans (hB2.mono (by have := hB.size; simpa using this)))⟩
                    · rw [hp] at hcall
                      have HX := Lib.hid hp
                      have HC := Lib.hid hcall
                      clear hp hcall
                      go_wp2_with fail
                      refine HC.out.mono ?_
                      rintro e w2 ⟨rfl, hB2⟩
                      go_wp2_with fail
                      go_roundw
                      case rel => exact ⟨k + 1, by omega, by go_num, by show _ = _; rw [← HI.out, HN.out, HX.out]; rfl, hB.trans (hB2.mono (by have := hB.size; simpa using this))⟩
                      case measure => simp [intOf]; omega
                  · have hdr : v.l.drop k = [] := List.drop_of_length_le (by omega)
                    have HE : Hid (v.rpure = true) := by show _ = _; rw [HP.out, ← HI.out, hdr, V.rpure.all]
                    clear hdr HI HP
                    go_wp2_with fail
                    go_ret
                    exact ⟨ret_bool HE.out.symm, unbox hB⟩
              · rw [rpure_flat_no (by rw [V.flat]; simp [k3, a3])]
                exact rpure_p3c v A cb A' cl w e1 e2 e3 g1 g2 (by omega)
            · rw [rpure_flat_no (by rw [V.flat]; simp [k3, a2])]
              exact rpure_p3b v A cb A' cl w e1 e2 e3 g1 (by rw [bne_iff_ne]; cases h : v.b with | nil => exact absurd h a2 | cons x r => simp; omega)
          · rw [rpure_flat_no (by rw [V.flat]; simp [k3, a1])]
            exact rpure_p3a v A cb A' cl w e1 e2 e3 (by simpa using a1)
        · rw [rpure_flat_no (by rw [V.flat]; simp [k1, k2, k3])]
          exact rpure_p4 v A cb A' cl w e1 e2 (by simpa using k3)
end Go.Proofs.Ytimdogdplphmoaa
