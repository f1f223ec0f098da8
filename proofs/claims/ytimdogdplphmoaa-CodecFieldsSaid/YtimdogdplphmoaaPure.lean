/-
  The contract of codec's pure.
-/
import Derived.Test.YtimdogdplphmoaaEnc
import Derived.Test.YtimdogdplphmoaaPlain
namespace Go.Proofs.Ytimdogdplphmoaa
open Go.RowKit

set_option maxHeartbeats 1000000 in
theorem pure_p1a (v : V) (A : Option Addr) (cb : Nat) (A' : Option Addr) (cl : Nat) (w : World) (h0 : (v.k == 1) = true) (h1 : v.n < 0) :
    Calls Try.prog 31 #[vv v A cb A' cl] w fun e w' => e = .returned (.bool false) ∧ Below w.heap.size w w' := by
  go_enter Try.func31, Try.ntmps31
  go_wp2_with fail
  go_quiet (fail)
  go_wp2_with fail
  all_goals
    go_ret
    exact ⟨rfl, World.drewN_below ((Below.refl _ _).alloc (Nat.le_refl _) _) _⟩

set_option maxHeartbeats 1000000 in
theorem pure_p1b (v : V) (A : Option Addr) (cb : Nat) (A' : Option Addr) (cl : Nat) (w : World) (h0 : (v.k == 1) = true) (h1 : 0 ≤ v.n) (h2 : 4611686018427387904 < v.n) :
    Calls Try.prog 31 #[vv v A cb A' cl] w fun e w' => e = .returned (.bool false) ∧ Below w.heap.size w w' := by
  go_enter Try.func31, Try.ntmps31
  go_wp2_with fail
  go_quiet (fail)
  go_wp2_with fail
  all_goals
    go_ret
    exact ⟨rfl, World.drewN_below ((Below.refl _ _).alloc (Nat.le_refl _) _) _⟩

set_option maxHeartbeats 1000000 in
theorem pure_p1c (v : V) (A : Option Addr) (cb : Nat) (A' : Option Addr) (cl : Nat) (w : World) (h0 : (v.k == 1) = true) (h1 : 0 ≤ v.n) (h2 : v.n ≤ 4611686018427387904) (h3 : ((v.b.length : Int) == 0) = false) :
    Calls Try.prog 31 #[vv v A cb A' cl] w fun e w' => e = .returned (.bool false) ∧ Below w.heap.size w w' := by
  go_enter Try.func31, Try.ntmps31
  go_wp2_with fail
  go_quiet (fail)
  go_wp2_with fail
  all_goals
    go_ret
    exact ⟨rfl, World.drewN_below ((Below.refl _ _).alloc (Nat.le_refl _) _) _⟩

set_option maxHeartbeats 1000000 in
theorem pure_p1d (v : V) (A : Option Addr) (cb : Nat) (A' : Option Addr) (cl : Nat) (w : World) (h0 : (v.k == 1) = true) (h1 : 0 ≤ v.n) (h2 : v.n ≤ 4611686018427387904) (h3 : ((v.b.length : Int) == 0) = true) (h4 : ((v.l.length : Int) == 0) = false) :
    Calls Try.prog 31 #[vv v A cb A' cl] w fun e w' => e = .returned (.bool false) ∧ Below w.heap.size w w' := by
  go_enter Try.func31, Try.ntmps31
  go_wp2_with fail
  go_quiet (fail)
  go_wp2_with fail
  all_goals
    go_ret
    exact ⟨rfl, World.drewN_below ((Below.refl _ _).alloc (Nat.le_refl _) _) _⟩

set_option maxHeartbeats 1000000 in
theorem pure_p1t (v : V) (A : Option Addr) (cb : Nat) (A' : Option Addr) (cl : Nat) (w : World) (h0 : (v.k == 1) = true) (h1 : 0 ≤ v.n) (h2 : v.n ≤ 4611686018427387904) (h3 : ((v.b.length : Int) == 0) = true) (h4 : ((v.l.length : Int) == 0) = true) :
    Calls Try.prog 31 #[vv v A cb A' cl] w fun e w' => e = .returned (.bool true) ∧ Below w.heap.size w w' := by
  go_enter Try.func31, Try.ntmps31
  go_wp2_with fail
  go_quiet (fail)
  go_wp2_with fail
  all_goals
    go_ret
    exact ⟨rfl, World.drewN_below ((Below.refl _ _).alloc (Nat.le_refl _) _) _⟩

set_option maxHeartbeats 1000000 in
theorem pure_p2a (v : V) (A : Option Addr) (cb : Nat) (A' : Option Addr) (cl : Nat) (w : World) (h0 : (v.k == 1) = false) (h1 : (v.k == 2) = true) (h2 : (v.n == 0) = false) :
    Calls Try.prog 31 #[vv v A cb A' cl] w fun e w' => e = .returned (.bool false) ∧ Below w.heap.size w w' := by
  go_enter Try.func31, Try.ntmps31
  go_wp2_with fail
  go_quiet (fail)
  go_wp2_with fail
  all_goals
    go_ret
    exact ⟨rfl, World.drewN_below ((Below.refl _ _).alloc (Nat.le_refl _) _) _⟩

set_option maxHeartbeats 1000000 in
theorem pure_p2b (v : V) (A : Option Addr) (cb : Nat) (A' : Option Addr) (cl : Nat) (w : World) (h0 : (v.k == 1) = false) (h1 : (v.k == 2) = true) (h2 : (v.n == 0) = true) (h3 : 1048576 < v.b.length) :
    Calls Try.prog 31 #[vv v A cb A' cl] w fun e w' => e = .returned (.bool false) ∧ Below w.heap.size w w' := by
  go_enter Try.func31, Try.ntmps31
  go_wp2_with fail
  go_quiet (fail)
  go_wp2_with fail
  all_goals
    go_ret
    exact ⟨rfl, World.drewN_below ((Below.refl _ _).alloc (Nat.le_refl _) _) _⟩

set_option maxHeartbeats 1000000 in
theorem pure_p2c (v : V) (A : Option Addr) (cb : Nat) (A' : Option Addr) (cl : Nat) (w : World) (h0 : (v.k == 1) = false) (h1 : (v.k == 2) = true) (h2 : (v.n == 0) = true) (h3 : v.b.length ≤ 1048576) (h4 : ((v.l.length : Int) == 0) = false) :
    Calls Try.prog 31 #[vv v A cb A' cl] w fun e w' => e = .returned (.bool false) ∧ Below w.heap.size w w' := by
  go_enter Try.func31, Try.ntmps31
  go_wp2_with fail
  go_quiet (fail)
  go_wp2_with fail
  all_goals
    go_ret
    exact ⟨rfl, World.drewN_below ((Below.refl _ _).alloc (Nat.le_refl _) _) _⟩

set_option maxHeartbeats 1000000 in
theorem pure_p2t (v : V) (A : Option Addr) (cb : Nat) (A' : Option Addr) (cl : Nat) (w : World) (h0 : (v.k == 1) = false) (h1 : (v.k == 2) = true) (h2 : (v.n == 0) = true) (h3 : v.b.length ≤ 1048576) (h4 : ((v.l.length : Int) == 0) = true) :
    Calls Try.prog 31 #[vv v A cb A' cl] w fun e w' => e = .returned (.bool true) ∧ Below w.heap.size w w' := by
  go_enter Try.func31, Try.ntmps31
  go_wp2_with fail
  go_quiet (fail)
  go_wp2_with fail
  all_goals
    go_ret
    exact ⟨rfl, World.drewN_below ((Below.refl _ _).alloc (Nat.le_refl _) _) _⟩

set_option maxHeartbeats 1000000 in
theorem pure_p3a (v : V) (A : Option Addr) (cb : Nat) (A' : Option Addr) (cl : Nat) (w : World) (h0 : (v.k == 1) = false) (h1 : (v.k == 2) = false) (h2 : (v.k == 3) = true) (h3 : (v.n == 0) = false) :
    Calls Try.prog 31 #[vv v A cb A' cl] w fun e w' => e = .returned (.bool false) ∧ Below w.heap.size w w' := by
  go_enter Try.func31, Try.ntmps31
  go_wp2_with fail
  go_quiet (fail)
  go_wp2_with fail
  all_goals
    go_ret
    exact ⟨rfl, World.drewN_below ((Below.refl _ _).alloc (Nat.le_refl _) _) _⟩

set_option maxHeartbeats 1000000 in
theorem pure_p3b (v : V) (A : Option Addr) (cb : Nat) (A' : Option Addr) (cl : Nat) (w : World) (h0 : (v.k == 1) = false) (h1 : (v.k == 2) = false) (h2 : (v.k == 3) = true) (h3 : (v.n == 0) = true) (h4 : ((v.b.length : Int) == 0) = false) :
    Calls Try.prog 31 #[vv v A cb A' cl] w fun e w' => e = .returned (.bool false) ∧ Below w.heap.size w w' := by
  go_enter Try.func31, Try.ntmps31
  go_wp2_with fail
  go_quiet (fail)
  go_wp2_with fail
  all_goals
    go_ret
    exact ⟨rfl, World.drewN_below ((Below.refl _ _).alloc (Nat.le_refl _) _) _⟩

set_option maxHeartbeats 1000000 in
theorem pure_p3c (v : V) (A : Option Addr) (cb : Nat) (A' : Option Addr) (cl : Nat) (w : World) (h0 : (v.k == 1) = false) (h1 : (v.k == 2) = false) (h2 : (v.k == 3) = true) (h3 : (v.n == 0) = true) (h4 : ((v.b.length : Int) == 0) = true) (h5 : decide ((v.l.length : Int) ≤ 4096) = false) :
    Calls Try.prog 31 #[vv v A cb A' cl] w fun e w' => e = .returned (.bool false) ∧ Below w.heap.size w w' := by
  go_enter Try.func31, Try.ntmps31
  go_wp2_with fail
  go_quiet (fail)
  go_wp2_with fail
  all_goals
    go_ret
    exact ⟨rfl, World.drewN_below ((Below.refl _ _).alloc (Nat.le_refl _) _) _⟩

set_option maxHeartbeats 1000000 in
theorem pure_p3t (v : V) (A : Option Addr) (cb : Nat) (A' : Option Addr) (cl : Nat) (w : World) (h0 : (v.k == 1) = false) (h1 : (v.k == 2) = false) (h2 : (v.k == 3) = true) (h3 : (v.n == 0) = true) (h4 : ((v.b.length : Int) == 0) = true) (h5 : decide ((v.l.length : Int) ≤ 4096) = true) :
    Calls Try.prog 31 #[vv v A cb A' cl] w fun e w' => e = .returned (.bool true) ∧ Below w.heap.size w w' := by
  go_enter Try.func31, Try.ntmps31
  go_wp2_with fail
  go_quiet (fail)
  go_wp2_with fail
  all_goals
    go_ret
    exact ⟨rfl, World.drewN_below ((Below.refl _ _).alloc (Nat.le_refl _) _) _⟩

set_option maxHeartbeats 1000000 in
theorem pure_p4 (v : V) (A : Option Addr) (cb : Nat) (A' : Option Addr) (cl : Nat) (w : World) (h0 : (v.k == 1) = false) (h1 : (v.k == 2) = false) (h2 : (v.k == 3) = false) :
    Calls Try.prog 31 #[vv v A cb A' cl] w fun e w' => e = .returned (.bool false) ∧ Below w.heap.size w w' := by
  go_enter Try.func31, Try.ntmps31
  go_wp2_with fail
  go_quiet (fail)
  go_wp2_with fail
  all_goals
    go_ret
    exact ⟨rfl, World.drewN_below ((Below.refl _ _).alloc (Nat.le_refl _) _) _⟩


theorem pure_any (v : V) (A : Option Addr) (cb : Nat) (A' : Option Addr) (cl : Nat) (w : World) :
    Calls Try.prog 31 #[vv v A cb A' cl] w fun e w' => e = .returned (.bool v.pureB) ∧ Below w.heap.size w w' := by
  have be : ∀ b : List UInt8, (((b.length : Int) == 0) = true ↔ b = []) := fun b => by cases b <;> simp <;> omega
  have le : ∀ b : List V, (((b.length : Int) == 0) = true ↔ b = []) := fun b => by cases b <;> simp <;> omega
  have bt : ∀ b : Bool, ¬ b = true → b = false := fun b h => by cases b <;> simp_all
  by_cases k1 : v.k = 1
  · have e1 : (v.k == 1) = true := by simpa using k1
    by_cases a1 : 0 ≤ v.n
    · by_cases a2 : v.n ≤ 4611686018427387904
      · by_cases a3 : v.b = []
        · by_cases a4 : v.l = []
          · (rw [show v.pureB = true from by unfold V.pureB; simp [k1, a1, a2, a3, a4]]; exact pure_p1t v A cb A' cl w e1 a1 a2 ((be _).2 a3) ((le _).2 a4))
          · (rw [show v.pureB = false from by unfold V.pureB; simp [k1, a4]]; exact pure_p1d v A cb A' cl w e1 a1 a2 ((be _).2 a3) (bt _ (fun h => a4 ((le _).1 h))))
        · (rw [show v.pureB = false from by unfold V.pureB; simp [k1, a3]]; exact pure_p1c v A cb A' cl w e1 a1 a2 (bt _ (fun h => a3 ((be _).1 h))))
      · (rw [show v.pureB = false from by unfold V.pureB; simp [k1, a2]]; exact pure_p1b v A cb A' cl w e1 a1 (by omega))
    · (rw [show v.pureB = false from by unfold V.pureB; simp [k1, a1]]; exact pure_p1a v A cb A' cl w e1 (by omega))
  · have e1 : (v.k == 1) = false := by simpa using k1
    by_cases k2 : v.k = 2
    · have e2 : (v.k == 2) = true := by simpa using k2
      by_cases a1 : v.n = 0
      · have g1 : (v.n == 0) = true := by simpa using a1
        by_cases a2 : v.b.length ≤ 1048576
        · by_cases a3 : v.l = []
          · (rw [show v.pureB = true from by unfold V.pureB; simp [k2, a1, a2, a3]]; exact pure_p2t v A cb A' cl w e1 e2 g1 a2 ((le _).2 a3))
          · (rw [show v.pureB = false from by unfold V.pureB; simp [k2, a3]]; exact pure_p2c v A cb A' cl w e1 e2 g1 a2 (bt _ (fun h => a3 ((le _).1 h))))
        · (rw [show v.pureB = false from by unfold V.pureB; simp [k2, a2]]; exact pure_p2b v A cb A' cl w e1 e2 g1 (by omega))
      · (rw [show v.pureB = false from by unfold V.pureB; simp [k2, a1]]; exact pure_p2a v A cb A' cl w e1 e2 (by simpa using a1))
    · have e2 : (v.k == 2) = false := by simpa using k2
      by_cases k3 : v.k = 3
      · have e3 : (v.k == 3) = true := by simpa using k3
        by_cases a1 : v.n = 0
        · have g1 : (v.n == 0) = true := by simpa using a1
          by_cases a2 : v.b = []
          · by_cases a3 : v.l.length ≤ 4096
            · (rw [show v.pureB = true from by unfold V.pureB; simp [k3, a1, a2, a3]]; exact pure_p3t v A cb A' cl w e1 e2 e3 g1 ((be _).2 a2) (by simp; omega))
            · (rw [show v.pureB = false from by unfold V.pureB; simp [k3, a3]]; exact pure_p3c v A cb A' cl w e1 e2 e3 g1 ((be _).2 a2) (by simp; omega))
          · (rw [show v.pureB = false from by unfold V.pureB; simp [k3, a2]]; exact pure_p3b v A cb A' cl w e1 e2 e3 g1 (bt _ (fun h => a2 ((be _).1 h))))
        · (rw [show v.pureB = false from by unfold V.pureB; simp [k3, a1]]; exact pure_p3a v A cb A' cl w e1 e2 e3 (by simpa using a1))
      · have e3 : (v.k == 3) = false := by simpa using k3
        rw [show v.pureB = false from by unfold V.pureB; simp [k1, k2, k3]]
        exact pure_p4 v A cb A' cl w e1 e2 e3
end Go.Proofs.Ytimdogdplphmoaa
