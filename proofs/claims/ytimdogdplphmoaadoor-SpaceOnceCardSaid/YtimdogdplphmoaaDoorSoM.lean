/-
  Models of functions: printed by a program of this claim's own (gen.py) off the given translation.
-/
import Derived.Test.YtimdogdplphmoaaDoorTop
import Derived.Test.YtimdogdplphmoaaDoorMap
namespace Go.Proofs.YtimdogdplphmoaaDoor
open Go Go.RowKit
set_option linter.unusedVariables false
/-- bastille/bastillelaw19.SpaceOnce -/
def m_L19_SpaceOnce_j2 (i32 : Nat) (p0 : UInt8) (y36 : Hp) : Option (Bool × Hp) :=
Option.bind (m_space_Space_Free (some i32) y36) fun x37 =>
bif (x37.1 == (p0.toNat : Int)) then (Option.bind (m_space_Space_Top (some i32) x37.2) fun x40 =>
some ((x40.1 == (-1)), x40.2)) else (some (false, x37.2))

def m_L19_SpaceOnce_l3 (y34 : (List (List Int))) (i32 : Nat) (p0 : UInt8) : Nat → Int → Hp → Option (Bool × Hp)
  | 0, _, _ => none
  | nl3 + 1, z42, z43 =>
    bif (decide (z42 < (y34.length : Int))) then (Option.bind (idx y34 z42) fun x45 =>
    Option.bind (m_space_Space_Give (some i32) x45 z43) fun x47 =>
    bif (x47.1 != 0) then (some (false, x47.2)) else ((m_L19_SpaceOnce_l3 y34 i32 p0 nl3) (wi (z42 + 1)) x47.2)) else (m_L19_SpaceOnce_j2 i32 p0 z43)

def m_L19_SpaceOnce_j1 (i32 : Nat) (p0 : UInt8) (y34 : (List (List Int))) (y35 : Hp) : Option (Bool × Hp) :=
m_L19_SpaceOnce_l3 y34 i32 p0 (y34.length + 1) 0 y35

def m_L19_SpaceOnce_j5 (kl4 : Int → (List (Int × Int)) → (List (List Int)) → Hp → Option (Bool × Hp)) (i32 : Nat) (p0 : UInt8) (z50 : Int) (y57 : (List (Int × Int))) (y58 : (List (List Int))) (y59 : Hp) : Option (Bool × Hp) :=
Option.bind (m_space_Space_Free (some i32) y59) fun x60 =>
bif (x60.1 != (wi ((p0.toNat : Int) - (y57.length : Int)))) then (some (false, x60.2)) else (kl4 (wi (z50 + 1)) y57 y58 x60.2)

def m_L19_SpaceOnce_j6 (kl4 : Int → (List (Int × Int)) → (List (List Int)) → Hp → Option (Bool × Hp)) (z52 : (List (List Int))) (x64 : ((List Int) × Int × Hp)) (i32 : Nat) (p0 : UInt8) (z50 : Int) (y67 : (List (Int × Int))) (y68 : Hp) : Option (Bool × Hp) :=
Option.bind (appI 24 z52 [x64.1]) fun x69 =>
m_L19_SpaceOnce_j5 kl4 i32 p0 z50 y67 x69 y68

def m_L19_SpaceOnce_l8 (kl7 : Int → (List (Int × Int)) → Hp → Option (Bool × Hp)) (x75 : Int) (z72 : (List (Int × Int))) (z50 : Int) (x78 : (Bool × Hp)) (z71 : Int) : Nat → Int → Option (Bool × Hp)
  | 0, _ => none
  | nl8 + 1, z81 =>
    bif (decide (z81 < x75)) then (bif (((mfind (mset z72 x75 (wi (z50 + 1))) z81).getD (0 : Int)) == 0) then (some (false, x78.2)) else ((m_L19_SpaceOnce_l8 kl7 x75 z72 z50 x78 z71 nl8) (wi (z81 + 1)))) else (kl7 (wi (z71 + 1)) (mset z72 x75 (wi (z50 + 1))) x78.2)

def m_L19_SpaceOnce_l7 (kl4 : Int → (List (Int × Int)) → (List (List Int)) → Hp → Option (Bool × Hp)) (x64 : ((List Int) × Int × Hp)) (i32 : Nat) (z50 : Int) (z52 : (List (List Int))) (p0 : UInt8) : Nat → Int → (List (Int × Int)) → Hp → Option (Bool × Hp)
  | 0, _, _, _ => none
  | nl7 + 1, z71, z72, z73 =>
    bif (decide (z71 < (x64.1.length : Int))) then (Option.bind (idx x64.1 z71) fun x75 =>
    bif (decide (((mfind z72 x75).getD (0 : Int)) > 0)) then (some (false, z73)) else (Option.bind (m_space_Space_Has (some i32) x75 z73) fun x78 =>
    bif x78.1 then (some (false, x78.2)) else (m_L19_SpaceOnce_l8 (m_L19_SpaceOnce_l7 kl4 x64 i32 z50 z52 p0 nl7) x75 z72 z50 x78 z71 (Int.toNat x75 + 1) 0))) else (m_L19_SpaceOnce_j6 kl4 z52 x64 i32 p0 z50 z72 z73)

def m_L19_SpaceOnce_j9 (kl4 : Int → (List (Int × Int)) → (List (List Int)) → Hp → Option (Bool × Hp)) (z52 : (List (List Int))) (x55 : S_L19_Do) (i32 : Nat) (p0 : UInt8) (z50 : Int) (x97 : (Int × Hp)) (y100 : (List (Int × Int))) : Option (Bool × Hp) :=
Option.bind (idx z52 x55.N) fun x101 =>
m_L19_SpaceOnce_j5 kl4 i32 p0 z50 y100 (z52.set (Int.toNat x55.N) []) x97.2

def m_L19_SpaceOnce_l10 (kl4 : Int → (List (Int × Int)) → (List (List Int)) → Hp → Option (Bool × Hp)) (x103 : (List Int)) (z52 : (List (List Int))) (x55 : S_L19_Do) (i32 : Nat) (p0 : UInt8) (z50 : Int) (x97 : (Int × Hp)) : Nat → Int → (List (Int × Int)) → Option (Bool × Hp)
  | 0, _, _ => none
  | nl10 + 1, z105, z106 =>
    bif (decide (z105 < (x103.length : Int))) then (Option.bind (idx x103 z105) fun x108 =>
    (m_L19_SpaceOnce_l10 kl4 x103 z52 x55 i32 p0 z50 x97 nl10) (wi (z105 + 1)) (mdel z106 x108)) else (m_L19_SpaceOnce_j9 kl4 z52 x55 i32 p0 z50 x97 z106)

def m_L19_SpaceOnce_l4 (p1 : (List S_L19_Do)) (i32 : Nat) (p0 : UInt8) : Nat → Int → (List (Int × Int)) → (List (List Int)) → Hp → Option (Bool × Hp)
  | 0, _, _, _, _ => none
  | nl4 + 1, z50, z51, z52, z53 =>
    bif (decide (z50 < (p1.length : Int))) then (Option.bind (idx p1 z50) fun x55 =>
    bif (x55.Kind == 1) then (Option.bind (m_space_Space_Take (some i32) x55.N z53) fun x64 =>
    bif (x64.2.1 != 0) then ((m_L19_SpaceOnce_l4 p1 i32 p0 nl4) (wi (z50 + 1)) z51 z52 x64.2.2) else (m_L19_SpaceOnce_l7 (m_L19_SpaceOnce_l4 p1 i32 p0 nl4) x64 i32 z50 z52 p0 (x64.1.length + 1) 0 z51 x64.2.2)) else (bif (x55.Kind == 4) then (bif (decide (x55.N < 0)) then ((m_L19_SpaceOnce_l4 p1 i32 p0 nl4) (wi (z50 + 1)) z51 z52 z53) else (bif (decide (x55.N ≥ (z52.length : Int))) then ((m_L19_SpaceOnce_l4 p1 i32 p0 nl4) (wi (z50 + 1)) z51 z52 z53) else (Option.bind (idx z52 x55.N) fun x87 =>
    bif ((x87.length : Int) == 0) then ((m_L19_SpaceOnce_l4 p1 i32 p0 nl4) (wi (z50 + 1)) z51 z52 z53) else (Option.bind (idx z52 x55.N) fun x90 =>
    Option.bind (m_space_Space_Give (some i32) x90 z53) fun x92 =>
    bif (x92.1 != 0) then (some (false, x92.2)) else (Option.bind (idx z52 x55.N) fun x95 =>
    Option.bind (m_space_Space_Give (some i32) x95 x92.2) fun x97 =>
    bif (x97.1 != 2) then (some (false, x97.2)) else (Option.bind (idx z52 x55.N) fun x103 =>
    m_L19_SpaceOnce_l10 (m_L19_SpaceOnce_l4 p1 i32 p0 nl4) x103 z52 x55 i32 p0 z50 x97 (x103.length + 1) 0 z51)))))) else (m_L19_SpaceOnce_j5 (m_L19_SpaceOnce_l4 p1 i32 p0 nl4) i32 p0 z50 z51 z52 z53))) else (m_L19_SpaceOnce_j1 i32 p0 z52 z53)

def m_L19_SpaceOnce (p0 : UInt8) (p1 : (List S_L19_Do)) (w0 : Hp) : Option (Bool × Hp) :=
Option.bind (m_L19_awake w0) fun x1 =>
bif (!x1.1) then (some (false, x1.2)) else (Option.bind (m_space_Space_Take none 0 x1.2) fun x4 =>
bif (x4.2.1 != 1) then (some (false, x4.2.2)) else (Option.bind (m_space_Space_Claim none [] x4.2.2) fun x7 =>
bif (x7.1 != 1) then (some (false, x7.2)) else (Option.bind (m_space_Space_Give none [] x7.2) fun x10 =>
bif (x10.1 != 1) then (some (false, x10.2)) else (Option.bind (m_space_Space_Top none x10.2) fun x13 =>
bif (x13.1 != (-1)) then (some (false, x13.2)) else (Option.bind (m_space_Space_Free none x13.2) fun x16 =>
Option.bind (m_space_Space_Bytes none x16.2) fun x18 =>
Option.bind (m_space_Space_Runs none x18.2) fun x20 =>
bif ((wi ((wi (x16.1 + (x18.1.length : Int))) + (x20.1.length : Int))) != 0) then (some (false, x20.2)) else (Option.bind (m_space_Space_Has none 0 x20.2) fun x23 =>
bif x23.1 then (some (false, x23.2)) else (Option.bind (m_L19_few p1) fun x26 =>
bif (!x26) then (some (true, x23.2)) else (Option.bind (m_space_New (p0.toNat : Int) x23.2) fun x29 =>
ptM x29.1 none (fun i32 =>
bif (x29.2.1 != 0) then (some (false, x29.2.2)) else (m_L19_SpaceOnce_l4 p1 i32 p0 (p1.length + 1) 0 ([] : (List (Int × Int))) [] x29.2.2))))))))))
end Go.Proofs.YtimdogdplphmoaaDoor
