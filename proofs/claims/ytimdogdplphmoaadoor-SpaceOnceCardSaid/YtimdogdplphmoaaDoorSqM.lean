/-
  Models of functions: printed by a program of this claim's own (gen.py) off the given translation.
-/
import Derived.Test.YtimdogdplphmoaaDoorTop
namespace Go.Proofs.YtimdogdplphmoaaDoor
open Go Go.RowKit
set_option linter.unusedVariables false
/-- bastille/bastillelaw19.whole -/
def m_L19_whole_j3 (p0 : (Option Nat)) (y4 : Hp) (p1 : (List Bool)) (y1 : Int) : Option (Bool × Hp) :=
Option.bind (m_space_Space_Free p0 y4) fun x5 =>
Option.bind (m_R19_Free p1) fun x7 =>
bif (x5.1 == x7) then (Option.bind (m_space_Space_Top p0 x5.2) fun x10 =>
bif (x10.1 == y1) then (Option.bind (m_space_Space_Bytes p0 x10.2) fun x13 =>
Option.bind (m_R19_Bytes p1) fun x15 =>
Option.bind (m_R01_Same x13.1 x15) fun x17 =>
bif x17 then (Option.bind (m_space_Space_Has p0 (-1) x13.2) fun x20 =>
bif (!x20.1) then (Option.bind (m_space_Space_Has p0 (p1.length : Int) x20.2) fun x23 =>
some ((!x23.1), x23.2)) else (some (false, x20.2))) else (some (false, x13.2))) else (some (false, x10.2))) else (some (false, x5.2))

def m_L19_whole_l4 (p1 : (List Bool)) (y4 : Hp) (p0 : (Option Nat)) (y1 : Int) : Nat → Int → Option (Bool × Hp)
  | 0, _ => none
  | nl4 + 1, z25 =>
    bif (decide (z25 < (p1.length : Int))) then (Option.bind (idx p1 z25) fun x27 =>
    bif (!x27) then (some (false, y4)) else ((m_L19_whole_l4 p1 y4 p0 y1 nl4) (wi (z25 + 1)))) else (m_L19_whole_j3 p0 y4 p1 y1)

def m_L19_whole_j2 (p1 : (List Bool)) (p0 : (Option Nat)) (y1 : Int) (y3 : Int) (y4 : Hp) : Option (Bool × Hp) :=
m_L19_whole_l4 p1 y4 p0 y1 (p1.length + 1) y3

def m_L19_whole_l8 (kl5 : Int → Int → Option (Bool × Hp)) (x35 : S_api_Run) (p1 : (List Bool)) (x30 : ((List S_api_Run) × Hp)) (z33 : Int) : Nat → Int → Option (Bool × Hp)
  | 0, _ => none
  | nl8 + 1, z39 =>
    bif (decide (z39 < (wi (x35.From + x35.Len)))) then (Option.bind (idx p1 z39) fun x41 =>
    bif x41 then (some (false, x30.2)) else ((m_L19_whole_l8 kl5 x35 p1 x30 z33 nl8) (wi (z39 + 1)))) else (kl5 z39 (wi (z33 + 1)))

def m_L19_whole_j7 (kl5 : Int → Int → Option (Bool × Hp)) (x35 : S_api_Run) (p1 : (List Bool)) (x30 : ((List S_api_Run) × Hp)) (z33 : Int) (y38 : Int) : Option (Bool × Hp) :=
m_L19_whole_l8 kl5 x35 p1 x30 z33 (Int.toNat (wi (x35.From + x35.Len)) + 1) y38

def m_L19_whole_l9 (kl5 : Int → Int → Option (Bool × Hp)) (x35 : S_api_Run) (p1 : (List Bool)) (x30 : ((List S_api_Run) × Hp)) (z33 : Int) : Nat → Int → Option (Bool × Hp)
  | 0, _ => none
  | nl9 + 1, z44 =>
    bif (decide (z44 < x35.From)) then (Option.bind (idx p1 z44) fun x46 =>
    bif (!x46) then (some (false, x30.2)) else ((m_L19_whole_l9 kl5 x35 p1 x30 z33 nl9) (wi (z44 + 1)))) else (m_L19_whole_j7 kl5 x35 p1 x30 z33 z44)

def m_L19_whole_j6 (kl5 : Int → Int → Option (Bool × Hp)) (x35 : S_api_Run) (p1 : (List Bool)) (x30 : ((List S_api_Run) × Hp)) (z33 : Int) (z32 : Int) (y37 : Bool) : Option (Bool × Hp) :=
m_L19_whole_l9 kl5 x35 p1 x30 z33 (Int.toNat x35.From + 1) z32

def m_L19_whole_l5 (x30 : ((List S_api_Run) × Hp)) (p1 : (List Bool)) (p0 : (Option Nat)) (y1 : Int) : Nat → Int → Int → Option (Bool × Hp)
  | 0, _, _ => none
  | nl5 + 1, z32, z33 =>
    bif (decide (z33 < (x30.1.length : Int))) then (Option.bind (idx x30.1 z33) fun x35 =>
    bif (decide (x35.From < z32)) then (some (false, x30.2)) else (bif (decide (x35.Len < 1)) then (some (false, x30.2)) else (bif (decide ((wi (x35.From + x35.Len)) > (p1.length : Int))) then (some (false, x30.2)) else (bif (decide (z32 > 0)) then (bif (x35.From == z32) then (some (false, x30.2)) else (m_L19_whole_j6 (m_L19_whole_l5 x30 p1 p0 y1 nl5) x35 p1 x30 z33 z32 (x35.From == z32))) else (m_L19_whole_j6 (m_L19_whole_l5 x30 p1 p0 y1 nl5) x35 p1 x30 z33 z32 false))))) else (m_L19_whole_j2 p1 p0 y1 z32 x30.2)

def m_L19_whole_j1 (p0 : (Option Nat)) (p1 : (List Bool)) (y1 : Int) (y2 : Hp) : Option (Bool × Hp) :=
Option.bind (m_space_Space_Runs p0 y2) fun x30 =>
m_L19_whole_l5 x30 p1 p0 y1 (x30.1.length + 1) 0 0

def m_L19_whole_l10 (p1 : (List Bool)) (p0 : (Option Nat)) : Nat → Int → Int → Hp → Option (Bool × Hp)
  | 0, _, _, _ => none
  | nl10 + 1, z54, z55, z56 =>
    bif (decide (z55 < (p1.length : Int))) then (Option.bind (idx p1 z55) fun x58 =>
    Option.bind (m_space_Space_Has p0 z55 z56) fun x60 =>
    bif (x60.1 == x58) then (some (false, x60.2)) else (bif x58 then ((m_L19_whole_l10 p1 p0 nl10) z55 (wi (z55 + 1)) x60.2) else ((m_L19_whole_l10 p1 p0 nl10) z54 (wi (z55 + 1)) x60.2))) else (m_L19_whole_j1 p0 p1 z54 z56)

def m_L19_whole (p0 : (Option Nat)) (p1 : (List Bool)) (w0 : Hp) : Option (Bool × Hp) :=
m_L19_whole_l10 p1 p0 (p1.length + 1) (-1) 0 w0

/-- bastille/bastilleref19.Take -/
def m_R19_Take_v0_j1 (y5 : (List Int)) (y6 : (List Bool)) : Option ((List Int) × Int × (List Bool)) :=
some (y5, 0, y6)

def m_R19_Take_v0_j3 (kl2 : (List Int) → Int → (List Bool) → Option ((List Int) × Int × (List Bool))) (z8 : Int) (y12 : (List Int)) (y13 : (List Bool)) : Option ((List Int) × Int × (List Bool)) :=
kl2 y12 (wi (z8 + 1)) y13

def m_R19_Take_v0_l2 (p1 : Int) : Nat → (List Int) → Int → (List Bool) → Option ((List Int) × Int × (List Bool))
  | 0, _, _, _ => none
  | nl2 + 1, z7, z8, z9 =>
    bif (decide (z8 < (z9.length : Int))) then (bif (decide ((z7.length : Int) < p1)) then (Option.bind (idx z9 z8) fun x14 =>
    bif (!x14) then (Option.bind (idx z9 z8) fun x17 =>
    Option.bind (appI 8 z7 [z8]) fun x19 =>
    m_R19_Take_v0_j3 (m_R19_Take_v0_l2 p1 nl2) z8 x19 (z9.set (Int.toNat z8) true)) else (m_R19_Take_v0_j3 (m_R19_Take_v0_l2 p1 nl2) z8 z7 z9)) else (m_R19_Take_v0_j1 z7 z9)) else (m_R19_Take_v0_j1 z7 z9)

def m_R19_Take_v0 (p0 : (List Bool)) (p1 : Int) : Option ((List Int) × Int × (List Bool)) :=
bif (decide (p1 < 0)) then (some ([], 2, p0)) else (Option.bind (m_R19_Free p0) fun x2 =>
bif (decide (p1 > x2)) then (some ([], 32, p0)) else (m_R19_Take_v0_l2 p1 (p0.length + 1) [] 0 p0))

/-- bastille/bastilleref19.Turn -/
def m_R19_Turn_v0_l2 (p1 : (List Int)) (p2 : Bool) : Nat → Int → (List Bool) → Option (Int × (List Bool))
  | 0, _, _ => none
  | nl2 + 1, z1, z2 =>
    bif (decide (z1 < (p1.length : Int))) then (Option.bind (idx p1 z1) fun x4 =>
    Option.bind (idx z2 x4) fun x6 =>
    (m_R19_Turn_v0_l2 p1 p2 nl2) (wi (z1 + 1)) (z2.set (Int.toNat x4) (!p2))) else (some (0, z2))

def m_R19_Turn_v0_j1 (p1 : (List Int)) (p2 : Bool) (p0 : (List Bool)) : Option (Int × (List Bool)) :=
m_R19_Turn_v0_l2 p1 p2 (p1.length + 1) 0 p0

def m_R19_Turn_v0_j4 (kl3 : Int → Option (Int × (List Bool))) (z8 : Int) (y10 : Int) (y11 : Bool) (y12 : Int) (y13 : Bool) (y14 : Bool) : Option (Int × (List Bool)) :=
kl3 (wi (z8 + 1))

def m_R19_Turn_v0_l5 (kl3 : Int → Option (Int × (List Bool))) (z8 : Int) (p1 : (List Int)) (x15 : Int) (p0 : (List Bool)) (x19 : Bool) (p2 : Bool) : Nat → Int → Option (Int × (List Bool))
  | 0, _ => none
  | nl5 + 1, z22 =>
    bif (decide (z22 < z8)) then (Option.bind (idx p1 z22) fun x24 =>
    bif (x24 == x15) then (some (2, p0)) else ((m_R19_Turn_v0_l5 kl3 z8 p1 x15 p0 x19 p2 nl5) (wi (z22 + 1)))) else (m_R19_Turn_v0_j4 kl3 z8 x15 (decide (x15 ≥ (p0.length : Int))) x15 x19 (!(x19 == p2)))

def m_R19_Turn_v0_l3 (p1 : (List Int)) (p0 : (List Bool)) (p2 : Bool) : Nat → Int → Option (Int × (List Bool))
  | 0, _ => none
  | nl3 + 1, z8 =>
    bif (decide (z8 < (p1.length : Int))) then (Option.bind (idx p1 z8) fun x15 =>
    bif (decide (x15 < 0)) then (some (2, p0)) else (bif (decide (x15 ≥ (p0.length : Int))) then (some (2, p0)) else (Option.bind (idx p0 x15) fun x19 =>
    bif (!(x19 == p2)) then (some (2, p0)) else (m_R19_Turn_v0_l5 (m_R19_Turn_v0_l3 p1 p0 p2 nl3) z8 p1 x15 p0 x19 p2 (Int.toNat z8 + 1) 0)))) else (m_R19_Turn_v0_j1 p1 p2 p0)

def m_R19_Turn_v0 (p0 : (List Bool)) (p1 : (List Int)) (p2 : Bool) : Option (Int × (List Bool)) :=
m_R19_Turn_v0_l3 p1 p0 p2 (p1.length + 1) 0

/-- bastille/bastillelaw19.SpaceDoes -/
def m_L19_SpaceDoes_j1 (x4 : ((Option Nat) × Int × Hp)) (y27 : (List Bool)) (y28 : Hp) : Option (Bool × Hp) :=
Option.bind (m_L19_whole x4.1 y27 y28) fun x29 =>
some (x29.1, x29.2)

def m_L19_SpaceDoes_l2 (p1 : (List S_L19_Do)) (x4 : ((Option Nat) × Int × Hp)) : Nat → Int → (List Bool) → Hp → Option (Bool × Hp)
  | 0, _, _, _ => none
  | nl2 + 1, z31, z32, z33 =>
    bif (decide (z31 < (p1.length : Int))) then (Option.bind (idx p1 z31) fun x35 =>
    bif (x35.Kind == 1) then (Option.bind (m_space_Space_Take x4.1 x35.N z33) fun x38 =>
    Option.bind (m_R19_Take_v0 z32 x35.N) fun x40 =>
    Option.bind (lenI x40.2.2.length z32.length) fun x42 =>
    bif (x38.2.1 != x40.2.1) then (some (false, x38.2.2)) else (Option.bind (m_R01_Ints x38.1 x40.1) fun x45 =>
    bif (!x45) then (some (false, x38.2.2)) else ((m_L19_SpaceDoes_l2 p1 x4 nl2) (wi (z31 + 1)) x40.2.2 x38.2.2))) else (bif (x35.Kind == 2) then (Option.bind (m_space_Space_Claim x4.1 x35.L z33) fun x49 =>
    Option.bind (m_R19_Turn_v0 z32 x35.L false) fun x51 =>
    Option.bind (lenI x51.2.length z32.length) fun x53 =>
    bif (x49.1 != x51.1) then (some (false, x49.2)) else ((m_L19_SpaceDoes_l2 p1 x4 nl2) (wi (z31 + 1)) x51.2 x49.2)) else (bif (x35.Kind == 3) then (Option.bind (m_space_Space_Give x4.1 x35.L z33) fun x57 =>
    Option.bind (m_R19_Turn_v0 z32 x35.L true) fun x59 =>
    Option.bind (lenI x59.2.length z32.length) fun x61 =>
    bif (x57.1 != x59.1) then (some (false, x57.2)) else ((m_L19_SpaceDoes_l2 p1 x4 nl2) (wi (z31 + 1)) x59.2 x57.2)) else ((m_L19_SpaceDoes_l2 p1 x4 nl2) (wi (z31 + 1)) z32 z33)))) else (m_L19_SpaceDoes_j1 x4 z32 z33)

def m_L19_SpaceDoes (p0 : Int) (p1 : (List S_L19_Do)) (w0 : Hp) : Option (Bool × Hp) :=
Option.bind (m_L19_awake w0) fun x1 =>
bif (!x1.1) then (some (false, x1.2)) else (Option.bind (m_space_New p0 x1.2) fun x4 =>
bif (decide (p0 < 0)) then (bif (x4.2.1 == 2) then (ptM x4.1 (some (true, x4.2.2)) (fun i9 =>
some (false, x4.2.2))) else (some (false, x4.2.2))) else (bif (decide (p0 > 16384)) then (bif (x4.2.1 == 2) then (ptM x4.1 (some (true, x4.2.2)) (fun i13 =>
some (false, x4.2.2))) else (some (false, x4.2.2))) else (bif (x4.2.1 != 0) then (some (false, x4.2.2)) else (Option.bind (m_space_Space_Free x4.1 x4.2.2) fun x15 =>
bif (x15.1 != p0) then (some (false, x15.2)) else (Option.bind (m_space_Space_Top x4.1 x15.2) fun x18 =>
bif (x18.1 != (-1)) then (some (false, x18.2)) else (bif (decide (p0 > 300)) then (some (true, x18.2)) else (Option.bind (m_L19_few p1) fun x22 =>
bif (!x22) then (some (true, x18.2)) else (Option.bind (mkI 1 p0) fun x25 =>
m_L19_SpaceDoes_l2 p1 x4 (p1.length + 1) 0 (List.replicate x25 (false : Bool)) x18.2))))))))

/-- bastille/bastillelaw19.SpaceBytes -/
def m_L19_SpaceBytes_j1 (x18 : ((List Bool) × Int)) (x4 : ((Option Nat) × Int × Hp)) (p1 : (List UInt8)) (p0 : Int) : Option (Bool × Hp) :=
bif (x18.2 != 0) then (some (true, x4.2.2)) else (Option.bind (m_space_Space_Bytes x4.1 x4.2.2) fun x21 =>
Option.bind (m_R01_Same x21.1 p1) fun x23 =>
bif x23 then (bif (decide (p0 > 300)) then (some (true, x21.2)) else (Option.bind (m_L19_whole x4.1 x18.1 x21.2) fun x27 =>
some (x27.1, x27.2))) else (some (false, x21.2)))

def m_L19_SpaceBytes (p0 : Int) (p1 : (List UInt8)) (w0 : Hp) : Option (Bool × Hp) :=
Option.bind (m_L19_awake w0) fun x1 =>
bif (!x1.1) then (some (false, x1.2)) else (Option.bind (m_space_Read p0 p1 x1.2) fun x4 =>
bif (decide (p0 < 0)) then (bif (x4.2.1 == 2) then (ptM x4.1 (some (true, x4.2.2)) (fun i9 =>
some (false, x4.2.2))) else (some (false, x4.2.2))) else (bif (decide (p0 > 16384)) then (bif (x4.2.1 == 2) then (ptM x4.1 (some (true, x4.2.2)) (fun i13 =>
some (false, x4.2.2))) else (some (false, x4.2.2))) else (bif (decide ((p1.length : Int) > 3000)) then (bif (x4.2.1 == 12) then (ptM x4.1 (some (true, x4.2.2)) (fun i17 =>
some (false, x4.2.2))) else (some (false, x4.2.2))) else (Option.bind (m_R19_Read p0 p1) fun x18 =>
bif (x4.2.1 != x18.2) then (some (false, x4.2.2)) else (ptM x4.1 (bif (!(true == (x18.2 != 0))) then (some (false, x4.2.2)) else (m_L19_SpaceBytes_j1 x18 x4 p1 p0)) (fun i31 =>
bif (!(false == (x18.2 != 0))) then (some (false, x4.2.2)) else (m_L19_SpaceBytes_j1 x18 x4 p1 p0)))))))
end Go.Proofs.YtimdogdplphmoaaDoor
