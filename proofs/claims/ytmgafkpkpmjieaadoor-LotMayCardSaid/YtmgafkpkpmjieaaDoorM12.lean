/-
  Texts joined: see the remark at the head of each part.
-/
import Derived.Test.YtmgafkpkpmjieaaDoorM11
import Derived.Test.YtmgafkpkpmjieaaDoorM05
set_option linter.unusedVariables false
set_option linter.unusedSimpArgs false
/-
 Models of functions: printed by a program of this claim's own (gen.py) off the given translation.
-/
namespace Go.Proofs.YtmgafkpkpmjieaaDoor
open Go Go.RowKit
set_option linter.unusedVariables false
structure zBV where
 Seed : (List UInt8)
 Sectors : Int
 Quota : Int
 Events : (List zB)
def zA1 (kl1 : (List zB) → Int → Option (List zB)) (p0 : (List UInt8)) (z2 : Int) (y6 : (List zB)) : Option (List zB) :=
Option.bind (zBB p0 z2) fun x7 =>
Option.bind (appI 248 y6 [(zB.mk 1 x7 0 (zQ.mk 0 [] 0 []) [] [] [])]) fun x9 =>
kl1 x9 (wi (z2 + 1))
def yU (p1 : Int) (p0 : (List UInt8)) : Nat → (List zB) → Int → Option (List zB)
 | 0, _, _ => none
 | nl1 + 1, z1, z2 =>
  bif (decide (z2 < p1)) then (Option.bind (zDO p0 z2) fun x4 =>
  Option.bind (idxA 32 (padA (0 : UInt8) x4 0 32) 8) fun x11 =>
  bif (decide ((x11.toNat : Int) < 64)) then (Option.bind (idxA 32 (padA (0 : UInt8) x4 0 32) 9) fun x14 =>
  Option.bind (idxA 32 (padA (0 : UInt8) x4 0 32) 10) fun x16 =>
  Option.bind (idxA 32 (padA (0 : UInt8) x4 0 32) 11) fun x18 =>
  Option.bind (idxA 32 (padA (0 : UInt8) x4 0 32) 12) fun x20 =>
  Option.bind (idxA 32 (padA (0 : UInt8) x4 0 32) 13) fun x22 =>
  Option.bind (idxA 32 (padA (0 : UInt8) x4 0 32) 14) fun x24 =>
  Option.bind (idxA 32 (padA (0 : UInt8) x4 0 32) 15) fun x26 =>
  Option.bind (idxA 32 (padA (0 : UInt8) x4 0 32) 24) fun x28 =>
  Option.bind (idxA 32 (padA (0 : UInt8) x4 0 32) 25) fun x30 =>
  Option.bind (idxA 32 (padA (0 : UInt8) x4 0 32) 26) fun x32 =>
  Option.bind (appI 248 z1 [(zB.mk 4 (zC.mk 0 [] [] [] [] 0 0 []) 0 (zQ.mk (wi ((x14.toNat : Int) + (x16.toNat : Int))) [x18, x20, x22, x24, x26] (x28.toNat : Int) [x30, x32]) [] [] [])]) fun x34 =>
  zA1 (yU p1 p0 nl1) p0 z2 x34) else (zA1 (yU p1 p0 nl1) p0 z2 z1)) else (some z1)
def zCx (p0 : (List UInt8)) (p1 : Int) : Option (List zB) :=
yU p1 p0 (Int.toNat p1 + 1) [] 0
def zA6 (p0 : zB) (p1 : zB) : Option Bool :=
bif (p0.Kind != p1.Kind) then (some false) else (Option.bind (zBh p0.C p1.C) fun x2 =>
bif (!x2) then (some false) else (bif (p0.At != p1.At) then (some false) else (bif (!(p0.Key == p1.Key)) then (some false) else (bif (!(p0.With == p1.With)) then (some false) else (Option.bind (zAY p0.B p1.B) fun x8 =>
bif (!x8) then (some false) else (bif (p0.O.Fuse == p1.O.Fuse) then (bif (p0.O.Again == p1.O.Again) then (Option.bind (zAY p0.O.Choices p1.O.Choices) fun x13 =>
bif x13 then (Option.bind (zAY p0.O.More p1.O.More) fun x16 =>
some x16) else (some false)) else (some false)) else (some false)))))))
def zBx (kl1 : Int → Option Bool) (z3 : Int) : Option Bool :=
kl1 (wi (z3 + 1))
def zBF (kl1 : Int → Option Bool) (y5 : Bool) (z3 : Int) (y6 : Bool) : Option Bool :=
bif (!y5) then (bif (!y6) then (some false) else (zBx kl1 z3)) else (zBx kl1 z3)
def zBq (kl1 : Int → Option Bool) (p0 : (List UInt8)) (z3 : Int) (y5 : Bool) : Option Bool :=
Option.bind (idx p0 z3) fun x9 =>
bif (decide ((x9.toNat : Int) ≥ 48)) then (Option.bind (idx p0 z3) fun x12 =>
zBF kl1 y5 z3 (decide ((x12.toNat : Int) ≤ 57))) else (zBF kl1 y5 z3 false)
def yE (p0 : (List UInt8)) : Nat → Int → Option Bool
 | 0, _ => none
 | nl1 + 1, z3 =>
  bif (decide (z3 < (p0.length : Int))) then (Option.bind (idx p0 z3) fun x14 =>
  bif (decide ((x14.toNat : Int) ≥ 97)) then (Option.bind (idx p0 z3) fun x17 =>
  zBq (yE p0 nl1) p0 z3 (decide ((x17.toNat : Int) ≤ 122))) else (zBq (yE p0 nl1) p0 z3 false)) else (some true)
def zAe (p0 : (List UInt8)) : Option Bool :=
bif (decide ((p0.length : Int) < 1)) then (some false) else (bif (decide ((p0.length : Int) > 12)) then (some false) else (yE p0 (p0.length + 1) 0))
def qN (p0 : zC) : Option Bool :=
bif ((p0.Data.length : Int) == 0) then (some true) else (bif (p0.Kind == 8) then (some (decide ((p0.Data.length : Int) ≤ 512))) else (some false))
def qM (p0 : zC) : Option Bool :=
bif (p0.Kind == 9) then (bif (decide (p0.Version < 0)) then (some false) else (bif (decide (p0.Version > 1099511627776)) then (some false) else (qN p0))) else (bif (p0.Version != 0) then (some false) else (qN p0))
def qQ (p0 : zC) (y13 : Bool) : Option Bool :=
bif y13 then (bif (decide (p0.Role < 1)) then (some false) else (bif (decide (p0.Role > 4)) then (some false) else (qM p0))) else (bif (p0.Role != 0) then (some false) else (qM p0))
def qE (p0 : zC) : Option Bool :=
bif (p0.Kind == 5) then (qQ p0 true) else (qQ p0 (p0.Kind == 6))
def qC (p0 : zC) (y6 : Bool) : Option Bool :=
bif y6 then (Option.bind (zAe p0.Name) fun x20 =>
bif (!x20) then (some false) else (bif (!y6) then (bif (!(p0.Name == [])) then (some false) else (qE p0)) else (qE p0))) else (bif (!y6) then (bif (!(p0.Name == [])) then (some false) else (qE p0)) else (qE p0))
def zT (p0 : zC) : Option Bool :=
bif (p0.Kind == 8) then (qC p0 true) else (bif (p0.Kind == 9) then (qC p0 true) else (bif (p0.Kind == 11) then (qC p0 true) else (qC p0 (p0.Kind == 12))))
def qA (p0 : zC) (y40 : Bool) : Option Bool :=
bif y40 then (Option.bind (zAe p0.Other) fun x42 =>
bif (!x42) then (some false) else (zT p0)) else (bif (decide (p0.Kind < 14)) then (bif (!(p0.Other == [])) then (some false) else (zT p0)) else (zT p0))
def qO (p0 : zC) (y30 : Bool) : Option Bool :=
bif y30 then (bif (!(p0.Other == [])) then (Option.bind (zAe p0.Other) fun x33 =>
bif (!x33) then (some false) else (bif (p0.Kind == 2) then (bif (p0.Other == p0.Folder) then (some false) else (zT p0)) else (zT p0))) else (bif (p0.Kind == 2) then (bif (p0.Other == p0.Folder) then (some false) else (zT p0)) else (zT p0))) else (bif (decide (p0.Kind ≥ 5)) then (qA p0 (decide (p0.Kind ≤ 7))) else (qA p0 false))
def qD (p0 : zC) : Option Bool :=
bif (p0.Kind == 2) then (qO p0 true) else (qO p0 (p0.Kind == 3))
def zZ (p0 : zC) (y49 : Bool) : Option Bool :=
bif y49 then (bif (!(p0.Folder == [])) then (some false) else (bif (p0.Kind == 1) then (bif (!(p0.Other == [])) then (some false) else (qD p0)) else (bif (p0.Kind == 15) then (bif (!(p0.Other == [])) then (some false) else (qD p0)) else (qD p0)))) else (Option.bind (zAe p0.Folder) fun x56 =>
bif (!x56) then (some false) else (qD p0))
def qI (p0 : zC) : Option Bool :=
bif (p0.Kind == 1) then (zZ p0 true) else (zZ p0 (decide (p0.Kind ≥ 14)))
def yT (p0 : zC) : Option Bool :=
Option.bind (zAe p0.User) fun x1 =>
bif (!x1) then (some false) else (bif (decide (p0.Kind < 1)) then (some false) else (bif (decide (p0.Kind > 16)) then (some false) else (bif (p0.Kind == 14) then (Option.bind (zAe p0.Other) fun x61 =>
bif (!x61) then (some false) else (bif (p0.Other == p0.User) then (some false) else (qI p0))) else (bif (p0.Kind == 16) then (Option.bind (zAe p0.Other) fun x66 =>
bif (!x66) then (some false) else (bif (p0.Other == p0.User) then (some false) else (qI p0))) else (qI p0)))))
def zAA (p0 : zB) : Option Bool :=
bif ((p0.B.length : Int) == 0) then (some true) else (bif (p0.Kind == 5) then (some (decide ((p0.B.length : Int) ≤ 1024))) else (some false))
def zAB (p0 : zB) : Option Bool :=
bif (p0.Kind == 8) then (bif (decide ((p0.With.length : Int) < 1)) then (some false) else (bif (decide ((p0.With.length : Int) > 40)) then (some false) else (bif (p0.Kind != 8) then (bif (!(p0.With == [])) then (some false) else (zAA p0)) else (zAA p0)))) else (bif (p0.Kind != 8) then (bif (!(p0.With == [])) then (some false) else (zAA p0)) else (zAA p0))
def zAb (p0 : zB) : Option Bool :=
bif (decide (p0.Kind ≥ 5)) then (bif (decide ((p0.Key.length : Int) < 1)) then (some false) else (bif (decide ((p0.Key.length : Int) > 40)) then (some false) else (bif (decide (p0.Kind < 5)) then (bif (!(p0.Key == [])) then (some false) else (zAB p0)) else (zAB p0)))) else (bif (decide (p0.Kind < 5)) then (bif (!(p0.Key == [])) then (some false) else (zAB p0)) else (zAB p0))
def zAf (p0 : zB) : Option Bool :=
bif (p0.Kind == 4) then (bif (decide (p0.O.Fuse < (-1))) then (some false) else (bif (decide (p0.O.Fuse > 1073741824)) then (some false) else (bif (decide (p0.O.Again < (-1))) then (some false) else (bif (decide (p0.O.Again > 1073741824)) then (some false) else (bif (decide ((p0.O.Choices.length : Int) > 4096)) then (some false) else (bif (decide ((p0.O.More.length : Int) > 4096)) then (some false) else (zAb p0))))))) else (bif (p0.O.Fuse != 0) then (some false) else (bif (p0.O.Again != 0) then (some false) else (bif (decide ((p0.O.Choices.length : Int) > 0)) then (some false) else (bif (decide ((p0.O.More.length : Int) > 0)) then (some false) else (zAb p0)))))
def zAd (p0 : zB) (y3 : Int) (y31 : Bool) : Option Bool :=
bif y31 then (bif (decide (p0.At < y3)) then (some false) else (bif (decide (p0.At > 4096)) then (some false) else (zAf p0))) else (bif (p0.At != 0) then (some false) else (zAf p0))
def zAX (p0 : zB) (y3 : Int) : Option Bool :=
bif (p0.Kind == 3) then (zAd p0 y3 true) else (zAd p0 y3 (p0.Kind == 7))
def zAj (p0 : zB) : Option Bool :=
bif (p0.Kind == 3) then (zAX p0 1) else (zAX p0 0)
def zBP (p0 : zB) : Option Bool :=
bif (decide (p0.Kind < 1)) then (some false) else (bif (decide (p0.Kind > 8)) then (some false) else (bif (decide (p0.Kind ≤ 2)) then (Option.bind (yT p0.C) fun x39 =>
bif (!x39) then (some false) else (zAj p0)) else (Option.bind (zBh p0.C (zC.mk 0 [] [] [] [] 0 0 [])) fun x42 =>
bif (!x42) then (some false) else (zAj p0))))
def qH (p0 : (List zB)) (p1 : (zB → Option Bool)) : Nat → Int → Option Int
 | 0, _ => none
 | nl1 + 1, z1 =>
  bif (decide (z1 < (p0.length : Int))) then (Option.bind (idx p0 z1) fun x3 =>
  Option.bind (p1 x3) fun x5 =>
  bif x5 then (some z1) else ((qH p0 p1 nl1) (wi (z1 + 1)))) else (some (-1))
def zAh (p0 : (List zB)) (p1 : (zB → Option Bool)) : Option Int :=
qH p0 p1 (p0.length + 1) 0
def yR (p0 : (List zB)) (p1 : (zB → Option Bool)) : Option Bool :=
Option.bind (zAh p0 p1) fun x1 =>
some (decide (x1 ≥ 0))
def zAU (p0 : (List UInt8)) (p1 : (List UInt8)) : Option Bool :=
some (p0 == p1)
def zDX (p0 : zC) (p1 : zC) : Option Bool :=
Option.bind (zAU p0.Data p1.Data) fun x1 =>
bif (!x1) then (some false) else (bif (p0.Kind != p1.Kind) then (some false) else (bif (p0.Role != p1.Role) then (some false) else (bif (p0.Version != p1.Version) then (some false) else (bif (p0.User == p1.User) then (bif (p0.Folder == p1.Folder) then (bif (p0.Name == p1.Name) then (some (p0.Other == p1.Other)) else (some false)) else (some false)) else (some false)))))
def zAn (p0 : zQ) (p1 : zQ) : Option Bool :=
bif (p0.Fuse == p1.Fuse) then (bif (p0.Again == p1.Again) then (Option.bind (zAU p0.Choices p1.Choices) fun x3 =>
bif x3 then (Option.bind (zAU p0.More p1.More) fun x6 =>
some x6) else (some false)) else (some false)) else (some false)
def zAx (p0 : zB) (p1 : zB) : Option Bool :=
bif (p0.Kind == p1.Kind) then (Option.bind (zDX p0.C p1.C) fun x2 =>
bif x2 then (bif (p0.At == p1.At) then (Option.bind (zAn p0.O p1.O) fun x6 =>
bif x6 then (bif (p0.Key == p1.Key) then (bif (p0.With == p1.With) then (Option.bind (zAU p0.B p1.B) fun x11 =>
some x11) else (some false)) else (some false)) else (some false)) else (some false)) else (some false)) else (some false)
def zDv (p0 : zB) : Option zB :=
some (zB.mk p0.Kind (zC.mk 0 [] [] [] [] 0 0 []) 0 (zQ.mk 0 [] 0 []) p0.Key [] [])
def zCP (p0 : zB) (y1 : (List UInt8)) : Option zB :=
some (zB.mk p0.Kind (zC.mk 0 [] [] [] [] 0 0 []) p0.At (zQ.mk 0 [] 0 []) y1 [] [])
def zDs (p0 : zB) : Option zB :=
zCP p0 p0.Key
def zDw (p0 : zB) : Option zB :=
some (zB.mk p0.Kind (zC.mk 0 [] [] [] [] 0 0 []) 0 (zQ.mk 0 [] 0 []) p0.Key [] p0.B)
def zDx (p0 : zB) : Option zB :=
some (zB.mk p0.Kind (zC.mk 0 [] [] [] [] 0 0 []) 0 (zQ.mk 0 [] 0 []) p0.Key p0.With [])
def zCO (p0 : zB) : Option zB :=
some (zB.mk p0.Kind (zC.mk 0 [] [] [] [] 0 0 []) 0 p0.O [] [] [])
def zBQ (p0 : zB) : Option zB :=
some (zB.mk p0.Kind p0.C 0 (zQ.mk 0 [] 0 []) [] [] [])
def zCU (p0 : zB) : Option zB :=
bif (p0.Kind == 1) then (zBQ p0) else (bif (p0.Kind == 2) then (zBQ p0) else (bif (p0.Kind == 4) then (zCO p0) else (bif (p0.Kind == 8) then (zDx p0) else (bif (p0.Kind == 5) then (zDw p0) else (bif (p0.Kind == 7) then (zDs p0) else (bif (p0.Kind == 3) then (zCP p0 []) else (bif (p0.Kind == 6) then (zDv p0) else (some (zB.mk p0.Kind (zC.mk 0 [] [] [] [] 0 0 []) 0 (zQ.mk 0 [] 0 []) [] [] [])))))))))
def zES (p0 : (List UInt8)) : Option Bool :=
bif (decide ((p0.length : Int) ≥ 1)) then (some (decide ((p0.length : Int) ≤ 12))) else (some false)
def zAE (p0 : (List UInt8)) : Nat → Int → Option Bool
 | 0, _ => none
 | nl2 + 1, z2 =>
  bif (decide (z2 < (p0.length : Int))) then (Option.bind (idx p0 z2) fun x4 =>
  bif (decide ((x4.toNat : Int) < 97)) then (bif (decide ((x4.toNat : Int) < 48)) then (some false) else (bif (decide ((x4.toNat : Int) > 57)) then (some false) else ((zAE p0 nl2) (wi (z2 + 1))))) else (bif (decide ((x4.toNat : Int) > 122)) then (bif (decide ((x4.toNat : Int) < 48)) then (some false) else (bif (decide ((x4.toNat : Int) > 57)) then (some false) else ((zAE p0 nl2) (wi (z2 + 1))))) else ((zAE p0 nl2) (wi (z2 + 1))))) else (zES p0)
def zB5 (p0 : (List UInt8)) : Option Bool :=
zAE p0 (p0.length + 1) 0
def qK (p0 : (List UInt8)) (p1 : Bool) : Option Bool :=
bif p1 then (Option.bind (zB5 p0) fun x2 =>
some x2) else (some (p0 == []))
def zV (p0 : Int) (p1 : Int) (p2 : Int) (p3 : Bool) : Option Bool :=
bif p3 then (bif (decide (p0 ≥ p1)) then (some (decide (p0 ≤ p2))) else (some false)) else (some (p0 == 0))
def zR (p0 : zC) (x6 : Int) (y12 : Bool) : Option Bool :=
bif y12 then (some false) else (Option.bind (zV p0.Role 1 4 ((wi ((((BitVec.ofInt IntKind.i64.bits x6) &&& (BitVec.ofInt IntKind.i64.bits 16)).toNat : Nat) : Int)) != 0)) fun x14 =>
bif (!x14) then (some false) else (Option.bind (zV p0.Version 0 1099511627776 ((wi ((((BitVec.ofInt IntKind.i64.bits x6) &&& (BitVec.ofInt IntKind.i64.bits 32)).toNat : Nat) : Int)) != 0)) fun x17 =>
bif (!x17) then (some false) else (Option.bind (zV (p0.Data.length : Int) 0 512 ((wi ((((BitVec.ofInt IntKind.i64.bits x6) &&& (BitVec.ofInt IntKind.i64.bits 64)).toNat : Nat) : Int)) != 0)) fun x20 =>
some x20)))
def zW (x6 : Int) (p0 : zC) (y10 : Bool) : Option Bool :=
bif y10 then (some false) else (bif ((wi ((((BitVec.ofInt IntKind.i64.bits x6) &&& (BitVec.ofInt IntKind.i64.bits 1)).toNat : Nat) : Int)) == 0) then (bif (p0.Other == p0.User) then (zR p0 x6 true) else (bif (p0.Kind == 2) then (zR p0 x6 (p0.Other == p0.Folder)) else (zR p0 x6 false))) else (bif (p0.Kind == 2) then (zR p0 x6 (p0.Other == p0.Folder)) else (zR p0 x6 false)))
def qB (x6 : Int) (p0 : zC) (y8 : Bool) : Option Bool :=
bif y8 then (some false) else (bif ((wi ((((BitVec.ofInt IntKind.i64.bits x6) &&& (BitVec.ofInt IntKind.i64.bits 4)).toNat : Nat) : Int)) != 0) then (Option.bind (qK p0.Other true) fun x27 =>
zW x6 p0 (!x27)) else (bif ((wi ((((BitVec.ofInt IntKind.i64.bits x6) &&& (BitVec.ofInt IntKind.i64.bits 8)).toNat : Nat) : Int)) != 0) then (Option.bind (qK p0.Other (!(p0.Other == []))) fun x30 =>
zW x6 p0 (!x30)) else (Option.bind (qK p0.Other false) fun x32 =>
zW x6 p0 (!x32))))
def yI (p0 : zC) : Option Bool :=
bif (decide (p0.Kind < 1)) then (some false) else (bif (decide (p0.Kind > 16)) then (some false) else (Option.bind (zB5 p0.User) fun x3 =>
bif (!x3) then (some false) else (Option.bind (idx zO p0.Kind) fun x6 =>
Option.bind (qK p0.Folder ((wi ((((BitVec.ofInt IntKind.i64.bits x6) &&& (BitVec.ofInt IntKind.i64.bits 1)).toNat : Nat) : Int)) != 0)) fun x34 =>
bif (!x34) then (qB x6 p0 true) else (Option.bind (qK p0.Name ((wi ((((BitVec.ofInt IntKind.i64.bits x6) &&& (BitVec.ofInt IntKind.i64.bits 2)).toNat : Nat) : Int)) != 0)) fun x37 =>
qB x6 p0 (!x37)))))
def zCh (p0 : zQ) : Option Bool :=
bif (decide (p0.Fuse ≥ (-1))) then (bif (decide (p0.Fuse ≤ 1073741824)) then (bif (decide (p0.Again ≥ (-1))) then (bif (decide (p0.Again ≤ 1073741824)) then (bif (decide ((p0.Choices.length : Int) ≤ 4096)) then (some (decide ((p0.More.length : Int) ≤ 4096))) else (some false)) else (some false)) else (some false)) else (some false)) else (some false)
def zBi (p0 : (List UInt8)) : Option Bool :=
bif (decide ((p0.length : Int) ≥ 1)) then (some (decide ((p0.length : Int) ≤ 40))) else (some false)
def zA0 (p0 : zB) (y6 : Bool) : Option Bool :=
bif y6 then (Option.bind (yI p0.C) fun x8 =>
some x8) else (bif (p0.Kind == 3) then (bif (decide (p0.At ≥ 1)) then (some (decide (p0.At ≤ 4096))) else (some false)) else (bif (p0.Kind == 4) then (Option.bind (zCh p0.O) fun x13 =>
some x13) else (bif (p0.Kind == 5) then (Option.bind (zBi p0.Key) fun x16 =>
bif x16 then (some (decide ((p0.B.length : Int) ≤ 1024))) else (some false)) else (bif (p0.Kind == 6) then (Option.bind (zBi p0.Key) fun x20 =>
some x20) else (bif (p0.Kind == 7) then (Option.bind (zBi p0.Key) fun x23 =>
bif x23 then (bif (decide (p0.At ≥ 0)) then (some (decide (p0.At ≤ 4096))) else (some false)) else (some false)) else (bif (p0.Kind == 8) then (Option.bind (zBi p0.Key) fun x28 =>
bif x28 then (Option.bind (zBi p0.With) fun x31 =>
some x31) else (some false)) else (some false)))))))
def zCF (p0 : zB) : Option Bool :=
Option.bind (zCU p0) fun x1 =>
Option.bind (zAx p0 x1) fun x3 =>
bif (!x3) then (some false) else (bif (p0.Kind == 1) then (zA0 p0 (p0.Kind == 1)) else (zA0 p0 (p0.Kind == 2)))
def zAN (p0 : zB) : Option Bool :=
Option.bind (zCF p0) fun x1 =>
some (!x1)
def zBy (p0 : zBV) : Option Bool :=
Option.bind (yR p0.Events zAN) fun x1 =>
some (!x1)
def zCI (p0 : zBV) : Option Bool :=
bif ((p0.Seed.length : Int) != 0) then (bif ((p0.Seed.length : Int) != 32) then (some false) else (bif (decide (p0.Sectors < 0)) then (some false) else (bif (decide (p0.Sectors > 1073741824)) then (some false) else (bif (decide (p0.Quota < 0)) then (some false) else (bif (decide (p0.Quota > 1073741824)) then (some false) else (bif (decide ((p0.Events.length : Int) > 4096)) then (some false) else (zBy p0))))))) else (bif (decide (p0.Sectors < 0)) then (some false) else (bif (decide (p0.Sectors > 1073741824)) then (some false) else (bif (decide (p0.Quota < 0)) then (some false) else (bif (decide (p0.Quota > 1073741824)) then (some false) else (bif (decide ((p0.Events.length : Int) > 4096)) then (some false) else (zBy p0))))))
def zCd (x4 : ((List zB) × Int)) : Option Bool :=
Option.bind (zCI (zBV.mk [] 0 0 x4.1)) fun x10 =>
some x10
def zAg (x4 : ((List zB) × Int)) (x6 : (List zB)) : Nat → Int → Option Bool
 | 0, _ => none
 | nl2 + 1, z12 =>
  bif (decide (z12 < (x4.1.length : Int))) then (Option.bind (idx x4.1 z12) fun x14 =>
  Option.bind (idx x6 z12) fun x16 =>
  Option.bind (zA6 x14 x16) fun x18 =>
  bif (!x18) then (some false) else (Option.bind (zBP x14) fun x21 =>
  bif (!x21) then (some false) else ((zAg x4 x6 nl2) (wi (z12 + 1))))) else (zCd x4)
def zCu (p0 : (List UInt8)) (p1 : UInt8) : Option Bool :=
Option.bind (zDe) fun x1 =>
bif (!x1) then (some false) else (Option.bind (zCp p0 (wi (Int.tmod (p1.toNat : Int) 40))) fun x4 =>
Option.bind (zCx p0 (wi (Int.tmod (p1.toNat : Int) 40))) fun x6 =>
bif (x4.2 != 0) then (some false) else (bif ((x4.1.length : Int) != (x6.length : Int)) then (some false) else (zAg x4 x6 (x4.1.length + 1) 0)))
end Go.Proofs.YtmgafkpkpmjieaaDoor

/-
 An element of a package-level table whose cells are known.
-/
namespace Go.Proofs.YtmgafkpkpmjieaaDoor
open Go Go.RowKit
set_option linter.unusedVariables false
def zIN (P : Program) (t : TypeId) : Option Nat := match P.underlying t with
 | some (.array len e) => match P.info? e with
  | some ie => if ie.size = 1 then some len else none
  | none => none
 | _ => none
section
variable {P : Program} {pins : List Nat} {N : Nat} {S M : Nat → A}
theorem ok_gix (hM : Mk M S) {op : Oper} {d t g len : Nat} {i : Operand} {ki : IntKind} {n : Int} {u : Value} (hop : op.op = .indexAddr t (.global g) i) (hd : op.dst = some d) (hok : okD N pins S d = true) (hl : zIN P t = some len) (hn : vO M i = some (.int ki n)) (hb : 0 ≤ n ∧ n < len) (hu : TBL g n.toNat = some u) (h1 : u.oneCell' = true) : OpOK P pins N op S (upd S d (.imm [.lit u])) := by
 refine zP fun w0 m0 o0 G a w m o hN I => ?_
 obtain ⟨k1, k2, k3⟩ := qF hok
 unfold zIN at hl
 split at hl
 case h_2 => cases hl
 rename_i len' e hu'
 split at hl
 case h_2 => cases hl
 rename_i ie hie
 split at hl
 case isFalse => cases hl
 rename_i hsz
 injection hl with hl
 subst hl
 have hmem : m g n.toNat = some u := I.mono _ _ _ (I.tbl _ _ _ hu)
 have hrep : RepA m w o (upd S d (.imm [.lit u])) d (.imm [.lit u]) (.pointer (some ⟨g, 0 + n.toNat * 1, none⟩)) := by
  refine ⟨g, _, rfl, fun j d hj => ?_⟩
  cases j with
  | zero =>
   injection hj with hj
   subst hj
   exact ⟨u, by rw [Nat.zero_add, Nat.mul_one, Nat.add_zero]; exact hmem, .lit u h1⟩
  | succ j => simp at hj
 refine ⟨_, w, m, o, ?_, by rw [hd]; exact I.set d _ _ (by omega) k2 hrep⟩
 unfold execOp
 rw [hop]
 simp only [Sem.run_bind]
 rw [zCG hM I hn, show a.eval (.global g) = .pointer (some ⟨g, 0, none⟩) from rfl]
 have hrun : (Instr.indexAt t (.pointer (some ⟨g, 0, none⟩)) (.int ki n)).run P w = .ok (.pointer (some ⟨g, 0 + n.toNat * ie.size, none⟩)) w := by
  simp [Instr.indexAt, asIntOf, Instr.sureAddr, run_underlying hu', hb, sizeOf, typeInfo, hie, Addr.add_mid]
 rw [hrun, hsz]
 rfl
end
def TabIs (g : Nat) (k : IntKind) (l : List Int) : Bool := match TBLS.find? (fun x => x.1 == g) with
 | some x => x.2.length == l.length && (List.range l.length).all fun i => match x.2[i]?, l[i]? with
  | some (.int k' z), some z' => k' == k && z == z'
  | _, _ => false
 | none => false
theorem zGk {g : Nat} {k : IntKind} {l : List Int} (h : TabIs g k l = true) {n x : Int} (hx : idx l n = some x) : TBL g n.toNat = some (.int k x) ∧ 0 ≤ n ∧ n < l.length := by
 unfold idx at hx
 by_cases h0 : 0 ≤ n
 ·
  rw [dec_t' h0] at hx
  have hx : l[n.toNat]? = some x := hx
  have hlt : n.toNat < l.length := (List.getElem?_eq_some_iff.1 hx).1
  refine ⟨?_, h0, by omega⟩
  unfold TabIs at h
  unfold TBL
  split at h
  ·
   rename_i y hy
   rw [hy]
   simp only [Bool.and_eq_true, List.all_eq_true] at h
   have h2 := h.2 n.toNat (List.mem_range.2 hlt)
   show y.2[n.toNat]? = _
   rw [hx] at h2
   split at h2
   ·
    rename_i k' z z' e1 e2
    injection e2 with e2
    simp only [Bool.and_eq_true, beq_iff_eq] at h2
    rw [e1, h2.1, h2.2, e2]
   · cases h2
  · cases h
 ·
  rw [dec_f' h0] at hx
  cases hx
where
 dec_t' {p : Prop} [Decidable p] (h : p) : decide p = true := decide_eq_true h
 dec_f' {p : Prop} [Decidable p] (h : ¬ p) : decide p = false := decide_eq_false h
section
variable {P : Program} {pins : List Nat} {N : Nat} {ops : Array Oper} {Q : SL → Prop} {r : List Oper} {op : Oper} {L : SL}
theorem o_gix {d t g : Nat} {i : Operand} {ki k : IntKind} {n x : Int} {l : List Int} (hx : idx l n = some x) (hy : yes ops op L true) (hop : op.op = .indexAddr t (.global g) i) (hd : op.dst = some d) (hok : okD N pins (gt L) d = true) (hl : zIN P t = some l.length) (hn : vO (gt L) i = some (.int ki n)) (hT : TabIs g k l = true) (K : qY P pins N ops Q r ((d, .imm [.lit (.int k x)]) :: L)) : qY P pins N ops Q (op :: r) L :=
 o_of (e := [(d, _)]) hy (.of (e := [(d, _)]) fun hN => ⟨ok_gix (zIZ _) hop hd (yL hN hok) hl hn (zGk hT hx).2 (zGk hT hx).1 rfl, zB0 (yG hN hok)⟩) rfl K
end
section
variable {P : Program} {pins : List Nat} {N : Nat} {l0 : List Oper} {Q : SL → Prop} {r : List Oper} {op : Oper} {L : SL} {acc : List (List Nat × List Nat)} {T : List Nat}
theorem d_gix {d t g : Nat} {i : Operand} {ki k : IntKind} {n x : Int} {l : List Int} (hx : idx l n = some x) (hTt : zB6 (zCW l0.toArray (gt L) op) some = some T) (hy : dyes l0 op L T) (hop : op.op = .indexAddr t (.global g) i) (hd : op.dst = some d) (hdT : T.contains d = true) (hok : okD N pins (gt L) d = true) (hl : zIN P t = some l.length) (hn : vO (mask T (gt L)) i = some (.int ki n)) (hT : TabIs g k l = true) (K : DOK P pins N l0 Q r ((T, [d]) :: acc) ((d, .imm [.lit (.int k x)]) :: L)) : DOK P pins N l0 Q (op :: r) acc L :=
 d_of (ks := [d]) hTt hy (e := [(d, _)]) rfl (by simp only [List.all_cons, List.all_nil, hdT]; rfl) (fun S' hS => have hok := d_mf.okD_of hS (by simpa using hdT) hok; .of (e := [(d, _)]) fun hN => ⟨ok_gix (zDf hS).hx hop hd (yL hN hok) hl hn (zGk hT hx).2 (zGk hT hx).1 rfl, zB0 (yG hN hok)⟩) rfl K
end
end Go.Proofs.YtmgafkpkpmjieaaDoor
