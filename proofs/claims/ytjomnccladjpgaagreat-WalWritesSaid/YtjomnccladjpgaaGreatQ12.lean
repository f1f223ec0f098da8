/-
  Texts joined: see the remark at the head of each part.
-/
import Derived.Test.YtjomnccladjpgaaGreatQ11
import Derived.Test.YtjomnccladjpgaaGreatQ10
import Derived.Test.YtjomnccladjpgaaGreatQ09
import Derived.Lib.SlKeysI
set_option linter.unusedVariables false
set_option linter.unusedSimpArgs false
/-
 Models of functions: printed by a program of this claim's own (gen.py) off the given translation.
-/
namespace Go.Proofs.YtjomnccladjpgaaGreat
open Go Go.RowKit
set_option linter.unusedVariables false
def zC4 (y1 : (Option Nat)) (y2 : Hp) : Option Hp :=
ptM y1 (none) (fun i4 =>
Option.bind (y2.ge_rd i4) fun x5 =>
some ((((y2.st_rd i4 (zO.mk x5.Kept [] x5.Fuse x5.Off x5.Lives)).st_rd i4 (zO.mk x5.Kept [] (-1) x5.Off x5.Lives)).st_rd i4 (zO.mk x5.Kept [] (-1) false x5.Lives)).st_rd i4 (zO.mk x5.Kept [] (-1) false (wi (((zO.mk x5.Kept [] (-1) false x5.Lives).Lives) + 1)))))
def zB7 (kl2 : (Option Nat) → Int → Hp → Option Hp) (x12 : zO) (z8 : Int) (x17 : (List (List UInt8))) (i11 : Nat) (z9 : Hp) (y25 : (List UInt8)) : Option Hp :=
Option.bind (idx x12.Wait z8) fun x26 =>
Option.bind (lenI x17.length x12.Kept.2) fun x28 =>
Option.bind (idx x17 x26.N) fun x30 =>
kl2 (some i11) (wi (z8 + 1)) (z9.st_rs x12.Kept.1 (x17.set (Int.toNat x26.N) y25))
def zAl (kl4 : Int → (List UInt8) → Option Hp) (z32 : Int) (y35 : (List UInt8)) : Option Hp :=
kl4 (wi (z32 + 1)) y35
def zBO (kl4 : Int → (List UInt8) → Option Hp) (x12 : zO) (z8 : Int) (z32 : Int) (z33 : (List UInt8)) (x36 : UInt8) (y40 : Bool) : Option Hp :=
bif y40 then (Option.bind (idx x12.Wait z8) fun x42 =>
Option.bind (idx x42.B z32) fun x44 =>
Option.bind (idx (z33.set (Int.toNat z32) x36) z32) fun x46 =>
zAl kl4 z32 ((z33.set (Int.toNat z32) x36).set (Int.toNat z32) x44)) else (zAl kl4 z32 (z33.set (Int.toNat z32) x36))
def zAA (kl2 : (Option Nat) → Int → Hp → Option Hp) (x21 : (List UInt8)) (z8 : Int) (p1 : (List UInt8)) (x12 : zO) (x17 : (List (List UInt8))) (i11 : Nat) (z9 : Hp) : Nat → Int → (List UInt8) → Option Hp
 | 0, _, _ => none
 | nl4 + 1, z32, z33 =>
  bif (decide (z32 < 64)) then (Option.bind (idx x21 z32) fun x36 =>
  Option.bind (idx z33 z32) fun x38 =>
  bif (decide (z8 < (p1.length : Int))) then (Option.bind (idx p1 z8) fun x49 =>
  zBO (zAA kl2 x21 z8 p1 x12 x17 i11 z9 nl4) x12 z8 z32 z33 x36 (decide (z32 < (x49.toNat : Int)))) else (zBO (zAA kl2 x21 z8 p1 x12 x17 i11 z9 nl4) x12 z8 z32 z33 x36 false)) else (zB7 kl2 x12 z8 x17 i11 z9 z33)
def yC (p1 : (List UInt8)) : Nat → (Option Nat) → Int → Hp → Option Hp
 | 0, _, _, _ => none
 | nl2 + 1, z7, z8, z9 =>
  ptM z7 (none) (fun i11 =>
  Option.bind (z9.ge_rd i11) fun x12 =>
  bif (decide (z8 < (x12.Wait.length : Int))) then (Option.bind (idx x12.Wait z8) fun x15 =>
  Option.bind (z9.ge_rs x12.Kept.1) fun x17 =>
  Option.bind (lenI x17.length x12.Kept.2) fun x19 =>
  Option.bind (idx x17 x15.N) fun x21 =>
  Option.bind (mkI 1 64) fun x23 =>
  zAA (yC p1 nl2) x21 z8 p1 x12 x17 i11 z9 (Int.toNat 64 + 1) 0 (List.replicate x23 (0 : UInt8))) else (zC4 z7 z9))
def zCC (p0 : (Option Nat)) (p1 : (List UInt8)) (w0 : Hp) : Option Hp :=
yC p1 ((((w0).rd.map fun x => x.Wait.length).sum + 1)) p0 0 w0
def zA2 (p0 : (Option Nat)) (p1 : Int) (w0 : Hp) : Option Hp :=
ptM p0 (none) (fun i2 =>
Option.bind (w0.ge_rd i2) fun x3 =>
bif (decide (p1 < 0)) then (some ((w0.st_rd i2 (zO.mk x3.Kept x3.Wait p1 x3.Off x3.Lives)).st_rd i2 (zO.mk x3.Kept x3.Wait (-1) x3.Off x3.Lives))) else (some (w0.st_rd i2 (zO.mk x3.Kept x3.Wait p1 x3.Off x3.Lives))))
def zDu (p0 : (Option Nat)) (w0 : Hp) (p1 : Int) : Option (List UInt8) :=
ptM p0 (none) (fun i2 =>
Option.bind (w0.ge_rd i2) fun x3 =>
Option.bind (w0.ge_rs x3.Kept.1) fun x5 =>
Option.bind (lenI x5.length x3.Kept.2) fun x7 =>
Option.bind (idx x5 p1) fun x9 =>
some x9)
def zBX (x13 : zO) (p1 : Int) (p0 : (Option Nat)) (w0 : Hp) : Nat → Int → Option (List UInt8)
 | 0, _ => none
 | nl2 + 1, z15 =>
  bif (decide (z15 ≥ 0)) then (Option.bind (idx x13.Wait z15) fun x17 =>
  bif (x17.N == p1) then (Option.bind (idx x13.Wait z15) fun x20 =>
  some x20.B) else ((zBX x13 p1 p0 w0 nl2) (wi (z15 - 1)))) else (zDu p0 w0 p1)
def zBi (p0 : (Option Nat)) (p1 : Int) (w0 : Hp) : Option (List UInt8) :=
ptM p0 (none) (fun i12 =>
Option.bind (w0.ge_rd i12) fun x13 =>
zBX x13 p1 p0 w0 (Int.toNat (wi ((x13.Wait.length : Int) - 1)) + 2) (wi ((x13.Wait.length : Int) - 1)))
def zBP (p0 : (Option Nat)) (p1 : Int) (w0 : Hp) : Option ((List UInt8) × Int) :=
ptM p0 (none) (fun i2 =>
Option.bind (w0.ge_rd i2) fun x3 =>
bif x3.Off then (some ([], 30)) else (bif (decide (p1 < 0)) then (some ([], 31)) else (bif (decide (p1 ≥ (x3.Kept.2 : Int))) then (some ([], 31)) else (Option.bind (zBi (some i2) p1 w0) fun x8 =>
some (x8, 0)))))
def zAw (p0 : (Option Nat)) (y2 : Hp) : Option (Bool × Hp) :=
ptM p0 (none) (fun i4 =>
Option.bind (y2.ge_rd i4) fun x5 =>
some (x5.Off, y2))
def zBj (p0 : (Option Nat)) (y1 : Hp) : Option (Bool × Hp) :=
ptM p0 (none) (fun i8 =>
Option.bind (y1.ge_rd i8) fun x9 =>
bif (decide (x9.Fuse ≥ 0)) then (zAw p0 (y1.st_rd i8 (zO.mk x9.Kept x9.Wait (wi (x9.Fuse - 1)) x9.Off x9.Lives))) else (zAw p0 y1))
def zBu (p0 : (Option Nat)) (w0 : Hp) : Option (Bool × Hp) :=
ptM p0 (none) (fun i13 =>
Option.bind (w0.ge_rd i13) fun x14 =>
bif (x14.Fuse == 0) then (zBj p0 (w0.st_rd i13 (zO.mk x14.Kept x14.Wait x14.Fuse true x14.Lives))) else (zBj p0 w0))
def yH (p0 : (Option Nat)) (p1 : Int) (p2 : (List UInt8)) (w0 : Hp) : Option (Int × Hp) :=
ptM p0 (none) (fun i2 =>
Option.bind (w0.ge_rd i2) fun x3 =>
bif x3.Off then (some (30, w0)) else (bif (decide (p1 < 0)) then (some (31, w0)) else (bif (decide (p1 ≥ (x3.Kept.2 : Int))) then (some (31, w0)) else (bif ((p2.length : Int) != 64) then (some (2, w0)) else (Option.bind (appI 1 [] p2) fun x9 =>
Option.bind (appI 32 x3.Wait [(zDX.mk p1 x9)]) fun x11 =>
Option.bind (zBu (some i2) (w0.st_rd i2 (zO.mk x3.Kept x11 x3.Fuse x3.Off x3.Lives))) fun x13 =>
bif x13.1 then (some (30, x13.2)) else (some (0, x13.2)))))))
def zC3 (i2 : Nat) (y9 : Hp) : Option (Int × Hp) :=
Option.bind (y9.ge_rd i2) fun x10 =>
some (0, (y9.st_rd i2 (zO.mk x10.Kept [] x10.Fuse x10.Off x10.Lives)))
def zBL (i2 : Nat) : Nat → Int → Hp → Option (Int × Hp)
 | 0, _, _ => none
 | nl2 + 1, z12, z13 =>
  Option.bind (z13.ge_rd i2) fun x14 =>
  bif (decide (z12 < (x14.Wait.length : Int))) then (Option.bind (idx x14.Wait z12) fun x17 =>
  Option.bind (idx x14.Wait z12) fun x19 =>
  Option.bind (z13.ge_rs x14.Kept.1) fun x21 =>
  Option.bind (lenI x21.length x14.Kept.2) fun x23 =>
  Option.bind (idx x21 x17.N) fun x25 =>
  (zBL i2 nl2) (wi (z12 + 1)) (z13.st_rs x14.Kept.1 (x21.set (Int.toNat x17.N) x19.B))) else (zC3 i2 z13)
def yJ (p0 : (Option Nat)) (w0 : Hp) : Option (Int × Hp) :=
ptM p0 (none) (fun i2 =>
Option.bind (w0.ge_rd i2) fun x3 =>
bif x3.Off then (some (30, w0)) else (Option.bind (zBu (some i2) w0) fun x6 =>
bif x6.1 then (some (30, x6.2)) else (zBL i2 ((((x6.2).rd.map fun x => x.Wait.length).sum + 1)) 0 x6.2)))
def zAM (p0 : (List UInt8)) (p1 : (List UInt8)) : Option (List UInt8) :=
Option.bind (appI 1 [] p0) fun x1 =>
Option.bind (appI 1 x1 p1) fun x3 =>
some x3
def zFU (y5 : Int) (y6 : (List UInt8)) : Option ((List UInt8) × Int) :=
bif (decide (y5 > 0)) then (some ([], 2)) else (some (y6, 0))
def zDA (p1 : Int) : Nat → Int → (List UInt8) → Int → Option ((List UInt8) × Int)
 | 0, _, _, _ => none
 | nl2 + 1, z8, z9, z10 =>
  bif (decide (z10 < p1)) then (Option.bind (appI 1 z9 [(U8 (Int.tmod z8 256))]) fun x12 =>
  (zDA p1 nl2) (wi (Int.tdiv z8 256)) x12 (wi (z10 + 1))) else (zFU z8 z9)
def zHI (p0 : Int) (p1 : Int) : Option ((List UInt8) × Int) :=
bif (decide (p1 < 1)) then (some ([], 2)) else (bif (decide (p1 > 8)) then (some ([], 2)) else (bif (decide (p0 < 0)) then (some ([], 2)) else (bif (decide (p0 > 4611686018427387904)) then (some ([], 2)) else (zDA p1 (Int.toNat p1 + 1) p0 [] 0))))
def zCc (p0 : (List UInt8)) : Nat → (List UInt8) → Int → Option (List UInt8)
 | 0, _, _ => none
 | nl1 + 1, z1, z2 =>
  bif (decide (z2 ≥ 0)) then (Option.bind (idx p0 z2) fun x4 =>
  Option.bind (appI 1 z1 [x4]) fun x6 =>
  (zCc p0 nl1) x6 (wi (z2 - 1))) else (some z1)
def zEL (p0 : (List UInt8)) : Option (List UInt8) :=
zCc p0 (Int.toNat (wi ((p0.length : Int) - 1)) + 2) [] (wi ((p0.length : Int) - 1))
def zGG (p0 : Int) (p1 : Int) : Option ((List UInt8) × Int) :=
Option.bind (zHI p0 p1) fun x1 =>
Option.bind (zEL x1.1) fun x3 =>
some (x3, x1.2)
def zBf (p0 : Int) (p1 : Int) : Option (List UInt8) :=
Option.bind (zGG p0 p1) fun x1 =>
some x1.1
def zDV (p0 : Int) (p1 : Int) : Option (List UInt8) :=
Option.bind (zBf p0 8) fun x1 =>
Option.bind (zBf p1 4) fun x3 =>
Option.bind (zAM x1 x3) fun x5 =>
Option.bind (mkI 1 44) fun x7 =>
Option.bind (zAM x5 (List.replicate x7 (0 : UInt8))) fun x9 =>
Option.bind (zBf p0 8) fun x11 =>
Option.bind (zAM x9 x11) fun x13 =>
some x13
def zDG (i3 : Nat) (p1 : Int) (y7 : Hp) : Option (Int × Hp) :=
Option.bind (yJ (some i3) y7) fun x8 =>
bif (x8.1 != 0) then (some (x8.1, x8.2)) else (Option.bind (zDV 1 p1) fun x11 =>
Option.bind (yH (some i3) 0 x11 x8.2) fun x13 =>
bif (x13.1 != 0) then (some (x13.1, x13.2)) else (Option.bind (yJ (some i3) x13.2) fun x16 =>
some (x16.1, x16.2)))
def zCd (p1 : Int) (i3 : Nat) : Nat → Int → Hp → Option (Int × Hp)
 | 0, _, _ => none
 | nl2 + 1, z18, z19 =>
  bif (decide (z18 < (wi (p1 + 2)))) then (Option.bind (mkI 1 64) fun x21 =>
  Option.bind (yH (some i3) z18 (List.replicate x21 (0 : UInt8)) z19) fun x23 =>
  bif (x23.1 != 0) then (some (x23.1, x23.2)) else ((zCd p1 i3 nl2) (wi (z18 + 1)) x23.2)) else (zDG i3 p1 z19)
def zDi (p0 : (Option Nat)) (p1 : Int) (w0 : Hp) : Option (Int × Hp) :=
bif (decide (p1 < 3)) then (some (2, w0)) else (ptM p0 (none) (fun i3 =>
Option.bind (w0.ge_rd i3) fun x4 =>
bif (decide (p1 > (wi ((x4.Kept.2 : Int) - 3)))) then (some (2, w0)) else (zCd p1 i3 (Int.toNat (wi (p1 + 2)) + 1) 1 w0)))
def zAd (p0 : (Option Nat)) (w0 : Hp) : Option Int :=
ptM p0 (none) (fun i2 =>
Option.bind (w0.ge_rl i2) fun x3 =>
ptM x3.D (none) (fun i6 =>
Option.bind (w0.ge_rd i6) fun x7 =>
bif x7.Off then (some 30) else (bif (x7.Lives != x3.Life) then (some 30) else (some 0))))
def qG (p0 : (Option Nat)) (w0 : Hp) : Option (Int × Hp) :=
Option.bind (zAd p0 w0) fun x1 =>
bif (x1 != 0) then (some (x1, w0)) else (ptM p0 (none) (fun i5 =>
Option.bind (w0.ge_rl i5) fun x6 =>
bif (decide (x6.Base > (wi (2305843009213693952 - x6.Size)))) then (some (3, w0)) else (Option.bind (yJ x6.D w0) fun x9 =>
bif (x9.1 != 0) then (some (x9.1, x9.2)) else (Option.bind (x9.2.ge_rl i5) fun x12 =>
Option.bind (zDV (wi (x12.Base + x12.Size)) x12.Size) fun x14 =>
Option.bind (yH x12.D (wi (1 - x12.Slot)) x14 x9.2) fun x16 =>
bif (x16.1 != 0) then (some (x16.1, x16.2)) else (Option.bind (x16.2.ge_rl i5) fun x19 =>
Option.bind (yJ x19.D x16.2) fun x21 =>
bif (x21.1 != 0) then (some (x21.1, x21.2)) else (Option.bind (x21.2.ge_rl i5) fun x24 =>
some (0, (((x21.2.st_rl i5 (zT.mk x24.D x24.Size x24.Base (wi (1 - x24.Slot)) x24.Used x24.Life x24.Commits)).st_rl i5 (zT.mk x24.D x24.Size (wi (((zT.mk x24.D x24.Size x24.Base (wi (1 - x24.Slot)) x24.Used x24.Life x24.Commits).Base) + ((zT.mk x24.D x24.Size x24.Base (wi (1 - x24.Slot)) x24.Used x24.Life x24.Commits).Size))) (wi (1 - x24.Slot)) x24.Used x24.Life x24.Commits)).st_rl i5 (zT.mk x24.D x24.Size (wi (((zT.mk x24.D x24.Size x24.Base (wi (1 - x24.Slot)) x24.Used x24.Life x24.Commits).Base) + ((zT.mk x24.D x24.Size x24.Base (wi (1 - x24.Slot)) x24.Used x24.Life x24.Commits).Size))) (wi (1 - x24.Slot)) 0 x24.Life x24.Commits)))))))))
def zBC (p1 : (List zC)) (p0 : (Option Nat)) : Nat → Int → Hp → Option (Int × Hp)
 | 0, _, _ => none
 | nl1 + 1, z1, z2 =>
  bif (decide (z1 < (p1.length : Int))) then (ptM p0 (none) (fun i5 =>
  Option.bind (z2.ge_rl i5) fun x6 =>
  Option.bind (idx p1 z1) fun x8 =>
  Option.bind (idx p1 z1) fun x10 =>
  Option.bind (yH x6.D (wi ((wi (2 + x6.Size)) + x8.Home)) x10.Data z2) fun x12 =>
  bif (x12.1 != 0) then (some (x12.1, x12.2)) else ((zBC p1 p0 nl1) (wi (z1 + 1)) x12.2))) else (some (0, z2))
def zBm (p0 : (Option Nat)) (p1 : (List zC)) (w0 : Hp) : Option (Int × Hp) :=
zBC p1 p0 (p1.length + 1) 0 w0
def zGd (y3 : Int) : Option (Int × Int) :=
some (y3, 0)
def zDm (kl2 : Int → Int → Option (Int × Int)) (z4 : Int) (x7 : UInt8) (z5 : Int) (y9 : Bool) : Option (Int × Int) :=
kl2 (wi ((wi (256 * z4)) + (x7.toNat : Int))) (wi (z5 + 1))
def zA9 (p0 : (List UInt8)) : Nat → Int → Int → Option (Int × Int)
 | 0, _, _ => none
 | nl2 + 1, z4, z5 =>
  bif (decide (z5 < (p0.length : Int))) then (Option.bind (idx p0 z5) fun x7 =>
  bif (decide (z4 > 18014398509481984)) then (some (0, 11)) else (bif (z4 == 18014398509481984) then (bif (decide ((x7.toNat : Int) > 0)) then (some (0, 11)) else (zDm (zA9 p0 nl2) z4 x7 z5 (decide ((x7.toNat : Int) > 0)))) else (zDm (zA9 p0 nl2) z4 x7 z5 false))) else (zGd z4)
def zEc (p0 : (List UInt8)) : Option (Int × Int) :=
bif ((p0.length : Int) == 0) then (some (0, 10)) else (bif (decide ((p0.length : Int) > 8)) then (some (0, 2)) else (zA9 p0 (p0.length + 1) 0 0))
def zC5 (p0 : (Option Nat)) (p1 : Int) (w0 : Hp) : Option (Int × Int) :=
Option.bind (zBP p0 p1 w0) fun x1 =>
bif (x1.2 != 0) then (some (0, 0)) else (Option.bind (cutI x1.1 0 8) fun x4 =>
Option.bind (zEc x4) fun x6 =>
Option.bind (cutI x1.1 8 12) fun x8 =>
Option.bind (zEc x8) fun x10 =>
bif (x6.2 != 0) then (some (0, 0)) else (bif (decide (x6.1 < 1)) then (some (0, 0)) else (bif (decide (x6.1 > 2305843009213693952)) then (some (0, 0)) else (bif (decide (x10.1 < 3)) then (some (0, 0)) else (ptM p0 (none) (fun i17 =>
Option.bind (w0.ge_rd i17) fun x18 =>
bif (decide (x10.1 > (wi ((x18.Kept.2 : Int) - 3)))) then (some (0, 0)) else (Option.bind (zDV x6.1 x10.1) fun x21 =>
Option.bind (zAe x1.1 x21) fun x23 =>
bif (!x23) then (some (0, 0)) else (some (x6.1, x10.1)))))))))
def zGe (y1 : Int) : Option Int :=
some (IntKind.u32.wrap (4294967295 - y1))
def zGo (kl2 : Int → Int → Option Int) (z3 : Int) (y5 : Int) : Option Int :=
kl2 y5 (wi (z3 + 1))
def zDj (kl4 : Int → Int → Int → Option Int) (z9 : Int) (z10 : Int) (y12 : Int) : Option Int :=
kl4 y12 (IntKind.u32.wrap (Int.tdiv z9 2)) (wi (z10 + 1))
def zB5 (kl2 : Int → Int → Option Int) (z3 : Int) : Nat → Int → Int → Int → Option Int
 | 0, _, _, _ => none
 | nl4 + 1, z8, z9, z10 =>
  bif (decide (z10 < 8)) then (bif ((Int.tmod (IntKind.u32.wrap (z8 + z9)) 2) == 1) then (zDj (zB5 kl2 z3 nl4) z9 z10 (IntKind.u32.wrap ((((BitVec.ofInt IntKind.u32.bits (IntKind.u32.wrap (Int.tdiv z8 2))) ^^^ (BitVec.ofInt IntKind.u32.bits 3988292384)).toNat : Nat) : Int))) else (zDj (zB5 kl2 z3 nl4) z9 z10 (IntKind.u32.wrap (Int.tdiv z8 2)))) else (zGo kl2 z3 z8)
def zBe (p0 : (List UInt8)) : Nat → Int → Int → Option Int
 | 0, _, _ => none
 | nl2 + 1, z2, z3 =>
  bif (decide (z3 < (p0.length : Int))) then (Option.bind (idx p0 z3) fun x6 =>
  zB5 (zBe p0 nl2) z3 (Int.toNat 8 + 1) z2 (x6.toNat : Int) 0) else (zGe z2)
def zF5 (p0 : (List UInt8)) : Option Int :=
zBe p0 (p0.length + 1) 4294967295 0
def zAK (p0 : Int) (p1 : Int) (p2 : (List UInt8)) (p3 : Int) : Option (List UInt8) :=
Option.bind (zBf p1 4) fun x1 =>
Option.bind (zAM [(U8 p0)] x1) fun x3 =>
Option.bind (zAM x3 p2) fun x5 =>
Option.bind (mkI 1 15) fun x7 =>
Option.bind (zAM x5 (List.replicate x7 (0 : UInt8))) fun x9 =>
Option.bind (zBf p3 8) fun x11 =>
Option.bind (zAM x9 x11) fun x13 =>
Option.bind (zF5 x13) fun x15 =>
Option.bind (zBf (wi x15) 4) fun x17 =>
Option.bind (zAM x9 x17) fun x19 =>
Option.bind (zAM x19 x11) fun x21 =>
some x21
def zAS (kl1 : (List zC) → Int → Option ((List zC) × Int)) (z2 : Int) (x5 : zT) (w0 : Hp) (x12 : (Int × Int)) (x8 : (List UInt8)) (z1 : (List zC)) : Option ((List zC) × Int) :=
bif (decide ((wi (z2 + 1)) ≥ x5.Size)) then (some ([], 0)) else (ptM x5.D (none) (fun i16 =>
Option.bind (w0.ge_rd i16) fun x17 =>
bif (decide (x12.1 ≥ (wi ((wi ((x17.Kept.2 : Int) - 2)) - x5.Size)))) then (some ([], 0)) else (Option.bind (cutI x8 5 37) fun x20 =>
Option.bind (zAK 1 x12.1 x20 (wi (x5.Base + z2))) fun x22 =>
Option.bind (zAe x8 x22) fun x24 =>
bif (!x24) then (some ([], 0)) else (Option.bind (zBi x5.D (wi (3 + z2)) w0) fun x27 =>
Option.bind (cutI x27 5 37) fun x29 =>
Option.bind (zAK 2 x12.1 x29 (wi ((wi (x5.Base + z2)) + 1))) fun x31 =>
Option.bind (zAe x27 x31) fun x33 =>
bif (!x33) then (some ([], 0)) else (Option.bind (cutI x8 5 37) fun x36 =>
Option.bind (cutI x27 5 37) fun x38 =>
Option.bind (zAM x36 x38) fun x40 =>
Option.bind (appI 32 z1 [(zC.mk x12.1 x40)]) fun x42 =>
kl1 x42 (wi (z2 + 2)))))))
def zAE (p0 : (Option Nat)) (w0 : Hp) (p1 : Int) : Nat → (List zC) → Int → Option ((List zC) × Int)
 | 0, _, _ => none
 | nl1 + 1, z1, z2 =>
  ptM p0 (none) (fun i4 =>
  Option.bind (w0.ge_rl i4) fun x5 =>
  bif (decide (z2 < x5.Size)) then (Option.bind (zBi x5.D (wi (2 + z2)) w0) fun x8 =>
  Option.bind (cutI x8 1 5) fun x10 =>
  Option.bind (zEc x10) fun x12 =>
  bif (decide ((z1.length : Int) > 0)) then (bif (x12.1 == (z1.length : Int)) then (Option.bind (mkI 1 32) fun x46 =>
  Option.bind (zAK 3 x12.1 (List.replicate x46 (0 : UInt8)) (wi (x5.Base + z2))) fun x48 =>
  Option.bind (zAe x8 x48) fun x50 =>
  bif x50 then (some (z1, (wi ((wi (z2 + 1)) - p1)))) else (zAS (zAE p0 w0 p1 nl1) z2 x5 w0 x12 x8 z1)) else (zAS (zAE p0 w0 p1 nl1) z2 x5 w0 x12 x8 z1)) else (zAS (zAE p0 w0 p1 nl1) z2 x5 w0 x12 x8 z1)) else (some ([], 0)))
def zEi (p0 : (Option Nat)) (p1 : Int) (w0 : Hp) : Option ((List zC) × Int) :=
zAE p0 w0 p1 (16400) [] p1
def zBA (p0 : (Option Nat)) (w0 : Hp) : Nat → (List zC) → Int → Option (List zC)
 | 0, _, _ => none
 | nl1 + 1, z1, z2 =>
  Option.bind (zEi p0 z2 w0) fun x3 =>
  bif (x3.2 == 0) then (some z1) else (Option.bind (appI 32 z1 x3.1) fun x6 =>
  (zBA p0 w0 nl1) x6 (wi (z2 + x3.2)))
def zCo (p0 : (Option Nat)) (w0 : Hp) : Option (List zC) :=
zBA p0 w0 (16400) [] 0
def zDz (w0 : Hp) (y6 : Hp) : Option ((Option Nat) × Int × Hp) :=
Option.bind (y6.ge_rl w0.ln_rl) fun x7 =>
bif (x7.Base == 0) then (some (none, 11, y6)) else (bif (decide (x7.Base > (wi (2305843009213693952 - x7.Size)))) then (some (none, 3, y6)) else (Option.bind (zCo (some w0.ln_rl) y6) fun x11 =>
Option.bind (zBm (some w0.ln_rl) x11 y6) fun x13 =>
bif (x13.1 != 0) then (some (none, x13.1, x13.2)) else (Option.bind (qG (some w0.ln_rl) x13.2) fun x16 =>
bif (x16.1 != 0) then (some (none, x16.1, x16.2)) else (some ((some w0.ln_rl), 0, x16.2)))))
def zDO (kl2 : Int → Hp → Option ((Option Nat) × Int × Hp)) (z19 : Int) (y22 : Hp) : Option ((Option Nat) × Int × Hp) :=
kl2 (wi (z19 + 1)) y22
def zAq (i2 : Nat) (w0 : Hp) : Nat → Int → Hp → Option ((Option Nat) × Int × Hp)
 | 0, _, _ => none
 | nl2 + 1, z19, z20 =>
  bif (decide (z19 < 2)) then (Option.bind (zC5 (some i2) z19 z20) fun x23 =>
  Option.bind (z20.ge_rl w0.ln_rl) fun x25 =>
  bif (decide (x23.1 > x25.Base)) then (zDO (zAq i2 w0 nl2) z19 (((z20.st_rl w0.ln_rl (zT.mk x25.D x25.Size x23.1 x25.Slot x25.Used x25.Life x25.Commits)).st_rl w0.ln_rl (zT.mk x25.D x23.2 x23.1 x25.Slot x25.Used x25.Life x25.Commits)).st_rl w0.ln_rl (zT.mk x25.D x23.2 x23.1 z19 x25.Used x25.Life x25.Commits))) else (zDO (zAq i2 w0 nl2) z19 z20)) else (zDz w0 z20)
def zC9 (p0 : (Option Nat)) (w0 : Hp) : Option ((Option Nat) × Int × Hp) :=
ptM p0 (none) (fun i2 =>
Option.bind (w0.ge_rd i2) fun x3 =>
bif x3.Off then (some (none, 30, w0)) else (zAq i2 w0 (Int.toNat 2 + 1) 0 (w0.nw_rl (zT.mk (some i2) 0 0 0 0 x3.Lives 0))))
def yT (p0 : (Option Nat)) (w0 : Hp) : Option Int :=
ptM p0 (none) (fun i2 =>
Option.bind (w0.ge_rl i2) fun x3 =>
ptM x3.D (none) (fun i6 =>
Option.bind (w0.ge_rd i6) fun x7 =>
some (wi ((wi ((x7.Kept.2 : Int) - 2)) - x3.Size))))
def zBI (i5 : Nat) (p1 : (List zC)) (y13 : Hp) : Option (Int × Hp) :=
Option.bind (y13.ge_rl i5) fun x14 =>
Option.bind (yJ x14.D y13) fun x16 =>
bif (x16.1 != 0) then (some (x16.1, x16.2)) else (Option.bind (x16.2.ge_rl i5) fun x19 =>
Option.bind (zBm (some i5) p1 ((x16.2.st_rl i5 (zT.mk x19.D x19.Size x19.Base x19.Slot (wi (x19.Used + (wi ((wi (2 * (p1.length : Int))) + 1)))) x19.Life x19.Commits)).st_rl i5 (zT.mk x19.D x19.Size x19.Base x19.Slot (wi (x19.Used + (wi ((wi (2 * (p1.length : Int))) + 1)))) x19.Life (wi (((zT.mk x19.D x19.Size x19.Base x19.Slot (wi (x19.Used + (wi ((wi (2 * (p1.length : Int))) + 1)))) x19.Life x19.Commits).Commits) + 1))))) fun x21 =>
some (x21.1, x21.2))
def zBE (kl4 : Int → Hp → Option (Int × Hp)) (x28 : zT) (x11 : zT) (z23 : Int) (z24 : Hp) (y32 : (List UInt8)) : Option (Int × Hp) :=
Option.bind (yH x28.D (wi ((wi (2 + x11.Used)) + z23)) y32 z24) fun x33 =>
bif (x33.1 != 0) then (some (x33.1, x33.2)) else (kl4 (wi (z23 + 1)) x33.2)
def yQ (p1 : (List zC)) (i5 : Nat) (x11 : zT) : Nat → Int → Hp → Option (Int × Hp)
 | 0, _, _ => none
 | nl4 + 1, z23, z24 =>
  bif (decide (z23 < (wi ((wi (2 * (p1.length : Int))) + 1)))) then (Option.bind (mkI 1 32) fun x26 =>
  Option.bind (z24.ge_rl i5) fun x28 =>
  Option.bind (zAK 3 (p1.length : Int) (List.replicate x26 (0 : UInt8)) (wi ((wi (x28.Base + x11.Used)) + z23))) fun x30 =>
  bif (decide (z23 < (wi ((wi ((wi (2 * (p1.length : Int))) + 1)) - 1)))) then (Option.bind (idx p1 (wi (Int.tdiv z23 2))) fun x37 =>
  Option.bind (idx p1 (wi (Int.tdiv z23 2))) fun x39 =>
  Option.bind (cutI x39.Data (wi (32 * (Int.tmod z23 2))) (wi ((wi (32 * (Int.tmod z23 2))) + 32))) fun x41 =>
  Option.bind (zAK (wi (1 + (Int.tmod z23 2))) x37.Home x41 (wi ((wi (x28.Base + x11.Used)) + z23))) fun x43 =>
  zBE (yQ p1 i5 x11 nl4) x28 x11 z23 z24 x43) else (zBE (yQ p1 i5 x11 nl4) x28 x11 z23 z24 x30)) else (zBI i5 p1 z24)
def zAm (i5 : Nat) (p1 : (List zC)) (y10 : Hp) : Option (Int × Hp) :=
Option.bind (y10.ge_rl i5) fun x11 =>
yQ p1 i5 x11 (Int.toNat (wi ((wi (2 * (p1.length : Int))) + 1)) + 1) 0 y10
def zBQ (p0 : (Option Nat)) (w0 : Hp) (p1 : (List zC)) : Option (Int × Hp) :=
ptM p0 (none) (fun i5 =>
Option.bind (w0.ge_rl i5) fun x6 =>
bif (decide ((wi ((wi (2 * (p1.length : Int))) + 1)) > x6.Size)) then (some (3, w0)) else (bif ((p1.length : Int) == 0) then (some (0, w0)) else (bif (decide ((wi ((wi (2 * (p1.length : Int))) + 1)) > (wi (x6.Size - x6.Used)))) then (Option.bind (qG (some i5) w0) fun x46 =>
bif (x46.1 != 0) then (some (x46.1, x46.2)) else (zAm i5 p1 x46.2)) else (zAm i5 p1 w0))))
def zB8 (kl6 : Int → Option (Int × Hp)) (z49 : Int) (y51 : Int) (y52 : (List UInt8)) (y53 : Int) (y54 : (List UInt8)) (y55 : Int) (y56 : (Option Nat)) (y57 : Int) (y58 : Bool) (y59 : Int) (y60 : (List UInt8)) (y61 : (List UInt8)) (y62 : (List UInt8)) (y63 : Int) (y64 : Bool) : Option (Int × Hp) :=
kl6 (wi (z49 + 1))
def qU (p1 : (List zC)) (w0 : Hp) (p0 : (Option Nat)) : Nat → Int → Option (Int × Hp)
 | 0, _ => none
 | nl6 + 1, z49 =>
  bif (decide (z49 < (p1.length : Int))) then (Option.bind (idx p1 z49) fun x65 =>
  bif (decide (x65.Home < 0)) then (some (2, w0)) else (Option.bind (idx p1 z49) fun x68 =>
  ptM p0 (Option.bind (yT none w0) fun x72 =>
  bif (decide (x68.Home ≥ x72)) then (some (2, w0)) else (Option.bind (idx p1 z49) fun x75 =>
  bif ((x75.Data.length : Int) != 64) then (some (2, w0)) else (zB8 (qU p1 w0 p0 nl6) z49 x68.Home x68.Data x68.Home x68.Data x68.Home none x72 (decide (x68.Home ≥ x72)) x75.Home x75.Data x75.Data x75.Data (x75.Data.length : Int) ((x75.Data.length : Int) != 64)))) (fun i71 =>
  Option.bind (yT (some i71) w0) fun x78 =>
  bif (decide (x68.Home ≥ x78)) then (some (2, w0)) else (Option.bind (idx p1 z49) fun x81 =>
  bif ((x81.Data.length : Int) != 64) then (some (2, w0)) else (zB8 (qU p1 w0 p0 nl6) z49 x68.Home x68.Data x68.Home x68.Data x68.Home (some i71) x78 (decide (x68.Home ≥ x78)) x81.Home x81.Data x81.Data x81.Data (x81.Data.length : Int) ((x81.Data.length : Int) != 64)))))) else (zBQ p0 w0 p1)
def yV (p0 : (Option Nat)) (p1 : (List zC)) (w0 : Hp) : Option (Int × Hp) :=
Option.bind (zAd p0 w0) fun x1 =>
bif (x1 != 0) then (some (x1, w0)) else (qU p1 w0 p0 (p1.length + 1) 0)
def zCs (p0 : (Option Nat)) (p1 : Int) (w0 : Hp) : Option ((List UInt8) × Int) :=
Option.bind (zAd p0 w0) fun x1 =>
bif (x1 != 0) then (some ([], x1)) else (bif (decide (p1 < 0)) then (some ([], 31)) else (Option.bind (yT p0 w0) fun x5 =>
bif (decide (p1 ≥ x5)) then (some ([], 31)) else (ptM p0 (none) (fun i9 =>
Option.bind (w0.ge_rl i9) fun x10 =>
Option.bind (zBP x10.D (wi ((wi (2 + x10.Size)) + p1)) w0) fun x12 =>
some (x12.1, x12.2)))))
end Go.Proofs.YtjomnccladjpgaaGreat

/-
 slices.Sorted(maps.Keys(m)) of a map of the heap whose keys are ints: what comes is the keys, sorted.
-/
namespace Go.Proofs.YtjomnccladjpgaaGreat
open Go Go.RowKit
set_option linter.unusedVariables false
def keysI {ν : Type} (l : List (Int × ν)) : Option (List Int) :=
 if l.length * 8 ≤ 140737488355328 ∧ (l.map (·.1)).Nodup ∧ ∀ p ∈ l, -9223372036854775808 ≤ p.1 ∧ p.1 ≤ 9223372036854775807 then some ((l.map (·.1)).mergeSort fun x y => decide (x ≤ y)) else none
theorem keysI_iff {ν : Type} {l : List (Int × ν)} {z : List Int} (h : keysI l = some z) : (l.length * 8 ≤ 140737488355328 ∧ (l.map (·.1)).Nodup ∧ ∀ p ∈ l, -9223372036854775808 ≤ p.1 ∧ p.1 ≤ 9223372036854775807) ∧ z = (l.map (·.1)).mergeSort fun x y => decide (x ≤ y) := by
 unfold keysI at h
 split at h
 · rename_i hc; injection h with h; exact ⟨hc, h.symm⟩
 · cases h
def KeysW (P : Program) (fn g : Nat) : Prop := ∃ T, ∀ (mb : Option Nat) (W : World), Calls P fn #[.map mb] W fun e w' => e = .returned (.func (.func g) #[] #[.pointer (some ⟨W.heap.size, 0, none⟩)]) ∧ w' = W.alloc (.cells #[.map mb] T)
def SortedW (P : Program) (fn g kt : Nat) : Prop := ∃ E, ∀ (b Bm nn : Nat) (D0 : DataW Unit) (R : Value → Option (DataW Unit × List MemPlace)) (w : World), w.ownsMap P kt R b nn D0 → Bm < w.heap.size → w.cell? ⟨Bm, 0, none⟩ = some (.map (some b)) → Maps.size D0 ≤ maxLen → Maps.size D0 * 8 ≤ 140737488355328 →
 Calls P fn #[.func (.func g) #[] #[.pointer (some ⟨Bm, 0, none⟩)]] w fun e w' => ∃ (v : Value) (ss : List Int), e = .returned v ∧ ss.Perm (intKeys D0) ∧ w'.ownsRow w.heap.size E 1 v ss.length ((ss.mergeSort fun x y => decide (x ≤ y)).map encZ) ∧ Below w.heap.size w w'
section
variable {w0 : World} {m0 : Mem} {o0 : OwnM} {G : GD} {pins : List Nat} {S M : Nat → A} {a : Act} {w : World} {m : Mem} {o : OwnM} {P : Program} {N : Nat} {op : Oper} {d : Nat} {f : Nat → A} {c : Nat}
theorem h_keys (hM : Mk M S) {fn g : Nat} {x fx : Operand} {ts : Array TypeId} (hK : KeysW P fn g) (hop : op.op = .call { callee := .value fx, args := ⟨[x]⟩, argTypes := ts }) (hfx : vO M fx = some (.func (.func fn) #[] #[])) (hx : cpO M x = .t (.mpt (OB + c))) (hd : op.dst = some d) (hok : okD N pins S d = true)
  {F : Func} (hfn : P.funcs[fn]? = some F) (hbody : F.body.isNone = false) (hname : (F.name == "runtime.NumGoroutine") = false) : OpH P pins N op S (app S [(d, .cl g [[.mpt (OB + c)]])]) := by
 refine .of' (e := [(d, _)]) fun hN hlo => ⟨?_, zB3 (qX hN hok)⟩
 intro w0 m0 o0 G a w m o hNa I K Q hK2
 obtain ⟨h1, h2, h3⟩ := qH (yM hN hok)
 have hxr := qS hM.hx I x 0
 rw [hx] at hxr
 obtain ⟨gm, k1, k2⟩ := hxr
 unfold Oper.wp
 rw [zGI hM.hx I (xs := [x]) hop hfx hfn hbody hname]
 simp only [List.map_cons, List.map_nil]
 rw [k2]
 obtain ⟨T, hK⟩ := hK
 refine Calls.mono (hK (some gm) w) ?_
 rintro e w' ⟨rfl, rfl⟩
 have J := I.put (w' := w.alloc (.cells #[.map (some gm)] T)) (m' := newM m w.heap.size fun p => (#[Value.map (some gm)] : Array Value)[p]?) d (.cl g [[.mpt (OB + c)]]) (.func (.func g) #[] #[.pointer (some ⟨w.heap.size, 0, none⟩)]) (by omega) h2
  ⟨_, rfl, rfl, fun i l hi => by
   cases i with
   | succ i => simp at hi
   | zero =>
    injection hi with hi
    subst hi
    refine ⟨w.heap.size, rfl, fun j z hj => ?_⟩
    cases j with
    | succ j => simp at hj
    | zero =>
     injection hj with hj
     subst hj
     exact ⟨.map (some gm), by rw [zBt]; rfl, gm, k1, rfl⟩⟩
  (I.same.trans ((Same.alloc (fun _ => False) w _).weaken fun _ h => h.elim)) (fun b p u hu => by
   unfold newM at hu
   split at hu
   ·
    rename_i e
    subst e
    have e2 : (w.alloc (.cells #[.map (some gm)] T)).heap[w.heap.size]? = some (.cells #[.map (some gm)] T (0, 0)) := (MapKept.heap_alloc w _).1
    simp only [World.cell?, e2]
    exact hu
   ·
    have h1 := I.sat b p u hu
    have hlt : b < w.heap.size := by have := World.block_lt_of_cell? w _ h1; simpa using this
    rw [World.cell?_of_block (w := w) ((Same.alloc (fun _ => False) w _).block b hlt id)]
    exact h1)
  (zHE I (Nat.le_refl _) _) (fun b hb => by funext p; unfold newM; rw [if_neg (by omega)]) (fun b hb => (Same.alloc (fun _ => False) w _).block b hb id) (Same.alloc (fun _ => False) w _).size
 rw [← hd] at J
 exact hK2 _ _ _ _ (by rw [zBT, hNa]) J
theorem rows_z (l : List Int) (i : Nat) (r : List D) (h : (l.map fun z => [D.lit (.int .i64 z)])[i]? = some r) : ∃ z, l[i]? = some z ∧ r = [.lit (.int .i64 z)] := by
 rw [List.getElem?_map] at h
 cases hz : l[i]? with
 | none => rw [hz] at h; cases h
 | some z => rw [hz] at h; injection h with h; exact ⟨z, rfl, h.symm⟩
theorem h_sortedK {ν : Type} {cv : ν → D} (hM : Mk M S) (hk : S HK = .hp f) {fn g s kt : Nat} {fx : Operand} {ts : Array TypeId} {l : List (Int × ν)} {z : List Int} (hW : SortedW P fn g kt) (hkt : P.underlying kt = some (.int .i64)) (hop : op.op = .call { callee := .value fx, args := ⟨[.tmp s]⟩, argTypes := ts }) (hfx : vO M fx = some (.func (.func fn) #[] #[])) (hxs : M s = .cl g [[.mpt (OB + c)]]) (hf : f c = mpA (fun z : Int => Value.int .i64 z) cv l) (hz : keysI l = some z) (hd : op.dst = some d) (hok : okD N pins S d = true)
  {F : Func} (hfn : P.funcs[fn]? = some F) (hbody : F.body.isNone = false) (hname : (F.name == "runtime.NumGoroutine") = false) : OpH P pins N op S (app S [(d, .t (.d (.seq 1 (z.map fun z => [.lit (.int .i64 z)]))))]) := by
 obtain ⟨⟨q1, q2, q3⟩, rfl⟩ := keysI_iff hz
 refine .of' (e := [(d, _)]) fun hN hlo => ⟨?_, zB3 (qX hN hok)⟩
 intro w0 m0 o0 G a w m o hNa I K Q hK2
 obtain ⟨h1, h2, h3⟩ := qH (yM hN hok)
 have hs := I.slots s
 have hMs : hx S s = .cl g [[.mpt (OB + c)]] := by
  rcases hM s with e | e
  · rw [e] at hxs; cases hxs
  · rw [e] at hxs; exact zCe hxs (by simp)
 rw [hMs] at hs
 obtain ⟨ptrs, p1, p2, p3⟩ := hs
 obtain ⟨Bm, r1, r2⟩ := p3 0 _ rfl
 obtain ⟨um, r3, gm, r4, rfl⟩ := r2 0 _ rfl
 have hm := I.slots (OB + (OB + c))
 rw [zE3 hlo hk, hf] at hm
 obtain ⟨gm', s1, s2, es, ck, s3, s4, s5⟩ := hm
 obtain rfl := I.inj _ _ _ r4 s1
 have hE := zKe s5
 have hcell := I.sat _ _ _ r3
 have hBm : Bm < w.heap.size := by have := World.block_lt_of_cell? w _ hcell; simpa using this
 have hptr : ptrs = #[.pointer (some ⟨Bm, 0, none⟩)] := by
  apply Array.ext_getElem?
  intro i
  cases i with
  | zero => rw [r1]; rfl
  | succ i => rw [Array.getElem?_eq_none (by rw [p2]; simp)]; simp
 have hkeys : es.toList.map (·.key) = l.map fun p => Value.int .i64 p.1 := by
  apply List.ext_getElem?
  intro i
  rw [List.getElem?_map, List.getElem?_map]
  cases hl : l[i]? with
  | none =>
   rw [List.getElem?_eq_none (by rw [hE.1]; exact List.getElem?_eq_none_iff.1 hl)]
   rfl
  | some p =>
   obtain ⟨e, e1, e2, _⟩ := hE.2 i p hl
   rw [e1]
   simp [e2]
 let R : Value → Option (DataW Unit × List MemPlace) := fun _ => some (.map [], [])
 have hrd : ∀ x ∈ es.toList, ∃ a : Int, x.key = .int .i64 a ∧ -9223372036854775808 ≤ a ∧ a ≤ 9223372036854775807 := fun x hx => by
  have : x.key ∈ es.toList.map (·.key) := List.mem_map.2 ⟨x, hx, rfl⟩
  rw [hkeys] at this
  obtain ⟨p, hp, e⟩ := List.mem_map.1 this
  exact ⟨p.1, e.symm, q3 p hp⟩
 have hko : ∀ a : Int, -9223372036854775808 ≤ a → a ≤ 9223372036854775807 → keyOf P kt (.int .i64 a) = some (.int .i64 a) := fun a h h' => by
  have hwf : (Lit.int .i64 a).wf = true := by simp [Lit.wf, IntKind.min, IntKind.max, IntKind.signed, IntKind.bits]; omega
  simp [keyOf, hkt, mapKey, hwf]
 have hsz : es.size = l.length := by have := hE.1; simpa using this
 have hmax : l.length ≤ maxLen := by unfold maxLen; omega
 have hstamp : MapKept.Stamped es ck := (MapKept.stamped_iff es ck).2 ⟨s4.1, s4.2, by
  have h5 : (es.toList.map (·.key)).Nodup := by
   rw [hkeys]
   have : (l.map fun p => Value.int .i64 p.1) = (l.map (·.1)).map fun z => Value.int .i64 z := by rw [List.map_map]; rfl
   rw [this]
   exact List.pairwise_map.2 (q2.imp fun hab e => hab (by injection e))
  exact List.pairwise_map.1 h5⟩
 have hrdv : ∀ x ∈ es.toList, ∃ a : Int, x.key = .int .i64 a ∧ WideElems.rg P kt R x = (Lit.int .i64 a, .map []) ∧ ∃ y, WideElems.rd P kt R x = some y := fun x hx => by
  obtain ⟨a, e1, e2, e3⟩ := hrd x hx
  have : WideElems.rd P kt R x = some (Lit.int .i64 a, .map []) := by
   unfold WideElems.rd
   rw [e1, hko a e2 e3]
   rfl
  exact ⟨a, e1, WideElems.rg_of this, _, this⟩
 have hown : w.ownsMap P kt R gm es.size (.map ((es.toList.map (WideElems.rg P kt R)).foldr DataW.insert [])) :=
  ⟨es, ck, s3, ⟨by rw [hsz]; exact hmax, hstamp, fun x hx => (hrdv x hx).choose_spec.2.2⟩, Nat.le_refl _, rfl⟩
 have hperm : (intKeys (.map ((es.toList.map (WideElems.rg P kt R)).foldr DataW.insert []))).Perm (l.map (·.1)) := by
  have e1 : (intKeys (.map ((es.toList.map (WideElems.rg P kt R)).foldr DataW.insert []))).Perm ((es.toList.map (WideElems.rg P kt R)).map fun p => intOf p.1) := (WideShapes.sorted_perm _).map _
  refine e1.trans (List.Perm.of_eq ?_)
  have e2 : (es.toList.map (WideElems.rg P kt R)).map (fun p => intOf p.1) = (es.toList.map (·.key)).map fun v => match v with | .int _ z => z | _ => 0 := by
   rw [List.map_map, List.map_map]
   refine List.map_congr_left fun x hx => ?_
   obtain ⟨a, e1, e2, _⟩ := hrdv x hx
   simp only [Function.comp, e2, e1]
   rfl
  rw [e2, hkeys, List.map_map]
  rfl
 have hsize : Maps.size (.map ((es.toList.map (WideElems.rg P kt R)).foldr DataW.insert [])) = l.length := by
  show ((es.toList.map (WideElems.rg P kt R)).foldr DataW.insert []).length = _
  rw [length_sorted, List.length_map]
  simpa using hsz
 unfold Oper.wp
 rw [zGI hM.hx I (xs := [.tmp s]) hop hfx hfn hbody hname]
 simp only [List.map_cons, List.map_nil]
 rw [show a.eval (.tmp s) = .func (.func g) #[] #[.pointer (some ⟨Bm, 0, none⟩)] by rw [← hptr]; exact p1]
 obtain ⟨E, hW⟩ := hW
 refine Calls.mono (hW gm Bm es.size _ R w hown hBm hcell (by rw [hsize]; exact hmax) (by rw [hsize]; exact q1)) ?_
 rintro e w' ⟨v, ss, rfl, hss, hrow, hb⟩
 have hsort : ss.mergeSort (fun x y => decide (x ≤ y)) = (l.map (·.1)).mergeSort fun x y => decide (x ≤ y) := mergeSort_of_perm_i (hss.trans hperm)
 rw [hsort] at hrow
 have hlen : ss.length = ((l.map (·.1)).mergeSort fun x y => decide (x ≤ y)).length := by rw [← hsort, List.length_mergeSort]
 rw [hlen] at hrow
 generalize ((l.map (·.1)).mergeSort fun x y => decide (x ≤ y)) = z at hrow hK2
 have hS : Same (fun _ => False) w w' := Same.of_below hb
 have hsat : ∀ b p u, m b p = some u → w'.cell? ⟨b, p, none⟩ = some u := fun b p u hu => by
  have h1 := I.sat b p u hu
  have hlt : b < w.heap.size := by have := World.block_lt_of_cell? w _ h1; simpa using this
  rw [World.cell?_of_block (w := w) (hS.block b hlt id)]
  exact h1
 have hwid : ∀ (i : Nat) (r : List D), (z.map fun z => [D.lit (.int .i64 z)])[i]? = some r → r.length = 1 := fun i r h => by
  obtain ⟨_, _, rfl⟩ := rows_z z i r h
  rfl
 rcases hrow.2 with ⟨rfl, hz0⟩ | ⟨g', cap, cur, rfl, hg0, hg1, hg2, hg3, hg4, hg5⟩
 ·
  have : z = [] := List.eq_nil_of_length_eq_zero hz0
  subst this
  have J := I.put (w' := w') (m' := m) d (.t (.d (.seq 1 []))) (.slice none 0 0) (by omega) h2 (.seq 1 [] none 0 0 0 (fun _ _ => undef) (Nat.le_refl _) (Nat.zero_le _) (fun h => absurd rfl h) (fun i r h => by simp at h) (fun i r j d h => by simp at h) (fun i r j d h => by simp at h)) (I.same.trans (hS.weaken fun _ h => h.elim)) hsat (Mle.refl _) (fun _ _ => rfl) (fun b hb' => hS.block b hb' id) hS.size
  rw [← hd] at J
  exact hK2 _ _ _ _ (by rw [zBT, hNa]) J
 ·
  have hxl : (z.map encZ).length = z.length := List.length_map ..
  have J := I.put (w' := w') (m' := newM m g' fun p => (z.map encZ)[p]?) d (.t (.d (.seq 1 (z.map fun z => [.lit (.int .i64 z)])))) (.slice (some ⟨g', 0, none⟩) z.length cap) (by omega) h2 (by
   have e1 : RepD (newM m g' fun p => (z.map encZ)[p]?) (.seq 1 (z.map fun z => [.lit (.int .i64 z)])) (.slice (some ⟨g', 0, none⟩) (z.map fun z => [D.lit (.int .i64 z)]).length cap) := by
    refine .seq 1 _ _ cap g' 0 (fun i _ => ((z.map encZ)[i]?).getD undef) (by rw [List.length_map]; exact hg2) hg3 (fun _ => rfl) hwid (fun i r j dd hi hj => ?_) (fun i r j dd hi hj => ?_)
    ·
     obtain ⟨v, hv, rfl⟩ := rows_z z i r hi
     cases j with
     | succ j => simp at hj
     | zero =>
      rw [zBt, Nat.zero_add, Nat.mul_one, Nat.add_zero, List.getElem?_map, hv]
      rfl
    ·
     obtain ⟨v, hv, rfl⟩ := rows_z z i r hi
     cases j with
     | succ j => simp at hj
     | zero =>
      injection hj with hj
      subst hj
      show RepD _ _ (((z.map encZ)[i]?).getD undef)
      rw [List.getElem?_map, hv]
      exact .lit _ rfl
   rw [List.length_map] at e1
   exact e1) (I.same.trans (hS.weaken fun _ h => h.elim)) (fun b p u hu => by
   unfold newM at hu
   split at hu
   ·
    rename_i e
    subst e
    change (z.map encZ)[p]? = some u at hu
    rw [← hg5, List.getElem?_take] at hu
    split at hu
    ·
     simp only [World.cell?, hg1]
     simpa using hu
    · cases hu
   · exact hsat b p u hu) (zHE I hg0 _) (fun b hb' => by funext p; unfold newM; rw [if_neg (by omega)]) (fun b hb' => hS.block b hb' id) hS.size
  rw [← hd] at J
  exact hK2 _ _ _ _ (by rw [zBT, hNa]) J
end
end Go.Proofs.YtjomnccladjpgaaGreat

/-
 Models of functions: printed by a program of this claim's own (gen.py) off the given translation.
-/
namespace Go.Proofs.YtjomnccladjpgaaGreat
open Go Go.RowKit
set_option linter.unusedVariables false
def zBJ (x6 : yN) (w0 : Hp) (i5 : Nat) (y8 : (List zC)) : Option (Int × Hp) :=
Option.bind (qJ ((yN.mk x6.l_ x6.at_ true x6.now_).l_) y8 (w0.st_tx i5 (yN.mk x6.l_ x6.at_ true x6.now_))) fun x9 =>
some (x9.1, x9.2)
def zAV (x13 : (List Int)) (x11 : (List (Int × (List UInt8)))) (x6 : yN) (w0 : Hp) (i5 : Nat) : Nat → (List zC) → Int → Option (Int × Hp)
 | 0, _, _ => none
 | nl2 + 1, z15, z16 =>
  bif (decide (z16 < (x13.length : Int))) then (Option.bind (idx x13 z16) fun x18 =>
  Option.bind (appI 32 z15 [(zC.mk x18 ((zAu x11 x18).getD ([] : (List UInt8))))]) fun x20 =>
  (zAV x13 x11 x6 w0 i5 nl2) x20 (wi (z16 + 1))) else (zBJ x6 w0 i5 z15)
def qT (p0 : (Option Nat)) (w0 : Hp) : Option (Int × Hp) :=
Option.bind (zAs p0 w0) fun x1 =>
bif (x1 != 0) then (some (x1, w0)) else (ptM p0 (none) (fun i5 =>
Option.bind (w0.ge_tx i5) fun x6 =>
Option.bind ((w0.st_tx i5 (yN.mk x6.l_ x6.at_ true x6.now_)).ge_mp ((yN.mk x6.l_ x6.at_ true x6.now_).now_)) fun x11 =>
Option.bind (keysI x11) fun x13 =>
zAV x13 x11 x6 w0 i5 (x13.length + 1) [] 0))
end Go.Proofs.YtjomnccladjpgaaGreat

/-
 The model of the document's disk.New. Printed in part by a program of this claim's own.
-/
namespace Go.Proofs.YtjomnccladjpgaaGreat
open Go Go.RowKit
set_option linter.unusedVariables false
def zCk (p0 : Int) : Nat → Int → (List (List UInt8)) → Option (List (List UInt8))
 | 0, _, _ => none
 | nl1 + 1, z1, z2 =>
  bif (decide (z1 < p0)) then (Option.bind (mkI 1 64) fun x4 =>
  Option.bind (appI 24 z2 [(List.replicate x4 (0 : UInt8))]) fun x6 =>
  (zCk p0 nl1) (wi (z1 + 1)) x6) else (some z2)
def zGN (p0 : Int) : Option (List (List UInt8)) :=
zCk p0 (Int.toNat p0 + 1) 0 []
def zFF (p0 : Int) (w0 : Hp) : Option ((Option Nat) × Hp) :=
Option.bind (zGN p0) fun z =>
bif z.isEmpty || z.any (fun r => r.isEmpty) then none else some (some w0.ln_rd, ((w0.nw_rs z).nw_rd (zO.mk (w0.ln_rs, z.length) [] (-1) false 0)))
end Go.Proofs.YtjomnccladjpgaaGreat

/-
 Models of functions: printed by a program of this claim's own (gen.py) off the given translation.
-/
namespace Go.Proofs.YtjomnccladjpgaaGreat
open Go Go.RowKit
set_option linter.unusedVariables false
def zFH (p1 : zC) (y1 : (List zC)) (y2 : Bool) : Option (List zC) :=
bif (!y2) then (Option.bind (appI 32 y1 [p1]) fun x4 =>
some x4) else (some y1)
def zC8 (kl2 : (List zC) → Bool → Int → Option (List zC)) (x10 : zC) (p1 : zC) (z8 : Int) (y12 : (List zC)) (y13 : Bool) : Option (List zC) :=
bif (x10.Home != p1.Home) then (Option.bind (appI 32 y12 [x10]) fun x15 =>
kl2 x15 y13 (wi (z8 + 1))) else (kl2 y12 y13 (wi (z8 + 1)))
def zBb (p0 : (List zC)) (p1 : zC) : Nat → (List zC) → Bool → Int → Option (List zC)
 | 0, _, _, _ => none
 | nl2 + 1, z6, z7, z8 =>
  bif (decide (z8 < (p0.length : Int))) then (Option.bind (idx p0 z8) fun x10 =>
  bif (!z7) then (bif (decide (p1.Home ≤ x10.Home)) then (Option.bind (appI 32 z6 [p1]) fun x19 =>
  zC8 (zBb p0 p1 nl2) x10 p1 z8 x19 true) else (zC8 (zBb p0 p1 nl2) x10 p1 z8 z6 z7)) else (zC8 (zBb p0 p1 nl2) x10 p1 z8 z6 z7)) else (zFH p1 z6 z7)
def zHK (p0 : (List zC)) (p1 : zC) : Option (List zC) :=
zBb p0 p1 (p0.length + 1) [] false 0
def zDb (x1 : ((Option Nat) × Int × Hp)) (i4 : Nat) (y22 : (List zC)) (y23 : Hp) : Option (Bool × Hp) :=
Option.bind (zBZ x1.1 y23) fun x24 =>
bif (x24 == (y22.length : Int)) then (Option.bind (qT x1.1 y23) fun x27 =>
Option.bind (yV (some i4) y22 x27.2) fun x29 =>
bif (x27.1 == x29.1) then (Option.bind (qT x1.1 x29.2) fun x32 =>
some ((x32.1 != 0), x32.2)) else (some (false, x29.2))) else (some (false, y23))
def zAk (kl2 : (List zC) → Int → Hp → Option (Bool × Hp)) (x40 : (Int × Hp)) (z34 : (List zC)) (z35 : Int) (x38 : zC) (x1 : ((Option Nat) × Int × Hp)) (y42 : Bool) : Option (Bool × Hp) :=
bif y42 then (bif (x40.1 != 31) then (some (false, x40.2)) else (kl2 z34 (wi (z35 + 1)) x40.2)) else (bif ((x38.Data.length : Int) != 64) then (bif (x40.1 != 2) then (some (false, x40.2)) else (kl2 z34 (wi (z35 + 1)) x40.2)) else (Option.bind (zCp x1.1 x38.Home x40.2) fun x47 =>
bif (x40.1 != 0) then (some (false, x40.2)) else (bif (x47.2 != 0) then (some (false, x40.2)) else (Option.bind (zAe x47.1 x38.Data) fun x51 =>
bif (!x51) then (some (false, x40.2)) else (Option.bind (zHK z34 x38) fun x54 =>
kl2 x54 (wi (z35 + 1)) x40.2)))))
def zAo (p2 : (List zC)) (x1 : ((Option Nat) × Int × Hp)) (i4 : Nat) : Nat → (List zC) → Int → Hp → Option (Bool × Hp)
 | 0, _, _, _ => none
 | nl2 + 1, z34, z35, z36 =>
  bif (decide (z35 < (p2.length : Int))) then (Option.bind (idx p2 z35) fun x38 =>
  Option.bind (zBw x1.1 x38.Home x38.Data z36) fun x40 =>
  bif (decide (x38.Home < 0)) then (zAk (zAo p2 x1 i4 nl2) x40 z34 z35 x38 x1 true) else (Option.bind (yT (some i4) x40.2) fun x57 =>
  zAk (zAo p2 x1 i4 nl2) x40 z34 z35 x38 x1 (decide (x38.Home ≥ x57)))) else (zDb x1 i4 z34 z36)
def zA8 (p0 : (Option Nat)) (p1 : (Option Nat)) (p2 : (List zC)) (w0 : Hp) : Option (Bool × Hp) :=
Option.bind (zDE p0 w0) fun x1 =>
ptM p1 (bif (x1.2.1 == 1) then (Option.bind (qT x1.1 x1.2.2) fun x6 =>
bif (x6.1 == 1) then (Option.bind (zBZ x1.1 x6.2) fun x9 =>
bif (x9 == 0) then (Option.bind (zFi 1) fun x12 =>
Option.bind (zBw x1.1 0 x12 x6.2) fun x14 =>
some ((x14.1 == 1), x14.2)) else (some (false, x6.2))) else (some (false, x6.2))) else (some (false, x1.2.2))) (fun i4 =>
Option.bind (zAd (some i4) x1.2.2) fun x16 =>
bif (x1.2.1 != x16) then (some (false, x1.2.2)) else (bif (x1.2.1 != 0) then (Option.bind (qT x1.1 x1.2.2) fun x20 =>
some ((x20.1 == 1), x20.2)) else (zAo p2 x1 i4 (p2.length + 1) [] 0 x1.2.2)))
def zAF (p0 : (Option Nat)) (p1 : zAx) (w0 : Hp) : Option (Bool × Hp) :=
bif (p1.Kind == 1) then (ptM p0 (none) (fun i3 =>
Option.bind (w0.ge_lo i3) fun x4 =>
Option.bind (qJ x4.l_ p1.W w0) fun x6 =>
Option.bind (x6.2.ge_lo i3) fun x8 =>
ptM x8.m_ (some ((x6.1 == 1), x6.2)) (fun i11 =>
Option.bind (yV x8.m_ p1.W x6.2) fun x12 =>
some ((x6.1 == x12.1), x12.2)))) else (bif (p1.Kind == 2) then (ptM p0 (none) (fun i16 =>
Option.bind (w0.ge_lo i16) fun x17 =>
Option.bind (zU x17.l_ w0) fun x19 =>
Option.bind (x19.2.ge_lo i16) fun x21 =>
ptM x21.m_ (some ((x19.1 == 1), x19.2)) (fun i24 =>
Option.bind (qG x21.m_ x19.2) fun x25 =>
some ((x19.1 == x25.1), x25.2)))) else (bif (p1.Kind == 3) then (ptM p0 (none) (fun i29 =>
Option.bind (w0.ge_lo i29) fun x30 =>
Option.bind (zAG x30.d_ p1.N w0) fun x32 =>
Option.bind (x32.ge_lo i29) fun x34 =>
Option.bind (zA2 x34.w_ p1.N x32) fun x36 =>
some (true, x36))) else (bif (p1.Kind == 4) then (ptM p0 (none) (fun i40 =>
Option.bind (w0.ge_lo i40) fun x41 =>
Option.bind (zAZ x41.d_ p1.B w0) fun x43 =>
Option.bind (x43.2.ge_lo i40) fun x45 =>
Option.bind (zCC x45.w_ p1.B x43.2) fun x47 =>
Option.bind (x47.ge_lo i40) fun x49 =>
Option.bind (zAG x49.d_ p1.N x47) fun x51 =>
Option.bind (x51.ge_lo i40) fun x53 =>
Option.bind (zA2 x53.w_ p1.N x51) fun x55 =>
Option.bind (x55.ge_lo i40) fun x57 =>
Option.bind (zBs x57.d_ x55) fun x59 =>
Option.bind (x59.2.2.ge_lo i40) fun x61 =>
Option.bind (zC9 x61.w_ x59.2.2) fun x63 =>
ptM x59.1 (ptM x63.1 (Option.bind (x63.2.2.ge_lo i40) fun x69 =>
bif (x59.2.1 == x63.2.1) then (some ((true == true), ((x63.2.2.st_lo i40 (qC.mk x69.d_ none x69.w_ x69.m_)).st_lo i40 (qC.mk x69.d_ none x69.w_ none)))) else (some (false, ((x63.2.2.st_lo i40 (qC.mk x69.d_ none x69.w_ x69.m_)).st_lo i40 (qC.mk x69.d_ none x69.w_ none))))) (fun i68 =>
Option.bind (x63.2.2.ge_lo i40) fun x72 =>
bif (x59.2.1 == x63.2.1) then (some ((true == false), ((x63.2.2.st_lo i40 (qC.mk x72.d_ none x72.w_ x72.m_)).st_lo i40 (qC.mk x72.d_ none x72.w_ (some i68))))) else (some (false, ((x63.2.2.st_lo i40 (qC.mk x72.d_ none x72.w_ x72.m_)).st_lo i40 (qC.mk x72.d_ none x72.w_ (some i68))))))) (fun i66 =>
ptM x63.1 (Option.bind (x63.2.2.ge_lo i40) fun x77 =>
bif (x59.2.1 == x63.2.1) then (some ((false == true), ((x63.2.2.st_lo i40 (qC.mk x77.d_ (some i66) x77.w_ x77.m_)).st_lo i40 (qC.mk x77.d_ (some i66) x77.w_ none)))) else (some (false, ((x63.2.2.st_lo i40 (qC.mk x77.d_ (some i66) x77.w_ x77.m_)).st_lo i40 (qC.mk x77.d_ (some i66) x77.w_ none))))) (fun i76 =>
Option.bind (x63.2.2.ge_lo i40) fun x80 =>
bif (x59.2.1 == x63.2.1) then (some ((false == false), ((x63.2.2.st_lo i40 (qC.mk x80.d_ (some i66) x80.w_ x80.m_)).st_lo i40 (qC.mk x80.d_ (some i66) x80.w_ (some i76))))) else (some (false, ((x63.2.2.st_lo i40 (qC.mk x80.d_ (some i66) x80.w_ x80.m_)).st_lo i40 (qC.mk x80.d_ (some i66) x80.w_ (some i76))))))))) else (bif (p1.Kind == 5) then (ptM p0 (none) (fun i85 =>
Option.bind (w0.ge_lo i85) fun x86 =>
Option.bind (yW x86.l_ p1.N w0) fun x88 =>
ptM x86.m_ (bif (x88.2 == 1) then (some (((x88.1.length : Int) == 0), w0)) else (some (false, w0))) (fun i91 =>
Option.bind (zCs x86.m_ p1.N w0) fun x93 =>
bif (x88.2 == x93.2) then (Option.bind (zAe x88.1 x93.1) fun x96 =>
some (x96, w0)) else (some (false, w0))))) else (bif (p1.Kind == 6) then (ptM p0 (none) (fun i100 =>
Option.bind (w0.ge_lo i100) fun x101 =>
Option.bind (zA8 x101.l_ x101.m_ p1.W w0) fun x103 =>
some (x103.1, x103.2))) else (some (true, w0)))))))
def zB1 (p0 : (Option Nat)) (w0 : Hp) : Option Int :=
ptM p0 (some 0) (fun i2 =>
Option.bind (w0.ge_lg i2) fun x3 =>
some x3.commits_)
def zB9 (p0 : (Option Nat)) (w0 : Hp) : Option Int :=
Option.bind (zAa p0 w0) fun x1 =>
bif (!x1) then (some 0) else (ptM p0 (none) (fun i5 =>
Option.bind (w0.ge_dk i5) fun x6 =>
some (x6.wait_.length : Int)))
def zCO (i7 : Nat) (y26 : Hp) (i11 : Nat) : Option (Bool × Hp) :=
Option.bind (zB9 (some i7) y26) fun x27 =>
Option.bind (y26.ge_rd i11) fun x29 =>
some ((x27 == (x29.Wait.length : Int)), y26)
def zBd (p0 : UInt8) (i7 : Nat) (y26 : Hp) (i11 : Nat) : Nat → Int → Option (Bool × Hp)
 | 0, _ => none
 | nl4 + 1, z31 =>
  bif (decide (z31 < (wi ((wi (Int.tmod (p0.toNat : Int) 60)) + 1)))) then (Option.bind (yI (some i7) z31 y26) fun x33 =>
  Option.bind (zBP (some i11) z31 y26) fun x35 =>
  bif (x33.2 != x35.2) then (some (false, y26)) else (Option.bind (zAe x33.1 x35.1) fun x38 =>
  bif (!x38) then (some (false, y26)) else ((zBd p0 i7 y26 i11 nl4) (wi (z31 + 1))))) else (zCO i7 y26 i11)
def zBg (p0 : UInt8) (i7 : Nat) (y26 : Hp) (i11 : Nat) : Option (Bool × Hp) :=
zBd p0 i7 y26 i11 (Int.toNat (wi ((wi (Int.tmod (p0.toNat : Int) 60)) + 1)) + 1) 0
def zCQ (x17 : (Int × Hp)) (p0 : UInt8) (i7 : Nat) (i11 : Nat) (y26 : Hp) : Option (Bool × Hp) :=
Option.bind (y26.ge_lo x17.2.ln_lo) fun x41 =>
ptM x41.m_ (zBg p0 i7 y26 i11) (fun i44 =>
Option.bind (zCG x41.l_ y26) fun x45 =>
Option.bind (y26.ge_rl i44) fun x47 =>
bif (x45 != x47.Base) then (some (false, y26)) else (Option.bind (zBo x41.l_ y26) fun x50 =>
bif (x50 != (wi (x47.Size - x47.Used))) then (some (false, y26)) else (Option.bind (qP x41.l_ y26) fun x53 =>
Option.bind (yT x41.m_ y26) fun x55 =>
bif (x53 != x55) then (some (false, y26)) else (Option.bind (zB1 x41.l_ y26) fun x58 =>
bif (x58 != x47.Commits) then (some (false, y26)) else (zBg p0 i7 y26 i11)))))
def zAy (p2 : (List zAx)) (x17 : (Int × Hp)) (p0 : UInt8) (i7 : Nat) (i11 : Nat) : Nat → Int → Hp → Option (Bool × Hp)
 | 0, _, _ => none
 | nl5 + 1, z61, z62 =>
  bif (decide (z61 < (p2.length : Int))) then (Option.bind (idx p2 z61) fun x64 =>
  Option.bind (zAF (some x17.2.ln_lo) x64 z62) fun x66 =>
  bif (!x66.1) then (some (false, x66.2)) else ((zAy p2 x17 p0 i7 i11 nl5) (wi (z61 + 1)) x66.2)) else (zCQ x17 p0 i7 i11 z62)
def zD6 (p0 : UInt8) (p1 : Int) (p2 : (List zAx)) (w0 : Hp) : Option (Bool × Hp) :=
Option.bind (zD8 w0) fun x1 =>
bif (!x1.1) then (some (false, x1.2)) else (Option.bind (zCl (wi ((wi (Int.tmod (p0.toNat : Int) 60)) + 1)) x1.2) fun x4 =>
ptM x4.1 none (fun i7 =>
Option.bind (zFF (wi ((wi (Int.tmod (p0.toNat : Int) 60)) + 1)) x4.2.2) fun x8 =>
ptM x8.1 none (fun i11 =>
Option.bind (zAh (some i7) p1 x8.2) fun x12 =>
Option.bind (zDi (some i11) p1 x12.2) fun x14 =>
bif (x12.1 != x14.1) then (some (false, x14.2)) else (Option.bind (zAh none p1 x14.2) fun x17 =>
bif (x17.1 != 1) then (some (false, x17.2)) else (Option.bind (zHG p2) fun x20 =>
bif (!x20) then (some (true, x17.2)) else (Option.bind (zAF (some x17.2.ln_lo) (zAx.mk 4 (-1) [] []) (x17.2.nw_lo (qC.mk (some i7) none (some i11) none))) fun x23 =>
bif (!x23.1) then (some (false, x23.2)) else (zAy p2 x17 p0 i7 i11 (p2.length + 1) 0 x23.2)))))))
end Go.Proofs.YtjomnccladjpgaaGreat

/-
 The contract of slices.Clone over sectors.
-/
namespace Go.Proofs.YtjomnccladjpgaaGreat
open Go Go.RowKit
set_option linter.unusedVariables false
set_option maxHeartbeats 4000000
set_option maxRecDepth 20000
instance {H : Hp} : PuH (hpA H) := ⟨zCm H⟩
theorem zE1 (p0 : List (List UInt8)) (r : List (List UInt8)) (h : zCU p0 = some r) : FC Tryz.prog 64 [.t (.d (.seq 64 (List.map yZ p0)))] [] (.t (.own 83 64 (List.map yZ r))) := by
 refine zD5 (rs := [.tmp 2]) (n := 8) Tryz.func64 rfl rfl (Nat.le_of_ble_eq_true rfl) rfl (pins := []) rfl (L := [(0, .t (.d (.seq 64 (List.map yZ p0))))]) rfl ?_
 have hr : r = p0 := by
  have := (zFe h).2
  simpa using this
 refine zJ ?_
 refine zL ?_
 refine o_s (.t (.d (.lit (.slice none 0 0)))) (g0 rfl) rfl rfl rfl ?_
 refine zA ?_
 refine yL ?_
 refine zJ ?_
 refine zJ ?_
 refine c_nil (l1 := [_]) (k := 64) (l := List.map yZ p0) rfl rfl rfl rfl ?_
 refine o_s (.t (.d (.seq 64 (List.map yZ p0)))) (g0 rfl) rfl rfl rfl ?_
 refine zA ⟨rfl, rfl, fun b hb => ?_⟩
 refine yL ?_
 refine zKX rfl (fun hc => ?_) (fun hc => ?_)
 ·
  have hb := hb hc
  have hp : p0 = [] := by simpa using hb
  refine zJ ?_
  refine zL ?_
  refine o_s (.t (.d (.lit (.slice none 0 0)))) (g0 rfl) rfl rfl rfl ?_
  refine zA ?_
  refine yL ?_
  refine zF ?_
  repeat (refine zCw ?_)
  subst hr hp
  exact end0 rfl (.t (.nilOwn _ _))
 ·
  refine zG ?_
  refine yL ?_
  refine zJ ?_
  refine zL ?_
  refine o_b0 (.t (.own 83 64 (List.map yZ []))) (g0 rfl) rfl rfl rfl rfl rfl ?_
  refine o_s (.t (.d (.seq 64 (List.map yZ p0)))) (g0 rfl) rfl rfl rfl ?_
  refine o_2c (g0 rfl) rfl rfl rfl (appE (c := yZ) h) (appC (c := yZ) h) ?_
  refine o_2 (.t (.d (.seq 64 (List.map yZ r)))) (.t (.own 83 64 (List.map yZ r))) (g0 rfl) rfl rfl rfl ?_
  refine zA ?_
  refine yL ?_
  refine zF ?_
  exact end0 rfl (.refl _)
end Go.Proofs.YtjomnccladjpgaaGreat
