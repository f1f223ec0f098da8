/-
  Models of functions: printed by a program of this claim's own (gen.py) off the given translation.
-/
import Derived.Test.YtimdogdplphmoaaDoorHg
import Derived.Test.YtimdogdplphmoaaDoorTbl
namespace Go.Proofs.YtimdogdplphmoaaDoor
open Go Go.RowKit
set_option linter.unusedVariables false
structure S_space_Space where
  n_ : Int
  free_ : Int
  l_ : (List Int)
  is_ : Bool

abbrev hc_space (i : Nat) (x : S_space_Space) : List T := [.d (.lit (.int .i64 x.n_)), .d (.lit (.int .i64 x.free_)), .hvw (cd 2 i) 0 62 1 x.l_.length, .d (.lit (.bool x.is_))]

abbrev hr_space_l (_ : Nat) (x : S_space_Space) : List T := fl (dT (cInt .u64)) x.l_

/-- What is behind addresses: objects, kind by kind. -/
structure Hp where
  space : List S_space_Space

def Hp.e : Hp := ⟨[]⟩

abbrev Hp.ge_space (H : Hp) (i : Nat) : Option S_space_Space := H.space[i]?
def Hp.st_space (H : Hp) (i : Nat) (x : S_space_Space) : Hp := { H with space := H.space.set i x }
def Hp.nw_space (H : Hp) (x : S_space_Space) : Hp := { H with space := H.space ++ [x] }
abbrev Hp.ln_space (H : Hp) : Nat := H.space.length

def hpT (H : Hp) : Nat → Nat → A
  | 1, i => arA H.space hc_space i
  | 2, i => arA H.space hr_space_l i
  | _, _ => .free
def hpA (H : Hp) : Nat → A := hpF (hpT H)

theorem gl_space {H : Hp} {i : Nat} {x : S_space_Space} (h : H.ge_space i = some x) : hpA H (cd 1 i) = .box (hc_space i x) := (hpF_cd (by decide)).trans (arA_get h)

theorem gl_space_l {H : Hp} {i : Nat} {x : S_space_Space} (h : H.ge_space i = some x) : hpA H (cd 2 i) = .box (hr_space_l i x) := (hpF_cd (by decide)).trans (arA_get h)

theorem su_space {H : Hp} {i : Nat} {x x' : S_space_Space} (h : H.ge_space i = some x) (h0 : hr_space_l i x' = hr_space_l i x) : hpA (H.st_space i x') = updF (hpA H) (cd 1 i) (.box (hc_space i x')) := by
  refine hpF_upd (by decide) (arA_eq h) fun t' j hne => ?_
  match t' with
  | 0 => exact rfl
  | 1 => exact arA_ne fun e => hne ⟨rfl, e⟩
  | 2 => exact arA_keep h h0 j
  | k + 3 => rfl

theorem su_space_l {H : Hp} {i : Nat} {x x' : S_space_Space} (h : H.ge_space i = some x) (h0 : hc_space i x' = hc_space i x) : hpA (H.st_space i x') = updF (hpA H) (cd 2 i) (.box (hr_space_l i x')) := by
  refine hpF_upd (by decide) (arA_eq h) fun t' j hne => ?_
  match t' with
  | 0 => exact rfl
  | 1 => exact arA_keep h h0 j
  | 2 => exact arA_ne fun e => hne ⟨rfl, e⟩
  | k + 3 => rfl

theorem fr_space (H : Hp) : hpA H (cd 1 H.ln_space) = .free := (hpF_cd (by decide)).trans arA_free

theorem fr_space_l (H : Hp) : hpA H (cd 2 H.ln_space) = .free := (hpF_cd (by decide)).trans arA_free

theorem nw_space (H : Hp) (x : S_space_Space) : hpA (H.nw_space x) = updF (updF (hpA H) (cd 1 H.ln_space) (.box (hc_space H.ln_space x))) (cd 2 H.ln_space) (.box (hr_space_l H.ln_space x)) := by
  refine hpF_upd2 (by decide) (by decide) (by decide) arA_new arA_new fun t' j hne1 hne2 => ?_
  match t' with
  | 0 => exact rfl
  | 1 => exact arA_old fun e => hne1 ⟨rfl, e⟩
  | 2 => exact arA_old fun e => hne2 ⟨rfl, e⟩
  | k + 3 => rfl

theorem pure_hpA (H : Hp) : pureH (hpA H) := hpF_pure fun t i l h => by
  match t, h with
  | 0, h => exact nomatch h
  | 1, h => exact arA_pure (f := hc_space) (fun i x y hy => by
      simp only [hc_space, List.mem_cons, List.not_mem_nil, or_false] at hy
      rcases hy with rfl | rfl | rfl | rfl <;> first | rfl | exact ptT_loc _ _) l h
  | 2, h => exact arA_pure (f := hr_space_l) (fun i x => fl_loc _ _) l h
  | k + 3, h => exact nomatch h

theorem san_hpA (H : Hp) (c : Nat) : san (hpA H c) = hpA H c := by
  show san (hpT H (c % 64) (c / 64)) = hpT H (c % 64) (c / 64)
  generalize c % 64 = t
  match t with
  | 0 => exact rfl
  | 1 => exact san_arA _ _ _
  | 2 => exact san_arA _ _ _
  | k + 3 => rfl

theorem rn_hpA (H : Hp) (j c k : Nat) : rnA j c (hpA H k) = hpA H k := rn_pure (fun l e => pure_hpA H k l e) (san_hpA H k) j c
theorem hpA_e (c : Nat) : san (hpA Hp.e c) = .free := by
  rw [san_hpA]
  show hpT Hp.e (c % 64) (c / 64) = .free
  generalize c % 64 = t
  match t with
  | 0 => exact rfl
  | 1 => exact rfl
  | 2 => exact rfl
  | k + 3 => rfl

structure S_api_Run where
  From : Int
  Len : Int

abbrev cS_api_Run (x : S_api_Run) : List D := [.lit (.int .i64 x.From), .lit (.int .i64 x.Len)]

structure S_L19_Do where
  Kind : Int
  N : Int
  L : (List Int)

abbrev cS_L19_Do (x : S_L19_Do) : List D := [.lit (.int .i64 x.Kind), .lit (.int .i64 x.N), .seq 1 (List.map cI64 x.L)]

/-- bastille/space.New -/
def m_space_New (p0 : Int) (w0 : Hp) : Option ((Option Nat) × Int × Hp) :=
bif (decide (p0 < 0)) then (some (none, 2, w0)) else (bif (decide (p0 > 16384)) then (some (none, 2, w0)) else (Option.bind (mkI 8 (wi (Int.tdiv (wi ((wi (p0 + 64)) - 1)) 64))) fun x3 =>
some ((some w0.ln_space), 0, (w0.nw_space (S_space_Space.mk p0 p0 (List.replicate x3 (0 : Int)) true)))))

/-- math/bits.TrailingZeros64 -/
def m_math_bits_TrailingZeros64 (p0 : Int) : Option Int :=
bif (p0 == 0) then (some 64) else (Option.bind (idx tbl_db64 (Int.fdiv (IntKind.u64.wrap ((IntKind.u64.wrap ((((BitVec.ofInt IntKind.u64.bits p0) &&& (BitVec.ofInt IntKind.u64.bits (IntKind.u64.wrap (0 - p0)))).toNat : Nat) : Int)) * 285870213051353865)) (2 ^ 58))) fun x2 =>
some (wi x2))

/-- (*bastille/space.Space).Has -/
def m_space_Space_Has (p0 : (Option Nat)) (p1 : Int) (w0 : Hp) : Option (Bool × Hp) :=
ptM p0 (some (false, w0)) (fun i2 =>
bif (decide (p1 ≥ 0)) then (Option.bind (w0.ge_space i2) fun x4 =>
bif (decide (p1 < x4.n_)) then (Option.bind (idx x4.l_ (wi (Int.tdiv p1 64))) fun x7 =>
Option.bind (shrI .u64 x7 (IntKind.u64.wrap (Int.tmod p1 64))) fun x9 =>
some (((IntKind.u64.wrap ((((BitVec.ofInt IntKind.u64.bits x9) &&& (BitVec.ofInt IntKind.u64.bits 1)).toNat : Nat) : Int)) == 0), w0)) else (some (false, w0))) else (some (false, w0)))

/-- (*bastille/space.Space).turn -/
def m_space_Space_turn (p0 : (Option Nat)) (p1 : Int) (w0 : Hp) : Option Hp :=
ptM p0 (none) (fun i2 =>
Option.bind (w0.ge_space i2) fun x3 =>
Option.bind (idx x3.l_ (wi (Int.tdiv p1 64))) fun x5 =>
Option.bind (shlI .u64 1 (IntKind.u64.wrap (Int.tmod p1 64))) fun x7 =>
Option.bind (idx x3.l_ (wi (Int.tdiv p1 64))) fun x9 =>
Option.bind (m_space_Space_Has (some i2) p1 (w0.st_space i2 (S_space_Space.mk x3.n_ x3.free_ (x3.l_.set (Int.toNat (wi (Int.tdiv p1 64))) (IntKind.u64.wrap ((((BitVec.ofInt IntKind.u64.bits x5) ^^^ (BitVec.ofInt IntKind.u64.bits x7)).toNat : Nat) : Int))) x3.is_))) fun x11 =>
bif x11.1 then (Option.bind (x11.2.ge_space i2) fun x14 =>
some (x11.2.st_space i2 (S_space_Space.mk x14.n_ (wi (x14.free_ + 1)) x14.l_ x14.is_))) else (Option.bind (x11.2.ge_space i2) fun x16 =>
some (x11.2.st_space i2 (S_space_Space.mk x16.n_ (wi (x16.free_ - 1)) x16.l_ x16.is_))))

/-- (*bastille/space.Space).Take -/
def m_space_Space_Take_j2 (y9 : (List Int)) (y10 : Hp) : Option ((List Int) × Int × Hp) :=
some (y9, 0, y10)

def m_space_Space_Take_l3 (p1 : Int) (i5 : Nat) : Nat → (List Int) → Int → Hp → Option ((List Int) × Int × Hp)
  | 0, _, _, _ => none
  | nl3 + 1, z11, z12, z13 =>
    bif (decide ((z11.length : Int) < p1)) then (Option.bind (z13.ge_space i5) fun x15 =>
    Option.bind (idx x15.l_ z12) fun x17 =>
    bif ((IntKind.u64.wrap ((((BitVec.ofInt IntKind.u64.bits 18446744073709551615) ^^^ (BitVec.ofInt IntKind.u64.bits x17)).toNat : Nat) : Int)) != 0) then (Option.bind (m_math_bits_TrailingZeros64 (IntKind.u64.wrap ((((BitVec.ofInt IntKind.u64.bits 18446744073709551615) ^^^ (BitVec.ofInt IntKind.u64.bits x17)).toNat : Nat) : Int))) fun x20 =>
    Option.bind (m_space_Space_turn (some i5) (wi ((wi (64 * z12)) + x20)) z13) fun x22 =>
    Option.bind (appI 8 z11 [(wi ((wi (64 * z12)) + x20))]) fun x24 =>
    (m_space_Space_Take_l3 p1 i5 nl3) x24 z12 x22) else ((m_space_Space_Take_l3 p1 i5 nl3) z11 (wi (z12 + 1)) z13)) else (m_space_Space_Take_j2 z11 z13)

def m_space_Space_Take_j1 (w0 : Hp) (p1 : Int) (p0 : (Option Nat)) (y1 : Bool) : Option ((List Int) × Int × Hp) :=
bif y1 then (some ([], 1, w0)) else (bif (decide (p1 < 0)) then (some ([], 2, w0)) else (ptM p0 (none) (fun i5 =>
Option.bind (w0.ge_space i5) fun x6 =>
bif (decide (p1 > x6.free_)) then (some ([], 32, w0)) else (m_space_Space_Take_l3 p1 i5 (Int.toNat p1 + 300) [] 0 w0))))

def m_space_Space_Take (p0 : (Option Nat)) (p1 : Int) (w0 : Hp) : Option ((List Int) × Int × Hp) :=
ptM p0 (m_space_Space_Take_j1 w0 p1 p0 true) (fun i27 =>
Option.bind (w0.ge_space i27) fun x28 =>
m_space_Space_Take_j1 w0 p1 p0 (!x28.is_))

/-- (*bastille/space.Space).all -/
def m_space_Space_all_l3 (x14 : (List Int)) (i2 : Nat) : Nat → Int → Hp → Option (Int × Hp)
  | 0, _, _ => none
  | nl3 + 1, z16, z17 =>
    bif (decide (z16 < (x14.length : Int))) then (Option.bind (idx x14 z16) fun x19 =>
    Option.bind (m_space_Space_turn (some i2) x19 z17) fun x21 =>
    (m_space_Space_all_l3 x14 i2 nl3) (wi (z16 + 1)) x21) else (some (2, z17))

def m_space_Space_all_j2 (kl1 : Int → Hp → Option (Int × Hp)) (p1 : (List Int)) (z6 : Int) (i2 : Nat) (x9 : Int) (y11 : Bool) (y12 : Hp) : Option (Int × Hp) :=
bif y11 then (Option.bind (cutI p1 0 z6) fun x14 =>
m_space_Space_all_l3 x14 i2 (x14.length + 1) 0 y12) else (Option.bind (m_space_Space_turn (some i2) x9 y12) fun x23 =>
kl1 (wi (z6 + 1)) x23)

def m_space_Space_all_l1 (p1 : (List Int)) (i2 : Nat) (p2 : Bool) : Nat → Int → Hp → Option (Int × Hp)
  | 0, _, _ => none
  | nl1 + 1, z6, z7 =>
    bif (decide (z6 < (p1.length : Int))) then (Option.bind (idx p1 z6) fun x9 =>
    bif (decide (x9 < 0)) then (m_space_Space_all_j2 (m_space_Space_all_l1 p1 i2 p2 nl1) p1 z6 i2 x9 true z7) else (Option.bind (z7.ge_space i2) fun x26 =>
    bif (decide (x9 ≥ x26.n_)) then (m_space_Space_all_j2 (m_space_Space_all_l1 p1 i2 p2 nl1) p1 z6 i2 x9 true z7) else (Option.bind (m_space_Space_Has (some i2) x9 z7) fun x29 =>
    m_space_Space_all_j2 (m_space_Space_all_l1 p1 i2 p2 nl1) p1 z6 i2 x9 (!(x29.1 == p2)) x29.2))) else (some (0, z7))

def m_space_Space_all (p0 : (Option Nat)) (p1 : (List Int)) (p2 : Bool) (w0 : Hp) : Option (Int × Hp) :=
ptM p0 (some (1, w0)) (fun i2 =>
Option.bind (w0.ge_space i2) fun x3 =>
bif (!x3.is_) then (some (1, w0)) else (m_space_Space_all_l1 p1 i2 p2 (p1.length + 1) 0 w0))

/-- (*bastille/space.Space).Claim -/
def m_space_Space_Claim (p0 : (Option Nat)) (p1 : (List Int)) (w0 : Hp) : Option (Int × Hp) :=
Option.bind (m_space_Space_all p0 p1 true w0) fun x1 =>
some (x1.1, x1.2)

/-- (*bastille/space.Space).Give -/
def m_space_Space_Give (p0 : (Option Nat)) (p1 : (List Int)) (w0 : Hp) : Option (Int × Hp) :=
Option.bind (m_space_Space_all p0 p1 false w0) fun x1 =>
some (x1.1, x1.2)

/-- (*bastille/space.Space).Free -/
def m_space_Space_Free (p0 : (Option Nat)) (w0 : Hp) : Option (Int × Hp) :=
ptM p0 (some (0, w0)) (fun i2 =>
Option.bind (w0.ge_space i2) fun x3 =>
some (x3.free_, w0))

/-- (*bastille/space.Space).Runs -/
def m_space_Space_Runs_j2 (kl1 : Int → (List S_api_Run) → Hp → Option ((List S_api_Run) × Hp)) (z6 : (List S_api_Run)) (z5 : Int) (x9 : (Bool × Hp)) (y12 : Bool) : Option ((List S_api_Run) × Hp) :=
bif y12 then (Option.bind (idx z6 (wi ((z6.length : Int) - 1))) fun x14 =>
Option.bind (idx z6 (wi ((z6.length : Int) - 1))) fun x16 =>
kl1 (wi (z5 + 1)) (z6.set (Int.toNat (wi ((z6.length : Int) - 1))) (S_api_Run.mk x16.From (wi (x14.Len + 1)))) x9.2) else (Option.bind (appI 16 z6 [(S_api_Run.mk z5 1)]) fun x18 =>
kl1 (wi (z5 + 1)) x18 x9.2)

def m_space_Space_Runs_l1 (x3 : S_space_Space) (i2 : Nat) : Nat → Int → (List S_api_Run) → Hp → Option ((List S_api_Run) × Hp)
  | 0, _, _, _ => none
  | nl1 + 1, z5, z6, z7 =>
    bif (decide (z5 < x3.n_)) then (Option.bind (m_space_Space_Has (some i2) z5 z7) fun x9 =>
    bif (!x9.1) then ((m_space_Space_Runs_l1 x3 i2 nl1) (wi (z5 + 1)) z6 x9.2) else (bif (decide ((z6.length : Int) > 0)) then (Option.bind (idx z6 (wi ((z6.length : Int) - 1))) fun x21 =>
    Option.bind (idx z6 (wi ((z6.length : Int) - 1))) fun x23 =>
    m_space_Space_Runs_j2 (m_space_Space_Runs_l1 x3 i2 nl1) z6 z5 x9 ((wi (x21.From + x23.Len)) == z5)) else (m_space_Space_Runs_j2 (m_space_Space_Runs_l1 x3 i2 nl1) z6 z5 x9 false))) else (some (z6, z7))

def m_space_Space_Runs (p0 : (Option Nat)) (w0 : Hp) : Option ((List S_api_Run) × Hp) :=
ptM p0 (some ([], w0)) (fun i2 =>
Option.bind (w0.ge_space i2) fun x3 =>
m_space_Space_Runs_l1 x3 i2 (Int.toNat x3.n_ + 1) 0 [] w0)

/-- (*bastille/space.Space).Bytes -/
def m_space_Space_Bytes_l1 (x5 : Nat) (x3 : S_space_Space) (w0 : Hp) : Nat → Int → (List UInt8) → Option ((List UInt8) × Hp)
  | 0, _, _ => none
  | nl1 + 1, z7, z8 =>
    bif (decide (z7 < ((x5 : Nat) : Int))) then (Option.bind (idx x3.l_ (wi (Int.tdiv z7 8))) fun x10 =>
    Option.bind (shrI .u64 x10 (IntKind.u64.wrap (wi (8 * (Int.tmod z7 8))))) fun x12 =>
    Option.bind (idx z8 z7) fun x14 =>
    (m_space_Space_Bytes_l1 x5 x3 w0 nl1) (wi (z7 + 1)) (z8.set (Int.toNat z7) (U8 x12))) else (some (z8, w0))

def m_space_Space_Bytes (p0 : (Option Nat)) (w0 : Hp) : Option ((List UInt8) × Hp) :=
ptM p0 (some ([], w0)) (fun i2 =>
Option.bind (w0.ge_space i2) fun x3 =>
Option.bind (mkI 1 (wi (Int.tdiv (wi (x3.n_ + 7)) 8))) fun x5 =>
m_space_Space_Bytes_l1 x5 x3 w0 (Int.toNat ((x5 : Nat) : Int) + 1) 0 (List.replicate x5 (0 : UInt8)))

/-- math/bits.OnesCount8 -/
def m_math_bits_OnesCount8 (p0 : UInt8) : Option Int :=
Option.bind (idx ([0, 1, 1, 2, 1, 2, 2, 3, 1, 2, 2, 3, 2, 3, 3, 4, 1, 2, 2, 3, 2, 3, 3, 4, 2, 3, 3, 4, 3, 4, 4, 5, 1, 2, 2, 3, 2, 3, 3, 4, 2, 3, 3, 4, 3, 4, 4, 5, 2, 3, 3, 4, 3, 4, 4, 5, 3, 4, 4, 5, 4, 5, 5, 6, 1, 2, 2, 3, 2, 3, 3, 4, 2, 3, 3, 4, 3, 4, 4, 5, 2, 3, 3, 4, 3, 4, 4, 5, 3, 4, 4, 5, 4, 5, 5, 6, 2, 3, 3, 4, 3, 4, 4, 5, 3, 4, 4, 5, 4, 5, 5, 6, 3, 4, 4, 5, 4, 5, 5, 6, 4, 5, 5, 6, 5, 6, 6, 7, 1, 2, 2, 3, 2, 3, 3, 4, 2, 3, 3, 4, 3, 4, 4, 5, 2, 3, 3, 4, 3, 4, 4, 5, 3, 4, 4, 5, 4, 5, 5, 6, 2, 3, 3, 4, 3, 4, 4, 5, 3, 4, 4, 5, 4, 5, 5, 6, 3, 4, 4, 5, 4, 5, 5, 6, 4, 5, 5, 6, 5, 6, 6, 7, 2, 3, 3, 4, 3, 4, 4, 5, 3, 4, 4, 5, 4, 5, 5, 6, 3, 4, 4, 5, 4, 5, 5, 6, 4, 5, 5, 6, 5, 6, 6, 7, 3, 4, 4, 5, 4, 5, 5, 6, 4, 5, 5, 6, 5, 6, 6, 7, 4, 5, 5, 6, 5, 6, 6, 7, 5, 6, 6, 7, 6, 7, 7, 8] : List UInt8) (p0.toNat : Int)) fun x1 =>
some (x1.toNat : Int)

/-- bastille/space.Read -/
def m_space_Read_j2 (x1 : ((Option Nat) × Int × Hp)) (y3 : Hp) : Option ((Option Nat) × Int × Hp) :=
some (x1.1, 0, y3)

def m_space_Read_l3 (p1 : (List UInt8)) (x1 : ((Option Nat) × Int × Hp)) : Nat → Int → Hp → Option ((Option Nat) × Int × Hp)
  | 0, _, _ => none
  | nl3 + 1, z4, z5 =>
    bif (decide (z4 < (p1.length : Int))) then (Option.bind (idx p1 z4) fun x7 =>
    ptM x1.1 (none) (fun i10 =>
    Option.bind (z5.ge_space i10) fun x11 =>
    Option.bind (idx x11.l_ (wi (Int.tdiv z4 8))) fun x13 =>
    Option.bind (shlI .u64 (x7.toNat : Int) (IntKind.u64.wrap (wi (8 * (Int.tmod z4 8))))) fun x15 =>
    Option.bind (idx x11.l_ (wi (Int.tdiv z4 8))) fun x17 =>
    Option.bind (m_math_bits_OnesCount8 x7) fun x19 =>
    (m_space_Read_l3 p1 x1 nl3) (wi (z4 + 1)) ((z5.st_space i10 (S_space_Space.mk x11.n_ x11.free_ (x11.l_.set (Int.toNat (wi (Int.tdiv z4 8))) (IntKind.u64.wrap ((((BitVec.ofInt IntKind.u64.bits x13) ||| (BitVec.ofInt IntKind.u64.bits x15)).toNat : Nat) : Int))) x11.is_)).st_space i10 (S_space_Space.mk x11.n_ (wi (((S_space_Space.mk x11.n_ x11.free_ (x11.l_.set (Int.toNat (wi (Int.tdiv z4 8))) (IntKind.u64.wrap ((((BitVec.ofInt IntKind.u64.bits x13) ||| (BitVec.ofInt IntKind.u64.bits x15)).toNat : Nat) : Int))) x11.is_).free_) - x19)) (x11.l_.set (Int.toNat (wi (Int.tdiv z4 8))) (IntKind.u64.wrap ((((BitVec.ofInt IntKind.u64.bits x13) ||| (BitVec.ofInt IntKind.u64.bits x15)).toNat : Nat) : Int))) x11.is_)))) else (m_space_Read_j2 x1 z5)

def m_space_Read_j1 (p1 : (List UInt8)) (x1 : ((Option Nat) × Int × Hp)) : Option ((Option Nat) × Int × Hp) :=
m_space_Read_l3 p1 x1 (p1.length + 1) 0 x1.2.2

def m_space_Read (p0 : Int) (p1 : (List UInt8)) (w0 : Hp) : Option ((Option Nat) × Int × Hp) :=
Option.bind (m_space_New p0 w0) fun x1 =>
bif (x1.2.1 != 0) then (some (none, x1.2.1, x1.2.2)) else (bif (decide ((p1.length : Int) < (wi (Int.tdiv (wi (p0 + 7)) 8)))) then (some (none, 10, x1.2.2)) else (bif (decide ((p1.length : Int) > (wi (Int.tdiv (wi (p0 + 7)) 8)))) then (some (none, 12, x1.2.2)) else (bif ((Int.tmod p0 8) != 0) then (Option.bind (idx p1 (wi ((wi (Int.tdiv (wi (p0 + 7)) 8)) - 1))) fun x25 =>
Option.bind (shrI .u8 (x25.toNat : Int) (IntKind.u64.wrap (Int.tmod p0 8))) fun x27 =>
bif (x27 != 0) then (some (none, 11, x1.2.2)) else (m_space_Read_j1 p1 x1)) else (m_space_Read_j1 p1 x1))))

/-- math/bits.Len64 -/
def m_math_bits_Len64_j3 (y5 : Int) (y6 : Int) : Option Int :=
Option.bind (idx ([0, 1, 2, 2, 3, 3, 3, 3, 4, 4, 4, 4, 4, 4, 4, 4, 5, 5, 5, 5, 5, 5, 5, 5, 5, 5, 5, 5, 5, 5, 5, 5, 6, 6, 6, 6, 6, 6, 6, 6, 6, 6, 6, 6, 6, 6, 6, 6, 6, 6, 6, 6, 6, 6, 6, 6, 6, 6, 6, 6, 6, 6, 6, 6, 7, 7, 7, 7, 7, 7, 7, 7, 7, 7, 7, 7, 7, 7, 7, 7, 7, 7, 7, 7, 7, 7, 7, 7, 7, 7, 7, 7, 7, 7, 7, 7, 7, 7, 7, 7, 7, 7, 7, 7, 7, 7, 7, 7, 7, 7, 7, 7, 7, 7, 7, 7, 7, 7, 7, 7, 7, 7, 7, 7, 7, 7, 7, 7, 8, 8, 8, 8, 8, 8, 8, 8, 8, 8, 8, 8, 8, 8, 8, 8, 8, 8, 8, 8, 8, 8, 8, 8, 8, 8, 8, 8, 8, 8, 8, 8, 8, 8, 8, 8, 8, 8, 8, 8, 8, 8, 8, 8, 8, 8, 8, 8, 8, 8, 8, 8, 8, 8, 8, 8, 8, 8, 8, 8, 8, 8, 8, 8, 8, 8, 8, 8, 8, 8, 8, 8, 8, 8, 8, 8, 8, 8, 8, 8, 8, 8, 8, 8, 8, 8, 8, 8, 8, 8, 8, 8, 8, 8, 8, 8, 8, 8, 8, 8, 8, 8, 8, 8, 8, 8, 8, 8, 8, 8, 8, 8, 8, 8, 8, 8, 8, 8, 8, 8, 8, 8, 8, 8, 8, 8, 8, 8] : List UInt8) ((U8 y5).toNat : Int)) fun x7 =>
some (wi (y6 + (x7.toNat : Int)))

def m_math_bits_Len64_j2 (y3 : Int) (y4 : Int) : Option Int :=
bif (decide (y3 ≥ 256)) then (m_math_bits_Len64_j3 (Int.fdiv y3 (2 ^ 8)) (wi (y4 + 8))) else (m_math_bits_Len64_j3 y3 y4)

def m_math_bits_Len64_j1 (y1 : Int) (y2 : Int) : Option Int :=
bif (decide (y1 ≥ 65536)) then (m_math_bits_Len64_j2 (Int.fdiv y1 (2 ^ 16)) (wi (y2 + 16))) else (m_math_bits_Len64_j2 y1 y2)

def m_math_bits_Len64 (p0 : Int) : Option Int :=
bif (decide (p0 ≥ 4294967296)) then (m_math_bits_Len64_j1 (Int.fdiv p0 (2 ^ 32)) 32) else (m_math_bits_Len64_j1 p0 0)

/-- bastille/bastilleref01.Ints -/
def m_R01_Ints_l1 (p0 : (List Int)) (p1 : (List Int)) : Nat → Int → Option Bool
  | 0, _ => none
  | nl1 + 1, z2 =>
    bif (decide (z2 < (p0.length : Int))) then (Option.bind (idx p0 z2) fun x4 =>
    Option.bind (idx p1 z2) fun x6 =>
    bif (x4 != x6) then (some false) else ((m_R01_Ints_l1 p0 p1 nl1) (wi (z2 + 1)))) else (some true)

def m_R01_Ints (p0 : (List Int)) (p1 : (List Int)) : Option Bool :=
bif ((p0.length : Int) != (p1.length : Int)) then (some false) else (m_R01_Ints_l1 p0 p1 (p0.length + 1) 0)

/-- bastille/bastilleref01.Same -/
def m_R01_Same_l1 (p0 : (List UInt8)) (p1 : (List UInt8)) : Nat → Int → Option Bool
  | 0, _ => none
  | nl1 + 1, z2 =>
    bif (decide (z2 < (p0.length : Int))) then (Option.bind (idx p0 z2) fun x4 =>
    Option.bind (idx p1 z2) fun x6 =>
    bif ((x4.toNat : Int) != (x6.toNat : Int)) then (some false) else ((m_R01_Same_l1 p0 p1 nl1) (wi (z2 + 1)))) else (some true)

def m_R01_Same (p0 : (List UInt8)) (p1 : (List UInt8)) : Option Bool :=
bif ((p0.length : Int) != (p1.length : Int)) then (some false) else (m_R01_Same_l1 p0 p1 (p0.length + 1) 0)

/-- bastille/bastillelaw19.awake -/
def m_L19_awake (w0 : Hp) : Option (Bool × Hp) :=
Option.bind (m_space_New 3 w0) fun x1 =>
Option.bind (m_space_Space_Take x1.1 2 x1.2.2) fun x3 =>
bif (x1.2.1 == 0) then (bif (x3.2.1 == 0) then (Option.bind (m_R01_Ints x3.1 [0, 1]) fun x7 =>
bif x7 then (Option.bind (m_space_Space_Bytes x1.1 x3.2.2) fun x10 =>
Option.bind (m_R01_Same x10.1 [3]) fun x12 =>
some (x12, x10.2)) else (some (false, x3.2.2))) else (some (false, x3.2.2))) else (some (false, x3.2.2))

/-- bastille/bastillelaw19.few -/
def m_L19_few_j1 (p0 : (List S_L19_Do)) : Option Bool :=
some (decide ((p0.length : Int) ≤ 30))

def m_L19_few_l2 (p0 : (List S_L19_Do)) : Nat → Int → Option Bool
  | 0, _ => none
  | nl2 + 1, z1 =>
    bif (decide (z1 < (p0.length : Int))) then (Option.bind (idx p0 z1) fun x3 =>
    bif (decide ((x3.L.length : Int) > 30)) then (some false) else ((m_L19_few_l2 p0 nl2) (wi (z1 + 1)))) else (m_L19_few_j1 p0)

def m_L19_few (p0 : (List S_L19_Do)) : Option Bool :=
m_L19_few_l2 p0 (p0.length + 1) 0

/-- bastille/bastilleref19.Free -/
def m_R19_Free_j2 (kl1 : Int → Int → Option Int) (z2 : Int) (y4 : Int) : Option Int :=
kl1 y4 (wi (z2 + 1))

def m_R19_Free_l1 (p0 : (List Bool)) : Nat → Int → Int → Option Int
  | 0, _, _ => none
  | nl1 + 1, z1, z2 =>
    bif (decide (z2 < (p0.length : Int))) then (Option.bind (idx p0 z2) fun x5 =>
    bif (!x5) then (m_R19_Free_j2 (m_R19_Free_l1 p0 nl1) z2 (wi (z1 + 1))) else (m_R19_Free_j2 (m_R19_Free_l1 p0 nl1) z2 z1)) else (some z1)

def m_R19_Free (p0 : (List Bool)) : Option Int :=
m_R19_Free_l1 p0 (p0.length + 1) 0 0

/-- bastille/bastilleref19.Bytes -/
def m_R19_Bytes_j2 (kl1 : (List UInt8) → Int → Option (List UInt8)) (z1 : (List UInt8)) (z2 : Int) (y4 : Int) : Option (List UInt8) :=
Option.bind (appI 1 z1 [(U8 y4)]) fun x5 =>
kl1 x5 (wi (z2 + 8))

def m_R19_Bytes_j4 (kl3 : Int → Int → Option (List UInt8)) (z8 : Int) (y10 : Int) : Option (List UInt8) :=
kl3 y10 (wi (z8 - 1))

def m_R19_Bytes_l3 (kl1 : (List UInt8) → Int → Option (List UInt8)) (z2 : Int) (p0 : (List Bool)) (z1 : (List UInt8)) : Nat → Int → Int → Option (List UInt8)
  | 0, _, _ => none
  | nl3 + 1, z7, z8 =>
    bif (decide (z8 ≥ 0)) then (bif (decide ((wi (z2 + z8)) < (p0.length : Int))) then (Option.bind (idx p0 (wi (z2 + z8))) fun x12 =>
    bif x12 then (m_R19_Bytes_j4 (m_R19_Bytes_l3 kl1 z2 p0 z1 nl3) z8 (wi ((wi (2 * z7)) + 1))) else (m_R19_Bytes_j4 (m_R19_Bytes_l3 kl1 z2 p0 z1 nl3) z8 (wi (2 * z7)))) else (m_R19_Bytes_j4 (m_R19_Bytes_l3 kl1 z2 p0 z1 nl3) z8 (wi (2 * z7)))) else (m_R19_Bytes_j2 kl1 z1 z2 z7)

def m_R19_Bytes_l1 (p0 : (List Bool)) : Nat → (List UInt8) → Int → Option (List UInt8)
  | 0, _, _ => none
  | nl1 + 1, z1, z2 =>
    bif (decide (z2 < (p0.length : Int))) then (m_R19_Bytes_l3 (m_R19_Bytes_l1 p0 nl1) z2 p0 z1 (9) 0 7) else (some z1)

def m_R19_Bytes (p0 : (List Bool)) : Option (List UInt8) :=
m_R19_Bytes_l1 p0 (p0.length + 1) [] 0

/-- bastille/bastilleref19.Read -/
def m_R19_Read_j1 (y5 : (List Bool)) : Option ((List Bool) × Int) :=
some (y5, 0)

def m_R19_Read_j3 (kl2 : Int → (List Bool) → Option ((List Bool) × Int)) (z6 : Int) (y9 : (List Bool)) : Option ((List Bool) × Int) :=
kl2 (wi (z6 + 1)) y9

def m_R19_Read_j4 (kl2 : Int → (List Bool) → Option ((List Bool) × Int)) (z6 : Int) (p0 : Int) (z7 : (List Bool)) (y12 : Int) : Option ((List Bool) × Int) :=
bif ((Int.tmod y12 2) == 1) then (bif (decide (z6 ≥ p0)) then (some ([], 11)) else (Option.bind (idx z7 z6) fun x15 =>
m_R19_Read_j3 kl2 z6 (z7.set (Int.toNat z6) true))) else (m_R19_Read_j3 kl2 z6 z7)

def m_R19_Read_l5 (kl2 : Int → (List Bool) → Option ((List Bool) × Int)) (z6 : Int) (p0 : Int) (z7 : (List Bool)) : Nat → Int → Int → Option ((List Bool) × Int)
  | 0, _, _ => none
  | nl5 + 1, z17, z18 =>
    bif (decide (z18 < (Int.tmod z6 8))) then ((m_R19_Read_l5 kl2 z6 p0 z7 nl5) (wi (Int.tdiv z17 2)) (wi (z18 + 1))) else (m_R19_Read_j4 kl2 z6 p0 z7 z17)

def m_R19_Read_l2 (p1 : (List UInt8)) (p0 : Int) : Nat → Int → (List Bool) → Option ((List Bool) × Int)
  | 0, _, _ => none
  | nl2 + 1, z6, z7 =>
    bif (decide (z6 < (wi (8 * (p1.length : Int))))) then (Option.bind (idx p1 (wi (Int.tdiv z6 8))) fun x10 =>
    m_R19_Read_l5 (m_R19_Read_l2 p1 p0 nl2) z6 p0 z7 (Int.toNat (Int.tmod z6 8) + 1) (x10.toNat : Int) 0) else (m_R19_Read_j1 z7)

def m_R19_Read (p0 : Int) (p1 : (List UInt8)) : Option ((List Bool) × Int) :=
bif (decide ((wi (8 * (p1.length : Int))) < p0)) then (some ([], 10)) else (bif (decide ((wi (8 * (p1.length : Int))) ≥ (wi (p0 + 8)))) then (some ([], 12)) else (Option.bind (mkI 1 p0) fun x3 =>
m_R19_Read_l2 p1 p0 (Int.toNat (wi (8 * (p1.length : Int))) + 1) 0 (List.replicate x3 (false : Bool))))
end Go.Proofs.YtimdogdplphmoaaDoor
