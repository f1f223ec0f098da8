/-
  Texts joined: see the remark at the head of each part.
-/
import Derived.Test.YtjomnccladjpgaaD08
import Derived.Test.YtjomnccladjpgaaD09
import Derived.Test.YtjomnccladjpgaaD10
set_option linter.unusedVariables false
set_option linter.unusedSimpArgs false
/-
 Models of functions: printed by a program of this claim's own (gen.py) off the given translation.
-/
namespace Go.Proofs.Ytjomnccladjpgaa
open Go Go.RowKit
set_option linter.unusedVariables false
structure zAX where
 n_ : Int
 b_ : (List UInt8)
structure zN where
 kept_ : (Nat × Nat)
 now_ : (Nat × Nat)
 wait_ : (List zAX)
 fuse_ : Int
 off_ : Bool
 lives_ : Int
abbrev zDC (x : List UInt8) : List D := ar cU8 (0 : UInt8) x 0 64
abbrev zAi (x : zAX) : List D := [D.lit (.int .i64 x.n_)] ++ ar cU8 (0 : UInt8) x.b_ 0 64
structure zU where
 d_ : (Option Nat)
 size_ : Int
 base_ : Int
 slot_ : Int
 used_ : Int
 life_ : Int
 commits_ : Int
structure zCD where
 l_ : (Option Nat)
 at_ : Int
 over_ : Bool
 now_ : Nat
structure zAA where
 t_ : (Option Nat)
 table_ : Int
abbrev zHP (i : Nat) (x : zN) : List T := [.hvw (cd 2 x.kept_.1) 0 119 64 x.kept_.2, .hvw (cd 2 x.now_.1) 0 119 64 x.now_.2, .own 121 65 (List.map zAi x.wait_), .d (.lit (.int .i64 x.fuse_)), .d (.lit (.bool x.off_)), .d (.lit (.int .i64 x.lives_))]
abbrev zIQ (i : Nat) (x : zU) : List T := [(ptT 1 x.d_), .d (.lit (.int .i64 x.size_)), .d (.lit (.int .i64 x.base_)), .d (.lit (.int .i64 x.slot_)), .d (.lit (.int .i64 x.used_)), .d (.lit (.int .i64 x.life_)), .d (.lit (.int .i64 x.commits_))]
abbrev zIk (i : Nat) (x : zCD) : List T := [(ptT 3 x.l_), .d (.lit (.int .i64 x.at_)), .d (.lit (.bool x.over_)), .mpt (OB + cd 6 x.now_)]
abbrev zIf (i : Nat) (x : zAA) : List T := [(ptT 5 x.t_), .d (.lit (.int .i64 x.table_))]
abbrev zHG (_ : Nat) (x : (List (List UInt8))) : List T := fl (dT zDC) x
structure Hp where
 dk : List zN
 lg : List zU
 tx : List zCD
 ix : List zAA
 sec : List (List (List UInt8))
 mp : List (List (Int × (List UInt8)))
def Hp.e : Hp := ⟨[], [], [], [], [], []⟩
abbrev Hp.ge_dk (H : Hp) (i : Nat) : Option zN := H.dk[i]?
def Hp.st_dk (H : Hp) (i : Nat) (x : zN) : Hp := { H with dk := H.dk.set i x }
def Hp.nw_dk (H : Hp) (x : zN) : Hp := { H with dk := H.dk ++ [x] }
abbrev Hp.ln_dk (H : Hp) : Nat := H.dk.length
abbrev Hp.ge_lg (H : Hp) (i : Nat) : Option zU := H.lg[i]?
def Hp.st_lg (H : Hp) (i : Nat) (x : zU) : Hp := { H with lg := H.lg.set i x }
def Hp.nw_lg (H : Hp) (x : zU) : Hp := { H with lg := H.lg ++ [x] }
abbrev Hp.ln_lg (H : Hp) : Nat := H.lg.length
abbrev Hp.ge_tx (H : Hp) (i : Nat) : Option zCD := H.tx[i]?
def Hp.nw_tx (H : Hp) (x : zCD) : Hp := { H with tx := H.tx ++ [x] }
abbrev Hp.ln_tx (H : Hp) : Nat := H.tx.length
abbrev Hp.ge_ix (H : Hp) (i : Nat) : Option zAA := H.ix[i]?
def Hp.nw_ix (H : Hp) (x : zAA) : Hp := { H with ix := H.ix ++ [x] }
abbrev Hp.ln_ix (H : Hp) : Nat := H.ix.length
abbrev Hp.ge_sec (H : Hp) (i : Nat) : Option (List (List UInt8)) := H.sec[i]?
def Hp.st_sec (H : Hp) (i : Nat) (x : (List (List UInt8))) : Hp := { H with sec := H.sec.set i x }
def Hp.nw_sec (H : Hp) (x : (List (List UInt8))) : Hp := { H with sec := H.sec ++ [x] }
abbrev Hp.ln_sec (H : Hp) : Nat := H.sec.length
abbrev Hp.ge_mp (H : Hp) (i : Nat) : Option (List (Int × (List UInt8))) := H.mp[i]?
def Hp.st_mp (H : Hp) (i : Nat) (x : (List (Int × (List UInt8)))) : Hp := { H with mp := H.mp.set i x }
def Hp.nw_mp (H : Hp) (x : (List (Int × (List UInt8)))) : Hp := { H with mp := H.mp ++ [x] }
abbrev Hp.ln_mp (H : Hp) : Nat := H.mp.length
def hpT (H : Hp) : Nat → Nat → A
 | 1, i => arA H.dk zHP i
 | 2, i => arA H.sec zHG i
 | 3, i => arA H.lg zIQ i
 | 5, i => arA H.tx zIk i
 | 6, i => arM (fun z : Int => Value.int .i64 z) (fun l : List UInt8 => D.seq 1 (qE l)) H.mp i
 | 7, i => arA H.ix zIf i
 | _, _ => .free
def hpA (H : Hp) : Nat → A := hpF (hpT H)
theorem zEB {H : Hp} {i : Nat} {x : zN} (h : H.ge_dk i = some x) : hpA H (cd 1 i) = (.box (zHP i x)) := (zEH (by decide)).trans (zFq h)
theorem su_dk {H : Hp} {i : Nat} {x x' : zN} (h : H.ge_dk i = some x) : hpA (H.st_dk i x') = updF (hpA H) (cd 1 i) (.box (zHP i x')) := by
 refine zDj (by decide) (arA_eq h) fun t' j hne => ?_
 match t' with
 | 0 => exact rfl
 | 1 => exact arA_ne fun e => hne ⟨rfl, e⟩
 | 2 => exact rfl
 | 3 => exact rfl
 | 4 => exact rfl
 | 5 => exact rfl
 | 6 => exact rfl
 | 7 => exact rfl
 | k + 8 => rfl
theorem su2_dk {H : Hp} {i : Nat} {x x' : zN} {y : A} (h : H.ge_dk i = some x) : hpA (H.st_dk i x') = updF (updF (hpA H) (cd 1 i) y) (cd 1 i) (.box (zHP i x')) := by
 rw [su_dk h]
 funext k
 unfold updF
 split <;> rfl
theorem fr_dk (H : Hp) : hpA H (cd 1 H.ln_dk) = .free := (zEH (by decide)).trans zFI
theorem nw_dk (H : Hp) (x : zN) : hpA (H.nw_dk x) = updF (hpA H) (cd 1 H.ln_dk) (.box (zHP H.ln_dk x)) := by
 refine zDj (by decide) zGU fun t' j hne => ?_
 match t' with
 | 0 => exact rfl
 | 1 => exact zGW fun e => hne ⟨rfl, e⟩
 | 2 => exact rfl
 | 3 => exact rfl
 | 4 => exact rfl
 | 5 => exact rfl
 | 6 => exact rfl
 | 7 => exact rfl
 | k + 8 => rfl
theorem zA7 {H : Hp} {i : Nat} {x : zU} (h : H.ge_lg i = some x) : hpA H (cd 3 i) = (.box (zIQ i x)) := (zEH (by decide)).trans (zFq h)
theorem zHM {H : Hp} {i : Nat} {x x' : zU} (h : H.ge_lg i = some x) : hpA (H.st_lg i x') = updF (hpA H) (cd 3 i) (.box (zIQ i x')) := by
 refine zDj (by decide) (arA_eq h) fun t' j hne => ?_
 match t' with
 | 0 => exact rfl
 | 1 => exact rfl
 | 2 => exact rfl
 | 3 => exact arA_ne fun e => hne ⟨rfl, e⟩
 | 4 => exact rfl
 | 5 => exact rfl
 | 6 => exact rfl
 | 7 => exact rfl
 | k + 8 => rfl
theorem fr_lg (H : Hp) : hpA H (cd 3 H.ln_lg) = .free := (zEH (by decide)).trans zFI
theorem nw_lg (H : Hp) (x : zU) : hpA (H.nw_lg x) = updF (hpA H) (cd 3 H.ln_lg) (.box (zIQ H.ln_lg x)) := by
 refine zDj (by decide) zGU fun t' j hne => ?_
 match t' with
 | 0 => exact rfl
 | 1 => exact rfl
 | 2 => exact rfl
 | 3 => exact zGW fun e => hne ⟨rfl, e⟩
 | 4 => exact rfl
 | 5 => exact rfl
 | 6 => exact rfl
 | 7 => exact rfl
 | k + 8 => rfl
theorem zGT {H : Hp} {i : Nat} {x : zCD} (h : H.ge_tx i = some x) : hpA H (cd 5 i) = (.box (zIk i x)) := (zEH (by decide)).trans (zFq h)
theorem fr_tx (H : Hp) : hpA H (cd 5 H.ln_tx) = .free := (zEH (by decide)).trans zFI
theorem nw_tx (H : Hp) (x : zCD) : hpA (H.nw_tx x) = updF (hpA H) (cd 5 H.ln_tx) (.box (zIk H.ln_tx x)) := by
 refine zDj (by decide) zGU fun t' j hne => ?_
 match t' with
 | 0 => exact rfl
 | 1 => exact rfl
 | 2 => exact rfl
 | 3 => exact rfl
 | 4 => exact rfl
 | 5 => exact zGW fun e => hne ⟨rfl, e⟩
 | 6 => exact rfl
 | 7 => exact rfl
 | k + 8 => rfl
theorem zHt {H : Hp} {i : Nat} {x : zAA} (h : H.ge_ix i = some x) : hpA H (cd 7 i) = (.box (zIf i x)) := (zEH (by decide)).trans (zFq h)
theorem fr_ix (H : Hp) : hpA H (cd 7 H.ln_ix) = .free := (zEH (by decide)).trans zFI
theorem nw_ix (H : Hp) (x : zAA) : hpA (H.nw_ix x) = updF (hpA H) (cd 7 H.ln_ix) (.box (zIf H.ln_ix x)) := by
 refine zDj (by decide) zGU fun t' j hne => ?_
 match t' with
 | 0 => exact rfl
 | 1 => exact rfl
 | 2 => exact rfl
 | 3 => exact rfl
 | 4 => exact rfl
 | 5 => exact rfl
 | 6 => exact rfl
 | 7 => exact zGW fun e => hne ⟨rfl, e⟩
 | k + 8 => rfl
theorem zJf {H : Hp} {i : Nat} {x : (List (List UInt8))} (h : H.ge_sec i = some x) : hpA H (cd 2 i) = (.box (zHG i x)) := (zEH (by decide)).trans (zFq h)
theorem su_sec {H : Hp} {i : Nat} {x x' : (List (List UInt8))} (h : H.ge_sec i = some x) : hpA (H.st_sec i x') = updF (hpA H) (cd 2 i) (.box (zHG i x')) := by
 refine zDj (by decide) (arA_eq h) fun t' j hne => ?_
 match t' with
 | 0 => exact rfl
 | 1 => exact rfl
 | 2 => exact arA_ne fun e => hne ⟨rfl, e⟩
 | 3 => exact rfl
 | 4 => exact rfl
 | 5 => exact rfl
 | 6 => exact rfl
 | 7 => exact rfl
 | k + 8 => rfl
theorem fr_sec (H : Hp) : hpA H (cd 2 H.ln_sec) = .free := (zEH (by decide)).trans zFI
theorem nw_sec (H : Hp) (x : (List (List UInt8))) : hpA (H.nw_sec x) = updF (hpA H) (cd 2 H.ln_sec) (.box (zHG H.ln_sec x)) := by
 refine zDj (by decide) zGU fun t' j hne => ?_
 match t' with
 | 0 => exact rfl
 | 1 => exact rfl
 | 2 => exact zGW fun e => hne ⟨rfl, e⟩
 | 3 => exact rfl
 | 4 => exact rfl
 | 5 => exact rfl
 | 6 => exact rfl
 | 7 => exact rfl
 | k + 8 => rfl
theorem gl_mp {H : Hp} {i : Nat} {x : (List (Int × (List UInt8)))} (h : H.ge_mp i = some x) : hpA H (cd 6 i) = (mpA (fun z : Int => Value.int .i64 z) (fun l : List UInt8 => D.seq 1 (qE l)) x) := (zEH (by decide)).trans (arM_get h)
theorem su_mp {H : Hp} {i : Nat} {x x' : (List (Int × (List UInt8)))} (h : H.ge_mp i = some x) : hpA (H.st_mp i x') = updF (hpA H) (cd 6 i) (mpA (fun z : Int => Value.int .i64 z) (fun l : List UInt8 => D.seq 1 (qE l)) x') := by
 refine zDj (by decide) (arM_eq h) fun t' j hne => ?_
 match t' with
 | 0 => exact rfl
 | 1 => exact rfl
 | 2 => exact rfl
 | 3 => exact rfl
 | 4 => exact rfl
 | 5 => exact rfl
 | 6 => exact arM_ne fun e => hne ⟨rfl, e⟩
 | 7 => exact rfl
 | k + 8 => rfl
theorem fr_mp (H : Hp) : hpA H (cd 6 H.ln_mp) = .free := (zEH (by decide)).trans arM_free
theorem nw_mp (H : Hp) (x : (List (Int × (List UInt8)))) : hpA (H.nw_mp x) = updF (hpA H) (cd 6 H.ln_mp) (mpA (fun z : Int => Value.int .i64 z) (fun l : List UInt8 => D.seq 1 (qE l)) x) := by
 refine zDj (by decide) arM_new fun t' j hne => ?_
 match t' with
 | 0 => exact rfl
 | 1 => exact rfl
 | 2 => exact rfl
 | 3 => exact rfl
 | 4 => exact rfl
 | 5 => exact rfl
 | 6 => exact arM_old fun e => hne ⟨rfl, e⟩
 | 7 => exact rfl
 | k + 8 => rfl
theorem zD (H : Hp) : zDa (hpA H) := hpF_pure fun t i l h => by
 match t, h with
 | 0, h => exact nomatch h
 | 1, h => exact zFY (f := zHP) (fun i x y hy => by
   simp only [zHP, List.mem_cons, List.not_mem_nil, or_false] at hy
   rcases hy with rfl | rfl | rfl | rfl | rfl | rfl <;> first | rfl | exact zHW _ _) l h
 | 2, h => exact zFY (f := zHG) (fun i x => fl_loc _ _) l h
 | 3, h => exact zFY (f := zIQ) (fun i x y hy => by
   simp only [zIQ, List.mem_cons, List.not_mem_nil, or_false] at hy
   rcases hy with rfl | rfl | rfl | rfl | rfl | rfl | rfl <;> first | rfl | exact zHW _ _) l h
 | 4, h => exact nomatch h
 | 5, h => exact zFY (f := zIk) (fun i x y hy => by
   simp only [zIk, List.mem_cons, List.not_mem_nil, or_false] at hy
   rcases hy with rfl | rfl | rfl | rfl <;> first | rfl | exact zHW _ _ | exact mpt_loc _) l h
 | 6, h => exact arM_pure h
 | 7, h => exact zFY (f := zIf) (fun i x y hy => by
   simp only [zIf, List.mem_cons, List.not_mem_nil, or_false] at hy
   rcases hy with rfl | rfl <;> first | rfl | exact zHW _ _) l h
 | k + 8, h => exact nomatch h
theorem san_hpA (H : Hp) (c : Nat) : san (hpA H c) = hpA H c := by
 show san (hpT H (c % 64) (c / 64)) = hpT H (c % 64) (c / 64)
 generalize c % 64 = t
 match t with
 | 0 => exact rfl
 | 1 => exact zGj _ _ _
 | 2 => exact zGj _ _ _
 | 3 => exact zGj _ _ _
 | 4 => exact rfl
 | 5 => exact zGj _ _ _
 | 6 => exact san_arM _ _ _ _
 | 7 => exact zGj _ _ _
 | k + 8 => rfl
theorem rn_hpA (H : Hp) (j c k : Nat) : rnA j c (hpA H k) = hpA H k := rn_pure (fun l e => zD H k l e) (san_hpA H k) j c
theorem hpA_e (c : Nat) : san (hpA Hp.e c) = .free := by
 rw [san_hpA]
 show hpT Hp.e (c % 64) (c / 64) = .free
 generalize c % 64 = t
 match t with
 | 0 => exact rfl
 | 1 => exact rfl
 | 2 => exact rfl
 | 3 => exact rfl
 | 4 => exact rfl
 | 5 => exact rfl
 | 6 => exact rfl
 | 7 => exact rfl
 | k + 8 => rfl
structure qF where
 Home : Int
 Data : (List UInt8)
abbrev zT (x : qF) : List D := [.lit (.int .i64 x.Home), .seq 1 (qE x.Data)]
structure zAr where
 kind_ : Int
 number_ : Int
 data_ : (List UInt8)
 ok_ : Bool
def zDs (p0 : Int) (w0 : Hp) : Option ((Option Nat) × Int × Hp) :=
bif (decide (p0 < 1)) then (some (none, 2, w0)) else (bif (decide (p0 > 16384)) then (some (none, 2, w0)) else (Option.bind (mkI 64 p0) fun x3 =>
Option.bind (mkI 64 p0) fun x5 =>
some ((some ((w0.nw_sec (List.replicate x3 ([] : (List UInt8)))).nw_sec (List.replicate x5 ([] : (List UInt8)))).ln_dk), 0, (((w0.nw_sec (List.replicate x3 ([] : (List UInt8)))).nw_sec (List.replicate x5 ([] : (List UInt8)))).nw_dk (zN.mk (w0.ln_sec, x3) ((w0.nw_sec (List.replicate x3 ([] : (List UInt8)))).ln_sec, x5) [] (-1) false 0)))))
def zA8 (p0 : (Option Nat)) (w0 : Hp) : Option Bool :=
ptM p0 (some false) (fun i2 =>
Option.bind (w0.ge_dk i2) fun x3 =>
some (decide ((x3.now_.2 : Int) > 0)))
def zAv (p0 : (Option Nat)) (p1 : Int) (w0 : Hp) : Option Int :=
Option.bind (zA8 p0 w0) fun x1 =>
bif (!x1) then (some 1) else (ptM p0 (none) (fun i5 =>
Option.bind (w0.ge_dk i5) fun x6 =>
bif x6.off_ then (some 30) else (bif (decide (p1 < 0)) then (some 31) else (bif (decide (p1 ≥ (x6.now_.2 : Int))) then (some 31) else (some 0)))))
def zA2 (p0 : (Option Nat)) (w0 : Hp) : Option (Bool × Hp) :=
ptM p0 (none) (fun i2 =>
Option.bind (w0.ge_dk i2) fun x3 =>
bif (decide (x3.fuse_ < 0)) then (some (false, w0)) else (some ((zN.mk x3.kept_ x3.now_ x3.wait_ (wi (((zN.mk x3.kept_ x3.now_ x3.wait_ x3.fuse_ (x3.fuse_ == 0) x3.lives_).fuse_) - 1)) (x3.fuse_ == 0) x3.lives_).off_, ((w0.st_dk i2 (zN.mk x3.kept_ x3.now_ x3.wait_ x3.fuse_ (x3.fuse_ == 0) x3.lives_)).st_dk i2 (zN.mk x3.kept_ x3.now_ x3.wait_ (wi (((zN.mk x3.kept_ x3.now_ x3.wait_ x3.fuse_ (x3.fuse_ == 0) x3.lives_).fuse_) - 1)) (x3.fuse_ == 0) x3.lives_)))))
def qZ (p0 : (Option Nat)) (p1 : Int) (p2 : (List UInt8)) (w0 : Hp) : Option (Int × Hp) :=
Option.bind (zAv p0 p1 w0) fun x1 =>
bif (x1 != 0) then (some (x1, w0)) else (bif ((p2.length : Int) != 64) then (some (2, w0)) else (Option.bind (s2aI 64 p2) fun x5 =>
ptM p0 (none) (fun i8 =>
Option.bind (w0.ge_dk i8) fun x9 =>
Option.bind (appI 72 x9.wait_ [(zAX.mk p1 x5)]) fun x11 =>
Option.bind ((w0.st_dk i8 (zN.mk x9.kept_ x9.now_ x11 x9.fuse_ x9.off_ x9.lives_)).ge_sec (((zN.mk x9.kept_ x9.now_ x11 x9.fuse_ x9.off_ x9.lives_).now_).1)) fun x13 =>
Option.bind (lenI x13.length ((zN.mk x9.kept_ x9.now_ x11 x9.fuse_ x9.off_ x9.lives_).now_).2) fun x15 =>
Option.bind (idx x13 p1) fun x17 =>
Option.bind (zA2 (some i8) ((w0.st_dk i8 (zN.mk x9.kept_ x9.now_ x11 x9.fuse_ x9.off_ x9.lives_)).st_sec (((zN.mk x9.kept_ x9.now_ x11 x9.fuse_ x9.off_ x9.lives_).now_).1) (x13.set (Int.toNat p1) x5))) fun x19 =>
bif x19.1 then (some (30, x19.2)) else (some (0, x19.2)))))
def zAO (p0 : (Option Nat)) (w0 : Hp) : Option Int :=
Option.bind (zA8 p0 w0) fun x1 =>
bif (!x1) then (some 0) else (ptM p0 (none) (fun i5 =>
Option.bind (w0.ge_dk i5) fun x6 =>
some (x6.now_.2 : Int)))
def zDL (p0 : (Option Nat)) (p1 : Int) (w0 : Hp) : Option Bool :=
bif (decide (p1 ≥ 3)) then (Option.bind (zAO p0 w0) fun x2 =>
some (decide (p1 ≤ (wi ((wi (x2 - 2)) - 1))))) else (some false)
def zB8 (p0 : (Option Nat)) (y7 : Hp) : Option (Int × Hp) :=
ptM p0 (none) (fun i9 =>
Option.bind (y7.ge_dk i9) fun x10 =>
some (0, (y7.st_dk i9 (zN.mk x10.kept_ x10.now_ [] x10.fuse_ x10.off_ x10.lives_))))
def zAg (x14 : zN) (i13 : Nat) (p0 : (Option Nat)) : Nat → Int → Hp → Option (Int × Hp)
 | 0, _, _ => none
 | nl2 + 1, z16, z17 =>
  bif (decide (z16 < (x14.wait_.length : Int))) then (Option.bind (idx x14.wait_ z16) fun x19 =>
  Option.bind (z17.ge_dk i13) fun x21 =>
  Option.bind (z17.ge_sec x21.kept_.1) fun x23 =>
  Option.bind (lenI x23.length x21.kept_.2) fun x25 =>
  Option.bind (idx x23 x19.n_) fun x27 =>
  (zAg x14 i13 p0 nl2) (wi (z16 + 1)) (z17.st_sec x21.kept_.1 (x23.set (Int.toNat x19.n_) x19.b_))) else (zB8 p0 z17)
def yH (p0 : (Option Nat)) (w0 : Hp) : Option (Int × Hp) :=
Option.bind (zAv p0 0 w0) fun x1 =>
bif (x1 != 0) then (some (x1, w0)) else (Option.bind (zA2 p0 w0) fun x4 =>
bif x4.1 then (some (30, x4.2)) else (ptM p0 (none) (fun i13 =>
Option.bind (x4.2.ge_dk i13) fun x14 =>
zAg x14 i13 p0 (x14.wait_.length + 1) 0 x4.2)))
def yU (p0 : (List UInt8)) (o0 n0 : Nat) (p1 : Int) : Option (List UInt8) :=
Option.bind (zDx p1 ((n0 : Nat) : Int)) fun x1 =>
Option.bind (cpyI p0 o0 n0 x1.1) fun x3 =>
Option.bind (lenI x3.length p0.length) fun x5 =>
some x3
def zBP (p0 : Int) (p1 : Int) : Option (List UInt8) :=
Option.bind (mkI 1 64) fun x1 =>
Option.bind (vcut x1 0 8) fun x3 =>
Option.bind (yU (List.replicate x1 (0 : UInt8)) (0 + Int.toNat 0 * 1) (Int.toNat 8 - Int.toNat 0) p0) fun x5 =>
Option.bind (lenI x5.length (List.replicate x1 (0 : UInt8)).length) fun x7 =>
Option.bind (vcut x1 8 12) fun x9 =>
Option.bind (yU x5 (0 + Int.toNat 8 * 1) (Int.toNat 12 - Int.toNat 8) p1) fun x11 =>
Option.bind (lenI x11.length x5.length) fun x13 =>
Option.bind (vcut x1 56 (x1 : Int)) fun x15 =>
Option.bind (yU x11 (0 + Int.toNat 56 * 1) (Int.toNat (x1 : Int) - Int.toNat 56) p0) fun x17 =>
Option.bind (lenI x17.length x11.length) fun x19 =>
some x17
def zCa (p0 : (Option Nat)) (p1 : Int) (y7 : Hp) : Option (Int × Hp) :=
Option.bind (yH p0 y7) fun x8 =>
bif (x8.1 != 0) then (some (x8.1, x8.2)) else (Option.bind (zBP 1 p1) fun x11 =>
Option.bind (qZ p0 0 x11 x8.2) fun x13 =>
bif (x13.1 != 0) then (some (x13.1, x13.2)) else (Option.bind (yH p0 x13.2) fun x16 =>
some (x16.1, x16.2)))
def zBv (p1 : Int) (p0 : (Option Nat)) : Nat → Int → Hp → Option (Int × Hp)
 | 0, _, _ => none
 | nl2 + 1, z18, z19 =>
  bif (decide (z18 < (wi (2 + p1)))) then (Option.bind (mkI 1 64) fun x21 =>
  Option.bind (qZ p0 z18 (List.replicate x21 (0 : UInt8)) z19) fun x23 =>
  bif (x23.1 != 0) then (some (x23.1, x23.2)) else ((zBv p1 p0 nl2) (wi (z18 + 1)) x23.2)) else (zCa p0 p1 z19)
def zCO (p0 : (Option Nat)) (p1 : Int) (w0 : Hp) : Option (Int × Hp) :=
Option.bind (zAO p0 w0) fun x1 =>
bif (x1 == 0) then (some (1, w0)) else (Option.bind (zDL p0 p1 w0) fun x4 =>
bif (!x4) then (some (2, w0)) else (zBv p1 p0 (Int.toNat (wi (2 + p1)) + 1) 1 w0))
def zBT (p0 : (Option Nat)) (w0 : Hp) : Option Bool :=
Option.bind (zA8 p0 w0) fun x1 =>
bif x1 then (ptM p0 (none) (fun i5 =>
Option.bind (w0.ge_dk i5) fun x6 =>
some x6.off_)) else (some false)
def zAB (p0 : (Option Nat)) (w0 : Hp) : Option Int :=
Option.bind (zA8 p0 w0) fun x1 =>
bif (!x1) then (some 0) else (ptM p0 (none) (fun i5 =>
Option.bind (w0.ge_dk i5) fun x6 =>
some x6.lives_))
def zAN (p0 : (Option Nat)) (p1 : Int) (w0 : Hp) : Option ((List UInt8) × Int) :=
Option.bind (zAv p0 p1 w0) fun x1 =>
bif (x1 != 0) then (some ([], x1)) else (ptM p0 (none) (fun i5 =>
Option.bind (w0.ge_dk i5) fun x6 =>
Option.bind (w0.ge_sec x6.now_.1) fun x8 =>
Option.bind (lenI x8.length x6.now_.2) fun x10 =>
Option.bind (idx x8 p1) fun x12 =>
some ((padA (0 : UInt8) x12 0 64), 0)))
def zCZ (y3 : Int) : Option (Int × Int) :=
bif (decide (y3 > 4611686018427387904)) then (some (0, 11)) else (some ((wi y3), 0))
def zB5 (p0 : (List UInt8)) : Nat → Int → Int → Option (Int × Int)
 | 0, _, _ => none
 | nl2 + 1, z5, z6 =>
  bif (decide (z6 < (p0.length : Int))) then (Option.bind (idx p0 z6) fun x8 =>
  (zB5 p0 nl2) (IntKind.u64.wrap ((((BitVec.ofInt IntKind.u64.bits (IntKind.u64.wrap (z5 * 2 ^ 8))) ||| (BitVec.ofInt IntKind.u64.bits (x8.toNat : Int))).toNat : Nat) : Int)) (wi (z6 + 1))) else (zCZ z5)
def zBH (p0 : (List UInt8)) : Option (Int × Int) :=
bif ((p0.length : Int) == 0) then (some (0, 10)) else (bif (decide ((p0.length : Int) > 8)) then (some (0, 2)) else (zB5 p0 (p0.length + 1) 0 0))
def zA1 (p0 : (List UInt8)) (p1 : (UInt8 → Option Bool)) : Nat → Int → Option Int
 | 0, _ => none
 | nl1 + 1, z1 =>
  bif (decide (z1 < (p0.length : Int))) then (Option.bind (idx p0 z1) fun x3 =>
  Option.bind (p1 x3) fun x5 =>
  bif x5 then (some z1) else ((zA1 p0 p1 nl1) (wi (z1 + 1)))) else (some (-1))
def zCd (p0 : (List UInt8)) (p1 : (UInt8 → Option Bool)) : Option Int :=
zA1 p0 p1 (p0.length + 1) 0
def zB6 (p0 : (List UInt8)) (p1 : (UInt8 → Option Bool)) : Option Bool :=
Option.bind (zCd p0 p1) fun x1 =>
some (decide (x1 ≥ 0))
def zEI (p0 : UInt8) : Option Bool :=
some ((p0.toNat : Int) != 0)
def zDI (p0 : (List UInt8)) : Option Bool :=
Option.bind (zB6 p0 zEI) fun x1 =>
some (!x1)
def zAU (p0 : (Option Nat)) (p1 : Int) (w0 : Hp) : Option (Int × Int × Bool) :=
Option.bind (zAN p0 p1 w0) fun x1 =>
bif (x1.2 != 0) then (some (0, 0, false)) else (Option.bind (cutI x1.1 0 8) fun x4 =>
Option.bind (zBH x4) fun x6 =>
Option.bind (cutI x1.1 56 (x1.1.length : Int)) fun x8 =>
Option.bind (zBH x8) fun x10 =>
Option.bind (cutI x1.1 8 12) fun x12 =>
Option.bind (zBH x12) fun x14 =>
bif (x6.2 != 0) then (some (0, 0, false)) else (bif (x10.2 != 0) then (some (0, 0, false)) else (bif (x14.2 != 0) then (some (0, 0, false)) else (bif (x6.1 != x10.1) then (some (0, 0, false)) else (bif (decide (x6.1 < 1)) then (some (0, 0, false)) else (bif (decide (x6.1 > 2305843009213693952)) then (some (0, 0, false)) else (Option.bind (zDL p0 x14.1 w0) fun x22 =>
bif (!x22) then (some (0, 0, false)) else (Option.bind (cutI x1.1 12 56) fun x25 =>
Option.bind (zDI x25) fun x27 =>
bif (!x27) then (some (0, 0, false)) else (some (x6.1, x14.1, true))))))))))
def zBC (p0 : (Option Nat)) (p1 : Int) (w0 : Hp) : Option Int :=
ptM p0 (none) (fun i2 =>
Option.bind (w0.ge_lg i2) fun x3 =>
some (wi ((wi (2 + x3.size_)) + p1)))
def zBF (p1 : (List qF)) (p0 : (Option Nat)) : Nat → Int → Hp → Option (Int × Hp)
 | 0, _, _ => none
 | nl1 + 1, z1, z2 =>
  bif (decide (z1 < (p1.length : Int))) then (Option.bind (idx p1 z1) fun x4 =>
  ptM p0 (none) (fun i7 =>
  Option.bind (z2.ge_lg i7) fun x8 =>
  Option.bind (zBC (some i7) x4.Home z2) fun x10 =>
  Option.bind (qZ x8.d_ x10 x4.Data z2) fun x12 =>
  bif (x12.1 != 0) then (some (x12.1, x12.2)) else ((zBF p1 p0 nl1) (wi (z1 + 1)) x12.2))) else (some (0, z2))
def zCF (p0 : (Option Nat)) (p1 : (List qF)) (w0 : Hp) : Option (Int × Hp) :=
zBF p1 p0 (p1.length + 1) 0 w0
def zAL (p0 : (Option Nat)) (w0 : Hp) : Option Int :=
ptM p0 (some 0) (fun i2 =>
Option.bind (w0.ge_lg i2) fun x3 =>
ptM x3.d_ (some 0) (fun i6 =>
Option.bind (zAO x3.d_ w0) fun x7 =>
some (wi ((wi (x7 - 2)) - x3.size_))))
def zDf (y1 : Int) : Option Int :=
some (IntKind.u32.wrap ((((BitVec.ofInt IntKind.u32.bits 4294967295) ^^^ (BitVec.ofInt IntKind.u32.bits y1)).toNat : Nat) : Int))
def zCQ (kl3 : Int → Int → Option Int) (z8 : Int) : Nat → Int → Int → Option Int
 | 0, _, _ => none
 | nl4 + 1, z12, z13 =>
  bif (decide (z13 < 8)) then (bif ((IntKind.u32.wrap ((((BitVec.ofInt IntKind.u32.bits z12) &&& (BitVec.ofInt IntKind.u32.bits 1)).toNat : Nat) : Int)) == 1) then ((zCQ kl3 z8 nl4) (IntKind.u32.wrap ((((BitVec.ofInt IntKind.u32.bits (Int.fdiv z12 (2 ^ 1))) ^^^ (BitVec.ofInt IntKind.u32.bits 3988292384)).toNat : Nat) : Int)) (wi (z13 + 1))) else ((zCQ kl3 z8 nl4) (Int.fdiv z12 (2 ^ 1)) (wi (z13 + 1)))) else (kl3 z12 (wi (z8 + 1)))
def zBy (kl2 : Int → Int → Option Int) (x5 : (List UInt8)) (z3 : Int) : Nat → Int → Int → Option Int
 | 0, _, _ => none
 | nl3 + 1, z7, z8 =>
  bif (decide (z8 < (x5.length : Int))) then (Option.bind (idx x5 z8) fun x10 =>
  zCQ (zBy kl2 x5 z3 nl3) z8 (Int.toNat 8 + 1) (IntKind.u32.wrap ((((BitVec.ofInt IntKind.u32.bits z7) ^^^ (BitVec.ofInt IntKind.u32.bits (x10.toNat : Int))).toNat : Nat) : Int)) 0) else (kl2 z7 (wi (z3 + 1)))
def zBV (p0 : (List (List UInt8))) : Nat → Int → Int → Option Int
 | 0, _, _ => none
 | nl2 + 1, z2, z3 =>
  bif (decide (z3 < (p0.length : Int))) then (Option.bind (idx p0 z3) fun x5 =>
  zBy (zBV p0 nl2) x5 z3 (x5.length + 1) z2 0) else (zDf z2)
def zFN (p0 : (List (List UInt8))) : Option Int :=
zBV p0 (p0.length + 1) 4294967295 0
def zBI (p0 : zAr) (p1 : Int) : Option (List UInt8) :=
Option.bind (mkI 1 64) fun x1 =>
Option.bind (idx (List.replicate x1 (0 : UInt8)) 0) fun x3 =>
Option.bind (vcut x1 1 5) fun x5 =>
Option.bind (yU ((List.replicate x1 (0 : UInt8)).set (Int.toNat 0) (U8 p0.kind_)) (0 + Int.toNat 1 * 1) (Int.toNat 5 - Int.toNat 1) p0.number_) fun x7 =>
Option.bind (lenI x7.length ((List.replicate x1 (0 : UInt8)).set (Int.toNat 0) (U8 p0.kind_)).length) fun x9 =>
Option.bind (vcut x1 5 37) fun x11 =>
Option.bind (cpyI x7 (0 + Int.toNat 5 * 1) (Int.toNat 37 - Int.toNat 5) p0.data_) fun x13 =>
Option.bind (lenI x13.length x7.length) fun x15 =>
Option.bind (vcut x1 56 (x1 : Int)) fun x17 =>
Option.bind (yU x13 (0 + Int.toNat 56 * 1) (Int.toNat (x1 : Int) - Int.toNat 56) p1) fun x19 =>
Option.bind (lenI x19.length x13.length) fun x21 =>
Option.bind (vcut x1 52 56) fun x23 =>
Option.bind (vcut x1 0 52) fun x25 =>
Option.bind (vcut x1 56 (x1 : Int)) fun x27 =>
Option.bind (zEK x19 (0 + Int.toNat 0 * 1) (Int.toNat 52 - Int.toNat 0)) fun x29 =>
Option.bind (zEK x19 (0 + Int.toNat 56 * 1) (Int.toNat (x1 : Int) - Int.toNat 56)) fun x31 =>
Option.bind (zFN [x29, x31]) fun x33 =>
Option.bind (yU x19 (0 + Int.toNat 52 * 1) (Int.toNat 56 - Int.toNat 52) (wi x33)) fun x35 =>
Option.bind (lenI x35.length x19.length) fun x37 =>
some x35
def zAx (p0 : (List UInt8)) (p1 : (List UInt8)) : Nat → Int → Option Bool
 | 0, _ => none
 | nl1 + 1, z2 =>
  bif (decide (z2 < (p0.length : Int))) then (Option.bind (idx p0 z2) fun x4 =>
  Option.bind (idx p1 z2) fun x6 =>
  bif ((x4.toNat : Int) != (x6.toNat : Int)) then (some false) else ((zAx p0 p1 nl1) (wi (z2 + 1)))) else (some true)
def zAt (p0 : (List UInt8)) (p1 : (List UInt8)) : Option Bool :=
bif ((p0.length : Int) != (p1.length : Int)) then (some false) else (zAx p0 p1 (p0.length + 1) 0)
def zAk (p0 : (Option Nat)) (p1 : Int) (w0 : Hp) : Option zAr :=
ptM p0 (none) (fun i2 =>
Option.bind (w0.ge_lg i2) fun x3 =>
bif (decide (p1 ≥ x3.size_)) then (some (zAr.mk 0 0 [] false)) else (Option.bind (zAN x3.d_ (wi (2 + p1)) w0) fun x6 =>
bif (x6.2 != 0) then (some (zAr.mk 0 0 [] false)) else (Option.bind (idx x6.1 0) fun x9 =>
Option.bind (cutI x6.1 5 37) fun x11 =>
Option.bind (cutI x6.1 1 5) fun x13 =>
Option.bind (zBH x13) fun x15 =>
Option.bind (zBI (zAr.mk (x9.toNat : Int) x15.1 x11 false) (wi (x3.base_ + p1))) fun x17 =>
Option.bind (zAt x6.1 x17) fun x19 =>
some (zAr.mk (x9.toNat : Int) x15.1 x11 x19))))
def zCv (p1 : Int) : Option (List UInt8) :=
bif (decide (p1 < 0)) then (none) else (bif (decide ((wi (p1 - (wi (0 - 0)))) > 0)) then (Option.bind (growI 1 (wi (p1 - (wi (0 - 0))))) fun x3 =>
some []) else (some []))
def zBb (p0 : (List (List UInt8))) : Nat → (List UInt8) → Int → Option (List UInt8)
 | 0, _, _ => none
 | nl2 + 1, z4, z5 =>
  bif (decide (z5 < (p0.length : Int))) then (Option.bind (idx p0 z5) fun x7 =>
  Option.bind (appI 1 z4 x7) fun x9 =>
  (zBb p0 nl2) x9 (wi (z5 + 1))) else (some z4)
def zCh (p0 : (List (List UInt8))) (y1 : Int) : Option (List UInt8) :=
Option.bind (zCv y1) fun x2 =>
zBb p0 (p0.length + 1) x2 0
def zBX (p0 : (List (List UInt8))) : Nat → Int → Int → Option (List UInt8)
 | 0, _, _ => none
 | nl3 + 1, z11, z12 =>
  bif (decide (z12 < (p0.length : Int))) then (Option.bind (idx p0 z12) fun x14 =>
  bif (decide ((wi (z11 + (x14.length : Int))) < 0)) then (none) else ((zBX p0 nl3) (wi (z11 + (x14.length : Int))) (wi (z12 + 1)))) else (zCh p0 z11)
def zC9 (p0 : (List (List UInt8))) : Option (List UInt8) :=
zBX p0 (p0.length + 1) 0 0
def zC2 (kl1 : (List qF) → Int → Option ((List qF) × Int)) (p0 : (Option Nat)) (z2 : Int) (w0 : Hp) (x3 : zAr) (z1 : (List qF)) (y5 : (Option Nat)) (y6 : Int) (y7 : Bool) : Option ((List qF) × Int) :=
Option.bind (zAk p0 (wi (z2 + 1)) w0) fun x8 =>
bif (!x8.ok_) then (some ([], 0)) else (bif (x8.kind_ != 2) then (some ([], 0)) else (bif (x8.number_ != x3.number_) then (some ([], 0)) else (Option.bind (zC9 [x3.data_, x8.data_]) fun x13 =>
Option.bind (appI 32 z1 [(qF.mk x3.number_ x13)]) fun x15 =>
kl1 x15 (wi (z2 + 2)))))
def zBg (kl1 : (List qF) → Int → Option ((List qF) × Int)) (z1 : (List qF)) (z2 : Int) (p1 : Int) (x3 : zAr) (p0 : (Option Nat)) (w0 : Hp) (y18 : Bool) : Option ((List qF) × Int) :=
bif y18 then (some (z1, (wi ((wi (z2 + 1)) - p1)))) else (bif (x3.kind_ != 1) then (some ([], 0)) else (ptM p0 (Option.bind (zAL none w0) fun x23 =>
bif (decide (x3.number_ ≥ x23)) then (some ([], 0)) else (zC2 kl1 p0 z2 w0 x3 z1 none x23 (decide (x3.number_ ≥ x23)))) (fun i22 =>
Option.bind (zAL (some i22) w0) fun x26 =>
bif (decide (x3.number_ ≥ x26)) then (some ([], 0)) else (zC2 kl1 p0 z2 w0 x3 z1 (some i22) x26 (decide (x3.number_ ≥ x26))))))
def yW (p0 : (Option Nat)) (w0 : Hp) (p1 : Int) : Nat → (List qF) → Int → Option ((List qF) × Int)
 | 0, _, _ => none
 | nl1 + 1, z1, z2 =>
  Option.bind (zAk p0 z2 w0) fun x3 =>
  bif (!x3.ok_) then (some ([], 0)) else (bif (x3.kind_ == 3) then (bif (decide ((z1.length : Int) > 0)) then (bif (x3.number_ == (z1.length : Int)) then (Option.bind (zDI x3.data_) fun x32 =>
  zBg (yW p0 w0 p1 nl1) z1 z2 p1 x3 p0 w0 x32) else (zBg (yW p0 w0 p1 nl1) z1 z2 p1 x3 p0 w0 false)) else (zBg (yW p0 w0 p1 nl1) z1 z2 p1 x3 p0 w0 false)) else (zBg (yW p0 w0 p1 nl1) z1 z2 p1 x3 p0 w0 false))
def zDD (p0 : (Option Nat)) (p1 : Int) (w0 : Hp) : Option ((List qF) × Int) :=
yW p0 w0 p1 (16400) [] p1
def zBQ (p0 : (Option Nat)) (w0 : Hp) : Nat → (List qF) → Int → Option (List qF)
 | 0, _, _ => none
 | nl1 + 1, z1, z2 =>
  Option.bind (zDD p0 z2 w0) fun x3 =>
  bif (x3.2 == 0) then (some z1) else (Option.bind (appI 32 z1 x3.1) fun x6 =>
  (zBQ p0 w0 nl1) x6 (wi (z2 + x3.2)))
def zA9 (p0 : (Option Nat)) (w0 : Hp) : Option (List qF) :=
zBQ p0 w0 (16400) [] 0
def zAc (p0 : (Option Nat)) (w0 : Hp) (y1 : Bool) : Option Int :=
bif y1 then (some 1) else (ptM p0 (none) (fun i4 =>
Option.bind (w0.ge_lg i4) fun x5 =>
Option.bind (zBT x5.d_ w0) fun x7 =>
bif x7 then (some 30) else (Option.bind (zAB x5.d_ w0) fun x10 =>
bif (x10 != x5.life_) then (some 30) else (some 0))))
def zAK (p0 : (Option Nat)) (w0 : Hp) : Option Int :=
ptM p0 (zAc p0 w0 true) (fun i14 =>
Option.bind (w0.ge_lg i14) fun x15 =>
ptM x15.d_ (zAc p0 w0 true) (fun i18 =>
zAc p0 w0 false))
def zBu (p0 : (Option Nat)) (w0 : Hp) : Option (Int × Hp) :=
ptM p0 (none) (fun i2 =>
Option.bind (w0.ge_lg i2) fun x3 =>
Option.bind (zBP (wi (x3.base_ + x3.size_)) x3.size_) fun x5 =>
Option.bind (qZ x3.d_ (wi (1 - x3.slot_)) x5 w0) fun x7 =>
bif (x7.1 != 0) then (some (x7.1, x7.2)) else (Option.bind (x7.2.ge_lg i2) fun x10 =>
Option.bind (yH x10.d_ x7.2) fun x12 =>
bif (x12.1 != 0) then (some (x12.1, x12.2)) else (Option.bind (x12.2.ge_lg i2) fun x15 =>
some (0, (((x12.2.st_lg i2 (zU.mk x15.d_ x15.size_ x15.base_ (wi (1 - x3.slot_)) x15.used_ x15.life_ x15.commits_)).st_lg i2 (zU.mk x15.d_ x15.size_ x15.base_ (wi (1 - x3.slot_)) 0 x15.life_ x15.commits_)).st_lg i2 (zU.mk x15.d_ x15.size_ (wi (((zU.mk x15.d_ x15.size_ x15.base_ (wi (1 - x3.slot_)) 0 x15.life_ x15.commits_).base_) + ((zU.mk x15.d_ x15.size_ x15.base_ (wi (1 - x3.slot_)) 0 x15.life_ x15.commits_).size_))) (wi (1 - x3.slot_)) 0 x15.life_ x15.commits_))))))
def zAM (p0 : (Option Nat)) (w0 : Hp) : Option (Int × Hp) :=
Option.bind (zAK p0 w0) fun x1 =>
bif (x1 != 0) then (some (x1, w0)) else (ptM p0 (none) (fun i5 =>
Option.bind (w0.ge_lg i5) fun x6 =>
bif (decide (x6.base_ > (wi (2305843009213693952 - x6.size_)))) then (some (3, w0)) else (Option.bind (yH x6.d_ w0) fun x9 =>
bif (x9.1 != 0) then (some (x9.1, x9.2)) else (Option.bind (zBu (some i5) x9.2) fun x12 =>
some (x12.1, x12.2)))))
def zFc (w0 : Hp) (y11 : Hp) : Option ((Option Nat) × Int × Hp) :=
Option.bind (y11.ge_lg w0.ln_lg) fun x12 =>
bif (x12.base_ == 0) then (some (none, 11, y11)) else (bif (decide (x12.base_ > (wi (2305843009213693952 - x12.size_)))) then (some (none, 3, y11)) else (Option.bind (zA9 (some w0.ln_lg) y11) fun x16 =>
Option.bind (zCF (some w0.ln_lg) x16 y11) fun x18 =>
bif (x18.1 != 0) then (some (none, x18.1, x18.2)) else (Option.bind (zAM (some w0.ln_lg) x18.2) fun x21 =>
bif (x21.1 != 0) then (some (none, x21.1, x21.2)) else (some ((some w0.ln_lg), 0, x21.2)))))
def zD6 (kl2 : Int → Hp → Option ((Option Nat) × Int × Hp)) (z25 : Hp) (w0 : Hp) (z24 : Int) (x27 : (Int × Int × Bool)) (y29 : Bool) : Option ((Option Nat) × Int × Hp) :=
bif y29 then (Option.bind (z25.ge_lg w0.ln_lg) fun x31 =>
kl2 (wi (z24 + 1)) (((z25.st_lg w0.ln_lg (zU.mk x31.d_ x31.size_ x27.1 x31.slot_ x31.used_ x31.life_ x31.commits_)).st_lg w0.ln_lg (zU.mk x31.d_ x27.2.1 x27.1 x31.slot_ x31.used_ x31.life_ x31.commits_)).st_lg w0.ln_lg (zU.mk x31.d_ x27.2.1 x27.1 z24 x31.used_ x31.life_ x31.commits_))) else (kl2 (wi (z24 + 1)) z25)
def zCe (w0 : Hp) : Nat → Int → Hp → Option ((Option Nat) × Int × Hp)
 | 0, _, _ => none
 | nl2 + 1, z24, z25 =>
  bif (decide (z24 < 2)) then (Option.bind (zAU none z24 z25) fun x27 =>
  bif x27.2.2 then (Option.bind (z25.ge_lg w0.ln_lg) fun x34 =>
  zD6 (zCe w0 nl2) z25 w0 z24 x27 (decide (x27.1 > x34.base_))) else (zD6 (zCe w0 nl2) z25 w0 z24 x27 false)) else (zFc w0 z25)
def zCW (w0 : Hp) (y38 : Hp) : Option ((Option Nat) × Int × Hp) :=
Option.bind (y38.ge_lg w0.ln_lg) fun x39 =>
bif (x39.base_ == 0) then (some (none, 11, y38)) else (bif (decide (x39.base_ > (wi (2305843009213693952 - x39.size_)))) then (some (none, 3, y38)) else (Option.bind (zA9 (some w0.ln_lg) y38) fun x43 =>
Option.bind (zCF (some w0.ln_lg) x43 y38) fun x45 =>
bif (x45.1 != 0) then (some (none, x45.1, x45.2)) else (Option.bind (zAM (some w0.ln_lg) x45.2) fun x48 =>
bif (x48.1 != 0) then (some (none, x48.1, x48.2)) else (some ((some w0.ln_lg), 0, x48.2)))))
def zCb (kl5 : Int → Hp → Option ((Option Nat) × Int × Hp)) (z52 : Hp) (w0 : Hp) (z51 : Int) (x54 : (Int × Int × Bool)) (y56 : Bool) : Option ((Option Nat) × Int × Hp) :=
bif y56 then (Option.bind (z52.ge_lg w0.ln_lg) fun x58 =>
kl5 (wi (z51 + 1)) (((z52.st_lg w0.ln_lg (zU.mk x58.d_ x58.size_ x54.1 x58.slot_ x58.used_ x58.life_ x58.commits_)).st_lg w0.ln_lg (zU.mk x58.d_ x54.2.1 x54.1 x58.slot_ x58.used_ x58.life_ x58.commits_)).st_lg w0.ln_lg (zU.mk x58.d_ x54.2.1 x54.1 z51 x58.used_ x58.life_ x58.commits_))) else (kl5 (wi (z51 + 1)) z52)
def yE (i8 : Nat) (w0 : Hp) : Nat → Int → Hp → Option ((Option Nat) × Int × Hp)
 | 0, _, _ => none
 | nl5 + 1, z51, z52 =>
  bif (decide (z51 < 2)) then (Option.bind (zAU (some i8) z51 z52) fun x54 =>
  bif x54.2.2 then (Option.bind (z52.ge_lg w0.ln_lg) fun x61 =>
  zCb (yE i8 w0 nl5) z52 w0 z51 x54 (decide (x54.1 > x61.base_))) else (zCb (yE i8 w0 nl5) z52 w0 z51 x54 false)) else (zCW w0 z52)
def zDJ (p0 : (Option Nat)) (w0 : Hp) : Option ((Option Nat) × Int × Hp) :=
Option.bind (zAO p0 w0) fun x1 =>
bif (x1 == 0) then (some (none, 1, w0)) else (Option.bind (zBT p0 w0) fun x4 =>
bif x4 then (some (none, 30, w0)) else (ptM p0 (Option.bind (zAB none w0) fun x9 =>
zCe w0 (Int.toNat 2 + 1) 0 (w0.nw_lg (zU.mk none 0 0 0 0 x9 0))) (fun i8 =>
Option.bind (zAB (some i8) w0) fun x36 =>
yE i8 w0 (Int.toNat 2 + 1) 0 (w0.nw_lg (zU.mk (some i8) 0 0 0 0 x36 0)))))
def zBk (p0 : (Option Nat)) (p1 : Int) (w0 : Hp) : Option ((List UInt8) × Int) :=
Option.bind (zAK p0 w0) fun x1 =>
bif (x1 != 0) then (some ([], x1)) else (bif (decide (p1 < 0)) then (some ([], 31)) else (Option.bind (zAL p0 w0) fun x5 =>
bif (decide (p1 ≥ x5)) then (some ([], 31)) else (ptM p0 (none) (fun i9 =>
Option.bind (w0.ge_lg i9) fun x10 =>
Option.bind (zBC (some i9) p1 w0) fun x12 =>
Option.bind (zAN x10.d_ x12 w0) fun x14 =>
some (x14.1, x14.2)))))
end Go.Proofs.Ytjomnccladjpgaa

/-
 Models of functions: printed by a program of this claim's own (gen.py) off the given translation.
-/
namespace Go.Proofs.Ytjomnccladjpgaa
open Go Go.RowKit
set_option linter.unusedVariables false
def zBr (p0 : (Option Nat)) (w0 : Hp) : Option ((Option Nat) × Int × Hp) :=
Option.bind (zAK p0 w0) fun x1 =>
bif (x1 != 0) then (some (none, x1, w0)) else (ptM p0 (none) (fun i5 =>
Option.bind (w0.ge_lg i5) fun x6 =>
some ((some (w0.nw_mp ([] : (List (Int × (List UInt8))))).ln_tx), 0, ((w0.nw_mp ([] : (List (Int × (List UInt8))))).nw_tx (zCD.mk (some i5) x6.commits_ false w0.ln_mp)))))
def zBN (p0 : (Option Nat)) (w0 : Hp) : Option Int :=
ptM p0 (some 1) (fun i2 =>
Option.bind (w0.ge_tx i2) fun x3 =>
Option.bind (zAK x3.l_ w0) fun x5 =>
bif (x5 != 0) then (some x5) else (bif x3.over_ then (some 34) else (ptM x3.l_ (none) (fun i10 =>
Option.bind (w0.ge_lg i10) fun x11 =>
bif (x3.at_ != x11.commits_) then (some 34) else (some 0)))))
def zCE (p0 : (Option Nat)) (p1 : Int) (w0 : Hp) : Option ((List UInt8) × Int) :=
Option.bind (zBN p0 w0) fun x1 =>
bif (x1 != 0) then (some ([], x1)) else (ptM p0 (none) (fun i5 =>
Option.bind (w0.ge_tx i5) fun x6 =>
Option.bind (w0.ge_mp x6.now_) fun x8 =>
bif (zY x8 p1).isSome then (Option.bind (yB ((zY x8 p1).getD ([] : (List UInt8)))) fun x11 =>
some (x11, 0)) else (Option.bind (zBk x6.l_ p1 w0) fun x13 =>
some (x13.1, x13.2))))
def yZ (p0 : (Option Nat)) (p1 : Int) (p2 : (List UInt8)) (w0 : Hp) : Option (Int × Hp) :=
Option.bind (zBN p0 w0) fun x1 =>
bif (x1 != 0) then (some (x1, w0)) else (bif (decide (p1 < 0)) then (some (31, w0)) else (ptM p0 (none) (fun i6 =>
Option.bind (w0.ge_tx i6) fun x7 =>
Option.bind (zAL x7.l_ w0) fun x9 =>
bif (decide (p1 ≥ x9)) then (some (31, w0)) else (bif ((p2.length : Int) != 64) then (some (2, w0)) else (Option.bind (yB p2) fun x13 =>
Option.bind (w0.ge_mp x7.now_) fun x15 =>
some (0, (w0.st_mp x7.now_ (mset x15 p1 x13))))))))
end Go.Proofs.Ytjomnccladjpgaa

/-
 Models of functions: printed by a program of this claim's own (gen.py) off the given translation.
-/
namespace Go.Proofs.Ytjomnccladjpgaa
open Go Go.RowKit
set_option linter.unusedVariables false
structure zW where
 home_ : Int
 off_ : Int
structure zA where
 Key : (List UInt8)
 Version : Int
 Len : Int
 First : Int
structure zQ where
 Entry : zA
 next_ : Int
def zB3 (p0 : (Option Nat)) (p1 : Int) (w0 : Hp) : Option ((Option Nat) × Hp) :=
ptM p0 (some ((some w0.ln_ix), (w0.nw_ix (zAA.mk none p1)))) (fun i2 =>
some ((some w0.ln_ix), (w0.nw_ix (zAA.mk (some i2) p1))))
def zCl (y3 : Int) : Option (Int × Bool) :=
some ((wi (Int.tmod y3 64)), true)
def zAo (p0 : (List UInt8)) : Nat → Int → Int → Option (Int × Bool)
 | 0, _, _ => none
 | nl2 + 1, z4, z5 =>
  bif (decide (z5 < (p0.length : Int))) then (Option.bind (idx p0 z5) fun x7 =>
  bif (decide ((x7.toNat : Int) < 33)) then (some (0, false)) else (Option.bind (idx p0 z5) fun x10 =>
  bif (decide ((x10.toNat : Int) > 126)) then (some (0, false)) else (Option.bind (idx p0 z5) fun x13 =>
  (zAo p0 nl2) (IntKind.u32.wrap ((IntKind.u32.wrap (31 * z4)) + (x13.toNat : Int))) (wi (z5 + 1))))) else (zCl z4)
def yQ (p0 : (List UInt8)) : Option (Int × Bool) :=
bif (decide ((p0.length : Int) < 1)) then (some (0, false)) else (bif (decide ((p0.length : Int) > 40)) then (some (0, false)) else (zAo p0 (p0.length + 1) 0 0))
def zBZ (x5 : ((List UInt8) × Int)) (y7 : Int) : Option ((List UInt8) × Int) :=
some (x5.1, y7)
def qJ (p0 : (Option Nat)) (p1 : Int) (w0 : Hp) : Option ((List UInt8) × Int) :=
ptM p0 (some ([], 1)) (fun i2 =>
Option.bind (w0.ge_ix i2) fun x3 =>
Option.bind (zCE x3.t_ p1 w0) fun x5 =>
bif (x5.2 == 31) then (zBZ x5 11) else (zBZ x5 x5.2))
def zAS (p0 : (List UInt8)) : Option Int :=
Option.bind (zBH p0) fun x1 =>
bif (x1.2 != 0) then (some (-1)) else (some x1.1)
def yV (p0 : (Option Nat)) (p1 : zW) (w0 : Hp) : Option (Int × Int) :=
Option.bind (qJ p0 p1.home_ w0) fun x1 =>
bif (x1.2 != 0) then (some (0, x1.2)) else (Option.bind (cutI x1.1 p1.off_ (wi (p1.off_ + 4))) fun x4 =>
Option.bind (zAS x4) fun x6 =>
some (x6, 0))
def yL (p0 : (Option Nat)) (p1 : Int) (w0 : Hp) : Option zW :=
ptM p0 (some (zW.mk 0 0)) (fun i2 =>
Option.bind (w0.ge_ix i2) fun x3 =>
some (zW.mk (wi (x3.table_ + (wi (Int.tdiv p1 16)))) (wi (4 * (Int.tmod p1 16)))))
def zCq (p0 : zA) : Option Bool :=
Option.bind (yQ p0.Key) fun x1 =>
bif x1.2 then (bif (decide (p0.Version ≥ 0)) then (bif (decide (p0.Version ≤ 4611686018427387904)) then (bif (decide (p0.Len ≥ 0)) then (bif (decide (p0.Len ≤ 1024)) then (bif (decide (p0.First ≥ 0)) then (some (decide (p0.First ≤ 16384))) else (some false)) else (some false)) else (some false)) else (some false)) else (some false)) else (some false)
def yO (p0 : (List UInt8)) (o0 n0 : Nat) (p1 : Int) : Option (List UInt8) :=
Option.bind (zDx p1 ((n0 : Nat) : Int)) fun x1 =>
Option.bind (cpyI p0 o0 n0 x1.1) fun x3 =>
Option.bind (lenI x3.length p0.length) fun x5 =>
some x3
def yR (p0 : zQ) : Option (List UInt8) :=
Option.bind (mkI 1 64) fun x1 =>
Option.bind (vcut x1 0 4) fun x3 =>
Option.bind (yO (List.replicate x1 (0 : UInt8)) (0 + Int.toNat 0 * 1) (Int.toNat 4 - Int.toNat 0) p0.next_) fun x5 =>
Option.bind (lenI x5.length (List.replicate x1 (0 : UInt8)).length) fun x7 =>
Option.bind (vcut x1 4 12) fun x9 =>
Option.bind (yO x5 (0 + Int.toNat 4 * 1) (Int.toNat 12 - Int.toNat 4) p0.Entry.Version) fun x11 =>
Option.bind (lenI x11.length x5.length) fun x13 =>
Option.bind (vcut x1 12 16) fun x15 =>
Option.bind (yO x11 (0 + Int.toNat 12 * 1) (Int.toNat 16 - Int.toNat 12) p0.Entry.Len) fun x17 =>
Option.bind (lenI x17.length x11.length) fun x19 =>
Option.bind (vcut x1 16 20) fun x21 =>
Option.bind (yO x17 (0 + Int.toNat 16 * 1) (Int.toNat 20 - Int.toNat 16) p0.Entry.First) fun x23 =>
Option.bind (lenI x23.length x17.length) fun x25 =>
Option.bind (idx x23 20) fun x27 =>
Option.bind (vcut x1 21 (x1 : Int)) fun x29 =>
Option.bind (zIo (x23.set (Int.toNat 20) (U8 (p0.Entry.Key.length : Int))) (0 + Int.toNat 21 * 1) (Int.toNat (x1 : Int) - Int.toNat 21) p0.Entry.Key) fun x31 =>
Option.bind (lenI x31.length (x23.set (Int.toNat 20) (U8 (p0.Entry.Key.length : Int))).length) fun x33 =>
some x31
def zBw (x7 : Int) (x11 : Int) (x15 : Int) (x3 : Int) (p0 : (List UInt8)) (y17 : (List UInt8)) : Option (zQ × Bool) :=
Option.bind (zCq (zA.mk y17 x7 x11 x15)) fun x18 =>
bif x18 then (Option.bind (yR (zQ.mk (zA.mk y17 x7 x11 x15) x3)) fun x21 =>
Option.bind (zAt x21 p0) fun x23 =>
some ((zQ.mk (zA.mk y17 x7 x11 x15) x3), x23)) else (some ((zQ.mk (zA.mk y17 x7 x11 x15) x3), false))
def zCR (p0 : (List UInt8)) : Option (zQ × Bool) :=
Option.bind (cutI p0 0 4) fun x1 =>
Option.bind (zAS x1) fun x3 =>
Option.bind (cutI p0 4 12) fun x5 =>
Option.bind (zAS x5) fun x7 =>
Option.bind (cutI p0 12 16) fun x9 =>
Option.bind (zAS x9) fun x11 =>
Option.bind (cutI p0 16 20) fun x13 =>
Option.bind (zAS x13) fun x15 =>
Option.bind (idx p0 20) fun x25 =>
bif (decide ((x25.toNat : Int) ≤ 40)) then (Option.bind (cutI p0 21 (wi (21 + (x25.toNat : Int)))) fun x28 =>
zBw x7 x11 x15 x3 p0 x28) else (zBw x7 x11 x15 x3 p0 [])
def yT (p0 : (Option Nat)) (w0 : Hp) (p1 : Int) (p2 : (Int → zQ → Option Bool)) : Nat → Int → Int → Int → Int → Option (zW × Int × zQ × Int)
 | 0, _, _, _, _ => none
 | nl1 + 1, z6, z7, z8, z9 =>
  bif (z8 == 0) then (some ((zW.mk 0 0), 0, (zQ.mk (zA.mk [] 0 0 0) 0), 35)) else (Option.bind (qJ p0 z8 w0) fun x11 =>
  bif (x11.2 != 0) then (some ((zW.mk 0 0), 0, (zQ.mk (zA.mk [] 0 0 0) 0), x11.2)) else (Option.bind (zCR x11.1) fun x14 =>
  Option.bind (yQ x14.1.Entry.Key) fun x16 =>
  bif (!x14.2) then (some ((zW.mk 0 0), 0, (zQ.mk (zA.mk [] 0 0 0) 0), 11)) else (bif (x16.1 != p1) then (some ((zW.mk 0 0), 0, (zQ.mk (zA.mk [] 0 0 0) 0), 11)) else (bif (decide ((wi (z9 + 1)) > 16384)) then (some ((zW.mk 0 0), 0, (zQ.mk (zA.mk [] 0 0 0) 0), 11)) else (Option.bind (p2 z8 x14.1) fun x21 =>
  bif x21 then (some ((zW.mk z6 z7), z8, x14.1, 0)) else ((yT p0 w0 p1 p2 nl1) z8 0 x14.1.next_ (wi (z9 + 1))))))))
def zBo (p0 : (Option Nat)) (p1 : Int) (p2 : (Int → zQ → Option Bool)) (w0 : Hp) : Option (zW × Int × zQ × Int) :=
Option.bind (yL p0 p1 w0) fun x1 =>
Option.bind (yV p0 x1 w0) fun x3 =>
bif (x3.2 != 0) then (some ((zW.mk 0 0), 0, (zQ.mk (zA.mk [] 0 0 0) 0), x3.2)) else (yT p0 w0 p1 p2 (16400) x1.home_ x1.off_ x3.1 0)
def zAY (p0 : Int) (p1 : zQ) (c2 : (List UInt8)) : Option Bool :=
some (p1.Entry.Key == c2)
def yS (p0 : (Option Nat)) (p1 : (List UInt8)) (w0 : Hp) : Option (zW × Int × zQ × Int) :=
Option.bind (yQ p1) fun x1 =>
bif (!x1.2) then (some ((zW.mk 0 0), 0, (zQ.mk (zA.mk [] 0 0 0) 0), 2)) else (Option.bind (zBo p0 x1.1 (fun a0 a1 => zAY a0 a1 p1) w0) fun x4 =>
some (x4.1, x4.2.1, x4.2.2.1, x4.2.2.2))
def yK (p0 : (Option Nat)) (p1 : (List UInt8)) (w0 : Hp) : Option (zA × Int × Int) :=
Option.bind (yS p0 p1 w0) fun x1 =>
some (x1.2.2.1.Entry, x1.2.1, x1.2.2.2)
def zDh (p0 : (Option Nat)) (p1 : Int) (w0 : Hp) : Option ((List UInt8) × Int) :=
Option.bind (zAv p0 p1 w0) fun x1 =>
bif (x1 != 0) then (some ([], x1)) else (ptM p0 (none) (fun i5 =>
Option.bind (w0.ge_dk i5) fun x6 =>
Option.bind (w0.ge_sec x6.now_.1) fun x8 =>
Option.bind (lenI x8.length x6.now_.2) fun x10 =>
Option.bind (idx x8 p1) fun x12 =>
some ((padA (0 : UInt8) x12 0 64), 0)))
def zEF (p0 : (Option Nat)) (p1 : Int) (w0 : Hp) : Option ((List UInt8) × Int) :=
Option.bind (zAK p0 w0) fun x1 =>
bif (x1 != 0) then (some ([], x1)) else (bif (decide (p1 < 0)) then (some ([], 31)) else (Option.bind (zAL p0 w0) fun x5 =>
bif (decide (p1 ≥ x5)) then (some ([], 31)) else (ptM p0 (none) (fun i9 =>
Option.bind (w0.ge_lg i9) fun x10 =>
Option.bind (zBC (some i9) p1 w0) fun x12 =>
Option.bind (zDh x10.d_ x12 w0) fun x14 =>
some (x14.1, x14.2)))))
def zBh (p0 : (Option Nat)) (p1 : Int) (w0 : Hp) : Option ((List UInt8) × Int) :=
Option.bind (zBN p0 w0) fun x1 =>
bif (x1 != 0) then (some ([], x1)) else (ptM p0 (none) (fun i5 =>
Option.bind (w0.ge_tx i5) fun x6 =>
Option.bind (w0.ge_mp x6.now_) fun x8 =>
bif (zY x8 p1).isSome then (Option.bind (yB ((zY x8 p1).getD ([] : (List UInt8)))) fun x11 =>
bif x11.isEmpty then none else (some (x11, 0))) else (Option.bind (zEF x6.l_ p1 w0) fun x14 =>
some (x14.1, x14.2))))
def zBB (x5 : ((List UInt8) × Int)) (y7 : Int) : Option ((List UInt8) × Int) :=
some (x5.1, y7)
def zAP (p0 : (Option Nat)) (p1 : Int) (w0 : Hp) : Option ((List UInt8) × Int) :=
ptM p0 (some ([], 1)) (fun i2 =>
Option.bind (w0.ge_ix i2) fun x3 =>
Option.bind (zBh x3.t_ p1 w0) fun x5 =>
bif (x5.2 == 31) then (zBB x5 11) else (zBB x5 x5.2))
def zAa (p0 : (Option Nat)) (p1 : zW) (p2 : Int) (w0 : Hp) : Option (Int × Hp) :=
Option.bind (zAP p0 p1.home_ w0) fun x1 =>
bif (x1.2 != 0) then (some (x1.2, w0)) else (Option.bind (vcut x1.1.length p1.off_ (wi (p1.off_ + 4))) fun x4 =>
bif x1.1.isEmpty then none else (Option.bind (yO x1.1 (0 + Int.toNat p1.off_ * 1) (Int.toNat (wi (p1.off_ + 4)) - Int.toNat p1.off_) p2) fun x7 =>
Option.bind (lenI x7.length x1.1.length) fun x9 =>
ptM p0 (none) (fun i12 =>
Option.bind (w0.ge_ix i12) fun x13 =>
Option.bind (yZ x13.t_ p1.home_ x7 w0) fun x15 =>
some (x15.1, x15.2))))
def zAh (p0 : (Option Nat)) (p2 : zA) (w0 : Hp) (p1 : Int) : Option (Int × Hp) :=
Option.bind (yS p0 p2.Key w0) fun x1 =>
bif (x1.2.2.2 != 35) then (bif (x1.2.2.2 == 0) then (some (42, w0)) else (some (x1.2.2.2, w0))) else (Option.bind (yQ p2.Key) fun x5 =>
Option.bind (yL p0 x5.1 w0) fun x7 =>
Option.bind (yV p0 x7 w0) fun x9 =>
bif (x9.2 != 0) then (some (x9.2, w0)) else (ptM p0 (none) (fun i13 =>
Option.bind (w0.ge_ix i13) fun x14 =>
Option.bind (yR (zQ.mk p2 x9.1)) fun x16 =>
Option.bind (yZ x14.t_ p1 x16 w0) fun x18 =>
bif (x18.1 != 0) then (some (x18.1, x18.2)) else (Option.bind (yL (some i13) x5.1 x18.2) fun x21 =>
Option.bind (zAa (some i13) x21 p1 x18.2) fun x23 =>
some (x23.1, x23.2)))))
def yI (p0 : (Option Nat)) (p1 : Int) (p2 : zA) (w0 : Hp) : Option (Int × Hp) :=
Option.bind (zCq p2) fun x25 =>
bif (!x25) then (some (2, w0)) else (bif (decide (p1 < 1)) then (some (2, w0)) else (bif (decide (p1 > 16384)) then (some (2, w0)) else (ptM p0 (zAh p0 p2 w0 p1) (fun i31 =>
Option.bind (w0.ge_ix i31) fun x32 =>
bif (decide (p1 ≥ x32.table_)) then (bif (decide ((wi (p1 - x32.table_)) < 4)) then (some (2, w0)) else (zAh p0 p2 w0 p1)) else (zAh p0 p2 w0 p1)))))
def yP (p0 : (Option Nat)) (p1 : zA) (w0 : Hp) : Option (Int × Hp) :=
Option.bind (zCq p1) fun x1 =>
bif (!x1) then (some (2, w0)) else (Option.bind (yS p0 p1.Key w0) fun x4 =>
bif (x4.2.2.2 != 0) then (some (x4.2.2.2, w0)) else (ptM p0 (none) (fun i8 =>
Option.bind (w0.ge_ix i8) fun x9 =>
Option.bind (yR (zQ.mk p1 x4.2.2.1.next_)) fun x11 =>
Option.bind (yZ x9.t_ x4.2.1 x11 w0) fun x13 =>
some (x13.1, x13.2))))
def yM (p0 : (Option Nat)) (p1 : (List UInt8)) (w0 : Hp) : Option (Int × Int × Hp) :=
Option.bind (yS p0 p1 w0) fun x1 =>
bif (x1.2.2.2 != 0) then (some (0, x1.2.2.2, w0)) else (Option.bind (zAa p0 x1.1 x1.2.2.1.next_ w0) fun x4 =>
bif (x4.1 != 0) then (some (0, x4.1, x4.2)) else (some (x1.2.1, 0, x4.2)))
end Go.Proofs.Ytjomnccladjpgaa

/-
 Models of functions: printed by a program of this claim's own (gen.py) off the given translation.
-/
namespace Go.Proofs.Ytjomnccladjpgaa
open Go Go.RowKit
set_option linter.unusedVariables false
structure zA4 where
 Kind : Int
 Home : Int
 E : zA
abbrev zAQ (x : zA4) : List D := [.lit (.int .i64 x.Kind), .lit (.int .i64 x.Home), .lit (.string ⟨⟨x.E.Key⟩⟩), .lit (.int .i64 x.E.Version), .lit (.int .i64 x.E.Len), .lit (.int .i64 x.E.First)]
def zCC (p0 : (List (List UInt8))) (x7 : ((Option Nat) × Int × Hp)) : Nat → Int → Hp → Option ((Option Nat) × Hp)
 | 0, _, _ => none
 | nl1 + 1, z9, z10 =>
  bif (decide (z9 < (p0.length : Int))) then (Option.bind (idx p0 z9) fun x12 =>
  Option.bind (yZ x7.1 z9 x12 z10) fun x14 =>
  (zCC p0 x7 nl1) (wi (z9 + 1)) x14.2) else (some (x7.1, z10))
def zCn (p0 : (List (List UInt8))) (w0 : Hp) : Option ((Option Nat) × Hp) :=
Option.bind (zDs 30 w0) fun x1 =>
Option.bind (zCO x1.1 8 x1.2.2) fun x3 =>
Option.bind (zDJ x1.1 x3.2) fun x5 =>
Option.bind (zBr x5.1 x5.2.2) fun x7 =>
zCC p0 x7 (p0.length + 1) 0 x7.2.2
def zDW (w0 : Hp) : Option (Bool × Hp) :=
Option.bind (yQ [65]) fun x1 =>
Option.bind (zCn [] w0) fun x3 =>
Option.bind (zB3 x3.1 1 x3.2) fun x5 =>
bif (!x1.2) then (some (false, x5.2)) else (bif (x1.1 != 1) then (some (false, x5.2)) else (Option.bind (yI x5.1 5 (zA.mk [65] 3 0 0) x5.2) fun x9 =>
bif (x9.1 != 0) then (some (false, x9.2)) else (Option.bind (yK x5.1 [65] x9.2) fun x12 =>
bif (x12.2.2 == 0) then (bif (x12.2.1 == 5) then (some ((x12.1.Version == 3), x9.2)) else (some (false, x9.2))) else (some (false, x9.2)))))
def zF1 (p0 : (List zA4)) : Option Bool :=
some (decide ((p0.length : Int) ≤ 30))
def zCz (p0 : (List zA4)) : Nat → Int → Option Bool
 | 0, _ => none
 | nl2 + 1, z1 =>
  bif (decide (z1 < (p0.length : Int))) then (Option.bind (idx p0 z1) fun x3 =>
  bif (decide ((x3.E.Key.length : Int) > 100)) then (some false) else ((zCz p0 nl2) (wi (z1 + 1)))) else (zF1 p0)
def zGa (p0 : (List zA4)) : Option Bool :=
zCz p0 (p0.length + 1) 0
def zH0 (y3 : Int) : Option (Int × Int) :=
some (y3, 0)
def zDd (kl2 : Int → Int → Option (Int × Int)) (z4 : Int) (x7 : UInt8) (z5 : Int) (y9 : Bool) : Option (Int × Int) :=
kl2 (wi ((wi (256 * z4)) + (x7.toNat : Int))) (wi (z5 + 1))
def zBW (p0 : (List UInt8)) : Nat → Int → Int → Option (Int × Int)
 | 0, _, _ => none
 | nl2 + 1, z4, z5 =>
  bif (decide (z5 < (p0.length : Int))) then (Option.bind (idx p0 z5) fun x7 =>
  bif (decide (z4 > 18014398509481984)) then (some (0, 11)) else (bif (z4 == 18014398509481984) then (bif (decide ((x7.toNat : Int) > 0)) then (some (0, 11)) else (zDd (zBW p0 nl2) z4 x7 z5 (decide ((x7.toNat : Int) > 0)))) else (zDd (zBW p0 nl2) z4 x7 z5 false))) else (zH0 z4)
def zGk (p0 : (List UInt8)) : Option (Int × Int) :=
bif ((p0.length : Int) == 0) then (some (0, 10)) else (bif (decide ((p0.length : Int) > 8)) then (some (0, 2)) else (zBW p0 (p0.length + 1) 0 0))
def zCN (p0 : (List UInt8)) : Nat → Int → Option Bool
 | 0, _ => none
 | nl1 + 1, z3 =>
  bif (decide (z3 < (p0.length : Int))) then (Option.bind (idx p0 z3) fun x5 =>
  bif (decide ((x5.toNat : Int) < 33)) then (some false) else (Option.bind (idx p0 z3) fun x8 =>
  bif (decide ((x8.toNat : Int) > 126)) then (some false) else ((zCN p0 nl1) (wi (z3 + 1))))) else (some true)
def zFO (p0 : (List UInt8)) : Option Bool :=
bif (decide ((p0.length : Int) < 1)) then (some false) else (bif (decide ((p0.length : Int) > 40)) then (some false) else (zCN p0 (p0.length + 1) 0))
def zDz (p0 : zA) : Option Bool :=
Option.bind (zFO p0.Key) fun x1 =>
bif x1 then (bif (decide (p0.Version ≥ 0)) then (bif (decide (p0.Version ≤ 4611686018427387904)) then (bif (decide (p0.Len ≥ 0)) then (bif (decide (p0.Len ≤ 1024)) then (bif (decide (p0.First ≥ 0)) then (some (decide (p0.First ≤ 16384))) else (some false)) else (some false)) else (some false)) else (some false)) else (some false)) else (some false)
def zFz (y5 : Int) (y6 : (List UInt8)) : Option ((List UInt8) × Int) :=
bif (decide (y5 > 0)) then (some ([], 2)) else (some (y6, 0))
def zCx (p1 : Int) : Nat → Int → (List UInt8) → Int → Option ((List UInt8) × Int)
 | 0, _, _, _ => none
 | nl2 + 1, z8, z9, z10 =>
  bif (decide (z10 < p1)) then (Option.bind (appI 1 z9 [(U8 (Int.tmod z8 256))]) fun x12 =>
  (zCx p1 nl2) (wi (Int.tdiv z8 256)) x12 (wi (z10 + 1))) else (zFz z8 z9)
def zIC (p0 : Int) (p1 : Int) : Option ((List UInt8) × Int) :=
bif (decide (p1 < 1)) then (some ([], 2)) else (bif (decide (p1 > 8)) then (some ([], 2)) else (bif (decide (p0 < 0)) then (some ([], 2)) else (bif (decide (p0 > 4611686018427387904)) then (some ([], 2)) else (zCx p1 (Int.toNat p1 + 1) p0 [] 0))))
def zCf (p0 : (List UInt8)) : Nat → (List UInt8) → Int → Option (List UInt8)
 | 0, _, _ => none
 | nl1 + 1, z1, z2 =>
  bif (decide (z2 ≥ 0)) then (Option.bind (idx p0 z2) fun x4 =>
  Option.bind (appI 1 z1 [x4]) fun x6 =>
  (zCf p0 nl1) x6 (wi (z2 - 1))) else (some z1)
def zEn (p0 : (List UInt8)) : Option (List UInt8) :=
zCf p0 (Int.toNat (wi ((p0.length : Int) - 1)) + 2) [] (wi ((p0.length : Int) - 1))
def zGI (p0 : Int) (p1 : Int) : Option ((List UInt8) × Int) :=
Option.bind (zIC p0 p1) fun x1 =>
Option.bind (zEn x1.1) fun x3 =>
some (x3, x1.2)
def zDc (p0 : Int) (p1 : Int) : Option (List UInt8) :=
Option.bind (zGI p0 p1) fun x1 =>
some x1.1
def zCJ (p0 : (List (List UInt8))) (p3 : Int) (p4 : Int) : Nat → Int → Int → Option (List (List UInt8))
 | 0, _, _ => none
 | nl1 + 1, z1, z2 =>
  Option.bind (idx p0 z1) fun x3 =>
  Option.bind (cutI x3 z2 (wi (z2 + 4))) fun x5 =>
  Option.bind (zGk x5) fun x7 =>
  bif (x7.1 == p3) then (Option.bind (idx p0 z1) fun x10 =>
  bif x10.isEmpty then none else (Option.bind (appI 1 [] x10) fun x13 =>
  Option.bind (vcut x13.length z2 (wi (z2 + 4))) fun x15 =>
  Option.bind (zDc p4 4) fun x17 =>
  bif x13.isEmpty then none else (Option.bind (cpyI x13 (0 + Int.toNat z2 * 1) (Int.toNat (wi (z2 + 4)) - Int.toNat z2) x17) fun x20 =>
  Option.bind (lenI x20.length x13.length) fun x22 =>
  Option.bind (idx p0 z1) fun x24 =>
  some (p0.set (Int.toNat z1) x20)))) else ((zCJ p0 p3 p4 nl1) x7.1 0)
end Go.Proofs.Ytjomnccladjpgaa

/-
 Models of functions: printed by a program of this claim's own (gen.py) off the given translation.
-/
namespace Go.Proofs.Ytjomnccladjpgaa
open Go Go.RowKit
set_option linter.unusedVariables false
abbrev zI (x : zA) : List D := [.lit (.string ⟨⟨x.Key⟩⟩), .lit (.int .i64 x.Version), .lit (.int .i64 x.Len), .lit (.int .i64 x.First)]
def qU (kl1 : Int → (List zA) → Option (List zA)) (z1 : Int) (y4 : (List zA)) : Option (List zA) :=
kl1 (wi (z1 + 1)) y4
def qB (kl1 : Int → (List zA) → Option (List zA)) (p1 : Int) (p3 : (zA → zA → Option Int)) (z1 : Int) : Nat → Int → (List zA) → Option (List zA)
 | 0, _, _ => none
 | nl3 + 1, z5, z6 =>
  bif (decide (z5 > p1)) then (Option.bind (idx z6 z5) fun x8 =>
  Option.bind (idx z6 (wi (z5 - 1))) fun x10 =>
  Option.bind (p3 x8 x10) fun x12 =>
  bif (decide (x12 < 0)) then (Option.bind (idx z6 (wi (z5 - 1))) fun x15 =>
  Option.bind (idx z6 z5) fun x17 =>
  Option.bind (idx z6 z5) fun x19 =>
  Option.bind (idx (z6.set (Int.toNat z5) x15) (wi (z5 - 1))) fun x21 =>
  (qB kl1 p1 p3 z1 nl3) (wi (z5 - 1)) ((z6.set (Int.toNat z5) x15).set (Int.toNat (wi (z5 - 1))) x17)) else (qU kl1 z1 z6)) else (qU kl1 z1 z6)
def zO (p2 : Int) (p1 : Int) (p3 : (zA → zA → Option Int)) : Nat → Int → (List zA) → Option (List zA)
 | 0, _, _ => none
 | nl1 + 1, z1, z2 =>
  bif (decide (z1 < p2)) then (qB (zO p2 p1 p3 nl1) p1 p3 z1 (Int.toNat z1 + 1) z1 z2) else (some z2)
def qM (p0 : (List zA)) (p1 : Int) (p2 : Int) (p3 : (zA → zA → Option Int)) : Option (List zA) :=
zO p2 p1 p3 (Int.toNat p2 + 1) (wi (p1 + 1)) p0
def zAy (kl2 : Int → Option (List zA)) (z7 : Int) (p1 : Int) (y9 : Int) : Option (List zA) :=
bif (decide ((wi (y9 + z7)) < p1)) then (none) else (kl2 (wi (z7 * 2)))
def zAz (kl2 : Int → Option (List zA)) (p1 : Int) (z7 : Int) : Nat → Int → Int → Option (List zA)
 | 0, _, _ => none
 | nl4 + 1, z11, z12 =>
  bif (decide (z12 ≤ p1)) then (none) else (zAy kl2 z7 p1 z11)
def qK (p1 : Int) (x3 : (List zA)) : Nat → Int → Option (List zA)
 | 0, _ => none
 | nl2 + 1, z7 =>
  bif (decide (z7 < p1)) then (zAz (qK p1 x3 nl2) p1 z7 (2) 0 (wi (2 * z7))) else (some x3)
def zAH (p1 : Int) (p2 : (zA → zA → Option Int)) (y1 : Int) (y2 : (List zA)) : Option (List zA) :=
Option.bind (qM y2 y1 p1 p2) fun x3 =>
Option.bind (lenI x3.length y2.length) fun x5 =>
qK p1 x3 (2) 20
def yN (p1 : Int) (p2 : (zA → zA → Option Int)) : Nat → Int → Int → (List zA) → Option (List zA)
 | 0, _, _, _ => none
 | nl5 + 1, z14, z15, z16 =>
  bif (decide (z15 ≤ p1)) then (Option.bind (qM z16 z14 z15 p2) fun x18 =>
  Option.bind (lenI x18.length z16.length) fun x20 =>
  (yN p1 p2 nl5) z15 (wi (z15 + 20)) x18) else (zAH p1 p2 z14 z16)
def zAR (p0 : (List zA)) (p1 : Int) (p2 : (zA → zA → Option Int)) : Option (List zA) :=
yN p1 p2 (2) 0 20 p0
def yC (p0 : (List zA)) (p1 : (zA → zA → Option Int)) : Option (List zA) :=
Option.bind (zAR p0 (p0.length : Int) p1) fun x1 =>
Option.bind (lenI x1.length p0.length) fun x3 =>
some x1
def zBm (p0 : (List UInt8)) : Option Bool :=
some (!(p0 == p0))
def zB9 (p0 : (List UInt8)) (p1 : (List UInt8)) : Option Int :=
Option.bind (zBm p0) fun x1 =>
Option.bind (zBm p1) fun x3 =>
bif x1 then (bif x3 then (some 0) else (some (-1))) else (bif x3 then (some 1) else (bif (sLt p0 p1) then (some (-1)) else (bif (!(sLt p0 p1 || p0 == p1)) then (some 1) else (some 0))))
def qP (p0 : zA) (p1 : zA) : Option Int :=
Option.bind (zB9 p0.Key p1.Key) fun x1 =>
some x1
end Go.Proofs.Ytjomnccladjpgaa

/-
 Models of each with All's closure, and of All.
-/
namespace Go.Proofs.Ytjomnccladjpgaa
open Go Go.RowKit
set_option linter.unusedVariables false
def app1 (y : List zA) (x : zA) : Option (List zA) := bif (decide ((y.length + 1) * 40 ≤ 140737488355328)) then some (y ++ [x]) else none
def zKE (p0 : (Option Nat)) (w0 : Hp) (p1 : Int) : Nat → Int → Int → Int → Int → List zA → Option ((zW × Int × zQ × Int) × List zA)
 | 0, _, _, _, _, _ => none
 | nl1 + 1, z6, z7, z8, z9, y =>
  bif (z8 == 0) then (some (((zW.mk 0 0), 0, (zQ.mk (zA.mk [] 0 0 0) 0), 35), y)) else (Option.bind (qJ p0 z8 w0) fun x11 =>
  bif (x11.2 != 0) then (some (((zW.mk 0 0), 0, (zQ.mk (zA.mk [] 0 0 0) 0), x11.2), y)) else (Option.bind (zCR x11.1) fun x14 =>
  Option.bind (yQ x14.1.Entry.Key) fun x16 =>
  bif (!x14.2) then (some (((zW.mk 0 0), 0, (zQ.mk (zA.mk [] 0 0 0) 0), 11), y)) else (bif (x16.1 != p1) then (some (((zW.mk 0 0), 0, (zQ.mk (zA.mk [] 0 0 0) 0), 11), y)) else (bif (decide ((wi (z9 + 1)) > 16384)) then (some (((zW.mk 0 0), 0, (zQ.mk (zA.mk [] 0 0 0) 0), 11), y)) else (Option.bind (app1 y x14.1.Entry) fun x21 =>
  (zKE p0 w0 p1 nl1) z8 0 x14.1.next_ (wi (z9 + 1)) x21)))))
def zJo (p0 : (Option Nat)) (p1 : Int) (w0 : Hp) (y : List zA) : Option ((zW × Int × zQ × Int) × List zA) :=
Option.bind (yL p0 p1 w0) fun x1 =>
Option.bind (yV p0 x1 w0) fun x3 =>
bif (x3.2 != 0) then (some (((zW.mk 0 0), 0, (zQ.mk (zA.mk [] 0 0 0) 0), x3.2), y)) else (zKE p0 w0 p1 (16400) x1.home_ x1.off_ x3.1 0 y)
def allL (p0 : Option Nat) (w0 : Hp) : Nat → Int → List zA → Option (List zA × Int)
 | 0, _, _ => none
 | n + 1, i, y =>
  bif (decide (i < 64)) then (Option.bind (zJo p0 i w0 y) fun x =>
  bif (x.1.2.2.2 == 35) then (allL p0 w0 n (wi (i + 1)) x.2) else (some ([], x.1.2.2.2))) else (bif y.isEmpty then (some ([], 0)) else (Option.bind (yC y qP) fun z =>
  Option.bind (lenI z.length y.length) fun _ =>
  some (z, 0)))
def yX (p0 : Option Nat) (w0 : Hp) : Option (List zA × Int) := allL p0 w0 66 0 []
end Go.Proofs.Ytjomnccladjpgaa

/-
 Models of functions: printed by a program of this claim's own (gen.py) off the given translation.
-/
namespace Go.Proofs.Ytjomnccladjpgaa
open Go Go.RowKit
set_option linter.unusedVariables false
def zAn (x31 : ((List zA) × Int)) (x26 : ((Option Nat) × Hp)) (y30 : Hp) (y28 : (List ((List UInt8) × zA))) (y29 : (List ((List UInt8) × Int))) : Nat → Int → Option (Bool × Hp)
 | 0, _ => none
 | nl2 + 1, z35 =>
  bif (decide (z35 < (x31.1.length : Int))) then (Option.bind (idx x31.1 z35) fun x37 =>
  Option.bind (yK x26.1 x37.Key y30) fun x39 =>
  bif (!((((zY y28 x37.Key).getD (zA.mk [] 0 0 0)).Key == x37.Key) && ((((zY y28 x37.Key).getD (zA.mk [] 0 0 0)).Version == x37.Version) && ((((zY y28 x37.Key).getD (zA.mk [] 0 0 0)).Len == x37.Len) && ((((zY y28 x37.Key).getD (zA.mk [] 0 0 0)).First == x37.First) && true))))) then (some (false, y30)) else (bif (x39.2.2 != 0) then (some (false, y30)) else (bif (!((x39.1.Key == x37.Key) && ((x39.1.Version == x37.Version) && ((x39.1.Len == x37.Len) && ((x39.1.First == x37.First) && true))))) then (some (false, y30)) else (bif (x39.2.1 != ((zY y29 x37.Key).getD (0 : Int))) then (some (false, y30)) else (bif (decide (z35 > 0)) then (Option.bind (idx x31.1 (wi (z35 - 1))) fun x46 =>
  bif (!(sLt x46.Key x37.Key)) then (some (false, y30)) else ((zAn x31 x26 y30 y28 y29 nl2) (wi (z35 + 1)))) else ((zAn x31 x26 y30 y28 y29 nl2) (wi (z35 + 1)))))))) else (some (true, y30))
def zB2 (x26 : ((Option Nat) × Hp)) (y28 : (List ((List UInt8) × zA))) (y29 : (List ((List UInt8) × Int))) (y30 : Hp) : Option (Bool × Hp) :=
Option.bind (yX x26.1 y30) fun x31 =>
bif (x31.2 != 0) then (some (false, y30)) else (bif ((x31.1.length : Int) != (y28.length : Int)) then (some (false, y30)) else (zAn x31 x26 y30 y28 y29 (x31.1.length + 1) 0))
def zAF (kl3 : Int → Int → (List ((List UInt8) × zA)) → (List ((List UInt8) × Int)) → Hp → Option (Bool × Hp)) (x59 : (Int × Hp)) (z49 : Int) (z50 : Int) (z51 : (List ((List UInt8) × zA))) (x55 : zA4) (z52 : (List ((List UInt8) × Int))) (y61 : Bool) : Option (Bool × Hp) :=
bif (x59.1 == 0) then (kl3 (wi (z49 + 1)) (wi (z50 + 1)) (mset z51 x55.E.Key x55.E) (mset z52 x55.E.Key z49) x59.2) else (kl3 z49 (wi (z50 + 1)) z51 z52 x59.2)
def zAm (kl3 : Int → Int → (List ((List UInt8) × zA)) → (List ((List UInt8) × Int)) → Hp → Option (Bool × Hp)) (x74 : (Int × Hp)) (z49 : Int) (z50 : Int) (z51 : (List ((List UInt8) × zA))) (x55 : zA4) (z52 : (List ((List UInt8) × Int))) : Option (Bool × Hp) :=
bif (x74.1 == 0) then (kl3 z49 (wi (z50 + 1)) (mset z51 x55.E.Key x55.E) z52 x74.2) else (kl3 z49 (wi (z50 + 1)) z51 z52 x74.2)
def zBK (kl3 : Int → Int → (List ((List UInt8) × zA)) → (List ((List UInt8) × Int)) → Hp → Option (Bool × Hp)) (z49 : Int) (z50 : Int) (z51 : (List ((List UInt8) × zA))) (x55 : zA4) (z52 : (List ((List UInt8) × Int))) (x83 : (Int × Int × Hp)) (y85 : Bool) : Option (Bool × Hp) :=
kl3 z49 (wi (z50 + 1)) (mdel z51 x55.E.Key) (mdel z52 x55.E.Key) x83.2.2
def qD (p0 : (List zA4)) (x26 : ((Option Nat) × Hp)) : Nat → Int → Int → (List ((List UInt8) × zA)) → (List ((List UInt8) × Int)) → Hp → Option (Bool × Hp)
 | 0, _, _, _, _, _ => none
 | nl3 + 1, z49, z50, z51, z52, z53 =>
  bif (decide (z50 < (p0.length : Int))) then (Option.bind (idx p0 z50) fun x55 =>
  bif (x55.Kind == 1) then (bif (decide (z49 ≥ 20)) then ((qD p0 x26 nl3) z49 (wi (z50 + 1)) z51 z52 z53) else (Option.bind (yI x26.1 z49 x55.E z53) fun x59 =>
  bif (zY z52 x55.E.Key).isSome then (bif (x59.1 == 0) then (some (false, x59.2)) else (bif (!(zY z52 x55.E.Key).isSome) then (Option.bind (zDz x55.E) fun x66 =>
  bif (!(x66 == (x59.1 == 0))) then (some (false, x59.2)) else (zAF (qD p0 x26 nl3) x59 z49 z50 z51 x55 z52 (!(x66 == (x59.1 == 0))))) else (zAF (qD p0 x26 nl3) x59 z49 z50 z51 x55 z52 false))) else (bif (!(zY z52 x55.E.Key).isSome) then (Option.bind (zDz x55.E) fun x70 =>
  bif (!(x70 == (x59.1 == 0))) then (some (false, x59.2)) else (zAF (qD p0 x26 nl3) x59 z49 z50 z51 x55 z52 (!(x70 == (x59.1 == 0))))) else (zAF (qD p0 x26 nl3) x59 z49 z50 z51 x55 z52 false)))) else (bif (x55.Kind == 2) then (Option.bind (yP x26.1 x55.E z53) fun x74 =>
  bif (zY z52 x55.E.Key).isSome then (Option.bind (zDz x55.E) fun x78 =>
  bif (!(x78 == (x74.1 == 0))) then (some (false, x74.2)) else (zAm (qD p0 x26 nl3) x74 z49 z50 z51 x55 z52)) else (bif (!(false == (x74.1 == 0))) then (some (false, x74.2)) else (zAm (qD p0 x26 nl3) x74 z49 z50 z51 x55 z52))) else (bif (x55.Kind == 3) then (Option.bind (yM x26.1 x55.E.Key z53) fun x83 =>
  bif (!((zY z52 x55.E.Key).isSome == (x83.2.1 == 0))) then (some (false, x83.2.2)) else (bif (zY z52 x55.E.Key).isSome then (bif (x83.1 != ((zY z52 x55.E.Key).getD (0 : Int))) then (some (false, x83.2.2)) else (zBK (qD p0 x26 nl3) z49 z50 z51 x55 z52 x83 (x83.1 != ((zY z52 x55.E.Key).getD (0 : Int))))) else (zBK (qD p0 x26 nl3) z49 z50 z51 x55 z52 x83 false))) else ((qD p0 x26 nl3) z49 (wi (z50 + 1)) z51 z52 z53)))) else (zB2 x26 z51 z52 z53)
def zDq (p0 : (List zA4)) (w0 : Hp) : Option (Bool × Hp) :=
Option.bind (zDW w0) fun x1 =>
bif (!x1.1) then (some (false, x1.2)) else (Option.bind (yK none [97] x1.2) fun x4 =>
bif (x4.2.2 != 1) then (some (false, x1.2)) else (Option.bind (yI none 1 (zA.mk [97] 0 0 0) x1.2) fun x7 =>
bif (x7.1 != 1) then (some (false, x7.2)) else (Option.bind (yP none (zA.mk [97] 0 0 0) x7.2) fun x10 =>
bif (x10.1 != 1) then (some (false, x10.2)) else (Option.bind (yM none [97] x10.2) fun x13 =>
bif (x13.2.1 != 1) then (some (false, x13.2.2)) else (Option.bind (zB3 none 0 x13.2.2) fun x16 =>
Option.bind (yX x16.1 x16.2) fun x18 =>
bif (x18.2 != 1) then (some (false, x16.2)) else (Option.bind (zGa p0) fun x21 =>
bif (!x21) then (some (true, x16.2)) else (Option.bind (zCn [] x16.2) fun x24 =>
Option.bind (zB3 x24.1 0 x24.2) fun x26 =>
qD p0 x26 (p0.length + 1) 4 0 ([] : (List ((List UInt8) × zA))) ([] : (List ((List UInt8) × Int))) x26.2)))))))
end Go.Proofs.Ytjomnccladjpgaa
