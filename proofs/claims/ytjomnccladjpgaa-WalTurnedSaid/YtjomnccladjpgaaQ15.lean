/-
  Texts joined: see the remark at the head of each part.
-/
import Derived.Test.YtjomnccladjpgaaQ14
import Derived.Test.YtjomnccladjpgaaQ10
import Derived.Test.YtjomnccladjpgaaQ12
import Derived.Test.YtjomnccladjpgaaQ07
import Derived.Test.YtjomnccladjpgaaQ13
set_option linter.unusedVariables false
set_option linter.unusedSimpArgs false
/-
  Models of functions: printed by a program of this claim's own (gen.py) off the given translation.
-/
namespace Go.Proofs.Ytjomnccladjpgaa
open Go Go.RowKit
set_option linter.unusedVariables false
structure S_disk_write where
  n_ : Int
  b_ : (List UInt8)

structure S_disk_Disk where
  kept_ : (Nat × Nat)
  now_ : (Nat × Nat)
  wait_ : (List S_disk_write)
  fuse_ : Int
  off_ : Bool
  lives_ : Int

abbrev cA64_cU8 (x : List UInt8) : List D := ar cU8 (0 : UInt8) x 0 64

abbrev cS_disk_write (x : S_disk_write) : List D := [D.lit (.int .i64 x.n_)] ++ ar cU8 (0 : UInt8) x.b_ 0 64

structure S_wal_Log where
  d_ : (Option Nat)
  size_ : Int
  base_ : Int
  slot_ : Int
  used_ : Int
  life_ : Int
  commits_ : Int

abbrev hc_dk (i : Nat) (x : S_disk_Disk) : List T := [.hvw (cd 2 x.kept_.1) 0 119 64 x.kept_.2, .hvw (cd 2 x.now_.1) 0 119 64 x.now_.2, .own 121 65 (List.map cS_disk_write x.wait_), .d (.lit (.int .i64 x.fuse_)), .d (.lit (.bool x.off_)), .d (.lit (.int .i64 x.lives_))]

abbrev hc_lg (i : Nat) (x : S_wal_Log) : List T := [(ptT 1 x.d_), .d (.lit (.int .i64 x.size_)), .d (.lit (.int .i64 x.base_)), .d (.lit (.int .i64 x.slot_)), .d (.lit (.int .i64 x.used_)), .d (.lit (.int .i64 x.life_)), .d (.lit (.int .i64 x.commits_))]

abbrev hc_sec (_ : Nat) (x : (List (List UInt8))) : List T := fl (dT cA64_cU8) x

/-- What is behind addresses: objects, kind by kind. -/
structure Hp where
  dk : List S_disk_Disk
  lg : List S_wal_Log
  sec : List (List (List UInt8))

def Hp.e : Hp := ⟨[], [], []⟩

abbrev Hp.ge_dk (H : Hp) (i : Nat) : Option S_disk_Disk := H.dk[i]?
def Hp.st_dk (H : Hp) (i : Nat) (x : S_disk_Disk) : Hp := { H with dk := H.dk.set i x }
def Hp.nw_dk (H : Hp) (x : S_disk_Disk) : Hp := { H with dk := H.dk ++ [x] }
abbrev Hp.ln_dk (H : Hp) : Nat := H.dk.length

abbrev Hp.ge_lg (H : Hp) (i : Nat) : Option S_wal_Log := H.lg[i]?
def Hp.st_lg (H : Hp) (i : Nat) (x : S_wal_Log) : Hp := { H with lg := H.lg.set i x }
def Hp.nw_lg (H : Hp) (x : S_wal_Log) : Hp := { H with lg := H.lg ++ [x] }
abbrev Hp.ln_lg (H : Hp) : Nat := H.lg.length

abbrev Hp.ge_sec (H : Hp) (i : Nat) : Option (List (List UInt8)) := H.sec[i]?
def Hp.st_sec (H : Hp) (i : Nat) (x : (List (List UInt8))) : Hp := { H with sec := H.sec.set i x }
def Hp.nw_sec (H : Hp) (x : (List (List UInt8))) : Hp := { H with sec := H.sec ++ [x] }
abbrev Hp.ln_sec (H : Hp) : Nat := H.sec.length

def hpT (H : Hp) : Nat → Nat → A
  | 1, i => arA H.dk hc_dk i
  | 2, i => arA H.sec hc_sec i
  | 3, i => arA H.lg hc_lg i
  | _, _ => .free
def hpA (H : Hp) : Nat → A := hpF (hpT H)

theorem gl_dk {H : Hp} {i : Nat} {x : S_disk_Disk} (h : H.ge_dk i = some x) : hpA H (cd 1 i) = .box (hc_dk i x) := (hpF_cd (by decide)).trans (arA_get h)

theorem su_dk {H : Hp} {i : Nat} {x x' : S_disk_Disk} (h : H.ge_dk i = some x) : hpA (H.st_dk i x') = updF (hpA H) (cd 1 i) (.box (hc_dk i x')) := by
  refine hpF_upd (by decide) (arA_eq h) fun t' j hne => ?_
  match t' with
  | 0 => exact rfl
  | 1 => exact arA_ne fun e => hne ⟨rfl, e⟩
  | 2 => exact rfl
  | 3 => exact rfl
  | k + 4 => rfl

theorem su2_dk {H : Hp} {i : Nat} {x x' : S_disk_Disk} {y : A} (h : H.ge_dk i = some x) : hpA (H.st_dk i x') = updF (updF (hpA H) (cd 1 i) y) (cd 1 i) (.box (hc_dk i x')) := by
  rw [su_dk h]
  funext k
  unfold updF
  split <;> rfl

theorem fr_dk (H : Hp) : hpA H (cd 1 H.ln_dk) = .free := (hpF_cd (by decide)).trans arA_free

theorem nw_dk (H : Hp) (x : S_disk_Disk) : hpA (H.nw_dk x) = updF (hpA H) (cd 1 H.ln_dk) (.box (hc_dk H.ln_dk x)) := by
  refine hpF_upd (by decide) arA_new fun t' j hne => ?_
  match t' with
  | 0 => exact rfl
  | 1 => exact arA_old fun e => hne ⟨rfl, e⟩
  | 2 => exact rfl
  | 3 => exact rfl
  | k + 4 => rfl

theorem gl_lg {H : Hp} {i : Nat} {x : S_wal_Log} (h : H.ge_lg i = some x) : hpA H (cd 3 i) = .box (hc_lg i x) := (hpF_cd (by decide)).trans (arA_get h)

theorem su_lg {H : Hp} {i : Nat} {x x' : S_wal_Log} (h : H.ge_lg i = some x) : hpA (H.st_lg i x') = updF (hpA H) (cd 3 i) (.box (hc_lg i x')) := by
  refine hpF_upd (by decide) (arA_eq h) fun t' j hne => ?_
  match t' with
  | 0 => exact rfl
  | 1 => exact rfl
  | 2 => exact rfl
  | 3 => exact arA_ne fun e => hne ⟨rfl, e⟩
  | k + 4 => rfl

theorem su2_lg {H : Hp} {i : Nat} {x x' : S_wal_Log} {y : A} (h : H.ge_lg i = some x) : hpA (H.st_lg i x') = updF (updF (hpA H) (cd 3 i) y) (cd 3 i) (.box (hc_lg i x')) := by
  rw [su_lg h]
  funext k
  unfold updF
  split <;> rfl

theorem fr_lg (H : Hp) : hpA H (cd 3 H.ln_lg) = .free := (hpF_cd (by decide)).trans arA_free

theorem nw_lg (H : Hp) (x : S_wal_Log) : hpA (H.nw_lg x) = updF (hpA H) (cd 3 H.ln_lg) (.box (hc_lg H.ln_lg x)) := by
  refine hpF_upd (by decide) arA_new fun t' j hne => ?_
  match t' with
  | 0 => exact rfl
  | 1 => exact rfl
  | 2 => exact rfl
  | 3 => exact arA_old fun e => hne ⟨rfl, e⟩
  | k + 4 => rfl

theorem gl_sec {H : Hp} {i : Nat} {x : (List (List UInt8))} (h : H.ge_sec i = some x) : hpA H (cd 2 i) = .box (hc_sec i x) := (hpF_cd (by decide)).trans (arA_get h)

theorem su_sec {H : Hp} {i : Nat} {x x' : (List (List UInt8))} (h : H.ge_sec i = some x) : hpA (H.st_sec i x') = updF (hpA H) (cd 2 i) (.box (hc_sec i x')) := by
  refine hpF_upd (by decide) (arA_eq h) fun t' j hne => ?_
  match t' with
  | 0 => exact rfl
  | 1 => exact rfl
  | 2 => exact arA_ne fun e => hne ⟨rfl, e⟩
  | 3 => exact rfl
  | k + 4 => rfl

theorem su2_sec {H : Hp} {i : Nat} {x x' : (List (List UInt8))} {y : A} (h : H.ge_sec i = some x) : hpA (H.st_sec i x') = updF (updF (hpA H) (cd 2 i) y) (cd 2 i) (.box (hc_sec i x')) := by
  rw [su_sec h]
  funext k
  unfold updF
  split <;> rfl

theorem fr_sec (H : Hp) : hpA H (cd 2 H.ln_sec) = .free := (hpF_cd (by decide)).trans arA_free

theorem nw_sec (H : Hp) (x : (List (List UInt8))) : hpA (H.nw_sec x) = updF (hpA H) (cd 2 H.ln_sec) (.box (hc_sec H.ln_sec x)) := by
  refine hpF_upd (by decide) arA_new fun t' j hne => ?_
  match t' with
  | 0 => exact rfl
  | 1 => exact rfl
  | 2 => exact arA_old fun e => hne ⟨rfl, e⟩
  | 3 => exact rfl
  | k + 4 => rfl

theorem pure_hpA (H : Hp) : pureH (hpA H) := hpF_pure fun t i l h => by
  match t, h with
  | 0, h => exact nomatch h
  | 1, h => exact arA_pure (f := hc_dk) (fun i x y hy => by
      simp only [hc_dk, List.mem_cons, List.not_mem_nil, or_false] at hy
      rcases hy with rfl | rfl | rfl | rfl | rfl | rfl <;> first | rfl | exact ptT_loc _ _) l h
  | 2, h => exact arA_pure (f := hc_sec) (fun i x => fl_loc _ _) l h
  | 3, h => exact arA_pure (f := hc_lg) (fun i x y hy => by
      simp only [hc_lg, List.mem_cons, List.not_mem_nil, or_false] at hy
      rcases hy with rfl | rfl | rfl | rfl | rfl | rfl | rfl <;> first | rfl | exact ptT_loc _ _) l h
  | k + 4, h => exact nomatch h

theorem san_hpA (H : Hp) (c : Nat) : san (hpA H c) = hpA H c := by
  show san (hpT H (c % 64) (c / 64)) = hpT H (c % 64) (c / 64)
  generalize c % 64 = t
  match t with
  | 0 => exact rfl
  | 1 => exact san_arA _ _ _
  | 2 => exact san_arA _ _ _
  | 3 => exact san_arA _ _ _
  | k + 4 => rfl

theorem rn_hpA (H : Hp) (j c k : Nat) : rnA j c (hpA H k) = hpA H k := rn_pure (fun l e => pure_hpA H k l e) (san_hpA H k) j c
theorem hpA_e (c : Nat) : san (hpA Hp.e c) = .free := by
  rw [san_hpA]
  show hpT Hp.e (c % 64) (c / 64) = .free
  generalize c % 64 = t
  match t with
  | 0 => exact rfl
  | 1 => exact rfl
  | 2 => exact rfl
  | 3 => exact rfl
  | k + 4 => rfl

structure S_api_Write where
  Home : Int
  Data : (List UInt8)

abbrev cS_api_Write (x : S_api_Write) : List D := [.lit (.int .i64 x.Home), .seq 1 (bytesD x.Data)]

structure S_wal_entry where
  kind_ : Int
  number_ : Int
  data_ : (List UInt8)
  ok_ : Bool

abbrev cS_wal_entry (x : S_wal_entry) : List D := [.lit (.int .i64 x.kind_), .lit (.int .i64 x.number_), .seq 1 (bytesD x.data_), .lit (.bool x.ok_)]

/-- bastille/disk.New -/
def m_disk_New (p0 : Int) (w0 : Hp) : Option ((Option Nat) × Int × Hp) :=
bif (decide (p0 < 1)) then (some (none, 2, w0)) else (bif (decide (p0 > 16384)) then (some (none, 2, w0)) else (Option.bind (mkI 64 p0) fun x3 =>
Option.bind (mkI 64 p0) fun x5 =>
some ((some ((w0.nw_sec (List.replicate x3 ([] : (List UInt8)))).nw_sec (List.replicate x5 ([] : (List UInt8)))).ln_dk), 0, (((w0.nw_sec (List.replicate x3 ([] : (List UInt8)))).nw_sec (List.replicate x5 ([] : (List UInt8)))).nw_dk (S_disk_Disk.mk (w0.ln_sec, x3) ((w0.nw_sec (List.replicate x3 ([] : (List UInt8)))).ln_sec, x5) [] (-1) false 0)))))

/-- (*bastille/disk.Disk).is -/
def m_disk_Disk_is (p0 : (Option Nat)) (w0 : Hp) : Option Bool :=
ptM p0 (some false) (fun i2 =>
Option.bind (w0.ge_dk i2) fun x3 =>
some (decide ((x3.now_.2 : Int) > 0)))

/-- (*bastille/disk.Disk).Fuse -/
def m_disk_Disk_Fuse (p0 : (Option Nat)) (p1 : Int) (w0 : Hp) : Option Hp :=
Option.bind (m_disk_Disk_is p0 w0) fun x1 =>
bif x1 then (ptM p0 (none) (fun i5 =>
Option.bind (w0.ge_dk i5) fun x6 =>
some (w0.st_dk i5 (S_disk_Disk.mk x6.kept_ x6.now_ x6.wait_ (if (-1) > p1 then (-1) else p1) x6.off_ x6.lives_)))) else (some w0)

/-- (*bastille/disk.Disk).may -/
def m_disk_Disk_may (p0 : (Option Nat)) (p1 : Int) (w0 : Hp) : Option Int :=
Option.bind (m_disk_Disk_is p0 w0) fun x1 =>
bif (!x1) then (some 1) else (ptM p0 (none) (fun i5 =>
Option.bind (w0.ge_dk i5) fun x6 =>
bif x6.off_ then (some 30) else (bif (decide (p1 < 0)) then (some 31) else (bif (decide (p1 ≥ (x6.now_.2 : Int))) then (some 31) else (some 0)))))

/-- (*bastille/disk.Disk).burn -/
def m_disk_Disk_burn (p0 : (Option Nat)) (w0 : Hp) : Option (Bool × Hp) :=
ptM p0 (none) (fun i2 =>
Option.bind (w0.ge_dk i2) fun x3 =>
bif (decide (x3.fuse_ < 0)) then (some (false, w0)) else (some ((S_disk_Disk.mk x3.kept_ x3.now_ x3.wait_ (wi (((S_disk_Disk.mk x3.kept_ x3.now_ x3.wait_ x3.fuse_ (x3.fuse_ == 0) x3.lives_).fuse_) - 1)) (x3.fuse_ == 0) x3.lives_).off_, ((w0.st_dk i2 (S_disk_Disk.mk x3.kept_ x3.now_ x3.wait_ x3.fuse_ (x3.fuse_ == 0) x3.lives_)).st_dk i2 (S_disk_Disk.mk x3.kept_ x3.now_ x3.wait_ (wi (((S_disk_Disk.mk x3.kept_ x3.now_ x3.wait_ x3.fuse_ (x3.fuse_ == 0) x3.lives_).fuse_) - 1)) (x3.fuse_ == 0) x3.lives_)))))

/-- (*bastille/disk.Disk).Write -/
def m_disk_Disk_Write (p0 : (Option Nat)) (p1 : Int) (p2 : (List UInt8)) (w0 : Hp) : Option (Int × Hp) :=
Option.bind (m_disk_Disk_may p0 p1 w0) fun x1 =>
bif (x1 != 0) then (some (x1, w0)) else (bif ((p2.length : Int) != 64) then (some (2, w0)) else (Option.bind (s2aI 64 p2) fun x5 =>
ptM p0 (none) (fun i8 =>
Option.bind (w0.ge_dk i8) fun x9 =>
Option.bind (appI 72 x9.wait_ [(S_disk_write.mk p1 x5)]) fun x11 =>
Option.bind ((w0.st_dk i8 (S_disk_Disk.mk x9.kept_ x9.now_ x11 x9.fuse_ x9.off_ x9.lives_)).ge_sec (((S_disk_Disk.mk x9.kept_ x9.now_ x11 x9.fuse_ x9.off_ x9.lives_).now_).1)) fun x13 =>
Option.bind (lenI x13.length ((S_disk_Disk.mk x9.kept_ x9.now_ x11 x9.fuse_ x9.off_ x9.lives_).now_).2) fun x15 =>
Option.bind (idx x13 p1) fun x17 =>
Option.bind (m_disk_Disk_burn (some i8) ((w0.st_dk i8 (S_disk_Disk.mk x9.kept_ x9.now_ x11 x9.fuse_ x9.off_ x9.lives_)).st_sec (((S_disk_Disk.mk x9.kept_ x9.now_ x11 x9.fuse_ x9.off_ x9.lives_).now_).1) (x13.set (Int.toNat p1) x5))) fun x19 =>
bif x19.1 then (some (30, x19.2)) else (some (0, x19.2)))))

/-- (*bastille/disk.Disk).Size -/
def m_disk_Disk_Size (p0 : (Option Nat)) (w0 : Hp) : Option Int :=
Option.bind (m_disk_Disk_is p0 w0) fun x1 =>
bif (!x1) then (some 0) else (ptM p0 (none) (fun i5 =>
Option.bind (w0.ge_dk i5) fun x6 =>
some (x6.now_.2 : Int)))

/-- bastille/wal.room -/
def m_wal_room (p0 : (Option Nat)) (p1 : Int) (w0 : Hp) : Option Bool :=
bif (decide (p1 ≥ 3)) then (Option.bind (m_disk_Disk_Size p0 w0) fun x2 =>
some (decide (p1 ≤ (wi ((wi (x2 - 2)) - 1))))) else (some false)

/-- (*bastille/disk.Disk).Flush -/
def m_disk_Disk_Flush_j1 (p0 : (Option Nat)) (y7 : Hp) : Option (Int × Hp) :=
ptM p0 (none) (fun i9 =>
Option.bind (y7.ge_dk i9) fun x10 =>
some (0, (y7.st_dk i9 (S_disk_Disk.mk x10.kept_ x10.now_ [] x10.fuse_ x10.off_ x10.lives_))))

def m_disk_Disk_Flush_l2 (x14 : S_disk_Disk) (i13 : Nat) (p0 : (Option Nat)) : Nat → Int → Hp → Option (Int × Hp)
  | 0, _, _ => none
  | nl2 + 1, z16, z17 =>
    bif (decide (z16 < (x14.wait_.length : Int))) then (Option.bind (idx x14.wait_ z16) fun x19 =>
    Option.bind (z17.ge_dk i13) fun x21 =>
    Option.bind (z17.ge_sec x21.kept_.1) fun x23 =>
    Option.bind (lenI x23.length x21.kept_.2) fun x25 =>
    Option.bind (idx x23 x19.n_) fun x27 =>
    (m_disk_Disk_Flush_l2 x14 i13 p0 nl2) (wi (z16 + 1)) (z17.st_sec x21.kept_.1 (x23.set (Int.toNat x19.n_) x19.b_))) else (m_disk_Disk_Flush_j1 p0 z17)

def m_disk_Disk_Flush (p0 : (Option Nat)) (w0 : Hp) : Option (Int × Hp) :=
Option.bind (m_disk_Disk_may p0 0 w0) fun x1 =>
bif (x1 != 0) then (some (x1, w0)) else (Option.bind (m_disk_Disk_burn p0 w0) fun x4 =>
bif x4.1 then (some (30, x4.2)) else (ptM p0 (none) (fun i13 =>
Option.bind (x4.2.ge_dk i13) fun x14 =>
m_disk_Disk_Flush_l2 x14 i13 p0 (x14.wait_.length + 1) 0 x4.2)))

/-- bastille/wal.put -/
def m_wal_put_v0 (p0 : (List UInt8)) (o0 n0 : Nat) (p1 : Int) : Option (List UInt8) :=
Option.bind (m_word_Put p1 ((n0 : Nat) : Int)) fun x1 =>
Option.bind (cpyI p0 o0 n0 x1.1) fun x3 =>
Option.bind (lenI x3.length p0.length) fun x5 =>
some x3

/-- bastille/wal.slotBytes -/
def m_wal_slotBytes (p0 : Int) (p1 : Int) : Option (List UInt8) :=
Option.bind (mkI 1 64) fun x1 =>
Option.bind (vcut x1 0 8) fun x3 =>
Option.bind (m_wal_put_v0 (List.replicate x1 (0 : UInt8)) (0 + Int.toNat 0 * 1) (Int.toNat 8 - Int.toNat 0) p0) fun x5 =>
Option.bind (lenI x5.length (List.replicate x1 (0 : UInt8)).length) fun x7 =>
Option.bind (vcut x1 8 12) fun x9 =>
Option.bind (m_wal_put_v0 x5 (0 + Int.toNat 8 * 1) (Int.toNat 12 - Int.toNat 8) p1) fun x11 =>
Option.bind (lenI x11.length x5.length) fun x13 =>
Option.bind (vcut x1 56 (x1 : Int)) fun x15 =>
Option.bind (m_wal_put_v0 x11 (0 + Int.toNat 56 * 1) (Int.toNat (x1 : Int) - Int.toNat 56) p0) fun x17 =>
Option.bind (lenI x17.length x11.length) fun x19 =>
some x17

/-- bastille/wal.Format -/
def m_wal_Format_j1 (p0 : (Option Nat)) (p1 : Int) (y7 : Hp) : Option (Int × Hp) :=
Option.bind (m_disk_Disk_Flush p0 y7) fun x8 =>
bif (x8.1 != 0) then (some (x8.1, x8.2)) else (Option.bind (m_wal_slotBytes 1 p1) fun x11 =>
Option.bind (m_disk_Disk_Write p0 0 x11 x8.2) fun x13 =>
bif (x13.1 != 0) then (some (x13.1, x13.2)) else (Option.bind (m_disk_Disk_Flush p0 x13.2) fun x16 =>
some (x16.1, x16.2)))

def m_wal_Format_l2 (p1 : Int) (p0 : (Option Nat)) : Nat → Int → Hp → Option (Int × Hp)
  | 0, _, _ => none
  | nl2 + 1, z18, z19 =>
    bif (decide (z18 < (wi (2 + p1)))) then (Option.bind (mkI 1 64) fun x21 =>
    Option.bind (m_disk_Disk_Write p0 z18 (List.replicate x21 (0 : UInt8)) z19) fun x23 =>
    bif (x23.1 != 0) then (some (x23.1, x23.2)) else ((m_wal_Format_l2 p1 p0 nl2) (wi (z18 + 1)) x23.2)) else (m_wal_Format_j1 p0 p1 z19)

def m_wal_Format (p0 : (Option Nat)) (p1 : Int) (w0 : Hp) : Option (Int × Hp) :=
Option.bind (m_disk_Disk_Size p0 w0) fun x1 =>
bif (x1 == 0) then (some (1, w0)) else (Option.bind (m_wal_room p0 p1 w0) fun x4 =>
bif (!x4) then (some (2, w0)) else (m_wal_Format_l2 p1 p0 (Int.toNat (wi (2 + p1)) + 1) 1 w0))

/-- (*bastille/disk.Disk).Off -/
def m_disk_Disk_Off (p0 : (Option Nat)) (w0 : Hp) : Option Bool :=
Option.bind (m_disk_Disk_is p0 w0) fun x1 =>
bif x1 then (ptM p0 (none) (fun i5 =>
Option.bind (w0.ge_dk i5) fun x6 =>
some x6.off_)) else (some false)

/-- (*bastille/disk.Disk).Lives -/
def m_disk_Disk_Lives (p0 : (Option Nat)) (w0 : Hp) : Option Int :=
Option.bind (m_disk_Disk_is p0 w0) fun x1 =>
bif (!x1) then (some 0) else (ptM p0 (none) (fun i5 =>
Option.bind (w0.ge_dk i5) fun x6 =>
some x6.lives_))

/-- (*bastille/disk.Disk).Read -/
def m_disk_Disk_Read (p0 : (Option Nat)) (p1 : Int) (w0 : Hp) : Option ((List UInt8) × Int) :=
Option.bind (m_disk_Disk_may p0 p1 w0) fun x1 =>
bif (x1 != 0) then (some ([], x1)) else (ptM p0 (none) (fun i5 =>
Option.bind (w0.ge_dk i5) fun x6 =>
Option.bind (w0.ge_sec x6.now_.1) fun x8 =>
Option.bind (lenI x8.length x6.now_.2) fun x10 =>
Option.bind (idx x8 p1) fun x12 =>
some ((padA (0 : UInt8) x12 0 64), 0)))

/-- bastille/word.Get -/
def m_word_Get_j1 (y3 : Int) : Option (Int × Int) :=
bif (decide (y3 > 4611686018427387904)) then (some (0, 11)) else (some ((wi y3), 0))

def m_word_Get_l2 (p0 : (List UInt8)) : Nat → Int → Int → Option (Int × Int)
  | 0, _, _ => none
  | nl2 + 1, z5, z6 =>
    bif (decide (z6 < (p0.length : Int))) then (Option.bind (idx p0 z6) fun x8 =>
    (m_word_Get_l2 p0 nl2) (IntKind.u64.wrap ((((BitVec.ofInt IntKind.u64.bits (IntKind.u64.wrap (z5 * 2 ^ 8))) ||| (BitVec.ofInt IntKind.u64.bits (x8.toNat : Int))).toNat : Nat) : Int)) (wi (z6 + 1))) else (m_word_Get_j1 z5)

def m_word_Get (p0 : (List UInt8)) : Option (Int × Int) :=
bif ((p0.length : Int) == 0) then (some (0, 10)) else (bif (decide ((p0.length : Int) > 8)) then (some (0, 2)) else (m_word_Get_l2 p0 (p0.length + 1) 0 0))

/-- slices.IndexFunc[[]byte,byte] -/
def m_slices_IndexFunc_byte_l1 (p0 : (List UInt8)) (p1 : (UInt8 → Option Bool)) : Nat → Int → Option Int
  | 0, _ => none
  | nl1 + 1, z1 =>
    bif (decide (z1 < (p0.length : Int))) then (Option.bind (idx p0 z1) fun x3 =>
    Option.bind (p1 x3) fun x5 =>
    bif x5 then (some z1) else ((m_slices_IndexFunc_byte_l1 p0 p1 nl1) (wi (z1 + 1)))) else (some (-1))

def m_slices_IndexFunc_byte (p0 : (List UInt8)) (p1 : (UInt8 → Option Bool)) : Option Int :=
m_slices_IndexFunc_byte_l1 p0 p1 (p0.length + 1) 0

/-- slices.ContainsFunc[[]byte,byte] -/
def m_slices_ContainsFunc_byte (p0 : (List UInt8)) (p1 : (UInt8 → Option Bool)) : Option Bool :=
Option.bind (m_slices_IndexFunc_byte p0 p1) fun x1 =>
some (decide (x1 ≥ 0))

/-- bastille/wal.noughts$1 -/
def m_wal_noughts_c1 (p0 : UInt8) : Option Bool :=
some ((p0.toNat : Int) != 0)

/-- bastille/wal.noughts -/
def m_wal_noughts (p0 : (List UInt8)) : Option Bool :=
Option.bind (m_slices_ContainsFunc_byte p0 m_wal_noughts_c1) fun x1 =>
some (!x1)

/-- bastille/wal.readSlot -/
def m_wal_readSlot (p0 : (Option Nat)) (p1 : Int) (w0 : Hp) : Option (Int × Int × Bool) :=
Option.bind (m_disk_Disk_Read p0 p1 w0) fun x1 =>
bif (x1.2 != 0) then (some (0, 0, false)) else (Option.bind (cutI x1.1 0 8) fun x4 =>
Option.bind (m_word_Get x4) fun x6 =>
Option.bind (cutI x1.1 56 (x1.1.length : Int)) fun x8 =>
Option.bind (m_word_Get x8) fun x10 =>
Option.bind (cutI x1.1 8 12) fun x12 =>
Option.bind (m_word_Get x12) fun x14 =>
bif (x6.2 != 0) then (some (0, 0, false)) else (bif (x10.2 != 0) then (some (0, 0, false)) else (bif (x14.2 != 0) then (some (0, 0, false)) else (bif (x6.1 != x10.1) then (some (0, 0, false)) else (bif (decide (x6.1 < 1)) then (some (0, 0, false)) else (bif (decide (x6.1 > 2305843009213693952)) then (some (0, 0, false)) else (Option.bind (m_wal_room p0 x14.1 w0) fun x22 =>
bif (!x22) then (some (0, 0, false)) else (Option.bind (cutI x1.1 12 56) fun x25 =>
Option.bind (m_wal_noughts x25) fun x27 =>
bif (!x27) then (some (0, 0, false)) else (some (x6.1, x14.1, true))))))))))

/-- (*bastille/wal.Log).home -/
def m_wal_Log_home (p0 : (Option Nat)) (p1 : Int) (w0 : Hp) : Option Int :=
ptM p0 (none) (fun i2 =>
Option.bind (w0.ge_lg i2) fun x3 =>
some (wi ((wi (2 + x3.size_)) + p1)))

/-- (*bastille/wal.Log).redo -/
def m_wal_Log_redo_l1 (p1 : (List S_api_Write)) (p0 : (Option Nat)) : Nat → Int → Hp → Option (Int × Hp)
  | 0, _, _ => none
  | nl1 + 1, z1, z2 =>
    bif (decide (z1 < (p1.length : Int))) then (Option.bind (idx p1 z1) fun x4 =>
    ptM p0 (none) (fun i7 =>
    Option.bind (z2.ge_lg i7) fun x8 =>
    Option.bind (m_wal_Log_home (some i7) x4.Home z2) fun x10 =>
    Option.bind (m_disk_Disk_Write x8.d_ x10 x4.Data z2) fun x12 =>
    bif (x12.1 != 0) then (some (x12.1, x12.2)) else ((m_wal_Log_redo_l1 p1 p0 nl1) (wi (z1 + 1)) x12.2))) else (some (0, z2))

def m_wal_Log_redo (p0 : (Option Nat)) (p1 : (List S_api_Write)) (w0 : Hp) : Option (Int × Hp) :=
m_wal_Log_redo_l1 p1 p0 (p1.length + 1) 0 w0

/-- (*bastille/wal.Log).Homes -/
def m_wal_Log_Homes (p0 : (Option Nat)) (w0 : Hp) : Option Int :=
ptM p0 (some 0) (fun i2 =>
Option.bind (w0.ge_lg i2) fun x3 =>
ptM x3.d_ (some 0) (fun i6 =>
Option.bind (m_disk_Disk_Size x3.d_ w0) fun x7 =>
some (wi ((wi (x7 - 2)) - x3.size_))))

/-- bastille/wal.Sum -/
def m_wal_Sum_j1 (y1 : Int) : Option Int :=
some (IntKind.u32.wrap ((((BitVec.ofInt IntKind.u32.bits 4294967295) ^^^ (BitVec.ofInt IntKind.u32.bits y1)).toNat : Nat) : Int))

def m_wal_Sum_l4 (kl3 : Int → Int → Option Int) (z8 : Int) : Nat → Int → Int → Option Int
  | 0, _, _ => none
  | nl4 + 1, z12, z13 =>
    bif (decide (z13 < 8)) then (bif ((IntKind.u32.wrap ((((BitVec.ofInt IntKind.u32.bits z12) &&& (BitVec.ofInt IntKind.u32.bits 1)).toNat : Nat) : Int)) == 1) then ((m_wal_Sum_l4 kl3 z8 nl4) (IntKind.u32.wrap ((((BitVec.ofInt IntKind.u32.bits (Int.fdiv z12 (2 ^ 1))) ^^^ (BitVec.ofInt IntKind.u32.bits 3988292384)).toNat : Nat) : Int)) (wi (z13 + 1))) else ((m_wal_Sum_l4 kl3 z8 nl4) (Int.fdiv z12 (2 ^ 1)) (wi (z13 + 1)))) else (kl3 z12 (wi (z8 + 1)))

def m_wal_Sum_l3 (kl2 : Int → Int → Option Int) (x5 : (List UInt8)) (z3 : Int) : Nat → Int → Int → Option Int
  | 0, _, _ => none
  | nl3 + 1, z7, z8 =>
    bif (decide (z8 < (x5.length : Int))) then (Option.bind (idx x5 z8) fun x10 =>
    m_wal_Sum_l4 (m_wal_Sum_l3 kl2 x5 z3 nl3) z8 (Int.toNat 8 + 1) (IntKind.u32.wrap ((((BitVec.ofInt IntKind.u32.bits z7) ^^^ (BitVec.ofInt IntKind.u32.bits (x10.toNat : Int))).toNat : Nat) : Int)) 0) else (kl2 z7 (wi (z3 + 1)))

def m_wal_Sum_l2 (p0 : (List (List UInt8))) : Nat → Int → Int → Option Int
  | 0, _, _ => none
  | nl2 + 1, z2, z3 =>
    bif (decide (z3 < (p0.length : Int))) then (Option.bind (idx p0 z3) fun x5 =>
    m_wal_Sum_l3 (m_wal_Sum_l2 p0 nl2) x5 z3 (x5.length + 1) z2 0) else (m_wal_Sum_j1 z2)

def m_wal_Sum (p0 : (List (List UInt8))) : Option Int :=
m_wal_Sum_l2 p0 (p0.length + 1) 4294967295 0

/-- (bastille/wal.entry).bytes -/
def m_wal_entry_bytes (p0 : S_wal_entry) (p1 : Int) : Option (List UInt8) :=
Option.bind (mkI 1 64) fun x1 =>
Option.bind (idx (List.replicate x1 (0 : UInt8)) 0) fun x3 =>
Option.bind (vcut x1 1 5) fun x5 =>
Option.bind (m_wal_put_v0 ((List.replicate x1 (0 : UInt8)).set (Int.toNat 0) (U8 p0.kind_)) (0 + Int.toNat 1 * 1) (Int.toNat 5 - Int.toNat 1) p0.number_) fun x7 =>
Option.bind (lenI x7.length ((List.replicate x1 (0 : UInt8)).set (Int.toNat 0) (U8 p0.kind_)).length) fun x9 =>
Option.bind (vcut x1 5 37) fun x11 =>
Option.bind (cpyI x7 (0 + Int.toNat 5 * 1) (Int.toNat 37 - Int.toNat 5) p0.data_) fun x13 =>
Option.bind (lenI x13.length x7.length) fun x15 =>
Option.bind (vcut x1 56 (x1 : Int)) fun x17 =>
Option.bind (m_wal_put_v0 x13 (0 + Int.toNat 56 * 1) (Int.toNat (x1 : Int) - Int.toNat 56) p1) fun x19 =>
Option.bind (lenI x19.length x13.length) fun x21 =>
Option.bind (vcut x1 52 56) fun x23 =>
Option.bind (vcut x1 0 52) fun x25 =>
Option.bind (vcut x1 56 (x1 : Int)) fun x27 =>
Option.bind (pieceI x19 (0 + Int.toNat 0 * 1) (Int.toNat 52 - Int.toNat 0)) fun x29 =>
Option.bind (pieceI x19 (0 + Int.toNat 56 * 1) (Int.toNat (x1 : Int) - Int.toNat 56)) fun x31 =>
Option.bind (m_wal_Sum [x29, x31]) fun x33 =>
Option.bind (m_wal_put_v0 x19 (0 + Int.toNat 52 * 1) (Int.toNat 56 - Int.toNat 52) (wi x33)) fun x35 =>
Option.bind (lenI x35.length x19.length) fun x37 =>
some x35

/-- slices.Equal[[]byte,byte] -/
def m_slices_Equal_byte_l1 (p0 : (List UInt8)) (p1 : (List UInt8)) : Nat → Int → Option Bool
  | 0, _ => none
  | nl1 + 1, z2 =>
    bif (decide (z2 < (p0.length : Int))) then (Option.bind (idx p0 z2) fun x4 =>
    Option.bind (idx p1 z2) fun x6 =>
    bif ((x4.toNat : Int) != (x6.toNat : Int)) then (some false) else ((m_slices_Equal_byte_l1 p0 p1 nl1) (wi (z2 + 1)))) else (some true)

def m_slices_Equal_byte (p0 : (List UInt8)) (p1 : (List UInt8)) : Option Bool :=
bif ((p0.length : Int) != (p1.length : Int)) then (some false) else (m_slices_Equal_byte_l1 p0 p1 (p0.length + 1) 0)

/-- (*bastille/wal.Log).at -/
def m_wal_Log_at (p0 : (Option Nat)) (p1 : Int) (w0 : Hp) : Option S_wal_entry :=
ptM p0 (none) (fun i2 =>
Option.bind (w0.ge_lg i2) fun x3 =>
bif (decide (p1 ≥ x3.size_)) then (some (S_wal_entry.mk 0 0 [] false)) else (Option.bind (m_disk_Disk_Read x3.d_ (wi (2 + p1)) w0) fun x6 =>
bif (x6.2 != 0) then (some (S_wal_entry.mk 0 0 [] false)) else (Option.bind (idx x6.1 0) fun x9 =>
Option.bind (cutI x6.1 5 37) fun x11 =>
Option.bind (cutI x6.1 1 5) fun x13 =>
Option.bind (m_word_Get x13) fun x15 =>
Option.bind (m_wal_entry_bytes (S_wal_entry.mk (x9.toNat : Int) x15.1 x11 false) (wi (x3.base_ + p1))) fun x17 =>
Option.bind (m_slices_Equal_byte x6.1 x17) fun x19 =>
some (S_wal_entry.mk (x9.toNat : Int) x15.1 x11 x19))))

/-- slices.Grow[[]byte,byte], of nil -/
def m_slices_Grow_byte_n0 (p1 : Int) : Option (List UInt8) :=
bif (decide (p1 < 0)) then (none) else (bif (decide ((wi (p1 - (wi (0 - 0)))) > 0)) then (Option.bind (growI 1 (wi (p1 - (wi (0 - 0))))) fun x3 =>
some []) else (some []))

/-- slices.Concat[[]byte,byte] -/
def m_slices_Concat_byte_l2 (p0 : (List (List UInt8))) : Nat → (List UInt8) → Int → Option (List UInt8)
  | 0, _, _ => none
  | nl2 + 1, z4, z5 =>
    bif (decide (z5 < (p0.length : Int))) then (Option.bind (idx p0 z5) fun x7 =>
    Option.bind (appI 1 z4 x7) fun x9 =>
    (m_slices_Concat_byte_l2 p0 nl2) x9 (wi (z5 + 1))) else (some z4)

def m_slices_Concat_byte_j1 (p0 : (List (List UInt8))) (y1 : Int) : Option (List UInt8) :=
Option.bind (m_slices_Grow_byte_n0 y1) fun x2 =>
m_slices_Concat_byte_l2 p0 (p0.length + 1) x2 0

def m_slices_Concat_byte_l3 (p0 : (List (List UInt8))) : Nat → Int → Int → Option (List UInt8)
  | 0, _, _ => none
  | nl3 + 1, z11, z12 =>
    bif (decide (z12 < (p0.length : Int))) then (Option.bind (idx p0 z12) fun x14 =>
    bif (decide ((wi (z11 + (x14.length : Int))) < 0)) then (none) else ((m_slices_Concat_byte_l3 p0 nl3) (wi (z11 + (x14.length : Int))) (wi (z12 + 1)))) else (m_slices_Concat_byte_j1 p0 z11)

def m_slices_Concat_byte (p0 : (List (List UInt8))) : Option (List UInt8) :=
m_slices_Concat_byte_l3 p0 (p0.length + 1) 0 0

/-- (*bastille/wal.Log).one -/
def m_wal_Log_one_j2 (kl1 : (List S_api_Write) → Int → Option ((List S_api_Write) × Int)) (z1 : (List S_api_Write)) (z2 : Int) (p1 : Int) (x3 : S_wal_entry) (p0 : (Option Nat)) (w0 : Hp) (y6 : Bool) : Option ((List S_api_Write) × Int) :=
bif y6 then (some (z1, (wi ((wi (z2 + 1)) - p1)))) else (bif (x3.kind_ != 1) then (some ([], 0)) else (Option.bind (m_wal_Log_Homes p0 w0) fun x9 =>
bif (decide (x3.number_ ≥ x9)) then (some ([], 0)) else (Option.bind (m_wal_Log_at p0 (wi (z2 + 1)) w0) fun x12 =>
bif (!x12.ok_) then (some ([], 0)) else (bif (x12.kind_ != 2) then (some ([], 0)) else (bif (x12.number_ != x3.number_) then (some ([], 0)) else (Option.bind (m_slices_Concat_byte [x3.data_, x12.data_]) fun x17 =>
Option.bind (appI 32 z1 [(S_api_Write.mk x3.number_ x17)]) fun x19 =>
kl1 x19 (wi (z2 + 2))))))))

def m_wal_Log_one_l1 (p0 : (Option Nat)) (w0 : Hp) (p1 : Int) : Nat → (List S_api_Write) → Int → Option ((List S_api_Write) × Int)
  | 0, _, _ => none
  | nl1 + 1, z1, z2 =>
    Option.bind (m_wal_Log_at p0 z2 w0) fun x3 =>
    bif (!x3.ok_) then (some ([], 0)) else (bif (x3.kind_ == 3) then (bif (decide ((z1.length : Int) > 0)) then (bif (x3.number_ == (z1.length : Int)) then (Option.bind (m_wal_noughts x3.data_) fun x24 =>
    m_wal_Log_one_j2 (m_wal_Log_one_l1 p0 w0 p1 nl1) z1 z2 p1 x3 p0 w0 x24) else (m_wal_Log_one_j2 (m_wal_Log_one_l1 p0 w0 p1 nl1) z1 z2 p1 x3 p0 w0 false)) else (m_wal_Log_one_j2 (m_wal_Log_one_l1 p0 w0 p1 nl1) z1 z2 p1 x3 p0 w0 false)) else (m_wal_Log_one_j2 (m_wal_Log_one_l1 p0 w0 p1 nl1) z1 z2 p1 x3 p0 w0 false))

def m_wal_Log_one (p0 : (Option Nat)) (p1 : Int) (w0 : Hp) : Option ((List S_api_Write) × Int) :=
m_wal_Log_one_l1 p0 w0 p1 (16400) [] p1

/-- (*bastille/wal.Log).says -/
def m_wal_Log_says_l1 (p0 : (Option Nat)) (w0 : Hp) : Nat → (List S_api_Write) → Int → Option (List S_api_Write)
  | 0, _, _ => none
  | nl1 + 1, z1, z2 =>
    Option.bind (m_wal_Log_one p0 z2 w0) fun x3 =>
    bif (x3.2 == 0) then (some z1) else (Option.bind (appI 32 z1 x3.1) fun x6 =>
    (m_wal_Log_says_l1 p0 w0 nl1) x6 (wi (z2 + x3.2)))

def m_wal_Log_says (p0 : (Option Nat)) (w0 : Hp) : Option (List S_api_Write) :=
m_wal_Log_says_l1 p0 w0 (16400) [] 0

/-- (*bastille/wal.Log).alive -/
def m_wal_Log_alive_j1 (p0 : (Option Nat)) (w0 : Hp) (y1 : Bool) : Option Int :=
bif y1 then (some 1) else (ptM p0 (none) (fun i4 =>
Option.bind (w0.ge_lg i4) fun x5 =>
Option.bind (m_disk_Disk_Off x5.d_ w0) fun x7 =>
bif x7 then (some 30) else (Option.bind (m_disk_Disk_Lives x5.d_ w0) fun x10 =>
bif (x10 != x5.life_) then (some 30) else (some 0))))

def m_wal_Log_alive (p0 : (Option Nat)) (w0 : Hp) : Option Int :=
ptM p0 (m_wal_Log_alive_j1 p0 w0 true) (fun i14 =>
Option.bind (w0.ge_lg i14) fun x15 =>
ptM x15.d_ (m_wal_Log_alive_j1 p0 w0 true) (fun i18 =>
m_wal_Log_alive_j1 p0 w0 false))

/-- (*bastille/wal.Log).raise -/
def m_wal_Log_raise (p0 : (Option Nat)) (w0 : Hp) : Option (Int × Hp) :=
ptM p0 (none) (fun i2 =>
Option.bind (w0.ge_lg i2) fun x3 =>
Option.bind (m_wal_slotBytes (wi (x3.base_ + x3.size_)) x3.size_) fun x5 =>
Option.bind (m_disk_Disk_Write x3.d_ (wi (1 - x3.slot_)) x5 w0) fun x7 =>
bif (x7.1 != 0) then (some (x7.1, x7.2)) else (Option.bind (x7.2.ge_lg i2) fun x10 =>
Option.bind (m_disk_Disk_Flush x10.d_ x7.2) fun x12 =>
bif (x12.1 != 0) then (some (x12.1, x12.2)) else (Option.bind (x12.2.ge_lg i2) fun x15 =>
some (0, (((x12.2.st_lg i2 (S_wal_Log.mk x15.d_ x15.size_ x15.base_ (wi (1 - x3.slot_)) x15.used_ x15.life_ x15.commits_)).st_lg i2 (S_wal_Log.mk x15.d_ x15.size_ x15.base_ (wi (1 - x3.slot_)) 0 x15.life_ x15.commits_)).st_lg i2 (S_wal_Log.mk x15.d_ x15.size_ (wi (((S_wal_Log.mk x15.d_ x15.size_ x15.base_ (wi (1 - x3.slot_)) 0 x15.life_ x15.commits_).base_) + ((S_wal_Log.mk x15.d_ x15.size_ x15.base_ (wi (1 - x3.slot_)) 0 x15.life_ x15.commits_).size_))) (wi (1 - x3.slot_)) 0 x15.life_ x15.commits_))))))

/-- (*bastille/wal.Log).Checkpoint -/
def m_wal_Log_Checkpoint (p0 : (Option Nat)) (w0 : Hp) : Option (Int × Hp) :=
Option.bind (m_wal_Log_alive p0 w0) fun x1 =>
bif (x1 != 0) then (some (x1, w0)) else (ptM p0 (none) (fun i5 =>
Option.bind (w0.ge_lg i5) fun x6 =>
bif (decide (x6.base_ > (wi (2305843009213693952 - x6.size_)))) then (some (3, w0)) else (Option.bind (m_disk_Disk_Flush x6.d_ w0) fun x9 =>
bif (x9.1 != 0) then (some (x9.1, x9.2)) else (Option.bind (m_wal_Log_raise (some i5) x9.2) fun x12 =>
some (x12.1, x12.2)))))

/-- bastille/wal.Open -/
def m_wal_Open_j1 (w0 : Hp) (y11 : Hp) : Option ((Option Nat) × Int × Hp) :=
Option.bind (y11.ge_lg w0.ln_lg) fun x12 =>
bif (x12.base_ == 0) then (some (none, 11, y11)) else (bif (decide (x12.base_ > (wi (2305843009213693952 - x12.size_)))) then (some (none, 3, y11)) else (Option.bind (m_wal_Log_says (some w0.ln_lg) y11) fun x16 =>
Option.bind (m_wal_Log_redo (some w0.ln_lg) x16 y11) fun x18 =>
bif (x18.1 != 0) then (some (none, x18.1, x18.2)) else (Option.bind (m_wal_Log_Checkpoint (some w0.ln_lg) x18.2) fun x21 =>
bif (x21.1 != 0) then (some (none, x21.1, x21.2)) else (some ((some w0.ln_lg), 0, x21.2)))))

def m_wal_Open_j3 (kl2 : Int → Hp → Option ((Option Nat) × Int × Hp)) (z25 : Hp) (w0 : Hp) (z24 : Int) (x27 : (Int × Int × Bool)) (y29 : Bool) : Option ((Option Nat) × Int × Hp) :=
bif y29 then (Option.bind (z25.ge_lg w0.ln_lg) fun x31 =>
kl2 (wi (z24 + 1)) (((z25.st_lg w0.ln_lg (S_wal_Log.mk x31.d_ x31.size_ x27.1 x31.slot_ x31.used_ x31.life_ x31.commits_)).st_lg w0.ln_lg (S_wal_Log.mk x31.d_ x27.2.1 x27.1 x31.slot_ x31.used_ x31.life_ x31.commits_)).st_lg w0.ln_lg (S_wal_Log.mk x31.d_ x27.2.1 x27.1 z24 x31.used_ x31.life_ x31.commits_))) else (kl2 (wi (z24 + 1)) z25)

def m_wal_Open_l2 (w0 : Hp) : Nat → Int → Hp → Option ((Option Nat) × Int × Hp)
  | 0, _, _ => none
  | nl2 + 1, z24, z25 =>
    bif (decide (z24 < 2)) then (Option.bind (m_wal_readSlot none z24 z25) fun x27 =>
    bif x27.2.2 then (Option.bind (z25.ge_lg w0.ln_lg) fun x34 =>
    m_wal_Open_j3 (m_wal_Open_l2 w0 nl2) z25 w0 z24 x27 (decide (x27.1 > x34.base_))) else (m_wal_Open_j3 (m_wal_Open_l2 w0 nl2) z25 w0 z24 x27 false)) else (m_wal_Open_j1 w0 z25)

def m_wal_Open_j4 (w0 : Hp) (y38 : Hp) : Option ((Option Nat) × Int × Hp) :=
Option.bind (y38.ge_lg w0.ln_lg) fun x39 =>
bif (x39.base_ == 0) then (some (none, 11, y38)) else (bif (decide (x39.base_ > (wi (2305843009213693952 - x39.size_)))) then (some (none, 3, y38)) else (Option.bind (m_wal_Log_says (some w0.ln_lg) y38) fun x43 =>
Option.bind (m_wal_Log_redo (some w0.ln_lg) x43 y38) fun x45 =>
bif (x45.1 != 0) then (some (none, x45.1, x45.2)) else (Option.bind (m_wal_Log_Checkpoint (some w0.ln_lg) x45.2) fun x48 =>
bif (x48.1 != 0) then (some (none, x48.1, x48.2)) else (some ((some w0.ln_lg), 0, x48.2)))))

def m_wal_Open_j6 (kl5 : Int → Hp → Option ((Option Nat) × Int × Hp)) (z52 : Hp) (w0 : Hp) (z51 : Int) (x54 : (Int × Int × Bool)) (y56 : Bool) : Option ((Option Nat) × Int × Hp) :=
bif y56 then (Option.bind (z52.ge_lg w0.ln_lg) fun x58 =>
kl5 (wi (z51 + 1)) (((z52.st_lg w0.ln_lg (S_wal_Log.mk x58.d_ x58.size_ x54.1 x58.slot_ x58.used_ x58.life_ x58.commits_)).st_lg w0.ln_lg (S_wal_Log.mk x58.d_ x54.2.1 x54.1 x58.slot_ x58.used_ x58.life_ x58.commits_)).st_lg w0.ln_lg (S_wal_Log.mk x58.d_ x54.2.1 x54.1 z51 x58.used_ x58.life_ x58.commits_))) else (kl5 (wi (z51 + 1)) z52)

def m_wal_Open_l5 (i8 : Nat) (w0 : Hp) : Nat → Int → Hp → Option ((Option Nat) × Int × Hp)
  | 0, _, _ => none
  | nl5 + 1, z51, z52 =>
    bif (decide (z51 < 2)) then (Option.bind (m_wal_readSlot (some i8) z51 z52) fun x54 =>
    bif x54.2.2 then (Option.bind (z52.ge_lg w0.ln_lg) fun x61 =>
    m_wal_Open_j6 (m_wal_Open_l5 i8 w0 nl5) z52 w0 z51 x54 (decide (x54.1 > x61.base_))) else (m_wal_Open_j6 (m_wal_Open_l5 i8 w0 nl5) z52 w0 z51 x54 false)) else (m_wal_Open_j4 w0 z52)

def m_wal_Open (p0 : (Option Nat)) (w0 : Hp) : Option ((Option Nat) × Int × Hp) :=
Option.bind (m_disk_Disk_Size p0 w0) fun x1 =>
bif (x1 == 0) then (some (none, 1, w0)) else (Option.bind (m_disk_Disk_Off p0 w0) fun x4 =>
bif x4 then (some (none, 30, w0)) else (ptM p0 (Option.bind (m_disk_Disk_Lives none w0) fun x9 =>
m_wal_Open_l2 w0 (Int.toNat 2 + 1) 0 (w0.nw_lg (S_wal_Log.mk none 0 0 0 0 x9 0))) (fun i8 =>
Option.bind (m_disk_Disk_Lives (some i8) w0) fun x36 =>
m_wal_Open_l5 i8 w0 (Int.toNat 2 + 1) 0 (w0.nw_lg (S_wal_Log.mk (some i8) 0 0 0 0 x36 0)))))

/-- (*bastille/wal.Log).Left -/
def m_wal_Log_Left (p0 : (Option Nat)) (w0 : Hp) : Option Int :=
ptM p0 (some 0) (fun i2 =>
Option.bind (w0.ge_lg i2) fun x3 =>
some (wi (x3.size_ - x3.used_)))

/-- bastille/wal.entries -/
def m_wal_entries_j1 (p0 : (List S_api_Write)) (y1 : (List S_wal_entry)) : Option (List S_wal_entry) :=
Option.bind (appI 48 y1 [(S_wal_entry.mk 3 (p0.length : Int) [] false)]) fun x2 =>
some x2

def m_wal_entries_l2 (p0 : (List S_api_Write)) : Nat → (List S_wal_entry) → Int → Option (List S_wal_entry)
  | 0, _, _ => none
  | nl2 + 1, z4, z5 =>
    bif (decide (z5 < (p0.length : Int))) then (Option.bind (idx p0 z5) fun x7 =>
    Option.bind (cutI x7.Data 0 32) fun x9 =>
    Option.bind (cutI x7.Data 32 (x7.Data.length : Int)) fun x11 =>
    Option.bind (appI 48 z4 [(S_wal_entry.mk 1 x7.Home x9 false), (S_wal_entry.mk 2 x7.Home x11 false)]) fun x13 =>
    (m_wal_entries_l2 p0 nl2) x13 (wi (z5 + 1))) else (m_wal_entries_j1 p0 z4)

def m_wal_entries (p0 : (List S_api_Write)) : Option (List S_wal_entry) :=
m_wal_entries_l2 p0 (p0.length + 1) [] 0

/-- (*bastille/wal.Log).Commit -/
def m_wal_Log_Commit_j3 (p0 : (Option Nat)) (p1 : (List S_api_Write)) (y5 : Hp) : Option (Int × Hp) :=
ptM p0 (none) (fun i7 =>
Option.bind (y5.ge_lg i7) fun x8 =>
Option.bind (m_disk_Disk_Flush x8.d_ y5) fun x10 =>
bif (x10.1 != 0) then (some (x10.1, x10.2)) else (Option.bind (x10.2.ge_lg i7) fun x13 =>
Option.bind (m_wal_Log_redo (some i7) p1 ((x10.2.st_lg i7 (S_wal_Log.mk x13.d_ x13.size_ x13.base_ x13.slot_ (wi (x13.used_ + (wi ((wi (2 * (p1.length : Int))) + 1)))) x13.life_ x13.commits_)).st_lg i7 (S_wal_Log.mk x13.d_ x13.size_ x13.base_ x13.slot_ (wi (x13.used_ + (wi ((wi (2 * (p1.length : Int))) + 1)))) x13.life_ (wi (((S_wal_Log.mk x13.d_ x13.size_ x13.base_ x13.slot_ (wi (x13.used_ + (wi ((wi (2 * (p1.length : Int))) + 1)))) x13.life_ x13.commits_).commits_) + 1))))) fun x15 =>
some (x15.1, x15.2)))

def m_wal_Log_Commit_l4 (x17 : (List S_wal_entry)) (p0 : (Option Nat)) (p1 : (List S_api_Write)) : Nat → Int → Hp → Option (Int × Hp)
  | 0, _, _ => none
  | nl4 + 1, z19, z20 =>
    bif (decide (z19 < (x17.length : Int))) then (Option.bind (idx x17 z19) fun x22 =>
    ptM p0 (none) (fun i25 =>
    Option.bind (z20.ge_lg i25) fun x26 =>
    Option.bind (m_wal_entry_bytes x22 (wi (x26.base_ + (wi (x26.used_ + z19))))) fun x28 =>
    Option.bind (m_disk_Disk_Write x26.d_ (wi (2 + (wi (x26.used_ + z19)))) x28 z20) fun x30 =>
    bif (x30.1 != 0) then (some (x30.1, x30.2)) else ((m_wal_Log_Commit_l4 x17 p0 p1 nl4) (wi (z19 + 1)) x30.2))) else (m_wal_Log_Commit_j3 p0 p1 z20)

def m_wal_Log_Commit_j2 (p1 : (List S_api_Write)) (p0 : (Option Nat)) (y4 : Hp) : Option (Int × Hp) :=
Option.bind (m_wal_entries p1) fun x17 =>
m_wal_Log_Commit_l4 x17 p0 p1 (x17.length + 1) 0 y4

def m_wal_Log_Commit_j1 (p0 : (Option Nat)) (w0 : Hp) (p1 : (List S_api_Write)) : Option (Int × Hp) :=
ptM p0 (none) (fun i34 =>
Option.bind (w0.ge_lg i34) fun x35 =>
bif (decide ((wi ((wi (2 * (p1.length : Int))) + 1)) > x35.size_)) then (some (3, w0)) else (bif ((p1.length : Int) == 0) then (some (0, w0)) else (Option.bind (m_wal_Log_Left (some i34) w0) fun x39 =>
bif (decide ((wi ((wi (2 * (p1.length : Int))) + 1)) > x39)) then (Option.bind (m_wal_Log_Checkpoint (some i34) w0) fun x42 =>
bif (x42.1 != 0) then (some (x42.1, x42.2)) else (m_wal_Log_Commit_j2 p1 p0 x42.2)) else (m_wal_Log_Commit_j2 p1 p0 w0))))

def m_wal_Log_Commit_l5 (p1 : (List S_api_Write)) (w0 : Hp) (p0 : (Option Nat)) : Nat → Int → Option (Int × Hp)
  | 0, _ => none
  | nl5 + 1, z45 =>
    bif (decide (z45 < (p1.length : Int))) then (Option.bind (idx p1 z45) fun x47 =>
    bif (decide (x47.Home < 0)) then (some (2, w0)) else (Option.bind (m_wal_Log_Homes p0 w0) fun x50 =>
    bif (decide (x47.Home ≥ x50)) then (some (2, w0)) else (bif ((x47.Data.length : Int) != 64) then (some (2, w0)) else ((m_wal_Log_Commit_l5 p1 w0 p0 nl5) (wi (z45 + 1)))))) else (m_wal_Log_Commit_j1 p0 w0 p1)

def m_wal_Log_Commit (p0 : (Option Nat)) (p1 : (List S_api_Write)) (w0 : Hp) : Option (Int × Hp) :=
Option.bind (m_wal_Log_alive p0 w0) fun x1 =>
bif (x1 != 0) then (some (x1, w0)) else (m_wal_Log_Commit_l5 p1 w0 p0 (p1.length + 1) 0)

/-- (*bastille/wal.Log).Read -/
def m_wal_Log_Read (p0 : (Option Nat)) (p1 : Int) (w0 : Hp) : Option ((List UInt8) × Int) :=
Option.bind (m_wal_Log_alive p0 w0) fun x1 =>
bif (x1 != 0) then (some ([], x1)) else (bif (decide (p1 < 0)) then (some ([], 31)) else (Option.bind (m_wal_Log_Homes p0 w0) fun x5 =>
bif (decide (p1 ≥ x5)) then (some ([], 31)) else (ptM p0 (none) (fun i9 =>
Option.bind (w0.ge_lg i9) fun x10 =>
Option.bind (m_wal_Log_home (some i9) p1 w0) fun x12 =>
Option.bind (m_disk_Disk_Read x10.d_ x12 w0) fun x14 =>
some (x14.1, x14.2)))))

/-- (*bastille/wal.Log).Base -/
def m_wal_Log_Base (p0 : (Option Nat)) (w0 : Hp) : Option Int :=
ptM p0 (some 0) (fun i2 =>
Option.bind (w0.ge_lg i2) fun x3 =>
some x3.base_)

/-- (*bastille/disk.Disk).Crash -/
def m_disk_Disk_Crash_j1 (p0 : (Option Nat)) (y4 : Hp) : Option (Int × Hp) :=
ptM p0 (none) (fun i6 =>
Option.bind (y4.ge_dk i6) fun x7 =>
Option.bind (y4.ge_sec x7.kept_.1) fun x9 =>
Option.bind (lenI x9.length x7.kept_.2) fun x11 =>
Option.bind (m_slices_Clone_sector x9) fun x13 =>
bif x13.isEmpty then none else (some (0, ((((((y4.nw_sec x13).st_dk i6 (S_disk_Disk.mk x7.kept_ x7.now_ [] x7.fuse_ x7.off_ x7.lives_)).st_dk i6 (S_disk_Disk.mk x7.kept_ (y4.ln_sec, x13.length) [] x7.fuse_ x7.off_ x7.lives_)).st_dk i6 (S_disk_Disk.mk x7.kept_ (y4.ln_sec, x13.length) [] (-1) x7.off_ x7.lives_)).st_dk i6 (S_disk_Disk.mk x7.kept_ (y4.ln_sec, x13.length) [] (-1) false x7.lives_)).st_dk i6 (S_disk_Disk.mk x7.kept_ (y4.ln_sec, x13.length) [] (-1) false (wi (((S_disk_Disk.mk x7.kept_ (y4.ln_sec, x13.length) [] (-1) false x7.lives_).lives_) + 1)))))))

def m_disk_Disk_Crash_l2 (x18 : S_disk_Disk) (p1 : (List UInt8)) (p0 : (Option Nat)) (i17 : Nat) : Nat → Int → Hp → Option (Int × Hp)
  | 0, _, _ => none
  | nl2 + 1, z20, z21 =>
    bif (decide (z20 < (x18.wait_.length : Int))) then (Option.bind (idx x18.wait_ z20) fun x23 =>
    bif (decide (z20 ≥ (p1.length : Int))) then (m_disk_Disk_Crash_j1 p0 z21) else (Option.bind (idx p1 z20) fun x26 =>
    Option.bind (z21.ge_dk i17) fun x28 =>
    Option.bind (z21.ge_sec x28.kept_.1) fun x30 =>
    Option.bind (lenI x30.length x28.kept_.2) fun x32 =>
    Option.bind (idx x30 x23.n_) fun x34 =>
    Option.bind (vcut 64 0 (if 64 < (x26.toNat : Int) then 64 else (x26.toNat : Int))) fun x36 =>
    Option.bind (cutI (padA (0 : UInt8) x23.b_ 0 64) 0 (if 64 < (x26.toNat : Int) then 64 else (x26.toNat : Int))) fun x38 =>
    (m_disk_Disk_Crash_l2 x18 p1 p0 i17 nl2) (wi (z20 + 1)) (z21.st_sec x28.kept_.1 (x30.set (Int.toNat x23.n_) (cpyL (padA (0 : UInt8) x34 0 64) 0 (Int.toNat (if 64 < (x26.toNat : Int) then 64 else (x26.toNat : Int)) - Int.toNat 0) x38))))) else (m_disk_Disk_Crash_j1 p0 z21)

def m_disk_Disk_Crash (p0 : (Option Nat)) (p1 : (List UInt8)) (w0 : Hp) : Option (Int × Hp) :=
Option.bind (m_disk_Disk_is p0 w0) fun x1 =>
bif (!x1) then (some (1, w0)) else (ptM p0 (none) (fun i17 =>
Option.bind (w0.ge_dk i17) fun x18 =>
m_disk_Disk_Crash_l2 x18 p1 p0 i17 (x18.wait_.length + 1) 0 w0))
end Go.Proofs.Ytjomnccladjpgaa

/-
  The contract of slices.Clone over sectors.
-/
namespace Go.Proofs.Ytjomnccladjpgaa
open Go Go.RowKit
set_option linter.unusedVariables false
set_option maxHeartbeats 4000000
set_option maxRecDepth 20000
theorem fc_slices_Clone_sector (p0 : List (List UInt8)) (r : List (List UInt8)) (h : m_slices_Clone_sector p0 = some r) : FC Try.prog 73 [.t (.d (.seq 64 (List.map cA64_cU8 p0)))] [] (.t (.own 119 64 (List.map cA64_cU8 r))) := by
  refine fc_mk (rs := [.tmp 2]) (n := 8) Try.func73 rfl rfl (Nat.le_of_ble_eq_true rfl) rfl (pins := []) rfl (L := [(0, .t (.d (.seq 64 (List.map cA64_cU8 p0))))]) rfl ?_
  have hr : r = p0 := by
    have := (appI_iff h).2
    simpa using this
  refine c_seq ?_
  refine c_region ?_
  refine o_s (.t (.d (.lit (.slice none 0 0)))) (g0 rfl) rfl rfl rfl ?_
  refine o_nil ?_
  refine then_normal ?_
  refine c_seq ?_
  refine c_seq ?_
  refine c_nil (l1 := [_]) (k := 64) (l := List.map cA64_cU8 p0) rfl rfl rfl rfl ?_
  refine o_s (.t (.d (.seq 64 (List.map cA64_cU8 p0)))) (g0 rfl) rfl rfl rfl ?_
  refine o_nil ⟨rfl, rfl, fun b hb => ?_⟩
  refine then_normal ?_
  refine c_cond rfl (fun hc => ?_) (fun hc => ?_)
  · have hb := hb hc
    have hp : p0 = [] := by simpa using hb
    refine c_seq ?_
    refine c_region ?_
    refine o_s (.t (.d (.lit (.slice none 0 0)))) (g0 rfl) rfl rfl rfl ?_
    refine o_nil ?_
    refine then_normal ?_
    refine c_ret ?_
    repeat (refine then_ret ?_)
    subst hr hp
    exact end0 rfl (.t (.nilOwn _ _))
  · refine c_skip ?_
    refine then_normal ?_
    refine c_seq ?_
    refine c_region ?_
    refine o_b0 (.t (.own 119 64 (List.map cA64_cU8 []))) (g0 rfl) rfl rfl rfl rfl rfl ?_
    refine o_s (.t (.d (.seq 64 (List.map cA64_cU8 p0)))) (g0 rfl) rfl rfl rfl ?_
    refine o_2c (g0 rfl) rfl rfl rfl (appE (c := cA64_cU8) h) (appC (c := cA64_cU8) h) ?_
    refine o_2 (.t (.d (.seq 64 (List.map cA64_cU8 r)))) (.t (.own 119 64 (List.map cA64_cU8 r))) (g0 rfl) rfl rfl rfl ?_
    refine o_nil ?_
    refine then_normal ?_
    refine c_ret ?_
    exact end0 rfl (.refl _)
end Go.Proofs.Ytjomnccladjpgaa
