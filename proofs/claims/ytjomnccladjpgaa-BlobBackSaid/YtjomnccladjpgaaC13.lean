/-
  Texts joined: see the remark at the head of each part.
-/
import Derived.Test.YtjomnccladjpgaaC10
import Derived.Test.YtjomnccladjpgaaC07
import Derived.Test.YtjomnccladjpgaaC12
import Derived.Test.YtjomnccladjpgaaC11
set_option linter.unusedVariables false
set_option linter.unusedSimpArgs false
/-
  Models of functions: printed by a program of this claim's own (gen.py) off the given translation.
-/
namespace Go.Proofs.Ytjomnccladjpgaa
open Go Go.RowKit
set_option linter.unusedVariables false
structure S_disk_write where
  n_ : Int
  b_ : (List UInt8)

structure S_disk_Disk where
  kept_ : (Nat × Nat)
  now_ : (Nat × Nat)
  wait_ : (List S_disk_write)
  fuse_ : Int
  off_ : Bool
  lives_ : Int

abbrev cA64_cU8 (x : List UInt8) : List D := ar cU8 (0 : UInt8) x 0 64

abbrev cS_disk_write (x : S_disk_write) : List D := [D.lit (.int .i64 x.n_)] ++ ar cU8 (0 : UInt8) x.b_ 0 64

structure S_wal_Log where
  d_ : (Option Nat)
  size_ : Int
  base_ : Int
  slot_ : Int
  used_ : Int
  life_ : Int
  commits_ : Int

structure S_wal_Txn where
  l_ : (Option Nat)
  at_ : Int
  over_ : Bool
  now_ : Nat

structure S_index_Index where
  t_ : (Option Nat)
  table_ : Int

abbrev hc_dk (i : Nat) (x : S_disk_Disk) : List T := [.hvw (cd 2 x.kept_.1) 0 119 64 x.kept_.2, .hvw (cd 2 x.now_.1) 0 119 64 x.now_.2, .own 121 65 (List.map cS_disk_write x.wait_), .d (.lit (.int .i64 x.fuse_)), .d (.lit (.bool x.off_)), .d (.lit (.int .i64 x.lives_))]

abbrev hc_lg (i : Nat) (x : S_wal_Log) : List T := [(ptT 1 x.d_), .d (.lit (.int .i64 x.size_)), .d (.lit (.int .i64 x.base_)), .d (.lit (.int .i64 x.slot_)), .d (.lit (.int .i64 x.used_)), .d (.lit (.int .i64 x.life_)), .d (.lit (.int .i64 x.commits_))]

abbrev hc_tx (i : Nat) (x : S_wal_Txn) : List T := [(ptT 3 x.l_), .d (.lit (.int .i64 x.at_)), .d (.lit (.bool x.over_)), .mpt (OB + cd 6 x.now_)]

abbrev hc_ix (i : Nat) (x : S_index_Index) : List T := [(ptT 5 x.t_), .d (.lit (.int .i64 x.table_))]

abbrev hc_sec (_ : Nat) (x : (List (List UInt8))) : List T := fl (dT cA64_cU8) x

/-- What is behind addresses: objects, kind by kind. -/
structure Hp where
  dk : List S_disk_Disk
  lg : List S_wal_Log
  tx : List S_wal_Txn
  ix : List S_index_Index
  sec : List (List (List UInt8))
  mp : List (List (Int × (List UInt8)))

def Hp.e : Hp := ⟨[], [], [], [], [], []⟩

abbrev Hp.ge_dk (H : Hp) (i : Nat) : Option S_disk_Disk := H.dk[i]?
def Hp.st_dk (H : Hp) (i : Nat) (x : S_disk_Disk) : Hp := { H with dk := H.dk.set i x }
def Hp.nw_dk (H : Hp) (x : S_disk_Disk) : Hp := { H with dk := H.dk ++ [x] }
abbrev Hp.ln_dk (H : Hp) : Nat := H.dk.length

abbrev Hp.ge_lg (H : Hp) (i : Nat) : Option S_wal_Log := H.lg[i]?
def Hp.st_lg (H : Hp) (i : Nat) (x : S_wal_Log) : Hp := { H with lg := H.lg.set i x }
def Hp.nw_lg (H : Hp) (x : S_wal_Log) : Hp := { H with lg := H.lg ++ [x] }
abbrev Hp.ln_lg (H : Hp) : Nat := H.lg.length

abbrev Hp.ge_tx (H : Hp) (i : Nat) : Option S_wal_Txn := H.tx[i]?
def Hp.nw_tx (H : Hp) (x : S_wal_Txn) : Hp := { H with tx := H.tx ++ [x] }
abbrev Hp.ln_tx (H : Hp) : Nat := H.tx.length

abbrev Hp.ge_sec (H : Hp) (i : Nat) : Option (List (List UInt8)) := H.sec[i]?
def Hp.st_sec (H : Hp) (i : Nat) (x : (List (List UInt8))) : Hp := { H with sec := H.sec.set i x }
def Hp.nw_sec (H : Hp) (x : (List (List UInt8))) : Hp := { H with sec := H.sec ++ [x] }
abbrev Hp.ln_sec (H : Hp) : Nat := H.sec.length

abbrev Hp.ge_mp (H : Hp) (i : Nat) : Option (List (Int × (List UInt8))) := H.mp[i]?
def Hp.st_mp (H : Hp) (i : Nat) (x : (List (Int × (List UInt8)))) : Hp := { H with mp := H.mp.set i x }
def Hp.nw_mp (H : Hp) (x : (List (Int × (List UInt8)))) : Hp := { H with mp := H.mp ++ [x] }
abbrev Hp.ln_mp (H : Hp) : Nat := H.mp.length

def hpT (H : Hp) : Nat → Nat → A
  | 1, i => arA H.dk hc_dk i
  | 2, i => arA H.sec hc_sec i
  | 3, i => arA H.lg hc_lg i
  | 5, i => arA H.tx hc_tx i
  | 6, i => arM (fun z : Int => Value.int .i64 z) (fun l : List UInt8 => D.seq 1 (bytesD l)) H.mp i
  | 7, i => arA H.ix hc_ix i
  | _, _ => .free
def hpA (H : Hp) : Nat → A := hpF (hpT H)

theorem gl_dk {H : Hp} {i : Nat} {x : S_disk_Disk} (h : H.ge_dk i = some x) : hpA H (cd 1 i) = (.box (hc_dk i x)) := (hpF_cd (by decide)).trans (arA_get h)

theorem su_dk {H : Hp} {i : Nat} {x x' : S_disk_Disk} (h : H.ge_dk i = some x) : hpA (H.st_dk i x') = updF (hpA H) (cd 1 i) (.box (hc_dk i x')) := by
  refine hpF_upd (by decide) (arA_eq h) fun t' j hne => ?_
  match t' with
  | 0 => exact rfl
  | 1 => exact arA_ne fun e => hne ⟨rfl, e⟩
  | 2 => exact rfl
  | 3 => exact rfl
  | 4 => exact rfl
  | 5 => exact rfl
  | 6 => exact rfl
  | 7 => exact rfl
  | k + 8 => rfl

theorem su2_dk {H : Hp} {i : Nat} {x x' : S_disk_Disk} {y : A} (h : H.ge_dk i = some x) : hpA (H.st_dk i x') = updF (updF (hpA H) (cd 1 i) y) (cd 1 i) (.box (hc_dk i x')) := by
  rw [su_dk h]
  funext k
  unfold updF
  split <;> rfl

theorem fr_dk (H : Hp) : hpA H (cd 1 H.ln_dk) = .free := (hpF_cd (by decide)).trans arA_free

theorem nw_dk (H : Hp) (x : S_disk_Disk) : hpA (H.nw_dk x) = updF (hpA H) (cd 1 H.ln_dk) (.box (hc_dk H.ln_dk x)) := by
  refine hpF_upd (by decide) arA_new fun t' j hne => ?_
  match t' with
  | 0 => exact rfl
  | 1 => exact arA_old fun e => hne ⟨rfl, e⟩
  | 2 => exact rfl
  | 3 => exact rfl
  | 4 => exact rfl
  | 5 => exact rfl
  | 6 => exact rfl
  | 7 => exact rfl
  | k + 8 => rfl

theorem gl_lg {H : Hp} {i : Nat} {x : S_wal_Log} (h : H.ge_lg i = some x) : hpA H (cd 3 i) = (.box (hc_lg i x)) := (hpF_cd (by decide)).trans (arA_get h)

theorem su_lg {H : Hp} {i : Nat} {x x' : S_wal_Log} (h : H.ge_lg i = some x) : hpA (H.st_lg i x') = updF (hpA H) (cd 3 i) (.box (hc_lg i x')) := by
  refine hpF_upd (by decide) (arA_eq h) fun t' j hne => ?_
  match t' with
  | 0 => exact rfl
  | 1 => exact rfl
  | 2 => exact rfl
  | 3 => exact arA_ne fun e => hne ⟨rfl, e⟩
  | 4 => exact rfl
  | 5 => exact rfl
  | 6 => exact rfl
  | 7 => exact rfl
  | k + 8 => rfl

theorem fr_lg (H : Hp) : hpA H (cd 3 H.ln_lg) = .free := (hpF_cd (by decide)).trans arA_free

theorem nw_lg (H : Hp) (x : S_wal_Log) : hpA (H.nw_lg x) = updF (hpA H) (cd 3 H.ln_lg) (.box (hc_lg H.ln_lg x)) := by
  refine hpF_upd (by decide) arA_new fun t' j hne => ?_
  match t' with
  | 0 => exact rfl
  | 1 => exact rfl
  | 2 => exact rfl
  | 3 => exact arA_old fun e => hne ⟨rfl, e⟩
  | 4 => exact rfl
  | 5 => exact rfl
  | 6 => exact rfl
  | 7 => exact rfl
  | k + 8 => rfl

theorem gl_tx {H : Hp} {i : Nat} {x : S_wal_Txn} (h : H.ge_tx i = some x) : hpA H (cd 5 i) = (.box (hc_tx i x)) := (hpF_cd (by decide)).trans (arA_get h)

theorem fr_tx (H : Hp) : hpA H (cd 5 H.ln_tx) = .free := (hpF_cd (by decide)).trans arA_free

theorem nw_tx (H : Hp) (x : S_wal_Txn) : hpA (H.nw_tx x) = updF (hpA H) (cd 5 H.ln_tx) (.box (hc_tx H.ln_tx x)) := by
  refine hpF_upd (by decide) arA_new fun t' j hne => ?_
  match t' with
  | 0 => exact rfl
  | 1 => exact rfl
  | 2 => exact rfl
  | 3 => exact rfl
  | 4 => exact rfl
  | 5 => exact arA_old fun e => hne ⟨rfl, e⟩
  | 6 => exact rfl
  | 7 => exact rfl
  | k + 8 => rfl

theorem gl_sec {H : Hp} {i : Nat} {x : (List (List UInt8))} (h : H.ge_sec i = some x) : hpA H (cd 2 i) = (.box (hc_sec i x)) := (hpF_cd (by decide)).trans (arA_get h)

theorem su_sec {H : Hp} {i : Nat} {x x' : (List (List UInt8))} (h : H.ge_sec i = some x) : hpA (H.st_sec i x') = updF (hpA H) (cd 2 i) (.box (hc_sec i x')) := by
  refine hpF_upd (by decide) (arA_eq h) fun t' j hne => ?_
  match t' with
  | 0 => exact rfl
  | 1 => exact rfl
  | 2 => exact arA_ne fun e => hne ⟨rfl, e⟩
  | 3 => exact rfl
  | 4 => exact rfl
  | 5 => exact rfl
  | 6 => exact rfl
  | 7 => exact rfl
  | k + 8 => rfl

theorem fr_sec (H : Hp) : hpA H (cd 2 H.ln_sec) = .free := (hpF_cd (by decide)).trans arA_free

theorem nw_sec (H : Hp) (x : (List (List UInt8))) : hpA (H.nw_sec x) = updF (hpA H) (cd 2 H.ln_sec) (.box (hc_sec H.ln_sec x)) := by
  refine hpF_upd (by decide) arA_new fun t' j hne => ?_
  match t' with
  | 0 => exact rfl
  | 1 => exact rfl
  | 2 => exact arA_old fun e => hne ⟨rfl, e⟩
  | 3 => exact rfl
  | 4 => exact rfl
  | 5 => exact rfl
  | 6 => exact rfl
  | 7 => exact rfl
  | k + 8 => rfl

theorem gl_mp {H : Hp} {i : Nat} {x : (List (Int × (List UInt8)))} (h : H.ge_mp i = some x) : hpA H (cd 6 i) = (mpA (fun z : Int => Value.int .i64 z) (fun l : List UInt8 => D.seq 1 (bytesD l)) x) := (hpF_cd (by decide)).trans (arM_get h)

theorem su_mp {H : Hp} {i : Nat} {x x' : (List (Int × (List UInt8)))} (h : H.ge_mp i = some x) : hpA (H.st_mp i x') = updF (hpA H) (cd 6 i) (mpA (fun z : Int => Value.int .i64 z) (fun l : List UInt8 => D.seq 1 (bytesD l)) x') := by
  refine hpF_upd (by decide) (arM_eq h) fun t' j hne => ?_
  match t' with
  | 0 => exact rfl
  | 1 => exact rfl
  | 2 => exact rfl
  | 3 => exact rfl
  | 4 => exact rfl
  | 5 => exact rfl
  | 6 => exact arM_ne fun e => hne ⟨rfl, e⟩
  | 7 => exact rfl
  | k + 8 => rfl

theorem fr_mp (H : Hp) : hpA H (cd 6 H.ln_mp) = .free := (hpF_cd (by decide)).trans arM_free

theorem nw_mp (H : Hp) (x : (List (Int × (List UInt8)))) : hpA (H.nw_mp x) = updF (hpA H) (cd 6 H.ln_mp) (mpA (fun z : Int => Value.int .i64 z) (fun l : List UInt8 => D.seq 1 (bytesD l)) x) := by
  refine hpF_upd (by decide) arM_new fun t' j hne => ?_
  match t' with
  | 0 => exact rfl
  | 1 => exact rfl
  | 2 => exact rfl
  | 3 => exact rfl
  | 4 => exact rfl
  | 5 => exact rfl
  | 6 => exact arM_old fun e => hne ⟨rfl, e⟩
  | 7 => exact rfl
  | k + 8 => rfl

theorem pure_hpA (H : Hp) : pureH (hpA H) := hpF_pure fun t i l h => by
  match t, h with
  | 0, h => exact nomatch h
  | 1, h => exact arA_pure (f := hc_dk) (fun i x y hy => by
      simp only [hc_dk, List.mem_cons, List.not_mem_nil, or_false] at hy
      rcases hy with rfl | rfl | rfl | rfl | rfl | rfl <;> first | rfl | exact ptT_loc _ _) l h
  | 2, h => exact arA_pure (f := hc_sec) (fun i x => fl_loc _ _) l h
  | 3, h => exact arA_pure (f := hc_lg) (fun i x y hy => by
      simp only [hc_lg, List.mem_cons, List.not_mem_nil, or_false] at hy
      rcases hy with rfl | rfl | rfl | rfl | rfl | rfl | rfl <;> first | rfl | exact ptT_loc _ _) l h
  | 4, h => exact nomatch h
  | 5, h => exact arA_pure (f := hc_tx) (fun i x y hy => by
      simp only [hc_tx, List.mem_cons, List.not_mem_nil, or_false] at hy
      rcases hy with rfl | rfl | rfl | rfl <;> first | rfl | exact ptT_loc _ _ | exact mpt_loc _) l h
  | 6, h => exact arM_pure h
  | 7, h => exact arA_pure (f := hc_ix) (fun i x y hy => by
      simp only [hc_ix, List.mem_cons, List.not_mem_nil, or_false] at hy
      rcases hy with rfl | rfl <;> first | rfl | exact ptT_loc _ _) l h
  | k + 8, h => exact nomatch h

theorem san_hpA (H : Hp) (c : Nat) : san (hpA H c) = hpA H c := by
  show san (hpT H (c % 64) (c / 64)) = hpT H (c % 64) (c / 64)
  generalize c % 64 = t
  match t with
  | 0 => exact rfl
  | 1 => exact san_arA _ _ _
  | 2 => exact san_arA _ _ _
  | 3 => exact san_arA _ _ _
  | 4 => exact rfl
  | 5 => exact san_arA _ _ _
  | 6 => exact san_arM _ _ _ _
  | 7 => exact san_arA _ _ _
  | k + 8 => rfl

theorem rn_hpA (H : Hp) (j c k : Nat) : rnA j c (hpA H k) = hpA H k := rn_pure (fun l e => pure_hpA H k l e) (san_hpA H k) j c
theorem hpA_e (c : Nat) : san (hpA Hp.e c) = .free := by
  rw [san_hpA]
  show hpT Hp.e (c % 64) (c / 64) = .free
  generalize c % 64 = t
  match t with
  | 0 => exact rfl
  | 1 => exact rfl
  | 2 => exact rfl
  | 3 => exact rfl
  | 4 => exact rfl
  | 5 => exact rfl
  | 6 => exact rfl
  | 7 => exact rfl
  | k + 8 => rfl

structure S_api_Write where
  Home : Int
  Data : (List UInt8)

abbrev cS_api_Write (x : S_api_Write) : List D := [.lit (.int .i64 x.Home), .seq 1 (bytesD x.Data)]

structure S_wal_entry where
  kind_ : Int
  number_ : Int
  data_ : (List UInt8)
  ok_ : Bool

/-- bastille/disk.New -/
def m_disk_New (p0 : Int) (w0 : Hp) : Option ((Option Nat) × Int × Hp) :=
bif (decide (p0 < 1)) then (some (none, 2, w0)) else (bif (decide (p0 > 16384)) then (some (none, 2, w0)) else (Option.bind (mkI 64 p0) fun x3 =>
Option.bind (mkI 64 p0) fun x5 =>
some ((some ((w0.nw_sec (List.replicate x3 ([] : (List UInt8)))).nw_sec (List.replicate x5 ([] : (List UInt8)))).ln_dk), 0, (((w0.nw_sec (List.replicate x3 ([] : (List UInt8)))).nw_sec (List.replicate x5 ([] : (List UInt8)))).nw_dk (S_disk_Disk.mk (w0.ln_sec, x3) ((w0.nw_sec (List.replicate x3 ([] : (List UInt8)))).ln_sec, x5) [] (-1) false 0)))))

/-- (*bastille/disk.Disk).is -/
def m_disk_Disk_is (p0 : (Option Nat)) (w0 : Hp) : Option Bool :=
ptM p0 (some false) (fun i2 =>
Option.bind (w0.ge_dk i2) fun x3 =>
some (decide ((x3.now_.2 : Int) > 0)))

/-- (*bastille/disk.Disk).may -/
def m_disk_Disk_may (p0 : (Option Nat)) (p1 : Int) (w0 : Hp) : Option Int :=
Option.bind (m_disk_Disk_is p0 w0) fun x1 =>
bif (!x1) then (some 1) else (ptM p0 (none) (fun i5 =>
Option.bind (w0.ge_dk i5) fun x6 =>
bif x6.off_ then (some 30) else (bif (decide (p1 < 0)) then (some 31) else (bif (decide (p1 ≥ (x6.now_.2 : Int))) then (some 31) else (some 0)))))

/-- (*bastille/disk.Disk).burn -/
def m_disk_Disk_burn (p0 : (Option Nat)) (w0 : Hp) : Option (Bool × Hp) :=
ptM p0 (none) (fun i2 =>
Option.bind (w0.ge_dk i2) fun x3 =>
bif (decide (x3.fuse_ < 0)) then (some (false, w0)) else (some ((S_disk_Disk.mk x3.kept_ x3.now_ x3.wait_ (wi (((S_disk_Disk.mk x3.kept_ x3.now_ x3.wait_ x3.fuse_ (x3.fuse_ == 0) x3.lives_).fuse_) - 1)) (x3.fuse_ == 0) x3.lives_).off_, ((w0.st_dk i2 (S_disk_Disk.mk x3.kept_ x3.now_ x3.wait_ x3.fuse_ (x3.fuse_ == 0) x3.lives_)).st_dk i2 (S_disk_Disk.mk x3.kept_ x3.now_ x3.wait_ (wi (((S_disk_Disk.mk x3.kept_ x3.now_ x3.wait_ x3.fuse_ (x3.fuse_ == 0) x3.lives_).fuse_) - 1)) (x3.fuse_ == 0) x3.lives_)))))

/-- (*bastille/disk.Disk).Write -/
def m_disk_Disk_Write (p0 : (Option Nat)) (p1 : Int) (p2 : (List UInt8)) (w0 : Hp) : Option (Int × Hp) :=
Option.bind (m_disk_Disk_may p0 p1 w0) fun x1 =>
bif (x1 != 0) then (some (x1, w0)) else (bif ((p2.length : Int) != 64) then (some (2, w0)) else (Option.bind (s2aI 64 p2) fun x5 =>
ptM p0 (none) (fun i8 =>
Option.bind (w0.ge_dk i8) fun x9 =>
Option.bind (appI 72 x9.wait_ [(S_disk_write.mk p1 x5)]) fun x11 =>
Option.bind ((w0.st_dk i8 (S_disk_Disk.mk x9.kept_ x9.now_ x11 x9.fuse_ x9.off_ x9.lives_)).ge_sec (((S_disk_Disk.mk x9.kept_ x9.now_ x11 x9.fuse_ x9.off_ x9.lives_).now_).1)) fun x13 =>
Option.bind (lenI x13.length ((S_disk_Disk.mk x9.kept_ x9.now_ x11 x9.fuse_ x9.off_ x9.lives_).now_).2) fun x15 =>
Option.bind (idx x13 p1) fun x17 =>
Option.bind (m_disk_Disk_burn (some i8) ((w0.st_dk i8 (S_disk_Disk.mk x9.kept_ x9.now_ x11 x9.fuse_ x9.off_ x9.lives_)).st_sec (((S_disk_Disk.mk x9.kept_ x9.now_ x11 x9.fuse_ x9.off_ x9.lives_).now_).1) (x13.set (Int.toNat p1) x5))) fun x19 =>
bif x19.1 then (some (30, x19.2)) else (some (0, x19.2)))))

/-- (*bastille/disk.Disk).Size -/
def m_disk_Disk_Size (p0 : (Option Nat)) (w0 : Hp) : Option Int :=
Option.bind (m_disk_Disk_is p0 w0) fun x1 =>
bif (!x1) then (some 0) else (ptM p0 (none) (fun i5 =>
Option.bind (w0.ge_dk i5) fun x6 =>
some (x6.now_.2 : Int)))

/-- bastille/wal.room -/
def m_wal_room (p0 : (Option Nat)) (p1 : Int) (w0 : Hp) : Option Bool :=
bif (decide (p1 ≥ 3)) then (Option.bind (m_disk_Disk_Size p0 w0) fun x2 =>
some (decide (p1 ≤ (wi ((wi (x2 - 2)) - 1))))) else (some false)

/-- (*bastille/disk.Disk).Flush -/
def m_disk_Disk_Flush_j1 (p0 : (Option Nat)) (y7 : Hp) : Option (Int × Hp) :=
ptM p0 (none) (fun i9 =>
Option.bind (y7.ge_dk i9) fun x10 =>
some (0, (y7.st_dk i9 (S_disk_Disk.mk x10.kept_ x10.now_ [] x10.fuse_ x10.off_ x10.lives_))))

def m_disk_Disk_Flush_l2 (x14 : S_disk_Disk) (i13 : Nat) (p0 : (Option Nat)) : Nat → Int → Hp → Option (Int × Hp)
  | 0, _, _ => none
  | nl2 + 1, z16, z17 =>
    bif (decide (z16 < (x14.wait_.length : Int))) then (Option.bind (idx x14.wait_ z16) fun x19 =>
    Option.bind (z17.ge_dk i13) fun x21 =>
    Option.bind (z17.ge_sec x21.kept_.1) fun x23 =>
    Option.bind (lenI x23.length x21.kept_.2) fun x25 =>
    Option.bind (idx x23 x19.n_) fun x27 =>
    (m_disk_Disk_Flush_l2 x14 i13 p0 nl2) (wi (z16 + 1)) (z17.st_sec x21.kept_.1 (x23.set (Int.toNat x19.n_) x19.b_))) else (m_disk_Disk_Flush_j1 p0 z17)

def m_disk_Disk_Flush (p0 : (Option Nat)) (w0 : Hp) : Option (Int × Hp) :=
Option.bind (m_disk_Disk_may p0 0 w0) fun x1 =>
bif (x1 != 0) then (some (x1, w0)) else (Option.bind (m_disk_Disk_burn p0 w0) fun x4 =>
bif x4.1 then (some (30, x4.2)) else (ptM p0 (none) (fun i13 =>
Option.bind (x4.2.ge_dk i13) fun x14 =>
m_disk_Disk_Flush_l2 x14 i13 p0 (x14.wait_.length + 1) 0 x4.2)))

/-- bastille/wal.put -/
def m_wal_put_v0 (p0 : (List UInt8)) (o0 n0 : Nat) (p1 : Int) : Option (List UInt8) :=
Option.bind (m_word_Put p1 ((n0 : Nat) : Int)) fun x1 =>
Option.bind (cpyI p0 o0 n0 x1.1) fun x3 =>
Option.bind (lenI x3.length p0.length) fun x5 =>
some x3

/-- bastille/wal.slotBytes -/
def m_wal_slotBytes (p0 : Int) (p1 : Int) : Option (List UInt8) :=
Option.bind (mkI 1 64) fun x1 =>
Option.bind (vcut x1 0 8) fun x3 =>
Option.bind (m_wal_put_v0 (List.replicate x1 (0 : UInt8)) (0 + Int.toNat 0 * 1) (Int.toNat 8 - Int.toNat 0) p0) fun x5 =>
Option.bind (lenI x5.length (List.replicate x1 (0 : UInt8)).length) fun x7 =>
Option.bind (vcut x1 8 12) fun x9 =>
Option.bind (m_wal_put_v0 x5 (0 + Int.toNat 8 * 1) (Int.toNat 12 - Int.toNat 8) p1) fun x11 =>
Option.bind (lenI x11.length x5.length) fun x13 =>
Option.bind (vcut x1 56 (x1 : Int)) fun x15 =>
Option.bind (m_wal_put_v0 x11 (0 + Int.toNat 56 * 1) (Int.toNat (x1 : Int) - Int.toNat 56) p0) fun x17 =>
Option.bind (lenI x17.length x11.length) fun x19 =>
some x17

/-- bastille/wal.Format -/
def m_wal_Format_j1 (p0 : (Option Nat)) (p1 : Int) (y7 : Hp) : Option (Int × Hp) :=
Option.bind (m_disk_Disk_Flush p0 y7) fun x8 =>
bif (x8.1 != 0) then (some (x8.1, x8.2)) else (Option.bind (m_wal_slotBytes 1 p1) fun x11 =>
Option.bind (m_disk_Disk_Write p0 0 x11 x8.2) fun x13 =>
bif (x13.1 != 0) then (some (x13.1, x13.2)) else (Option.bind (m_disk_Disk_Flush p0 x13.2) fun x16 =>
some (x16.1, x16.2)))

def m_wal_Format_l2 (p1 : Int) (p0 : (Option Nat)) : Nat → Int → Hp → Option (Int × Hp)
  | 0, _, _ => none
  | nl2 + 1, z18, z19 =>
    bif (decide (z18 < (wi (2 + p1)))) then (Option.bind (mkI 1 64) fun x21 =>
    Option.bind (m_disk_Disk_Write p0 z18 (List.replicate x21 (0 : UInt8)) z19) fun x23 =>
    bif (x23.1 != 0) then (some (x23.1, x23.2)) else ((m_wal_Format_l2 p1 p0 nl2) (wi (z18 + 1)) x23.2)) else (m_wal_Format_j1 p0 p1 z19)

def m_wal_Format (p0 : (Option Nat)) (p1 : Int) (w0 : Hp) : Option (Int × Hp) :=
Option.bind (m_disk_Disk_Size p0 w0) fun x1 =>
bif (x1 == 0) then (some (1, w0)) else (Option.bind (m_wal_room p0 p1 w0) fun x4 =>
bif (!x4) then (some (2, w0)) else (m_wal_Format_l2 p1 p0 (Int.toNat (wi (2 + p1)) + 1) 1 w0))

/-- (*bastille/disk.Disk).Off -/
def m_disk_Disk_Off (p0 : (Option Nat)) (w0 : Hp) : Option Bool :=
Option.bind (m_disk_Disk_is p0 w0) fun x1 =>
bif x1 then (ptM p0 (none) (fun i5 =>
Option.bind (w0.ge_dk i5) fun x6 =>
some x6.off_)) else (some false)

/-- (*bastille/disk.Disk).Lives -/
def m_disk_Disk_Lives (p0 : (Option Nat)) (w0 : Hp) : Option Int :=
Option.bind (m_disk_Disk_is p0 w0) fun x1 =>
bif (!x1) then (some 0) else (ptM p0 (none) (fun i5 =>
Option.bind (w0.ge_dk i5) fun x6 =>
some x6.lives_))

/-- (*bastille/disk.Disk).Read -/
def m_disk_Disk_Read (p0 : (Option Nat)) (p1 : Int) (w0 : Hp) : Option ((List UInt8) × Int) :=
Option.bind (m_disk_Disk_may p0 p1 w0) fun x1 =>
bif (x1 != 0) then (some ([], x1)) else (ptM p0 (none) (fun i5 =>
Option.bind (w0.ge_dk i5) fun x6 =>
Option.bind (w0.ge_sec x6.now_.1) fun x8 =>
Option.bind (lenI x8.length x6.now_.2) fun x10 =>
Option.bind (idx x8 p1) fun x12 =>
some ((padA (0 : UInt8) x12 0 64), 0)))

/-- bastille/word.Get -/
def m_word_Get_j1 (y3 : Int) : Option (Int × Int) :=
bif (decide (y3 > 4611686018427387904)) then (some (0, 11)) else (some ((wi y3), 0))

def m_word_Get_l2 (p0 : (List UInt8)) : Nat → Int → Int → Option (Int × Int)
  | 0, _, _ => none
  | nl2 + 1, z5, z6 =>
    bif (decide (z6 < (p0.length : Int))) then (Option.bind (idx p0 z6) fun x8 =>
    (m_word_Get_l2 p0 nl2) (IntKind.u64.wrap ((((BitVec.ofInt IntKind.u64.bits (IntKind.u64.wrap (z5 * 2 ^ 8))) ||| (BitVec.ofInt IntKind.u64.bits (x8.toNat : Int))).toNat : Nat) : Int)) (wi (z6 + 1))) else (m_word_Get_j1 z5)

def m_word_Get (p0 : (List UInt8)) : Option (Int × Int) :=
bif ((p0.length : Int) == 0) then (some (0, 10)) else (bif (decide ((p0.length : Int) > 8)) then (some (0, 2)) else (m_word_Get_l2 p0 (p0.length + 1) 0 0))

/-- slices.IndexFunc[[]byte,byte] -/
def m_slices_IndexFunc_byte_l1 (p0 : (List UInt8)) (p1 : (UInt8 → Option Bool)) : Nat → Int → Option Int
  | 0, _ => none
  | nl1 + 1, z1 =>
    bif (decide (z1 < (p0.length : Int))) then (Option.bind (idx p0 z1) fun x3 =>
    Option.bind (p1 x3) fun x5 =>
    bif x5 then (some z1) else ((m_slices_IndexFunc_byte_l1 p0 p1 nl1) (wi (z1 + 1)))) else (some (-1))

def m_slices_IndexFunc_byte (p0 : (List UInt8)) (p1 : (UInt8 → Option Bool)) : Option Int :=
m_slices_IndexFunc_byte_l1 p0 p1 (p0.length + 1) 0

/-- slices.ContainsFunc[[]byte,byte] -/
def m_slices_ContainsFunc_byte (p0 : (List UInt8)) (p1 : (UInt8 → Option Bool)) : Option Bool :=
Option.bind (m_slices_IndexFunc_byte p0 p1) fun x1 =>
some (decide (x1 ≥ 0))

/-- bastille/wal.noughts$1 -/
def m_wal_noughts_c1 (p0 : UInt8) : Option Bool :=
some ((p0.toNat : Int) != 0)

/-- bastille/wal.noughts -/
def m_wal_noughts (p0 : (List UInt8)) : Option Bool :=
Option.bind (m_slices_ContainsFunc_byte p0 m_wal_noughts_c1) fun x1 =>
some (!x1)

/-- bastille/wal.readSlot -/
def m_wal_readSlot (p0 : (Option Nat)) (p1 : Int) (w0 : Hp) : Option (Int × Int × Bool) :=
Option.bind (m_disk_Disk_Read p0 p1 w0) fun x1 =>
bif (x1.2 != 0) then (some (0, 0, false)) else (Option.bind (cutI x1.1 0 8) fun x4 =>
Option.bind (m_word_Get x4) fun x6 =>
Option.bind (cutI x1.1 56 (x1.1.length : Int)) fun x8 =>
Option.bind (m_word_Get x8) fun x10 =>
Option.bind (cutI x1.1 8 12) fun x12 =>
Option.bind (m_word_Get x12) fun x14 =>
bif (x6.2 != 0) then (some (0, 0, false)) else (bif (x10.2 != 0) then (some (0, 0, false)) else (bif (x14.2 != 0) then (some (0, 0, false)) else (bif (x6.1 != x10.1) then (some (0, 0, false)) else (bif (decide (x6.1 < 1)) then (some (0, 0, false)) else (bif (decide (x6.1 > 2305843009213693952)) then (some (0, 0, false)) else (Option.bind (m_wal_room p0 x14.1 w0) fun x22 =>
bif (!x22) then (some (0, 0, false)) else (Option.bind (cutI x1.1 12 56) fun x25 =>
Option.bind (m_wal_noughts x25) fun x27 =>
bif (!x27) then (some (0, 0, false)) else (some (x6.1, x14.1, true))))))))))

/-- (*bastille/wal.Log).home -/
def m_wal_Log_home (p0 : (Option Nat)) (p1 : Int) (w0 : Hp) : Option Int :=
ptM p0 (none) (fun i2 =>
Option.bind (w0.ge_lg i2) fun x3 =>
some (wi ((wi (2 + x3.size_)) + p1)))

/-- (*bastille/wal.Log).redo -/
def m_wal_Log_redo_l1 (p1 : (List S_api_Write)) (p0 : (Option Nat)) : Nat → Int → Hp → Option (Int × Hp)
  | 0, _, _ => none
  | nl1 + 1, z1, z2 =>
    bif (decide (z1 < (p1.length : Int))) then (Option.bind (idx p1 z1) fun x4 =>
    ptM p0 (none) (fun i7 =>
    Option.bind (z2.ge_lg i7) fun x8 =>
    Option.bind (m_wal_Log_home (some i7) x4.Home z2) fun x10 =>
    Option.bind (m_disk_Disk_Write x8.d_ x10 x4.Data z2) fun x12 =>
    bif (x12.1 != 0) then (some (x12.1, x12.2)) else ((m_wal_Log_redo_l1 p1 p0 nl1) (wi (z1 + 1)) x12.2))) else (some (0, z2))

def m_wal_Log_redo (p0 : (Option Nat)) (p1 : (List S_api_Write)) (w0 : Hp) : Option (Int × Hp) :=
m_wal_Log_redo_l1 p1 p0 (p1.length + 1) 0 w0

/-- (*bastille/wal.Log).Homes -/
def m_wal_Log_Homes (p0 : (Option Nat)) (w0 : Hp) : Option Int :=
ptM p0 (some 0) (fun i2 =>
Option.bind (w0.ge_lg i2) fun x3 =>
ptM x3.d_ (some 0) (fun i6 =>
Option.bind (m_disk_Disk_Size x3.d_ w0) fun x7 =>
some (wi ((wi (x7 - 2)) - x3.size_))))

/-- bastille/wal.Sum -/
def m_wal_Sum_j1 (y1 : Int) : Option Int :=
some (IntKind.u32.wrap ((((BitVec.ofInt IntKind.u32.bits 4294967295) ^^^ (BitVec.ofInt IntKind.u32.bits y1)).toNat : Nat) : Int))

def m_wal_Sum_l4 (kl3 : Int → Int → Option Int) (z8 : Int) : Nat → Int → Int → Option Int
  | 0, _, _ => none
  | nl4 + 1, z12, z13 =>
    bif (decide (z13 < 8)) then (bif ((IntKind.u32.wrap ((((BitVec.ofInt IntKind.u32.bits z12) &&& (BitVec.ofInt IntKind.u32.bits 1)).toNat : Nat) : Int)) == 1) then ((m_wal_Sum_l4 kl3 z8 nl4) (IntKind.u32.wrap ((((BitVec.ofInt IntKind.u32.bits (Int.fdiv z12 (2 ^ 1))) ^^^ (BitVec.ofInt IntKind.u32.bits 3988292384)).toNat : Nat) : Int)) (wi (z13 + 1))) else ((m_wal_Sum_l4 kl3 z8 nl4) (Int.fdiv z12 (2 ^ 1)) (wi (z13 + 1)))) else (kl3 z12 (wi (z8 + 1)))

def m_wal_Sum_l3 (kl2 : Int → Int → Option Int) (x5 : (List UInt8)) (z3 : Int) : Nat → Int → Int → Option Int
  | 0, _, _ => none
  | nl3 + 1, z7, z8 =>
    bif (decide (z8 < (x5.length : Int))) then (Option.bind (idx x5 z8) fun x10 =>
    m_wal_Sum_l4 (m_wal_Sum_l3 kl2 x5 z3 nl3) z8 (Int.toNat 8 + 1) (IntKind.u32.wrap ((((BitVec.ofInt IntKind.u32.bits z7) ^^^ (BitVec.ofInt IntKind.u32.bits (x10.toNat : Int))).toNat : Nat) : Int)) 0) else (kl2 z7 (wi (z3 + 1)))

def m_wal_Sum_l2 (p0 : (List (List UInt8))) : Nat → Int → Int → Option Int
  | 0, _, _ => none
  | nl2 + 1, z2, z3 =>
    bif (decide (z3 < (p0.length : Int))) then (Option.bind (idx p0 z3) fun x5 =>
    m_wal_Sum_l3 (m_wal_Sum_l2 p0 nl2) x5 z3 (x5.length + 1) z2 0) else (m_wal_Sum_j1 z2)

def m_wal_Sum (p0 : (List (List UInt8))) : Option Int :=
m_wal_Sum_l2 p0 (p0.length + 1) 4294967295 0

/-- (bastille/wal.entry).bytes -/
def m_wal_entry_bytes (p0 : S_wal_entry) (p1 : Int) : Option (List UInt8) :=
Option.bind (mkI 1 64) fun x1 =>
Option.bind (idx (List.replicate x1 (0 : UInt8)) 0) fun x3 =>
Option.bind (vcut x1 1 5) fun x5 =>
Option.bind (m_wal_put_v0 ((List.replicate x1 (0 : UInt8)).set (Int.toNat 0) (U8 p0.kind_)) (0 + Int.toNat 1 * 1) (Int.toNat 5 - Int.toNat 1) p0.number_) fun x7 =>
Option.bind (lenI x7.length ((List.replicate x1 (0 : UInt8)).set (Int.toNat 0) (U8 p0.kind_)).length) fun x9 =>
Option.bind (vcut x1 5 37) fun x11 =>
Option.bind (cpyI x7 (0 + Int.toNat 5 * 1) (Int.toNat 37 - Int.toNat 5) p0.data_) fun x13 =>
Option.bind (lenI x13.length x7.length) fun x15 =>
Option.bind (vcut x1 56 (x1 : Int)) fun x17 =>
Option.bind (m_wal_put_v0 x13 (0 + Int.toNat 56 * 1) (Int.toNat (x1 : Int) - Int.toNat 56) p1) fun x19 =>
Option.bind (lenI x19.length x13.length) fun x21 =>
Option.bind (vcut x1 52 56) fun x23 =>
Option.bind (vcut x1 0 52) fun x25 =>
Option.bind (vcut x1 56 (x1 : Int)) fun x27 =>
Option.bind (pieceI x19 (0 + Int.toNat 0 * 1) (Int.toNat 52 - Int.toNat 0)) fun x29 =>
Option.bind (pieceI x19 (0 + Int.toNat 56 * 1) (Int.toNat (x1 : Int) - Int.toNat 56)) fun x31 =>
Option.bind (m_wal_Sum [x29, x31]) fun x33 =>
Option.bind (m_wal_put_v0 x19 (0 + Int.toNat 52 * 1) (Int.toNat 56 - Int.toNat 52) (wi x33)) fun x35 =>
Option.bind (lenI x35.length x19.length) fun x37 =>
some x35

/-- slices.Equal[[]byte,byte] -/
def m_slices_Equal_byte_l1 (p0 : (List UInt8)) (p1 : (List UInt8)) : Nat → Int → Option Bool
  | 0, _ => none
  | nl1 + 1, z2 =>
    bif (decide (z2 < (p0.length : Int))) then (Option.bind (idx p0 z2) fun x4 =>
    Option.bind (idx p1 z2) fun x6 =>
    bif ((x4.toNat : Int) != (x6.toNat : Int)) then (some false) else ((m_slices_Equal_byte_l1 p0 p1 nl1) (wi (z2 + 1)))) else (some true)

def m_slices_Equal_byte (p0 : (List UInt8)) (p1 : (List UInt8)) : Option Bool :=
bif ((p0.length : Int) != (p1.length : Int)) then (some false) else (m_slices_Equal_byte_l1 p0 p1 (p0.length + 1) 0)

/-- (*bastille/wal.Log).at -/
def m_wal_Log_at (p0 : (Option Nat)) (p1 : Int) (w0 : Hp) : Option S_wal_entry :=
ptM p0 (none) (fun i2 =>
Option.bind (w0.ge_lg i2) fun x3 =>
bif (decide (p1 ≥ x3.size_)) then (some (S_wal_entry.mk 0 0 [] false)) else (Option.bind (m_disk_Disk_Read x3.d_ (wi (2 + p1)) w0) fun x6 =>
bif (x6.2 != 0) then (some (S_wal_entry.mk 0 0 [] false)) else (Option.bind (idx x6.1 0) fun x9 =>
Option.bind (cutI x6.1 5 37) fun x11 =>
Option.bind (cutI x6.1 1 5) fun x13 =>
Option.bind (m_word_Get x13) fun x15 =>
Option.bind (m_wal_entry_bytes (S_wal_entry.mk (x9.toNat : Int) x15.1 x11 false) (wi (x3.base_ + p1))) fun x17 =>
Option.bind (m_slices_Equal_byte x6.1 x17) fun x19 =>
some (S_wal_entry.mk (x9.toNat : Int) x15.1 x11 x19))))

/-- slices.Grow[[]byte,byte], of nil -/
def m_slices_Grow_byte_n0 (p1 : Int) : Option (List UInt8) :=
bif (decide (p1 < 0)) then (none) else (bif (decide ((wi (p1 - (wi (0 - 0)))) > 0)) then (Option.bind (growI 1 (wi (p1 - (wi (0 - 0))))) fun x3 =>
some []) else (some []))

/-- slices.Concat[[]byte,byte] -/
def m_slices_Concat_byte_l2 (p0 : (List (List UInt8))) : Nat → (List UInt8) → Int → Option (List UInt8)
  | 0, _, _ => none
  | nl2 + 1, z4, z5 =>
    bif (decide (z5 < (p0.length : Int))) then (Option.bind (idx p0 z5) fun x7 =>
    Option.bind (appI 1 z4 x7) fun x9 =>
    (m_slices_Concat_byte_l2 p0 nl2) x9 (wi (z5 + 1))) else (some z4)

def m_slices_Concat_byte_j1 (p0 : (List (List UInt8))) (y1 : Int) : Option (List UInt8) :=
Option.bind (m_slices_Grow_byte_n0 y1) fun x2 =>
m_slices_Concat_byte_l2 p0 (p0.length + 1) x2 0

def m_slices_Concat_byte_l3 (p0 : (List (List UInt8))) : Nat → Int → Int → Option (List UInt8)
  | 0, _, _ => none
  | nl3 + 1, z11, z12 =>
    bif (decide (z12 < (p0.length : Int))) then (Option.bind (idx p0 z12) fun x14 =>
    bif (decide ((wi (z11 + (x14.length : Int))) < 0)) then (none) else ((m_slices_Concat_byte_l3 p0 nl3) (wi (z11 + (x14.length : Int))) (wi (z12 + 1)))) else (m_slices_Concat_byte_j1 p0 z11)

def m_slices_Concat_byte (p0 : (List (List UInt8))) : Option (List UInt8) :=
m_slices_Concat_byte_l3 p0 (p0.length + 1) 0 0

/-- (*bastille/wal.Log).one -/
def m_wal_Log_one_j2 (kl1 : (List S_api_Write) → Int → Option ((List S_api_Write) × Int)) (p0 : (Option Nat)) (z2 : Int) (w0 : Hp) (x3 : S_wal_entry) (z1 : (List S_api_Write)) (y5 : (Option Nat)) (y6 : Int) (y7 : Bool) : Option ((List S_api_Write) × Int) :=
Option.bind (m_wal_Log_at p0 (wi (z2 + 1)) w0) fun x8 =>
bif (!x8.ok_) then (some ([], 0)) else (bif (x8.kind_ != 2) then (some ([], 0)) else (bif (x8.number_ != x3.number_) then (some ([], 0)) else (Option.bind (m_slices_Concat_byte [x3.data_, x8.data_]) fun x13 =>
Option.bind (appI 32 z1 [(S_api_Write.mk x3.number_ x13)]) fun x15 =>
kl1 x15 (wi (z2 + 2)))))

def m_wal_Log_one_j3 (kl1 : (List S_api_Write) → Int → Option ((List S_api_Write) × Int)) (z1 : (List S_api_Write)) (z2 : Int) (p1 : Int) (x3 : S_wal_entry) (p0 : (Option Nat)) (w0 : Hp) (y18 : Bool) : Option ((List S_api_Write) × Int) :=
bif y18 then (some (z1, (wi ((wi (z2 + 1)) - p1)))) else (bif (x3.kind_ != 1) then (some ([], 0)) else (ptM p0 (Option.bind (m_wal_Log_Homes none w0) fun x23 =>
bif (decide (x3.number_ ≥ x23)) then (some ([], 0)) else (m_wal_Log_one_j2 kl1 p0 z2 w0 x3 z1 none x23 (decide (x3.number_ ≥ x23)))) (fun i22 =>
Option.bind (m_wal_Log_Homes (some i22) w0) fun x26 =>
bif (decide (x3.number_ ≥ x26)) then (some ([], 0)) else (m_wal_Log_one_j2 kl1 p0 z2 w0 x3 z1 (some i22) x26 (decide (x3.number_ ≥ x26))))))

def m_wal_Log_one_l1 (p0 : (Option Nat)) (w0 : Hp) (p1 : Int) : Nat → (List S_api_Write) → Int → Option ((List S_api_Write) × Int)
  | 0, _, _ => none
  | nl1 + 1, z1, z2 =>
    Option.bind (m_wal_Log_at p0 z2 w0) fun x3 =>
    bif (!x3.ok_) then (some ([], 0)) else (bif (x3.kind_ == 3) then (bif (decide ((z1.length : Int) > 0)) then (bif (x3.number_ == (z1.length : Int)) then (Option.bind (m_wal_noughts x3.data_) fun x32 =>
    m_wal_Log_one_j3 (m_wal_Log_one_l1 p0 w0 p1 nl1) z1 z2 p1 x3 p0 w0 x32) else (m_wal_Log_one_j3 (m_wal_Log_one_l1 p0 w0 p1 nl1) z1 z2 p1 x3 p0 w0 false)) else (m_wal_Log_one_j3 (m_wal_Log_one_l1 p0 w0 p1 nl1) z1 z2 p1 x3 p0 w0 false)) else (m_wal_Log_one_j3 (m_wal_Log_one_l1 p0 w0 p1 nl1) z1 z2 p1 x3 p0 w0 false))

def m_wal_Log_one (p0 : (Option Nat)) (p1 : Int) (w0 : Hp) : Option ((List S_api_Write) × Int) :=
m_wal_Log_one_l1 p0 w0 p1 (16400) [] p1

/-- (*bastille/wal.Log).says -/
def m_wal_Log_says_l1 (p0 : (Option Nat)) (w0 : Hp) : Nat → (List S_api_Write) → Int → Option (List S_api_Write)
  | 0, _, _ => none
  | nl1 + 1, z1, z2 =>
    Option.bind (m_wal_Log_one p0 z2 w0) fun x3 =>
    bif (x3.2 == 0) then (some z1) else (Option.bind (appI 32 z1 x3.1) fun x6 =>
    (m_wal_Log_says_l1 p0 w0 nl1) x6 (wi (z2 + x3.2)))

def m_wal_Log_says (p0 : (Option Nat)) (w0 : Hp) : Option (List S_api_Write) :=
m_wal_Log_says_l1 p0 w0 (16400) [] 0

/-- (*bastille/wal.Log).alive -/
def m_wal_Log_alive_j1 (p0 : (Option Nat)) (w0 : Hp) (y1 : Bool) : Option Int :=
bif y1 then (some 1) else (ptM p0 (none) (fun i4 =>
Option.bind (w0.ge_lg i4) fun x5 =>
Option.bind (m_disk_Disk_Off x5.d_ w0) fun x7 =>
bif x7 then (some 30) else (Option.bind (m_disk_Disk_Lives x5.d_ w0) fun x10 =>
bif (x10 != x5.life_) then (some 30) else (some 0))))

def m_wal_Log_alive (p0 : (Option Nat)) (w0 : Hp) : Option Int :=
ptM p0 (m_wal_Log_alive_j1 p0 w0 true) (fun i14 =>
Option.bind (w0.ge_lg i14) fun x15 =>
ptM x15.d_ (m_wal_Log_alive_j1 p0 w0 true) (fun i18 =>
m_wal_Log_alive_j1 p0 w0 false))

/-- (*bastille/wal.Log).raise -/
def m_wal_Log_raise (p0 : (Option Nat)) (w0 : Hp) : Option (Int × Hp) :=
ptM p0 (none) (fun i2 =>
Option.bind (w0.ge_lg i2) fun x3 =>
Option.bind (m_wal_slotBytes (wi (x3.base_ + x3.size_)) x3.size_) fun x5 =>
Option.bind (m_disk_Disk_Write x3.d_ (wi (1 - x3.slot_)) x5 w0) fun x7 =>
bif (x7.1 != 0) then (some (x7.1, x7.2)) else (Option.bind (x7.2.ge_lg i2) fun x10 =>
Option.bind (m_disk_Disk_Flush x10.d_ x7.2) fun x12 =>
bif (x12.1 != 0) then (some (x12.1, x12.2)) else (Option.bind (x12.2.ge_lg i2) fun x15 =>
some (0, (((x12.2.st_lg i2 (S_wal_Log.mk x15.d_ x15.size_ x15.base_ (wi (1 - x3.slot_)) x15.used_ x15.life_ x15.commits_)).st_lg i2 (S_wal_Log.mk x15.d_ x15.size_ x15.base_ (wi (1 - x3.slot_)) 0 x15.life_ x15.commits_)).st_lg i2 (S_wal_Log.mk x15.d_ x15.size_ (wi (((S_wal_Log.mk x15.d_ x15.size_ x15.base_ (wi (1 - x3.slot_)) 0 x15.life_ x15.commits_).base_) + ((S_wal_Log.mk x15.d_ x15.size_ x15.base_ (wi (1 - x3.slot_)) 0 x15.life_ x15.commits_).size_))) (wi (1 - x3.slot_)) 0 x15.life_ x15.commits_))))))

/-- (*bastille/wal.Log).Checkpoint -/
def m_wal_Log_Checkpoint (p0 : (Option Nat)) (w0 : Hp) : Option (Int × Hp) :=
Option.bind (m_wal_Log_alive p0 w0) fun x1 =>
bif (x1 != 0) then (some (x1, w0)) else (ptM p0 (none) (fun i5 =>
Option.bind (w0.ge_lg i5) fun x6 =>
bif (decide (x6.base_ > (wi (2305843009213693952 - x6.size_)))) then (some (3, w0)) else (Option.bind (m_disk_Disk_Flush x6.d_ w0) fun x9 =>
bif (x9.1 != 0) then (some (x9.1, x9.2)) else (Option.bind (m_wal_Log_raise (some i5) x9.2) fun x12 =>
some (x12.1, x12.2)))))

/-- bastille/wal.Open -/
def m_wal_Open_j1 (w0 : Hp) (y11 : Hp) : Option ((Option Nat) × Int × Hp) :=
Option.bind (y11.ge_lg w0.ln_lg) fun x12 =>
bif (x12.base_ == 0) then (some (none, 11, y11)) else (bif (decide (x12.base_ > (wi (2305843009213693952 - x12.size_)))) then (some (none, 3, y11)) else (Option.bind (m_wal_Log_says (some w0.ln_lg) y11) fun x16 =>
Option.bind (m_wal_Log_redo (some w0.ln_lg) x16 y11) fun x18 =>
bif (x18.1 != 0) then (some (none, x18.1, x18.2)) else (Option.bind (m_wal_Log_Checkpoint (some w0.ln_lg) x18.2) fun x21 =>
bif (x21.1 != 0) then (some (none, x21.1, x21.2)) else (some ((some w0.ln_lg), 0, x21.2)))))

def m_wal_Open_j3 (kl2 : Int → Hp → Option ((Option Nat) × Int × Hp)) (z25 : Hp) (w0 : Hp) (z24 : Int) (x27 : (Int × Int × Bool)) (y29 : Bool) : Option ((Option Nat) × Int × Hp) :=
bif y29 then (Option.bind (z25.ge_lg w0.ln_lg) fun x31 =>
kl2 (wi (z24 + 1)) (((z25.st_lg w0.ln_lg (S_wal_Log.mk x31.d_ x31.size_ x27.1 x31.slot_ x31.used_ x31.life_ x31.commits_)).st_lg w0.ln_lg (S_wal_Log.mk x31.d_ x27.2.1 x27.1 x31.slot_ x31.used_ x31.life_ x31.commits_)).st_lg w0.ln_lg (S_wal_Log.mk x31.d_ x27.2.1 x27.1 z24 x31.used_ x31.life_ x31.commits_))) else (kl2 (wi (z24 + 1)) z25)

def m_wal_Open_l2 (w0 : Hp) : Nat → Int → Hp → Option ((Option Nat) × Int × Hp)
  | 0, _, _ => none
  | nl2 + 1, z24, z25 =>
    bif (decide (z24 < 2)) then (Option.bind (m_wal_readSlot none z24 z25) fun x27 =>
    bif x27.2.2 then (Option.bind (z25.ge_lg w0.ln_lg) fun x34 =>
    m_wal_Open_j3 (m_wal_Open_l2 w0 nl2) z25 w0 z24 x27 (decide (x27.1 > x34.base_))) else (m_wal_Open_j3 (m_wal_Open_l2 w0 nl2) z25 w0 z24 x27 false)) else (m_wal_Open_j1 w0 z25)

def m_wal_Open_j4 (w0 : Hp) (y38 : Hp) : Option ((Option Nat) × Int × Hp) :=
Option.bind (y38.ge_lg w0.ln_lg) fun x39 =>
bif (x39.base_ == 0) then (some (none, 11, y38)) else (bif (decide (x39.base_ > (wi (2305843009213693952 - x39.size_)))) then (some (none, 3, y38)) else (Option.bind (m_wal_Log_says (some w0.ln_lg) y38) fun x43 =>
Option.bind (m_wal_Log_redo (some w0.ln_lg) x43 y38) fun x45 =>
bif (x45.1 != 0) then (some (none, x45.1, x45.2)) else (Option.bind (m_wal_Log_Checkpoint (some w0.ln_lg) x45.2) fun x48 =>
bif (x48.1 != 0) then (some (none, x48.1, x48.2)) else (some ((some w0.ln_lg), 0, x48.2)))))

def m_wal_Open_j6 (kl5 : Int → Hp → Option ((Option Nat) × Int × Hp)) (z52 : Hp) (w0 : Hp) (z51 : Int) (x54 : (Int × Int × Bool)) (y56 : Bool) : Option ((Option Nat) × Int × Hp) :=
bif y56 then (Option.bind (z52.ge_lg w0.ln_lg) fun x58 =>
kl5 (wi (z51 + 1)) (((z52.st_lg w0.ln_lg (S_wal_Log.mk x58.d_ x58.size_ x54.1 x58.slot_ x58.used_ x58.life_ x58.commits_)).st_lg w0.ln_lg (S_wal_Log.mk x58.d_ x54.2.1 x54.1 x58.slot_ x58.used_ x58.life_ x58.commits_)).st_lg w0.ln_lg (S_wal_Log.mk x58.d_ x54.2.1 x54.1 z51 x58.used_ x58.life_ x58.commits_))) else (kl5 (wi (z51 + 1)) z52)

def m_wal_Open_l5 (i8 : Nat) (w0 : Hp) : Nat → Int → Hp → Option ((Option Nat) × Int × Hp)
  | 0, _, _ => none
  | nl5 + 1, z51, z52 =>
    bif (decide (z51 < 2)) then (Option.bind (m_wal_readSlot (some i8) z51 z52) fun x54 =>
    bif x54.2.2 then (Option.bind (z52.ge_lg w0.ln_lg) fun x61 =>
    m_wal_Open_j6 (m_wal_Open_l5 i8 w0 nl5) z52 w0 z51 x54 (decide (x54.1 > x61.base_))) else (m_wal_Open_j6 (m_wal_Open_l5 i8 w0 nl5) z52 w0 z51 x54 false)) else (m_wal_Open_j4 w0 z52)

def m_wal_Open (p0 : (Option Nat)) (w0 : Hp) : Option ((Option Nat) × Int × Hp) :=
Option.bind (m_disk_Disk_Size p0 w0) fun x1 =>
bif (x1 == 0) then (some (none, 1, w0)) else (Option.bind (m_disk_Disk_Off p0 w0) fun x4 =>
bif x4 then (some (none, 30, w0)) else (ptM p0 (Option.bind (m_disk_Disk_Lives none w0) fun x9 =>
m_wal_Open_l2 w0 (Int.toNat 2 + 1) 0 (w0.nw_lg (S_wal_Log.mk none 0 0 0 0 x9 0))) (fun i8 =>
Option.bind (m_disk_Disk_Lives (some i8) w0) fun x36 =>
m_wal_Open_l5 i8 w0 (Int.toNat 2 + 1) 0 (w0.nw_lg (S_wal_Log.mk (some i8) 0 0 0 0 x36 0)))))

/-- (*bastille/wal.Log).Read -/
def m_wal_Log_Read (p0 : (Option Nat)) (p1 : Int) (w0 : Hp) : Option ((List UInt8) × Int) :=
Option.bind (m_wal_Log_alive p0 w0) fun x1 =>
bif (x1 != 0) then (some ([], x1)) else (bif (decide (p1 < 0)) then (some ([], 31)) else (Option.bind (m_wal_Log_Homes p0 w0) fun x5 =>
bif (decide (p1 ≥ x5)) then (some ([], 31)) else (ptM p0 (none) (fun i9 =>
Option.bind (w0.ge_lg i9) fun x10 =>
Option.bind (m_wal_Log_home (some i9) p1 w0) fun x12 =>
Option.bind (m_disk_Disk_Read x10.d_ x12 w0) fun x14 =>
some (x14.1, x14.2)))))

end Go.Proofs.Ytjomnccladjpgaa

/-
  The heap holds nothing of kind 63.
-/
namespace Go.Proofs.Ytjomnccladjpgaa
open Go Go.RowKit
set_option linter.unusedVariables false

theorem nz_d {x : D} : nzT (.d x) = true ∧ ∀ i, T.d x = .mpt i → OB ≤ i := ⟨rfl, fun _ e => nomatch e⟩
theorem nz_own {E k : Nat} {l : List (List D)} : nzT (.own E k l) = true ∧ ∀ i, T.own E k l = .mpt i → OB ≤ i := ⟨rfl, fun _ e => nomatch e⟩
theorem nz_pt {t : Nat} (ht : t < 63) (p : Option Nat) : nzT (ptT t p) = true ∧ ∀ i, ptT t p = .mpt i → OB ≤ i := by
  cases p with
  | none => exact nz_d
  | some j =>
    refine ⟨?_, fun _ e => nomatch e⟩
    show (!(cd t j % 64 == 63)) = true
    rw [cd_mod (by omega)]
    simp
    omega
theorem nz_hvw {t : Nat} (ht : t < 63) {j off E k n : Nat} : nzT (.hvw (cd t j) off E k n) = true ∧ ∀ i, T.hvw (cd t j) off E k n = .mpt i → OB ≤ i := by
  refine ⟨?_, fun _ e => nomatch e⟩
  show (!(cd t j % 64 == 63)) = true
  rw [cd_mod (by omega)]
  simp
  omega
theorem nz_mpt {t : Nat} (ht : t < 63) {j : Nat} : nzT (.mpt (OB + cd t j)) = true ∧ ∀ i, T.mpt (OB + cd t j) = .mpt i → OB ≤ i := by
  refine ⟨?_, fun i e => by injection e with e; omega⟩
  show (!(Nat.ble OB (OB + cd t j) && (OB + cd t j - OB) % 64 == 63)) = true
  rw [Nat.add_sub_cancel_left, cd_mod (by omega)]
  have : (t == 63) = false := by simp; omega
  rw [this, Bool.and_false]
  rfl
theorem nz_fl {α : Type} (c : α → List D) : ∀ (l : List α), nzC (fl (dT c) l) := by
  intro l x hx
  unfold fl at hx
  obtain ⟨a, _, ha⟩ := List.mem_flatMap.1 hx
  unfold dT at ha
  obtain ⟨d, _, rfl⟩ := List.mem_map.1 ha
  exact nz_d
theorem arM_nbox {kv : Int → Value} {cv : List UInt8 → D} {ms : List (List (Int × List UInt8))} {i : Nat} {l : List T} (h : arM kv cv ms i = .box l) : False := by
  unfold arM at h
  split at h <;> cases h
theorem arM_nrcd {kv : Int → Value} {cv : List UInt8 → D} {ms : List (List (Int × List UInt8))} {i b : Nat} {u : Obj} {mE : Mem} {oE : Nat → Option (Nat × Nat)} (h : arM kv cv ms i = .rcd b u mE oE) : False := by
  unfold arM at h
  split at h <;> cases h
theorem nc_hpA (H : Hp) : NC (hpA H) := by
  refine NC_hpF (fun i => rfl) (fun t i l h => ?_) (fun t i b u mE oE h => ?_)
  · match t, h with
    | 0, h => exact nomatch h
    | 1, h => exact nzC_arA (f := hc_dk) (fun i x y hy => by
        simp only [hc_dk, List.mem_cons, List.not_mem_nil, or_false] at hy
        rcases hy with rfl | rfl | rfl | rfl | rfl | rfl <;> first | exact nz_d | exact nz_own | exact nz_hvw (by decide)) h
    | 2, h => exact nzC_arA (f := hc_sec) (fun i x => nz_fl _ _) h
    | 3, h => exact nzC_arA (f := hc_lg) (fun i x y hy => by
        simp only [hc_lg, List.mem_cons, List.not_mem_nil, or_false] at hy
        rcases hy with rfl | rfl | rfl | rfl | rfl | rfl | rfl <;> first | exact nz_d | exact nz_pt (by decide) _) h
    | 4, h => exact nomatch h
    | 5, h => exact nzC_arA (f := hc_tx) (fun i x y hy => by
        simp only [hc_tx, List.mem_cons, List.not_mem_nil, or_false] at hy
        rcases hy with rfl | rfl | rfl | rfl <;> first | exact nz_d | exact nz_pt (by decide) _ | exact nz_mpt (by decide)) h
    | 6, h => exact (arM_nbox h).elim
    | 7, h => exact nzC_arA (f := hc_ix) (fun i x y hy => by
        simp only [hc_ix, List.mem_cons, List.not_mem_nil, or_false] at hy
        rcases hy with rfl | rfl <;> first | exact nz_d | exact nz_pt (by decide) _) h
    | k + 8, h => exact nomatch h
  · match t, h with
    | 0, h => exact nomatch h
    | 1, h => exact rcd_arA h
    | 2, h => exact rcd_arA h
    | 3, h => exact rcd_arA h
    | 4, h => exact nomatch h
    | 5, h => exact rcd_arA h
    | 6, h => exact arM_nrcd h
    | 7, h => exact rcd_arA h
    | k + 8, h => exact nomatch h
end Go.Proofs.Ytjomnccladjpgaa

/-
  Models of functions: printed by a program of this claim's own (gen.py) off the given translation.
-/
namespace Go.Proofs.Ytjomnccladjpgaa
open Go Go.RowKit
set_option linter.unusedVariables false
/-- (*bastille/wal.Log).Begin -/
def m_wal_Log_Begin (p0 : (Option Nat)) (w0 : Hp) : Option ((Option Nat) × Int × Hp) :=
Option.bind (m_wal_Log_alive p0 w0) fun x1 =>
bif (x1 != 0) then (some (none, x1, w0)) else (ptM p0 (none) (fun i5 =>
Option.bind (w0.ge_lg i5) fun x6 =>
some ((some (w0.nw_mp ([] : (List (Int × (List UInt8))))).ln_tx), 0, ((w0.nw_mp ([] : (List (Int × (List UInt8))))).nw_tx (S_wal_Txn.mk (some i5) x6.commits_ false w0.ln_mp)))))

/-- (*bastille/wal.Txn).alive -/
def m_wal_Txn_alive (p0 : (Option Nat)) (w0 : Hp) : Option Int :=
ptM p0 (some 1) (fun i2 =>
Option.bind (w0.ge_tx i2) fun x3 =>
Option.bind (m_wal_Log_alive x3.l_ w0) fun x5 =>
bif (x5 != 0) then (some x5) else (bif x3.over_ then (some 34) else (ptM x3.l_ (none) (fun i10 =>
Option.bind (w0.ge_lg i10) fun x11 =>
bif (x3.at_ != x11.commits_) then (some 34) else (some 0)))))

/-- (*bastille/wal.Txn).Read -/
def m_wal_Txn_Read (p0 : (Option Nat)) (p1 : Int) (w0 : Hp) : Option ((List UInt8) × Int) :=
Option.bind (m_wal_Txn_alive p0 w0) fun x1 =>
bif (x1 != 0) then (some ([], x1)) else (ptM p0 (none) (fun i5 =>
Option.bind (w0.ge_tx i5) fun x6 =>
Option.bind (w0.ge_mp x6.now_) fun x8 =>
bif (mfind x8 p1).isSome then (Option.bind (m_slices_Clone_byte ((mfind x8 p1).getD ([] : (List UInt8)))) fun x11 =>
some (x11, 0)) else (Option.bind (m_wal_Log_Read x6.l_ p1 w0) fun x13 =>
some (x13.1, x13.2))))

/-- (*bastille/wal.Txn).Write -/
def m_wal_Txn_Write (p0 : (Option Nat)) (p1 : Int) (p2 : (List UInt8)) (w0 : Hp) : Option (Int × Hp) :=
Option.bind (m_wal_Txn_alive p0 w0) fun x1 =>
bif (x1 != 0) then (some (x1, w0)) else (bif (decide (p1 < 0)) then (some (31, w0)) else (ptM p0 (none) (fun i6 =>
Option.bind (w0.ge_tx i6) fun x7 =>
Option.bind (m_wal_Log_Homes x7.l_ w0) fun x9 =>
bif (decide (p1 ≥ x9)) then (some (31, w0)) else (bif ((p2.length : Int) != 64) then (some (2, w0)) else (Option.bind (m_slices_Clone_byte p2) fun x13 =>
Option.bind (w0.ge_mp x7.now_) fun x15 =>
some (0, (w0.st_mp x7.now_ (mset x15 p1 x13))))))))

end Go.Proofs.Ytjomnccladjpgaa

/-
  Models of functions: printed by a program of this claim's own (gen.py) off the given translation.
-/
namespace Go.Proofs.Ytjomnccladjpgaa
open Go Go.RowKit
set_option linter.unusedVariables false
structure S_index_spot where
  home_ : Int
  off_ : Int

structure S_api_Entry where
  Key : (List UInt8)
  Version : Int
  Len : Int
  First : Int

structure S_index_node where
  Entry : S_api_Entry
  next_ : Int

end Go.Proofs.Ytjomnccladjpgaa

/-
  Models of functions: printed by a program of this claim's own (gen.py) off the given translation.
-/
namespace Go.Proofs.Ytjomnccladjpgaa
open Go Go.RowKit
set_option linter.unusedVariables false
structure S_L20_Do where
  Kind : Int
  Home : Int
  E : S_api_Entry

/-- bastille/bastillelaw20.Begun -/
def m_L20_Begun_l1 (p0 : (List (List UInt8))) (x7 : ((Option Nat) × Int × Hp)) : Nat → Int → Hp → Option ((Option Nat) × Hp)
  | 0, _, _ => none
  | nl1 + 1, z9, z10 =>
    bif (decide (z9 < (p0.length : Int))) then (Option.bind (idx p0 z9) fun x12 =>
    Option.bind (m_wal_Txn_Write x7.1 z9 x12 z10) fun x14 =>
    (m_L20_Begun_l1 p0 x7 nl1) (wi (z9 + 1)) x14.2) else (some (x7.1, z10))

def m_L20_Begun (p0 : (List (List UInt8))) (w0 : Hp) : Option ((Option Nat) × Hp) :=
Option.bind (m_disk_New 30 w0) fun x1 =>
Option.bind (m_wal_Format x1.1 8 x1.2.2) fun x3 =>
Option.bind (m_wal_Open x1.1 x3.2) fun x5 =>
Option.bind (m_wal_Log_Begin x5.1 x5.2.2) fun x7 =>
m_L20_Begun_l1 p0 x7 (p0.length + 1) 0 x7.2.2

/-- bastille/bastilleref01.Same -/
def m_R01_Same_l1 (p0 : (List UInt8)) (p1 : (List UInt8)) : Nat → Int → Option Bool
  | 0, _ => none
  | nl1 + 1, z2 =>
    bif (decide (z2 < (p0.length : Int))) then (Option.bind (idx p0 z2) fun x4 =>
    Option.bind (idx p1 z2) fun x6 =>
    bif ((x4.toNat : Int) != (x6.toNat : Int)) then (some false) else ((m_R01_Same_l1 p0 p1 nl1) (wi (z2 + 1)))) else (some true)

def m_R01_Same (p0 : (List UInt8)) (p1 : (List UInt8)) : Option Bool :=
bif ((p0.length : Int) != (p1.length : Int)) then (some false) else (m_R01_Same_l1 p0 p1 (p0.length + 1) 0)

/-- bastille/bastilleref01.Get -/
def m_R01_Get_j1 (y3 : Int) : Option (Int × Int) :=
some (y3, 0)

def m_R01_Get_j3 (kl2 : Int → Int → Option (Int × Int)) (z4 : Int) (x7 : UInt8) (z5 : Int) (y9 : Bool) : Option (Int × Int) :=
kl2 (wi ((wi (256 * z4)) + (x7.toNat : Int))) (wi (z5 + 1))

def m_R01_Get_l2 (p0 : (List UInt8)) : Nat → Int → Int → Option (Int × Int)
  | 0, _, _ => none
  | nl2 + 1, z4, z5 =>
    bif (decide (z5 < (p0.length : Int))) then (Option.bind (idx p0 z5) fun x7 =>
    bif (decide (z4 > 18014398509481984)) then (some (0, 11)) else (bif (z4 == 18014398509481984) then (bif (decide ((x7.toNat : Int) > 0)) then (some (0, 11)) else (m_R01_Get_j3 (m_R01_Get_l2 p0 nl2) z4 x7 z5 (decide ((x7.toNat : Int) > 0)))) else (m_R01_Get_j3 (m_R01_Get_l2 p0 nl2) z4 x7 z5 false))) else (m_R01_Get_j1 z4)

def m_R01_Get (p0 : (List UInt8)) : Option (Int × Int) :=
bif ((p0.length : Int) == 0) then (some (0, 10)) else (bif (decide ((p0.length : Int) > 8)) then (some (0, 2)) else (m_R01_Get_l2 p0 (p0.length + 1) 0 0))

/-- bastille/bastilleref01.Low -/
def m_R01_Low_j1 (y5 : Int) (y6 : (List UInt8)) : Option ((List UInt8) × Int) :=
bif (decide (y5 > 0)) then (some ([], 2)) else (some (y6, 0))

def m_R01_Low_l2 (p1 : Int) : Nat → Int → (List UInt8) → Int → Option ((List UInt8) × Int)
  | 0, _, _, _ => none
  | nl2 + 1, z8, z9, z10 =>
    bif (decide (z10 < p1)) then (Option.bind (appI 1 z9 [(U8 (Int.tmod z8 256))]) fun x12 =>
    (m_R01_Low_l2 p1 nl2) (wi (Int.tdiv z8 256)) x12 (wi (z10 + 1))) else (m_R01_Low_j1 z8 z9)

def m_R01_Low (p0 : Int) (p1 : Int) : Option ((List UInt8) × Int) :=
bif (decide (p1 < 1)) then (some ([], 2)) else (bif (decide (p1 > 8)) then (some ([], 2)) else (bif (decide (p0 < 0)) then (some ([], 2)) else (bif (decide (p0 > 4611686018427387904)) then (some ([], 2)) else (m_R01_Low_l2 p1 (Int.toNat p1 + 1) p0 [] 0))))

/-- bastille/bastilleref01.Turned -/
def m_R01_Turned_l1 (p0 : (List UInt8)) : Nat → (List UInt8) → Int → Option (List UInt8)
  | 0, _, _ => none
  | nl1 + 1, z1, z2 =>
    bif (decide (z2 ≥ 0)) then (Option.bind (idx p0 z2) fun x4 =>
    Option.bind (appI 1 z1 [x4]) fun x6 =>
    (m_R01_Turned_l1 p0 nl1) x6 (wi (z2 - 1))) else (some z1)

def m_R01_Turned (p0 : (List UInt8)) : Option (List UInt8) :=
m_R01_Turned_l1 p0 (Int.toNat (wi ((p0.length : Int) - 1)) + 2) [] (wi ((p0.length : Int) - 1))

/-- bastille/bastilleref01.Put -/
def m_R01_Put (p0 : Int) (p1 : Int) : Option ((List UInt8) × Int) :=
Option.bind (m_R01_Low p0 p1) fun x1 =>
Option.bind (m_R01_Turned x1.1) fun x3 =>
some (x3, x1.2)

/-- bastille/bastilleref20.number -/
def m_R20_number (p0 : Int) (p1 : Int) : Option (List UInt8) :=
Option.bind (m_R01_Put p0 p1) fun x1 =>
some x1.1

/-- bastille/bastilleref20.name -/
def m_R20_name_v0_l1 (p0 : (List (List UInt8))) (p3 : Int) (p4 : Int) : Nat → Int → Int → Option (List (List UInt8))
  | 0, _, _ => none
  | nl1 + 1, z1, z2 =>
    Option.bind (idx p0 z1) fun x3 =>
    Option.bind (cutI x3 z2 (wi (z2 + 4))) fun x5 =>
    Option.bind (m_R01_Get x5) fun x7 =>
    bif (x7.1 == p3) then (Option.bind (idx p0 z1) fun x10 =>
    bif x10.isEmpty then none else (Option.bind (appI 1 [] x10) fun x13 =>
    Option.bind (vcut x13.length z2 (wi (z2 + 4))) fun x15 =>
    Option.bind (m_R20_number p4 4) fun x17 =>
    bif x13.isEmpty then none else (Option.bind (cpyI x13 (0 + Int.toNat z2 * 1) (Int.toNat (wi (z2 + 4)) - Int.toNat z2) x17) fun x20 =>
    Option.bind (lenI x20.length x13.length) fun x22 =>
    Option.bind (idx p0 z1) fun x24 =>
    some (p0.set (Int.toNat z1) x20)))) else ((m_R20_name_v0_l1 p0 p3 p4 nl1) x7.1 0)

end Go.Proofs.Ytjomnccladjpgaa

/-
  Models of functions: printed by a program of this claim's own (gen.py) off the given translation.
-/
namespace Go.Proofs.Ytjomnccladjpgaa
open Go Go.RowKit
set_option linter.unusedVariables false
structure S_blob_link where
  home_ : Int
  data_ : (List UInt8)

/-- bastille/blob.may -/
def m_blob_may (p0 : Int) : Option Bool :=
bif (decide (p0 ≥ 0)) then (some (decide (p0 ≤ 1024))) else (some false)

/-- bastille/blob.Count -/
def m_blob_Count (p0 : Int) : Option Int :=
Option.bind (m_blob_may p0) fun x1 =>
bif (!x1) then (some 0) else (some (wi (Int.tdiv (wi ((wi (p0 + 60)) - 1)) 60)))

/-- slices.Index[[]int,int] -/
def m_slices_Index_int_l1 (p0 : (List Int)) (p1 : Int) : Nat → Int → Option Int
  | 0, _ => none
  | nl1 + 1, z1 =>
    bif (decide (z1 < (p0.length : Int))) then (Option.bind (idx p0 z1) fun x3 =>
    bif (p1 == x3) then (some z1) else ((m_slices_Index_int_l1 p0 p1 nl1) (wi (z1 + 1)))) else (some (-1))

def m_slices_Index_int (p0 : (List Int)) (p1 : Int) : Option Int :=
m_slices_Index_int_l1 p0 p1 (p0.length + 1) 0

/-- slices.Contains[[]int,int] -/
def m_slices_Contains_int (p0 : (List Int)) (p1 : Int) : Option Bool :=
Option.bind (m_slices_Index_int p0 p1) fun x1 =>
some (decide (x1 ≥ 0))

/-- bastille/blob.right -/
def m_blob_right_l1 (p0 : (List Int)) : Nat → Int → Option Bool
  | 0, _ => none
  | nl1 + 1, z1 =>
    bif (decide (z1 < (p0.length : Int))) then (Option.bind (idx p0 z1) fun x3 =>
    bif (decide (x3 < 1)) then (some false) else (bif (decide (x3 > 16384)) then (some false) else (Option.bind (cutI p0 0 z1) fun x7 =>
    Option.bind (m_slices_Contains_int x7 x3) fun x9 =>
    bif x9 then (some false) else ((m_blob_right_l1 p0 nl1) (wi (z1 + 1)))))) else (some true)

def m_blob_right (p0 : (List Int)) : Option Bool :=
m_blob_right_l1 p0 (p0.length + 1) 0

/-- slices.Chunk[[]byte,byte]$1 -/
def m_slices_Chunk_byte_c1_l1 {X : Type} (c1 : (List UInt8)) (c2 : Int) (yld : ((List UInt8) → X × Hp → Option (Bool × (X × Hp)))) : Nat → Int → (X × Hp) → Option (X × Hp)
  | 0, _, _ => none
  | nl1 + 1, z1, z2 =>
    bif (decide (z1 < (c1.length : Int))) then (Option.bind (cutI c1 z1 (c1.length : Int)) fun x4 =>
    Option.bind (cutI c1 z1 (wi (z1 + (if (x4.length : Int) < c2 then (x4.length : Int) else c2)))) fun x6 =>
    Option.bind (yld x6 z2) fun x8 =>
    bif (!x8.1) then (some x8.2) else ((m_slices_Chunk_byte_c1_l1 c1 c2 yld nl1) (wi (z1 + c2)) x8.2)) else (some z2)

def m_slices_Chunk_byte_c1 {X : Type} (yld : (List UInt8) → X × Hp → Option (Bool × (X × Hp))) (c1 : (List UInt8)) (c2 : Int) (w0 : X × Hp) : Option (X × Hp) :=
m_slices_Chunk_byte_c1_l1 c1 c2 yld (c1.length + 1) 0 w0

/-- slices.Chunk[[]byte,byte] -/
def m_slices_Chunk_byte (p0 : (List UInt8)) (p1 : Int) : Option ((List UInt8) × Int) :=
bif (decide (p1 < 1)) then (none) else (some (p0, p1))

/-- bastille/blob.Put -/
def m_blob_Put_j2 (a17 : (List UInt8)) (p1 : (List Int)) (z16 : Int) (i2 : Nat) (w18 : Hp) (z15 : Int) (y21 : (List UInt8)) : Option (Bool × (Int × Int) × Hp) :=
Option.bind (vcut y21.length 4 (y21.length : Int)) fun x22 =>
Option.bind (cpyI y21 (0 + Int.toNat 4 * 1) (Int.toNat (y21.length : Int) - Int.toNat 4) a17) fun x24 =>
Option.bind (lenI x24.length y21.length) fun x26 =>
Option.bind (idx p1 z16) fun x28 =>
Option.bind (m_wal_Txn_Write (some i2) x28 x24 w18) fun x30 =>
bif (x30.1 != 0) then (some (false, (x30.1, z16), x30.2)) else (some (true, (z15, (wi (z16 + 1))), x30.2))

def m_blob_Put_r1 (p1 : (List Int)) (i2 : Nat) (a17 : (List UInt8)) (z15 : Int) (z16 : Int) (w18 : Hp) : Option (Bool × (Int × Int) × Hp) :=
Option.bind (mkI 1 64) fun x19 =>
bif (decide ((wi (z16 + 1)) < (p1.length : Int))) then (Option.bind (idx p1 (wi (z16 + 1))) fun x34 =>
Option.bind (m_word_Put x34 4) fun x36 =>
Option.bind (cpyI (List.replicate x19 (0 : UInt8)) 0 x19 x36.1) fun x38 =>
Option.bind (lenI x38.length (List.replicate x19 (0 : UInt8)).length) fun x40 =>
m_blob_Put_j2 a17 p1 z16 i2 w18 z15 x38) else (m_blob_Put_j2 a17 p1 z16 i2 w18 z15 (List.replicate x19 (0 : UInt8)))

def m_blob_Put (p0 : (Option Nat)) (p1 : (List Int)) (p2 : (List UInt8)) (w0 : Hp) : Option (Int × Int × Hp) :=
ptM p0 none (fun i2 =>
Option.bind (m_blob_may (p2.length : Int)) fun x3 =>
bif (!x3) then (some (0, 3, w0)) else (Option.bind (m_blob_Count (p2.length : Int)) fun x6 =>
bif ((p1.length : Int) != x6) then (some (0, 2, w0)) else (Option.bind (m_blob_right p1) fun x9 =>
bif (!x9) then (some (0, 2, w0)) else (bif ((p2.length : Int) == 0) then (some (0, 0, w0)) else (Option.bind (m_slices_Chunk_byte p2 60) fun x13 =>
Option.bind (m_slices_Chunk_byte_c1 (lpY (fun a b w => m_blob_Put_r1 p1 i2 a b.1 b.2 w)) x13.1 x13.2 ((true, (0, 0)), w0)) fun x42 =>
bif x42.1.1 then (Option.bind (idx p1 0) fun x44 =>
some (x44, 0, x42.2)) else (some (0, x42.1.2.1, x42.2)))))))

/-- bastille/blob.chain$1 -/
def m_blob_chain_c1_j1 {X : Type} (yld : ((S_blob_link × Int) → X × Hp → Option (Bool × (X × Hp)))) (y1 : Int) (y2 : (X × Hp)) : Option (X × Hp) :=
bif (y1 != 0) then (Option.bind (yld ((S_blob_link.mk 0 []), 11) y2) fun x4 =>
some x4.2) else (some y2)

def m_blob_chain_c1_j3 {X : Type} (kl2 : Int → Int → (X × Hp) → Option (X × Hp)) (yld : ((S_blob_link × Int) → X × Hp → Option (Bool × (X × Hp)))) (z10 : (X × Hp)) (x12 : ((List UInt8) × Int)) (z8 : Int) (z9 : Int) (y14 : Int) : Option (X × Hp) :=
bif (y14 != 0) then (Option.bind (yld ((S_blob_link.mk 0 []), y14) z10) fun x16 =>
some x16.2) else (Option.bind (cutI x12.1 4 (x12.1.length : Int)) fun x18 =>
Option.bind (yld ((S_blob_link.mk z8 x18), 0) z10) fun x20 =>
bif (!x20.1) then (some x20.2) else (Option.bind (cutI x12.1 0 4) fun x23 =>
Option.bind (m_word_Get x23) fun x25 =>
kl2 x25.1 (wi (z9 + 1)) x20.2))

def m_blob_chain_c1_l2 {X : Type} (x6 : Int) (c3 : Nat) (yld : ((S_blob_link × Int) → X × Hp → Option (Bool × (X × Hp)))) : Nat → Int → Int → (X × Hp) → Option (X × Hp)
  | 0, _, _, _ => none
  | nl2 + 1, z8, z9, z10 =>
    bif (decide (z9 < x6)) then (Option.bind (m_wal_Txn_Read (some c3) z8 z10.2) fun x12 =>
    bif (x12.2 == 31) then (m_blob_chain_c1_j3 (m_blob_chain_c1_l2 x6 c3 yld nl2) yld z10 x12 z8 z9 11) else (bif (x12.2 == 0) then (bif (z8 == 0) then (m_blob_chain_c1_j3 (m_blob_chain_c1_l2 x6 c3 yld nl2) yld z10 x12 z8 z9 11) else (m_blob_chain_c1_j3 (m_blob_chain_c1_l2 x6 c3 yld nl2) yld z10 x12 z8 z9 x12.2)) else (m_blob_chain_c1_j3 (m_blob_chain_c1_l2 x6 c3 yld nl2) yld z10 x12 z8 z9 x12.2))) else (m_blob_chain_c1_j1 yld z8 z10)

def m_blob_chain_c1 {X : Type} (yld : (S_blob_link × Int) → X × Hp → Option (Bool × (X × Hp))) (c1 : Int) (c2 : Int) (c3 : Nat) (w0 : X × Hp) : Option (X × Hp) :=
Option.bind (m_blob_Count c2) fun x6 =>
m_blob_chain_c1_l2 x6 c3 yld (Int.toNat x6 + 1) c1 0 w0

/-- bastille/blob.chain -/
def m_blob_chain (p0 : (Option Nat)) (p1 : Int) (p2 : Int) (w0 : Hp) : Option (Int × Int × Nat) :=
ptM p0 none (fun i2 =>
some (p1, p2, i2))

/-- bastille/blob.Homes -/
def m_blob_Homes_r1 (a10 : S_blob_link) (a11 : Int) (z8 : Int) (z9 : (List Int)) (w12 : Hp) : Option (Bool × (Int × (List Int)) × Hp) :=
bif (a11 != 0) then (some (false, (a11, z9), w12)) else (Option.bind (appI 8 z9 [a10.home_]) fun x14 =>
some (true, (z8, x14), w12))

def m_blob_Homes (p0 : (Option Nat)) (p1 : Int) (p2 : Int) (w0 : Hp) : Option ((List Int) × Int × Hp) :=
ptM p0 none (fun i2 =>
Option.bind (m_blob_may p2) fun x3 =>
bif (!x3) then (some ([], 2, w0)) else (Option.bind (m_blob_chain (some i2) p1 p2 w0) fun x6 =>
Option.bind (m_blob_chain_c1 (lpY (fun a b w => m_blob_Homes_r1 a.1 a.2 b.1 b.2 w)) x6.1 x6.2.1 x6.2.2 ((true, (0, [])), w0)) fun x16 =>
bif x16.1.1 then (some (x16.1.2.2, 0, x16.2)) else (some ([], x16.1.2.1, x16.2))))

/-- bastille/blob.Get -/
def m_blob_Get_r1 (a10 : S_blob_link) (a11 : Int) (z8 : Int) (z9 : (List UInt8)) (w12 : Hp) : Option (Bool × (Int × (List UInt8)) × Hp) :=
bif (a11 != 0) then (some (false, (a11, z9), w12)) else (Option.bind (appI 1 z9 a10.data_) fun x14 =>
some (true, (z8, x14), w12))

def m_blob_Get_j2 (x16 : ((Bool × (Int × (List UInt8))) × Hp)) (p2 : Int) : Option ((List UInt8) × Int × Hp) :=
Option.bind (cutI x16.1.2.2 0 p2) fun x18 =>
some (x18, 0, x16.2)

def m_blob_Get_l3 (x20 : (List UInt8)) (x16 : ((Bool × (Int × (List UInt8))) × Hp)) (p2 : Int) : Nat → Int → Option ((List UInt8) × Int × Hp)
  | 0, _ => none
  | nl3 + 1, z22 =>
    bif (decide (z22 < (x20.length : Int))) then (Option.bind (idx x20 z22) fun x24 =>
    bif ((x24.toNat : Int) != 0) then (some ([], 11, x16.2)) else ((m_blob_Get_l3 x20 x16 p2 nl3) (wi (z22 + 1)))) else (m_blob_Get_j2 x16 p2)

def m_blob_Get (p0 : (Option Nat)) (p1 : Int) (p2 : Int) (w0 : Hp) : Option ((List UInt8) × Int × Hp) :=
ptM p0 none (fun i2 =>
Option.bind (m_blob_may p2) fun x3 =>
bif (!x3) then (some ([], 2, w0)) else (Option.bind (m_blob_chain (some i2) p1 p2 w0) fun x6 =>
Option.bind (m_blob_chain_c1 (lpY (fun a b w => m_blob_Get_r1 a.1 a.2 b.1 b.2 w)) x6.1 x6.2.1 x6.2.2 ((true, (0, [])), w0)) fun x16 =>
bif x16.1.1 then (Option.bind (cutI x16.1.2.2 (if (x16.1.2.2.length : Int) < p2 then (x16.1.2.2.length : Int) else p2) (x16.1.2.2.length : Int)) fun x20 =>
m_blob_Get_l3 x20 x16 p2 (x20.length + 1) 0) else (some ([], x16.1.2.1, x16.2))))
end Go.Proofs.Ytjomnccladjpgaa

/-
  Models of functions: printed by a program of this claim's own (gen.py) off the given translation.
-/
namespace Go.Proofs.Ytjomnccladjpgaa
open Go Go.RowKit
set_option linter.unusedVariables false
/-- bastille/bastillelaw21.awake -/
def m_L21_awake (w0 : Hp) : Option (Bool × Hp) :=
Option.bind (m_L20_Begun [] w0) fun x1 =>
Option.bind (m_blob_Put x1.1 [7] [1, 2] x1.2) fun x3 =>
Option.bind (m_blob_Get x1.1 7 2 x3.2.2) fun x5 =>
bif (x3.2.1 == 0) then (bif (x5.2.1 == 0) then (bif (x3.1 == 7) then (Option.bind (m_R01_Same x5.1 [1, 2]) fun x10 =>
bif x10 then (Option.bind (m_blob_Count 61) fun x13 =>
some ((x13 == 2), x5.2.2)) else (some (false, x5.2.2))) else (some (false, x5.2.2))) else (some (false, x5.2.2))) else (some (false, x5.2.2))

/-- bastille/bastillelaw21.BlobBack -/
def m_L21_BlobBack_j2 (y8 : Int) (y11 : Int) (y12 : Hp) : Option (Bool × Hp) :=
some ((y11 == (wi (19 - y8))), y12)

def m_L21_BlobBack_l3 (y7 : (List (List UInt8))) (y9 : (List Int)) (x5 : ((Option Nat) × Hp)) (y8 : Int) : Nat → Int → Int → Hp → Option (Bool × Hp)
  | 0, _, _, _ => none
  | nl3 + 1, z13, z14, z15 =>
    bif (decide (z14 < (y7.length : Int))) then (Option.bind (idx y7 z14) fun x17 =>
    Option.bind (idx y9 z14) fun x19 =>
    Option.bind (m_blob_Get x5.1 x19 (x17.length : Int) z15) fun x21 =>
    Option.bind (idx y9 z14) fun x23 =>
    Option.bind (m_blob_Homes x5.1 x23 (x17.length : Int) x21.2.2) fun x25 =>
    bif (x21.2.1 != 0) then (some (false, x25.2.2)) else (bif (x25.2.1 != 0) then (some (false, x25.2.2)) else (Option.bind (m_R01_Same x21.1 x17) fun x29 =>
    bif (!x29) then (some (false, x25.2.2)) else (bif (decide ((wi (60 * (x25.1.length : Int))) < (x17.length : Int))) then (some (false, x25.2.2)) else (bif (decide ((wi (60 * (x25.1.length : Int))) ≥ (wi ((x17.length : Int) + 60)))) then (some (false, x25.2.2)) else ((m_L21_BlobBack_l3 y7 y9 x5 y8 nl3) (wi (z13 + (x25.1.length : Int))) (wi (z14 + 1)) x25.2.2)))))) else (m_L21_BlobBack_j2 y8 z13 z15)

def m_L21_BlobBack_j1 (x5 : ((Option Nat) × Hp)) (y7 : (List (List UInt8))) (y8 : Int) (y9 : (List Int)) (y10 : Hp) : Option (Bool × Hp) :=
m_L21_BlobBack_l3 y7 y9 x5 y8 (y7.length + 1) 0 0 y10

def m_L21_BlobBack_j6 (kl4 : (List (List UInt8)) → Int → (List Int) → Int → Hp → Option (Bool × Hp)) (z36 : (List Int)) (x52 : (Int × Int × Hp)) (z34 : (List (List UInt8))) (y50 : Int) (z37 : Int) (y54 : Bool) : Option (Bool × Hp) :=
Option.bind (appI 8 z36 [x52.1]) fun x55 =>
kl4 z34 y50 x55 (wi (z37 + 1)) x52.2.2

def m_L21_BlobBack_j5 (kl4 : (List (List UInt8)) → Int → (List Int) → Int → Hp → Option (Bool × Hp)) (x5 : ((Option Nat) × Hp)) (x40 : (List UInt8)) (z38 : Hp) (z36 : (List Int)) (z34 : (List (List UInt8))) (z37 : Int) (y50 : Int) (y51 : (List Int)) : Option (Bool × Hp) :=
Option.bind (m_blob_Put x5.1 y51 x40 z38) fun x52 =>
bif (x52.2.1 != 0) then (some (false, x52.2.2)) else (bif ((x40.length : Int) == 0) then (bif (x52.1 != 0) then (some (false, x52.2.2)) else (m_L21_BlobBack_j6 kl4 z36 x52 z34 y50 z37 (x52.1 != 0))) else (m_L21_BlobBack_j6 kl4 z36 x52 z34 y50 z37 false))

def m_L21_BlobBack_l7 (kl4 : (List (List UInt8)) → Int → (List Int) → Int → Hp → Option (Bool × Hp)) (x42 : Int) (x5 : ((Option Nat) × Hp)) (x40 : (List UInt8)) (z38 : Hp) (z36 : (List Int)) (z34 : (List (List UInt8))) (z37 : Int) : Nat → Int → (List Int) → Int → Option (Bool × Hp)
  | 0, _, _, _ => none
  | nl7 + 1, z60, z61, z62 =>
    bif (decide (z62 < x42)) then (Option.bind (appI 8 z61 [z60]) fun x64 =>
    (m_L21_BlobBack_l7 kl4 x42 x5 x40 z38 z36 z34 z37 nl7) (wi (z60 - 1)) x64 (wi (z62 + 1))) else (m_L21_BlobBack_j5 kl4 x5 x40 z38 z36 z34 z37 z60 z61)

def m_L21_BlobBack_l4 (p0 : (List (List UInt8))) (x5 : ((Option Nat) × Hp)) : Nat → (List (List UInt8)) → Int → (List Int) → Int → Hp → Option (Bool × Hp)
  | 0, _, _, _, _, _ => none
  | nl4 + 1, z34, z35, z36, z37, z38 =>
    bif (decide (z37 < (p0.length : Int))) then (Option.bind (idx p0 z37) fun x40 =>
    Option.bind (m_blob_Count (x40.length : Int)) fun x42 =>
    bif (decide ((x40.length : Int) > 1024)) then (Option.bind (cutI z34 0 z37) fun x45 =>
    m_L21_BlobBack_j1 x5 x45 z35 z36 z38) else (bif (decide (x42 > z35)) then (Option.bind (cutI z34 0 z37) fun x48 =>
    m_L21_BlobBack_j1 x5 x48 z35 z36 z38) else (m_L21_BlobBack_l7 (m_L21_BlobBack_l4 p0 x5 nl4) x42 x5 x40 z38 z36 z34 z37 (Int.toNat x42 + 1) z35 [] 0))) else (m_L21_BlobBack_j1 x5 z34 z35 z36 z38)

def m_L21_BlobBack (p0 : (List (List UInt8))) (w0 : Hp) : Option (Bool × Hp) :=
Option.bind (m_L21_awake w0) fun x1 =>
bif (!x1.1) then (some (false, x1.2)) else (bif (decide ((p0.length : Int) > 10)) then (some (true, x1.2)) else (Option.bind (m_L20_Begun [] x1.2) fun x5 =>
m_L21_BlobBack_l4 p0 x5 (p0.length + 1) p0 19 [] 0 x5.2))
end Go.Proofs.Ytjomnccladjpgaa

/-
  The contract of slices.Clone over sectors.
-/
namespace Go.Proofs.Ytjomnccladjpgaa
open Go Go.RowKit
set_option linter.unusedVariables false
set_option maxHeartbeats 4000000
set_option maxRecDepth 20000
end Go.Proofs.Ytjomnccladjpgaa
