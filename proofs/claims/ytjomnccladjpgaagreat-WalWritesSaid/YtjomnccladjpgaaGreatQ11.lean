/-
  Texts joined: see the remark at the head of each part.
-/
import Derived.Test.YtjomnccladjpgaaGreatQ09
import Derived.Test.YtjomnccladjpgaaGreatQ07
import Derived.Test.YtjomnccladjpgaaGreatQ08
import Derived.Test.YtjomnccladjpgaaGreatQ10
set_option linter.unusedVariables false
set_option linter.unusedSimpArgs false
/-
 Models of functions: printed by a program of this claim's own (gen.py) off the given translation.
-/
namespace Go.Proofs.YtjomnccladjpgaaGreat
open Go Go.RowKit
set_option linter.unusedVariables false
structure qZ where
 n_ : Int
 b_ : (List UInt8)
structure zH where
 kept_ : (Nat × Nat)
 now_ : (Nat × Nat)
 wait_ : (List qZ)
 fuse_ : Int
 off_ : Bool
 lives_ : Int
abbrev yZ (x : List UInt8) : List D := ar cU8 (0 : UInt8) x 0 64
abbrev zAT (x : qZ) : List D := [D.lit (.int .i64 x.n_)] ++ ar cU8 (0 : UInt8) x.b_ 0 64
structure zM where
 d_ : (Option Nat)
 size_ : Int
 base_ : Int
 slot_ : Int
 used_ : Int
 life_ : Int
 commits_ : Int
structure yN where
 l_ : (Option Nat)
 at_ : Int
 over_ : Bool
 now_ : Nat
structure zDX where
 N : Int
 B : (List UInt8)
structure zO where
 Kept : (Nat × Nat)
 Wait : (List zDX)
 Fuse : Int
 Off : Bool
 Lives : Int
abbrev yF (x : zDX) : List D := [.lit (.int .i64 x.N), .seq 1 (zN x.B)]
structure zT where
 D : (Option Nat)
 Size : Int
 Base : Int
 Slot : Int
 Used : Int
 Life : Int
 Commits : Int
structure qC where
 d_ : (Option Nat)
 l_ : (Option Nat)
 w_ : (Option Nat)
 m_ : (Option Nat)
abbrev zJV (i : Nat) (x : zH) : List T := [.hvw (cd 2 x.kept_.1) 0 83 64 x.kept_.2, .hvw (cd 2 x.now_.1) 0 83 64 x.now_.2, .own 94 65 (List.map zAT x.wait_), .d (.lit (.int .i64 x.fuse_)), .d (.lit (.bool x.off_)), .d (.lit (.int .i64 x.lives_))]
abbrev zKx (i : Nat) (x : zM) : List T := [(ptT 1 x.d_), .d (.lit (.int .i64 x.size_)), .d (.lit (.int .i64 x.base_)), .d (.lit (.int .i64 x.slot_)), .d (.lit (.int .i64 x.used_)), .d (.lit (.int .i64 x.life_)), .d (.lit (.int .i64 x.commits_))]
abbrev zKw (i : Nat) (x : yN) : List T := [(ptT 3 x.l_), .d (.lit (.int .i64 x.at_)), .d (.lit (.bool x.over_)), .mpt (OB + cd 6 x.now_)]
abbrev zJu (i : Nat) (x : zO) : List T := [.hvw (cd 11 x.Kept.1) 0 40 1 x.Kept.2, .own 97 2 (List.map yF x.Wait), .d (.lit (.int .i64 x.Fuse)), .d (.lit (.bool x.Off)), .d (.lit (.int .i64 x.Lives))]
abbrev zKl (i : Nat) (x : zT) : List T := [(ptT 8 x.D), .d (.lit (.int .i64 x.Size)), .d (.lit (.int .i64 x.Base)), .d (.lit (.int .i64 x.Slot)), .d (.lit (.int .i64 x.Used)), .d (.lit (.int .i64 x.Life)), .d (.lit (.int .i64 x.Commits))]
abbrev zLK (i : Nat) (x : qC) : List T := [(ptT 1 x.d_), (ptT 3 x.l_), (ptT 8 x.w_), (ptT 9 x.m_)]
abbrev zJQ (_ : Nat) (x : (List (List UInt8))) : List T := fl (dT yZ) x
abbrev hc_rs (_ : Nat) (x : (List (List UInt8))) : List T := fl (dT (cSl 1 cU8)) x
structure Hp where
 dk : List zH
 lg : List zM
 tx : List yN
 rd : List zO
 rl : List zT
 lo : List qC
 sec : List (List (List UInt8))
 rs : List (List (List UInt8))
 mp : List (List (Int × (List UInt8)))
def Hp.e : Hp := ⟨[], [], [], [], [], [], [], [], []⟩
abbrev Hp.ge_dk (H : Hp) (i : Nat) : Option zH := H.dk[i]?
def Hp.st_dk (H : Hp) (i : Nat) (x : zH) : Hp := { H with dk := H.dk.set i x }
def Hp.nw_dk (H : Hp) (x : zH) : Hp := { H with dk := H.dk ++ [x] }
abbrev Hp.ln_dk (H : Hp) : Nat := H.dk.length
abbrev Hp.ge_lg (H : Hp) (i : Nat) : Option zM := H.lg[i]?
def Hp.st_lg (H : Hp) (i : Nat) (x : zM) : Hp := { H with lg := H.lg.set i x }
def Hp.nw_lg (H : Hp) (x : zM) : Hp := { H with lg := H.lg ++ [x] }
abbrev Hp.ln_lg (H : Hp) : Nat := H.lg.length
abbrev Hp.ge_tx (H : Hp) (i : Nat) : Option yN := H.tx[i]?
def Hp.st_tx (H : Hp) (i : Nat) (x : yN) : Hp := { H with tx := H.tx.set i x }
def Hp.nw_tx (H : Hp) (x : yN) : Hp := { H with tx := H.tx ++ [x] }
abbrev Hp.ln_tx (H : Hp) : Nat := H.tx.length
abbrev Hp.ge_rd (H : Hp) (i : Nat) : Option zO := H.rd[i]?
def Hp.st_rd (H : Hp) (i : Nat) (x : zO) : Hp := { H with rd := H.rd.set i x }
def Hp.nw_rd (H : Hp) (x : zO) : Hp := { H with rd := H.rd ++ [x] }
abbrev Hp.ln_rd (H : Hp) : Nat := H.rd.length
abbrev Hp.ge_rl (H : Hp) (i : Nat) : Option zT := H.rl[i]?
def Hp.st_rl (H : Hp) (i : Nat) (x : zT) : Hp := { H with rl := H.rl.set i x }
def Hp.nw_rl (H : Hp) (x : zT) : Hp := { H with rl := H.rl ++ [x] }
abbrev Hp.ln_rl (H : Hp) : Nat := H.rl.length
abbrev Hp.ge_lo (H : Hp) (i : Nat) : Option qC := H.lo[i]?
def Hp.st_lo (H : Hp) (i : Nat) (x : qC) : Hp := { H with lo := H.lo.set i x }
def Hp.nw_lo (H : Hp) (x : qC) : Hp := { H with lo := H.lo ++ [x] }
abbrev Hp.ln_lo (H : Hp) : Nat := H.lo.length
abbrev Hp.ge_sec (H : Hp) (i : Nat) : Option (List (List UInt8)) := H.sec[i]?
def Hp.st_sec (H : Hp) (i : Nat) (x : (List (List UInt8))) : Hp := { H with sec := H.sec.set i x }
def Hp.nw_sec (H : Hp) (x : (List (List UInt8))) : Hp := { H with sec := H.sec ++ [x] }
abbrev Hp.ln_sec (H : Hp) : Nat := H.sec.length
abbrev Hp.ge_rs (H : Hp) (i : Nat) : Option (List (List UInt8)) := H.rs[i]?
def Hp.st_rs (H : Hp) (i : Nat) (x : (List (List UInt8))) : Hp := { H with rs := H.rs.set i x }
def Hp.nw_rs (H : Hp) (x : (List (List UInt8))) : Hp := { H with rs := H.rs ++ [x] }
abbrev Hp.ln_rs (H : Hp) : Nat := H.rs.length
abbrev Hp.ge_mp (H : Hp) (i : Nat) : Option (List (Int × (List UInt8))) := H.mp[i]?
def Hp.st_mp (H : Hp) (i : Nat) (x : (List (Int × (List UInt8)))) : Hp := { H with mp := H.mp.set i x }
def Hp.nw_mp (H : Hp) (x : (List (Int × (List UInt8)))) : Hp := { H with mp := H.mp ++ [x] }
abbrev Hp.ln_mp (H : Hp) : Nat := H.mp.length
def hpT (H : Hp) : Nat → Nat → A
 | 1, i => arA H.dk zJV i
 | 2, i => arA H.sec zJQ i
 | 3, i => arA H.lg zKx i
 | 5, i => arA H.tx zKw i
 | 6, i => arM (fun z : Int => Value.int .i64 z) (fun l : List UInt8 => D.seq 1 (zN l)) H.mp i
 | 8, i => arA H.rd zJu i
 | 9, i => arA H.rl zKl i
 | 10, i => arA H.lo zLK i
 | 11, i => arA H.rs hc_rs i
 | _, _ => .free
def hpA (H : Hp) : Nat → A := hpF (hpT H)
theorem zDD {H : Hp} {i : Nat} {x : zH} (h : H.ge_dk i = some x) : hpA H (cd 1 i) = (.box (zJV i x)) := (zDT (by decide)).trans (zEs h)
theorem zHp {H : Hp} {i : Nat} {x x' : zH} (h : H.ge_dk i = some x) : hpA (H.st_dk i x') = updF (hpA H) (cd 1 i) (.box (zJV i x')) := by
 refine zCK (by decide) (zGh h) fun t' j hne => ?_
 match t' with
 | 0 => exact rfl
 | 1 => exact zGt fun e => hne ⟨rfl, e⟩
 | 2 => exact rfl
 | 3 => exact rfl
 | 4 => exact rfl
 | 5 => exact rfl
 | 6 => exact rfl
 | 7 => exact rfl
 | 8 => exact rfl
 | 9 => exact rfl
 | 10 => exact rfl
 | 11 => exact rfl
 | k + 12 => rfl
theorem su2_dk {H : Hp} {i : Nat} {x x' : zH} {y : A} (h : H.ge_dk i = some x) : hpA (H.st_dk i x') = updF (updF (hpA H) (cd 1 i) y) (cd 1 i) (.box (zJV i x')) := by
 rw [zHp h]
 funext k
 unfold updF
 split <;> rfl
theorem fr_dk (H : Hp) : hpA H (cd 1 H.ln_dk) = .free := (zDT (by decide)).trans zED
theorem nw_dk (H : Hp) (x : zH) : hpA (H.nw_dk x) = updF (hpA H) (cd 1 H.ln_dk) (.box (zJV H.ln_dk x)) := by
 refine zCK (by decide) zE9 fun t' j hne => ?_
 match t' with
 | 0 => exact rfl
 | 1 => exact zFD fun e => hne ⟨rfl, e⟩
 | 2 => exact rfl
 | 3 => exact rfl
 | 4 => exact rfl
 | 5 => exact rfl
 | 6 => exact rfl
 | 7 => exact rfl
 | 8 => exact rfl
 | 9 => exact rfl
 | 10 => exact rfl
 | 11 => exact rfl
 | k + 12 => rfl
theorem zAj {H : Hp} {i : Nat} {x : zM} (h : H.ge_lg i = some x) : hpA H (cd 3 i) = (.box (zKx i x)) := (zDT (by decide)).trans (zEs h)
theorem zHl {H : Hp} {i : Nat} {x x' : zM} (h : H.ge_lg i = some x) : hpA (H.st_lg i x') = updF (hpA H) (cd 3 i) (.box (zKx i x')) := by
 refine zCK (by decide) (zGh h) fun t' j hne => ?_
 match t' with
 | 0 => exact rfl
 | 1 => exact rfl
 | 2 => exact rfl
 | 3 => exact zGt fun e => hne ⟨rfl, e⟩
 | 4 => exact rfl
 | 5 => exact rfl
 | 6 => exact rfl
 | 7 => exact rfl
 | 8 => exact rfl
 | 9 => exact rfl
 | 10 => exact rfl
 | 11 => exact rfl
 | k + 12 => rfl
theorem fr_lg (H : Hp) : hpA H (cd 3 H.ln_lg) = .free := (zDT (by decide)).trans zED
theorem nw_lg (H : Hp) (x : zM) : hpA (H.nw_lg x) = updF (hpA H) (cd 3 H.ln_lg) (.box (zKx H.ln_lg x)) := by
 refine zCK (by decide) zE9 fun t' j hne => ?_
 match t' with
 | 0 => exact rfl
 | 1 => exact rfl
 | 2 => exact rfl
 | 3 => exact zFD fun e => hne ⟨rfl, e⟩
 | 4 => exact rfl
 | 5 => exact rfl
 | 6 => exact rfl
 | 7 => exact rfl
 | 8 => exact rfl
 | 9 => exact rfl
 | 10 => exact rfl
 | 11 => exact rfl
 | k + 12 => rfl
theorem zF0 {H : Hp} {i : Nat} {x : yN} (h : H.ge_tx i = some x) : hpA H (cd 5 i) = (.box (zKw i x)) := (zDT (by decide)).trans (zEs h)
theorem su_tx {H : Hp} {i : Nat} {x x' : yN} (h : H.ge_tx i = some x) : hpA (H.st_tx i x') = updF (hpA H) (cd 5 i) (.box (zKw i x')) := by
 refine zCK (by decide) (zGh h) fun t' j hne => ?_
 match t' with
 | 0 => exact rfl
 | 1 => exact rfl
 | 2 => exact rfl
 | 3 => exact rfl
 | 4 => exact rfl
 | 5 => exact zGt fun e => hne ⟨rfl, e⟩
 | 6 => exact rfl
 | 7 => exact rfl
 | 8 => exact rfl
 | 9 => exact rfl
 | 10 => exact rfl
 | 11 => exact rfl
 | k + 12 => rfl
theorem fr_tx (H : Hp) : hpA H (cd 5 H.ln_tx) = .free := (zDT (by decide)).trans zED
theorem nw_tx (H : Hp) (x : yN) : hpA (H.nw_tx x) = updF (hpA H) (cd 5 H.ln_tx) (.box (zKw H.ln_tx x)) := by
 refine zCK (by decide) zE9 fun t' j hne => ?_
 match t' with
 | 0 => exact rfl
 | 1 => exact rfl
 | 2 => exact rfl
 | 3 => exact rfl
 | 4 => exact rfl
 | 5 => exact zFD fun e => hne ⟨rfl, e⟩
 | 6 => exact rfl
 | 7 => exact rfl
 | 8 => exact rfl
 | 9 => exact rfl
 | 10 => exact rfl
 | 11 => exact rfl
 | k + 12 => rfl
theorem zBn {H : Hp} {i : Nat} {x : zO} (h : H.ge_rd i = some x) : hpA H (cd 8 i) = (.box (zJu i x)) := (zDT (by decide)).trans (zEs h)
theorem zHt {H : Hp} {i : Nat} {x x' : zO} (h : H.ge_rd i = some x) : hpA (H.st_rd i x') = updF (hpA H) (cd 8 i) (.box (zJu i x')) := by
 refine zCK (by decide) (zGh h) fun t' j hne => ?_
 match t' with
 | 0 => exact rfl
 | 1 => exact rfl
 | 2 => exact rfl
 | 3 => exact rfl
 | 4 => exact rfl
 | 5 => exact rfl
 | 6 => exact rfl
 | 7 => exact rfl
 | 8 => exact zGt fun e => hne ⟨rfl, e⟩
 | 9 => exact rfl
 | 10 => exact rfl
 | 11 => exact rfl
 | k + 12 => rfl
theorem su2_rd {H : Hp} {i : Nat} {x x' : zO} {y : A} (h : H.ge_rd i = some x) : hpA (H.st_rd i x') = updF (updF (hpA H) (cd 8 i) y) (cd 8 i) (.box (zJu i x')) := by
 rw [zHt h]
 funext k
 unfold updF
 split <;> rfl
theorem fr_rd (H : Hp) : hpA H (cd 8 H.ln_rd) = .free := (zDT (by decide)).trans zED
theorem nw_rd (H : Hp) (x : zO) : hpA (H.nw_rd x) = updF (hpA H) (cd 8 H.ln_rd) (.box (zJu H.ln_rd x)) := by
 refine zCK (by decide) zE9 fun t' j hne => ?_
 match t' with
 | 0 => exact rfl
 | 1 => exact rfl
 | 2 => exact rfl
 | 3 => exact rfl
 | 4 => exact rfl
 | 5 => exact rfl
 | 6 => exact rfl
 | 7 => exact rfl
 | 8 => exact zFD fun e => hne ⟨rfl, e⟩
 | 9 => exact rfl
 | 10 => exact rfl
 | 11 => exact rfl
 | k + 12 => rfl
theorem zAi {H : Hp} {i : Nat} {x : zT} (h : H.ge_rl i = some x) : hpA H (cd 9 i) = (.box (zKl i x)) := (zDT (by decide)).trans (zEs h)
theorem zJT {H : Hp} {i : Nat} {x x' : zT} (h : H.ge_rl i = some x) : hpA (H.st_rl i x') = updF (hpA H) (cd 9 i) (.box (zKl i x')) := by
 refine zCK (by decide) (zGh h) fun t' j hne => ?_
 match t' with
 | 0 => exact rfl
 | 1 => exact rfl
 | 2 => exact rfl
 | 3 => exact rfl
 | 4 => exact rfl
 | 5 => exact rfl
 | 6 => exact rfl
 | 7 => exact rfl
 | 8 => exact rfl
 | 9 => exact zGt fun e => hne ⟨rfl, e⟩
 | 10 => exact rfl
 | 11 => exact rfl
 | k + 12 => rfl
theorem fr_rl (H : Hp) : hpA H (cd 9 H.ln_rl) = .free := (zDT (by decide)).trans zED
theorem nw_rl (H : Hp) (x : zT) : hpA (H.nw_rl x) = updF (hpA H) (cd 9 H.ln_rl) (.box (zKl H.ln_rl x)) := by
 refine zCK (by decide) zE9 fun t' j hne => ?_
 match t' with
 | 0 => exact rfl
 | 1 => exact rfl
 | 2 => exact rfl
 | 3 => exact rfl
 | 4 => exact rfl
 | 5 => exact rfl
 | 6 => exact rfl
 | 7 => exact rfl
 | 8 => exact rfl
 | 9 => exact zFD fun e => hne ⟨rfl, e⟩
 | 10 => exact rfl
 | 11 => exact rfl
 | k + 12 => rfl
theorem zCL {H : Hp} {i : Nat} {x : qC} (h : H.ge_lo i = some x) : hpA H (cd 10 i) = (.box (zLK i x)) := (zDT (by decide)).trans (zEs h)
theorem zI3 {H : Hp} {i : Nat} {x x' : qC} (h : H.ge_lo i = some x) : hpA (H.st_lo i x') = updF (hpA H) (cd 10 i) (.box (zLK i x')) := by
 refine zCK (by decide) (zGh h) fun t' j hne => ?_
 match t' with
 | 0 => exact rfl
 | 1 => exact rfl
 | 2 => exact rfl
 | 3 => exact rfl
 | 4 => exact rfl
 | 5 => exact rfl
 | 6 => exact rfl
 | 7 => exact rfl
 | 8 => exact rfl
 | 9 => exact rfl
 | 10 => exact zGt fun e => hne ⟨rfl, e⟩
 | 11 => exact rfl
 | k + 12 => rfl
theorem fr_lo (H : Hp) : hpA H (cd 10 H.ln_lo) = .free := (zDT (by decide)).trans zED
theorem nw_lo (H : Hp) (x : qC) : hpA (H.nw_lo x) = updF (hpA H) (cd 10 H.ln_lo) (.box (zLK H.ln_lo x)) := by
 refine zCK (by decide) zE9 fun t' j hne => ?_
 match t' with
 | 0 => exact rfl
 | 1 => exact rfl
 | 2 => exact rfl
 | 3 => exact rfl
 | 4 => exact rfl
 | 5 => exact rfl
 | 6 => exact rfl
 | 7 => exact rfl
 | 8 => exact rfl
 | 9 => exact rfl
 | 10 => exact zFD fun e => hne ⟨rfl, e⟩
 | 11 => exact rfl
 | k + 12 => rfl
theorem zID {H : Hp} {i : Nat} {x : (List (List UInt8))} (h : H.ge_sec i = some x) : hpA H (cd 2 i) = (.box (zJQ i x)) := (zDT (by decide)).trans (zEs h)
theorem su_sec {H : Hp} {i : Nat} {x x' : (List (List UInt8))} (h : H.ge_sec i = some x) : hpA (H.st_sec i x') = updF (hpA H) (cd 2 i) (.box (zJQ i x')) := by
 refine zCK (by decide) (zGh h) fun t' j hne => ?_
 match t' with
 | 0 => exact rfl
 | 1 => exact rfl
 | 2 => exact zGt fun e => hne ⟨rfl, e⟩
 | 3 => exact rfl
 | 4 => exact rfl
 | 5 => exact rfl
 | 6 => exact rfl
 | 7 => exact rfl
 | 8 => exact rfl
 | 9 => exact rfl
 | 10 => exact rfl
 | 11 => exact rfl
 | k + 12 => rfl
theorem fr_sec (H : Hp) : hpA H (cd 2 H.ln_sec) = .free := (zDT (by decide)).trans zED
theorem nw_sec (H : Hp) (x : (List (List UInt8))) : hpA (H.nw_sec x) = updF (hpA H) (cd 2 H.ln_sec) (.box (zJQ H.ln_sec x)) := by
 refine zCK (by decide) zE9 fun t' j hne => ?_
 match t' with
 | 0 => exact rfl
 | 1 => exact rfl
 | 2 => exact zFD fun e => hne ⟨rfl, e⟩
 | 3 => exact rfl
 | 4 => exact rfl
 | 5 => exact rfl
 | 6 => exact rfl
 | 7 => exact rfl
 | 8 => exact rfl
 | 9 => exact rfl
 | 10 => exact rfl
 | 11 => exact rfl
 | k + 12 => rfl
theorem gl_rs {H : Hp} {i : Nat} {x : (List (List UInt8))} (h : H.ge_rs i = some x) : hpA H (cd 11 i) = (.box (hc_rs i x)) := (zDT (by decide)).trans (zEs h)
theorem su_rs {H : Hp} {i : Nat} {x x' : (List (List UInt8))} (h : H.ge_rs i = some x) : hpA (H.st_rs i x') = updF (hpA H) (cd 11 i) (.box (hc_rs i x')) := by
 refine zCK (by decide) (zGh h) fun t' j hne => ?_
 match t' with
 | 0 => exact rfl
 | 1 => exact rfl
 | 2 => exact rfl
 | 3 => exact rfl
 | 4 => exact rfl
 | 5 => exact rfl
 | 6 => exact rfl
 | 7 => exact rfl
 | 8 => exact rfl
 | 9 => exact rfl
 | 10 => exact rfl
 | 11 => exact zGt fun e => hne ⟨rfl, e⟩
 | k + 12 => rfl
theorem fr_rs (H : Hp) : hpA H (cd 11 H.ln_rs) = .free := (zDT (by decide)).trans zED
theorem nw_rs (H : Hp) (x : (List (List UInt8))) : hpA (H.nw_rs x) = updF (hpA H) (cd 11 H.ln_rs) (.box (hc_rs H.ln_rs x)) := by
 refine zCK (by decide) zE9 fun t' j hne => ?_
 match t' with
 | 0 => exact rfl
 | 1 => exact rfl
 | 2 => exact rfl
 | 3 => exact rfl
 | 4 => exact rfl
 | 5 => exact rfl
 | 6 => exact rfl
 | 7 => exact rfl
 | 8 => exact rfl
 | 9 => exact rfl
 | 10 => exact rfl
 | 11 => exact zFD fun e => hne ⟨rfl, e⟩
 | k + 12 => rfl
theorem gl_mp {H : Hp} {i : Nat} {x : (List (Int × (List UInt8)))} (h : H.ge_mp i = some x) : hpA H (cd 6 i) = (mpA (fun z : Int => Value.int .i64 z) (fun l : List UInt8 => D.seq 1 (zN l)) x) := (zDT (by decide)).trans (arM_get h)
theorem su_mp {H : Hp} {i : Nat} {x x' : (List (Int × (List UInt8)))} (h : H.ge_mp i = some x) : hpA (H.st_mp i x') = updF (hpA H) (cd 6 i) (mpA (fun z : Int => Value.int .i64 z) (fun l : List UInt8 => D.seq 1 (zN l)) x') := by
 refine zCK (by decide) (arM_eq h) fun t' j hne => ?_
 match t' with
 | 0 => exact rfl
 | 1 => exact rfl
 | 2 => exact rfl
 | 3 => exact rfl
 | 4 => exact rfl
 | 5 => exact rfl
 | 6 => exact arM_ne fun e => hne ⟨rfl, e⟩
 | 7 => exact rfl
 | 8 => exact rfl
 | 9 => exact rfl
 | 10 => exact rfl
 | 11 => exact rfl
 | k + 12 => rfl
theorem fr_mp (H : Hp) : hpA H (cd 6 H.ln_mp) = .free := (zDT (by decide)).trans arM_free
theorem nw_mp (H : Hp) (x : (List (Int × (List UInt8)))) : hpA (H.nw_mp x) = updF (hpA H) (cd 6 H.ln_mp) (mpA (fun z : Int => Value.int .i64 z) (fun l : List UInt8 => D.seq 1 (zN l)) x) := by
 refine zCK (by decide) arM_new fun t' j hne => ?_
 match t' with
 | 0 => exact rfl
 | 1 => exact rfl
 | 2 => exact rfl
 | 3 => exact rfl
 | 4 => exact rfl
 | 5 => exact rfl
 | 6 => exact arM_old fun e => hne ⟨rfl, e⟩
 | 7 => exact rfl
 | 8 => exact rfl
 | 9 => exact rfl
 | 10 => exact rfl
 | 11 => exact rfl
 | k + 12 => rfl
theorem zCm (H : Hp) : zGM (hpA H) := hpF_pure fun t i l h => by
 match t, h with
 | 0, h => exact nomatch h
 | 1, h => exact zEE (f := zJV) (fun i x y hy => by
   simp only [zJV, List.mem_cons, List.not_mem_nil, or_false] at hy
   rcases hy with rfl | rfl | rfl | rfl | rfl | rfl <;> first | rfl | exact zGa _ _) l h
 | 2, h => exact zEE (f := zJQ) (fun i x => fl_loc _ _) l h
 | 3, h => exact zEE (f := zKx) (fun i x y hy => by
   simp only [zKx, List.mem_cons, List.not_mem_nil, or_false] at hy
   rcases hy with rfl | rfl | rfl | rfl | rfl | rfl | rfl <;> first | rfl | exact zGa _ _) l h
 | 4, h => exact nomatch h
 | 5, h => exact zEE (f := zKw) (fun i x y hy => by
   simp only [zKw, List.mem_cons, List.not_mem_nil, or_false] at hy
   rcases hy with rfl | rfl | rfl | rfl <;> first | rfl | exact zGa _ _ | exact mpt_loc _) l h
 | 6, h => exact arM_pure h
 | 7, h => exact nomatch h
 | 8, h => exact zEE (f := zJu) (fun i x y hy => by
   simp only [zJu, List.mem_cons, List.not_mem_nil, or_false] at hy
   rcases hy with rfl | rfl | rfl | rfl | rfl <;> first | rfl | exact zGa _ _) l h
 | 9, h => exact zEE (f := zKl) (fun i x y hy => by
   simp only [zKl, List.mem_cons, List.not_mem_nil, or_false] at hy
   rcases hy with rfl | rfl | rfl | rfl | rfl | rfl | rfl <;> first | rfl | exact zGa _ _) l h
 | 10, h => exact zEE (f := zLK) (fun i x y hy => by
   simp only [zLK, List.mem_cons, List.not_mem_nil, or_false] at hy
   rcases hy with rfl | rfl | rfl | rfl <;> first | rfl | exact zGa _ _) l h
 | 11, h => exact zEE (f := hc_rs) (fun i x => fl_loc _ _) l h
 | k + 12, h => exact nomatch h
theorem zJp (H : Hp) (c : Nat) : san (hpA H c) = hpA H c := by
 show san (hpT H (c % 64) (c / 64)) = hpT H (c % 64) (c / 64)
 generalize c % 64 = t
 match t with
 | 0 => exact rfl
 | 1 => exact zFN _ _ _
 | 2 => exact zFN _ _ _
 | 3 => exact zFN _ _ _
 | 4 => exact rfl
 | 5 => exact zFN _ _ _
 | 6 => exact san_arM _ _ _ _
 | 7 => exact rfl
 | 8 => exact zFN _ _ _
 | 9 => exact zFN _ _ _
 | 10 => exact zFN _ _ _
 | 11 => exact zFN _ _ _
 | k + 12 => rfl
theorem rn_hpA (H : Hp) (j c k : Nat) : rnA j c (hpA H k) = hpA H k := rn_pure (fun l e => zCm H k l e) (zJp H k) j c
theorem hpA_e (c : Nat) : san (hpA Hp.e c) = .free := by
 rw [zJp]
 show hpT Hp.e (c % 64) (c / 64) = .free
 generalize c % 64 = t
 match t with
 | 0 => exact rfl
 | 1 => exact rfl
 | 2 => exact rfl
 | 3 => exact rfl
 | 4 => exact rfl
 | 5 => exact rfl
 | 6 => exact rfl
 | 7 => exact rfl
 | 8 => exact rfl
 | 9 => exact rfl
 | 10 => exact rfl
 | 11 => exact rfl
 | k + 12 => rfl
structure zC where
 Home : Int
 Data : (List UInt8)
abbrev zB (x : zC) : List D := [.lit (.int .i64 x.Home), .seq 1 (zN x.Data)]
structure zV where
 kind_ : Int
 number_ : Int
 data_ : (List UInt8)
 ok_ : Bool
abbrev yE (x : zV) : List D := [.lit (.int .i64 x.kind_), .lit (.int .i64 x.number_), .seq 1 (zN x.data_), .lit (.bool x.ok_)]
def zCl (p0 : Int) (w0 : Hp) : Option ((Option Nat) × Int × Hp) :=
bif (decide (p0 < 1)) then (some (none, 2, w0)) else (bif (decide (p0 > 16384)) then (some (none, 2, w0)) else (Option.bind (mkI 64 p0) fun x3 =>
Option.bind (mkI 64 p0) fun x5 =>
some ((some ((w0.nw_sec (List.replicate x3 ([] : (List UInt8)))).nw_sec (List.replicate x5 ([] : (List UInt8)))).ln_dk), 0, (((w0.nw_sec (List.replicate x3 ([] : (List UInt8)))).nw_sec (List.replicate x5 ([] : (List UInt8)))).nw_dk (zH.mk (w0.ln_sec, x3) ((w0.nw_sec (List.replicate x3 ([] : (List UInt8)))).ln_sec, x5) [] (-1) false 0)))))
def zAa (p0 : (Option Nat)) (w0 : Hp) : Option Bool :=
ptM p0 (some false) (fun i2 =>
Option.bind (w0.ge_dk i2) fun x3 =>
some (decide ((x3.now_.2 : Int) > 0)))
def zAG (p0 : (Option Nat)) (p1 : Int) (w0 : Hp) : Option Hp :=
Option.bind (zAa p0 w0) fun x1 =>
bif x1 then (ptM p0 (none) (fun i5 =>
Option.bind (w0.ge_dk i5) fun x6 =>
some (w0.st_dk i5 (zH.mk x6.kept_ x6.now_ x6.wait_ (if (-1) > p1 then (-1) else p1) x6.off_ x6.lives_)))) else (some w0)
def zAR (p0 : (Option Nat)) (w0 : Hp) : Option Int :=
Option.bind (zAa p0 w0) fun x1 =>
bif (!x1) then (some 0) else (ptM p0 (none) (fun i5 =>
Option.bind (w0.ge_dk i5) fun x6 =>
some (x6.now_.2 : Int)))
def zDZ (p0 : (Option Nat)) (p1 : Int) (w0 : Hp) : Option Bool :=
bif (decide (p1 ≥ 3)) then (Option.bind (zAR p0 w0) fun x2 =>
some (decide (p1 ≤ (wi ((wi (x2 - 2)) - 1))))) else (some false)
def zAP (p0 : (Option Nat)) (p1 : Int) (w0 : Hp) : Option Int :=
Option.bind (zAa p0 w0) fun x1 =>
bif (!x1) then (some 1) else (ptM p0 (none) (fun i5 =>
Option.bind (w0.ge_dk i5) fun x6 =>
bif x6.off_ then (some 30) else (bif (decide (p1 < 0)) then (some 31) else (bif (decide (p1 ≥ (x6.now_.2 : Int))) then (some 31) else (some 0)))))
def yS (p0 : (Option Nat)) (w0 : Hp) : Option (Bool × Hp) :=
ptM p0 (none) (fun i2 =>
Option.bind (w0.ge_dk i2) fun x3 =>
bif (decide (x3.fuse_ < 0)) then (some (false, w0)) else (some ((zH.mk x3.kept_ x3.now_ x3.wait_ (wi (((zH.mk x3.kept_ x3.now_ x3.wait_ x3.fuse_ (x3.fuse_ == 0) x3.lives_).fuse_) - 1)) (x3.fuse_ == 0) x3.lives_).off_, ((w0.st_dk i2 (zH.mk x3.kept_ x3.now_ x3.wait_ x3.fuse_ (x3.fuse_ == 0) x3.lives_)).st_dk i2 (zH.mk x3.kept_ x3.now_ x3.wait_ (wi (((zH.mk x3.kept_ x3.now_ x3.wait_ x3.fuse_ (x3.fuse_ == 0) x3.lives_).fuse_) - 1)) (x3.fuse_ == 0) x3.lives_)))))
def zX (p0 : (Option Nat)) (p1 : Int) (p2 : (List UInt8)) (w0 : Hp) : Option (Int × Hp) :=
Option.bind (zAP p0 p1 w0) fun x1 =>
bif (x1 != 0) then (some (x1, w0)) else (bif ((p2.length : Int) != 64) then (some (2, w0)) else (Option.bind (s2aI 64 p2) fun x5 =>
ptM p0 (none) (fun i8 =>
Option.bind (w0.ge_dk i8) fun x9 =>
Option.bind (appI 72 x9.wait_ [(qZ.mk p1 x5)]) fun x11 =>
Option.bind ((w0.st_dk i8 (zH.mk x9.kept_ x9.now_ x11 x9.fuse_ x9.off_ x9.lives_)).ge_sec (((zH.mk x9.kept_ x9.now_ x11 x9.fuse_ x9.off_ x9.lives_).now_).1)) fun x13 =>
Option.bind (lenI x13.length ((zH.mk x9.kept_ x9.now_ x11 x9.fuse_ x9.off_ x9.lives_).now_).2) fun x15 =>
Option.bind (idx x13 p1) fun x17 =>
Option.bind (yS (some i8) ((w0.st_dk i8 (zH.mk x9.kept_ x9.now_ x11 x9.fuse_ x9.off_ x9.lives_)).st_sec (((zH.mk x9.kept_ x9.now_ x11 x9.fuse_ x9.off_ x9.lives_).now_).1) (x13.set (Int.toNat p1) x5))) fun x19 =>
bif x19.1 then (some (30, x19.2)) else (some (0, x19.2)))))
def zA3 (p0 : (Option Nat)) (y7 : Hp) : Option (Int × Hp) :=
ptM p0 (none) (fun i9 =>
Option.bind (y7.ge_dk i9) fun x10 =>
some (0, (y7.st_dk i9 (zH.mk x10.kept_ x10.now_ [] x10.fuse_ x10.off_ x10.lives_))))
def zAJ (x14 : zH) (i13 : Nat) (p0 : (Option Nat)) : Nat → Int → Hp → Option (Int × Hp)
 | 0, _, _ => none
 | nl2 + 1, z16, z17 =>
  bif (decide (z16 < (x14.wait_.length : Int))) then (Option.bind (idx x14.wait_ z16) fun x19 =>
  Option.bind (z17.ge_dk i13) fun x21 =>
  Option.bind (z17.ge_sec x21.kept_.1) fun x23 =>
  Option.bind (lenI x23.length x21.kept_.2) fun x25 =>
  Option.bind (idx x23 x19.n_) fun x27 =>
  (zAJ x14 i13 p0 nl2) (wi (z16 + 1)) (z17.st_sec x21.kept_.1 (x23.set (Int.toNat x19.n_) x19.b_))) else (zA3 p0 z17)
def qD (p0 : (Option Nat)) (w0 : Hp) : Option (Int × Hp) :=
Option.bind (zAP p0 0 w0) fun x1 =>
bif (x1 != 0) then (some (x1, w0)) else (Option.bind (yS p0 w0) fun x4 =>
bif x4.1 then (some (30, x4.2)) else (ptM p0 (none) (fun i13 =>
Option.bind (x4.2.ge_dk i13) fun x14 =>
zAJ x14 i13 p0 (x14.wait_.length + 1) 0 x4.2)))
def zAB (p0 : (List UInt8)) (o0 n0 : Nat) (p1 : Int) : Option (List UInt8) :=
Option.bind (zFb p1 ((n0 : Nat) : Int)) fun x1 =>
Option.bind (cpyI p0 o0 n0 x1.1) fun x3 =>
Option.bind (lenI x3.length p0.length) fun x5 =>
some x3
def zB0 (p0 : Int) (p1 : Int) : Option (List UInt8) :=
Option.bind (mkI 1 64) fun x1 =>
Option.bind (vcut x1 0 8) fun x3 =>
Option.bind (zAB (List.replicate x1 (0 : UInt8)) (0 + Int.toNat 0 * 1) (Int.toNat 8 - Int.toNat 0) p0) fun x5 =>
Option.bind (lenI x5.length (List.replicate x1 (0 : UInt8)).length) fun x7 =>
Option.bind (vcut x1 8 12) fun x9 =>
Option.bind (zAB x5 (0 + Int.toNat 8 * 1) (Int.toNat 12 - Int.toNat 8) p1) fun x11 =>
Option.bind (lenI x11.length x5.length) fun x13 =>
Option.bind (vcut x1 56 (x1 : Int)) fun x15 =>
Option.bind (zAB x11 (0 + Int.toNat 56 * 1) (Int.toNat (x1 : Int) - Int.toNat 56) p0) fun x17 =>
Option.bind (lenI x17.length x11.length) fun x19 =>
some x17
def zBv (p0 : (Option Nat)) (p1 : Int) (y7 : Hp) : Option (Int × Hp) :=
Option.bind (qD p0 y7) fun x8 =>
bif (x8.1 != 0) then (some (x8.1, x8.2)) else (Option.bind (zB0 1 p1) fun x11 =>
Option.bind (zX p0 0 x11 x8.2) fun x13 =>
bif (x13.1 != 0) then (some (x13.1, x13.2)) else (Option.bind (qD p0 x13.2) fun x16 =>
some (x16.1, x16.2)))
def zBR (p1 : Int) (p0 : (Option Nat)) : Nat → Int → Hp → Option (Int × Hp)
 | 0, _, _ => none
 | nl2 + 1, z18, z19 =>
  bif (decide (z18 < (wi (2 + p1)))) then (Option.bind (mkI 1 64) fun x21 =>
  Option.bind (zX p0 z18 (List.replicate x21 (0 : UInt8)) z19) fun x23 =>
  bif (x23.1 != 0) then (some (x23.1, x23.2)) else ((zBR p1 p0 nl2) (wi (z18 + 1)) x23.2)) else (zBv p0 p1 z19)
def zAh (p0 : (Option Nat)) (p1 : Int) (w0 : Hp) : Option (Int × Hp) :=
Option.bind (zAR p0 w0) fun x1 =>
bif (x1 == 0) then (some (1, w0)) else (Option.bind (zDZ p0 p1 w0) fun x4 =>
bif (!x4) then (some (2, w0)) else (zBR p1 p0 (Int.toNat (wi (2 + p1)) + 1) 1 w0))
def zBN (p0 : (Option Nat)) (w0 : Hp) : Option Bool :=
Option.bind (zAa p0 w0) fun x1 =>
bif x1 then (ptM p0 (none) (fun i5 =>
Option.bind (w0.ge_dk i5) fun x6 =>
some x6.off_)) else (some false)
def zAH (p0 : (Option Nat)) (w0 : Hp) : Option Int :=
Option.bind (zAa p0 w0) fun x1 =>
bif (!x1) then (some 0) else (ptM p0 (none) (fun i5 =>
Option.bind (w0.ge_dk i5) fun x6 =>
some x6.lives_))
def zAO (p0 : (Option Nat)) (w0 : Hp) (y1 : Bool) : Option Int :=
bif y1 then (some 1) else (ptM p0 (none) (fun i4 =>
Option.bind (w0.ge_lg i4) fun x5 =>
Option.bind (zBN x5.d_ w0) fun x7 =>
bif x7 then (some 30) else (Option.bind (zAH x5.d_ w0) fun x10 =>
bif (x10 != x5.life_) then (some 30) else (some 0))))
def yU (p0 : (Option Nat)) (w0 : Hp) : Option Int :=
ptM p0 (zAO p0 w0 true) (fun i14 =>
Option.bind (w0.ge_lg i14) fun x15 =>
ptM x15.d_ (zAO p0 w0 true) (fun i18 =>
zAO p0 w0 false))
def zBz (p0 : (Option Nat)) (w0 : Hp) : Option (Int × Hp) :=
ptM p0 (none) (fun i2 =>
Option.bind (w0.ge_lg i2) fun x3 =>
Option.bind (zB0 (wi (x3.base_ + x3.size_)) x3.size_) fun x5 =>
Option.bind (zX x3.d_ (wi (1 - x3.slot_)) x5 w0) fun x7 =>
bif (x7.1 != 0) then (some (x7.1, x7.2)) else (Option.bind (x7.2.ge_lg i2) fun x10 =>
Option.bind (qD x10.d_ x7.2) fun x12 =>
bif (x12.1 != 0) then (some (x12.1, x12.2)) else (Option.bind (x12.2.ge_lg i2) fun x15 =>
some (0, (((x12.2.st_lg i2 (zM.mk x15.d_ x15.size_ x15.base_ (wi (1 - x3.slot_)) x15.used_ x15.life_ x15.commits_)).st_lg i2 (zM.mk x15.d_ x15.size_ x15.base_ (wi (1 - x3.slot_)) 0 x15.life_ x15.commits_)).st_lg i2 (zM.mk x15.d_ x15.size_ (wi (((zM.mk x15.d_ x15.size_ x15.base_ (wi (1 - x3.slot_)) 0 x15.life_ x15.commits_).base_) + ((zM.mk x15.d_ x15.size_ x15.base_ (wi (1 - x3.slot_)) 0 x15.life_ x15.commits_).size_))) (wi (1 - x3.slot_)) 0 x15.life_ x15.commits_))))))
def zU (p0 : (Option Nat)) (w0 : Hp) : Option (Int × Hp) :=
Option.bind (yU p0 w0) fun x1 =>
bif (x1 != 0) then (some (x1, w0)) else (ptM p0 (none) (fun i5 =>
Option.bind (w0.ge_lg i5) fun x6 =>
bif (decide (x6.base_ > (wi (2305843009213693952 - x6.size_)))) then (some (3, w0)) else (Option.bind (qD x6.d_ w0) fun x9 =>
bif (x9.1 != 0) then (some (x9.1, x9.2)) else (Option.bind (zBz (some i5) x9.2) fun x12 =>
some (x12.1, x12.2)))))
def yI (p0 : (Option Nat)) (p1 : Int) (w0 : Hp) : Option ((List UInt8) × Int) :=
Option.bind (zAP p0 p1 w0) fun x1 =>
bif (x1 != 0) then (some ([], x1)) else (ptM p0 (none) (fun i5 =>
Option.bind (w0.ge_dk i5) fun x6 =>
Option.bind (w0.ge_sec x6.now_.1) fun x8 =>
Option.bind (lenI x8.length x6.now_.2) fun x10 =>
Option.bind (idx x8 p1) fun x12 =>
some ((padA (0 : UInt8) x12 0 64), 0)))
def zDH (y3 : Int) : Option (Int × Int) :=
bif (decide (y3 > 4611686018427387904)) then (some (0, 11)) else (some ((wi y3), 0))
def zCh (p0 : (List UInt8)) : Nat → Int → Int → Option (Int × Int)
 | 0, _, _ => none
 | nl2 + 1, z5, z6 =>
  bif (decide (z6 < (p0.length : Int))) then (Option.bind (idx p0 z6) fun x8 =>
  (zCh p0 nl2) (IntKind.u64.wrap ((((BitVec.ofInt IntKind.u64.bits (IntKind.u64.wrap (z5 * 2 ^ 8))) ||| (BitVec.ofInt IntKind.u64.bits (x8.toNat : Int))).toNat : Nat) : Int)) (wi (z6 + 1))) else (zDH z5)
def zDY (p0 : (List UInt8)) : Option (Int × Int) :=
bif ((p0.length : Int) == 0) then (some (0, 10)) else (bif (decide ((p0.length : Int) > 8)) then (some (0, 2)) else (zCh p0 (p0.length + 1) 0 0))
def zAI (p0 : (List UInt8)) (p1 : (UInt8 → Option Bool)) : Nat → Int → Option Int
 | 0, _ => none
 | nl1 + 1, z1 =>
  bif (decide (z1 < (p0.length : Int))) then (Option.bind (idx p0 z1) fun x3 =>
  Option.bind (p1 x3) fun x5 =>
  bif x5 then (some z1) else ((zAI p0 p1 nl1) (wi (z1 + 1)))) else (some (-1))
def zB6 (p0 : (List UInt8)) (p1 : (UInt8 → Option Bool)) : Option Int :=
zAI p0 p1 (p0.length + 1) 0
def zBW (p0 : (List UInt8)) (p1 : (UInt8 → Option Bool)) : Option Bool :=
Option.bind (zB6 p0 p1) fun x1 =>
some (decide (x1 ≥ 0))
def zCu (p0 : UInt8) : Option Bool :=
some ((p0.toNat : Int) != 0)
def zA6 (p0 : (List UInt8)) : Option Bool :=
Option.bind (zBW p0 zCu) fun x1 =>
some (!x1)
def zAc (p0 : (Option Nat)) (p1 : Int) (w0 : Hp) : Option (Int × Int × Bool) :=
Option.bind (yI p0 p1 w0) fun x1 =>
bif (x1.2 != 0) then (some (0, 0, false)) else (Option.bind (cutI x1.1 0 8) fun x4 =>
Option.bind (zDY x4) fun x6 =>
Option.bind (cutI x1.1 56 (x1.1.length : Int)) fun x8 =>
Option.bind (zDY x8) fun x10 =>
Option.bind (cutI x1.1 8 12) fun x12 =>
Option.bind (zDY x12) fun x14 =>
bif (x6.2 != 0) then (some (0, 0, false)) else (bif (x10.2 != 0) then (some (0, 0, false)) else (bif (x14.2 != 0) then (some (0, 0, false)) else (bif (x6.1 != x10.1) then (some (0, 0, false)) else (bif (decide (x6.1 < 1)) then (some (0, 0, false)) else (bif (decide (x6.1 > 2305843009213693952)) then (some (0, 0, false)) else (Option.bind (zDZ p0 x14.1 w0) fun x22 =>
bif (!x22) then (some (0, 0, false)) else (Option.bind (cutI x1.1 12 56) fun x25 =>
Option.bind (zA6 x25) fun x27 =>
bif (!x27) then (some (0, 0, false)) else (some (x6.1, x14.1, true))))))))))
def zCI (p0 : (Option Nat)) (p1 : Int) (w0 : Hp) : Option Int :=
ptM p0 (none) (fun i2 =>
Option.bind (w0.ge_lg i2) fun x3 =>
some (wi ((wi (2 + x3.size_)) + p1)))
def zAY (p1 : (List zC)) (p0 : (Option Nat)) : Nat → Int → Hp → Option (Int × Hp)
 | 0, _, _ => none
 | nl1 + 1, z1, z2 =>
  bif (decide (z1 < (p1.length : Int))) then (Option.bind (idx p1 z1) fun x4 =>
  ptM p0 (none) (fun i7 =>
  Option.bind (z2.ge_lg i7) fun x8 =>
  Option.bind (zCI (some i7) x4.Home z2) fun x10 =>
  Option.bind (zX x8.d_ x10 x4.Data z2) fun x12 =>
  bif (x12.1 != 0) then (some (x12.1, x12.2)) else ((zAY p1 p0 nl1) (wi (z1 + 1)) x12.2))) else (some (0, z2))
def zAr (p0 : (Option Nat)) (p1 : (List zC)) (w0 : Hp) : Option (Int × Hp) :=
zAY p1 p0 (p1.length + 1) 0 w0
def qP (p0 : (Option Nat)) (w0 : Hp) : Option Int :=
ptM p0 (some 0) (fun i2 =>
Option.bind (w0.ge_lg i2) fun x3 =>
ptM x3.d_ (some 0) (fun i6 =>
Option.bind (zAR x3.d_ w0) fun x7 =>
some (wi ((wi (x7 - 2)) - x3.size_))))
def zEH (y1 : Int) : Option Int :=
some (IntKind.u32.wrap ((((BitVec.ofInt IntKind.u32.bits 4294967295) ^^^ (BitVec.ofInt IntKind.u32.bits y1)).toNat : Nat) : Int))
def zC7 (kl3 : Int → Int → Option Int) (z8 : Int) : Nat → Int → Int → Option Int
 | 0, _, _ => none
 | nl4 + 1, z12, z13 =>
  bif (decide (z13 < 8)) then (bif ((IntKind.u32.wrap ((((BitVec.ofInt IntKind.u32.bits z12) &&& (BitVec.ofInt IntKind.u32.bits 1)).toNat : Nat) : Int)) == 1) then ((zC7 kl3 z8 nl4) (IntKind.u32.wrap ((((BitVec.ofInt IntKind.u32.bits (Int.fdiv z12 (2 ^ 1))) ^^^ (BitVec.ofInt IntKind.u32.bits 3988292384)).toNat : Nat) : Int)) (wi (z13 + 1))) else ((zC7 kl3 z8 nl4) (Int.fdiv z12 (2 ^ 1)) (wi (z13 + 1)))) else (kl3 z12 (wi (z8 + 1)))
def zCY (kl2 : Int → Int → Option Int) (x5 : (List UInt8)) (z3 : Int) : Nat → Int → Int → Option Int
 | 0, _, _ => none
 | nl3 + 1, z7, z8 =>
  bif (decide (z8 < (x5.length : Int))) then (Option.bind (idx x5 z8) fun x10 =>
  zC7 (zCY kl2 x5 z3 nl3) z8 (Int.toNat 8 + 1) (IntKind.u32.wrap ((((BitVec.ofInt IntKind.u32.bits z7) ^^^ (BitVec.ofInt IntKind.u32.bits (x10.toNat : Int))).toNat : Nat) : Int)) 0) else (kl2 z7 (wi (z3 + 1)))
def zB4 (p0 : (List (List UInt8))) : Nat → Int → Int → Option Int
 | 0, _, _ => none
 | nl2 + 1, z2, z3 =>
  bif (decide (z3 < (p0.length : Int))) then (Option.bind (idx p0 z3) fun x5 =>
  zCY (zB4 p0 nl2) x5 z3 (x5.length + 1) z2 0) else (zEH z2)
def zF3 (p0 : (List (List UInt8))) : Option Int :=
zB4 p0 (p0.length + 1) 4294967295 0
def zAW (p0 : zV) (p1 : Int) : Option (List UInt8) :=
Option.bind (mkI 1 64) fun x1 =>
Option.bind (idx (List.replicate x1 (0 : UInt8)) 0) fun x3 =>
Option.bind (vcut x1 1 5) fun x5 =>
Option.bind (zAB ((List.replicate x1 (0 : UInt8)).set (Int.toNat 0) (U8 p0.kind_)) (0 + Int.toNat 1 * 1) (Int.toNat 5 - Int.toNat 1) p0.number_) fun x7 =>
Option.bind (lenI x7.length ((List.replicate x1 (0 : UInt8)).set (Int.toNat 0) (U8 p0.kind_)).length) fun x9 =>
Option.bind (vcut x1 5 37) fun x11 =>
Option.bind (cpyI x7 (0 + Int.toNat 5 * 1) (Int.toNat 37 - Int.toNat 5) p0.data_) fun x13 =>
Option.bind (lenI x13.length x7.length) fun x15 =>
Option.bind (vcut x1 56 (x1 : Int)) fun x17 =>
Option.bind (zAB x13 (0 + Int.toNat 56 * 1) (Int.toNat (x1 : Int) - Int.toNat 56) p1) fun x19 =>
Option.bind (lenI x19.length x13.length) fun x21 =>
Option.bind (vcut x1 52 56) fun x23 =>
Option.bind (vcut x1 0 52) fun x25 =>
Option.bind (vcut x1 56 (x1 : Int)) fun x27 =>
Option.bind (zE0 x19 (0 + Int.toNat 0 * 1) (Int.toNat 52 - Int.toNat 0)) fun x29 =>
Option.bind (zE0 x19 (0 + Int.toNat 56 * 1) (Int.toNat (x1 : Int) - Int.toNat 56)) fun x31 =>
Option.bind (zF3 [x29, x31]) fun x33 =>
Option.bind (zAB x19 (0 + Int.toNat 52 * 1) (Int.toNat 56 - Int.toNat 52) (wi x33)) fun x35 =>
Option.bind (lenI x35.length x19.length) fun x37 =>
some x35
def zBU (p0 : (List UInt8)) (p1 : (List UInt8)) : Nat → Int → Option Bool
 | 0, _ => none
 | nl1 + 1, z2 =>
  bif (decide (z2 < (p0.length : Int))) then (Option.bind (idx p0 z2) fun x4 =>
  Option.bind (idx p1 z2) fun x6 =>
  bif ((x4.toNat : Int) != (x6.toNat : Int)) then (some false) else ((zBU p0 p1 nl1) (wi (z2 + 1)))) else (some true)
def zCA (p0 : (List UInt8)) (p1 : (List UInt8)) : Option Bool :=
bif ((p0.length : Int) != (p1.length : Int)) then (some false) else (zBU p0 p1 (p0.length + 1) 0)
def zAg (p0 : (Option Nat)) (p1 : Int) (w0 : Hp) : Option zV :=
ptM p0 (none) (fun i2 =>
Option.bind (w0.ge_lg i2) fun x3 =>
bif (decide (p1 ≥ x3.size_)) then (some (zV.mk 0 0 [] false)) else (Option.bind (yI x3.d_ (wi (2 + p1)) w0) fun x6 =>
bif (x6.2 != 0) then (some (zV.mk 0 0 [] false)) else (Option.bind (idx x6.1 0) fun x9 =>
Option.bind (cutI x6.1 5 37) fun x11 =>
Option.bind (cutI x6.1 1 5) fun x13 =>
Option.bind (zDY x13) fun x15 =>
Option.bind (zAW (zV.mk (x9.toNat : Int) x15.1 x11 false) (wi (x3.base_ + p1))) fun x17 =>
Option.bind (zCA x6.1 x17) fun x19 =>
some (zV.mk (x9.toNat : Int) x15.1 x11 x19))))
def zCa (p1 : Int) : Option (List UInt8) :=
bif (decide (p1 < 0)) then (none) else (bif (decide ((wi (p1 - (wi (0 - 0)))) > 0)) then (Option.bind (growI 1 (wi (p1 - (wi (0 - 0))))) fun x3 =>
some []) else (some []))
def yP (p0 : (List (List UInt8))) : Nat → (List UInt8) → Int → Option (List UInt8)
 | 0, _, _ => none
 | nl2 + 1, z4, z5 =>
  bif (decide (z5 < (p0.length : Int))) then (Option.bind (idx p0 z5) fun x7 =>
  Option.bind (appI 1 z4 x7) fun x9 =>
  (yP p0 nl2) x9 (wi (z5 + 1))) else (some z4)
def zA4 (p0 : (List (List UInt8))) (y1 : Int) : Option (List UInt8) :=
Option.bind (zCa y1) fun x2 =>
yP p0 (p0.length + 1) x2 0
def yR (p0 : (List (List UInt8))) : Nat → Int → Int → Option (List UInt8)
 | 0, _, _ => none
 | nl3 + 1, z11, z12 =>
  bif (decide (z12 < (p0.length : Int))) then (Option.bind (idx p0 z12) fun x14 =>
  bif (decide ((wi (z11 + (x14.length : Int))) < 0)) then (none) else ((yR p0 nl3) (wi (z11 + (x14.length : Int))) (wi (z12 + 1)))) else (zA4 p0 z11)
def zAf (p0 : (List (List UInt8))) : Option (List UInt8) :=
yR p0 (p0.length + 1) 0 0
def zCt (kl1 : (List zC) → Int → Option ((List zC) × Int)) (p0 : (Option Nat)) (z2 : Int) (w0 : Hp) (x3 : zV) (z1 : (List zC)) (y5 : (Option Nat)) (y6 : Int) (y7 : Bool) : Option ((List zC) × Int) :=
Option.bind (zAg p0 (wi (z2 + 1)) w0) fun x8 =>
bif (!x8.ok_) then (some ([], 0)) else (bif (x8.kind_ != 2) then (some ([], 0)) else (bif (x8.number_ != x3.number_) then (some ([], 0)) else (Option.bind (zAf [x3.data_, x8.data_]) fun x13 =>
Option.bind (appI 32 z1 [(zC.mk x3.number_ x13)]) fun x15 =>
kl1 x15 (wi (z2 + 2)))))
def qE (kl1 : (List zC) → Int → Option ((List zC) × Int)) (z1 : (List zC)) (z2 : Int) (p1 : Int) (x3 : zV) (p0 : (Option Nat)) (w0 : Hp) (y18 : Bool) : Option ((List zC) × Int) :=
bif y18 then (some (z1, (wi ((wi (z2 + 1)) - p1)))) else (bif (x3.kind_ != 1) then (some ([], 0)) else (ptM p0 (Option.bind (qP none w0) fun x23 =>
bif (decide (x3.number_ ≥ x23)) then (some ([], 0)) else (zCt kl1 p0 z2 w0 x3 z1 none x23 (decide (x3.number_ ≥ x23)))) (fun i22 =>
Option.bind (qP (some i22) w0) fun x26 =>
bif (decide (x3.number_ ≥ x26)) then (some ([], 0)) else (zCt kl1 p0 z2 w0 x3 z1 (some i22) x26 (decide (x3.number_ ≥ x26))))))
def qA (p0 : (Option Nat)) (w0 : Hp) (p1 : Int) : Nat → (List zC) → Int → Option ((List zC) × Int)
 | 0, _, _ => none
 | nl1 + 1, z1, z2 =>
  Option.bind (zAg p0 z2 w0) fun x3 =>
  bif (!x3.ok_) then (some ([], 0)) else (bif (x3.kind_ == 3) then (bif (decide ((z1.length : Int) > 0)) then (bif (x3.number_ == (z1.length : Int)) then (Option.bind (zA6 x3.data_) fun x32 =>
  qE (qA p0 w0 p1 nl1) z1 z2 p1 x3 p0 w0 x32) else (qE (qA p0 w0 p1 nl1) z1 z2 p1 x3 p0 w0 false)) else (qE (qA p0 w0 p1 nl1) z1 z2 p1 x3 p0 w0 false)) else (qE (qA p0 w0 p1 nl1) z1 z2 p1 x3 p0 w0 false))
def zEd (p0 : (Option Nat)) (p1 : Int) (w0 : Hp) : Option ((List zC) × Int) :=
qA p0 w0 p1 (16400) [] p1
def zBB (p0 : (Option Nat)) (w0 : Hp) : Nat → (List zC) → Int → Option (List zC)
 | 0, _, _ => none
 | nl1 + 1, z1, z2 =>
  Option.bind (zEd p0 z2 w0) fun x3 =>
  bif (x3.2 == 0) then (some z1) else (Option.bind (appI 32 z1 x3.1) fun x6 =>
  (zBB p0 w0 nl1) x6 (wi (z2 + x3.2)))
def zCE (p0 : (Option Nat)) (w0 : Hp) : Option (List zC) :=
zBB p0 w0 (16400) [] 0
def zDx (w0 : Hp) (y11 : Hp) : Option ((Option Nat) × Int × Hp) :=
Option.bind (y11.ge_lg w0.ln_lg) fun x12 =>
bif (x12.base_ == 0) then (some (none, 11, y11)) else (bif (decide (x12.base_ > (wi (2305843009213693952 - x12.size_)))) then (some (none, 3, y11)) else (Option.bind (zCE (some w0.ln_lg) y11) fun x16 =>
Option.bind (zAr (some w0.ln_lg) x16 y11) fun x18 =>
bif (x18.1 != 0) then (some (none, x18.1, x18.2)) else (Option.bind (zU (some w0.ln_lg) x18.2) fun x21 =>
bif (x21.1 != 0) then (some (none, x21.1, x21.2)) else (some ((some w0.ln_lg), 0, x21.2)))))
def zDC (kl2 : Int → Hp → Option ((Option Nat) × Int × Hp)) (z25 : Hp) (w0 : Hp) (z24 : Int) (x27 : (Int × Int × Bool)) (y29 : Bool) : Option ((Option Nat) × Int × Hp) :=
bif y29 then (Option.bind (z25.ge_lg w0.ln_lg) fun x31 =>
kl2 (wi (z24 + 1)) (((z25.st_lg w0.ln_lg (zM.mk x31.d_ x31.size_ x27.1 x31.slot_ x31.used_ x31.life_ x31.commits_)).st_lg w0.ln_lg (zM.mk x31.d_ x27.2.1 x27.1 x31.slot_ x31.used_ x31.life_ x31.commits_)).st_lg w0.ln_lg (zM.mk x31.d_ x27.2.1 x27.1 z24 x31.used_ x31.life_ x31.commits_))) else (kl2 (wi (z24 + 1)) z25)
def zBh (w0 : Hp) : Nat → Int → Hp → Option ((Option Nat) × Int × Hp)
 | 0, _, _ => none
 | nl2 + 1, z24, z25 =>
  bif (decide (z24 < 2)) then (Option.bind (zAc none z24 z25) fun x27 =>
  bif x27.2.2 then (Option.bind (z25.ge_lg w0.ln_lg) fun x34 =>
  zDC (zBh w0 nl2) z25 w0 z24 x27 (decide (x27.1 > x34.base_))) else (zDC (zBh w0 nl2) z25 w0 z24 x27 false)) else (zDx w0 z25)
def zCj (w0 : Hp) (y38 : Hp) : Option ((Option Nat) × Int × Hp) :=
Option.bind (y38.ge_lg w0.ln_lg) fun x39 =>
bif (x39.base_ == 0) then (some (none, 11, y38)) else (bif (decide (x39.base_ > (wi (2305843009213693952 - x39.size_)))) then (some (none, 3, y38)) else (Option.bind (zCE (some w0.ln_lg) y38) fun x43 =>
Option.bind (zAr (some w0.ln_lg) x43 y38) fun x45 =>
bif (x45.1 != 0) then (some (none, x45.1, x45.2)) else (Option.bind (zU (some w0.ln_lg) x45.2) fun x48 =>
bif (x48.1 != 0) then (some (none, x48.1, x48.2)) else (some ((some w0.ln_lg), 0, x48.2)))))
def zBk (kl5 : Int → Hp → Option ((Option Nat) × Int × Hp)) (z52 : Hp) (w0 : Hp) (z51 : Int) (x54 : (Int × Int × Bool)) (y56 : Bool) : Option ((Option Nat) × Int × Hp) :=
bif y56 then (Option.bind (z52.ge_lg w0.ln_lg) fun x58 =>
kl5 (wi (z51 + 1)) (((z52.st_lg w0.ln_lg (zM.mk x58.d_ x58.size_ x54.1 x58.slot_ x58.used_ x58.life_ x58.commits_)).st_lg w0.ln_lg (zM.mk x58.d_ x54.2.1 x54.1 x58.slot_ x58.used_ x58.life_ x58.commits_)).st_lg w0.ln_lg (zM.mk x58.d_ x54.2.1 x54.1 z51 x58.used_ x58.life_ x58.commits_))) else (kl5 (wi (z51 + 1)) z52)
def qW (i8 : Nat) (w0 : Hp) : Nat → Int → Hp → Option ((Option Nat) × Int × Hp)
 | 0, _, _ => none
 | nl5 + 1, z51, z52 =>
  bif (decide (z51 < 2)) then (Option.bind (zAc (some i8) z51 z52) fun x54 =>
  bif x54.2.2 then (Option.bind (z52.ge_lg w0.ln_lg) fun x61 =>
  zBk (qW i8 w0 nl5) z52 w0 z51 x54 (decide (x54.1 > x61.base_))) else (zBk (qW i8 w0 nl5) z52 w0 z51 x54 false)) else (zCj w0 z52)
def zBs (p0 : (Option Nat)) (w0 : Hp) : Option ((Option Nat) × Int × Hp) :=
Option.bind (zAR p0 w0) fun x1 =>
bif (x1 == 0) then (some (none, 1, w0)) else (Option.bind (zBN p0 w0) fun x4 =>
bif x4 then (some (none, 30, w0)) else (ptM p0 (Option.bind (zAH none w0) fun x9 =>
zBh w0 (Int.toNat 2 + 1) 0 (w0.nw_lg (zM.mk none 0 0 0 0 x9 0))) (fun i8 =>
Option.bind (zAH (some i8) w0) fun x36 =>
qW i8 w0 (Int.toNat 2 + 1) 0 (w0.nw_lg (zM.mk (some i8) 0 0 0 0 x36 0)))))
def zBo (p0 : (Option Nat)) (w0 : Hp) : Option Int :=
ptM p0 (some 0) (fun i2 =>
Option.bind (w0.ge_lg i2) fun x3 =>
some (wi (x3.size_ - x3.used_)))
def zDp (p0 : (List zC)) (y1 : (List zV)) : Option (List zV) :=
Option.bind (appI 48 y1 [(zV.mk 3 (p0.length : Int) [] false)]) fun x2 =>
some x2
def zCB (p0 : (List zC)) : Nat → (List zV) → Int → Option (List zV)
 | 0, _, _ => none
 | nl2 + 1, z4, z5 =>
  bif (decide (z5 < (p0.length : Int))) then (Option.bind (idx p0 z5) fun x7 =>
  Option.bind (cutI x7.Data 0 32) fun x9 =>
  Option.bind (cutI x7.Data 32 (x7.Data.length : Int)) fun x11 =>
  Option.bind (appI 48 z4 [(zV.mk 1 x7.Home x9 false), (zV.mk 2 x7.Home x11 false)]) fun x13 =>
  (zCB p0 nl2) x13 (wi (z5 + 1))) else (zDp p0 z4)
def zEq (p0 : (List zC)) : Option (List zV) :=
zCB p0 (p0.length + 1) [] 0
def zAn (p0 : (Option Nat)) (p1 : (List zC)) (y5 : Hp) : Option (Int × Hp) :=
ptM p0 (none) (fun i7 =>
Option.bind (y5.ge_lg i7) fun x8 =>
Option.bind (qD x8.d_ y5) fun x10 =>
bif (x10.1 != 0) then (some (x10.1, x10.2)) else (Option.bind (x10.2.ge_lg i7) fun x13 =>
Option.bind (zAr (some i7) p1 ((x10.2.st_lg i7 (zM.mk x13.d_ x13.size_ x13.base_ x13.slot_ (wi (x13.used_ + (wi ((wi (2 * (p1.length : Int))) + 1)))) x13.life_ x13.commits_)).st_lg i7 (zM.mk x13.d_ x13.size_ x13.base_ x13.slot_ (wi (x13.used_ + (wi ((wi (2 * (p1.length : Int))) + 1)))) x13.life_ (wi (((zM.mk x13.d_ x13.size_ x13.base_ x13.slot_ (wi (x13.used_ + (wi ((wi (2 * (p1.length : Int))) + 1)))) x13.life_ x13.commits_).commits_) + 1))))) fun x15 =>
some (x15.1, x15.2)))
def zAC (x17 : (List zV)) (p0 : (Option Nat)) (p1 : (List zC)) : Nat → Int → Hp → Option (Int × Hp)
 | 0, _, _ => none
 | nl4 + 1, z19, z20 =>
  bif (decide (z19 < (x17.length : Int))) then (Option.bind (idx x17 z19) fun x22 =>
  ptM p0 (none) (fun i25 =>
  Option.bind (z20.ge_lg i25) fun x26 =>
  Option.bind (zAW x22 (wi (x26.base_ + (wi (x26.used_ + z19))))) fun x28 =>
  Option.bind (zX x26.d_ (wi (2 + (wi (x26.used_ + z19)))) x28 z20) fun x30 =>
  bif (x30.1 != 0) then (some (x30.1, x30.2)) else ((zAC x17 p0 p1 nl4) (wi (z19 + 1)) x30.2))) else (zAn p0 p1 z20)
def zAD (p1 : (List zC)) (p0 : (Option Nat)) (y4 : Hp) : Option (Int × Hp) :=
Option.bind (zEq p1) fun x17 =>
zAC x17 p0 p1 (x17.length + 1) 0 y4
def zAU (p0 : (Option Nat)) (w0 : Hp) (p1 : (List zC)) : Option (Int × Hp) :=
ptM p0 (none) (fun i34 =>
Option.bind (w0.ge_lg i34) fun x35 =>
bif (decide ((wi ((wi (2 * (p1.length : Int))) + 1)) > x35.size_)) then (some (3, w0)) else (bif ((p1.length : Int) == 0) then (some (0, w0)) else (Option.bind (zBo (some i34) w0) fun x39 =>
bif (decide ((wi ((wi (2 * (p1.length : Int))) + 1)) > x39)) then (Option.bind (zU (some i34) w0) fun x42 =>
bif (x42.1 != 0) then (some (x42.1, x42.2)) else (zAD p1 p0 x42.2)) else (zAD p1 p0 w0))))
def qN (p1 : (List zC)) (w0 : Hp) (p0 : (Option Nat)) : Nat → Int → Option (Int × Hp)
 | 0, _ => none
 | nl5 + 1, z45 =>
  bif (decide (z45 < (p1.length : Int))) then (Option.bind (idx p1 z45) fun x47 =>
  bif (decide (x47.Home < 0)) then (some (2, w0)) else (ptM p0 (Option.bind (qP none w0) fun x52 =>
  bif (decide (x47.Home ≥ x52)) then (some (2, w0)) else (bif ((x47.Data.length : Int) != 64) then (some (2, w0)) else ((qN p1 w0 p0 nl5) (wi (z45 + 1))))) (fun i51 =>
  Option.bind (qP (some i51) w0) fun x56 =>
  bif (decide (x47.Home ≥ x56)) then (some (2, w0)) else (bif ((x47.Data.length : Int) != 64) then (some (2, w0)) else ((qN p1 w0 p0 nl5) (wi (z45 + 1))))))) else (zAU p0 w0 p1)
def qJ (p0 : (Option Nat)) (p1 : (List zC)) (w0 : Hp) : Option (Int × Hp) :=
Option.bind (yU p0 w0) fun x1 =>
bif (x1 != 0) then (some (x1, w0)) else (qN p1 w0 p0 (p1.length + 1) 0)
def yW (p0 : (Option Nat)) (p1 : Int) (w0 : Hp) : Option ((List UInt8) × Int) :=
Option.bind (yU p0 w0) fun x1 =>
bif (x1 != 0) then (some ([], x1)) else (bif (decide (p1 < 0)) then (some ([], 31)) else (Option.bind (qP p0 w0) fun x5 =>
bif (decide (p1 ≥ x5)) then (some ([], 31)) else (ptM p0 (none) (fun i9 =>
Option.bind (w0.ge_lg i9) fun x10 =>
Option.bind (zCI (some i9) p1 w0) fun x12 =>
Option.bind (yI x10.d_ x12 w0) fun x14 =>
some (x14.1, x14.2)))))
def zCG (p0 : (Option Nat)) (w0 : Hp) : Option Int :=
ptM p0 (some 0) (fun i2 =>
Option.bind (w0.ge_lg i2) fun x3 =>
some x3.base_)
def yX (p0 : (Option Nat)) (y4 : Hp) : Option (Int × Hp) :=
ptM p0 (none) (fun i6 =>
Option.bind (y4.ge_dk i6) fun x7 =>
Option.bind (y4.ge_sec x7.kept_.1) fun x9 =>
Option.bind (lenI x9.length x7.kept_.2) fun x11 =>
Option.bind (zCU x9) fun x13 =>
bif x13.isEmpty then none else (some (0, ((((((y4.nw_sec x13).st_dk i6 (zH.mk x7.kept_ x7.now_ [] x7.fuse_ x7.off_ x7.lives_)).st_dk i6 (zH.mk x7.kept_ (y4.ln_sec, x13.length) [] x7.fuse_ x7.off_ x7.lives_)).st_dk i6 (zH.mk x7.kept_ (y4.ln_sec, x13.length) [] (-1) x7.off_ x7.lives_)).st_dk i6 (zH.mk x7.kept_ (y4.ln_sec, x13.length) [] (-1) false x7.lives_)).st_dk i6 (zH.mk x7.kept_ (y4.ln_sec, x13.length) [] (-1) false (wi (((zH.mk x7.kept_ (y4.ln_sec, x13.length) [] (-1) false x7.lives_).lives_) + 1)))))))
def zAL (x18 : zH) (p1 : (List UInt8)) (p0 : (Option Nat)) (i17 : Nat) : Nat → Int → Hp → Option (Int × Hp)
 | 0, _, _ => none
 | nl2 + 1, z20, z21 =>
  bif (decide (z20 < (x18.wait_.length : Int))) then (Option.bind (idx x18.wait_ z20) fun x23 =>
  bif (decide (z20 ≥ (p1.length : Int))) then (yX p0 z21) else (Option.bind (idx p1 z20) fun x26 =>
  Option.bind (z21.ge_dk i17) fun x28 =>
  Option.bind (z21.ge_sec x28.kept_.1) fun x30 =>
  Option.bind (lenI x30.length x28.kept_.2) fun x32 =>
  Option.bind (idx x30 x23.n_) fun x34 =>
  Option.bind (vcut 64 0 (if 64 < (x26.toNat : Int) then 64 else (x26.toNat : Int))) fun x36 =>
  Option.bind (cutI (padA (0 : UInt8) x23.b_ 0 64) 0 (if 64 < (x26.toNat : Int) then 64 else (x26.toNat : Int))) fun x38 =>
  (zAL x18 p1 p0 i17 nl2) (wi (z20 + 1)) (z21.st_sec x28.kept_.1 (x30.set (Int.toNat x23.n_) (cpyL (padA (0 : UInt8) x34 0 64) 0 (Int.toNat (if 64 < (x26.toNat : Int) then 64 else (x26.toNat : Int)) - Int.toNat 0) x38))))) else (yX p0 z21)
def zAZ (p0 : (Option Nat)) (p1 : (List UInt8)) (w0 : Hp) : Option (Int × Hp) :=
Option.bind (zAa p0 w0) fun x1 =>
bif (!x1) then (some (1, w0)) else (ptM p0 (none) (fun i17 =>
Option.bind (w0.ge_dk i17) fun x18 =>
zAL x18 p1 p0 i17 (x18.wait_.length + 1) 0 w0))
end Go.Proofs.YtjomnccladjpgaaGreat

/-
 Models of functions: printed by a program of this claim's own (gen.py) off the given translation.
-/
namespace Go.Proofs.YtjomnccladjpgaaGreat
open Go Go.RowKit
set_option linter.unusedVariables false
def zDE (p0 : (Option Nat)) (w0 : Hp) : Option ((Option Nat) × Int × Hp) :=
Option.bind (yU p0 w0) fun x1 =>
bif (x1 != 0) then (some (none, x1, w0)) else (ptM p0 (none) (fun i5 =>
Option.bind (w0.ge_lg i5) fun x6 =>
some ((some (w0.nw_mp ([] : (List (Int × (List UInt8))))).ln_tx), 0, ((w0.nw_mp ([] : (List (Int × (List UInt8))))).nw_tx (yN.mk (some i5) x6.commits_ false w0.ln_mp)))))
def zAs (p0 : (Option Nat)) (w0 : Hp) : Option Int :=
ptM p0 (some 1) (fun i2 =>
Option.bind (w0.ge_tx i2) fun x3 =>
Option.bind (yU x3.l_ w0) fun x5 =>
bif (x5 != 0) then (some x5) else (bif x3.over_ then (some 34) else (ptM x3.l_ (none) (fun i10 =>
Option.bind (w0.ge_lg i10) fun x11 =>
bif (x3.at_ != x11.commits_) then (some 34) else (some 0)))))
def zCp (p0 : (Option Nat)) (p1 : Int) (w0 : Hp) : Option ((List UInt8) × Int) :=
Option.bind (zAs p0 w0) fun x1 =>
bif (x1 != 0) then (some ([], x1)) else (ptM p0 (none) (fun i5 =>
Option.bind (w0.ge_tx i5) fun x6 =>
Option.bind (w0.ge_mp x6.now_) fun x8 =>
bif (zAu x8 p1).isSome then (Option.bind (zBF ((zAu x8 p1).getD ([] : (List UInt8)))) fun x11 =>
some (x11, 0)) else (Option.bind (yW x6.l_ p1 w0) fun x13 =>
some (x13.1, x13.2))))
def zBw (p0 : (Option Nat)) (p1 : Int) (p2 : (List UInt8)) (w0 : Hp) : Option (Int × Hp) :=
Option.bind (zAs p0 w0) fun x1 =>
bif (x1 != 0) then (some (x1, w0)) else (bif (decide (p1 < 0)) then (some (31, w0)) else (ptM p0 (none) (fun i6 =>
Option.bind (w0.ge_tx i6) fun x7 =>
Option.bind (qP x7.l_ w0) fun x9 =>
bif (decide (p1 ≥ x9)) then (some (31, w0)) else (bif ((p2.length : Int) != 64) then (some (2, w0)) else (Option.bind (zBF p2) fun x13 =>
Option.bind (w0.ge_mp x7.now_) fun x15 =>
some (0, (w0.st_mp x7.now_ (mset x15 p1 x13))))))))
def zBZ (p0 : (Option Nat)) (w0 : Hp) : Option Int :=
ptM p0 (some 0) (fun i2 =>
Option.bind (w0.ge_tx i2) fun x3 =>
Option.bind (w0.ge_mp x3.now_) fun x5 =>
some (x5.length : Int))
end Go.Proofs.YtjomnccladjpgaaGreat

/-
 Models of functions: printed by a program of this claim's own (gen.py) off the given translation.
-/
namespace Go.Proofs.YtjomnccladjpgaaGreat
open Go Go.RowKit
set_option linter.unusedVariables false
structure zAx where
 Kind : Int
 N : Int
 W : (List zC)
 B : (List UInt8)
abbrev zBK (x : zAx) : List D := [.lit (.int .i64 x.Kind), .lit (.int .i64 x.N), .seq 2 (List.map zB x.W), .seq 1 (zN x.B)]
def zDF (p0 : (List UInt8)) (p1 : (List UInt8)) : Nat → Int → Option Bool
 | 0, _ => none
 | nl1 + 1, z2 =>
  bif (decide (z2 < (p0.length : Int))) then (Option.bind (idx p0 z2) fun x4 =>
  Option.bind (idx p1 z2) fun x6 =>
  bif ((x4.toNat : Int) != (x6.toNat : Int)) then (some false) else ((zDF p0 p1 nl1) (wi (z2 + 1)))) else (some true)
def zAe (p0 : (List UInt8)) (p1 : (List UInt8)) : Option Bool :=
bif ((p0.length : Int) != (p1.length : Int)) then (some false) else (zDF p0 p1 (p0.length + 1) 0)
def zEj (x1 : Nat) (p0 : UInt8) : Nat → Int → (List UInt8) → Option (List UInt8)
 | 0, _, _ => none
 | nl1 + 1, z3, z4 =>
  bif (decide (z3 < ((x1 : Nat) : Int))) then (Option.bind (idx z4 z3) fun x6 =>
  (zEj x1 p0 nl1) (wi (z3 + 1)) (z4.set (Int.toNat z3) p0)) else (some z4)
def zFi (p0 : UInt8) : Option (List UInt8) :=
Option.bind (mkI 1 64) fun x1 =>
zEj x1 p0 (Int.toNat ((x1 : Nat) : Int) + 1) 0 (List.replicate x1 (0 : UInt8))
def zD8 (w0 : Hp) : Option (Bool × Hp) :=
Option.bind (zCl 6 w0) fun x1 =>
bif (x1.2.1 != 0) then (some (false, x1.2.2)) else (Option.bind (zAh x1.1 3 x1.2.2) fun x4 =>
bif (x4.1 != 0) then (some (false, x4.2)) else (Option.bind (zBs x1.1 x4.2) fun x7 =>
bif (x7.2.1 != 0) then (some (false, x7.2.2)) else (Option.bind (qP x7.1 x7.2.2) fun x10 =>
bif (x10 != 1) then (some (false, x7.2.2)) else (Option.bind (zCG x7.1 x7.2.2) fun x13 =>
bif (x13 != 4) then (some (false, x7.2.2)) else (Option.bind (zFi 5) fun x16 =>
Option.bind (qJ x7.1 [(zC.mk 0 x16)] x7.2.2) fun x18 =>
bif (x18.1 != 0) then (some (false, x18.2)) else (Option.bind (yW x7.1 0 x18.2) fun x21 =>
bif (x21.2 == 0) then (Option.bind (zFi 5) fun x24 =>
Option.bind (zAe x21.1 x24) fun x26 =>
bif x26 then (Option.bind (zBo x7.1 x18.2) fun x29 =>
some ((x29 == 0), x18.2)) else (some (false, x18.2))) else (some (false, x18.2))))))))
def zAv (p0 : (List zC)) : Nat → Int → Option Bool
 | 0, _ => none
 | nl1 + 1, z2 =>
  bif (decide (z2 < (p0.length : Int))) then (Option.bind (idx p0 z2) fun x4 =>
  bif (decide ((x4.Data.length : Int) > 100)) then (some false) else ((zAv p0 nl1) (wi (z2 + 1)))) else (some true)
def zDI (p0 : (List zC)) : Option Bool :=
bif (decide ((p0.length : Int) > 10)) then (some false) else (zAv p0 (p0.length + 1) 0)
def zFJ (p0 : (List zAx)) : Option Bool :=
some (decide ((p0.length : Int) ≤ 30))
def zDk (p0 : (List zAx)) : Nat → Int → Option Bool
 | 0, _ => none
 | nl2 + 1, z1 =>
  bif (decide (z1 < (p0.length : Int))) then (Option.bind (idx p0 z1) fun x3 =>
  bif (decide ((x3.B.length : Int) > 100)) then (some false) else (Option.bind (zDI x3.W) fun x6 =>
  bif (!x6) then (some false) else ((zDk p0 nl2) (wi (z1 + 1))))) else (zFJ p0)
def zHG (p0 : (List zAx)) : Option Bool :=
zDk p0 (p0.length + 1) 0
end Go.Proofs.YtjomnccladjpgaaGreat
