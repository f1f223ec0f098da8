/-
  What calls hand back: bytes, in new memory.
-/
import Derived.Test.YteopjhakjeknaaaDoorApp
import Derived.Test.YteopjhakjeknaaaDoorBe
import Derived.Test.YteopjhakjeknaaaDoorProg
namespace Go.Proofs.YteopjhakjeknaaaDoor
open Go.RowKit

theorem el_u8 : ElemOf Tryd.prog 22 5 1 1 := .mk' (z := .int .u8 0) Tryd.underlying22 (by kernel_rfl) rfl (by decide) (by decide)

/-- Bytes behind A, in memory that is newer than w. -/
def New (w w' : World) (A : Option Addr) (bs : List UInt8) : Prop := Byt w' A bs ∧ ∀ ad, A = some ad → w.heap.size ≤ ad.block
theorem New.from {w w1 w' : World} {A : Option Addr} {bs : List UInt8} (h : New w1 w' A bs) (hs : w.heap.size ≤ w1.heap.size) : New w w' A bs := ⟨h.1, fun ad e => Nat.le_trans hs (h.2 ad e)⟩

/-- The call hands back bytes; nothing that was there has turned. -/
def GivesB (bs : List UInt8) (w : World) (e : Ending) (w' : World) : Prop := ∃ A c, e = .returned (.slice A bs.length c) ∧ New w w' A bs ∧ (bs.length ≤ c ∧ c ≤ maxLen) ∧ Below w.heap.size w w'
/-- .. and an error's number beside them. -/
def GivesBE (bs : List UInt8) (er : Int) (w : World) (e : Ending) (w' : World) : Prop := ∃ A c, e = .returned (.tuple #[.slice A bs.length c, .int .i64 er]) ∧ New w w' A bs ∧ (bs.length ≤ c ∧ c ≤ maxLen) ∧ Below w.heap.size w w'

theorem Own.byt {w : World} {B : Nat} {e : TypeId} {A : Option Addr} {n c : Nat} {bs : List UInt8} (h : Own w B e 1 A n c (u8s bs)) : (Byt w A bs ∧ ∀ ad, A = some ad → B ≤ ad.block) ∧ bs.length = n ∧ (bs.length ≤ c ∧ c ≤ maxLen) :=
  ⟨⟨h.row, fun ad e => (h.lt ad.block (by rw [e]; rfl)).1⟩, by have := h.len; rw [u8s_length] at this; omega, ⟨by have := h.len; have := h.cap; rw [u8s_length] at *; omega, h.capMax⟩⟩

end Go.Proofs.YteopjhakjeknaaaDoor
