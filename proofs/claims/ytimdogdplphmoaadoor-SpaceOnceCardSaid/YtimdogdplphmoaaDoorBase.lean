/-
  Words for walks over data.
-/
import Derived.Test.YtimdogdplphmoaaDoorDrawRule
import Derived.Test.YtimdogdplphmoaaDoorChecked
namespace Go.Proofs.YtimdogdplphmoaaDoor
open Go Go.RowKit
theorem bytesD_get (x : List UInt8) (i : Nat) (h : i < x.length) : (bytesD x).getD (i : Int).toNat [] = [.lit (.int .u8 (x[i].toNat : Int))] := by
  unfold bytesD
  rw [Int.toNat_natCast, List.getD_eq_getElem?_getD, List.getElem?_map, List.getElem?_eq_getElem h]
  rfl
theorem bytesD_length (x : List UInt8) : (bytesD x).length = x.length := by simp [bytesD]
abbrev boolA (b : Bool) : A := .t (.d (.lit (.bool b)))
abbrev intA (n : Int) : A := .t (.d (.lit (.int .i64 n)))
abbrev bytA (x : List UInt8) : A := .t (.d (.seq 1 (bytesD x)))
/-- The number in a slot: for a loop's measure. -/
def numA : A → Int | .t (.d (.lit (.int _ n))) => n | _ => 0
theorem wrap_id {z : Int} (h1 : -9223372036854775808 ≤ z) (h2 : z ≤ 9223372036854775807) : IntKind.i64.wrap z = z := IntWalk.i64_in z ⟨h1, h2⟩

theorem mixed : Tryd.prog.follows .mixedOrders = true := by kernel_rfl
end Go.Proofs.YtimdogdplphmoaaDoor
