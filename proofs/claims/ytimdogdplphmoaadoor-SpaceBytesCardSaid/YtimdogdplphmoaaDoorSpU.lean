/-
  SpaceBytes as a contract over data.
-/
import Derived.Test.YtimdogdplphmoaaDoorSqW
import Derived.Test.YtimdogdplphmoaaDoorSpX
namespace Go.Proofs.YtimdogdplphmoaaDoor
open Go Go.RowKit
theorem fc_L19_SpaceBytes (p0 : Int) (p1 : List UInt8) (r : Bool) (h : ∃ H, m_L19_SpaceBytes p0 p1 Hp.e = some (r, H)) : FC Tryd.prog 5 [.t (.d (.lit (.int .i64 p0))), .t (.d (.seq 1 (bytesD p1)))] [] (.t (.d (.lit (.bool r)))) := by
  obtain ⟨H, h⟩ := h
  exact fc_of_h (fch_L19_SpaceBytes p0 p1 Hp.e _ h) hpA_e rfl (by show 2 ≤ OB; decide)
end Go.Proofs.YtimdogdplphmoaaDoor
