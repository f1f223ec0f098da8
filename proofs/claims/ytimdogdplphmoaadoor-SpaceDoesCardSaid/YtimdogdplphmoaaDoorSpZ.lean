/-
  SpaceDoes and SpaceBytes as contracts over data.
-/
import Derived.Test.YtimdogdplphmoaaDoorSqW
import Derived.Test.YtimdogdplphmoaaDoorSpY
namespace Go.Proofs.YtimdogdplphmoaaDoor
open Go Go.RowKit
theorem fc_L19_SpaceDoes (p0 : Int) (p1 : List S_L19_Do) (r : Bool) (h : ∃ H, m_L19_SpaceDoes p0 p1 Hp.e = some (r, H)) : FC Tryd.prog 3 [.t (.d (.lit (.int .i64 p0))), .t (.d (.seq 3 (List.map cS_L19_Do p1)))] [] (.t (.d (.lit (.bool r)))) := by
  obtain ⟨H, h⟩ := h
  exact fc_of_h (fch_L19_SpaceDoes p0 p1 Hp.e _ h) hpA_e rfl (by show 2 ≤ OB; decide)
end Go.Proofs.YtimdogdplphmoaaDoor
