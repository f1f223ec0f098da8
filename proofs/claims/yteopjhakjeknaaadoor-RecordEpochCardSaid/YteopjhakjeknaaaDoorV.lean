/-
  The codec's values, as slots tell them.
-/
import Derived.Test.YteopjhakjeknaaaDoorBase
import Derived.Test.YteopjhakjeknaaaDoorPlv
namespace Go.Proofs.YteopjhakjeknaaaDoor
open Go Go.RowKit

/-- The cells of a value. -/
def V.cells : V → List D
  | .mk k n b l => [.lit (.int .i64 k), .lit (.int .i64 n), .seq 1 (bytesD b), .seq 4 (cellss l)]
where cellss : List V → List (List D)
  | [] => []
  | x :: r => V.cells x :: cellss r
theorem V.cellss_eq : ∀ l : List V, V.cells.cellss l = l.map V.cells
  | [] => rfl
  | x :: r => by rw [V.cells.cellss, V.cellss_eq r]; rfl
abbrev vsD (l : List V) : D := .seq 4 (l.map V.cells)
/-- The cells, one by one. -/
abbrev V.top (v : V) : List D := [.lit (.int .i64 v.k), .lit (.int .i64 v.n), .seq 1 (bytesD v.b), vsD v.l]
theorem V.cells_eq (v : V) : v.cells = v.top := by
  cases v with
  | mk k n b l => rw [V.cells, V.cellss_eq]; rfl
/-- A value as an argument. -/
abbrev valA (v : V) : A := .t (.agg v.top)
abbrev vsA (l : List V) : A := .t (.d (vsD l))
theorem vs_get (l : List V) (i : Nat) (h : i < l.length) : (l.map V.cells).getD (i : Int).toNat [] = l[i].top := by
  rw [Int.toNat_natCast, List.getD_eq_getElem?_getD, List.getElem?_map, List.getElem?_eq_getElem h]
  exact V.cells_eq _
theorem vs_len (l : List V) : (l.map V.cells).length = l.length := by simp
end Go.Proofs.YteopjhakjeknaaaDoor
