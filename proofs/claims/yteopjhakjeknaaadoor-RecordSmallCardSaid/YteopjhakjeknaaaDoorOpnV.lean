/-
  What came in: a value of the codec.
-/
import Derived.Test.YteopjhakjeknaaaDoorOpn
import Derived.Test.YteopjhakjeknaaaDoorV
import Derived.KernelRfl
namespace Go.Proofs.YteopjhakjeknaaaDoor
open Go Go.RowKit Go.ChangeShapes Go.WideShapes Go.ChangeAt
set_option linter.unusedVariables false
set_option maxRecDepth 20000
theorem op_V {H : Type} {enc : TypeId × Value → H} {w : World} : OpT enc w 79 V.cells V.Fit := by
  refine OpT.of fun m => ?_
  induction m with
  | zero => intro b s l f cs x hf h; omega
  | succ m ih =>
    intro base spare held fuel cs x hf h
    obtain ⟨xs, n, rfl, _, hl, hxl, hfd⟩ := DataW.trod_struct Tryd.underlying79 h
    have c0 : Tryd.prog.cellsOf 3 = 1 := by kernel_rfl
    have c2 : Tryd.prog.cellsOf 22 = 1 := by kernel_rfl
    have c3 : Tryd.prog.cellsOf 77 = 1 := by kernel_rfl
    have cv : Tryd.prog.cellsOf 79 = 4 := by kernel_rfl
    have cu : Tryd.prog.cellsOf 5 = 1 := by kernel_rfl
    have hxl : xs.length = 4 := hxl
    obtain ⟨y0, h0⟩ : ∃ y, xs[0]? = some y := ⟨xs[0], List.getElem?_eq_getElem (by omega)⟩
    obtain ⟨y1, h1⟩ : ∃ y, xs[1]? = some y := ⟨xs[1], List.getElem?_eq_getElem (by omega)⟩
    obtain ⟨y2, h2⟩ : ∃ y, xs[2]? = some y := ⟨xs[2], List.getElem?_eq_getElem (by omega)⟩
    obtain ⟨y3, h3⟩ : ∃ y, xs[3]? = some y := ⟨xs[3], List.getElem?_eq_getElem (by omega)⟩
    have f0 : DataW.trod enc Tryd.prog w base spare held n 3 ((cs.drop 0).take (Tryd.prog.cellsOf 3)) = some y0 := (hfd 0 _ rfl).trans h0
    have f1 : DataW.trod enc Tryd.prog w base spare held n 3 ((cs.drop 1).take (Tryd.prog.cellsOf 3)) = some y1 := (hfd 1 _ rfl).trans h1
    have f2 : DataW.trod enc Tryd.prog w base spare held n 22 ((cs.drop 2).take (Tryd.prog.cellsOf 22)) = some y2 := (hfd 2 _ rfl).trans h2
    have f3 : DataW.trod enc Tryd.prog w base spare held n 77 ((cs.drop 3).take (Tryd.prog.cellsOf 77)) = some y3 := (hfd 3 _ rfl).trans h3
    rw [c0] at f0 f1
    rw [c2] at f2
    rw [c3] at f3
    obtain ⟨v0, r0, o0⟩ := op_int (by kernel_rfl) _ _ _ _ _ _ f0
    obtain ⟨v1, r1, o1⟩ := op_int (by kernel_rfl) _ _ _ _ _ _ f1
    obtain ⟨v2, r2, o2⟩ := op_slice (by kernel_rfl) cu (by decide) (op_u8 (by kernel_rfl)) _ _ _ _ _ _ f2
    obtain ⟨v3, r3, o3⟩ := op_sliceF (m := n) (by kernel_rfl) cv (by decide) (fun b s l f cs x hf h => ih b s l f cs x (by omega) h) _ _ _ _ _ _ (Nat.lt_succ_self n) f3
    refine ⟨.mk v0 v1 v2 v3, ?_, .mk _ o2.1 o3.1 fun x hx => o3.2 x hx⟩
    rw [V.cells_eq]
    exact (show RepL (memW w) _ (cs.drop 0) from repl_cons (k := 1) r0 (repl_cons (k := 1) r1 (repl_cons (k := 1) r2 (repl_cons (k := 1) r3 (repl_nil (hl.trans cv))))))
theorem op_Vt {H : Type} {enc : TypeId × Value → H} {w : World} : OpT enc w 79 V.top V.Fit := fun b s l f cs x h => by
  obtain ⟨v, h1, h2⟩ := op_V b s l f cs x h
  rw [V.cells_eq] at h1
  exact ⟨v, h1, h2⟩
end Go.Proofs.YteopjhakjeknaaaDoor
