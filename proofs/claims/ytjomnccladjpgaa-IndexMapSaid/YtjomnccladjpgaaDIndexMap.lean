/-
 Proved: for every input that can be read, 'IndexMap' returns true and leaves what was there as it was. The conditions are those of the statement alone.
 The frame was written by the guide's program proof-skeleton.mjs and turned by a program of this claim's own; the walk is this claim's own.
-/
import Derived.Test.YtjomnccladjpgaaRows
import Derived.Test.YtjomnccladjpgaaD22
import Derived.WalkKit
import Derived.ProofKit
import Derived.OpenShut
import Derived.ShutString
import Derived.ChangeOld
import Derived.Below
set_option linter.unusedVariables false
set_option linter.unusedSimpArgs false
namespace Go.Proofs.Ytjomnccladjpgaa
open Go Go.RowKit Go.ChangeShapes Go.WideShapes Go.ChangeAt
set_option linter.unusedVariables false
def okS_api_Entry (x : zA) : Prop := okLen x.Key ∧ (zJz .i64) x.Version ∧ (zJz .i64) x.Len ∧ (zJz .i64) x.First
theorem op_S_api_Entry {H : Type} {enc : TypeId × Value → H} {w : World} : OpT enc w 78 zI okS_api_Entry := by
 intro base spare held fuel cs x h
 obtain ⟨xs, n, rfl, _, hl, hxl, hfd⟩ := DataW.trod_struct (fs := _) Try.underlying78 h
 have cw : Try.prog.cellsOf 78 = 4 := by kernel_rfl
 have hxl : xs.length = 4 := hxl
 obtain ⟨y0, h0⟩ : ∃ y, xs[0]? = some y := ⟨xs[0], List.getElem?_eq_getElem (by omega)⟩
 have f0 : DataW.trod enc Try.prog w base spare held n 9 ((cs.drop 0).take (Try.prog.cellsOf 9)) = some y0 := (hfd 0 _ rfl).trans h0
 rw [show Try.prog.cellsOf 9 = 1 by kernel_rfl] at f0
 obtain ⟨v0, r0, o0⟩ := (op_str (by kernel_rfl)) _ _ _ _ _ _ f0
 obtain ⟨y1, h1⟩ : ∃ y, xs[1]? = some y := ⟨xs[1], List.getElem?_eq_getElem (by omega)⟩
 have f1 : DataW.trod enc Try.prog w base spare held n 3 ((cs.drop 1).take (Try.prog.cellsOf 3)) = some y1 := (hfd 1 _ rfl).trans h1
 rw [show Try.prog.cellsOf 3 = 1 by kernel_rfl] at f1
 obtain ⟨v1, r1, o1⟩ := (zH8 (by kernel_rfl)) _ _ _ _ _ _ f1
 obtain ⟨y2, h2⟩ : ∃ y, xs[2]? = some y := ⟨xs[2], List.getElem?_eq_getElem (by omega)⟩
 have f2 : DataW.trod enc Try.prog w base spare held n 3 ((cs.drop 2).take (Try.prog.cellsOf 3)) = some y2 := (hfd 2 _ rfl).trans h2
 rw [show Try.prog.cellsOf 3 = 1 by kernel_rfl] at f2
 obtain ⟨v2, r2, o2⟩ := (zH8 (by kernel_rfl)) _ _ _ _ _ _ f2
 obtain ⟨y3, h3⟩ : ∃ y, xs[3]? = some y := ⟨xs[3], List.getElem?_eq_getElem (by omega)⟩
 have f3 : DataW.trod enc Try.prog w base spare held n 3 ((cs.drop 3).take (Try.prog.cellsOf 3)) = some y3 := (hfd 3 _ rfl).trans h3
 rw [show Try.prog.cellsOf 3 = 1 by kernel_rfl] at f3
 obtain ⟨v3, r3, o3⟩ := (zH8 (by kernel_rfl)) _ _ _ _ _ _ f3
 exact ⟨⟨v0, v1, v2, v3⟩, (show RepL (memW w) _ (cs.drop 0) from zDS (k := 1) r0 (zDS (k := 1) r1 (zDS (k := 1) r2 (zDS (k := 1) r3 (zI4 (hl.trans cw)))))), ⟨o0, o1, o2, o3⟩⟩
def okS_L20_Do (x : zA4) : Prop := (zJz .i64) x.Kind ∧ (zJz .i64) x.Home ∧ okS_api_Entry x.E
theorem op_S_L20_Do {H : Type} {enc : TypeId × Value → H} {w : World} : OpT enc w 80 zAQ okS_L20_Do := by
 intro base spare held fuel cs x h
 obtain ⟨xs, n, rfl, _, hl, hxl, hfd⟩ := DataW.trod_struct (fs := _) Try.underlying80 h
 have cw : Try.prog.cellsOf 80 = 6 := by kernel_rfl
 have hxl : xs.length = 3 := hxl
 obtain ⟨y0, h0⟩ : ∃ y, xs[0]? = some y := ⟨xs[0], List.getElem?_eq_getElem (by omega)⟩
 have f0 : DataW.trod enc Try.prog w base spare held n 3 ((cs.drop 0).take (Try.prog.cellsOf 3)) = some y0 := (hfd 0 _ rfl).trans h0
 rw [show Try.prog.cellsOf 3 = 1 by kernel_rfl] at f0
 obtain ⟨v0, r0, o0⟩ := (zH8 (by kernel_rfl)) _ _ _ _ _ _ f0
 obtain ⟨y1, h1⟩ : ∃ y, xs[1]? = some y := ⟨xs[1], List.getElem?_eq_getElem (by omega)⟩
 have f1 : DataW.trod enc Try.prog w base spare held n 3 ((cs.drop 1).take (Try.prog.cellsOf 3)) = some y1 := (hfd 1 _ rfl).trans h1
 rw [show Try.prog.cellsOf 3 = 1 by kernel_rfl] at f1
 obtain ⟨v1, r1, o1⟩ := (zH8 (by kernel_rfl)) _ _ _ _ _ _ f1
 obtain ⟨y2, h2⟩ : ∃ y, xs[2]? = some y := ⟨xs[2], List.getElem?_eq_getElem (by omega)⟩
 have f2 : DataW.trod enc Try.prog w base spare held n 78 ((cs.drop 2).take (Try.prog.cellsOf 78)) = some y2 := (hfd 2 _ rfl).trans h2
 rw [show Try.prog.cellsOf 78 = 4 by kernel_rfl] at f2
 obtain ⟨v2, r2, o2⟩ := op_S_api_Entry _ _ _ _ _ _ f2
 exact ⟨⟨v0, v1, v2⟩, (show RepL (memW w) _ (cs.drop 0) from zDS (k := 1) r0 (zDS (k := 1) r1 (zDS (k := 4) r2 (zI4 (hl.trans cw))))), ⟨o0, o1, o2⟩⟩
end Go.Proofs.Ytjomnccladjpgaa
namespace Go.Proofs.Ytjomnccladjpgaa.indexMap
open Go.ChangeShapes Go.WideShapes Go.ChangeAt Go.RowKit
open Go.ChangeMaps (open_string shut_string)
set_option linter.unusedVariables false
theorem own : ownKnob Try.prog.godebug = none := by kernel_rfl
theorem laidOut : laidOutB Try.prog = true := by kernel_rfl
set_option maxRecDepth 100000 in
theorem lifted (os : Os) (started : os.Started) (H : Type) (enc : TypeId × Value → H) :
  ReturnsInHanded {} Try.checked os 9 .any (Rows.indexMapSpec.pre6 enc Try.prog Try.f9 Rows.indexMapRow.domain false) (Rows.indexMapSpec.post enc Try.prog Try.f9 false true false false) := by
 refine returnsInHanded_of_change (C := Try.checked) own started (by kernel_rfl) Try.func9
  (ChangeSpec.witness6 (enc := enc) (C := Try.checked) false ⟨#[], #[.slice none 0 0], []⟩ 8 (by kernel_rfl) (by kernel_rfl) (by kernel_rfl) (by kernel_rfl)) ?_
 intro W base args ds gs before hval0 hW hcnd _
 have hval : ∀ (j : Nat) t v, Try.f9.params[j]? = some t → args[j]? = some v → Value.okWide Try.prog W .any base t v := hval0
 have hW' := hW
 obtain ⟨p, q, hA0, hV, rfl, hfz, hnd⟩ := hW
 have hA : DataW.TrodAll enc Try.prog W 0 (fun _ => true) true Try.f9.params.toList args.toList ds p := hA0
 rw [Try.params9] at hA hval
 obtain ⟨v0, vs0, d0, ds0, p0, q0, hargs, rfl, rfl, h0, r0⟩ := trodAll_cons hA
 obtain ⟨rfl, rfl, rfl⟩ := trodAll_nil r0
 obtain rfl : args = #[v0] := by cases args; simp_all
 obtain ⟨rfl, rfl⟩ := trodVars_none hV
 obtain ⟨a0, l0, c0, rfl⟩ := okWide_slice Try.underlying73 (hval 0 73 v0 rfl rfl)
 have k0 := h0
 have lt0 : ∀ x ∈ p0, x.block < W.heap.size := by obtain ⟨m, hm⟩ := k0; exact DataW.trod_lt m _ _ _ hm
 obtain ⟨x0, e0, ok0⟩ : ∃ x : (List zA4), RepD (memW W) (.seq 6 (x.map zAQ)) (.slice a0 l0 c0) ∧ (okList okS_L20_Do) x := by
  obtain ⟨m, hm⟩ := h0
  obtain ⟨x, hr, ho⟩ := (op_slice (te := 80) (k := 6) (by kernel_rfl) (by kernel_rfl) (by decide) op_S_L20_Do) _ _ _ m _ _ hm
  obtain ⟨u, hu, hr⟩ := repl_head hr
  simp [Value.cells] at hu
  subst hu
  exact ⟨x, hr, ho⟩
 clear hA0 hval0
 refine (fc_law (lawIM x0 ok0.1) rfl (memW_sat W) (fun s => ?_)).mono fun e W' ⟨he, bel⟩ => ?_
 ·
  match s with
  | 0 => exact e0
  | s + 1 => trivial
 subst he
 exact ⟨_, rfl, _, _, _, [], _, [], hW', trodAll_mk1 (shut_bool Try.underlying4 _), (trodAll_cons_mk (Below.trod laidOut (by kernel_rfl) (of_decide_eq_true (by kernel_rfl)) k0 bel lt0) trodAll_mk0), rfl, bel.frame _, fun h => by cases h⟩
theorem over : Rows.indexMapRow.holds Try.pinned (OpenSpec.ofChange Rows.indexMapSpec) :=
 OpenClaim.holds_of_wide 9 Try.f9 rfl rfl rfl rfl rfl rfl rfl ⟨rfl, rfl, rfl, rfl, rfl⟩ rfl rfl rfl rfl rfl (by kernel_rfl) Try.func9 (by kernel_rfl)
  (of_decide_eq_true (by kernel_rfl)) (by unfold Func.isWrapper; first | (rw [if_pos (by decide +kernel)]; kernel_rfl) | (rw [if_neg (by decide +kernel)]; exact ⟨rfl, rfl⟩))
  (fun os started H enc _ => lifted os started H enc)
theorem proved : Rows.IndexMapSaid := over
#print axioms proved
end Go.Proofs.Ytjomnccladjpgaa.indexMap
