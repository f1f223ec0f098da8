/-
  Proved: for every input that can be read, 'AnswerBack' returns true and leaves what was there as it was. No condition.
  The frame was written by the guide's program proof-skeleton.mjs and turned by a program of this claim's own; the walk is this claim's own.
-/
import Derived.Test.YtimdogdplphmoacRows
import Derived.Test.YtimdogdplphmoacAkW
import Derived.Test.YtimdogdplphmoacAkR
import Derived.Test.YtimdogdplphmoacOpn
import Derived.Test.YtimdogdplphmoacOpnV
import Derived.WalkKit
import Derived.ProofKit
import Derived.OpenShut
import Derived.ShutString
import Derived.ChangeOld
import Derived.Below
namespace Go.Proofs.Ytimdogdplphmoac
open Go Go.RowKit Go.ChangeShapes Go.WideShapes Go.ChangeAt
set_option linter.unusedVariables false
abbrev cS_api_Answer (x : S_api_Answer) : List D := [.lit (.int .i64 x.Err), .lit (.int .i64 x.Number), .lit (.string ⟨⟨x.By⟩⟩), .seq 1 (bytesD x.Data), .seq 1 (List.map cStr x.Names), .seq 2 (List.map cS_api_Member x.Members), .seq 4 (List.map cS_api_Past x.History)]

def okS_api_Member (x : S_api_Member) : Prop := okLen x.Name ∧ (okInt .i64) x.Role
theorem op_S_api_Member {H : Type} {enc : TypeId × Value → H} {w : World} : OpT enc w 55 cS_api_Member okS_api_Member := by
  intro base spare held fuel cs x h
  obtain ⟨xs, n, rfl, _, hl, hxl, hfd⟩ := DataW.trod_struct (fs := _) Try.underlying55 h
  have cw : Try.prog.cellsOf 55 = 2 := by kernel_rfl
  have hxl : xs.length = 2 := hxl
  obtain ⟨y0, h0⟩ : ∃ y, xs[0]? = some y := ⟨xs[0], List.getElem?_eq_getElem (by omega)⟩
  have f0 : DataW.trod enc Try.prog w base spare held n 9 ((cs.drop 0).take (Try.prog.cellsOf 9)) = some y0 := (hfd 0 _ rfl).trans h0
  rw [show Try.prog.cellsOf 9 = 1 by kernel_rfl] at f0
  obtain ⟨v0, r0, o0⟩ := (op_str (by kernel_rfl)) _ _ _ _ _ _ f0
  obtain ⟨y1, h1⟩ : ∃ y, xs[1]? = some y := ⟨xs[1], List.getElem?_eq_getElem (by omega)⟩
  have f1 : DataW.trod enc Try.prog w base spare held n 3 ((cs.drop 1).take (Try.prog.cellsOf 3)) = some y1 := (hfd 1 _ rfl).trans h1
  rw [show Try.prog.cellsOf 3 = 1 by kernel_rfl] at f1
  obtain ⟨v1, r1, o1⟩ := (op_int (by kernel_rfl)) _ _ _ _ _ _ f1
  exact ⟨⟨v0, v1⟩, (show RepL (memW w) _ (cs.drop 0) from repl_cons (k := 1) r0 (repl_cons (k := 1) r1 (repl_nil (hl.trans cw)))), ⟨o0, o1⟩⟩

def okS_api_Past (x : S_api_Past) : Prop := (okInt .i64) x.Number ∧ (okInt .i64) x.Epoch ∧ okAny x.Gone ∧ okLen x.By
theorem op_S_api_Past {H : Type} {enc : TypeId × Value → H} {w : World} : OpT enc w 79 cS_api_Past okS_api_Past := by
  intro base spare held fuel cs x h
  obtain ⟨xs, n, rfl, _, hl, hxl, hfd⟩ := DataW.trod_struct (fs := _) Try.underlying79 h
  have cw : Try.prog.cellsOf 79 = 4 := by kernel_rfl
  have hxl : xs.length = 4 := hxl
  obtain ⟨y0, h0⟩ : ∃ y, xs[0]? = some y := ⟨xs[0], List.getElem?_eq_getElem (by omega)⟩
  have f0 : DataW.trod enc Try.prog w base spare held n 3 ((cs.drop 0).take (Try.prog.cellsOf 3)) = some y0 := (hfd 0 _ rfl).trans h0
  rw [show Try.prog.cellsOf 3 = 1 by kernel_rfl] at f0
  obtain ⟨v0, r0, o0⟩ := (op_int (by kernel_rfl)) _ _ _ _ _ _ f0
  obtain ⟨y1, h1⟩ : ∃ y, xs[1]? = some y := ⟨xs[1], List.getElem?_eq_getElem (by omega)⟩
  have f1 : DataW.trod enc Try.prog w base spare held n 3 ((cs.drop 1).take (Try.prog.cellsOf 3)) = some y1 := (hfd 1 _ rfl).trans h1
  rw [show Try.prog.cellsOf 3 = 1 by kernel_rfl] at f1
  obtain ⟨v1, r1, o1⟩ := (op_int (by kernel_rfl)) _ _ _ _ _ _ f1
  obtain ⟨y2, h2⟩ : ∃ y, xs[2]? = some y := ⟨xs[2], List.getElem?_eq_getElem (by omega)⟩
  have f2 : DataW.trod enc Try.prog w base spare held n 4 ((cs.drop 2).take (Try.prog.cellsOf 4)) = some y2 := (hfd 2 _ rfl).trans h2
  rw [show Try.prog.cellsOf 4 = 1 by kernel_rfl] at f2
  obtain ⟨v2, r2, o2⟩ := (op_bool (by kernel_rfl)) _ _ _ _ _ _ f2
  obtain ⟨y3, h3⟩ : ∃ y, xs[3]? = some y := ⟨xs[3], List.getElem?_eq_getElem (by omega)⟩
  have f3 : DataW.trod enc Try.prog w base spare held n 9 ((cs.drop 3).take (Try.prog.cellsOf 9)) = some y3 := (hfd 3 _ rfl).trans h3
  rw [show Try.prog.cellsOf 9 = 1 by kernel_rfl] at f3
  obtain ⟨v3, r3, o3⟩ := (op_str (by kernel_rfl)) _ _ _ _ _ _ f3
  exact ⟨⟨v0, v1, v2, v3⟩, (show RepL (memW w) _ (cs.drop 0) from repl_cons (k := 1) r0 (repl_cons (k := 1) r1 (repl_cons (k := 1) r2 (repl_cons (k := 1) r3 (repl_nil (hl.trans cw)))))), ⟨o0, o1, o2, o3⟩⟩

def okS_api_Answer (x : S_api_Answer) : Prop := (okInt .i64) x.Err ∧ (okInt .i64) x.Number ∧ okLen x.By ∧ (okList okAny) x.Data ∧ (okList okLen) x.Names ∧ (okList okS_api_Member) x.Members ∧ (okList okS_api_Past) x.History
theorem op_S_api_Answer {H : Type} {enc : TypeId × Value → H} {w : World} : OpT enc w 47 cS_api_Answer okS_api_Answer := by
  intro base spare held fuel cs x h
  obtain ⟨xs, n, rfl, _, hl, hxl, hfd⟩ := DataW.trod_struct (fs := _) Try.underlying47 h
  have cw : Try.prog.cellsOf 47 = 7 := by kernel_rfl
  have hxl : xs.length = 7 := hxl
  obtain ⟨y0, h0⟩ : ∃ y, xs[0]? = some y := ⟨xs[0], List.getElem?_eq_getElem (by omega)⟩
  have f0 : DataW.trod enc Try.prog w base spare held n 28 ((cs.drop 0).take (Try.prog.cellsOf 28)) = some y0 := (hfd 0 _ rfl).trans h0
  rw [show Try.prog.cellsOf 28 = 1 by kernel_rfl] at f0
  obtain ⟨v0, r0, o0⟩ := (op_int (by kernel_rfl)) _ _ _ _ _ _ f0
  obtain ⟨y1, h1⟩ : ∃ y, xs[1]? = some y := ⟨xs[1], List.getElem?_eq_getElem (by omega)⟩
  have f1 : DataW.trod enc Try.prog w base spare held n 3 ((cs.drop 1).take (Try.prog.cellsOf 3)) = some y1 := (hfd 1 _ rfl).trans h1
  rw [show Try.prog.cellsOf 3 = 1 by kernel_rfl] at f1
  obtain ⟨v1, r1, o1⟩ := (op_int (by kernel_rfl)) _ _ _ _ _ _ f1
  obtain ⟨y2, h2⟩ : ∃ y, xs[2]? = some y := ⟨xs[2], List.getElem?_eq_getElem (by omega)⟩
  have f2 : DataW.trod enc Try.prog w base spare held n 9 ((cs.drop 2).take (Try.prog.cellsOf 9)) = some y2 := (hfd 2 _ rfl).trans h2
  rw [show Try.prog.cellsOf 9 = 1 by kernel_rfl] at f2
  obtain ⟨v2, r2, o2⟩ := (op_str (by kernel_rfl)) _ _ _ _ _ _ f2
  obtain ⟨y3, h3⟩ : ∃ y, xs[3]? = some y := ⟨xs[3], List.getElem?_eq_getElem (by omega)⟩
  have f3 : DataW.trod enc Try.prog w base spare held n 22 ((cs.drop 3).take (Try.prog.cellsOf 22)) = some y3 := (hfd 3 _ rfl).trans h3
  rw [show Try.prog.cellsOf 22 = 1 by kernel_rfl] at f3
  obtain ⟨v3, r3, o3⟩ := (op_slice (te := 5) (k := 1) (by kernel_rfl) (by kernel_rfl) (by decide) (op_u8 (by kernel_rfl))) _ _ _ _ _ _ f3
  obtain ⟨y4, h4⟩ : ∃ y, xs[4]? = some y := ⟨xs[4], List.getElem?_eq_getElem (by omega)⟩
  have f4 : DataW.trod enc Try.prog w base spare held n 44 ((cs.drop 4).take (Try.prog.cellsOf 44)) = some y4 := (hfd 4 _ rfl).trans h4
  rw [show Try.prog.cellsOf 44 = 1 by kernel_rfl] at f4
  obtain ⟨v4, r4, o4⟩ := (op_slice (te := 9) (k := 1) (by kernel_rfl) (by kernel_rfl) (by decide) (op_str (by kernel_rfl))) _ _ _ _ _ _ f4
  obtain ⟨y5, h5⟩ : ∃ y, xs[5]? = some y := ⟨xs[5], List.getElem?_eq_getElem (by omega)⟩
  have f5 : DataW.trod enc Try.prog w base spare held n 23 ((cs.drop 5).take (Try.prog.cellsOf 23)) = some y5 := (hfd 5 _ rfl).trans h5
  rw [show Try.prog.cellsOf 23 = 1 by kernel_rfl] at f5
  obtain ⟨v5, r5, o5⟩ := (op_slice (te := 55) (k := 2) (by kernel_rfl) (by kernel_rfl) (by decide) op_S_api_Member) _ _ _ _ _ _ f5
  obtain ⟨y6, h6⟩ : ∃ y, xs[6]? = some y := ⟨xs[6], List.getElem?_eq_getElem (by omega)⟩
  have f6 : DataW.trod enc Try.prog w base spare held n 45 ((cs.drop 6).take (Try.prog.cellsOf 45)) = some y6 := (hfd 6 _ rfl).trans h6
  rw [show Try.prog.cellsOf 45 = 1 by kernel_rfl] at f6
  obtain ⟨v6, r6, o6⟩ := (op_slice (te := 79) (k := 4) (by kernel_rfl) (by kernel_rfl) (by decide) op_S_api_Past) _ _ _ _ _ _ f6
  exact ⟨⟨v0, v1, v2, v3, v4, v5, v6⟩, (show RepL (memW w) _ (cs.drop 0) from repl_cons (k := 1) r0 (repl_cons (k := 1) r1 (repl_cons (k := 1) r2 (repl_cons (k := 1) r3 (repl_cons (k := 1) r4 (repl_cons (k := 1) r5 (repl_cons (k := 1) r6 (repl_nil (hl.trans cw))))))))), ⟨o0, o1, o2, o3, o4, o5, o6⟩⟩
end Go.Proofs.Ytimdogdplphmoac

namespace Go.Proofs.Ytimdogdplphmoac.answerBack
open Go.ChangeShapes Go.WideShapes Go.ChangeAt Go.RowKit
open Go.ChangeMaps (open_string shut_string)
set_option linter.unusedVariables false

theorem own : ownKnob Try.prog.godebug = none := by kernel_rfl
theorem laidOut : laidOutB Try.prog = true := by kernel_rfl

set_option maxRecDepth 100000 in
theorem lifted (os : Os) (started : os.Started) (H : Type) (enc : TypeId × Value → H) :
    ReturnsInHanded {} Try.checked os 5 .any (Rows.answerBackSpec.pre6 enc Try.prog Try.f5 Rows.answerBackRow.domain false) (Rows.answerBackSpec.post enc Try.prog Try.f5 false true false false) := by
  refine returnsInHanded_of_change (C := Try.checked) own started (by kernel_rfl) Try.func5
    (ChangeSpec.witness6 (enc := enc) (C := Try.checked) false ⟨#[], #[.agg #[.int .i64 0, .int .i64 0, .string ByteArray.empty, .slice none 0 0, .slice none 0 0, .slice none 0 0, .slice none 0 0]], []⟩ 8 (by kernel_rfl) (by kernel_rfl) (by kernel_rfl) (by kernel_rfl)) ?_
  intro W base args ds gs before hval0 hW hcnd _
  have hval : ∀ (j : Nat) t v, Try.f5.params[j]? = some t → args[j]? = some v → Value.okWide Try.prog W .any base t v := hval0
  have hW' := hW
  obtain ⟨p, q, hA0, hV, rfl, hfz, hnd⟩ := hW
  have hA : DataW.TrodAll enc Try.prog W 0 (fun _ => true) true Try.f5.params.toList args.toList ds p := hA0
  rw [Try.params5] at hA hval
  obtain ⟨v0, vs0, d0, ds0, p0, q0, hargs, rfl, rfl, h0, r0⟩ := trodAll_cons hA
  obtain ⟨rfl, rfl, rfl⟩ := trodAll_nil r0
  obtain rfl : args = #[v0] := by cases args; simp_all
  obtain ⟨rfl, rfl⟩ := trodVars_none hV
  obtain ⟨c0, rfl, -⟩ := okWide_struct Try.underlying47 (hval 0 47 v0 rfl rfl)
  have k0 := h0
  have lt0 : ∀ x ∈ p0, x.block < W.heap.size := by obtain ⟨m, hm⟩ := k0; exact DataW.trod_lt m _ _ _ hm
  obtain ⟨x0, e0, ok0⟩ : ∃ x : S_api_Answer, RepL (memW W) (cS_api_Answer x) c0.toList ∧ okS_api_Answer x := by
    obtain ⟨m, hm⟩ := h0
    exact op_S_api_Answer _ _ _ m _ _ hm
  clear hA0 hval0
  refine (fc_law (fc_L31_AnswerBack x0 true (n_AnswerBack x0 ⟨ok0.2.2.2.2.1.1, ok0.2.2.2.2.2.1.1, ok0.2.2.2.2.2.2.1⟩)) rfl (memW_sat W) (fun s => ?_)).mono fun e W' ⟨he, bel⟩ => ?_
  · match s with
    | 0 => exact ⟨c0, rfl, e0⟩
    | s + 1 => trivial
  subst he
  exact ⟨_, rfl, _, _, _, [], _, [], hW', trodAll_mk1 (shut_bool Try.underlying4 _), (trodAll_cons_mk (Below.trod laidOut (by kernel_rfl) (of_decide_eq_true (by kernel_rfl)) k0 bel lt0) trodAll_mk0), rfl, bel.frame _, fun h => by cases h⟩

theorem over : Rows.answerBackRow.holds Try.pinned (OpenSpec.ofChange Rows.answerBackSpec) :=
  OpenClaim.holds_of_wide 5 Try.f5 rfl rfl rfl rfl rfl rfl rfl ⟨rfl, rfl, rfl, rfl, rfl⟩ rfl rfl rfl rfl rfl (by kernel_rfl) Try.func5 (by kernel_rfl)
    (of_decide_eq_true (by kernel_rfl)) (by unfold Func.isWrapper; first | (rw [if_pos (by decide +kernel)]; kernel_rfl) | (rw [if_neg (by decide +kernel)]; exact ⟨rfl, rfl⟩))
    (fun os started H enc _ => lifted os started H enc)

/-- THE STATEMENT -/
theorem proved : Rows.AnswerBackSaid := over
#print axioms proved
end Go.Proofs.Ytimdogdplphmoac.answerBack
