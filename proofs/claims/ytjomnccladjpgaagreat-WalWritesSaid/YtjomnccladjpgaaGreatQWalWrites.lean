/-
 Proved: for every input that can be read, 'WalWrites' returns true and leaves what was there as it was. The conditions are those of the statement alone.
 The frame was written by the guide's program proof-skeleton.mjs and turned by a program of this claim's own; the walk is this claim's own.
-/
import Derived.Test.YtjomnccladjpgaaGreatRows
import Derived.Test.YtjomnccladjpgaaGreatQ24
import Derived.WalkKit
import Derived.ProofKit
import Derived.OpenShut
import Derived.ShutString
import Derived.ChangeOld
import Derived.Below
set_option linter.unusedVariables false
set_option linter.unusedSimpArgs false
namespace Go.Proofs.YtjomnccladjpgaaGreat
open Go Go.RowKit Go.ChangeShapes Go.WideShapes Go.ChangeAt
set_option linter.unusedVariables false
def okS_api_Write (x : zC) : Prop := (zKi .i64) x.Home ∧ (zHx okAny) x.Data
theorem op_S_api_Write {H : Type} {enc : TypeId × Value → H} {w : World} : OpT enc w 61 zB okS_api_Write := by
 intro base spare held fuel cs x h
 obtain ⟨xs, n, rfl, _, hl, hxl, hfd⟩ := DataW.trod_struct (fs := _) Tryz.underlying61 h
 have cw : Tryz.prog.cellsOf 61 = 2 := by kernel_rfl
 have hxl : xs.length = 2 := hxl
 obtain ⟨y0, h0⟩ : ∃ y, xs[0]? = some y := ⟨xs[0], List.getElem?_eq_getElem (by omega)⟩
 have f0 : DataW.trod enc Tryz.prog w base spare held n 3 ((cs.drop 0).take (Tryz.prog.cellsOf 3)) = some y0 := (hfd 0 _ rfl).trans h0
 rw [show Tryz.prog.cellsOf 3 = 1 by kernel_rfl] at f0
 obtain ⟨v0, r0, o0⟩ := (op_int (by kernel_rfl)) _ _ _ _ _ _ f0
 obtain ⟨y1, h1⟩ : ∃ y, xs[1]? = some y := ⟨xs[1], List.getElem?_eq_getElem (by omega)⟩
 have f1 : DataW.trod enc Tryz.prog w base spare held n 40 ((cs.drop 1).take (Tryz.prog.cellsOf 40)) = some y1 := (hfd 1 _ rfl).trans h1
 rw [show Tryz.prog.cellsOf 40 = 1 by kernel_rfl] at f1
 obtain ⟨v1, r1, o1⟩ := (zG9 (te := 5) (k := 1) (by kernel_rfl) (by kernel_rfl) (by decide) (op_u8 (by kernel_rfl))) _ _ _ _ _ _ f1
 exact ⟨⟨v0, v1⟩, (show RepL (memW w) _ (cs.drop 0) from zEQ (k := 1) r0 (zEQ (k := 1) r1 (zKB (hl.trans cw)))), ⟨o0, o1⟩⟩
def okS_L18_Do (x : zAx) : Prop := (zKi .i64) x.Kind ∧ (zKi .i64) x.N ∧ (zHx okS_api_Write) x.W ∧ (zHx okAny) x.B
theorem op_S_L18_Do {H : Type} {enc : TypeId × Value → H} {w : World} : OpT enc w 42 zBK okS_L18_Do := by
 intro base spare held fuel cs x h
 obtain ⟨xs, n, rfl, _, hl, hxl, hfd⟩ := DataW.trod_struct (fs := _) Tryz.underlying42 h
 have cw : Tryz.prog.cellsOf 42 = 4 := by kernel_rfl
 have hxl : xs.length = 4 := hxl
 obtain ⟨y0, h0⟩ : ∃ y, xs[0]? = some y := ⟨xs[0], List.getElem?_eq_getElem (by omega)⟩
 have f0 : DataW.trod enc Tryz.prog w base spare held n 3 ((cs.drop 0).take (Tryz.prog.cellsOf 3)) = some y0 := (hfd 0 _ rfl).trans h0
 rw [show Tryz.prog.cellsOf 3 = 1 by kernel_rfl] at f0
 obtain ⟨v0, r0, o0⟩ := (op_int (by kernel_rfl)) _ _ _ _ _ _ f0
 obtain ⟨y1, h1⟩ : ∃ y, xs[1]? = some y := ⟨xs[1], List.getElem?_eq_getElem (by omega)⟩
 have f1 : DataW.trod enc Tryz.prog w base spare held n 3 ((cs.drop 1).take (Tryz.prog.cellsOf 3)) = some y1 := (hfd 1 _ rfl).trans h1
 rw [show Tryz.prog.cellsOf 3 = 1 by kernel_rfl] at f1
 obtain ⟨v1, r1, o1⟩ := (op_int (by kernel_rfl)) _ _ _ _ _ _ f1
 obtain ⟨y2, h2⟩ : ∃ y, xs[2]? = some y := ⟨xs[2], List.getElem?_eq_getElem (by omega)⟩
 have f2 : DataW.trod enc Tryz.prog w base spare held n 39 ((cs.drop 2).take (Tryz.prog.cellsOf 39)) = some y2 := (hfd 2 _ rfl).trans h2
 rw [show Tryz.prog.cellsOf 39 = 1 by kernel_rfl] at f2
 obtain ⟨v2, r2, o2⟩ := (zG9 (te := 61) (k := 2) (by kernel_rfl) (by kernel_rfl) (by decide) op_S_api_Write) _ _ _ _ _ _ f2
 obtain ⟨y3, h3⟩ : ∃ y, xs[3]? = some y := ⟨xs[3], List.getElem?_eq_getElem (by omega)⟩
 have f3 : DataW.trod enc Tryz.prog w base spare held n 40 ((cs.drop 3).take (Tryz.prog.cellsOf 40)) = some y3 := (hfd 3 _ rfl).trans h3
 rw [show Tryz.prog.cellsOf 40 = 1 by kernel_rfl] at f3
 obtain ⟨v3, r3, o3⟩ := (zG9 (te := 5) (k := 1) (by kernel_rfl) (by kernel_rfl) (by decide) (op_u8 (by kernel_rfl))) _ _ _ _ _ _ f3
 exact ⟨⟨v0, v1, v2, v3⟩, (show RepL (memW w) _ (cs.drop 0) from zEQ (k := 1) r0 (zEQ (k := 1) r1 (zEQ (k := 1) r2 (zEQ (k := 1) r3 (zKB (hl.trans cw)))))), ⟨o0, o1, o2, o3⟩⟩
end Go.Proofs.YtjomnccladjpgaaGreat
namespace Go.Proofs.YtjomnccladjpgaaGreat.walWrites
open Go.ChangeShapes Go.WideShapes Go.ChangeAt Go.RowKit
open Go.ChangeMaps (open_string shut_string)
set_option linter.unusedVariables false
theorem own : ownKnob Tryz.prog.godebug = none := by kernel_rfl
theorem laidOut : laidOutB Tryz.prog = true := by kernel_rfl
set_option maxRecDepth 100000 in
theorem lifted (os : Os) (started : os.Started) (H : Type) (enc : TypeId × Value → H) :
  ReturnsInHanded {} Tryz.checked os 3 .any (Rows.walWritesSpec.pre6 enc Tryz.prog Tryz.f3 Rows.walWritesRow.domain false) (Rows.walWritesSpec.post enc Tryz.prog Tryz.f3 false true false false) := by
 refine returnsInHanded_of_change (C := Tryz.checked) own started (by kernel_rfl) Tryz.func3
  (ChangeSpec.witness6 (enc := enc) (C := Tryz.checked) false ⟨#[], #[.int .u8 0, .int .i64 0, .slice none 0 0], []⟩ 8 (by kernel_rfl) (by kernel_rfl) (by kernel_rfl) (by kernel_rfl)) ?_
 intro W base args ds gs before hval0 hW hcnd _
 have hval : ∀ (j : Nat) t v, Tryz.f3.params[j]? = some t → args[j]? = some v → Value.okWide Tryz.prog W .any base t v := hval0
 have hW' := hW
 obtain ⟨p, q, hA0, hV, rfl, hfz, hnd⟩ := hW
 have hA : DataW.TrodAll enc Tryz.prog W 0 (fun _ => true) true Tryz.f3.params.toList args.toList ds p := hA0
 rw [Tryz.params3] at hA hval
 obtain ⟨v0, vs0, d0, ds0, p0, q0, hargs, rfl, rfl, h0, r0⟩ := trodAll_cons hA
 obtain ⟨v1, vs1, d1, ds1, p1, q1, rfl, rfl, rfl, h1, r1⟩ := trodAll_cons r0
 obtain ⟨v2, vs2, d2, ds2, p2, q2, rfl, rfl, rfl, h2, r2⟩ := trodAll_cons r1
 obtain ⟨rfl, rfl, rfl⟩ := trodAll_nil r2
 obtain rfl : args = #[v0, v1, v2] := by cases args; simp_all
 obtain ⟨rfl, rfl⟩ := trodVars_none hV
 obtain ⟨n0, rfl, rfl, rfl, w0⟩ := open_int Tryz.underlying5 (hval 0 5 v0 rfl rfl) h0
 obtain ⟨x0, rfl⟩ := u8_of w0
 obtain ⟨x1, rfl, rfl, rfl, ok1⟩ := open_int Tryz.underlying3 (hval 1 3 v1 rfl rfl) h1
 obtain ⟨a2, l2, c2, rfl⟩ := okWide_slice Tryz.underlying22 (hval 2 22 v2 rfl rfl)
 have k2 := h2
 have lt2 : ∀ x ∈ p2, x.block < W.heap.size := by obtain ⟨m, hm⟩ := k2; exact DataW.trod_lt m _ _ _ hm
 obtain ⟨x2, e2, ok2⟩ : ∃ x : (List zAx), RepD (memW W) (.seq 4 (x.map zBK)) (.slice a2 l2 c2) ∧ (zHx okS_L18_Do) x := by
  obtain ⟨m, hm⟩ := h2
  obtain ⟨x, hr, ho⟩ := (zG9 (te := 42) (k := 4) (by kernel_rfl) (by kernel_rfl) (by decide) op_S_L18_Do) _ _ _ m _ _ hm
  obtain ⟨u, hu, hr⟩ := repl_head hr
  simp [Value.cells] at hu
  subst hu
  exact ⟨x, hr, ho⟩
 clear hA0 hval0
 refine (fc_law (lawWW x0 x1 x2 ok2.1 (fun D hD => (okI64 (ok2.2 D hD).2.1).2)) rfl (memW_sat W) (fun s => ?_)).mono fun e W' ⟨he, bel⟩ => ?_
 ·
  match s with
  | 0 => exact .lit _ rfl
  | 1 => exact .lit _ rfl
  | 2 => exact e2
  | s + 3 => trivial
 subst he
 exact ⟨_, rfl, _, _, _, [], _, [], hW', trodAll_mk1 (shut_bool Tryz.underlying4 _), (trodAll_cons_mk (shut_int Tryz.underlying5 w0) (trodAll_cons_mk (shut_int Tryz.underlying3 ok1) (trodAll_cons_mk (Below.trod laidOut (by kernel_rfl) (of_decide_eq_true (by kernel_rfl)) k2 bel lt2) trodAll_mk0))), rfl, bel.frame _, fun h => by cases h⟩
theorem over : Rows.walWritesRow.holds Tryz.pinned (OpenSpec.ofChange Rows.walWritesSpec) :=
 OpenClaim.holds_of_wide 3 Tryz.f3 rfl rfl rfl rfl rfl rfl rfl ⟨rfl, rfl, rfl, rfl, rfl⟩ rfl rfl rfl rfl rfl (by kernel_rfl) Tryz.func3 (by kernel_rfl)
  (of_decide_eq_true (by kernel_rfl)) (by unfold Func.isWrapper; first | (rw [if_pos (by decide +kernel)]; kernel_rfl) | (rw [if_neg (by decide +kernel)]; exact ⟨rfl, rfl⟩))
  (fun os started H enc _ => lifted os started H enc)
theorem proved : Rows.WalWritesSaid := over
#print axioms proved
end Go.Proofs.YtjomnccladjpgaaGreat.walWrites
