/-
  Proved: for every input that can be read, 'ManifestFollows' returns true and leaves what was there as it was. 
  The frame was written by the guide's program proof-skeleton.mjs and turned by a program of this claim's own; the walk is this claim's own.
-/
import Derived.Test.YtikaahmonocahaaRows
import Derived.Test.YtikaahmonocahaaQ26
import Derived.WalkKit
import Derived.ProofKit
import Derived.OpenShut
import Derived.ShutString
import Derived.ChangeOld
import Derived.Below
namespace Go.Proofs.Ytikaahmonocahaa
open Go Go.RowKit Go.ChangeShapes Go.WideShapes Go.ChangeAt
set_option linter.unusedVariables false
abbrev cS_api_Manifest (x : S_api_Manifest) : List D := [.lit (.string ⟨⟨x.Folder⟩⟩), .lit (.int .i64 x.Seq), .seq 1 (bytesD x.Prev), .lit (.string ⟨⟨x.Parent⟩⟩), .seq 2 (List.map cS_api_Member x.Members), .lit (.int .i64 x.Cut), .lit (.bool x.Gone), .lit (.string ⟨⟨x.By⟩⟩)]

def okS_api_Member (x : S_api_Member) : Prop := okLen x.Name ∧ (okInt .i64) x.Role
theorem op_S_api_Member {H : Type} {enc : TypeId × Value → H} {w : World} : OpT enc w 35 cS_api_Member okS_api_Member := by
  intro base spare held fuel cs x h
  obtain ⟨xs, n, rfl, _, hl, hxl, hfd⟩ := DataW.trod_struct (fs := _) Try.underlying35 h
  have cw : Try.prog.cellsOf 35 = 2 := by kernel_rfl
  have hxl : xs.length = 2 := hxl
  obtain ⟨y0, h0⟩ : ∃ y, xs[0]? = some y := ⟨xs[0], List.getElem?_eq_getElem (by omega)⟩
  have f0 : DataW.trod enc Try.prog w base spare held n 9 ((cs.drop 0).take (Try.prog.cellsOf 9)) = some y0 := (hfd 0 _ rfl).trans h0
  rw [show Try.prog.cellsOf 9 = 1 by kernel_rfl] at f0
  obtain ⟨v0, r0, o0⟩ := (op_str (by kernel_rfl)) _ _ _ _ _ _ f0
  obtain ⟨y1, h1⟩ : ∃ y, xs[1]? = some y := ⟨xs[1], List.getElem?_eq_getElem (by omega)⟩
  have f1 : DataW.trod enc Try.prog w base spare held n 3 ((cs.drop 1).take (Try.prog.cellsOf 3)) = some y1 := (hfd 1 _ rfl).trans h1
  rw [show Try.prog.cellsOf 3 = 1 by kernel_rfl] at f1
  obtain ⟨v1, r1, o1⟩ := (op_int (by kernel_rfl)) _ _ _ _ _ _ f1
  exact ⟨⟨v0, v1⟩, (show RepL (memW w) _ (cs.drop 0) from repl_cons (k := 1) r0 (repl_cons (k := 1) r1 (repl_nil (hl.trans cw)))), ⟨o0, o1⟩⟩

def okS_api_Manifest (x : S_api_Manifest) : Prop := okLen x.Folder ∧ (okInt .i64) x.Seq ∧ (okList okAny) x.Prev ∧ okLen x.Parent ∧ (okList okS_api_Member) x.Members ∧ (okInt .i64) x.Cut ∧ okAny x.Gone ∧ okLen x.By
theorem op_S_api_Manifest {H : Type} {enc : TypeId × Value → H} {w : World} : OpT enc w 25 cS_api_Manifest okS_api_Manifest := by
  intro base spare held fuel cs x h
  obtain ⟨xs, n, rfl, _, hl, hxl, hfd⟩ := DataW.trod_struct (fs := _) Try.underlying25 h
  have cw : Try.prog.cellsOf 25 = 8 := by kernel_rfl
  have hxl : xs.length = 8 := hxl
  obtain ⟨y0, h0⟩ : ∃ y, xs[0]? = some y := ⟨xs[0], List.getElem?_eq_getElem (by omega)⟩
  have f0 : DataW.trod enc Try.prog w base spare held n 9 ((cs.drop 0).take (Try.prog.cellsOf 9)) = some y0 := (hfd 0 _ rfl).trans h0
  rw [show Try.prog.cellsOf 9 = 1 by kernel_rfl] at f0
  obtain ⟨v0, r0, o0⟩ := (op_str (by kernel_rfl)) _ _ _ _ _ _ f0
  obtain ⟨y1, h1⟩ : ∃ y, xs[1]? = some y := ⟨xs[1], List.getElem?_eq_getElem (by omega)⟩
  have f1 : DataW.trod enc Try.prog w base spare held n 3 ((cs.drop 1).take (Try.prog.cellsOf 3)) = some y1 := (hfd 1 _ rfl).trans h1
  rw [show Try.prog.cellsOf 3 = 1 by kernel_rfl] at f1
  obtain ⟨v1, r1, o1⟩ := (op_int (by kernel_rfl)) _ _ _ _ _ _ f1
  obtain ⟨y2, h2⟩ : ∃ y, xs[2]? = some y := ⟨xs[2], List.getElem?_eq_getElem (by omega)⟩
  have f2 : DataW.trod enc Try.prog w base spare held n 22 ((cs.drop 2).take (Try.prog.cellsOf 22)) = some y2 := (hfd 2 _ rfl).trans h2
  rw [show Try.prog.cellsOf 22 = 1 by kernel_rfl] at f2
  obtain ⟨v2, r2, o2⟩ := (op_slice (te := 5) (k := 1) (by kernel_rfl) (by kernel_rfl) (by decide) (op_u8 (by kernel_rfl))) _ _ _ _ _ _ f2
  obtain ⟨y3, h3⟩ : ∃ y, xs[3]? = some y := ⟨xs[3], List.getElem?_eq_getElem (by omega)⟩
  have f3 : DataW.trod enc Try.prog w base spare held n 9 ((cs.drop 3).take (Try.prog.cellsOf 9)) = some y3 := (hfd 3 _ rfl).trans h3
  rw [show Try.prog.cellsOf 9 = 1 by kernel_rfl] at f3
  obtain ⟨v3, r3, o3⟩ := (op_str (by kernel_rfl)) _ _ _ _ _ _ f3
  obtain ⟨y4, h4⟩ : ∃ y, xs[4]? = some y := ⟨xs[4], List.getElem?_eq_getElem (by omega)⟩
  have f4 : DataW.trod enc Try.prog w base spare held n 23 ((cs.drop 4).take (Try.prog.cellsOf 23)) = some y4 := (hfd 4 _ rfl).trans h4
  rw [show Try.prog.cellsOf 23 = 1 by kernel_rfl] at f4
  obtain ⟨v4, r4, o4⟩ := (op_slice (te := 35) (k := 2) (by kernel_rfl) (by kernel_rfl) (by decide) op_S_api_Member) _ _ _ _ _ _ f4
  obtain ⟨y5, h5⟩ : ∃ y, xs[5]? = some y := ⟨xs[5], List.getElem?_eq_getElem (by omega)⟩
  have f5 : DataW.trod enc Try.prog w base spare held n 3 ((cs.drop 5).take (Try.prog.cellsOf 3)) = some y5 := (hfd 5 _ rfl).trans h5
  rw [show Try.prog.cellsOf 3 = 1 by kernel_rfl] at f5
  obtain ⟨v5, r5, o5⟩ := (op_int (by kernel_rfl)) _ _ _ _ _ _ f5
  obtain ⟨y6, h6⟩ : ∃ y, xs[6]? = some y := ⟨xs[6], List.getElem?_eq_getElem (by omega)⟩
  have f6 : DataW.trod enc Try.prog w base spare held n 4 ((cs.drop 6).take (Try.prog.cellsOf 4)) = some y6 := (hfd 6 _ rfl).trans h6
  rw [show Try.prog.cellsOf 4 = 1 by kernel_rfl] at f6
  obtain ⟨v6, r6, o6⟩ := (op_bool (by kernel_rfl)) _ _ _ _ _ _ f6
  obtain ⟨y7, h7⟩ : ∃ y, xs[7]? = some y := ⟨xs[7], List.getElem?_eq_getElem (by omega)⟩
  have f7 : DataW.trod enc Try.prog w base spare held n 9 ((cs.drop 7).take (Try.prog.cellsOf 9)) = some y7 := (hfd 7 _ rfl).trans h7
  rw [show Try.prog.cellsOf 9 = 1 by kernel_rfl] at f7
  obtain ⟨v7, r7, o7⟩ := (op_str (by kernel_rfl)) _ _ _ _ _ _ f7
  exact ⟨⟨v0, v1, v2, v3, v4, v5, v6, v7⟩, (show RepL (memW w) _ (cs.drop 0) from repl_cons (k := 1) r0 (repl_cons (k := 1) r1 (repl_cons (k := 1) r2 (repl_cons (k := 1) r3 (repl_cons (k := 1) r4 (repl_cons (k := 1) r5 (repl_cons (k := 1) r6 (repl_cons (k := 1) r7 (repl_nil (hl.trans cw)))))))))), ⟨o0, o1, o2, o3, o4, o5, o6, o7⟩⟩
end Go.Proofs.Ytikaahmonocahaa

namespace Go.Proofs.Ytikaahmonocahaa.manifestFollows
open Go.ChangeShapes Go.WideShapes Go.ChangeAt Go.RowKit
open Go.ChangeMaps (open_string shut_string)
set_option linter.unusedVariables false

theorem own : ownKnob Try.prog.godebug = none := by kernel_rfl
theorem laidOut : laidOutB Try.prog = true := by kernel_rfl

set_option maxRecDepth 100000 in
theorem lifted (os : Os) (started : os.Started) (H : Type) (enc : TypeId × Value → H) :
    ReturnsInHanded {} Try.checked os 3 .any (Rows.manifestFollowsSpec.pre6 enc Try.prog Try.f3 Rows.manifestFollowsRow.domain false) (Rows.manifestFollowsSpec.post enc Try.prog Try.f3 false true false false) := by
  refine returnsInHanded_of_change (C := Try.checked) own started (by kernel_rfl) Try.func3
    (ChangeSpec.witness6 (enc := enc) (C := Try.checked) false ⟨#[], #[.agg #[.string ByteArray.empty, .int .i64 0, .slice none 0 0, .string ByteArray.empty, .slice none 0 0, .int .i64 0, .bool false, .string ByteArray.empty], .slice none 0 0, .agg #[.string ByteArray.empty, .int .i64 0, .slice none 0 0, .string ByteArray.empty, .slice none 0 0, .int .i64 0, .bool false, .string ByteArray.empty]], []⟩ 8 (by kernel_rfl) (by kernel_rfl) (by kernel_rfl) (by kernel_rfl)) ?_
  intro W base args ds gs before hval0 hW hcnd _
  have hval : ∀ (j : Nat) t v, Try.f3.params[j]? = some t → args[j]? = some v → Value.okWide Try.prog W .any base t v := hval0
  have hW' := hW
  obtain ⟨p, q, hA0, hV, rfl, hfz, hnd⟩ := hW
  have hA : DataW.TrodAll enc Try.prog W 0 (fun _ => true) true Try.f3.params.toList args.toList ds p := hA0
  rw [Try.params3] at hA hval
  obtain ⟨v0, vs0, d0, ds0, p0, q0, hargs, rfl, rfl, h0, r0⟩ := trodAll_cons hA
  obtain ⟨v1, vs1, d1, ds1, p1, q1, rfl, rfl, rfl, h1, r1⟩ := trodAll_cons r0
  obtain ⟨v2, vs2, d2, ds2, p2, q2, rfl, rfl, rfl, h2, r2⟩ := trodAll_cons r1
  obtain ⟨rfl, rfl, rfl⟩ := trodAll_nil r2
  obtain rfl : args = #[v0, v1, v2] := by cases args; simp_all
  obtain ⟨rfl, rfl⟩ := trodVars_none hV
  obtain ⟨c0, rfl, -⟩ := okWide_struct Try.underlying25 (hval 0 25 v0 rfl rfl)
  have k0 := h0
  have lt0 : ∀ x ∈ p0, x.block < W.heap.size := by obtain ⟨m, hm⟩ := k0; exact DataW.trod_lt m _ _ _ hm
  obtain ⟨x0, e0, ok0⟩ : ∃ x : S_api_Manifest, RepL (memW W) (cS_api_Manifest x) c0.toList ∧ okS_api_Manifest x := by
    obtain ⟨m, hm⟩ := h0
    exact op_S_api_Manifest _ _ _ m _ _ hm
  obtain ⟨a1, l1, c1, rfl⟩ := okWide_slice Try.underlying22 (hval 1 22 v1 rfl rfl)
  have k1 := h1
  have lt1 : ∀ x ∈ p1, x.block < W.heap.size := by obtain ⟨m, hm⟩ := k1; exact DataW.trod_lt m _ _ _ hm
  obtain ⟨x1, e1, ok1⟩ : ∃ x : (List UInt8), RepD (memW W) (.seq 1 (x.map cU8)) (.slice a1 l1 c1) ∧ (okList okAny) x := by
    obtain ⟨m, hm⟩ := h1
    obtain ⟨x, hr, ho⟩ := (op_slice (te := 5) (k := 1) (by kernel_rfl) (by kernel_rfl) (by decide) (op_u8 (by kernel_rfl))) _ _ _ m _ _ hm
    obtain ⟨u, hu, hr⟩ := repl_head hr
    simp [Value.cells] at hu
    subst hu
    exact ⟨x, hr, ho⟩
  obtain ⟨c2, rfl, -⟩ := okWide_struct Try.underlying25 (hval 2 25 v2 rfl rfl)
  have k2 := h2
  have lt2 : ∀ x ∈ p2, x.block < W.heap.size := by obtain ⟨m, hm⟩ := k2; exact DataW.trod_lt m _ _ _ hm
  obtain ⟨x2, e2, ok2⟩ : ∃ x : S_api_Manifest, RepL (memW W) (cS_api_Manifest x) c2.toList ∧ okS_api_Manifest x := by
    obtain ⟨m, hm⟩ := h2
    exact op_S_api_Manifest _ _ _ m _ _ hm
  clear hA0 hval0
  refine (fc_law (fc_L28_ManifestFollows x0 x1 x2 true (n_ManifestFollows ⟨ok0.1, ok0.2.2.1.1, ok0.2.2.2.1, ⟨ok0.2.2.2.2.1.1, fun x hx => (ok0.2.2.2.2.1.2 x hx).1⟩, ok0.2.2.2.2.2.2.2⟩ ⟨ok2.1, ok2.2.2.1.1, ok2.2.2.2.1, ⟨ok2.2.2.2.2.1.1, fun x hx => (ok2.2.2.2.2.1.2 x hx).1⟩, ok2.2.2.2.2.2.2.2⟩ x1)) rfl (memW_sat W) (fun s => ?_)).mono fun e W' ⟨he, bel⟩ => ?_
  · match s with
    | 0 => exact ⟨c0, rfl, e0⟩
    | 1 => exact e1
    | 2 => exact ⟨c2, rfl, e2⟩
    | s + 3 => trivial
  subst he
  exact ⟨_, rfl, _, _, _, [], _, [], hW', trodAll_mk1 (shut_bool Try.underlying4 _), (trodAll_cons_mk (Below.trod laidOut (by kernel_rfl) (of_decide_eq_true (by kernel_rfl)) k0 bel lt0) (trodAll_cons_mk (Below.trod laidOut (by kernel_rfl) (of_decide_eq_true (by kernel_rfl)) k1 bel lt1) (trodAll_cons_mk (Below.trod laidOut (by kernel_rfl) (of_decide_eq_true (by kernel_rfl)) k2 bel lt2) trodAll_mk0))), rfl, bel.frame _, fun h => by cases h⟩

theorem over : Rows.manifestFollowsRow.holds Try.pinned (OpenSpec.ofChange Rows.manifestFollowsSpec) :=
  OpenClaim.holds_of_wide 3 Try.f3 rfl rfl rfl rfl rfl rfl rfl ⟨rfl, rfl, rfl, rfl, rfl⟩ rfl rfl rfl rfl rfl (by kernel_rfl) Try.func3 (by kernel_rfl)
    (of_decide_eq_true (by kernel_rfl)) (by unfold Func.isWrapper; first | (rw [if_pos (by decide +kernel)]; kernel_rfl) | (rw [if_neg (by decide +kernel)]; exact ⟨rfl, rfl⟩))
    (fun os started H enc _ => lifted os started H enc)

/-- THE STATEMENT -/
theorem proved : Rows.ManifestFollowsSaid := over
#print axioms proved
end Go.Proofs.Ytikaahmonocahaa.manifestFollows
