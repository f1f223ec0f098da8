/-
  Proved: for every input that can be read, 'WalWhole' returns true and leaves what was there as it was. 
  The frame was written by the guide's program proof-skeleton.mjs and turned by a program of this claim's own; the walk is this claim's own.
-/
import Derived.Test.YtjomnccladjpgaaRows
import Derived.Test.YtjomnccladjpgaaQ20
import Derived.WalkKit
import Derived.ProofKit
import Derived.OpenShut
import Derived.ShutString
import Derived.ChangeOld
import Derived.Below
set_option linter.unusedVariables false
set_option linter.unusedSimpArgs false
namespace Go.Proofs.Ytjomnccladjpgaa
open Go Go.RowKit Go.ChangeShapes Go.WideShapes Go.ChangeAt
set_option linter.unusedVariables false

def okS_api_Write (x : S_api_Write) : Prop := (okInt .i64) x.Home ∧ (okList okAny) x.Data
theorem op_S_api_Write {H : Type} {enc : TypeId × Value → H} {w : World} : OpT enc w 100 cS_api_Write okS_api_Write := by
  intro base spare held fuel cs x h
  obtain ⟨xs, n, rfl, _, hl, hxl, hfd⟩ := DataW.trod_struct (fs := _) Try.underlying100 h
  have cw : Try.prog.cellsOf 100 = 2 := by kernel_rfl
  have hxl : xs.length = 2 := hxl
  obtain ⟨y0, h0⟩ : ∃ y, xs[0]? = some y := ⟨xs[0], List.getElem?_eq_getElem (by omega)⟩
  have f0 : DataW.trod enc Try.prog w base spare held n 3 ((cs.drop 0).take (Try.prog.cellsOf 3)) = some y0 := (hfd 0 _ rfl).trans h0
  rw [show Try.prog.cellsOf 3 = 1 by kernel_rfl] at f0
  obtain ⟨v0, r0, o0⟩ := (op_int (by kernel_rfl)) _ _ _ _ _ _ f0
  obtain ⟨y1, h1⟩ : ∃ y, xs[1]? = some y := ⟨xs[1], List.getElem?_eq_getElem (by omega)⟩
  have f1 : DataW.trod enc Try.prog w base spare held n 41 ((cs.drop 1).take (Try.prog.cellsOf 41)) = some y1 := (hfd 1 _ rfl).trans h1
  rw [show Try.prog.cellsOf 41 = 1 by kernel_rfl] at f1
  obtain ⟨v1, r1, o1⟩ := (op_slice (te := 5) (k := 1) (by kernel_rfl) (by kernel_rfl) (by decide) (op_u8 (by kernel_rfl))) _ _ _ _ _ _ f1
  exact ⟨⟨v0, v1⟩, (show RepL (memW w) _ (cs.drop 0) from repl_cons (k := 1) r0 (repl_cons (k := 1) r1 (repl_nil (hl.trans cw)))), ⟨o0, o1⟩⟩
end Go.Proofs.Ytjomnccladjpgaa

namespace Go.Proofs.Ytjomnccladjpgaa.walWhole
open Go.ChangeShapes Go.WideShapes Go.ChangeAt Go.RowKit
open Go.ChangeMaps (open_string shut_string)
set_option linter.unusedVariables false

theorem okU16 {n : Int} (h : okInt .u16 n) : 0 ≤ n ∧ n ≤ 65535 := by
  unfold okInt at h
  simp [Lit.wf, IntKind.min, IntKind.max, IntKind.signed, IntKind.bits] at h
  omega
theorem own : ownKnob Try.prog.godebug = none := by kernel_rfl
theorem laidOut : laidOutB Try.prog = true := by kernel_rfl

set_option maxRecDepth 100000 in
theorem lifted (os : Os) (started : os.Started) (H : Type) (enc : TypeId × Value → H) :
    ReturnsInHanded {} Try.checked os 4 .any (Rows.walWholeSpec.pre6 enc Try.prog Try.f4 Rows.walWholeRow.domain false) (Rows.walWholeSpec.post enc Try.prog Try.f4 false true false false) := by
  refine returnsInHanded_of_change (C := Try.checked) own started (by kernel_rfl) Try.func4
    (ChangeSpec.witness6 (enc := enc) (C := Try.checked) false ⟨#[], #[.slice none 0 0, .agg #[.int .u16 0, .int .u16 0], .agg #[.slice none 0 0, .slice none 0 0]], []⟩ 8 (by kernel_rfl) (by kernel_rfl) (by kernel_rfl) (by kernel_rfl)) ?_
  intro W base args ds gs before hval0 hW hcnd _
  have hval : ∀ (j : Nat) t v, Try.f4.params[j]? = some t → args[j]? = some v → Value.okWide Try.prog W .any base t v := hval0
  have hW' := hW
  obtain ⟨p, q, hA0, hV, rfl, hfz, hnd⟩ := hW
  have hA : DataW.TrodAll enc Try.prog W 0 (fun _ => true) true Try.f4.params.toList args.toList ds p := hA0
  rw [Try.params4] at hA hval
  obtain ⟨v0, vs0, d0, ds0, p0, q0, hargs, rfl, rfl, h0, r0⟩ := trodAll_cons hA
  obtain ⟨v1, vs1, d1, ds1, p1, q1, rfl, rfl, rfl, h1, r1⟩ := trodAll_cons r0
  obtain ⟨v2, vs2, d2, ds2, p2, q2, rfl, rfl, rfl, h2, r2⟩ := trodAll_cons r1
  obtain ⟨rfl, rfl, rfl⟩ := trodAll_nil r2
  obtain rfl : args = #[v0, v1, v2] := by cases args; simp_all
  obtain ⟨rfl, rfl⟩ := trodVars_none hV
  obtain ⟨a0, l0, c0, rfl⟩ := okWide_slice Try.underlying46 (hval 0 46 v0 rfl rfl)
  have k0 := h0
  have lt0 : ∀ x ∈ p0, x.block < W.heap.size := by obtain ⟨m, hm⟩ := k0; exact DataW.trod_lt m _ _ _ hm
  obtain ⟨x0, e0, ok0⟩ : ∃ x : (List (List S_api_Write)), RepD (memW W) (.seq 1 (x.map (cSl 2 cS_api_Write))) (.slice a0 l0 c0) ∧ (okList (okList okS_api_Write)) x := by
    obtain ⟨m, hm⟩ := h0
    obtain ⟨x, hr, ho⟩ := (op_slice (te := 22) (k := 1) (by kernel_rfl) (by kernel_rfl) (by decide) (op_slice (te := 100) (k := 2) (by kernel_rfl) (by kernel_rfl) (by decide) op_S_api_Write)) _ _ _ m _ _ hm
    obtain ⟨u, hu, hr⟩ := repl_head hr
    simp [Value.cells] at hu
    subst hu
    exact ⟨x, hr, ho⟩
  obtain ⟨c1, rfl⟩ := okWide_arr (n := 2) (e := 23) (by kernel_rfl) (hval 1 47 v1 rfl rfl)
  have k1 := h1
  have lt1 : ∀ x ∈ p1, x.block < W.heap.size := by obtain ⟨m, hm⟩ := k1; exact DataW.trod_lt m _ _ _ hm
  obtain ⟨x1, e1, ok1⟩ : ∃ x : List Int, RepL (memW W) (ar (cInt .u16) (0 : Int) x 0 2) c1.toList ∧ okArr2 (okInt .u16) x := by
    obtain ⟨m, hm⟩ := h1
    exact (op_arr2 (te := 23) (z := (0 : Int)) (by kernel_rfl) (by kernel_rfl) (by kernel_rfl) (op_int (by kernel_rfl))) _ _ _ m _ _ hm
  obtain ⟨c2, rfl⟩ := okWide_arr (n := 2) (e := 41) (by kernel_rfl) (hval 2 48 v2 rfl rfl)
  have k2 := h2
  have lt2 : ∀ x ∈ p2, x.block < W.heap.size := by obtain ⟨m, hm⟩ := k2; exact DataW.trod_lt m _ _ _ hm
  obtain ⟨x2, e2, ok2⟩ : ∃ x : List (List UInt8), RepL (memW W) (ar (cSl 1 cU8) ([] : List UInt8) x 0 2) c2.toList ∧ okArr2 (okList okAny) x := by
    obtain ⟨m, hm⟩ := h2
    exact (op_arr2 (te := 41) (z := ([] : List UInt8)) (by kernel_rfl) (by kernel_rfl) (by kernel_rfl) (op_slice (te := 5) (k := 1) (by kernel_rfl) (by kernel_rfl) (by decide) (op_u8 (by kernel_rfl)))) _ _ _ m _ _ hm
  have q1 : (0 ≤ x1.getD 0 0 ∧ x1.getD 0 0 ≤ 65535) ∧ 0 ≤ x1.getD 1 0 ∧ x1.getD 1 0 ≤ 65535 := by
    obtain ⟨a, b, rfl, oa, ob⟩ := ok1
    exact ⟨okU16 oa, okU16 ob⟩
  clear hA0 hval0
  refine (fc_law (law18w x0 x1 x2 q1.1 q1.2) rfl (memW_sat W) (fun s => ?_)).mono fun e W' ⟨he, bel⟩ => ?_
  · match s with
    | 0 => exact e0
    | 1 => exact ⟨c1, rfl, e1⟩
    | 2 => exact ⟨c2, rfl, e2⟩
    | s + 3 => trivial
  subst he
  exact ⟨_, rfl, _, _, _, [], _, [], hW', trodAll_mk1 (shut_bool Try.underlying4 _), (trodAll_cons_mk (Below.trod laidOut (by kernel_rfl) (of_decide_eq_true (by kernel_rfl)) k0 bel lt0) (trodAll_cons_mk (Below.trod laidOut (by kernel_rfl) (of_decide_eq_true (by kernel_rfl)) k1 bel lt1) (trodAll_cons_mk (Below.trod laidOut (by kernel_rfl) (of_decide_eq_true (by kernel_rfl)) k2 bel lt2) trodAll_mk0))), rfl, bel.frame _, fun h => by cases h⟩

theorem over : Rows.walWholeRow.holds Try.pinned (OpenSpec.ofChange Rows.walWholeSpec) :=
  OpenClaim.holds_of_wide 4 Try.f4 rfl rfl rfl rfl rfl rfl rfl ⟨rfl, rfl, rfl, rfl, rfl⟩ rfl rfl rfl rfl rfl (by kernel_rfl) Try.func4 (by kernel_rfl)
    (of_decide_eq_true (by kernel_rfl)) (by unfold Func.isWrapper; first | (rw [if_pos (by decide +kernel)]; kernel_rfl) | (rw [if_neg (by decide +kernel)]; exact ⟨rfl, rfl⟩))
    (fun os started H enc _ => lifted os started H enc)

/-- THE STATEMENT -/
theorem proved : Rows.WalWholeSaid := over
#print axioms proved
end Go.Proofs.Ytjomnccladjpgaa.walWhole
