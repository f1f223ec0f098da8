/-
  Proved: for every input that can be read, 'SpaceOnce' returns true and leaves what was there as it was. No condition but the card.
  The frame was written by the guide's program proof-skeleton.mjs and turned by a program of this claim's own; the walk is this claim's own.
-/
import Derived.Test.YtimdogdplphmoaaDoorRows
import Derived.Test.YtimdogdplphmoaaDoorTie
import Derived.Test.YtimdogdplphmoaaDoorCards
import Derived.Test.YtimdogdplphmoaaDoorSoY
import Derived.Test.YtimdogdplphmoaaDoorSpM
import Derived.Test.YtimdogdplphmoaaDoorOpn
import Derived.WalkKit
import Derived.ProofKit
import Derived.OpenShut
import Derived.ShutString
import Derived.ChangeOld
import Derived.Below
import Derived.SevenTiedAt
import Derived.LaidMore
import Derived.Lib.LaidTab
import Derived.Stop.Joined
namespace Go.Proofs.YtimdogdplphmoaaDoor
open Go Go.RowKit Go.ChangeShapes Go.WideShapes Go.ChangeAt
set_option linter.unusedVariables false
def okS_L19_Do (x : S_L19_Do) : Prop := (okInt .i64) x.Kind ∧ (okInt .i64) x.N ∧ (okList (okInt .i64)) x.L
theorem op_S_L19_Do {H : Type} {enc : TypeId × Value → H} {w : World} : OpT enc w 33 cS_L19_Do okS_L19_Do := by
  intro base spare held fuel cs x h
  obtain ⟨xs, n, rfl, _, hl, hxl, hfd⟩ := DataW.trod_struct (fs := _) Tryd.underlying33 h
  have cw : Tryd.prog.cellsOf 33 = 3 := by kernel_rfl
  have hxl : xs.length = 3 := hxl
  obtain ⟨y0, h0⟩ : ∃ y, xs[0]? = some y := ⟨xs[0], List.getElem?_eq_getElem (by omega)⟩
  have f0 : DataW.trod enc Tryd.prog w base spare held n 3 ((cs.drop 0).take (Tryd.prog.cellsOf 3)) = some y0 := (hfd 0 _ rfl).trans h0
  rw [show Tryd.prog.cellsOf 3 = 1 by kernel_rfl] at f0
  obtain ⟨v0, r0, o0⟩ := (op_int (by kernel_rfl)) _ _ _ _ _ _ f0
  obtain ⟨y1, h1⟩ : ∃ y, xs[1]? = some y := ⟨xs[1], List.getElem?_eq_getElem (by omega)⟩
  have f1 : DataW.trod enc Tryd.prog w base spare held n 3 ((cs.drop 1).take (Tryd.prog.cellsOf 3)) = some y1 := (hfd 1 _ rfl).trans h1
  rw [show Tryd.prog.cellsOf 3 = 1 by kernel_rfl] at f1
  obtain ⟨v1, r1, o1⟩ := (op_int (by kernel_rfl)) _ _ _ _ _ _ f1
  obtain ⟨y2, h2⟩ : ∃ y, xs[2]? = some y := ⟨xs[2], List.getElem?_eq_getElem (by omega)⟩
  have f2 : DataW.trod enc Tryd.prog w base spare held n 31 ((cs.drop 2).take (Tryd.prog.cellsOf 31)) = some y2 := (hfd 2 _ rfl).trans h2
  rw [show Tryd.prog.cellsOf 31 = 1 by kernel_rfl] at f2
  obtain ⟨v2, r2, o2⟩ := (op_slice (te := 3) (k := 1) (by kernel_rfl) (by kernel_rfl) (by decide) (op_int (by kernel_rfl))) _ _ _ _ _ _ f2
  exact ⟨⟨v0, v1, v2⟩, (show RepL (memW w) _ (cs.drop 0) from repl_cons (k := 1) r0 (repl_cons (k := 1) r1 (repl_cons (k := 1) r2 (repl_nil (hl.trans cw))))), ⟨o0, o1, o2⟩⟩
end Go.Proofs.YtimdogdplphmoaaDoor

namespace Go.Proofs.YtimdogdplphmoaaDoor.spaceOnce
open Go.ChangeShapes Go.WideShapes Go.ChangeAt Go.RowKit
open Go.ChangeMaps (open_string shut_string)
set_option linter.unusedVariables false

theorem own : ownKnob Tryd.prog.godebug = none := by kernel_rfl
theorem gT : Tryd.prog.globalNamed "math/bits.deBruijn64tab" = some 0 := by kernel_rfl
theorem gTT : (Tryd.prog.globals[0]?).map (·.type) = some 73 := by kernel_rfl
/-- The door's own heap meets the condition: three closed facts. -/
theorem door_met (os : Os) (args : Array Value) : laidMetH Tryd.prog [("math/bits.deBruijn64tab", Rows.laid_math_bits_deBruijn64tab)] ((World.doorLaid Tryd.prog 400 os).forCall (fun _ _ => 0) ⟨#[], args, []⟩).memory :=
  laidMetH_of_parts3 (fuel := 8) (laidMet_of_run' 8 (by kernel_rfl) (by kernel_rfl)) (by kernel_rfl) (by kernel_rfl)
/-- What the condition gives the walks. -/
theorem tbl_of {W : World} (h : laidMetH Tryd.prog [("math/bits.deBruijn64tab", Rows.laid_math_bits_deBruijn64tab)] W) : Mle TBL (memW W) := by
  rw [MakeChecks.laidMetH_plain _ _ _ (by kernel_rfl)] at h
  have hT := Lib.tabIs_of_head (zs := tbl_db64) (k := .u8) gT gTT Tryd.underlying73 Tryd.underlying5 (by kernel_rfl) (by kernel_rfl) h
  intro b p u hu
  unfold TBL TBLS at hu
  by_cases hb : b = 0
  · subst hb
    have hu : (tbl_db64.map (Value.int .u8))[p]? = some u := hu
    rw [List.getElem?_map] at hu
    cases hz : tbl_db64[p]? with
    | none => rw [hz] at hu; cases hu
    | some z =>
      rw [hz] at hu
      injection hu with hu
      have hlt := (List.getElem?_eq_some_iff.1 hz).1
      have := hT.cell gT p hlt
      rw [List.getD_eq_getElem?_getD, hz] at this
      rw [← hu]
      exact this
  · have hn : (0 == b) = false := by simpa using fun e => hb e.symm
    simp only [List.find?, hn] at hu
    cases hu
theorem laidOut : laidOutB Tryd.prog = true := by kernel_rfl

set_option maxRecDepth 100000 in
theorem lifted (os : Os) (started : os.Started) (H : Type) (enc : TypeId × Value → H) :
    ReturnsInHanded {} Tryd.checked os 4 .any (fun w args => (Rows.spaceOnceSpec.pre enc Tryd.prog Tryd.f4 [] false w args ∧ laidMetH Tryd.prog [("math/bits.deBruijn64tab", Rows.laid_math_bits_deBruijn64tab)] w) ∧ sizedMet enc Tryd.prog Tryd.f4 (OpenSpec.ofChange Rows.spaceOnceSpec) false w args) (Rows.spaceOnceSpec.post enc Tryd.prog Tryd.f4 false true false false) := by
  refine returnsInHanded_of_change_and (C := Tryd.checked) (X := fun w _ => laidMetH Tryd.prog [("math/bits.deBruijn64tab", Rows.laid_math_bits_deBruijn64tab)] w) (fun _ _ _ hh h => h.of_heap hh) own started (by kernel_rfl) Tryd.func4
    (ChangeSpec.witness_shaped (enc := enc) (C := Tryd.checked) (os := os) (X := fun w _ => laidMetH Tryd.prog [("math/bits.deBruijn64tab", Rows.laid_math_bits_deBruijn64tab)] w) false (World.doorLaid Tryd.prog 400 os) #[.int .u8 0, .slice none 0 0] 8 rfl (World.shaped_of_RefB (by kernel_rfl) (by kernel_rfl)) (by kernel_rfl) (by kernel_rfl) (by kernel_rfl) (door_met os _)) ?_
  intro W base args ds gs before hval0 hW _ _ hL _
  have hval : ∀ (j : Nat) t v, Tryd.f4.params[j]? = some t → args[j]? = some v → Value.okWide Tryd.prog W .any base t v := hval0
  have hW' := hW
  obtain ⟨p, q, hA0, hV, rfl, hfz, hnd⟩ := hW
  have hA : DataW.TrodAll enc Tryd.prog W 0 (fun _ => true) true Tryd.f4.params.toList args.toList ds p := hA0
  rw [Tryd.params4] at hA hval
  obtain ⟨v0, vs0, d0, ds0, p0, q0, hargs, rfl, rfl, h0, r0⟩ := trodAll_cons hA
  obtain ⟨v1, vs1, d1, ds1, p1, q1, rfl, rfl, rfl, h1, r1⟩ := trodAll_cons r0
  obtain ⟨rfl, rfl, rfl⟩ := trodAll_nil r1
  obtain rfl : args = #[v0, v1] := by cases args; simp_all
  obtain ⟨rfl, rfl⟩ := trodVars_none hV
  obtain ⟨n0, rfl, rfl, rfl, w0⟩ := open_int Tryd.underlying5 (hval 0 5 v0 rfl rfl) h0
  obtain ⟨x0, rfl⟩ := u8_of w0
  obtain ⟨a1, l1, c1, rfl⟩ := okWide_slice Tryd.underlying22 (hval 1 22 v1 rfl rfl)
  have k1 := h1
  have lt1 : ∀ x ∈ p1, x.block < W.heap.size := by obtain ⟨m, hm⟩ := k1; exact DataW.trod_lt m _ _ _ hm
  obtain ⟨x1, e1, ok1⟩ : ∃ x : (List S_L19_Do), RepD (memW W) (.seq 3 (x.map cS_L19_Do)) (.slice a1 l1 c1) ∧ (okList okS_L19_Do) x := by
    obtain ⟨m, hm⟩ := h1
    obtain ⟨x, hr, ho⟩ := (op_slice (te := 33) (k := 3) (by kernel_rfl) (by kernel_rfl) (by decide) op_S_L19_Do) _ _ _ m _ _ hm
    obtain ⟨u, hu, hr⟩ := repl_head hr
    simp [Value.cells] at hu
    subst hu
    exact ⟨x, hr, ho⟩
  clear hA0 hval0
  refine (fc_law (fc_L19_SpaceOnce x0 x1 true (n_SpaceOnce x0 x1 ok1.1)) rfl (memW_sat W) (fun s => ?_) (tbl_of hL)).mono fun e W' ⟨he, bel⟩ => ?_
  · match s with
    | 0 => exact .lit _ rfl
    | 1 => exact e1
    | s + 2 => trivial
  subst he
  exact ⟨_, rfl, _, _, _, [], _, [], hW', trodAll_mk1 (shut_bool Tryd.underlying4 _), (trodAll_cons_mk (shut_int Tryd.underlying5 w0) (trodAll_cons_mk (Below.trod laidOut (by kernel_rfl) (of_decide_eq_true (by kernel_rfl)) k1 bel lt1) trodAll_mk0)), rfl, bel.frame _, fun h => by cases h⟩

theorem over : Rows.spaceOnceRow.holds Tryd.pinned (OpenSpec.ofChange Rows.spaceOnceSpec) :=
  OpenClaim.holds_of_wide 4 Tryd.f4 rfl rfl rfl rfl rfl rfl rfl ⟨rfl, rfl, rfl, rfl, rfl⟩ rfl rfl rfl rfl rfl (by kernel_rfl) Tryd.func4 (by kernel_rfl)
    (of_decide_eq_true (by kernel_rfl)) (by unfold Func.isWrapper; first | (rw [if_pos (by decide +kernel)]; kernel_rfl) | (rw [if_neg (by decide +kernel)]; exact ⟨rfl, rfl⟩))
    (fun os started H enc _ => lifted os started H enc)

/-- THE STATEMENT -/
theorem proved : Rows.SpaceOnceCardSaid :=
  Claim7.holds_tied_plain_at .later [] [.data] true (true, "62a5407c3e57d3b7b103ac3a7ac6865f1535c3f9edaea5f1f8897b57d67b744d") false
    over (fun _ h => by cases h) (by kernel_rfl) (fun _ h => by cases h) spaceOnce_row_tie rfl ⟨rfl, rfl⟩ (by kernel_rfl) rfl
    (fun f fn hf hfn => by
      obtain rfl : f = 4 := Option.some.inj ((show Tryd.prog.funcNamed "bastille/bastillelaw19.SpaceOnce" = some 4 by kernel_rfl).symm.trans hf) |>.symm
      obtain rfl : fn = Tryd.f4 := (Option.some.inj (Tryd.func4.symm.trans hfn)).symm
      exact ⟨by kernel_rfl, fun j t ht => by
        rw [Tryd.params4] at ht
        have hm := Array.mem_of_getElem? ht
        have hall : (Tryd.f4.params.toList.all fun u => !Tryd.prog.wantsStandIn u) = true := by kernel_rfl
        rw [Tryd.params4] at hall
        exact (show Tryd.prog.wantsStandIn t = false by simpa using List.all_eq_true.1 hall t (by simpa using hm))⟩)
    (by kernel_rfl)
#print axioms proved
end Go.Proofs.YtimdogdplphmoaaDoor.spaceOnce
