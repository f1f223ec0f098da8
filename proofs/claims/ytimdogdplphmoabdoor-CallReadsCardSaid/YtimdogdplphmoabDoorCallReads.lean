/-
  Proved: for every input that can be read, 'CallReads' returns true and leaves what was there as it was. No condition but the card: the table call.fields as the card lists it.
  The frame was written by the guide's program proof-skeleton.mjs and turned by a program of this claim's own; the walk is this claim's own.
-/
import Derived.Test.YtimdogdplphmoabDoorRows
import Derived.Test.YtimdogdplphmoabDoorTie
import Derived.Test.YtimdogdplphmoabDoorCards
import Derived.Test.YtimdogdplphmoabDoorClW
import Derived.Test.YtimdogdplphmoabDoorClR
import Derived.Test.YtimdogdplphmoabDoorOpn
import Derived.Test.YtimdogdplphmoabDoorOpnV
import Derived.WalkKit
import Derived.ProofKit
import Derived.OpenShut
import Derived.ShutString
import Derived.ChangeOld
import Derived.Below
import Derived.SevenTiedAt
import Derived.LaidMore
import Derived.Lib.LaidTab
import Derived.Stop.Joined
namespace Go.Proofs.YtimdogdplphmoabDoor.callReads
open Go.ChangeShapes Go.WideShapes Go.ChangeAt Go.RowKit
open Go.ChangeMaps (open_string shut_string)
set_option linter.unusedVariables false

theorem own : ownKnob Tryd.prog.godebug = none := by kernel_rfl
theorem gT : Tryd.prog.globalNamed "bastille/call.fields" = some 0 := by kernel_rfl
theorem gTT : (Tryd.prog.globals[0]?).map (·.type) = some 77 := by kernel_rfl
/-- The door's own heap meets the condition: three closed facts. -/
theorem door_met (os : Os) (args : Array Value) : laidMetH Tryd.prog [("bastille/call.fields", Rows.laid_bastille_call_fields)] ((World.doorLaid Tryd.prog 400 os).forCall (fun _ _ => 0) ⟨#[], args, []⟩).memory :=
  laidMetH_of_parts3 (fuel := 8) (laidMet_of_run' 8 (by kernel_rfl) (by kernel_rfl)) (by kernel_rfl) (by kernel_rfl)
/-- What the condition gives the walks. -/
theorem tbl_of {W : World} (h : laidMetH Tryd.prog [("bastille/call.fields", Rows.laid_bastille_call_fields)] W) : Mle TBL (memW W) := by
  rw [MakeChecks.laidMetH_plain _ _ _ (by kernel_rfl)] at h
  have hT := Lib.tabIs_of_head (zs := tbl_call_fields) (k := .i64) gT gTT Tryd.underlying77 Tryd.underlying3 (by kernel_rfl) (by kernel_rfl) h
  intro b p u hu
  unfold TBL TBLS at hu
  by_cases hb : b = 0
  · subst hb
    have hu : (tbl_call_fields.map (Value.int .i64))[p]? = some u := hu
    rw [List.getElem?_map] at hu
    cases hz : tbl_call_fields[p]? with
    | none => rw [hz] at hu; cases hu
    | some z =>
      rw [hz] at hu
      injection hu with hu
      have hlt := (List.getElem?_eq_some_iff.1 hz).1
      have := hT.cell gT p hlt
      rw [List.getD_eq_getElem?_getD, hz] at this
      rw [← hu]
      exact this
  · have hn : (0 == b) = false := by simpa using fun e => hb e.symm
    simp only [List.find?, hn] at hu
    cases hu
theorem laidOut : laidOutB Tryd.prog = true := by kernel_rfl

set_option maxRecDepth 100000 in
theorem lifted (os : Os) (started : os.Started) (H : Type) (enc : TypeId × Value → H) :
    ReturnsInHanded {} Tryd.checked os 6 .any (fun w args => (Rows.callReadsSpec.pre enc Tryd.prog Tryd.f6 [] false w args ∧ laidMetH Tryd.prog [("bastille/call.fields", Rows.laid_bastille_call_fields)] w) ∧ sizedMet enc Tryd.prog Tryd.f6 (OpenSpec.ofChange Rows.callReadsSpec) false w args) (Rows.callReadsSpec.post enc Tryd.prog Tryd.f6 false true false false) := by
  refine returnsInHanded_of_change_and (C := Tryd.checked) (X := fun w _ => laidMetH Tryd.prog [("bastille/call.fields", Rows.laid_bastille_call_fields)] w) (fun _ _ _ hh h => h.of_heap hh) own started (by kernel_rfl) Tryd.func6
    (ChangeSpec.witness_shaped (enc := enc) (C := Tryd.checked) (os := os) (X := fun w _ => laidMetH Tryd.prog [("bastille/call.fields", Rows.laid_bastille_call_fields)] w) false (World.doorLaid Tryd.prog 400 os) #[.slice none 0 0] 8 rfl (World.shaped_of_RefB (by kernel_rfl) (by kernel_rfl)) (by kernel_rfl) (by kernel_rfl) (by kernel_rfl) (door_met os _)) ?_
  intro W base args ds gs before hval0 hW _ _ hL _
  have hval : ∀ (j : Nat) t v, Tryd.f6.params[j]? = some t → args[j]? = some v → Value.okWide Tryd.prog W .any base t v := hval0
  have hW' := hW
  obtain ⟨p, q, hA0, hV, rfl, hfz, hnd⟩ := hW
  have hA : DataW.TrodAll enc Tryd.prog W 0 (fun _ => true) true Tryd.f6.params.toList args.toList ds p := hA0
  rw [Tryd.params6] at hA hval
  obtain ⟨v0, vs0, d0, ds0, p0, q0, hargs, rfl, rfl, h0, r0⟩ := trodAll_cons hA
  obtain ⟨rfl, rfl, rfl⟩ := trodAll_nil r0
  obtain rfl : args = #[v0] := by cases args; simp_all
  obtain ⟨rfl, rfl⟩ := trodVars_none hV
  obtain ⟨a0, l0, c0, rfl⟩ := okWide_slice Tryd.underlying22 (hval 0 22 v0 rfl rfl)
  have k0 := h0
  have lt0 : ∀ x ∈ p0, x.block < W.heap.size := by obtain ⟨m, hm⟩ := k0; exact DataW.trod_lt m _ _ _ hm
  obtain ⟨x0, e0, ok0⟩ : ∃ x : (List UInt8), RepD (memW W) (.seq 1 (x.map cU8)) (.slice a0 l0 c0) ∧ (okList okAny) x := by
    obtain ⟨m, hm⟩ := h0
    obtain ⟨x, hr, ho⟩ := (op_slice (te := 5) (k := 1) (by kernel_rfl) (by kernel_rfl) (by decide) (op_u8 (by kernel_rfl))) _ _ _ m _ _ hm
    obtain ⟨u, hu, hr⟩ := repl_head hr
    simp [Value.cells] at hu
    subst hu
    exact ⟨x, hr, ho⟩
  clear hA0 hval0
  refine (fc_law (fc_L30_CallReads x0 true (n_CallReads x0)) rfl (memW_sat W) (fun s => ?_) (tbl_of hL)).mono fun e W' ⟨he, bel⟩ => ?_
  · match s with
    | 0 => exact e0
    | s + 1 => trivial
  subst he
  exact ⟨_, rfl, _, _, _, [], _, [], hW', trodAll_mk1 (shut_bool Tryd.underlying4 _), (trodAll_cons_mk (Below.trod laidOut (by kernel_rfl) (of_decide_eq_true (by kernel_rfl)) k0 bel lt0) trodAll_mk0), rfl, bel.frame _, fun h => by cases h⟩

theorem over : Rows.callReadsRow.holds Tryd.pinned (OpenSpec.ofChange Rows.callReadsSpec) :=
  OpenClaim.holds_of_wide 6 Tryd.f6 rfl rfl rfl rfl rfl rfl rfl ⟨rfl, rfl, rfl, rfl, rfl⟩ rfl rfl rfl rfl rfl (by kernel_rfl) Tryd.func6 (by kernel_rfl)
    (of_decide_eq_true (by kernel_rfl)) (by unfold Func.isWrapper; first | (rw [if_pos (by decide +kernel)]; kernel_rfl) | (rw [if_neg (by decide +kernel)]; exact ⟨rfl, rfl⟩))
    (fun os started H enc _ => lifted os started H enc)

/-- THE STATEMENT -/
theorem proved : Rows.CallReadsCardSaid :=
  Claim7.holds_tied_plain_at .later [] [.data] true (true, "1bef847ca581f4b0432579d47ad6bdd68aa871d03f78de5304e22bb1c788dd71") false
    over (fun _ h => by cases h) (by kernel_rfl) (fun _ h => by cases h) callReads_row_tie rfl ⟨rfl, rfl⟩ (by kernel_rfl) rfl
    (fun f fn hf hfn => by
      obtain rfl : f = 6 := Option.some.inj ((show Tryd.prog.funcNamed "bastille/bastillelaw30.CallReads" = some 6 by kernel_rfl).symm.trans hf) |>.symm
      obtain rfl : fn = Tryd.f6 := (Option.some.inj (Tryd.func6.symm.trans hfn)).symm
      exact ⟨by kernel_rfl, fun j t ht => by
        rw [Tryd.params6] at ht
        have hm := Array.mem_of_getElem? ht
        have hall : (Tryd.f6.params.toList.all fun u => !Tryd.prog.wantsStandIn u) = true := by kernel_rfl
        rw [Tryd.params6] at hall
        exact (show Tryd.prog.wantsStandIn t = false by simpa using List.all_eq_true.1 hall t (by simpa using hm))⟩)
    (by kernel_rfl)
#print axioms proved
end Go.Proofs.YtimdogdplphmoabDoor.callReads
