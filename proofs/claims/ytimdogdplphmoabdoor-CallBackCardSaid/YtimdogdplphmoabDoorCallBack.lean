/-
  Proved: for every input that can be read, 'CallBack' returns true and leaves what was there as it was. No condition but the card: the table call.fields as the card lists it.
  The frame was written by the guide's program proof-skeleton.mjs and turned by a program of this claim's own; the walk is this claim's own.
-/
import Derived.Test.YtimdogdplphmoabDoorRows
import Derived.Test.YtimdogdplphmoabDoorTie
import Derived.Test.YtimdogdplphmoabDoorCards
import Derived.Test.YtimdogdplphmoabDoorClW
import Derived.Test.YtimdogdplphmoabDoorClR
import Derived.Test.YtimdogdplphmoabDoorOpn
import Derived.Test.YtimdogdplphmoabDoorOpnV
import Derived.WalkKit
import Derived.ProofKit
import Derived.OpenShut
import Derived.ShutString
import Derived.ChangeOld
import Derived.Below
import Derived.SevenTiedAt
import Derived.LaidMore
import Derived.Lib.LaidTab
import Derived.Stop.Joined
namespace Go.Proofs.YtimdogdplphmoabDoor
open Go Go.RowKit Go.ChangeShapes Go.WideShapes Go.ChangeAt
set_option linter.unusedVariables false
abbrev cS_api_Call (x : S_api_Call) : List D := [.lit (.int .i64 x.Kind), .lit (.string ⟨⟨x.User⟩⟩), .lit (.string ⟨⟨x.Folder⟩⟩), .lit (.string ⟨⟨x.Name⟩⟩), .lit (.string ⟨⟨x.Other⟩⟩), .lit (.int .i64 x.Role), .lit (.int .i64 x.Version), .seq 1 (bytesD x.Data)]

def okS_api_Call (x : S_api_Call) : Prop := (okInt .i64) x.Kind ∧ okLen x.User ∧ okLen x.Folder ∧ okLen x.Name ∧ okLen x.Other ∧ (okInt .i64) x.Role ∧ (okInt .i64) x.Version ∧ (okList okAny) x.Data
theorem op_S_api_Call {H : Type} {enc : TypeId × Value → H} {w : World} : OpT enc w 24 cS_api_Call okS_api_Call := by
  intro base spare held fuel cs x h
  obtain ⟨xs, n, rfl, _, hl, hxl, hfd⟩ := DataW.trod_struct (fs := _) Tryd.underlying24 h
  have cw : Tryd.prog.cellsOf 24 = 8 := by kernel_rfl
  have hxl : xs.length = 8 := hxl
  obtain ⟨y0, h0⟩ : ∃ y, xs[0]? = some y := ⟨xs[0], List.getElem?_eq_getElem (by omega)⟩
  have f0 : DataW.trod enc Tryd.prog w base spare held n 3 ((cs.drop 0).take (Tryd.prog.cellsOf 3)) = some y0 := (hfd 0 _ rfl).trans h0
  rw [show Tryd.prog.cellsOf 3 = 1 by kernel_rfl] at f0
  obtain ⟨v0, r0, o0⟩ := (op_int (by kernel_rfl)) _ _ _ _ _ _ f0
  obtain ⟨y1, h1⟩ : ∃ y, xs[1]? = some y := ⟨xs[1], List.getElem?_eq_getElem (by omega)⟩
  have f1 : DataW.trod enc Tryd.prog w base spare held n 9 ((cs.drop 1).take (Tryd.prog.cellsOf 9)) = some y1 := (hfd 1 _ rfl).trans h1
  rw [show Tryd.prog.cellsOf 9 = 1 by kernel_rfl] at f1
  obtain ⟨v1, r1, o1⟩ := (op_str (by kernel_rfl)) _ _ _ _ _ _ f1
  obtain ⟨y2, h2⟩ : ∃ y, xs[2]? = some y := ⟨xs[2], List.getElem?_eq_getElem (by omega)⟩
  have f2 : DataW.trod enc Tryd.prog w base spare held n 9 ((cs.drop 2).take (Tryd.prog.cellsOf 9)) = some y2 := (hfd 2 _ rfl).trans h2
  rw [show Tryd.prog.cellsOf 9 = 1 by kernel_rfl] at f2
  obtain ⟨v2, r2, o2⟩ := (op_str (by kernel_rfl)) _ _ _ _ _ _ f2
  obtain ⟨y3, h3⟩ : ∃ y, xs[3]? = some y := ⟨xs[3], List.getElem?_eq_getElem (by omega)⟩
  have f3 : DataW.trod enc Tryd.prog w base spare held n 9 ((cs.drop 3).take (Tryd.prog.cellsOf 9)) = some y3 := (hfd 3 _ rfl).trans h3
  rw [show Tryd.prog.cellsOf 9 = 1 by kernel_rfl] at f3
  obtain ⟨v3, r3, o3⟩ := (op_str (by kernel_rfl)) _ _ _ _ _ _ f3
  obtain ⟨y4, h4⟩ : ∃ y, xs[4]? = some y := ⟨xs[4], List.getElem?_eq_getElem (by omega)⟩
  have f4 : DataW.trod enc Tryd.prog w base spare held n 9 ((cs.drop 4).take (Tryd.prog.cellsOf 9)) = some y4 := (hfd 4 _ rfl).trans h4
  rw [show Tryd.prog.cellsOf 9 = 1 by kernel_rfl] at f4
  obtain ⟨v4, r4, o4⟩ := (op_str (by kernel_rfl)) _ _ _ _ _ _ f4
  obtain ⟨y5, h5⟩ : ∃ y, xs[5]? = some y := ⟨xs[5], List.getElem?_eq_getElem (by omega)⟩
  have f5 : DataW.trod enc Tryd.prog w base spare held n 3 ((cs.drop 5).take (Tryd.prog.cellsOf 3)) = some y5 := (hfd 5 _ rfl).trans h5
  rw [show Tryd.prog.cellsOf 3 = 1 by kernel_rfl] at f5
  obtain ⟨v5, r5, o5⟩ := (op_int (by kernel_rfl)) _ _ _ _ _ _ f5
  obtain ⟨y6, h6⟩ : ∃ y, xs[6]? = some y := ⟨xs[6], List.getElem?_eq_getElem (by omega)⟩
  have f6 : DataW.trod enc Tryd.prog w base spare held n 3 ((cs.drop 6).take (Tryd.prog.cellsOf 3)) = some y6 := (hfd 6 _ rfl).trans h6
  rw [show Tryd.prog.cellsOf 3 = 1 by kernel_rfl] at f6
  obtain ⟨v6, r6, o6⟩ := (op_int (by kernel_rfl)) _ _ _ _ _ _ f6
  obtain ⟨y7, h7⟩ : ∃ y, xs[7]? = some y := ⟨xs[7], List.getElem?_eq_getElem (by omega)⟩
  have f7 : DataW.trod enc Tryd.prog w base spare held n 22 ((cs.drop 7).take (Tryd.prog.cellsOf 22)) = some y7 := (hfd 7 _ rfl).trans h7
  rw [show Tryd.prog.cellsOf 22 = 1 by kernel_rfl] at f7
  obtain ⟨v7, r7, o7⟩ := (op_slice (te := 5) (k := 1) (by kernel_rfl) (by kernel_rfl) (by decide) (op_u8 (by kernel_rfl))) _ _ _ _ _ _ f7
  exact ⟨⟨v0, v1, v2, v3, v4, v5, v6, v7⟩, (show RepL (memW w) _ (cs.drop 0) from repl_cons (k := 1) r0 (repl_cons (k := 1) r1 (repl_cons (k := 1) r2 (repl_cons (k := 1) r3 (repl_cons (k := 1) r4 (repl_cons (k := 1) r5 (repl_cons (k := 1) r6 (repl_cons (k := 1) r7 (repl_nil (hl.trans cw)))))))))), ⟨o0, o1, o2, o3, o4, o5, o6, o7⟩⟩
end Go.Proofs.YtimdogdplphmoabDoor

namespace Go.Proofs.YtimdogdplphmoabDoor.callBack
open Go.ChangeShapes Go.WideShapes Go.ChangeAt Go.RowKit
open Go.ChangeMaps (open_string shut_string)
set_option linter.unusedVariables false

theorem own : ownKnob Tryd.prog.godebug = none := by kernel_rfl
theorem gT : Tryd.prog.globalNamed "bastille/call.fields" = some 0 := by kernel_rfl
theorem gTT : (Tryd.prog.globals[0]?).map (·.type) = some 77 := by kernel_rfl
/-- The door's own heap meets the condition: three closed facts. -/
theorem door_met (os : Os) (args : Array Value) : laidMetH Tryd.prog [("bastille/call.fields", Rows.laid_bastille_call_fields)] ((World.doorLaid Tryd.prog 400 os).forCall (fun _ _ => 0) ⟨#[], args, []⟩).memory :=
  laidMetH_of_parts3 (fuel := 8) (laidMet_of_run' 8 (by kernel_rfl) (by kernel_rfl)) (by kernel_rfl) (by kernel_rfl)
/-- What the condition gives the walks. -/
theorem tbl_of {W : World} (h : laidMetH Tryd.prog [("bastille/call.fields", Rows.laid_bastille_call_fields)] W) : Mle TBL (memW W) := by
  rw [MakeChecks.laidMetH_plain _ _ _ (by kernel_rfl)] at h
  have hT := Lib.tabIs_of_head (zs := tbl_call_fields) (k := .i64) gT gTT Tryd.underlying77 Tryd.underlying3 (by kernel_rfl) (by kernel_rfl) h
  intro b p u hu
  unfold TBL TBLS at hu
  by_cases hb : b = 0
  · subst hb
    have hu : (tbl_call_fields.map (Value.int .i64))[p]? = some u := hu
    rw [List.getElem?_map] at hu
    cases hz : tbl_call_fields[p]? with
    | none => rw [hz] at hu; cases hu
    | some z =>
      rw [hz] at hu
      injection hu with hu
      have hlt := (List.getElem?_eq_some_iff.1 hz).1
      have := hT.cell gT p hlt
      rw [List.getD_eq_getElem?_getD, hz] at this
      rw [← hu]
      exact this
  · have hn : (0 == b) = false := by simpa using fun e => hb e.symm
    simp only [List.find?, hn] at hu
    cases hu
theorem laidOut : laidOutB Tryd.prog = true := by kernel_rfl

set_option maxRecDepth 100000 in
theorem lifted (os : Os) (started : os.Started) (H : Type) (enc : TypeId × Value → H) :
    ReturnsInHanded {} Tryd.checked os 5 .any (fun w args => (Rows.callBackSpec.pre enc Tryd.prog Tryd.f5 [] false w args ∧ laidMetH Tryd.prog [("bastille/call.fields", Rows.laid_bastille_call_fields)] w) ∧ sizedMet enc Tryd.prog Tryd.f5 (OpenSpec.ofChange Rows.callBackSpec) false w args) (Rows.callBackSpec.post enc Tryd.prog Tryd.f5 false true false false) := by
  refine returnsInHanded_of_change_and (C := Tryd.checked) (X := fun w _ => laidMetH Tryd.prog [("bastille/call.fields", Rows.laid_bastille_call_fields)] w) (fun _ _ _ hh h => h.of_heap hh) own started (by kernel_rfl) Tryd.func5
    (ChangeSpec.witness_shaped (enc := enc) (C := Tryd.checked) (os := os) (X := fun w _ => laidMetH Tryd.prog [("bastille/call.fields", Rows.laid_bastille_call_fields)] w) false (World.doorLaid Tryd.prog 400 os) #[.agg #[.int .i64 0, .string ByteArray.empty, .string ByteArray.empty, .string ByteArray.empty, .string ByteArray.empty, .int .i64 0, .int .i64 0, .slice none 0 0]] 8 rfl (World.shaped_of_RefB (by kernel_rfl) (by kernel_rfl)) (by kernel_rfl) (by kernel_rfl) (by kernel_rfl) (door_met os _)) ?_
  intro W base args ds gs before hval0 hW _ _ hL _
  have hval : ∀ (j : Nat) t v, Tryd.f5.params[j]? = some t → args[j]? = some v → Value.okWide Tryd.prog W .any base t v := hval0
  have hW' := hW
  obtain ⟨p, q, hA0, hV, rfl, hfz, hnd⟩ := hW
  have hA : DataW.TrodAll enc Tryd.prog W 0 (fun _ => true) true Tryd.f5.params.toList args.toList ds p := hA0
  rw [Tryd.params5] at hA hval
  obtain ⟨v0, vs0, d0, ds0, p0, q0, hargs, rfl, rfl, h0, r0⟩ := trodAll_cons hA
  obtain ⟨rfl, rfl, rfl⟩ := trodAll_nil r0
  obtain rfl : args = #[v0] := by cases args; simp_all
  obtain ⟨rfl, rfl⟩ := trodVars_none hV
  obtain ⟨c0, rfl, -⟩ := okWide_struct Tryd.underlying24 (hval 0 24 v0 rfl rfl)
  have k0 := h0
  have lt0 : ∀ x ∈ p0, x.block < W.heap.size := by obtain ⟨m, hm⟩ := k0; exact DataW.trod_lt m _ _ _ hm
  obtain ⟨x0, e0, ok0⟩ : ∃ x : S_api_Call, RepL (memW W) (cS_api_Call x) c0.toList ∧ okS_api_Call x := by
    obtain ⟨m, hm⟩ := h0
    exact op_S_api_Call _ _ _ m _ _ hm
  clear hA0 hval0
  refine (fc_law (fc_L30_CallBack x0 true (n_CallBack x0)) rfl (memW_sat W) (fun s => ?_) (tbl_of hL)).mono fun e W' ⟨he, bel⟩ => ?_
  · match s with
    | 0 => exact ⟨c0, rfl, e0⟩
    | s + 1 => trivial
  subst he
  exact ⟨_, rfl, _, _, _, [], _, [], hW', trodAll_mk1 (shut_bool Tryd.underlying4 _), (trodAll_cons_mk (Below.trod laidOut (by kernel_rfl) (of_decide_eq_true (by kernel_rfl)) k0 bel lt0) trodAll_mk0), rfl, bel.frame _, fun h => by cases h⟩

theorem over : Rows.callBackRow.holds Tryd.pinned (OpenSpec.ofChange Rows.callBackSpec) :=
  OpenClaim.holds_of_wide 5 Tryd.f5 rfl rfl rfl rfl rfl rfl rfl ⟨rfl, rfl, rfl, rfl, rfl⟩ rfl rfl rfl rfl rfl (by kernel_rfl) Tryd.func5 (by kernel_rfl)
    (of_decide_eq_true (by kernel_rfl)) (by unfold Func.isWrapper; first | (rw [if_pos (by decide +kernel)]; kernel_rfl) | (rw [if_neg (by decide +kernel)]; exact ⟨rfl, rfl⟩))
    (fun os started H enc _ => lifted os started H enc)

/-- THE STATEMENT -/
theorem proved : Rows.CallBackCardSaid :=
  Claim7.holds_tied_plain_at .later [] [.data] true (true, "1bef847ca581f4b0432579d47ad6bdd68aa871d03f78de5304e22bb1c788dd71") false
    over (fun _ h => by cases h) (by kernel_rfl) (fun _ h => by cases h) callBack_row_tie rfl ⟨rfl, rfl⟩ (by kernel_rfl) rfl
    (fun f fn hf hfn => by
      obtain rfl : f = 5 := Option.some.inj ((show Tryd.prog.funcNamed "bastille/bastillelaw30.CallBack" = some 5 by kernel_rfl).symm.trans hf) |>.symm
      obtain rfl : fn = Tryd.f5 := (Option.some.inj (Tryd.func5.symm.trans hfn)).symm
      exact ⟨by kernel_rfl, fun j t ht => by
        rw [Tryd.params5] at ht
        have hm := Array.mem_of_getElem? ht
        have hall : (Tryd.f5.params.toList.all fun u => !Tryd.prog.wantsStandIn u) = true := by kernel_rfl
        rw [Tryd.params5] at hall
        exact (show Tryd.prog.wantsStandIn t = false by simpa using List.all_eq_true.1 hall t (by simpa using hm))⟩)
    (by kernel_rfl)
#print axioms proved
end Go.Proofs.YtimdogdplphmoabDoor.callBack
