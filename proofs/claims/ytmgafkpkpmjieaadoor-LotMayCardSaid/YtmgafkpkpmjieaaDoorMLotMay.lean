/-
 Proved: for every input that can be read, 'LotMay' returns true and leaves what was there as it was. The tables of kinds and of fields start as the text lays them: the card ties them.
 The frame was written by the guide's program proof-skeleton.mjs and turned by a program of this claim's own; the walk is this claim's own.
-/
import Derived.Test.YtmgafkpkpmjieaaDoorRows
import Derived.Test.YtmgafkpkpmjieaaDoorTie
import Derived.Test.YtmgafkpkpmjieaaDoorCards
import Derived.Test.YtmgafkpkpmjieaaDoorM19
import Derived.WalkKit
import Derived.ProofKit
import Derived.OpenShut
import Derived.ShutString
import Derived.ChangeOld
import Derived.Below
import Derived.SevenTiedAt
import Derived.LaidMore
import Derived.Lib.LaidTab
import Derived.Stop.Joined
set_option linter.unusedVariables false
set_option linter.unusedSimpArgs false
namespace Go.Proofs.YtmgafkpkpmjieaaDoor.lotMay
open Go.ChangeShapes Go.WideShapes Go.ChangeAt Go.RowKit
open Go.ChangeMaps (open_string shut_string)
set_option linter.unusedVariables false
theorem own : ownKnob Tryd.prog.godebug = none := by kernel_rfl
theorem tab_second {P : Program} {W : World} {n1 name : String} {d1 : DataW Unit} {k : IntKind} {zs : List Int} {rest : List (String × DataW Unit)} {g : Nat} {t e : TypeId} {n : Nat}
  (hg : P.globalNamed name = some g) (hty : (P.globals[g]?).map (·.type) = some t) (ht : P.underlying t = some (.array n e)) (he : P.underlying e = some (.int k)) (hce : P.cellsOf e = 1) (hct : P.cellsOf t = n)
  (h : laidMet P ((n1, d1) :: (name, Lib.tabData k zs) :: rest) W) : Lib.TabIs P W name k zs := by
 obtain ⟨ps, ⟨_, _, _, _, _, _, _, _, _, _, ⟨_, _, _, _, _, _, hg', ht', hvar, hd, _⟩, _⟩, _⟩ := h
 obtain rfl := Option.some.inj (hg.symm.trans hg')
 obtain rfl := Option.some.inj (hty.symm.trans ht')
 unfold Lib.TabIs
 rw [hvar, ← Lib.cells_of_tab ht he hce hct hd]
theorem gT0 : Tryd.prog.globalNamed "bastille/lot.kinds" = some 0 := by kernel_rfl
theorem gTT0 : (Tryd.prog.globals[0]?).map (·.type) = some 74 := by kernel_rfl
theorem gT1 : Tryd.prog.globalNamed "bastille/call.fields" = some 1 := by kernel_rfl
theorem gTT1 : (Tryd.prog.globals[1]?).map (·.type) = some 74 := by kernel_rfl
theorem door_met (os : Os) (args : Array Value) : laidMetH Tryd.prog [("bastille/lot.kinds", Rows.laid_bastille_lot_kinds), ("bastille/call.fields", Rows.laid_bastille_call_fields)] ((World.doorLaid Tryd.prog 400 os).forCall (fun _ _ => 0) ⟨#[], args, []⟩).memory :=
 laidMetH_of_parts3 (fuel := 8) (laidMet_of_run' 8 (by kernel_rfl) (by kernel_rfl)) (by kernel_rfl) (by kernel_rfl)
theorem tbl_of {W : World} (h : laidMetH Tryd.prog [("bastille/lot.kinds", Rows.laid_bastille_lot_kinds), ("bastille/call.fields", Rows.laid_bastille_call_fields)] W) : Mle TBL (memW W) := by
 rw [MakeChecks.laidMetH_plain _ _ _ (by kernel_rfl)] at h
 have hT0 := Lib.tabIs_of_head (zs := zBA) (k := .i64) gT0 gTT0 Tryd.underlying74 Tryd.underlying3 (by kernel_rfl) (by kernel_rfl) h
 have hT1 := tab_second (zs := zO) (k := .i64) gT1 gTT1 Tryd.underlying74 Tryd.underlying3 (by kernel_rfl) (by kernel_rfl) h
 intro b p u hu
 unfold TBL TBLS at hu
 by_cases hb : b = 0
 ·
  subst hb
  have hu : (zBA.map (Value.int .i64))[p]? = some u := hu
  rw [List.getElem?_map] at hu
  cases hz : zBA[p]? with
  | none => rw [hz] at hu; cases hu
  | some z =>
   rw [hz] at hu
   injection hu with hu
   have hlt := (List.getElem?_eq_some_iff.1 hz).1
   have := hT0.cell gT0 p hlt
   rw [List.getD_eq_getElem?_getD, hz] at this
   rw [← hu]
   exact this
 ·
  have hn : (0 == b) = false := by simpa using fun e => hb e.symm
  by_cases hb : b = 1
  ·
   subst hb
   have hu : (zO.map (Value.int .i64))[p]? = some u := hu
   rw [List.getElem?_map] at hu
   cases hz : zO[p]? with
   | none => rw [hz] at hu; cases hu
   | some z =>
    rw [hz] at hu
    injection hu with hu
    have hlt := (List.getElem?_eq_some_iff.1 hz).1
    have := hT1.cell gT1 p hlt
    rw [List.getD_eq_getElem?_getD, hz] at this
    rw [← hu]
    exact this
  ·
   have hn2 : (1 == b) = false := by simpa using fun e => hb e.symm
   simp only [List.find?, hn, hn2] at hu
   cases hu
theorem laidOut : laidOutB Tryd.prog = true := by kernel_rfl
set_option maxRecDepth 100000 in
theorem lifted (os : Os) (started : os.Started) (H : Type) (enc : TypeId × Value → H) :
  ReturnsInHanded {} Tryd.checked os 4 .any (fun w args => (Rows.lotMaySpec.pre enc Tryd.prog Tryd.f4 [] false w args ∧ laidMetH Tryd.prog [("bastille/lot.kinds", Rows.laid_bastille_lot_kinds), ("bastille/call.fields", Rows.laid_bastille_call_fields)] w) ∧ sizedMet enc Tryd.prog Tryd.f4 (OpenSpec.ofChange Rows.lotMaySpec) false w args) (Rows.lotMaySpec.post enc Tryd.prog Tryd.f4 false true false false) := by
 refine returnsInHanded_of_change_and (C := Tryd.checked) (X := fun w _ => laidMetH Tryd.prog [("bastille/lot.kinds", Rows.laid_bastille_lot_kinds), ("bastille/call.fields", Rows.laid_bastille_call_fields)] w) (fun _ _ _ hh h => h.of_heap hh) own started (by kernel_rfl) Tryd.func4
  (ChangeSpec.witness_shaped (enc := enc) (C := Tryd.checked) (os := os) (X := fun w _ => laidMetH Tryd.prog [("bastille/lot.kinds", Rows.laid_bastille_lot_kinds), ("bastille/call.fields", Rows.laid_bastille_call_fields)] w) false (World.doorLaid Tryd.prog 400 os) #[.agg #[.int .u8 0, .int .u8 0, .int .u8 0, .int .u8 0, .int .u8 0, .int .u8 0, .int .u8 0, .int .u8 0, .int .u8 0, .int .u8 0, .int .u8 0, .int .u8 0, .int .u8 0, .int .u8 0, .int .u8 0, .int .u8 0, .int .u8 0, .int .u8 0, .int .u8 0, .int .u8 0, .int .u8 0, .int .u8 0, .int .u8 0, .int .u8 0, .int .u8 0, .int .u8 0, .int .u8 0, .int .u8 0, .int .u8 0, .int .u8 0, .int .u8 0, .int .u8 0], .int .u8 0] 8 rfl (World.shaped_of_RefB (by kernel_rfl) (by kernel_rfl)) (by kernel_rfl) (by kernel_rfl) (by kernel_rfl) (door_met os _)) ?_
 intro W base args ds gs before hval0 hW _ _ hL _
 have hval : ∀ (j : Nat) t v, Tryd.f4.params[j]? = some t → args[j]? = some v → Value.okWide Tryd.prog W .any base t v := hval0
 have hW' := hW
 obtain ⟨p, q, hA0, hV, rfl, hfz, hnd⟩ := hW
 have hA : DataW.TrodAll enc Tryd.prog W 0 (fun _ => true) true Tryd.f4.params.toList args.toList ds p := hA0
 rw [Tryd.params4] at hA hval
 obtain ⟨v0, vs0, d0, ds0, p0, q0, hargs, rfl, rfl, h0, r0⟩ := trodAll_cons hA
 obtain ⟨v1, vs1, d1, ds1, p1, q1, rfl, rfl, rfl, h1, r1⟩ := trodAll_cons r0
 obtain ⟨rfl, rfl, rfl⟩ := trodAll_nil r1
 obtain rfl : args = #[v0, v1] := by cases args; simp_all
 obtain ⟨rfl, rfl⟩ := trodVars_none hV
 obtain ⟨c0, rfl⟩ := zId (n := 32) (e := 5) (by kernel_rfl) (hval 0 22 v0 rfl rfl)
 have k0 := h0
 have lt0 : ∀ x ∈ p0, x.block < W.heap.size := by obtain ⟨m, hm⟩ := k0; exact DataW.trod_lt m _ _ _ hm
 obtain ⟨x0, e0, ok0⟩ : ∃ x : List UInt8, RepL (memW W) (ar cU8 (0 : UInt8) x 0 32) c0.toList ∧ (okArr 32 okAny) x := by
  obtain ⟨m, hm⟩ := h0
  exact (op_arr (n := 32) (te := 5) (z := (0 : UInt8)) (by kernel_rfl) (by kernel_rfl) (by kernel_rfl) (op_u8 (by kernel_rfl))) _ _ _ m _ _ hm
 obtain ⟨n1, rfl, rfl, rfl, w1⟩ := open_int Tryd.underlying5 (hval 1 5 v1 rfl rfl) h1
 obtain ⟨x1, rfl⟩ := u8_of w1
 clear hA0 hval0
 refine (fc_law (zGY x0 x1 true (n_LotMay ok0.1 x1)) rfl (memW_sat W) (fun s => ?_) (tbl_of hL)).mono fun e W' ⟨he, bel⟩ => ?_
 ·
  match s with
  | 0 => exact ⟨c0, rfl, e0⟩
  | 1 => exact .lit _ rfl
  | s + 2 => trivial
 subst he
 exact ⟨_, rfl, _, _, _, [], _, [], hW', trodAll_mk1 (shut_bool Tryd.underlying4 _), (trodAll_cons_mk (Below.trod laidOut (by kernel_rfl) (of_decide_eq_true (by kernel_rfl)) k0 bel lt0) (trodAll_cons_mk (shut_int Tryd.underlying5 w1) trodAll_mk0)), rfl, bel.frame _, fun h => by cases h⟩
theorem over : Rows.lotMayRow.holds Tryd.pinned (OpenSpec.ofChange Rows.lotMaySpec) :=
 OpenClaim.holds_of_wide 4 Tryd.f4 rfl rfl rfl rfl rfl rfl rfl ⟨rfl, rfl, rfl, rfl, rfl⟩ rfl rfl rfl rfl rfl (by kernel_rfl) Tryd.func4 (by kernel_rfl)
  (of_decide_eq_true (by kernel_rfl)) (by unfold Func.isWrapper; first | (rw [if_pos (by decide +kernel)]; kernel_rfl) | (rw [if_neg (by decide +kernel)]; exact ⟨rfl, rfl⟩))
  (fun os started H enc _ => lifted os started H enc)
theorem proved : Rows.LotMayCardSaid :=
 Claim7.holds_tied_plain_at .later [] [.data, .data] true (true, "b9ce61e8288dbd922feb2430169bee0c13e856a5f3c4720026433ba06d84c94c") false
  over (fun _ h => by cases h) (by kernel_rfl) (fun _ h => by cases h) lotMay_row_tie rfl ⟨rfl, rfl⟩ (by kernel_rfl) rfl
  (fun f fn hf hfn => by
   obtain rfl : f = 4 := Option.some.inj ((show Tryd.prog.funcNamed "bastille/bastillelaw43.LotMay" = some 4 by kernel_rfl).symm.trans hf) |>.symm
   obtain rfl : fn = Tryd.f4 := (Option.some.inj (Tryd.func4.symm.trans hfn)).symm
   exact ⟨by kernel_rfl, fun j t ht => by
    rw [Tryd.params4] at ht
    have hm := Array.mem_of_getElem? ht
    have hall : (Tryd.f4.params.toList.all fun u => !Tryd.prog.wantsStandIn u) = true := by kernel_rfl
    rw [Tryd.params4] at hall
    exact (show Tryd.prog.wantsStandIn t = false by simpa using List.all_eq_true.1 hall t (by simpa using hm))⟩)
  (by kernel_rfl)
#print axioms proved
end Go.Proofs.YtmgafkpkpmjieaaDoor.lotMay
