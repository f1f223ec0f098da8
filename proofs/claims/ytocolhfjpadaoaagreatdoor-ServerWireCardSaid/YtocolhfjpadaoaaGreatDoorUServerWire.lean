/-
  Proved: for every input that can be read, 'ServerWire' returns true and leaves what was there as it was. No condition but the card.
  The frame was written by the guide's program proof-skeleton.mjs and turned by a program of this claim's own; the walk is this claim's own.
-/
import Derived.Test.YtocolhfjpadaoaaGreatDoorU17
import Derived.Test.YtocolhfjpadaoaaGreatDoorRows
import Derived.Test.YtocolhfjpadaoaaGreatDoorTie
import Derived.Test.YtocolhfjpadaoaaGreatDoorCards
import Derived.ShutString
import Derived.ChangeOld
import Derived.Below
import Derived.SevenTiedAt
import Derived.LaidMore
import Derived.Lib.LaidTab
import Derived.Stop.Joined
set_option linter.unusedVariables false
set_option linter.unusedSimpArgs false
set_option linter.constructorNameAsVariable false
namespace Go.Proofs.YtocolhfjpadaoaaGreatDoor
open Go Go.RowKit Go.ChangeShapes Go.WideShapes Go.ChangeAt
set_option linter.unusedVariables false
abbrev cS_api_Request (x : zB) : List D := [.lit (.int .i64 x.Kind), .lit (.string ⟨⟨x.User⟩⟩), .lit (.int .i64 x.Number), .lit (.string ⟨⟨x.Key⟩⟩), .seq 4 (List.map zG x.Wants), .seq 4 (List.map zC x.Changes)]
def okS_api_Want (x : zJ) : Prop := (zTw .i64) x.Kind ∧ okLen x.Key ∧ (zTw .i64) x.Version ∧ (zTw .i64) x.Size
theorem op_S_api_Want {H : Type} {enc : TypeId × Value → H} {w : World} : OpT enc w 219 zG okS_api_Want := by
  intro base spare held fuel cs x h
  obtain ⟨xs, n, rfl, _, hl, hxl, hfd⟩ := DataW.trod_struct (fs := _) Tryz.underlying219 h
  have cw : Tryz.prog.cellsOf 219 = 4 := by kernel_rfl
  have hxl : xs.length = 4 := hxl
  obtain ⟨y0, h0⟩ : ∃ y, xs[0]? = some y := ⟨xs[0], List.getElem?_eq_getElem (by omega)⟩
  have f0 : DataW.trod enc Tryz.prog w base spare held n 3 ((cs.drop 0).take (Tryz.prog.cellsOf 3)) = some y0 := (hfd 0 _ rfl).trans h0
  rw [show Tryz.prog.cellsOf 3 = 1 by kernel_rfl] at f0
  obtain ⟨v0, r0, o0⟩ := (zP6 (by kernel_rfl)) _ _ _ _ _ _ f0
  obtain ⟨y1, h1⟩ : ∃ y, xs[1]? = some y := ⟨xs[1], List.getElem?_eq_getElem (by omega)⟩
  have f1 : DataW.trod enc Tryz.prog w base spare held n 9 ((cs.drop 1).take (Tryz.prog.cellsOf 9)) = some y1 := (hfd 1 _ rfl).trans h1
  rw [show Tryz.prog.cellsOf 9 = 1 by kernel_rfl] at f1
  obtain ⟨v1, r1, o1⟩ := (zWy (by kernel_rfl)) _ _ _ _ _ _ f1
  obtain ⟨y2, h2⟩ : ∃ y, xs[2]? = some y := ⟨xs[2], List.getElem?_eq_getElem (by omega)⟩
  have f2 : DataW.trod enc Tryz.prog w base spare held n 3 ((cs.drop 2).take (Tryz.prog.cellsOf 3)) = some y2 := (hfd 2 _ rfl).trans h2
  rw [show Tryz.prog.cellsOf 3 = 1 by kernel_rfl] at f2
  obtain ⟨v2, r2, o2⟩ := (zP6 (by kernel_rfl)) _ _ _ _ _ _ f2
  obtain ⟨y3, h3⟩ : ∃ y, xs[3]? = some y := ⟨xs[3], List.getElem?_eq_getElem (by omega)⟩
  have f3 : DataW.trod enc Tryz.prog w base spare held n 3 ((cs.drop 3).take (Tryz.prog.cellsOf 3)) = some y3 := (hfd 3 _ rfl).trans h3
  rw [show Tryz.prog.cellsOf 3 = 1 by kernel_rfl] at f3
  obtain ⟨v3, r3, o3⟩ := (zP6 (by kernel_rfl)) _ _ _ _ _ _ f3
  exact ⟨⟨v0, v1, v2, v3⟩, (show RepL (memW w) _ (cs.drop 0) from zBM (k := 1) r0 (zBM (k := 1) r1 (zBM (k := 1) r2 (zBM (k := 1) r3 (zTC (hl.trans cw)))))), ⟨o0, o1, o2, o3⟩⟩
def okS_api_Change (x : zF) : Prop := (zTw .i64) x.Kind ∧ okLen x.Key ∧ (zTw .i64) x.Version ∧ (zSB okAny) x.Data
theorem op_S_api_Change {H : Type} {enc : TypeId × Value → H} {w : World} : OpT enc w 76 zC okS_api_Change := by
  intro base spare held fuel cs x h
  obtain ⟨xs, n, rfl, _, hl, hxl, hfd⟩ := DataW.trod_struct (fs := _) Tryz.underlying76 h
  have cw : Tryz.prog.cellsOf 76 = 4 := by kernel_rfl
  have hxl : xs.length = 4 := hxl
  obtain ⟨y0, h0⟩ : ∃ y, xs[0]? = some y := ⟨xs[0], List.getElem?_eq_getElem (by omega)⟩
  have f0 : DataW.trod enc Tryz.prog w base spare held n 3 ((cs.drop 0).take (Tryz.prog.cellsOf 3)) = some y0 := (hfd 0 _ rfl).trans h0
  rw [show Tryz.prog.cellsOf 3 = 1 by kernel_rfl] at f0
  obtain ⟨v0, r0, o0⟩ := (zP6 (by kernel_rfl)) _ _ _ _ _ _ f0
  obtain ⟨y1, h1⟩ : ∃ y, xs[1]? = some y := ⟨xs[1], List.getElem?_eq_getElem (by omega)⟩
  have f1 : DataW.trod enc Tryz.prog w base spare held n 9 ((cs.drop 1).take (Tryz.prog.cellsOf 9)) = some y1 := (hfd 1 _ rfl).trans h1
  rw [show Tryz.prog.cellsOf 9 = 1 by kernel_rfl] at f1
  obtain ⟨v1, r1, o1⟩ := (zWy (by kernel_rfl)) _ _ _ _ _ _ f1
  obtain ⟨y2, h2⟩ : ∃ y, xs[2]? = some y := ⟨xs[2], List.getElem?_eq_getElem (by omega)⟩
  have f2 : DataW.trod enc Tryz.prog w base spare held n 3 ((cs.drop 2).take (Tryz.prog.cellsOf 3)) = some y2 := (hfd 2 _ rfl).trans h2
  rw [show Tryz.prog.cellsOf 3 = 1 by kernel_rfl] at f2
  obtain ⟨v2, r2, o2⟩ := (zP6 (by kernel_rfl)) _ _ _ _ _ _ f2
  obtain ⟨y3, h3⟩ : ∃ y, xs[3]? = some y := ⟨xs[3], List.getElem?_eq_getElem (by omega)⟩
  have f3 : DataW.trod enc Tryz.prog w base spare held n 22 ((cs.drop 3).take (Tryz.prog.cellsOf 22)) = some y3 := (hfd 3 _ rfl).trans h3
  rw [show Tryz.prog.cellsOf 22 = 1 by kernel_rfl] at f3
  obtain ⟨v3, r3, o3⟩ := (zO2 (te := 5) (k := 1) (by kernel_rfl) (by kernel_rfl) (by decide) (op_u8 (by kernel_rfl))) _ _ _ _ _ _ f3
  exact ⟨⟨v0, v1, v2, v3⟩, (show RepL (memW w) _ (cs.drop 0) from zBM (k := 1) r0 (zBM (k := 1) r1 (zBM (k := 1) r2 (zBM (k := 1) r3 (zTC (hl.trans cw)))))), ⟨o0, o1, o2, o3⟩⟩
def okS_api_Request (x : zB) : Prop := (zTw .i64) x.Kind ∧ okLen x.User ∧ (zTw .i64) x.Number ∧ okLen x.Key ∧ (zSB okS_api_Want) x.Wants ∧ (zSB okS_api_Change) x.Changes
theorem op_S_api_Request {H : Type} {enc : TypeId × Value → H} {w : World} : OpT enc w 109 cS_api_Request okS_api_Request := by
  intro base spare held fuel cs x h
  obtain ⟨xs, n, rfl, _, hl, hxl, hfd⟩ := DataW.trod_struct (fs := _) Tryz.underlying109 h
  have cw : Tryz.prog.cellsOf 109 = 6 := by kernel_rfl
  have hxl : xs.length = 6 := hxl
  obtain ⟨y0, h0⟩ : ∃ y, xs[0]? = some y := ⟨xs[0], List.getElem?_eq_getElem (by omega)⟩
  have f0 : DataW.trod enc Tryz.prog w base spare held n 3 ((cs.drop 0).take (Tryz.prog.cellsOf 3)) = some y0 := (hfd 0 _ rfl).trans h0
  rw [show Tryz.prog.cellsOf 3 = 1 by kernel_rfl] at f0
  obtain ⟨v0, r0, o0⟩ := (zP6 (by kernel_rfl)) _ _ _ _ _ _ f0
  obtain ⟨y1, h1⟩ : ∃ y, xs[1]? = some y := ⟨xs[1], List.getElem?_eq_getElem (by omega)⟩
  have f1 : DataW.trod enc Tryz.prog w base spare held n 9 ((cs.drop 1).take (Tryz.prog.cellsOf 9)) = some y1 := (hfd 1 _ rfl).trans h1
  rw [show Tryz.prog.cellsOf 9 = 1 by kernel_rfl] at f1
  obtain ⟨v1, r1, o1⟩ := (zWy (by kernel_rfl)) _ _ _ _ _ _ f1
  obtain ⟨y2, h2⟩ : ∃ y, xs[2]? = some y := ⟨xs[2], List.getElem?_eq_getElem (by omega)⟩
  have f2 : DataW.trod enc Tryz.prog w base spare held n 3 ((cs.drop 2).take (Tryz.prog.cellsOf 3)) = some y2 := (hfd 2 _ rfl).trans h2
  rw [show Tryz.prog.cellsOf 3 = 1 by kernel_rfl] at f2
  obtain ⟨v2, r2, o2⟩ := (zP6 (by kernel_rfl)) _ _ _ _ _ _ f2
  obtain ⟨y3, h3⟩ : ∃ y, xs[3]? = some y := ⟨xs[3], List.getElem?_eq_getElem (by omega)⟩
  have f3 : DataW.trod enc Tryz.prog w base spare held n 9 ((cs.drop 3).take (Tryz.prog.cellsOf 9)) = some y3 := (hfd 3 _ rfl).trans h3
  rw [show Tryz.prog.cellsOf 9 = 1 by kernel_rfl] at f3
  obtain ⟨v3, r3, o3⟩ := (zWy (by kernel_rfl)) _ _ _ _ _ _ f3
  obtain ⟨y4, h4⟩ : ∃ y, xs[4]? = some y := ⟨xs[4], List.getElem?_eq_getElem (by omega)⟩
  have f4 : DataW.trod enc Tryz.prog w base spare held n 73 ((cs.drop 4).take (Tryz.prog.cellsOf 73)) = some y4 := (hfd 4 _ rfl).trans h4
  rw [show Tryz.prog.cellsOf 73 = 1 by kernel_rfl] at f4
  obtain ⟨v4, r4, o4⟩ := (zO2 (te := 219) (k := 4) (by kernel_rfl) (by kernel_rfl) (by decide) op_S_api_Want) _ _ _ _ _ _ f4
  obtain ⟨y5, h5⟩ : ∃ y, xs[5]? = some y := ⟨xs[5], List.getElem?_eq_getElem (by omega)⟩
  have f5 : DataW.trod enc Tryz.prog w base spare held n 71 ((cs.drop 5).take (Tryz.prog.cellsOf 71)) = some y5 := (hfd 5 _ rfl).trans h5
  rw [show Tryz.prog.cellsOf 71 = 1 by kernel_rfl] at f5
  obtain ⟨v5, r5, o5⟩ := (zO2 (te := 76) (k := 4) (by kernel_rfl) (by kernel_rfl) (by decide) op_S_api_Change) _ _ _ _ _ _ f5
  exact ⟨⟨v0, v1, v2, v3, v4, v5⟩, (show RepL (memW w) _ (cs.drop 0) from zBM (k := 1) r0 (zBM (k := 1) r1 (zBM (k := 1) r2 (zBM (k := 1) r3 (zBM (k := 1) r4 (zBM (k := 1) r5 (zTC (hl.trans cw)))))))), ⟨o0, o1, o2, o3, o4, o5⟩⟩
end Go.Proofs.YtocolhfjpadaoaaGreatDoor
namespace Go.Proofs.YtocolhfjpadaoaaGreatDoor.serverWire
open Go.ChangeShapes Go.WideShapes Go.ChangeAt Go.RowKit
open Go.ChangeMaps (open_string shut_string)
set_option linter.unusedVariables false
theorem own : ownKnob Tryz.prog.godebug = none := by kernel_rfl
theorem gT : Tryz.prog.globalNamed "math/bits.deBruijn64tab" = some 0 := by kernel_rfl
theorem gTT : (Tryz.prog.globals[0]?).map (·.type) = some 235 := by kernel_rfl
theorem door_met (os : Os) (args : Array Value) : laidMetH Tryz.prog [("math/bits.deBruijn64tab", Rows.laid_math_bits_deBruijn64tab)] ((World.doorLaid Tryz.prog 400 os).forCall (fun _ _ => 0) ⟨#[], args, []⟩).memory :=
  laidMetH_of_parts3 (fuel := 8) (laidMet_of_run' 8 (by kernel_rfl) (by kernel_rfl)) (by kernel_rfl) (by kernel_rfl)
theorem tbl_of {W : World} (h : laidMetH Tryz.prog [("math/bits.deBruijn64tab", Rows.laid_math_bits_deBruijn64tab)] W) : Mle TBL (memW W) := by
  rw [MakeChecks.laidMetH_plain _ _ _ (by kernel_rfl)] at h
  have hT := Lib.tabIs_of_head (zs := zO9) (k := .u8) gT gTT Tryz.underlying235 Tryz.underlying5 (by kernel_rfl) (by kernel_rfl) h
  intro b p u hu
  unfold TBL TBLS at hu
  by_cases hb : b = 0
  · subst hb
    have hu : (zO9.map (Value.int .u8))[p]? = some u := hu
    rw [List.getElem?_map] at hu
    cases hz : zO9[p]? with
    | none => rw [hz] at hu; cases hu
    | some z =>
      rw [hz] at hu
      injection hu with hu
      have hlt := (List.getElem?_eq_some_iff.1 hz).1
      have := hT.cell gT p hlt
      rw [List.getD_eq_getElem?_getD, hz] at this
      rw [← hu]
      exact this
  · have hn : (0 == b) = false := by simpa using fun e => hb e.symm
    simp only [List.find?, hn] at hu
    cases hu
theorem laidOut : laidOutB Tryz.prog = true := by kernel_rfl
set_option maxRecDepth 100000 in
theorem lifted (os : Os) (started : os.Started) (H : Type) (enc : TypeId × Value → H) :
    ReturnsInHanded {} Tryz.checked os 10 .any (fun w args => (Rows.serverWireSpec.pre enc Tryz.prog Tryz.f10 [] false w args ∧ laidMetH Tryz.prog [("math/bits.deBruijn64tab", Rows.laid_math_bits_deBruijn64tab)] w) ∧ sizedMet enc Tryz.prog Tryz.f10 (OpenSpec.ofChange Rows.serverWireSpec) false w args) (Rows.serverWireSpec.post enc Tryz.prog Tryz.f10 false true false false) := by
  refine returnsInHanded_of_change_and (C := Tryz.checked) (X := fun w _ => laidMetH Tryz.prog [("math/bits.deBruijn64tab", Rows.laid_math_bits_deBruijn64tab)] w) (fun _ _ _ hh h => h.of_heap hh) own started (by kernel_rfl) Tryz.func10
    (ChangeSpec.witness_shaped (enc := enc) (C := Tryz.checked) (os := os) (X := fun w _ => laidMetH Tryz.prog [("math/bits.deBruijn64tab", Rows.laid_math_bits_deBruijn64tab)] w) false (World.doorLaid Tryz.prog 400 os) #[.agg #[.int .i64 0, .string ByteArray.empty, .int .i64 0, .string ByteArray.empty, .slice none 0 0, .slice none 0 0], .slice none 0 0] 8 rfl (World.shaped_of_RefB (by kernel_rfl) (by kernel_rfl)) (by kernel_rfl) (by kernel_rfl) (by kernel_rfl) (door_met os _)) ?_
  intro W base args ds gs before hval0 hW _ _ hL _
  have hval : ∀ (j : Nat) t v, Tryz.f10.params[j]? = some t → args[j]? = some v → Value.okWide Tryz.prog W .any base t v := hval0
  have hW' := hW
  obtain ⟨p, q, hA0, hV, rfl, hfz, hnd⟩ := hW
  have hA : DataW.TrodAll enc Tryz.prog W 0 (fun _ => true) true Tryz.f10.params.toList args.toList ds p := hA0
  rw [Tryz.params10] at hA hval
  obtain ⟨v0, vs0, d0, ds0, p0, q0, hargs, rfl, rfl, h0, r0⟩ := trodAll_cons hA
  obtain ⟨v1, vs1, d1, ds1, p1, q1, rfl, rfl, rfl, h1, r1⟩ := trodAll_cons r0
  obtain ⟨rfl, rfl, rfl⟩ := trodAll_nil r1
  obtain rfl : args = #[v0, v1] := by cases args; simp_all
  obtain ⟨rfl, rfl⟩ := trodVars_none hV
  obtain ⟨c0, rfl, -⟩ := okWide_struct Tryz.underlying109 (hval 0 109 v0 rfl rfl)
  have k0 := h0
  have lt0 : ∀ x ∈ p0, x.block < W.heap.size := by obtain ⟨m, hm⟩ := k0; exact DataW.trod_lt m _ _ _ hm
  obtain ⟨x0, e0, ok0⟩ : ∃ x : zB, RepL (memW W) (cS_api_Request x) c0.toList ∧ okS_api_Request x := by
    obtain ⟨m, hm⟩ := h0
    exact op_S_api_Request _ _ _ m _ _ hm
  obtain ⟨a1, l1, c1, rfl⟩ := okWide_slice Tryz.underlying22 (hval 1 22 v1 rfl rfl)
  have k1 := h1
  have lt1 : ∀ x ∈ p1, x.block < W.heap.size := by obtain ⟨m, hm⟩ := k1; exact DataW.trod_lt m _ _ _ hm
  obtain ⟨x1, e1, ok1⟩ : ∃ x : (List UInt8), RepD (memW W) (.seq 1 (x.map cU8)) (.slice a1 l1 c1) ∧ (zSB okAny) x := by
    obtain ⟨m, hm⟩ := h1
    obtain ⟨x, hr, ho⟩ := (zO2 (te := 5) (k := 1) (by kernel_rfl) (by kernel_rfl) (by decide) (op_u8 (by kernel_rfl))) _ _ _ m _ _ hm
    obtain ⟨u, hu, hr⟩ := repl_head hr
    simp [Value.cells] at hu
    subst hu
    exact ⟨x, hr, ho⟩
  clear hA0 hval0
  refine (fc_law (zNd x0 x1 true (zUM x0 x1 ok0.2.2.2.2.2.1)) rfl (memW_sat W) (fun s => ?_) (tbl_of hL)).mono fun e W' ⟨he, bel⟩ => ?_
  · match s with
    | 0 => exact ⟨c0, rfl, e0⟩
    | 1 => exact e1
    | s + 2 => trivial
  subst he
  exact ⟨_, rfl, _, _, _, [], _, [], hW', trodAll_mk1 (shut_bool Tryz.underlying4 _), (trodAll_cons_mk (Below.trod laidOut (by kernel_rfl) (of_decide_eq_true (by kernel_rfl)) k0 bel lt0) (trodAll_cons_mk (Below.trod laidOut (by kernel_rfl) (of_decide_eq_true (by kernel_rfl)) k1 bel lt1) trodAll_mk0)), rfl, bel.frame _, fun h => by cases h⟩
theorem and_t {a b : Bool} (h : a = true) (k : b = true) : (a && b) = true := by rw [h, k]; rfl
theorem k_mr : mapsRowed Tryz.prog = true := by kernel_rfl
theorem k_ip : (Rows.serverWireRow.inPlace == Tryz.prog.inPlace 10) = true := by kernel_rfl
theorem k_uf : (Rows.serverWireRow.unfollowed == Tryz.prog.unfollowed 10) = true := by kernel_rfl
theorem k_re : (Rows.serverWireRow.recurses == Tryz.prog.recurses 10) = true := by kernel_rfl
theorem k_nm : (Rows.serverWireRow.named == Tryz.prog.varsNamed 10) = true := by kernel_rfl
theorem k_sh : Tryz.prog.stopsHeard = true := by kernel_rfl
theorem k_me : Tryz.prog.mayEnter = true := by kernel_rfl
theorem k_li : (Rows.serverWireRow.lifted == Tryz.prog.liftsFinal) = true := by kernel_rfl
theorem k_mk : (Tryz.prog.make == some Rows.serverWireRow.make) = true := by kernel_rfl
theorem k_pk : (Rows.serverWireRow.plainKeys == Tryz.prog.plainKeys) = true := by kernel_rfl
theorem closed : joinedFacts Tryz.prog 10 Tryz.f10 Rows.serverWireSpec Rows.serverWireRow = true :=
  and_t (and_t (and_t (and_t (and_t (and_t (and_t (and_t (and_t (and_t (and_t (and_t (and_t (and_t (and_t (and_t (and_t (and_t (and_t (and_t (and_t (and_t (and_t (and_t (and_t (and_t (and_t (and_t (and_t (and_t (and_t (by kernel_rfl) laidOut) k_mr) (by kernel_rfl)) (by kernel_rfl)) (by kernel_rfl)) (by kernel_rfl)) (by kernel_rfl)) (by kernel_rfl)) k_ip) k_uf) k_re) k_nm) (by kernel_rfl)) (by kernel_rfl)) (by kernel_rfl)) (by kernel_rfl)) (by kernel_rfl)) (by kernel_rfl)) (by kernel_rfl)) (by kernel_rfl)) (by kernel_rfl)) k_pk) (by kernel_rfl)) k_sh) k_me) k_li) k_mk) (by kernel_rfl)) (by kernel_rfl)) (by kernel_rfl)) (by kernel_rfl)
theorem k_wf : Rows.serverWireRow.wfByText (OpenSpec.ofChange Rows.serverWireSpec) = true := by kernel_rfl
theorem k_main : Tryz.prog.mainIs = some (true, "fe1f7d1f983a81012574920abb1da18ae93e3d4109d71de23d1a3f9481a94022".toList) := by kernel_rfl
theorem k_looks : false = Tryz.prog.looks [] := by kernel_rfl
theorem k_goes : false = Rows.serverWireRow.goesBy Tryz.prog := by kernel_rfl
theorem k_name : Tryz.prog.funcNamed "bastille/bastillelaw36.ServerWire" = some 10 := by kernel_rfl
theorem k_want : (Tryz.f10.params.toList.all fun u => !Tryz.prog.wantsStandIn u) = true := by kernel_rfl
theorem over : Rows.serverWireRow.holds Tryz.pinned (OpenSpec.ofChange Rows.serverWireSpec) :=
  OpenClaim.holds_of_wide 10 Tryz.f10 rfl rfl rfl rfl rfl rfl rfl ⟨rfl, rfl, rfl, rfl, rfl⟩ rfl rfl rfl rfl rfl k_name Tryz.func10 closed
    (of_decide_eq_true (by kernel_rfl)) (by unfold Func.isWrapper; first | (rw [if_pos (by decide +kernel)]; kernel_rfl) | (rw [if_neg (by decide +kernel)]; exact ⟨rfl, rfl⟩))
    (fun os started H enc _ => lifted os started H enc)
theorem proved : Rows.ServerWireCardSaid :=
  Claim7.holds_tied_plain_at .later [] [.data] true (true, "fe1f7d1f983a81012574920abb1da18ae93e3d4109d71de23d1a3f9481a94022") false
    over (fun _ h => by cases h) k_wf (fun _ h => by cases h) serverWire_row_tie rfl ⟨rfl, rfl⟩ k_main rfl
    (fun f fn hf hfn => by
      obtain rfl : f = 10 := Option.some.inj (k_name.symm.trans hf) |>.symm
      obtain rfl : fn = Tryz.f10 := (Option.some.inj (Tryz.func10.symm.trans hfn)).symm
      exact ⟨k_looks, fun j t ht => by
        rw [Tryz.params10] at ht
        have hm := Array.mem_of_getElem? ht
        have hall : (Tryz.f10.params.toList.all fun u => !Tryz.prog.wantsStandIn u) = true := k_want
        rw [Tryz.params10] at hall
        exact (show Tryz.prog.wantsStandIn t = false by simpa using List.all_eq_true.1 hall t (by simpa using hm))⟩)
    k_goes
#print axioms proved
end Go.Proofs.YtocolhfjpadaoaaGreatDoor.serverWire
