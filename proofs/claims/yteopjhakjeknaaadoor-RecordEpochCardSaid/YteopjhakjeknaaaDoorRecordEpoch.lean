/-
  Proved: for every input that can be read, 'RecordEpoch' returns true and leaves what was there as it was. No condition but the card.
  The frame was written by the guide's program proof-skeleton.mjs and turned by a program of this claim's own; the walk is this claim's own.
-/
import Derived.Test.YteopjhakjeknaaaDoorRows
import Derived.Test.YteopjhakjeknaaaDoorTie
import Derived.Test.YteopjhakjeknaaaDoorCards
import Derived.Test.YteopjhakjeknaaaDoorEeW
import Derived.Test.YteopjhakjeknaaaDoorEpN
import Derived.Test.YteopjhakjeknaaaDoorOpX
import Derived.WalkKit
import Derived.ProofKit
import Derived.OpenShut
import Derived.ShutString
import Derived.ChangeOld
import Derived.Below
import Derived.SevenTiedAt
import Derived.LaidMore
import Derived.Lib.LaidTab
import Derived.Stop.Joined
namespace Go.Proofs.YteopjhakjeknaaaDoor
open Go Go.RowKit Go.ChangeShapes Go.WideShapes Go.ChangeAt
set_option linter.unusedVariables false
abbrev cS_api_EpochRecord (x : S_api_EpochRecord) : List D := [.lit (.string ⟨⟨x.Folder⟩⟩), .lit (.int .i64 x.Number), .lit (.int .i64 x.Place), .lit (.int .i64 x.From), .lit (.int .i64 x.Seq), .seq 1 (bytesD x.Digest), .seq 2 (List.map cS_api_At x.Chain), .seq 1 (bytesD x.Public), .seq 1 (bytesD x.Link), .lit (.string ⟨⟨x.By⟩⟩)]

def okS_api_At (x : S_api_At) : Prop := okLen x.Name ∧ (okInt .i64) x.Seq
theorem op_S_api_At {H : Type} {enc : TypeId × Value → H} {w : World} : OpT enc w 97 cS_api_At okS_api_At := by
  intro base spare held fuel cs x h
  obtain ⟨xs, n, rfl, _, hl, hxl, hfd⟩ := DataW.trod_struct (fs := _) Tryd.underlying97 h
  have cw : Tryd.prog.cellsOf 97 = 2 := by kernel_rfl
  have hxl : xs.length = 2 := hxl
  obtain ⟨y0, h0⟩ : ∃ y, xs[0]? = some y := ⟨xs[0], List.getElem?_eq_getElem (by omega)⟩
  have f0 : DataW.trod enc Tryd.prog w base spare held n 9 ((cs.drop 0).take (Tryd.prog.cellsOf 9)) = some y0 := (hfd 0 _ rfl).trans h0
  rw [show Tryd.prog.cellsOf 9 = 1 by kernel_rfl] at f0
  obtain ⟨v0, r0, o0⟩ := (op_str (by kernel_rfl)) _ _ _ _ _ _ f0
  obtain ⟨y1, h1⟩ : ∃ y, xs[1]? = some y := ⟨xs[1], List.getElem?_eq_getElem (by omega)⟩
  have f1 : DataW.trod enc Tryd.prog w base spare held n 3 ((cs.drop 1).take (Tryd.prog.cellsOf 3)) = some y1 := (hfd 1 _ rfl).trans h1
  rw [show Tryd.prog.cellsOf 3 = 1 by kernel_rfl] at f1
  obtain ⟨v1, r1, o1⟩ := (op_int (by kernel_rfl)) _ _ _ _ _ _ f1
  exact ⟨⟨v0, v1⟩, (show RepL (memW w) _ (cs.drop 0) from repl_cons (k := 1) r0 (repl_cons (k := 1) r1 (repl_nil (hl.trans cw)))), ⟨o0, o1⟩⟩

def okS_api_EpochRecord (x : S_api_EpochRecord) : Prop := okLen x.Folder ∧ (okInt .i64) x.Number ∧ (okInt .i64) x.Place ∧ (okInt .i64) x.From ∧ (okInt .i64) x.Seq ∧ (okList okAny) x.Digest ∧ (okList okS_api_At) x.Chain ∧ (okList okAny) x.Public ∧ (okList okAny) x.Link ∧ okLen x.By
theorem op_S_api_EpochRecord {H : Type} {enc : TypeId × Value → H} {w : World} : OpT enc w 58 cS_api_EpochRecord okS_api_EpochRecord := by
  intro base spare held fuel cs x h
  obtain ⟨xs, n, rfl, _, hl, hxl, hfd⟩ := DataW.trod_struct (fs := _) Tryd.underlying58 h
  have cw : Tryd.prog.cellsOf 58 = 10 := by kernel_rfl
  have hxl : xs.length = 10 := hxl
  obtain ⟨y0, h0⟩ : ∃ y, xs[0]? = some y := ⟨xs[0], List.getElem?_eq_getElem (by omega)⟩
  have f0 : DataW.trod enc Tryd.prog w base spare held n 9 ((cs.drop 0).take (Tryd.prog.cellsOf 9)) = some y0 := (hfd 0 _ rfl).trans h0
  rw [show Tryd.prog.cellsOf 9 = 1 by kernel_rfl] at f0
  obtain ⟨v0, r0, o0⟩ := (op_str (by kernel_rfl)) _ _ _ _ _ _ f0
  obtain ⟨y1, h1⟩ : ∃ y, xs[1]? = some y := ⟨xs[1], List.getElem?_eq_getElem (by omega)⟩
  have f1 : DataW.trod enc Tryd.prog w base spare held n 3 ((cs.drop 1).take (Tryd.prog.cellsOf 3)) = some y1 := (hfd 1 _ rfl).trans h1
  rw [show Tryd.prog.cellsOf 3 = 1 by kernel_rfl] at f1
  obtain ⟨v1, r1, o1⟩ := (op_int (by kernel_rfl)) _ _ _ _ _ _ f1
  obtain ⟨y2, h2⟩ : ∃ y, xs[2]? = some y := ⟨xs[2], List.getElem?_eq_getElem (by omega)⟩
  have f2 : DataW.trod enc Tryd.prog w base spare held n 3 ((cs.drop 2).take (Tryd.prog.cellsOf 3)) = some y2 := (hfd 2 _ rfl).trans h2
  rw [show Tryd.prog.cellsOf 3 = 1 by kernel_rfl] at f2
  obtain ⟨v2, r2, o2⟩ := (op_int (by kernel_rfl)) _ _ _ _ _ _ f2
  obtain ⟨y3, h3⟩ : ∃ y, xs[3]? = some y := ⟨xs[3], List.getElem?_eq_getElem (by omega)⟩
  have f3 : DataW.trod enc Tryd.prog w base spare held n 3 ((cs.drop 3).take (Tryd.prog.cellsOf 3)) = some y3 := (hfd 3 _ rfl).trans h3
  rw [show Tryd.prog.cellsOf 3 = 1 by kernel_rfl] at f3
  obtain ⟨v3, r3, o3⟩ := (op_int (by kernel_rfl)) _ _ _ _ _ _ f3
  obtain ⟨y4, h4⟩ : ∃ y, xs[4]? = some y := ⟨xs[4], List.getElem?_eq_getElem (by omega)⟩
  have f4 : DataW.trod enc Tryd.prog w base spare held n 3 ((cs.drop 4).take (Tryd.prog.cellsOf 3)) = some y4 := (hfd 4 _ rfl).trans h4
  rw [show Tryd.prog.cellsOf 3 = 1 by kernel_rfl] at f4
  obtain ⟨v4, r4, o4⟩ := (op_int (by kernel_rfl)) _ _ _ _ _ _ f4
  obtain ⟨y5, h5⟩ : ∃ y, xs[5]? = some y := ⟨xs[5], List.getElem?_eq_getElem (by omega)⟩
  have f5 : DataW.trod enc Tryd.prog w base spare held n 22 ((cs.drop 5).take (Tryd.prog.cellsOf 22)) = some y5 := (hfd 5 _ rfl).trans h5
  rw [show Tryd.prog.cellsOf 22 = 1 by kernel_rfl] at f5
  obtain ⟨v5, r5, o5⟩ := (op_slice (te := 5) (k := 1) (by kernel_rfl) (by kernel_rfl) (by decide) (op_u8 (by kernel_rfl))) _ _ _ _ _ _ f5
  obtain ⟨y6, h6⟩ : ∃ y, xs[6]? = some y := ⟨xs[6], List.getElem?_eq_getElem (by omega)⟩
  have f6 : DataW.trod enc Tryd.prog w base spare held n 56 ((cs.drop 6).take (Tryd.prog.cellsOf 56)) = some y6 := (hfd 6 _ rfl).trans h6
  rw [show Tryd.prog.cellsOf 56 = 1 by kernel_rfl] at f6
  obtain ⟨v6, r6, o6⟩ := (op_slice (te := 97) (k := 2) (by kernel_rfl) (by kernel_rfl) (by decide) op_S_api_At) _ _ _ _ _ _ f6
  obtain ⟨y7, h7⟩ : ∃ y, xs[7]? = some y := ⟨xs[7], List.getElem?_eq_getElem (by omega)⟩
  have f7 : DataW.trod enc Tryd.prog w base spare held n 22 ((cs.drop 7).take (Tryd.prog.cellsOf 22)) = some y7 := (hfd 7 _ rfl).trans h7
  rw [show Tryd.prog.cellsOf 22 = 1 by kernel_rfl] at f7
  obtain ⟨v7, r7, o7⟩ := (op_slice (te := 5) (k := 1) (by kernel_rfl) (by kernel_rfl) (by decide) (op_u8 (by kernel_rfl))) _ _ _ _ _ _ f7
  obtain ⟨y8, h8⟩ : ∃ y, xs[8]? = some y := ⟨xs[8], List.getElem?_eq_getElem (by omega)⟩
  have f8 : DataW.trod enc Tryd.prog w base spare held n 22 ((cs.drop 8).take (Tryd.prog.cellsOf 22)) = some y8 := (hfd 8 _ rfl).trans h8
  rw [show Tryd.prog.cellsOf 22 = 1 by kernel_rfl] at f8
  obtain ⟨v8, r8, o8⟩ := (op_slice (te := 5) (k := 1) (by kernel_rfl) (by kernel_rfl) (by decide) (op_u8 (by kernel_rfl))) _ _ _ _ _ _ f8
  obtain ⟨y9, h9⟩ : ∃ y, xs[9]? = some y := ⟨xs[9], List.getElem?_eq_getElem (by omega)⟩
  have f9 : DataW.trod enc Tryd.prog w base spare held n 9 ((cs.drop 9).take (Tryd.prog.cellsOf 9)) = some y9 := (hfd 9 _ rfl).trans h9
  rw [show Tryd.prog.cellsOf 9 = 1 by kernel_rfl] at f9
  obtain ⟨v9, r9, o9⟩ := (op_str (by kernel_rfl)) _ _ _ _ _ _ f9
  exact ⟨⟨v0, v1, v2, v3, v4, v5, v6, v7, v8, v9⟩, (show RepL (memW w) _ (cs.drop 0) from repl_cons (k := 1) r0 (repl_cons (k := 1) r1 (repl_cons (k := 1) r2 (repl_cons (k := 1) r3 (repl_cons (k := 1) r4 (repl_cons (k := 1) r5 (repl_cons (k := 1) r6 (repl_cons (k := 1) r7 (repl_cons (k := 1) r8 (repl_cons (k := 1) r9 (repl_nil (hl.trans cw)))))))))))), ⟨o0, o1, o2, o3, o4, o5, o6, o7, o8, o9⟩⟩
end Go.Proofs.YteopjhakjeknaaaDoor

namespace Go.Proofs.YteopjhakjeknaaaDoor.recordEpoch
open Go.ChangeShapes Go.WideShapes Go.ChangeAt Go.RowKit
open Go.ChangeMaps (open_string shut_string)
set_option linter.unusedVariables false

theorem own : ownKnob Tryd.prog.godebug = none := by kernel_rfl
/-- The door's own heap meets the condition: three closed facts. -/
theorem door_met (os : Os) (args : Array Value) : laidMetH Tryd.prog [("math/bits.deBruijn32tab", Rows.laid_math_bits_deBruijn32tab), ("math/bits.deBruijn64tab", Rows.laid_math_bits_deBruijn64tab), ("internal/strconv.uint64pow10", Rows.laid_internal_strconv_uint64pow10)] ((World.doorLaid Tryd.prog 400 os).forCall (fun _ _ => 0) ⟨#[], args, []⟩).memory :=
  laidMetH_of_parts3 (fuel := 8) (laidMet_of_run' 8 (by kernel_rfl) (by kernel_rfl)) (by kernel_rfl) (by kernel_rfl)
theorem laidOut : laidOutB Tryd.prog = true := by kernel_rfl

set_option maxRecDepth 100000 in
theorem lifted (os : Os) (started : os.Started) (H : Type) (enc : TypeId × Value → H) :
    ReturnsInHanded {} Tryd.checked os 6 .any (fun w args => (Rows.recordEpochSpec.pre enc Tryd.prog Tryd.f6 [] false w args ∧ laidMetH Tryd.prog [("math/bits.deBruijn32tab", Rows.laid_math_bits_deBruijn32tab), ("math/bits.deBruijn64tab", Rows.laid_math_bits_deBruijn64tab), ("internal/strconv.uint64pow10", Rows.laid_internal_strconv_uint64pow10)] w) ∧ sizedMet enc Tryd.prog Tryd.f6 (OpenSpec.ofChange Rows.recordEpochSpec) false w args) (Rows.recordEpochSpec.post enc Tryd.prog Tryd.f6 false true false false) := by
  refine returnsInHanded_of_change_and (C := Tryd.checked) (X := fun w _ => laidMetH Tryd.prog [("math/bits.deBruijn32tab", Rows.laid_math_bits_deBruijn32tab), ("math/bits.deBruijn64tab", Rows.laid_math_bits_deBruijn64tab), ("internal/strconv.uint64pow10", Rows.laid_internal_strconv_uint64pow10)] w) (fun _ _ _ hh h => h.of_heap hh) own started (by kernel_rfl) Tryd.func6
    (ChangeSpec.witness_shaped (enc := enc) (C := Tryd.checked) (os := os) (X := fun w _ => laidMetH Tryd.prog [("math/bits.deBruijn32tab", Rows.laid_math_bits_deBruijn32tab), ("math/bits.deBruijn64tab", Rows.laid_math_bits_deBruijn64tab), ("internal/strconv.uint64pow10", Rows.laid_internal_strconv_uint64pow10)] w) false (World.doorLaid Tryd.prog 400 os) #[.agg #[.string ByteArray.empty, .int .i64 0, .int .i64 0, .int .i64 0, .int .i64 0, .slice none 0 0, .slice none 0 0, .slice none 0 0, .slice none 0 0, .string ByteArray.empty], .slice none 0 0] 8 rfl (World.shaped_of_RefB (by kernel_rfl) (by kernel_rfl)) (by kernel_rfl) (by kernel_rfl) (by kernel_rfl) (door_met os _)) ?_
  intro W base args ds gs before hval0 hW _ _ hL _
  have hval : ∀ (j : Nat) t v, Tryd.f6.params[j]? = some t → args[j]? = some v → Value.okWide Tryd.prog W .any base t v := hval0
  have hW' := hW
  obtain ⟨p, q, hA0, hV, rfl, hfz, hnd⟩ := hW
  have hA : DataW.TrodAll enc Tryd.prog W 0 (fun _ => true) true Tryd.f6.params.toList args.toList ds p := hA0
  rw [Tryd.params6] at hA hval
  obtain ⟨v0, vs0, d0, ds0, p0, q0, hargs, rfl, rfl, h0, r0⟩ := trodAll_cons hA
  obtain ⟨v1, vs1, d1, ds1, p1, q1, rfl, rfl, rfl, h1, r1⟩ := trodAll_cons r0
  obtain ⟨rfl, rfl, rfl⟩ := trodAll_nil r1
  obtain rfl : args = #[v0, v1] := by cases args; simp_all
  obtain ⟨rfl, rfl⟩ := trodVars_none hV
  obtain ⟨c0, rfl, -⟩ := okWide_struct Tryd.underlying58 (hval 0 58 v0 rfl rfl)
  have k0 := h0
  have lt0 : ∀ x ∈ p0, x.block < W.heap.size := by obtain ⟨m, hm⟩ := k0; exact DataW.trod_lt m _ _ _ hm
  obtain ⟨x0, e0, ok0⟩ : ∃ x : S_api_EpochRecord, RepL (memW W) (cS_api_EpochRecord x) c0.toList ∧ okS_api_EpochRecord x := by
    obtain ⟨m, hm⟩ := h0
    exact op_S_api_EpochRecord _ _ _ m _ _ hm
  obtain ⟨a1, l1, c1, rfl⟩ := okWide_slice Tryd.underlying22 (hval 1 22 v1 rfl rfl)
  have k1 := h1
  have lt1 : ∀ x ∈ p1, x.block < W.heap.size := by obtain ⟨m, hm⟩ := k1; exact DataW.trod_lt m _ _ _ hm
  obtain ⟨x1, e1, ok1⟩ : ∃ x : (List UInt8), RepD (memW W) (.seq 1 (x.map cU8)) (.slice a1 l1 c1) ∧ (okList okAny) x := by
    obtain ⟨m, hm⟩ := h1
    obtain ⟨x, hr, ho⟩ := (op_slice (te := 5) (k := 1) (by kernel_rfl) (by kernel_rfl) (by decide) (op_u8 (by kernel_rfl))) _ _ _ m _ _ hm
    obtain ⟨u, hu, hr⟩ := repl_head hr
    simp [Value.cells] at hu
    subst hu
    exact ⟨x, hr, ho⟩
  clear hA0 hval0
  refine (fc_law (fc_L35_RecordEpoch x0 x1 true (n_RecordEpoch x0 x1 (fun a ha => ((fun a ha => (ok0.2.2.2.2.2.2.1.2 a ha).1) a ha)))) rfl (memW_sat W) (fun s => ?_)).mono fun e W' ⟨he, bel⟩ => ?_
  · match s with
    | 0 => exact ⟨c0, rfl, e0⟩
    | 1 => exact e1
    | s + 2 => trivial
  subst he
  exact ⟨_, rfl, _, _, _, [], _, [], hW', trodAll_mk1 (shut_bool Tryd.underlying4 _), (trodAll_cons_mk (Below.trod laidOut (by kernel_rfl) (of_decide_eq_true (by kernel_rfl)) k0 bel lt0) (trodAll_cons_mk (Below.trod laidOut (by kernel_rfl) (of_decide_eq_true (by kernel_rfl)) k1 bel lt1) trodAll_mk0)), rfl, bel.frame _, fun h => by cases h⟩

theorem over : Rows.recordEpochRow.holds Tryd.pinned (OpenSpec.ofChange Rows.recordEpochSpec) :=
  OpenClaim.holds_of_wide 6 Tryd.f6 rfl rfl rfl rfl rfl rfl rfl ⟨rfl, rfl, rfl, rfl, rfl⟩ rfl rfl rfl rfl rfl (by kernel_rfl) Tryd.func6 (by kernel_rfl)
    (of_decide_eq_true (by kernel_rfl)) (by unfold Func.isWrapper; first | (rw [if_pos (by decide +kernel)]; kernel_rfl) | (rw [if_neg (by decide +kernel)]; exact ⟨rfl, rfl⟩))
    (fun os started H enc _ => lifted os started H enc)

/-- THE STATEMENT -/
theorem proved : Rows.RecordEpochCardSaid :=
  Claim7.holds_tied_plain_at .later [] [.data, .data, .data] true (true, "e55152458ed226ca7f1b8a51d1e5809449f217fe6effbf2a061d9a1bd2503f07") false
    over (fun _ h => by cases h) (by kernel_rfl) (fun _ h => by cases h) recordEpoch_row_tie rfl ⟨rfl, rfl⟩ (by kernel_rfl) rfl
    (fun f fn hf hfn => by
      obtain rfl : f = 6 := Option.some.inj ((show Tryd.prog.funcNamed "bastille/bastillelaw35.RecordEpoch" = some 6 by kernel_rfl).symm.trans hf) |>.symm
      obtain rfl : fn = Tryd.f6 := (Option.some.inj (Tryd.func6.symm.trans hfn)).symm
      exact ⟨by kernel_rfl, fun j t ht => by
        rw [Tryd.params6] at ht
        have hm := Array.mem_of_getElem? ht
        have hall : (Tryd.f6.params.toList.all fun u => !Tryd.prog.wantsStandIn u) = true := by kernel_rfl
        rw [Tryd.params6] at hall
        exact (show Tryd.prog.wantsStandIn t = false by simpa using List.all_eq_true.1 hall t (by simpa using hm))⟩)
    (by kernel_rfl)
#print axioms proved
end Go.Proofs.YteopjhakjeknaaaDoor.recordEpoch
