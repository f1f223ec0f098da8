/-
  DERIVED. GIVEN WITH THE SEED: THE PROGRAM's TIES (one call each: nine closed facts by the kernel) AND EACH ROW's TIE, after the 31st guide's Derived/Test/Toyas{Tie, Card}.lean. No idea stands in it: it is a product of the set-up. Laid BY PROGRAM, IN A SANDBOX (cutbox-door.mjs). By AI agents, Wed Nov 11 2026. No macro, syntax, notation, axiom, sorry.
-/
import Derived.Test.YtmgafkpkpmjieaaDoorRows
import Derived.LaidByTextLater
import Derived.SevenTiedAt
import Derived.LaidSub
import Derived.LaidOnce
namespace Go.Proofs.YtmgafkpkpmjieaaDoor
open Go
set_option maxRecDepth 100000
theorem seatTie1 : Tryd.prog.laidByTextLater [("bastille/lot.kinds", Rows.laid_bastille_lot_kinds), ("bastille/call.fields", Rows.laid_bastille_call_fields)] [.data, .data] true :=
  Program.laidByTextLater_by_one 19 8 18 (by kernel_rfl) (by kernel_rfl) (by kernel_rfl) (by kernel_rfl) (by kernel_rfl) (by kernel_rfl) (fun _ _ => by kernel_rfl)
theorem noOwnUnsafe : Tryd.pinned.checked.prog.headLifts.contains "ownunsafe" = false := by kernel_rfl
theorem tie : Tryd.prog.laidByTextLater [("bastille/lot.kinds", Rows.laid_bastille_lot_kinds)] [.data] true :=
  Program.laidByTextLater.sub seatTie1 ["bastille/lot.kinds"] (by kernel_rfl) (by kernel_rfl)
theorem lotCalls_row_tie : Rows.lotCallsRow.laidByTextAt .later Tryd.pinned [.data] true :=
  OpenClaim.laidByTextAt_later rfl rfl tie noOwnUnsafe
theorem tie2 : Tryd.prog.laidByTextLater [("bastille/lot.kinds", Rows.laid_bastille_lot_kinds), ("bastille/call.fields", Rows.laid_bastille_call_fields)] [.data, .data] true :=
  Program.laidByTextLater.sub seatTie1 ["bastille/lot.kinds", "bastille/call.fields"] (by kernel_rfl) (by kernel_rfl)
theorem lotMay_row_tie : Rows.lotMayRow.laidByTextAt .later Tryd.pinned [.data, .data] true :=
  OpenClaim.laidByTextAt_later rfl rfl tie2 noOwnUnsafe
theorem lotCallsUpto_row_tie : Rows.lotCallsUptoRow.laidByTextAt .later Tryd.pinned [.data] true :=
  OpenClaim.laidByTextAt_later rfl rfl tie noOwnUnsafe
theorem lotMayUpto_row_tie : Rows.lotMayUptoRow.laidByTextAt .later Tryd.pinned [.data, .data] true :=
  OpenClaim.laidByTextAt_later rfl rfl tie2 noOwnUnsafe
end Go.Proofs.YtmgafkpkpmjieaaDoor
