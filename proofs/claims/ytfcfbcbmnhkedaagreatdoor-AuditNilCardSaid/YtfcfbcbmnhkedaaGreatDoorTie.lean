/-
  DERIVED. GIVEN WITH THE SEED: THE PROGRAM's TIES (one call each: nine closed facts by the kernel) AND EACH ROW's TIE, after the 31st guide's Derived/Test/Toyas{Tie, Card}.lean. No idea stands in it: it is a product of the set-up. Laid BY PROGRAM, IN A SANDBOX (cutbox-door.mjs). By AI agents, Wed Nov 11 2026. No macro, syntax, notation, axiom, sorry.
-/
import Derived.Test.YtfcfbcbmnhkedaaGreatDoorRows
import Derived.LaidByTextLater
import Derived.SevenTiedAt
import Derived.LaidSub
import Derived.LaidOnce
namespace Go.Proofs.YtfcfbcbmnhkedaaGreatDoor
open Go
set_option maxRecDepth 100000
theorem seatTie1 : Tryz.prog.laidByTextLater [("compositor/popup.sidesX", Rows.laid_compositor_popup_sidesX), ("compositor/popup.sidesY", Rows.laid_compositor_popup_sidesY), ("compositor/transform.products", Rows.laid_compositor_transform_products)] [.data, .data, .data] true :=
  Program.laidByTextLater_by_one 24 8 65 (by kernel_rfl) (by kernel_rfl) (by kernel_rfl) (by kernel_rfl) (by kernel_rfl) (by kernel_rfl) (fun _ _ => by kernel_rfl)
theorem noOwnUnsafe : Tryz.pinned.checked.prog.headLifts.contains "ownunsafe" = false := by kernel_rfl
theorem tie : Tryz.prog.laidByTextLater [("compositor/popup.sidesX", Rows.laid_compositor_popup_sidesX), ("compositor/popup.sidesY", Rows.laid_compositor_popup_sidesY), ("compositor/transform.products", Rows.laid_compositor_transform_products)] [.data, .data, .data] true :=
  Program.laidByTextLater.sub seatTie1 ["compositor/popup.sidesX", "compositor/popup.sidesY", "compositor/transform.products"] (by kernel_rfl) (by kernel_rfl)
theorem auditNil_row_tie : Rows.auditNilRow.laidByTextAt .later Tryz.pinned [.data, .data, .data] true :=
  OpenClaim.laidByTextAt_later rfl rfl tie noOwnUnsafe
theorem auditNilUpto_row_tie : Rows.auditNilUptoRow.laidByTextAt .later Tryz.pinned [.data, .data, .data] true :=
  OpenClaim.laidByTextAt_later rfl rfl tie noOwnUnsafe
end Go.Proofs.YtfcfbcbmnhkedaaGreatDoor
