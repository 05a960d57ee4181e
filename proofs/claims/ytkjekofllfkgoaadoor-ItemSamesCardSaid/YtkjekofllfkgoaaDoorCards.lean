/-
  DERIVED. GIVEN WITH THE SEED: THE CARDS: each row of YtkjekofllfkgoaaDoorRows.lean that lists a variable, with what it lists TIED to the program's text (the seventh form; the later family's looks); each row that meets fmt, with fmt's text TOLD by the authors' own Lean function (tested against real Go, not proved from fmt's source: count such statements apart). THE CARD IS WHAT COUNTS. Prove the row's statement (the work); the ties are given (YtkjekofllfkgoaaDoorTie.lean); close each card by the builder's one call (the guide's Derived/Test/ToyasCard.lean, 'card_holds'). Laid BY PROGRAM, IN A SANDBOX (cutbox-door.mjs). By AI agents, Wed Nov 11 2026. No macro, syntax, notation, axiom, sorry.
-/
import Derived.Test.YtkjekofllfkgoaaDoorRows
import GoSem.ClaimSeven
namespace Go.Proofs.YtkjekofllfkgoaaDoor
namespace Rows

/-- THE TIED CARD OF 'plumboblaw04.ItemCodes'. -/
def itemCodesCard : Claim7 := { stood := { row := itemCodesRow, standIns := [], harness := (true, "56b90fcb82204f301cb8a0cf79e091917c6f54990d57135d2e60c2418b2d2568"), looks := true }, kinds := [], alts := [], laidByText := true, laidKinds := [.data, .data, .data], laidTests := true, laidLooks := .later }
def ItemCodesCardSaid : Prop := Claim7.holds Tryd.pinned (.plain (OpenSpec.ofChange itemCodesSpec)) itemCodesCard

/-- THE TIED CARD OF 'plumboblaw04.ItemParses'. -/
def itemParsesCard : Claim7 := { stood := { row := itemParsesRow, standIns := [], harness := (true, "56b90fcb82204f301cb8a0cf79e091917c6f54990d57135d2e60c2418b2d2568"), looks := true }, kinds := [], alts := [], laidByText := true, laidKinds := [.data, .data, .data], laidTests := true, laidLooks := .later }
def ItemParsesCardSaid : Prop := Claim7.holds Tryd.pinned (.plain (OpenSpec.ofChange itemParsesSpec)) itemParsesCard

/-- THE TIED CARD OF 'plumboblaw04.ItemLimits'. -/
def itemLimitsCard : Claim7 := { stood := { row := itemLimitsRow, standIns := [], harness := (true, "56b90fcb82204f301cb8a0cf79e091917c6f54990d57135d2e60c2418b2d2568"), looks := true }, kinds := [], alts := [], laidByText := true, laidKinds := [.data, .data, .data], laidTests := true, laidLooks := .later }
def ItemLimitsCardSaid : Prop := Claim7.holds Tryd.pinned (.plain (OpenSpec.ofChange itemLimitsSpec)) itemLimitsCard

/-- THE TIED CARD OF 'plumboblaw04.ItemSames'. -/
def itemSamesCard : Claim7 := { stood := { row := itemSamesRow, standIns := [], harness := (true, "56b90fcb82204f301cb8a0cf79e091917c6f54990d57135d2e60c2418b2d2568"), looks := true }, kinds := [], alts := [], laidByText := true, laidKinds := [.data, .data, .data], laidTests := true, laidLooks := .later }
def ItemSamesCardSaid : Prop := Claim7.holds Tryd.pinned (.plain (OpenSpec.ofChange itemSamesSpec)) itemSamesCard

/-- THE TIED CARD OF 'plumboblaw04.ItemAsks'. -/
def itemAsksCard : Claim7 := { stood := { row := itemAsksRow, standIns := [], harness := (true, "56b90fcb82204f301cb8a0cf79e091917c6f54990d57135d2e60c2418b2d2568"), looks := true }, kinds := [], alts := [], laidByText := true, laidKinds := [.data, .data, .data], laidTests := true, laidLooks := .later }
def ItemAsksCardSaid : Prop := Claim7.holds Tryd.pinned (.plain (OpenSpec.ofChange itemAsksSpec)) itemAsksCard

/-- THE SECOND FORM's CARD OF 'plumboblaw04.ItemCodes'. -/
def itemCodesUptoCard : Claim7 := { stood := { row := itemCodesUptoRow, standIns := [], harness := (true, "56b90fcb82204f301cb8a0cf79e091917c6f54990d57135d2e60c2418b2d2568"), looks := true }, kinds := [], alts := [], laidByText := true, laidKinds := [.data, .data, .data], laidTests := true, laidLooks := .later }
def ItemCodesUptoCardSaid : Prop := Claim7.holds Tryd.pinned (.plain (OpenSpec.upto itemCodesSpec)) itemCodesUptoCard

/-- THE SECOND FORM's CARD OF 'plumboblaw04.ItemParses'. -/
def itemParsesUptoCard : Claim7 := { stood := { row := itemParsesUptoRow, standIns := [], harness := (true, "56b90fcb82204f301cb8a0cf79e091917c6f54990d57135d2e60c2418b2d2568"), looks := true }, kinds := [], alts := [], laidByText := true, laidKinds := [.data, .data, .data], laidTests := true, laidLooks := .later }
def ItemParsesUptoCardSaid : Prop := Claim7.holds Tryd.pinned (.plain (OpenSpec.upto itemParsesSpec)) itemParsesUptoCard

/-- THE SECOND FORM's CARD OF 'plumboblaw04.ItemLimits'. -/
def itemLimitsUptoCard : Claim7 := { stood := { row := itemLimitsUptoRow, standIns := [], harness := (true, "56b90fcb82204f301cb8a0cf79e091917c6f54990d57135d2e60c2418b2d2568"), looks := true }, kinds := [], alts := [], laidByText := true, laidKinds := [.data, .data, .data], laidTests := true, laidLooks := .later }
def ItemLimitsUptoCardSaid : Prop := Claim7.holds Tryd.pinned (.plain (OpenSpec.upto itemLimitsSpec)) itemLimitsUptoCard

/-- THE SECOND FORM's CARD OF 'plumboblaw04.ItemSames'. -/
def itemSamesUptoCard : Claim7 := { stood := { row := itemSamesUptoRow, standIns := [], harness := (true, "56b90fcb82204f301cb8a0cf79e091917c6f54990d57135d2e60c2418b2d2568"), looks := true }, kinds := [], alts := [], laidByText := true, laidKinds := [.data, .data, .data], laidTests := true, laidLooks := .later }
def ItemSamesUptoCardSaid : Prop := Claim7.holds Tryd.pinned (.plain (OpenSpec.upto itemSamesSpec)) itemSamesUptoCard

/-- THE SECOND FORM's CARD OF 'plumboblaw04.ItemAsks'. -/
def itemAsksUptoCard : Claim7 := { stood := { row := itemAsksUptoRow, standIns := [], harness := (true, "56b90fcb82204f301cb8a0cf79e091917c6f54990d57135d2e60c2418b2d2568"), looks := true }, kinds := [], alts := [], laidByText := true, laidKinds := [.data, .data, .data], laidTests := true, laidLooks := .later }
def ItemAsksUptoCardSaid : Prop := Claim7.holds Tryd.pinned (.plain (OpenSpec.upto itemAsksSpec)) itemAsksUptoCard
end Rows
end Go.Proofs.YtkjekofllfkgoaaDoor
