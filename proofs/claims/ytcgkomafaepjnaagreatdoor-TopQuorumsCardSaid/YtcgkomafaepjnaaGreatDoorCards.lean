/-
  DERIVED. GIVEN WITH THE SEED: THE CARDS: each row of YtcgkomafaepjnaaGreatDoorRows.lean that lists a variable, with what it lists TIED to the program's text (the seventh form; the later family's looks); each row that meets fmt, with fmt's text TOLD by the authors' own Lean function (tested against real Go, not proved from fmt's source: count such statements apart). THE CARD IS WHAT COUNTS. Prove the row's statement (the work); the ties are given (YtcgkomafaepjnaaGreatDoorTie.lean); close each card by the builder's one call (the guide's Derived/Test/ToyasCard.lean, 'card_holds'). Laid BY PROGRAM, IN A SANDBOX (cutbox-door.mjs). By AI agents, Wed Nov 11 2026. No macro, syntax, notation, axiom, sorry.
-/
import Derived.Test.YtcgkomafaepjnaaGreatDoorRows
import GoSem.ClaimSeven
namespace Go.Proofs.YtcgkomafaepjnaaGreatDoor
namespace Rows

/-- THE TIED CARD OF 'plumbobtop.TopBands'. -/
def topBandsCard : Claim7 := { stood := { row := topBandsRow, standIns := [], harness := (true, "a7c135e8468258f8f5dcdd6e4e4ff8d144a3a72deea5a9ab0af6db9d3d74e4c2"), looks := true }, kinds := [], alts := [], laidByText := true, laidKinds := [.data], laidTests := true, laidLooks := .later }
def TopBandsCardSaid : Prop := Claim7.holds Tryz.pinned (.plain (OpenSpec.ofChange topBandsSpec)) topBandsCard

/-- THE TIED CARD OF 'plumbobtop.TopQuorums'. -/
def topQuorumsCard : Claim7 := { stood := { row := topQuorumsRow, standIns := [], harness := (true, "a7c135e8468258f8f5dcdd6e4e4ff8d144a3a72deea5a9ab0af6db9d3d74e4c2"), looks := true }, kinds := [], alts := [], laidByText := true, laidKinds := [.data, .data, .data, .pinned], laidTests := true, laidLooks := .later }
def TopQuorumsCardSaid : Prop := Claim7.holds Tryz.pinned (.plain (OpenSpec.ofChange topQuorumsSpec)) topQuorumsCard

/-- THE TIED CARD OF 'plumbobtop.TopLookups'. -/
def topLookupsCard : Claim7 := { stood := { row := topLookupsRow, standIns := [], harness := (true, "a7c135e8468258f8f5dcdd6e4e4ff8d144a3a72deea5a9ab0af6db9d3d74e4c2"), looks := true }, kinds := [], alts := [], laidByText := true, laidKinds := [.data, .data, .data, .pinned], laidTests := true, laidLooks := .later }
def TopLookupsCardSaid : Prop := Claim7.holds Tryz.pinned (.plain (OpenSpec.ofChange topLookupsSpec)) topLookupsCard

/-- THE SECOND FORM's CARD OF 'plumbobtop.TopBands'. -/
def topBandsUptoCard : Claim7 := { stood := { row := topBandsUptoRow, standIns := [], harness := (true, "a7c135e8468258f8f5dcdd6e4e4ff8d144a3a72deea5a9ab0af6db9d3d74e4c2"), looks := true }, kinds := [], alts := [], laidByText := true, laidKinds := [.data], laidTests := true, laidLooks := .later }
def TopBandsUptoCardSaid : Prop := Claim7.holds Tryz.pinned (.plain (OpenSpec.upto topBandsSpec)) topBandsUptoCard

/-- THE SECOND FORM's CARD OF 'plumbobtop.TopQuorums'. -/
def topQuorumsUptoCard : Claim7 := { stood := { row := topQuorumsUptoRow, standIns := [], harness := (true, "a7c135e8468258f8f5dcdd6e4e4ff8d144a3a72deea5a9ab0af6db9d3d74e4c2"), looks := true }, kinds := [], alts := [], laidByText := true, laidKinds := [.data, .data, .data, .pinned], laidTests := true, laidLooks := .later }
def TopQuorumsUptoCardSaid : Prop := Claim7.holds Tryz.pinned (.plain (OpenSpec.upto topQuorumsSpec)) topQuorumsUptoCard

/-- THE SECOND FORM's CARD OF 'plumbobtop.TopLookups'. -/
def topLookupsUptoCard : Claim7 := { stood := { row := topLookupsUptoRow, standIns := [], harness := (true, "a7c135e8468258f8f5dcdd6e4e4ff8d144a3a72deea5a9ab0af6db9d3d74e4c2"), looks := true }, kinds := [], alts := [], laidByText := true, laidKinds := [.data, .data, .data, .pinned], laidTests := true, laidLooks := .later }
def TopLookupsUptoCardSaid : Prop := Claim7.holds Tryz.pinned (.plain (OpenSpec.upto topLookupsSpec)) topLookupsUptoCard
end Rows
end Go.Proofs.YtcgkomafaepjnaaGreatDoor
