/-
  DERIVED. GIVEN WITH THE SEED: THE CARDS: each row of YtekhboekiehdhaaGreatDoorRows.lean that lists a variable, with what it lists TIED to the program's text (the seventh form; the later family's looks); each row that meets fmt, with fmt's text TOLD by the authors' own Lean function (tested against real Go, not proved from fmt's source: count such statements apart). THE CARD IS WHAT COUNTS. Prove the row's statement (the work); the ties are given (YtekhboekiehdhaaGreatDoorTie.lean); close each card by the builder's one call (the guide's Derived/Test/ToyasCard.lean, 'card_holds'). Laid BY PROGRAM, IN A SANDBOX (cutbox-door.mjs). By AI agents, Wed Nov 11 2026. No macro, syntax, notation, axiom, sorry.
-/
import Derived.Test.YtekhboekiehdhaaGreatDoorRows
import GoSem.ClaimSeven
namespace Go.Proofs.YtekhboekiehdhaaGreatDoor
namespace Rows

/-- THE TIED CARD OF 'marqueelaw18.GroupOf'. -/
def groupOfCard : Claim7 := { stood := { row := groupOfRow, standIns := [], harness := (true, "320857f4feb93968b74e9b7373cda32f52e51857ff4ccd11295c4fe9b0b59f2d"), looks := false }, kinds := [], alts := [], laidByText := true, laidKinds := [.data, .data, .data, .data, .pinned], laidTests := true, laidLooks := .later }
def GroupOfCardSaid : Prop := Claim7.holds Tryz.pinned (.plain (OpenSpec.ofChange groupOfSpec)) groupOfCard

/-- THE TIED CARD OF 'marqueelaw18.GroupFeeds'. -/
def groupFeedsCard : Claim7 := { stood := { row := groupFeedsRow, standIns := [], harness := (true, "320857f4feb93968b74e9b7373cda32f52e51857ff4ccd11295c4fe9b0b59f2d"), looks := false }, kinds := [], alts := [], laidByText := true, laidKinds := [.data, .data, .data, .data, .pinned], laidTests := true, laidLooks := .later }
def GroupFeedsCardSaid : Prop := Claim7.holds Tryz.pinned (.plain (OpenSpec.ofChange groupFeedsSpec)) groupFeedsCard

/-- THE TIED CARD OF 'marqueelaw18.GroupNobody'. -/
def groupNobodyCard : Claim7 := { stood := { row := groupNobodyRow, standIns := [], harness := (true, "320857f4feb93968b74e9b7373cda32f52e51857ff4ccd11295c4fe9b0b59f2d"), looks := false }, kinds := [], alts := [], laidByText := true, laidKinds := [.data, .data, .data, .data, .pinned], laidTests := true, laidLooks := .later }
def GroupNobodyCardSaid : Prop := Claim7.holds Tryz.pinned (.plain (OpenSpec.ofChange groupNobodySpec)) groupNobodyCard

/-- THE TIED CARD OF 'marqueelaw18.GroupBags'. -/
def groupBagsCard : Claim7 := { stood := { row := groupBagsRow, standIns := [], harness := (true, "320857f4feb93968b74e9b7373cda32f52e51857ff4ccd11295c4fe9b0b59f2d"), looks := false }, kinds := [], alts := [], laidByText := true, laidKinds := [.data, .data, .data, .data, .pinned], laidTests := true, laidLooks := .later }
def GroupBagsCardSaid : Prop := Claim7.holds Tryz.pinned (.plain (OpenSpec.ofChange groupBagsSpec)) groupBagsCard

/-- THE TIED CARD OF 'marqueelaw18.GroupViews'. -/
def groupViewsCard : Claim7 := { stood := { row := groupViewsRow, standIns := [], harness := (true, "320857f4feb93968b74e9b7373cda32f52e51857ff4ccd11295c4fe9b0b59f2d"), looks := false }, kinds := [], alts := [], laidByText := true, laidKinds := [.data, .data, .data, .data, .pinned], laidTests := true, laidLooks := .later }
def GroupViewsCardSaid : Prop := Claim7.holds Tryz.pinned (.plain (OpenSpec.ofChange groupViewsSpec)) groupViewsCard

/-- THE SECOND FORM's CARD OF 'marqueelaw18.GroupOf'. -/
def groupOfUptoCard : Claim7 := { stood := { row := groupOfUptoRow, standIns := [], harness := (true, "320857f4feb93968b74e9b7373cda32f52e51857ff4ccd11295c4fe9b0b59f2d"), looks := false }, kinds := [], alts := [], laidByText := true, laidKinds := [.data, .data, .data, .data, .pinned], laidTests := true, laidLooks := .later }
def GroupOfUptoCardSaid : Prop := Claim7.holds Tryz.pinned (.plain (OpenSpec.upto groupOfSpec)) groupOfUptoCard

/-- THE SECOND FORM's CARD OF 'marqueelaw18.GroupFeeds'. -/
def groupFeedsUptoCard : Claim7 := { stood := { row := groupFeedsUptoRow, standIns := [], harness := (true, "320857f4feb93968b74e9b7373cda32f52e51857ff4ccd11295c4fe9b0b59f2d"), looks := false }, kinds := [], alts := [], laidByText := true, laidKinds := [.data, .data, .data, .data, .pinned], laidTests := true, laidLooks := .later }
def GroupFeedsUptoCardSaid : Prop := Claim7.holds Tryz.pinned (.plain (OpenSpec.upto groupFeedsSpec)) groupFeedsUptoCard

/-- THE SECOND FORM's CARD OF 'marqueelaw18.GroupNobody'. -/
def groupNobodyUptoCard : Claim7 := { stood := { row := groupNobodyUptoRow, standIns := [], harness := (true, "320857f4feb93968b74e9b7373cda32f52e51857ff4ccd11295c4fe9b0b59f2d"), looks := false }, kinds := [], alts := [], laidByText := true, laidKinds := [.data, .data, .data, .data, .pinned], laidTests := true, laidLooks := .later }
def GroupNobodyUptoCardSaid : Prop := Claim7.holds Tryz.pinned (.plain (OpenSpec.upto groupNobodySpec)) groupNobodyUptoCard

/-- THE SECOND FORM's CARD OF 'marqueelaw18.GroupBags'. -/
def groupBagsUptoCard : Claim7 := { stood := { row := groupBagsUptoRow, standIns := [], harness := (true, "320857f4feb93968b74e9b7373cda32f52e51857ff4ccd11295c4fe9b0b59f2d"), looks := false }, kinds := [], alts := [], laidByText := true, laidKinds := [.data, .data, .data, .data, .pinned], laidTests := true, laidLooks := .later }
def GroupBagsUptoCardSaid : Prop := Claim7.holds Tryz.pinned (.plain (OpenSpec.upto groupBagsSpec)) groupBagsUptoCard

/-- THE SECOND FORM's CARD OF 'marqueelaw18.GroupViews'. -/
def groupViewsUptoCard : Claim7 := { stood := { row := groupViewsUptoRow, standIns := [], harness := (true, "320857f4feb93968b74e9b7373cda32f52e51857ff4ccd11295c4fe9b0b59f2d"), looks := false }, kinds := [], alts := [], laidByText := true, laidKinds := [.data, .data, .data, .data, .pinned], laidTests := true, laidLooks := .later }
def GroupViewsUptoCardSaid : Prop := Claim7.holds Tryz.pinned (.plain (OpenSpec.upto groupViewsSpec)) groupViewsUptoCard
end Rows
end Go.Proofs.YtekhboekiehdhaaGreatDoor
