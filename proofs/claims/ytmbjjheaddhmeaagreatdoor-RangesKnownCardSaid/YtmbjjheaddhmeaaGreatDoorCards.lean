/-
  DERIVED. GIVEN WITH THE SEED: THE CARDS: each row of YtmbjjheaddhmeaaGreatDoorRows.lean that lists a variable, with what it lists TIED to the program's text (the seventh form; the later family's looks); each row that meets fmt, with fmt's text TOLD by the authors' own Lean function (tested against real Go, not proved from fmt's source: count such statements apart). THE CARD IS WHAT COUNTS. Prove the row's statement (the work); the ties are given (YtmbjjheaddhmeaaGreatDoorTie.lean); close each card by the builder's one call (the guide's Derived/Test/ToyasCard.lean, 'card_holds'). Laid BY PROGRAM, IN A SANDBOX (cutbox-door.mjs). By AI agents, Wed Nov 11 2026. No macro, syntax, notation, axiom, sorry.
-/
import Derived.Test.YtmbjjheaddhmeaaGreatDoorRows
import GoSem.ClaimSeven
namespace Go.Proofs.YtmbjjheaddhmeaaGreatDoor
namespace Rows

/-- THE TIED CARD OF 'glossarylaw03.RangesOf'. -/
def rangesOfCard : Claim7 := { stood := { row := rangesOfRow, standIns := [], harness := (true, "877ce568ac49e6f650c9f9bffb4e968ffa7bffe08bc9d4f034342642310052da"), looks := true }, kinds := [], alts := [], laidByText := true, laidKinds := [.data, .data, .data, .handle], laidTests := true, laidLooks := .later }
def RangesOfCardSaid : Prop := Claim7.holds Tryz.pinned (.plain (OpenSpec.ofChange rangesOfSpec)) rangesOfCard

/-- THE TIED CARD OF 'glossarylaw03.RangesMade'. -/
def rangesMadeCard : Claim7 := { stood := { row := rangesMadeRow, standIns := [], harness := (true, "877ce568ac49e6f650c9f9bffb4e968ffa7bffe08bc9d4f034342642310052da"), looks := true }, kinds := [], alts := [], laidByText := true, laidKinds := [.data, .data, .data, .handle], laidTests := true, laidLooks := .later }
def RangesMadeCardSaid : Prop := Claim7.holds Tryz.pinned (.plain (OpenSpec.ofChange rangesMadeSpec)) rangesMadeCard

/-- THE TIED CARD OF 'glossarylaw03.RangesReads'. -/
def rangesReadsCard : Claim7 := { stood := { row := rangesReadsRow, standIns := [], harness := (true, "877ce568ac49e6f650c9f9bffb4e968ffa7bffe08bc9d4f034342642310052da"), looks := true }, kinds := [], alts := [], laidByText := true, laidKinds := [.data, .data, .data, .handle, .sentinel, .sentinel], laidTests := true, laidLooks := .later }
def RangesReadsCardSaid : Prop := Claim7.holds Tryz.pinned (.plain (OpenSpec.ofChange rangesReadsSpec)) rangesReadsCard

/-- THE TIED CARD OF 'glossarylaw03.RangesKnown'. -/
def rangesKnownCard : Claim7 := { stood := { row := rangesKnownRow, standIns := [], harness := (true, "877ce568ac49e6f650c9f9bffb4e968ffa7bffe08bc9d4f034342642310052da"), looks := true }, kinds := [], alts := [], laidByText := true, laidKinds := [.data, .data, .data, .handle, .sentinel, .sentinel], laidTests := true, laidLooks := .later }
def RangesKnownCardSaid : Prop := Claim7.holds Tryz.pinned (.plain (OpenSpec.ofChange rangesKnownSpec)) rangesKnownCard

/-- THE SECOND FORM's CARD OF 'glossarylaw03.RangesOf'. -/
def rangesOfUptoCard : Claim7 := { stood := { row := rangesOfUptoRow, standIns := [], harness := (true, "877ce568ac49e6f650c9f9bffb4e968ffa7bffe08bc9d4f034342642310052da"), looks := true }, kinds := [], alts := [], laidByText := true, laidKinds := [.data, .data, .data, .handle], laidTests := true, laidLooks := .later }
def RangesOfUptoCardSaid : Prop := Claim7.holds Tryz.pinned (.plain (OpenSpec.upto rangesOfSpec)) rangesOfUptoCard

/-- THE SECOND FORM's CARD OF 'glossarylaw03.RangesMade'. -/
def rangesMadeUptoCard : Claim7 := { stood := { row := rangesMadeUptoRow, standIns := [], harness := (true, "877ce568ac49e6f650c9f9bffb4e968ffa7bffe08bc9d4f034342642310052da"), looks := true }, kinds := [], alts := [], laidByText := true, laidKinds := [.data, .data, .data, .handle], laidTests := true, laidLooks := .later }
def RangesMadeUptoCardSaid : Prop := Claim7.holds Tryz.pinned (.plain (OpenSpec.upto rangesMadeSpec)) rangesMadeUptoCard

/-- THE SECOND FORM's CARD OF 'glossarylaw03.RangesReads'. -/
def rangesReadsUptoCard : Claim7 := { stood := { row := rangesReadsUptoRow, standIns := [], harness := (true, "877ce568ac49e6f650c9f9bffb4e968ffa7bffe08bc9d4f034342642310052da"), looks := true }, kinds := [], alts := [], laidByText := true, laidKinds := [.data, .data, .data, .handle, .sentinel, .sentinel], laidTests := true, laidLooks := .later }
def RangesReadsUptoCardSaid : Prop := Claim7.holds Tryz.pinned (.plain (OpenSpec.upto rangesReadsSpec)) rangesReadsUptoCard

/-- THE SECOND FORM's CARD OF 'glossarylaw03.RangesKnown'. -/
def rangesKnownUptoCard : Claim7 := { stood := { row := rangesKnownUptoRow, standIns := [], harness := (true, "877ce568ac49e6f650c9f9bffb4e968ffa7bffe08bc9d4f034342642310052da"), looks := true }, kinds := [], alts := [], laidByText := true, laidKinds := [.data, .data, .data, .handle, .sentinel, .sentinel], laidTests := true, laidLooks := .later }
def RangesKnownUptoCardSaid : Prop := Claim7.holds Tryz.pinned (.plain (OpenSpec.upto rangesKnownSpec)) rangesKnownUptoCard
end Rows
end Go.Proofs.YtmbjjheaddhmeaaGreatDoor
