/-
  DERIVED. GIVEN WITH THE SEED: THE CARDS: each row of YtmbjjheaddhmeaaDoorRows.lean that lists a variable, with what it lists TIED to the program's text (the seventh form; the later family's looks); each row that meets fmt, with fmt's text TOLD by the authors' own Lean function (tested against real Go, not proved from fmt's source: count such statements apart). THE CARD IS WHAT COUNTS. Prove the row's statement (the work); the ties are given (YtmbjjheaddhmeaaDoorTie.lean); close each card by the builder's one call (the guide's Derived/Test/ToyasCard.lean, 'card_holds'). Laid BY PROGRAM, IN A SANDBOX (cutbox-door.mjs). By AI agents, Wed Nov 11 2026. No macro, syntax, notation, axiom, sorry.
-/
import Derived.Test.YtmbjjheaddhmeaaDoorRows
import GoSem.ClaimSeven
namespace Go.Proofs.YtmbjjheaddhmeaaDoor
namespace Rows

/-- THE TIED CARD OF 'glossarylaw03.RangesLaws'. -/
def rangesLawsCard : Claim7 := { stood := { row := rangesLawsRow, standIns := [], harness := (true, "742a52aab0047206f2a0875827cc20b07b054b429fae3232f7541b19df3d1c67"), looks := true }, kinds := [], alts := [], laidByText := true, laidKinds := [.data, .data, .data], laidTests := true, laidLooks := .later }
def RangesLawsCardSaid : Prop := Claim7.holds Tryd.pinned (.plain (OpenSpec.ofChange rangesLawsSpec)) rangesLawsCard

/-- THE TIED CARD OF 'glossarylaw03.RangesForms'. -/
def rangesFormsCard : Claim7 := { stood := { row := rangesFormsRow, standIns := [], harness := (true, "742a52aab0047206f2a0875827cc20b07b054b429fae3232f7541b19df3d1c67"), looks := true }, kinds := [], alts := [], laidByText := true, laidKinds := [.data, .data, .data, .sentinel, .sentinel], laidTests := true, laidLooks := .later }
def RangesFormsCardSaid : Prop := Claim7.holds Tryd.pinned (.plain (OpenSpec.ofChange rangesFormsSpec)) rangesFormsCard

/-- THE TIED CARD OF 'glossarylaw03.RangesBack'. -/
def rangesBackCard : Claim7 := { stood := { row := rangesBackRow, standIns := [], harness := (true, "742a52aab0047206f2a0875827cc20b07b054b429fae3232f7541b19df3d1c67"), looks := true }, kinds := [], alts := [], laidByText := true, laidKinds := [.data, .data, .data, .sentinel, .sentinel], laidTests := true, laidLooks := .later }
def RangesBackCardSaid : Prop := Claim7.holds Tryd.pinned (.plain (OpenSpec.ofChange rangesBackSpec)) rangesBackCard

/-- THE SECOND FORM's CARD OF 'glossarylaw03.RangesLaws'. -/
def rangesLawsUptoCard : Claim7 := { stood := { row := rangesLawsUptoRow, standIns := [], harness := (true, "742a52aab0047206f2a0875827cc20b07b054b429fae3232f7541b19df3d1c67"), looks := true }, kinds := [], alts := [], laidByText := true, laidKinds := [.data, .data, .data], laidTests := true, laidLooks := .later }
def RangesLawsUptoCardSaid : Prop := Claim7.holds Tryd.pinned (.plain (OpenSpec.upto rangesLawsSpec)) rangesLawsUptoCard

/-- THE SECOND FORM's CARD OF 'glossarylaw03.RangesForms'. -/
def rangesFormsUptoCard : Claim7 := { stood := { row := rangesFormsUptoRow, standIns := [], harness := (true, "742a52aab0047206f2a0875827cc20b07b054b429fae3232f7541b19df3d1c67"), looks := true }, kinds := [], alts := [], laidByText := true, laidKinds := [.data, .data, .data, .sentinel, .sentinel], laidTests := true, laidLooks := .later }
def RangesFormsUptoCardSaid : Prop := Claim7.holds Tryd.pinned (.plain (OpenSpec.upto rangesFormsSpec)) rangesFormsUptoCard

/-- THE SECOND FORM's CARD OF 'glossarylaw03.RangesBack'. -/
def rangesBackUptoCard : Claim7 := { stood := { row := rangesBackUptoRow, standIns := [], harness := (true, "742a52aab0047206f2a0875827cc20b07b054b429fae3232f7541b19df3d1c67"), looks := true }, kinds := [], alts := [], laidByText := true, laidKinds := [.data, .data, .data, .sentinel, .sentinel], laidTests := true, laidLooks := .later }
def RangesBackUptoCardSaid : Prop := Claim7.holds Tryd.pinned (.plain (OpenSpec.upto rangesBackSpec)) rangesBackUptoCard
end Rows
end Go.Proofs.YtmbjjheaddhmeaaDoor
