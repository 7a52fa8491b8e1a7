/- RangesKnown, which takes no input, answers true: the examples of the chapter, spans between all numbers about the edges, and texts with a byte left out, turned and put in. No condition. -/
import Derived.Test.YtmbjjheaddhmeaaGreatDoorRowKnown
import Derived.Test.YtmbjjheaddhmeaaGreatDoorCards
import Derived.Test.YtmbjjheaddhmeaaGreatDoorTie
namespace Go.Proofs.YtmbjjheaddhmeaaGreatDoor

theorem known_card : Rows.RangesKnownCardSaid :=
  Claim7.holds_tied_plain_at .later [] [.data, .data, .data, .handle, .sentinel, .sentinel] true Rows.rangesKnownCard.stood.harness true
    known_holds (fun _ h => by cases h) (by kernel_rfl) (fun _ h => by cases h) rangesKnown_row_tie rfl ⟨rfl, rfl⟩ (by kernel_rfl) rfl
    (fun f fn hf hfn => by
      obtain rfl : f = 6 := Option.some.inj ((show Tryz.prog.funcNamed "glossary/glossarylaw03.RangesKnown" = some 6 by kernel_rfl).symm.trans hf) |>.symm
      obtain rfl : fn = Tryz.f6 := (Option.some.inj (Tryz.func6.symm.trans hfn)).symm
      exact ⟨by kernel_rfl, fun j t ht => by
        rw [Tryz.params6] at ht
        simp at ht⟩)
    (by kernel_rfl)

end Go.Proofs.YtmbjjheaddhmeaaGreatDoor
