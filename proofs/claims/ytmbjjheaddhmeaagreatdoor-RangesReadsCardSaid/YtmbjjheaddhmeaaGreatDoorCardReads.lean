/- The card of RangesReads. -/
import Derived.Test.YtmbjjheaddhmeaaGreatDoorRowReads
import Derived.Test.YtmbjjheaddhmeaaGreatDoorCards
import Derived.Test.YtmbjjheaddhmeaaGreatDoorTie
namespace Go.Proofs.YtmbjjheaddhmeaaGreatDoor

theorem reads_card : Rows.RangesReadsCardSaid :=
  Claim7.holds_tied_plain_at .later [] [.data, .data, .data, .handle, .sentinel, .sentinel] true Rows.rangesReadsCard.stood.harness true
    reads_holds (fun _ h => by cases h) (by kernel_rfl) (fun _ h => by cases h) rangesReads_row_tie rfl ⟨rfl, rfl⟩ (by kernel_rfl) rfl
    (fun f fn hf hfn => by
      obtain rfl : f = 5 := Option.some.inj ((show Tryz.prog.funcNamed "glossary/glossarylaw03.RangesReads" = some 5 by kernel_rfl).symm.trans hf) |>.symm
      obtain rfl : fn = Tryz.f5 := (Option.some.inj (Tryz.func5.symm.trans hfn)).symm
      exact ⟨by kernel_rfl, fun j t ht => by
        rw [Tryz.params5] at ht
        have h3 : t = 9 := by
          rcases j with _ | j
          · simpa using ht.symm
          · simp at ht
        rw [h3]
        exact (show Tryz.prog.wantsStandIn 9 = false by kernel_rfl)⟩)
    (by kernel_rfl)

end Go.Proofs.YtmbjjheaddhmeaaGreatDoor
