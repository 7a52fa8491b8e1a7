/- For every list of spans, every other one, and every list of numbers that are asked, RangesMade answers true: what Join, Both, Less and Not make of two sets equals what the document's definition makes. No condition on the input. -/
import Derived.Test.YtmbjjheaddhmeaaGreatDoorRowMade
import Derived.Test.YtmbjjheaddhmeaaGreatDoorCards
import Derived.Test.YtmbjjheaddhmeaaGreatDoorTie
namespace Go.Proofs.YtmbjjheaddhmeaaGreatDoor

theorem made_card : Rows.RangesMadeCardSaid :=
  Claim7.holds_tied_plain_at .later [] [.data, .data, .data, .handle] true Rows.rangesMadeCard.stood.harness true
    made_holds (fun _ h => by cases h) (by kernel_rfl) (fun _ h => by cases h) rangesMade_row_tie rfl ⟨rfl, rfl⟩ (by kernel_rfl) rfl
    (fun f fn hf hfn => by
      obtain rfl : f = 4 := Option.some.inj ((show Tryz.prog.funcNamed "glossary/glossarylaw03.RangesMade" = some 4 by kernel_rfl).symm.trans hf) |>.symm
      obtain rfl : fn = Tryz.f4 := (Option.some.inj (Tryz.func4.symm.trans hfn)).symm
      exact ⟨by kernel_rfl, fun j t ht => by
        rw [Tryz.params4] at ht
        have h3 : t = 22 ∨ t = 23 := by
          rcases j with _ | _ | _ | j
          · left; simpa using ht.symm
          · left; simpa using ht.symm
          · right; simpa using ht.symm
          · simp at ht
        rcases h3 with rfl | rfl
        · exact (show Tryz.prog.wantsStandIn 22 = false by kernel_rfl)
        · exact (show Tryz.prog.wantsStandIn 23 = false by kernel_rfl)⟩)
    (by kernel_rfl)

end Go.Proofs.YtmbjjheaddhmeaaGreatDoor
