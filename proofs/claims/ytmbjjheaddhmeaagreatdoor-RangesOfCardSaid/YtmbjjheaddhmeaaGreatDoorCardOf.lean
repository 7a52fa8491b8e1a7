/- For every list of spans and every list of numbers that are asked, RangesOf answers true: what Of makes of the list equals what the document's Of makes, and it keeps nothing of the list. No condition on the input. -/
import Derived.Test.YtmbjjheaddhmeaaGreatDoorRowOf
import Derived.Test.YtmbjjheaddhmeaaGreatDoorCards
import Derived.Test.YtmbjjheaddhmeaaGreatDoorTie
namespace Go.Proofs.YtmbjjheaddhmeaaGreatDoor

theorem of_card : Rows.RangesOfCardSaid :=
  Claim7.holds_tied_plain_at .later [] [.data, .data, .data, .handle] true Rows.rangesOfCard.stood.harness true
    ofr_holds (fun _ h => by cases h) (by kernel_rfl) (fun _ h => by cases h) rangesOf_row_tie rfl ⟨rfl, rfl⟩ (by kernel_rfl) rfl
    (fun f fn hf hfn => by
      obtain rfl : f = 3 := Option.some.inj ((show Tryz.prog.funcNamed "glossary/glossarylaw03.RangesOf" = some 3 by kernel_rfl).symm.trans hf) |>.symm
      obtain rfl : fn = Tryz.f3 := (Option.some.inj (Tryz.func3.symm.trans hfn)).symm
      exact ⟨by kernel_rfl, fun j t ht => by
        rw [Tryz.params3] at ht
        have h3 : t = 22 ∨ t = 23 := by
          rcases j with _ | _ | j
          · left; simpa using ht.symm
          · right; simpa using ht.symm
          · simp at ht
        rcases h3 with rfl | rfl
        · exact (show Tryz.prog.wantsStandIn 22 = false by kernel_rfl)
        · exact (show Tryz.prog.wantsStandIn 23 = false by kernel_rfl)⟩)
    (by kernel_rfl)

end Go.Proofs.YtmbjjheaddhmeaaGreatDoor
