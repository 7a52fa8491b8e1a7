/- The card of RangesBack. -/
import Derived.Test.YtmbjjheaddhmeaaDoorRowBack
import Derived.Test.YtmbjjheaddhmeaaDoorCards
import Derived.Test.YtmbjjheaddhmeaaDoorTie
namespace Go.Proofs.YtmbjjheaddhmeaaDoor

theorem back_card : Rows.RangesBackCardSaid :=
  Claim7.holds_tied_plain_at .later [] [.data, .data, .data, .sentinel, .sentinel] true Rows.rangesBackCard.stood.harness true
    back_holds (fun _ h => by cases h) (by kernel_rfl) (fun _ h => by cases h) rangesBack_row_tie rfl ⟨rfl, rfl⟩ (by kernel_rfl) rfl
    (fun f fn hf hfn => by
      obtain rfl : f = 5 := Option.some.inj ((show Tryd.prog.funcNamed "glossary/glossarylaw03.RangesBack" = some 5 by kernel_rfl).symm.trans hf) |>.symm
      obtain rfl : fn = Tryd.f5 := (Option.some.inj (Tryd.func5.symm.trans hfn)).symm
      exact ⟨by kernel_rfl, fun j t ht => by
        rw [Tryd.params5] at ht
        have h3 : t = 22 := by
          rcases j with _ | j
          · simpa using ht.symm
          · simp at ht
        rw [h3]
        exact (show Tryd.prog.wantsStandIn 22 = false by kernel_rfl)⟩)
    (by kernel_rfl)

end Go.Proofs.YtmbjjheaddhmeaaDoor
