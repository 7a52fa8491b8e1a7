/- The card of RangesForms. -/
import Derived.Test.YtmbjjheaddhmeaaDoorRowForms
import Derived.Test.YtmbjjheaddhmeaaDoorCards
import Derived.Test.YtmbjjheaddhmeaaDoorTie
namespace Go.Proofs.YtmbjjheaddhmeaaDoor

theorem forms_card : Rows.RangesFormsCardSaid :=
  Claim7.holds_tied_plain_at .later [] [.data, .data, .data, .sentinel, .sentinel] true Rows.rangesFormsCard.stood.harness true
    forms_holds (fun _ h => by cases h) (by kernel_rfl) (fun _ h => by cases h) rangesForms_row_tie rfl ⟨rfl, rfl⟩ (by kernel_rfl) rfl
    (fun f fn hf hfn => by
      obtain rfl : f = 4 := Option.some.inj ((show Tryd.prog.funcNamed "glossary/glossarylaw03.RangesForms" = some 4 by kernel_rfl).symm.trans hf) |>.symm
      obtain rfl : fn = Tryd.f4 := (Option.some.inj (Tryd.func4.symm.trans hfn)).symm
      exact ⟨by kernel_rfl, fun j t ht => by
        rw [Tryd.params4] at ht
        have h3 : t = 9 := by
          rcases j with _ | j
          · simpa using ht.symm
          · simp at ht
        rw [h3]
        exact (show Tryd.prog.wantsStandIn 9 = false by kernel_rfl)⟩)
    (by kernel_rfl)

end Go.Proofs.YtmbjjheaddhmeaaDoor
