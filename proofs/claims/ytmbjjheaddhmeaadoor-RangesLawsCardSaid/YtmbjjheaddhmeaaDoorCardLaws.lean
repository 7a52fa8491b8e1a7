/- The card of RangesLaws. -/
import Derived.Test.YtmbjjheaddhmeaaDoorRowLaws
import Derived.Test.YtmbjjheaddhmeaaDoorCards
import Derived.Test.YtmbjjheaddhmeaaDoorTie
namespace Go.Proofs.YtmbjjheaddhmeaaDoor

theorem laws_card : Rows.RangesLawsCardSaid :=
  Claim7.holds_tied_plain_at .later [] [.data, .data, .data] true Rows.rangesLawsCard.stood.harness true
    laws_holds (fun _ h => by cases h) (by kernel_rfl) (fun _ h => by cases h) rangesLaws_row_tie rfl ⟨rfl, rfl⟩ (by kernel_rfl) rfl
    (fun f fn hf hfn => by
      obtain rfl : f = 3 := Option.some.inj ((show Tryd.prog.funcNamed "glossary/glossarylaw03.RangesLaws" = some 3 by kernel_rfl).symm.trans hf) |>.symm
      obtain rfl : fn = Tryd.f3 := (Option.some.inj (Tryd.func3.symm.trans hfn)).symm
      exact ⟨by kernel_rfl, fun j t ht => by
        rw [Tryd.params3] at ht
        have h3 : t = 22 ∨ t = 21 := by
          rcases j with _ | _ | _ | _ | j
          · left; simpa using ht.symm
          · left; simpa using ht.symm
          · left; simpa using ht.symm
          · right; simpa using ht.symm
          · simp at ht
        rcases h3 with rfl | rfl
        · exact (show Tryd.prog.wantsStandIn 22 = false by kernel_rfl)
        · exact (show Tryd.prog.wantsStandIn 21 = false by kernel_rfl)⟩)
    (by kernel_rfl)

end Go.Proofs.YtmbjjheaddhmeaaDoor
