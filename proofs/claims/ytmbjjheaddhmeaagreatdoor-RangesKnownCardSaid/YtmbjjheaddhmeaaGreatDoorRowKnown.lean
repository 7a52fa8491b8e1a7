/- The row of RangesKnown. -/
import Derived.Test.YtmbjjheaddhmeaaGreatDoorKnownS
import Derived.Test.YtmbjjheaddhmeaaGreatDoorKnownT
import Derived.Test.YtmbjjheaddhmeaaGreatDoorRowReads
import Derived.Test.YtmbjjheaddhmeaaGreatDoorOpenH
namespace Go.Proofs.YtmbjjheaddhmeaaGreatDoor
open Go.ChangeShapes Go.WideShapes Go.ChangeAt Go.RowKit Go.Lib Go.Deep Go.ChangeMaps

theorem known_any (w : World) (h : KsOk w) :
    Calls Tryz.prog 6 #[] w fun e w' => e = .returned (.bool true) ∧ Below w.heap.size w w' := by
  have H := Lib.hid h
  clear h
  go_enter Tryz.func6, Tryz.ntmps6
  go_wp2_with (first
    | (go_at_call 29; refine (texts_any w1 (H.out.from B1).rd (H.out.from B1).er).mono ?_; rintro e w2 ⟨rfl, B2⟩)
    | (go_at_call 28; refine (spans_walk w H.out).mono ?_; rintro e w1 ⟨rfl, B1⟩))
  go_ret
  exact ⟨rfl, below_snoc B1 B2⟩

theorem laid_metKnown (os : Os) (args : Array Value) : laidMetH Tryz.prog Rows.rangesKnownRow.laid ((laidWorldH os).forCall (fun _ _ => 0) ⟨#[], args, []⟩).memory :=
  laidMetH_of_parts (LaidIn.of_run (l := Rows.rangesKnownRow.laid.filter fun x => x.2.handleName?.isNone) (List.range 64) 8 (by kernel_rfl) (by kernel_rfl) (by kernel_rfl) (by kernel_rfl)).met (by kernel_rfl)

theorem known_witness (os : Os) {H : Type} (enc : TypeId × Value → H) :
    (OpenSpec.ofChange Rows.rangesKnownSpec).preRow enc Tryz.prog Tryz.f6 Rows.rangesKnownRow.domain false Rows.rangesKnownRow.laid ((laidWorldH os).forCall (fun _ _ => 0) ⟨#[], #[], []⟩).memory #[] := by
  have hw : (DataW.whole enc Tryz.prog ((laidWorldH os).forCall (fun _ _ => 0) ⟨#[], #[], []⟩).memory Tryz.f6.params.toList (OpenSpec.ofChange Rows.rangesKnownSpec).vars false (#[] : Array Value).toList 8).map (fun x => (x.1, x.2.1)) =
      some ([], []) := by kernel_rfl
  obtain ⟨⟨x1, x2, x3⟩, hx, hx1⟩ := Option.map_eq_some_iff.1 hw
  simp only [Prod.mk.injEq] at hx1
  obtain ⟨rfl, rfl⟩ := hx1
  exact OpenSpec.preRow_of_cond 8 hx (by kernel_rfl) (fun k hk => by cases hk) (by kernel_rfl) (laid_metKnown os _)

set_option maxRecDepth 100000 in
set_option maxHeartbeats 2000000 in
theorem known_lifted (os : Os) (started : os.Started) (H : Type) (enc : TypeId × Value → H) (F : Stop.Interp) :
    ReturnsInHanded {} Tryz.checked os 6 .any ((OpenSpec.ofChange Rows.rangesKnownSpec).preRow enc Tryz.prog Tryz.f6 Rows.rangesKnownRow.domain false Rows.rangesKnownRow.laid) (((OpenSpec.ofChange Rows.rangesKnownSpec).at F).post enc Tryz.prog Tryz.f6 false true false false) := by
  refine returnsInHanded_of_row (C := Tryz.checked) (s := OpenSpec.ofChange Rows.rangesKnownSpec) Tryz.own started (by kernel_rfl) Tryz.func6
    (witness_row_atRef (enc := enc) (C := Tryz.checked) false (laidWorldH os) #[] rfl (by kernel_rfl) (by kernel_rfl) (by kernel_rfl) (known_witness os enc)) ?_
  intro W base args ds gs before hval0 hW _ _ _ hL _ _
  have hW' := hW
  obtain ⟨p, q, hA0, hV0, rfl, _, _⟩ := hW
  have hA : DataW.TrodAll enc Tryz.prog W 0 (fun _ => true) true Tryz.f6.params.toList args.toList ds p := hA0
  rw [Tryz.params6] at hA
  obtain ⟨rfl, rfl, rfl⟩ := trodAll_none hA
  obtain ⟨rfl, rfl⟩ := trodVars_none hV0
  clear hA0 hV0 hval0
  obtain ⟨hL1, hL2⟩ := laidMetH_iff.1 hL
  have hdb : Db W := db_of_reads (Lib.laidMet.reads hL1 (.tail _ (.head _)))
  have herr : ErrT W := errT_of_handle hL2 (.head _)
  have hr1 : ErrVar W 4 := errRange_of (Lib.laidMet.reads hL1 (.tail _ (.tail _ (.tail _ (.head _)))))
  have hr2 : ErrVar W 3 := errSyntax_of (Lib.laidMet.reads hL1 (.tail _ (.tail _ (.tail _ (.tail _ (.head _))))))
  refine (known_any W ⟨⟨hdb, cell_lt hdb, hr2, hr1⟩, herr, hdb, cell_lt hdb⟩).mono ?_
  rintro e W' ⟨rfl, bel⟩
  have e1 : ((OpenSpec.ofChange Rows.rangesKnownSpec).at F).fn H ([] ++ []) = { results := [.lit (.bool true)], args := [] } := rfl
  refine ⟨_, rfl, _, _, _, [], [], [], hW', ?_, ?_, ?_, bel.frame _, fun h => by cases h⟩
  · rw [e1]; exact trodAll_mk1 (shut_bool Tryz.underlying4 _)
  · rw [e1]; exact trodAll_mk0
  · rw [e1]; rfl

theorem known_holds : Rows.RangesKnownSaid :=
  OpenClaim.holds_of_cond 6 Tryz.f6 rfl rfl rfl rfl rfl rfl rfl ⟨rfl, rfl, rfl, rfl, rfl⟩ rfl rfl rfl rfl rfl (by kernel_rfl) Tryz.func6 (by kernel_rfl)
    (of_decide_eq_true (by kernel_rfl)) (by unfold Func.isWrapper; rw [if_neg (of_decide_eq_false (by kernel_rfl))]; exact ⟨rfl, rfl⟩)
    (fun os started H enc _ F0 => by rw [OpenClaim.pre_eq_preRow]; exact known_lifted os started H enc F0)

end Go.Proofs.YtmbjjheaddhmeaaGreatDoor
