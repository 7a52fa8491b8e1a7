/- The row of RangesMade. -/
import Derived.Test.YtmbjjheaddhmeaaGreatDoorMadeW
import Derived.Test.YtmbjjheaddhmeaaGreatDoorOpenH
namespace Go.Proofs.YtmbjjheaddhmeaaGreatDoor
open Go.ChangeShapes Go.WideShapes Go.ChangeAt Go.RowKit Go.Lib Go.Deep Go.ChangeMaps

theorem laid_metMade (os : Os) (args : Array Value) : laidMetH Tryz.prog Rows.rangesMadeRow.laid ((laidWorldH os).forCall (fun _ _ => 0) ⟨#[], args, []⟩).memory :=
  laidMetH_of_parts (LaidIn.of_run (l := Rows.rangesMadeRow.laid.filter fun x => x.2.handleName?.isNone) (List.range 64) 8 (by kernel_rfl) (by kernel_rfl) (by kernel_rfl) (by kernel_rfl)).met (by kernel_rfl)

theorem made_witness (os : Os) {H : Type} (enc : TypeId × Value → H) :
    (OpenSpec.ofChange Rows.rangesMadeSpec).preRow enc Tryz.prog Tryz.f4 Rows.rangesMadeRow.domain false Rows.rangesMadeRow.laid ((laidWorldH os).forCall (fun _ _ => 0) ⟨#[], #[.slice none 0 0, .slice none 0 0, .slice none 0 0], []⟩).memory #[.slice none 0 0, .slice none 0 0, .slice none 0 0] := by
  have hw : (DataW.whole enc Tryz.prog ((laidWorldH os).forCall (fun _ _ => 0) ⟨#[], #[.slice none 0 0, .slice none 0 0, .slice none 0 0], []⟩).memory Tryz.f4.params.toList (OpenSpec.ofChange Rows.rangesMadeSpec).vars false #[Value.slice none 0 0, .slice none 0 0, .slice none 0 0].toList 8).map (fun x => (x.1, x.2.1)) =
      some ([.nil, .nil, .nil], []) := by kernel_rfl
  obtain ⟨⟨x1, x2, x3⟩, hx, hx1⟩ := Option.map_eq_some_iff.1 hw
  simp only [Prod.mk.injEq] at hx1
  obtain ⟨rfl, rfl⟩ := hx1
  exact OpenSpec.preRow_of_cond 8 hx (by kernel_rfl) (fun k hk => by cases hk) (by kernel_rfl) (laid_metMade os _)

set_option maxRecDepth 100000 in
set_option maxHeartbeats 2000000 in
theorem made_lifted (os : Os) (started : os.Started) (H : Type) (enc : TypeId × Value → H) (F : Stop.Interp) :
    ReturnsInHanded {} Tryz.checked os 4 .any ((OpenSpec.ofChange Rows.rangesMadeSpec).preRow enc Tryz.prog Tryz.f4 Rows.rangesMadeRow.domain false Rows.rangesMadeRow.laid) (((OpenSpec.ofChange Rows.rangesMadeSpec).at F).post enc Tryz.prog Tryz.f4 false true false false) := by
  refine returnsInHanded_of_row (C := Tryz.checked) (s := OpenSpec.ofChange Rows.rangesMadeSpec) Tryz.own started (by kernel_rfl) Tryz.func4
    (witness_row_atRef (enc := enc) (C := Tryz.checked) false (laidWorldH os) #[.slice none 0 0, .slice none 0 0, .slice none 0 0] rfl (by kernel_rfl) (by kernel_rfl) (by kernel_rfl) (made_witness os enc)) ?_
  intro W base args ds gs before hval0 hW _ _ _ hL _ _
  have hval : ∀ (j : Nat) t v, Tryz.f4.params[j]? = some t → args[j]? = some v → Value.okWide Tryz.prog W .any base t v := hval0
  have hW' := hW
  obtain ⟨p, q, hA0, hV0, rfl, _, _⟩ := hW
  have hA : DataW.TrodAll enc Tryz.prog W 0 (fun _ => true) true Tryz.f4.params.toList args.toList ds p := hA0
  rw [Tryz.params4] at hA hval
  obtain ⟨v1, v2, v3, d1, d2, d3, p1, p2, p3, rfl, rfl, rfl, t1, t2, t3⟩ := trodAll_three hA
  obtain ⟨rfl, rfl⟩ := trodVars_none hV0
  obtain ⟨l, s1⟩ := spans_of_trod (hval 0 22 v1 rfl rfl) t1
  obtain ⟨m, s2⟩ := spans_of_trod (hval 1 22 v2 rfl rfl) t2
  obtain ⟨asks, s3, hab⟩ := runes_of_trod (hval 2 23 v3 rfl rfl) t3
  clear hA0 hV0 hval0
  obtain ⟨hL1, hL2⟩ := laidMetH_iff.1 hL
  have hdb : Db W := db_of_reads (Lib.laidMet.reads hL1 (.tail _ (.head _)))
  have herr : ErrT W := errT_of_handle hL2 (.head _)
  refine (rangesMade_any s1 s2 s3 hab ⟨hdb, cell_lt hdb⟩ herr).mono ?_
  rintro e W' ⟨rfl, bel⟩
  have hlt : ∀ x ∈ p1 ++ p2 ++ p3, x.block < W.heap.size := fun x hx => hW'.lt x (by simp at hx ⊢; omega)
  have e1 : ((OpenSpec.ofChange Rows.rangesMadeSpec).at F).fn H ([d1, d2, d3] ++ []) = { results := [.lit (.bool true)], args := [d1, d2, d3] } := rfl
  refine ⟨_, rfl, _, _, _, [], (p1 ++ (p2 ++ p3)), [], hW', ?_, ?_, ?_, bel.frame _, fun h => by cases h⟩
  · rw [e1]; exact trodAll_mk1 (shut_bool Tryz.underlying4 _)
  · rw [e1]
    exact trodAll_mk3 (Below.trod Tryz.laidOut (by kernel_rfl) (of_decide_eq_true (by kernel_rfl)) t1 bel (fun x hx => hlt x (by simp [hx]))) (Below.trod Tryz.laidOut (by kernel_rfl) (of_decide_eq_true (by kernel_rfl)) t2 bel (fun x hx => hlt x (by simp [hx]))) (Below.trod Tryz.laidOut (by kernel_rfl) (of_decide_eq_true (by kernel_rfl)) t3 bel (fun x hx => hlt x (by simp [hx])))
  · rw [e1]; rfl

theorem made_holds : Rows.RangesMadeSaid :=
  OpenClaim.holds_of_cond 4 Tryz.f4 rfl rfl rfl rfl rfl rfl rfl ⟨rfl, rfl, rfl, rfl, rfl⟩ rfl rfl rfl rfl rfl (by kernel_rfl) Tryz.func4 (by kernel_rfl)
    (of_decide_eq_true (by kernel_rfl)) (by unfold Func.isWrapper; rw [if_neg (of_decide_eq_false (by kernel_rfl))]; exact ⟨rfl, rfl⟩)
    (fun os started H enc _ F0 => by rw [OpenClaim.pre_eq_preRow]; exact made_lifted os started H enc F0)

end Go.Proofs.YtmbjjheaddhmeaaGreatDoor
