/- The row of RangesReads. -/
import Derived.Test.YtmbjjheaddhmeaaGreatDoorReadsW
import Derived.Test.YtmbjjheaddhmeaaGreatDoorOpenH
namespace Go.Proofs.YtmbjjheaddhmeaaGreatDoor
open Go.ChangeShapes Go.WideShapes Go.ChangeAt Go.RowKit Go.Lib Go.Deep Go.ChangeMaps

set_option maxRecDepth 100000 in
theorem errVar_of {W : World} {n : String} {name : String} {d : DataW Unit} {g : Nat} (h : VarReads Tryz.prog W n (.iface name d)) (hg0 : Tryz.prog.globalNamed n = some g) (ht0 : (Tryz.prog.globals[g]?).map (·.type) = some 27) : ErrVar W g := by
  obtain ⟨g', t, cs, fuel, p, hg, ht, hvar, hd⟩ := h
  obtain rfl := Option.some.inj (hg0.symm.trans hg)
  obtain rfl := Option.some.inj (ht0.symm.trans ht)
  have hcell := World.var?_cell hg hvar 0
  rw [← Array.getElem?_toList] at hcell
  have hu := Tryz.underlying27
  cases fuel with
  | zero => simp [DataW.trod] at hd
  | succ fuel =>
    unfold DataW.trod at hd
    rw [hu] at hd
    generalize cs.toList = l at hd hcell
    match l, hd with
    | [.nilIface], hd => simp at hd
    | [.iface u v], _ => exact ⟨_, by simpa using hcell, .inr ⟨u, v, rfl⟩⟩
theorem errSyntax_of {W : World} (h : VarReads Tryz.prog W "strconv.ErrSyntax" Rows.laid_strconv_ErrSyntax) : ErrVar W 3 := errVar_of h (by kernel_rfl) (by kernel_rfl)
theorem errRange_of {W : World} (h : VarReads Tryz.prog W "strconv.ErrRange" Rows.laid_strconv_ErrRange) : ErrVar W 4 := errVar_of h (by kernel_rfl) (by kernel_rfl)

theorem laid_metReads (os : Os) (args : Array Value) : laidMetH Tryz.prog Rows.rangesReadsRow.laid ((laidWorldH os).forCall (fun _ _ => 0) ⟨#[], args, []⟩).memory :=
  laidMetH_of_parts (LaidIn.of_run (l := Rows.rangesReadsRow.laid.filter fun x => x.2.handleName?.isNone) (List.range 64) 8 (by kernel_rfl) (by kernel_rfl) (by kernel_rfl) (by kernel_rfl)).met (by kernel_rfl)

theorem reads_witness (os : Os) {H : Type} (enc : TypeId × Value → H) :
    (OpenSpec.ofChange Rows.rangesReadsSpec).preRow enc Tryz.prog Tryz.f5 Rows.rangesReadsRow.domain false Rows.rangesReadsRow.laid ((laidWorldH os).forCall (fun _ _ => 0) ⟨#[], #[.string ⟨#[]⟩], []⟩).memory #[.string ⟨#[]⟩] := by
  have hw : (DataW.whole enc Tryz.prog ((laidWorldH os).forCall (fun _ _ => 0) ⟨#[], #[.string ⟨#[]⟩], []⟩).memory Tryz.f5.params.toList (OpenSpec.ofChange Rows.rangesReadsSpec).vars false #[Value.string ⟨#[]⟩].toList 8).map (fun x => (x.1, x.2.1)) =
      some ([.lit (.string [])], []) := by kernel_rfl
  obtain ⟨⟨x1, x2, x3⟩, hx, hx1⟩ := Option.map_eq_some_iff.1 hw
  simp only [Prod.mk.injEq] at hx1
  obtain ⟨rfl, rfl⟩ := hx1
  exact OpenSpec.preRow_of_cond 8 hx (by kernel_rfl) (fun k hk => by cases hk) (by kernel_rfl) (laid_metReads os _)

set_option maxRecDepth 100000 in
set_option maxHeartbeats 2000000 in
theorem reads_lifted (os : Os) (started : os.Started) (H : Type) (enc : TypeId × Value → H) (F : Stop.Interp) :
    ReturnsInHanded {} Tryz.checked os 5 .any ((OpenSpec.ofChange Rows.rangesReadsSpec).preRow enc Tryz.prog Tryz.f5 Rows.rangesReadsRow.domain false Rows.rangesReadsRow.laid) (((OpenSpec.ofChange Rows.rangesReadsSpec).at F).post enc Tryz.prog Tryz.f5 false true false false) := by
  refine returnsInHanded_of_row (C := Tryz.checked) (s := OpenSpec.ofChange Rows.rangesReadsSpec) Tryz.own started (by kernel_rfl) Tryz.func5
    (witness_row_atRef (enc := enc) (C := Tryz.checked) false (laidWorldH os) #[.string ⟨#[]⟩] rfl (by kernel_rfl) (by kernel_rfl) (by kernel_rfl) (reads_witness os enc)) ?_
  intro W base args ds gs before hval0 hW _ _ _ hL _ _
  have hval : ∀ (j : Nat) t v, Tryz.f5.params[j]? = some t → args[j]? = some v → Value.okWide Tryz.prog W .any base t v := hval0
  have hW' := hW
  obtain ⟨p, q, hA0, hV0, rfl, _, _⟩ := hW
  have hA : DataW.TrodAll enc Tryz.prog W 0 (fun _ => true) true Tryz.f5.params.toList args.toList ds p := hA0
  rw [Tryz.params5] at hA hval
  obtain ⟨v1, d1, rfl, rfl, t1⟩ := trodAll_one hA
  obtain ⟨rfl, rfl⟩ := trodVars_none hV0
  obtain ⟨s, rfl, rfl, rfl, hs⟩ := open_string Tryz.underlying9 (hval 0 9 _ rfl rfl) t1
  clear hA0 hV0 hval0
  obtain ⟨hL1, hL2⟩ := laidMetH_iff.1 hL
  have hdb : Db W := db_of_reads (Lib.laidMet.reads hL1 (.tail _ (.head _)))
  have herr : ErrT W := errT_of_handle hL2 (.head _)
  have hr1 : ErrVar W 4 := errRange_of (Lib.laidMet.reads hL1 (.tail _ (.tail _ (.tail _ (.head _)))))
  have hr2 : ErrVar W 3 := errSyntax_of (Lib.laidMet.reads hL1 (.tail _ (.tail _ (.tail _ (.tail _ (.head _))))))
  refine (rangesReads_any s W ⟨hdb, cell_lt hdb, hr2, hr1⟩ herr).mono ?_
  rintro e W' ⟨rfl, bel⟩
  have e1 : ((OpenSpec.ofChange Rows.rangesReadsSpec).at F).fn H ([.lit (.string s.data.toList)] ++ []) = { results := [.lit (.bool true)], args := [.lit (.string s.data.toList)] } := rfl
  refine ⟨_, rfl, _, _, _, [], [], [], hW', ?_, ?_, ?_, bel.frame _, fun h => by cases h⟩
  · rw [e1]; exact trodAll_mk1 (shut_bool Tryz.underlying4 _)
  · rw [e1]; exact trodAll_mk1 (shut_string Tryz.underlying9 hs)
  · rw [e1]; rfl

theorem reads_holds : Rows.RangesReadsSaid :=
  OpenClaim.holds_of_cond 5 Tryz.f5 rfl rfl rfl rfl rfl rfl rfl ⟨rfl, rfl, rfl, rfl, rfl⟩ rfl rfl rfl rfl rfl (by kernel_rfl) Tryz.func5 (by kernel_rfl)
    (of_decide_eq_true (by kernel_rfl)) (by unfold Func.isWrapper; rw [if_neg (of_decide_eq_false (by kernel_rfl))]; exact ⟨rfl, rfl⟩)
    (fun os started H enc _ F0 => by rw [OpenClaim.pre_eq_preRow]; exact reads_lifted os started H enc F0)

end Go.Proofs.YtmbjjheaddhmeaaGreatDoor
