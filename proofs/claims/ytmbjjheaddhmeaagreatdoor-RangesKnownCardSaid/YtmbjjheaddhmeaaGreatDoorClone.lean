/- slices.Clone at spans; Spans. -/
import Derived.Test.YtmbjjheaddhmeaaGreatDoorM
import Derived.Lib.Hide
import Derived.Lib.SliceRun
namespace Go.Proofs.YtmbjjheaddhmeaaGreatDoor
open Go.RowKit

theorem Tryz.infoSpanC : (Tryz.prog.info? 39).map (fun i => (i.zero, i.size, i.bytes)) = some (some (.agg #[.int .i32 0, .int .i32 0]), 2, 8) := by kernel_rfl

theorem flat_one (l : List (Int × Int)) : ∀ u ∈ flat l, u.oneCell' = true := by
  intro u hu
  simp only [flat, List.mem_flatMap] at hu
  obtain ⟨x, _, hx⟩ := hu
  simp at hx
  rcases hx with rfl | rfl <;> rfl

/-- The cells of a slice that reads as spans, one behind the other. -/
theorem flat_cells {w : World} {l : List (Int × Int)} {b off : Nat}
    (h : ∀ j, j < l.length → w.cell? ⟨b, off + j * 2, none⟩ = some (.int .i32 (l[j]?.getD (0, 0)).1) ∧ w.cell? ⟨b, off + j * 2 + 1, none⟩ = some (.int .i32 (l[j]?.getD (0, 0)).2)) :
    ∀ j u, (flat l)[j]? = some u → w.cell? ⟨b, off + j, none⟩ = some u := by
  intro j u hu
  have hj : j < l.length * 2 := by
    have := (List.getElem?_eq_some_iff.1 hu).1
    rwa [flat_length] at this
  obtain ⟨k, hk⟩ : ∃ k, j = k * 2 ∨ j = k * 2 + 1 := ⟨j / 2, by omega⟩
  have hk' : k < l.length := by omega
  obtain ⟨g1, g2⟩ := flat_get l k hk'
  obtain ⟨c1, c2⟩ := h k hk'
  rcases hk with rfl | rfl
  · rw [g1] at hu; rw [c1, hu]
  · rw [g2] at hu; rw [← Nat.add_assoc, c2, hu]

set_option maxRecDepth 100000 in
set_option maxHeartbeats 2000000 in
theorem clone_any (v : Value) (l : List (Int × Int)) (w : World) (hv : Spans w v l) (hl : l.length ≤ 1000000) :
    Calls Tryz.prog 33 #[v] w fun e w' => ∃ v', e = .returned v' ∧ w'.ownsRow w.heap.size 39 2 v' l.length (flat l) ∧ Below w.heap.size w w' := by
  obtain ⟨i0, hi0, hz0, hz1, hz2⟩ := info_parts Tryz.infoSpanC
  have q22 : ∀ (w : World) (a : Option Addr) (n c n' c' : Nat), (binOp .eql 22 (.slice a n c) (.slice none n' c')).run Tryz.prog w = .ok (.bool a.isNone) w := fun w a n c n' c' => Lib.run_eql_slice_nil w _ _ a n c n' c' Tryz.underlying22
  obtain ⟨a, c, rfl, hA⟩ := hv
  cases a with
  | none =>
    obtain rfl : l = [] := by rcases hA with h | ⟨b, off, h, _⟩; · exact h
                              · cases h
    clear hA
    go_enter Tryz.func33, Tryz.ntmps33
    go_wp2
    go_ret
    exact ⟨_, rfl, World.ownsRow_nil _ _ _ _, Below.refl _ _⟩
  | some ad =>
    have hc : ∀ j u, (flat l)[j]? = some u → w.cell? (ad.add j) = some u := by
      rcases hA with h | ⟨b, off, h, hA⟩
      · subst h; intro j u h; simp [flat] at h
      · cases h
        intro j u hu
        rw [add_lit]
        exact flat_cells hA j u hu
    have A := Lib.hid hc
    clear hA hc
    go_enter Tryz.func33, Tryz.ntmps33
    go_wp2_with (at_builtin; refine wpList_append_own _ rfl _ _ 22 rfl w.heap.size 39 i0 (.agg #[.int .i32 0, .int .i32 0]) 2 8 Tryz.underlying22 hi0 hz0 hz1 hz2 rfl (by decide) _ _ _ rfl (World.ownsRow_made w #[] 0 (Nat.le_refl _) (Nat.zero_le _) (by simp)) ad l.length c (flat l) rfl ?qc1 ?qc2 ?qc3 ?qc4 ?qc5 ?qc6 ?_)
    case qc1 => exact flat_length l
    case qc2 =>
      intro j u hj
      exact ((Below.refl w.heap.size w).alloc (Nat.le_refl _) _).cell (cell_lt (A.out j u hj)) |>.trans (A.out j u hj)
    case qc3 => exact flat_one l
    case qc4 => rw [Nat.zero_add]; unfold maxLen; omega
    case qc5 => rw [Nat.zero_add]; omega
    case qc6 => simp
    intro v' w1 hown hgrow hnil
    go_wp2
    go_ret
    refine ⟨v', rfl, by simpa using hown, ?_⟩
    exact ((Below.refl _ w).alloc (Nat.le_refl _) _).grown hgrow (by simp) (by intro k hk; simp [Value.ownBlock] at hk; omega)

set_option maxRecDepth 100000 in
set_option maxHeartbeats 400000 in
theorem spans_any (p : Value) (l : List (Int × Int)) (w : World) (hp : IsSet w p l) (hl : l.length ≤ 1000000) :
    Calls Tryz.prog 15 #[p] w fun e w' => ∃ v', e = .returned v' ∧ w'.ownsRow w.heap.size 39 2 v' l.length (flat l) ∧ Below w.heap.size w w' := by
  obtain ⟨pb, v, rfl, hc, hv⟩ := hp
  have hcl := clone_any v l w hv hl
  clear hv
  go_enter Tryz.func15, Tryz.ntmps15
  go_wp2_with (go_at_call 33; refine hcl.mono ?_; rintro e w1 ⟨v', rfl, ho, hb⟩)
  go_ret
  exact ⟨v', rfl, ho, hb⟩

end Go.Proofs.YtmbjjheaddhmeaaGreatDoor
