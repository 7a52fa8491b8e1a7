/- What a call is handed: a slice of spans; the laid tables. -/
import Derived.Test.YtmbjjheaddhmeaaGreatDoorRows
import Derived.Test.YtmbjjheaddhmeaaGreatDoorM
import Derived.Test.YtmbjjheaddhmeaaGreatDoorFmt
import Derived.Lib.LaidIn
import Derived.Lib.LaidU8
import Derived.Lib.LaidTab
import Derived.Deep.SlicePairs
import Derived.Deep.DeepHandedRow
import Derived.Deep.DeepWitnessRowRef
import Derived.ProofKit
import Derived.SizedLaws
import Derived.Carry
namespace Go.Proofs.YtmbjjheaddhmeaaGreatDoor
theorem Tryz.laid1 : (List.range Tryz.prog.types.size).all (rowFine Tryz.prog) = true := by kernel_rfl
theorem Tryz.laid2 : Tryz.prog.globals.all (fun g => decide (g.type < Tryz.prog.types.size)) = true := by kernel_rfl
theorem Tryz.laid3 : Tryz.prog.funcs.all (fun f => f.params.all fun t => decide (t < Tryz.prog.types.size)) = true := by kernel_rfl
theorem Tryz.laidOut : laidOutB Tryz.prog = true := by unfold laidOutB; rw [Tryz.laid1, Tryz.laid2, Tryz.laid3]; rfl
open Go.ChangeShapes Go.WideShapes Go.ChangeAt Go.RowKit Go.Lib Go.Deep

theorem Tryz.own : ownKnob Tryz.prog.godebug = none := by kernel_rfl
set_option maxRecDepth 100000 in
theorem spans_of_trod {H : Type} {enc : TypeId × Value → H} {W : World} {r : Reach} {base : Nat} {v : Value} {d : DataW H} {p : List MemPlace} (hv : Value.okWide Tryz.prog W r base 22 v) (h : DataW.Trod enc Tryz.prog W 0 (fun _ => true) true 22 v d p) : ∃ l, Spans W v l := by
  obtain ⟨a, len, cap, rfl⟩ := okWide_slice (P := Tryz.prog) (t := 22) (e := 39) Tryz.underlying22 hv
  obtain ⟨fuel, hd⟩ := h
  have hd' : DataW.trod enc Tryz.prog W 0 (fun _ => true) true fuel 22 [.slice a len cap] = some (d, p) := by simpa [Value.cells] using hd
  have he : Tryz.prog.underlying 39 = some (.struct #[{ name := "Lo", type := 21, offset := 0, embedded := false, tag := "", pkgPath := "", byteOffset := 0 }, { name := "Hi", type := 21, offset := 1, embedded := false, tag := "", pkgPath := "", byteOffset := 4 }]) := by kernel_rfl
  have c0 : Tryz.prog.cellsOf 21 = 1 := by kernel_rfl
  have c2 : Tryz.prog.cellsOf 39 = 2 := by kernel_rfl
  rcases open_slice_pairs Tryz.underlying22 he c2 rfl rfl c0 c0 hd' with ⟨hcs, _⟩ | ⟨a', len', cap', m, n, V0, V1, D0, D1, P0, P1, hcs, _, hl, _, hm, _, hall⟩
  · cases hcs
    exact ⟨[], none, 0, rfl, .inl rfl⟩
  · cases hcs
    obtain ⟨b, o, sp⟩ := a'
    have hm' : m = cap := by simpa using hm
    by_cases h0 : len = 0
    · subst h0; exact ⟨[], _, cap, rfl, .inl rfl⟩
    · have e0 := (hall 0 (by omega)).1
      have hsp : sp = none := by
        rw [show (⟨b, o, sp⟩ : Addr).add (0 * 2) = ⟨b, o, sp⟩ by cases sp <;> simp [Addr.add]] at e0
        exact cell_spot e0
      subst hsp
      have hI : ∀ i, ∃ x : Int × Int, i < len → V0 i = .int .i32 x.1 ∧ V1 i = .int .i32 x.2 := fun i => by
        by_cases hi : i < len
        · obtain ⟨_, _, g0, g1⟩ := hall i (by omega)
          obtain ⟨n0, e0, _⟩ := DataW.trod_int Tryz.underlying21 g0
          obtain ⟨n1, e1, _⟩ := DataW.trod_int Tryz.underlying21 g1
          simp only [List.cons.injEq, and_true] at e0 e1
          exact ⟨(n0, n1), fun _ => ⟨e0, e1⟩⟩
        · exact ⟨(0, 0), fun h => absurd h hi⟩
      obtain ⟨X, hX⟩ := Classical.axiomOfChoice hI
      refine ⟨(List.range len).map X, some ⟨b, o, none⟩, cap, by simp, .inr ⟨b, o, rfl, fun j hj => ?_⟩⟩
      have hj' : j < len := by simpa using hj
      obtain ⟨c0, c1, _⟩ := hall j (by omega)
      obtain ⟨v0, v1⟩ := hX j hj'
      rw [add_lit] at c0 c1
      rw [v0] at c0; rw [v1] at c1
      simpa [hj', Nat.add_assoc] using And.intro c0 c1

/-- The table that formatBits reads. -/
theorem db_of_reads {W : World} (h : VarReads Tryz.prog W "math/bits.deBruijn64tab" Rows.laid_math_bits_deBruijn64tab) : Db W := by
  obtain ⟨g, t, cs, fuel, p, hg, ht, hvar, hd⟩ := h
  obtain rfl := Option.some.inj ((show Tryz.prog.globalNamed "math/bits.deBruijn64tab" = some 6 by kernel_rfl).symm.trans hg)
  obtain rfl := Option.some.inj ((show (Tryz.prog.globals[6]?).map (·.type) = some 323 by kernel_rfl).symm.trans ht)
  have h1 : Tryz.prog.underlying 323 = some (.array 64 5) := by kernel_rfl
  have h2 : Tryz.prog.underlying 5 = some (.int .u8) := by kernel_rfl
  have h3 : Tryz.prog.cellsOf 5 = 1 := by kernel_rfl
  have h4 : Tryz.prog.cellsOf 323 = 64 := by kernel_rfl
  have e := cells_of_tab (k := .u8) (zs := [0, 1, 56, 2, 57, 49, 28, 3, 61, 58, 42, 50, 38, 29, 17, 4, 62, 47, 59, 36, 45, 43, 51, 22, 53, 39, 33, 30, 24, 18, 12, 5, 63, 55, 48, 27, 60, 41, 37, 16, 46, 35, 44, 21, 52, 32, 23, 11, 54, 26, 40, 15, 34, 20, 31, 10, 25, 14, 19, 9, 13, 8, 7, 6]) h1 h2 h3 h4 hd
  have := World.var?_cell hg hvar 15
  rw [← Array.getElem?_toList, e] at this
  exact this

end Go.Proofs.YtmbjjheaddhmeaaGreatDoor
