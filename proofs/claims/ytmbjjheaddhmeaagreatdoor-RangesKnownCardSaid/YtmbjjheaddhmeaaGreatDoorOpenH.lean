/- What a call is handed: the variable that holds a type's handle; a slice of runes; a witness world. -/
import Derived.Test.YtmbjjheaddhmeaaGreatDoorOpen
import Derived.Test.YtmbjjheaddhmeaaGreatDoorErr
import Derived.Test.YtmbjjheaddhmeaaGreatDoorRefFirst
import Derived.LaidSub
import Derived.LaidHandle
import Derived.ChangeSlices
namespace Go.Proofs.YtmbjjheaddhmeaaGreatDoor
open Go.ChangeShapes Go.WideShapes Go.ChangeAt Go.RowKit Go.Lib Go.Deep

theorem errT_of_handle {W : World} {hs : List (String × DataW Unit)} (h : handlesMet Tryz.prog hs W) (hm : ("errors.errorType", Rows.laid_errors_errorType) ∈ hs) : ErrT W := by
  obtain ⟨name, u, ty, h1, h2, h3, h4, h5⟩ := h _ hm
  have e1 : (Rows.laid_errors_errorType : DataW Unit).handleName? = some [101, 114, 114, 111, 114] := by kernel_rfl
  obtain rfl := Option.some.inj (e1.symm.trans h1)
  have e2 : (Tryz.prog.cutTypes.find? (·.1 == "internal/reflectlite.rtype")).map (·.2) = some 285 := by kernel_rfl
  obtain rfl := Option.some.inj (e2.symm.trans h2)
  have e3 : ((List.range Tryz.prog.types.size).all fun t => !(Tryz.prog.rowNamed t [101, 114, 114, 111, 114]) || t == 27) = true := by kernel_rfl
  have e4 := List.all_eq_true.1 e3 ty (List.mem_range.2 h3)
  rw [h4] at e4
  have e5 : ty = 27 := by simpa using e4
  subst e5
  have hg : Tryz.prog.globalNamed "errors.errorType" = some 0 := by kernel_rfl
  have := World.var?_cell hg h5 0
  exact this

set_option maxRecDepth 100000 in
theorem runes_of_trod {H : Type} {enc : TypeId × Value → H} {W : World} {r : Reach} {base : Nat} {v : Value} {d : DataW H} {p : List MemPlace} (hv : Value.okWide Tryz.prog W r base 23 v) (h : DataW.Trod enc Tryz.prog W 0 (fun _ => true) true 23 v d p) : ∃ l, Runes W v l ∧ ∀ x ∈ l, -2147483648 ≤ x ∧ x ≤ 2147483647 := by
  obtain ⟨a, len, cap, rfl⟩ := okWide_slice (P := Tryz.prog) (t := 23) (e := 21) Tryz.underlying23 hv
  obtain ⟨fuel, hd⟩ := h
  have hd' : DataW.trod enc Tryz.prog W 0 (fun _ => true) true fuel 23 [.slice a len cap] = some (d, p) := by simpa [Value.cells] using hd
  have c0 : Tryz.prog.cellsOf 21 = 1 := by kernel_rfl
  rcases open_ints Tryz.underlying23 Tryz.underlying21 c0 hd' with ⟨hcs, _⟩ | ⟨a', len', cap', zs, hcs, _, hl, _, hz, _, hall, hw⟩
  · cases hcs
    exact ⟨[], ⟨none, 0, rfl, .inl rfl⟩, fun x h => by cases h⟩
  · cases hcs
    obtain ⟨b, o, sp⟩ := a'
    have hz' : zs.length = cap := by simpa using hz
    have hwf : ∀ x ∈ zs, -2147483648 ≤ x ∧ x ≤ 2147483647 := fun x hx => by
      have h := hw x hx
      simp [Lit.wf, IntKind.min, IntKind.max, IntKind.signed, IntKind.bits] at h
      omega
    by_cases h0 : len = 0
    · subst h0; exact ⟨[], ⟨_, cap, rfl, .inl rfl⟩, fun x h => by cases h⟩
    · have e0 := hall 0 (by omega)
      have hsp : sp = none := by
        rw [show (⟨b, o, sp⟩ : Addr).add 0 = ⟨b, o, sp⟩ by cases sp <;> simp [Addr.add]] at e0
        exact cell_spot e0
      subst hsp
      have hlt : (zs.take len).length = len := by rw [List.length_take]; omega
      refine ⟨zs.take len, ⟨some ⟨b, o, none⟩, cap, by rw [hlt], .inr ⟨b, o, rfl, fun j hj => ?_⟩⟩, fun x hx => hwf x (List.mem_of_mem_take hx)⟩
      have hj' : j < len := by omega
      have := hall j (by omega)
      rw [add_lit] at this
      rw [this]
      simp [hj', show j < zs.length by omega, List.getD]

/-- THE WITNESS: the settled world, the listed variables holding what the program's text lays. -/
noncomputable def laidWorldH (os : Os) : World :=
  let w0 := World.holding Tryz.prog os ⟨#[], #[], []⟩
  let put (h : Array Obj) (g : Nat) (cs : Array Value) : Array Obj := h.modify g fun
    | .cells _ t frozen => .cells cs t frozen
    | o => o
  let h1 := put w0.heap 5 (([0, 1, 28, 2, 29, 14, 24, 3, 30, 22, 20, 15, 25, 17, 4, 8, 31, 27, 13, 23, 21, 19, 16, 7, 26, 12, 18, 6, 11, 5, 10, 9] : List Int).map fun z => Value.int .u8 z).toArray
  let h2 := put h1 6 (([0, 1, 56, 2, 57, 49, 28, 3, 61, 58, 42, 50, 38, 29, 17, 4, 62, 47, 59, 36, 45, 43, 51, 22, 53, 39, 33, 30, 24, 18, 12, 5, 63, 55, 48, 27, 60, 41, 37, 16, 46, 35, 44, 21, 52, 32, 23, 11, 54, 26, 40, 15, 34, 20, 31, 10, 25, 14, 19, 9, 13, 8, 7, 6] : List Int).map fun z => Value.int .u8 z).toArray
  let h3 := put h2 1 (([1, 10, 100, 1000, 10000, 100000, 1000000, 10000000, 100000000, 1000000000, 10000000000, 100000000000, 1000000000000, 10000000000000, 100000000000000, 1000000000000000, 10000000000000000, 100000000000000000, 1000000000000000000, 10000000000000000000] : List Int).map fun z => Value.int .u64 z).toArray
  let h3' := put h3 0 #[.iface 285 (.agg #[.pointer (some ⟨7, 27, none⟩)])]
  let h4 := put h3' 4 #[.iface 319 (.pointer (some ⟨h3.size, 0, none⟩))]
  let h5 := put h4 3 #[.iface 319 (.pointer (some ⟨h3.size + 1, 0, none⟩))]
  let h6 := (h5.push (.cells #[.string ⟨#[118, 97, 108, 117, 101, 32, 111, 117, 116, 32, 111, 102, 32, 114, 97, 110, 103, 101]⟩] 321 (0, 0))).push (.cells #[.string ⟨#[105, 110, 118, 97, 108, 105, 100, 32, 115, 121, 110, 116, 97, 120]⟩] 321 (0, 0))
  { w0 with heap := h6 }
end Go.Proofs.YtmbjjheaddhmeaaGreatDoor
