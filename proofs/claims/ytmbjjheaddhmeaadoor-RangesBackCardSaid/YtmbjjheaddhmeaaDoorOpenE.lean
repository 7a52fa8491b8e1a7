/- What a call is handed: the variables that hold errors; a witness world. -/
import Derived.Test.YtmbjjheaddhmeaaDoorOpen
import Derived.Test.YtmbjjheaddhmeaaDoorSpan
namespace Go.Proofs.YtmbjjheaddhmeaaDoor
open Go.ChangeShapes Go.WideShapes Go.ChangeAt Go.RowKit Go.Lib Go.Deep

set_option maxRecDepth 100000 in
theorem errVar_of {W : World} {n : String} {name : String} {d : DataW Unit} {g : Nat} (h : VarReads Tryd.prog W n (.iface name d)) (hg0 : Tryd.prog.globalNamed n = some g) (ht0 : (Tryd.prog.globals[g]?).map (·.type) = some 33) : ErrVar W g := by
  obtain ⟨g', t, cs, fuel, p, hg, ht, hvar, hd⟩ := h
  obtain rfl := Option.some.inj (hg0.symm.trans hg)
  obtain rfl := Option.some.inj (ht0.symm.trans ht)
  have hcell := World.var?_cell hg hvar 0
  rw [← Array.getElem?_toList] at hcell
  have hu := Tryd.underlying33
  cases fuel with
  | zero => simp [DataW.trod] at hd
  | succ fuel =>
    unfold DataW.trod at hd
    rw [hu] at hd
    generalize cs.toList = l at hd hcell
    match l, hd with
    | [.nilIface], hd => simp at hd
    | [.iface u v], _ => exact ⟨_, by simpa using hcell, .inr ⟨u, v, rfl⟩⟩
theorem errSyntax_of {W : World} (h : VarReads Tryd.prog W "strconv.ErrSyntax" Rows.laid_strconv_ErrSyntax) : ErrVar W 2 := errVar_of h (by kernel_rfl) (by kernel_rfl)
theorem errRange_of {W : World} (h : VarReads Tryd.prog W "strconv.ErrRange" Rows.laid_strconv_ErrRange) : ErrVar W 3 := errVar_of h (by kernel_rfl) (by kernel_rfl)

/-- THE WITNESS: the settled world, the listed variables holding what the program's text lays. -/
noncomputable def laidWorldE (os : Os) : World :=
  let w0 := World.holding Tryd.prog os ⟨#[], #[], []⟩
  let put (h : Array Obj) (g : Nat) (cs : Array Value) : Array Obj := h.modify g fun
    | .cells _ t frozen => .cells cs t frozen
    | o => o
  let h1 := put w0.heap 4 (([0, 1, 28, 2, 29, 14, 24, 3, 30, 22, 20, 15, 25, 17, 4, 8, 31, 27, 13, 23, 21, 19, 16, 7, 26, 12, 18, 6, 11, 5, 10, 9] : List Int).map fun z => Value.int .u8 z).toArray
  let h2 := put h1 5 (([0, 1, 56, 2, 57, 49, 28, 3, 61, 58, 42, 50, 38, 29, 17, 4, 62, 47, 59, 36, 45, 43, 51, 22, 53, 39, 33, 30, 24, 18, 12, 5, 63, 55, 48, 27, 60, 41, 37, 16, 46, 35, 44, 21, 52, 32, 23, 11, 54, 26, 40, 15, 34, 20, 31, 10, 25, 14, 19, 9, 13, 8, 7, 6] : List Int).map fun z => Value.int .u8 z).toArray
  let h3 := put h2 0 (([1, 10, 100, 1000, 10000, 100000, 1000000, 10000000, 100000000, 1000000000, 10000000000, 100000000000, 1000000000000, 10000000000000, 100000000000000, 1000000000000000, 10000000000000000, 100000000000000000, 1000000000000000000, 10000000000000000000] : List Int).map fun z => Value.int .u64 z).toArray
  let h4 := put h3 3 #[.iface 130 (.pointer (some ⟨h3.size, 0, none⟩))]
  let h5 := put h4 2 #[.iface 130 (.pointer (some ⟨h3.size + 1, 0, none⟩))]
  let h6 := (h5.push (.cells #[.string ⟨#[118, 97, 108, 117, 101, 32, 111, 117, 116, 32, 111, 102, 32, 114, 97, 110, 103, 101]⟩] 132 (0, 0))).push (.cells #[.string ⟨#[105, 110, 118, 97, 108, 105, 100, 32, 115, 121, 110, 116, 97, 120]⟩] 132 (0, 0))
  { w0 with heap := h6 }

end Go.Proofs.YtmbjjheaddhmeaaDoor
