/- slices.SortFunc at spans, with tidy's closure. -/
import Derived.Test.YtmbjjheaddhmeaaGreatDoorM
import Derived.Test.YtmbjjheaddhmeaaGreatDoorNot
import Derived.Test.YtmbjjheaddhmeaaGreatDoorSh
import Derived.Shelf.SlSortCmp.NoneTotal
import Derived.Lib.Hide
namespace Go.Proofs.YtmbjjheaddhmeaaGreatDoor
open Go.RowKit Go.Shelf Go.Sort

/-- A span whose beginning is among the points' numbers. -/
def Sp : Type := { x : Int × Int // 0 ≤ x.1 ∧ x.1 ≤ 1114367 }
instance spInhabited : Inhabited Sp := ⟨⟨(0, 0), by decide⟩⟩
def encSp (x : Sp) : List Value := [.int .i32 x.1.1, .int .i32 x.1.2]
def cfSp (x y : Sp) : Int := x.1.1 - y.1.1

theorem ltSp (x y : Sp) : ltOf cfSp x y = decide (x.1.1 < y.1.1) := by
  unfold ltOf cfSp
  by_cases h : x.1.1 < y.1.1 <;> simp [h] <;> omega

theorem swoSp : SWO (ltOf cfSp) where
  irrefl x := by rw [ltSp]; simp
  trans x y z h1 h2 := by rw [ltSp] at *; simp at *; omega
  ntrans x y z h1 h2 := by rw [ltSp] at *; simp at *; omega

theorem cmpLaysSp (blk off size : Nat) (w : World) : CmpLays Tryz.prog 84 #[] encSp 2 cfSp blk off size w := fun m os dk _ x y => by
  obtain ⟨⟨a, b⟩, h1, h2⟩ := x
  obtain ⟨⟨c, d⟩, h3, h4⟩ := y
  refine (tidyCmp_any a b c d h1 h2 h3 h4 _).mono ?_
  rintro e w' ⟨rfl, rfl⟩
  exact ⟨rfl, 0, _, by rw [alloc_eq_grow, alloc_eq_grow, grow_grow]; rfl⟩

def vals (d : Array Sp) : List (Int × Int) := d.toList.map (·.1)
theorem vals_length (d : Array Sp) : (vals d).length = d.size := by simp [vals]
theorem vals_mk : ∀ l : List (Int × Int), Bd l → ∃ d : Array Sp, vals d = l
  | [], _ => ⟨#[], rfl⟩
  | x :: l, h => by
    obtain ⟨d, hd⟩ := vals_mk l (fun y hy => h y (List.mem_cons_of_mem _ hy))
    have hx := h x List.mem_cons_self
    exact ⟨((⟨x, hx.1, hx.2.1⟩ : Sp) :: d.toList).toArray, by show x :: vals d = _; rw [hd]⟩
theorem flatK_vals (d : Array Sp) : (flatK encSp 2 d).toList = flat (vals d) := by
  apply List.ext_getElem
  · simp [flat_length, vals]
  · intro t h1 h2
    have ht : t < d.size * 2 := by simpa using h1
    obtain ⟨k, hk⟩ : ∃ k, t = k * 2 ∨ t = k * 2 + 1 := ⟨t / 2, by omega⟩
    have hk' : k < (vals d).length := by rw [vals_length]; omega
    have hk2 : k < d.size := by rw [vals_length] at hk'; exact hk'
    obtain ⟨g1, g2⟩ := flat_get (vals d) k hk'
    have e0 : (vals d)[k]?.getD (0, 0) = (d[k]!).1 := by simp [vals, hk2]
    rw [e0] at g1 g2
    have f0 := get_flatK encSp 2 d t ht
    rw [getElem!_pos _ t (by simpa using ht)] at f0
    rw [Array.getElem_toList, f0]
    rcases hk with rfl | rfl
    · rw [List.getElem?_eq_getElem h2] at g1
      rw [Option.some.inj g1, show k * 2 / 2 = k by omega, show k * 2 % 2 = 0 by omega]; rfl
    · rw [List.getElem?_eq_getElem h2] at g2
      rw [Option.some.inj g2, show (k * 2 + 1) / 2 = k by omega, show (k * 2 + 1) % 2 = 1 by omega]; rfl

theorem holds_of_owns {w : World} {base g cap : Nat} {e : TypeId} {d : Array Sp} (h : w.ownsRow base e 2 (.slice (some ⟨g, 0, none⟩) d.size cap) d.size (flat (vals d))) : HoldsK encSp 2 w g 0 d := by
  intro j hj
  have hj' : j < d.size * 2 := by simpa using hj
  refine ⟨?_, World.ownsRow.frozenAt h _⟩
  rw [Nat.zero_add, World.ownsRow.cellAt h j hj', ← flatK_vals]
  rw [Array.getElem?_toList, getElem!_pos _ j (by simpa using hj)]
  simp [hj]

theorem owns_sorted {w : World} {base g cap : Nat} {e : TypeId} {d d' : Array Sp} (hs : d'.size = d.size) (m : Nat) (os : Array Obj)
    (h : w.ownsRow base e 2 (.slice (some ⟨g, 0, none⟩) d.size cap) d.size (flat (vals d))) :
    (sortWorldK encSp 2 w g 0 m d' os).ownsRow base e 2 (.slice (some ⟨g, 0, none⟩) d.size cap) d.size (flat (vals d')) := by
  obtain ⟨h0, h1⟩ := h
  refine ⟨by rw [flat_length, vals_length, hs], ?_⟩
  rcases h1 with ⟨h1, _⟩ | ⟨g', cap', cur, hv, hg, hh, h2, h3, h4, h5⟩
  · cases h1
  · cases hv
    refine .inr ⟨g, cap, putCells id 0 (flatK encSp 2 d') cur, rfl, hg, ?_, h2, h3, by simp [putCells, h4], ?_⟩
    · have hlt := (Array.getElem?_eq_some_iff.1 hh).1
      show ((Sort.ahead w m).heap.modify g (onCells (putCells id 0 (flatK encSp 2 d'))) ++ os)[g]? = _
      rw [Array.getElem?_append_left (by simpa [Sort.ahead] using hlt), Array.getElem?_modify, if_pos rfl]
      show (w.heap[g]?).map _ = _
      rw [hh]; rfl
    · apply List.ext_getElem
      · simp [putCells, h4, flat_length, vals_length, hs]; omega
      · intro t t1 t2
        rw [flat_length, vals_length, hs] at t2
        have := flatK_vals d'
        simp only [List.getElem_take, Array.getElem_toList, putCells, Array.getElem_mapIdx, Nat.zero_le, true_and, Nat.zero_add, size_flatK, hs, t2, if_true, id, Nat.sub_zero]
        rw [getElem!_pos _ t (by simp [hs]; omega), ← Array.getElem_toList]
        simp only [this]

theorem below_sorted {w : World} {base g : Nat} {d' : Array Sp} (hg : base ≤ g) (m : Nat) (os : Array Obj) (hb : base ≤ w.heap.size) : Below base w (sortWorldK encSp 2 w g 0 m d' os) := by
  refine ⟨rfl, rfl, rfl, ?_, fun k hk => ?_⟩
  · show w.heap.size ≤ ((Sort.ahead w m).heap.modify g _ ++ os).size
    simp [Sort.ahead]
  · show ((Sort.ahead w m).heap.modify g (onCells _) ++ os)[k]? = _
    rw [Array.getElem?_append_left (by simp [Sort.ahead]; omega), Array.getElem?_modify, if_neg (by omega)]
    rfl

theorem sort_any (v : Value) (l : List (Int × Int)) (base : Nat) (w : World) (hbd : Bd l) (hown : w.ownsRow base 39 2 v l.length (flat l)) (hb : base ≤ w.heap.size) (hl : l.length ≤ 1000000) :
    Calls Tryz.prog 83 #[v, .func (.func 84) #[] #[]] w fun e w' => e = .returned (.tuple #[]) ∧ ∃ l' : List (Int × Int), l'.Perm l ∧ l'.Pairwise (fun a b => a.1 ≤ b.1) ∧ w'.ownsRow base 39 2 v l'.length (flat l') ∧ Below base w w' := by
  by_cases h0 : l.length = 0
  · obtain rfl : l = [] := List.eq_nil_of_length_eq_zero h0
    obtain ⟨a, c, rfl⟩ : ∃ a c, v = .slice a 0 c := by
      rcases hown.2 with ⟨rfl, _⟩ | ⟨g, cap, cur, rfl, _⟩
      · exact ⟨_, _, rfl⟩
      · exact ⟨_, _, rfl⟩
    refine Calls.mono (AnyF.slices_SortFunc_none Tryz.laySort a c _ w) ?_
    rintro e w' ⟨rfl, rfl⟩
    exact ⟨rfl, [], .refl _, .nil, hown, Below.refl _ _⟩
  · obtain ⟨g, cap, rfl, hg, hgl⟩ := World.ownsRow.form hown (by omega)
    obtain ⟨d, hd⟩ := vals_mk l hbd
    subst hd
    rw [vals_length] at hown hl h0 ⊢
    have eg : ∀ args w, (callFunc 84 args).run Tryz.prog w = .ok (.enter 84 args) w := enters_of Tryz.func84 (by kernel_rfl) rfl
    have hcon := AnyQ.slices_SortFunc Tryz.laySort 2 Tryz.isAgg39 Tryz.sizeOf39 encSp (fun _ => rfl) (fun x v hv => by simp [encSp] at hv; rcases hv with rfl | rfl <;> rfl) cfSp swoSp 84 #[] g 0 cap d w eg (cmpLaysSp g 0 d.size w) (holds_of_owns hown) hgl (by omega)
    refine Calls.mono hcon ?_
    rintro e w' ⟨rfl, d', n, os, hp, hs, rfl⟩
    have hsz : d'.size = d.size := hp.1
    refine ⟨rfl, vals d', ?_, ?_, ?_, below_sorted hg n os hb⟩
    · have := hp.2.2
      rw [← hsz, Array.extract_size] at this
      rw [hsz, Array.extract_size] at this
      exact this.map _
    · rw [List.pairwise_iff_getElem]
      intro i j hi hj hij
      rw [vals_length] at hi hj
      have := hs i j (Nat.zero_le _) hij (by omega)
      rw [ltSp, getElem!_pos d' i hi, getElem!_pos d' j hj] at this
      simp at this
      simpa [vals] using this
    · rw [vals_length, hsz]
      exact owns_sorted hsz n os hown

end Go.Proofs.YtmbjjheaddhmeaaGreatDoor
