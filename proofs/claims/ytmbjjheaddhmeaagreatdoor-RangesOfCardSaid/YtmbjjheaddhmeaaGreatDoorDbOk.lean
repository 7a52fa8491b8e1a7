/- The table that formatBits reads, as a condition on the world; Below, chained. -/
import Derived.Test.YtmbjjheaddhmeaaGreatDoorWorks
namespace Go.Proofs.YtmbjjheaddhmeaaGreatDoor
open Go.RowKit
def DbOk (w : World) : Prop := Db w ∧ 6 < w.heap.size
theorem DbOk.below {w w' : World} (hb : Below w.heap.size w w') (h : DbOk w) : DbOk w' := Db.below hb h.1 h.2
theorem below_snoc {w0 w w' : World} (h : Below w0.heap.size w0 w) (hb : Below w.heap.size w w') : Below w0.heap.size w0 w' := h.trans (hb.mono h.size)

/-- A set is returned. -/
def RetSet (w : World) (P : Int → Bool) (k : Nat) (e : Ending) (w' : World) : Prop := ∃ b, e = .returned (.pointer (some ⟨b, 0, none⟩)) ∧ Rep w' (.pointer (some ⟨b, 0, none⟩)) P k ∧ Below w.heap.size w w'
theorem retSet {w : World} {P : Int → Bool} {k : Nat} {e : Ending} {w' : World} (h : ∃ v, e = .returned v ∧ Rep w' v P k ∧ Below w.heap.size w w') : RetSet w P k e w' := by
  obtain ⟨v, rfl, hR, hB⟩ := h
  obtain ⟨b, rfl⟩ := hR.ptr
  exact ⟨b, rfl, hR, hB⟩
theorem join_ret {p q : Value} {P Q : Int → Bool} {k j : Nat} {w : World} (hp : Rep w p P k) (hq : Rep w q Q j) (hk : k + j ≤ 90000) : Calls Tryz.prog 18 #[p, q] w (RetSet w (fun r => P r || Q r) (k + j)) := (join_rep hp hq hk).mono fun _ _ => retSet
theorem both_ret {p q : Value} {P Q : Int → Bool} {k j : Nat} {w : World} (hp : Rep w p P k) (hq : Rep w q Q j) (hk : k + j ≤ 90000) : Calls Tryz.prog 20 #[p, q] w (RetSet w (fun r => P r && Q r) (k + j)) := (both_rep hp hq hk).mono fun _ _ => retSet
theorem less_ret {p q : Value} {P Q : Int → Bool} {k j : Nat} {w : World} (hp : Rep w p P k) (hq : Rep w q Q j) (hk : k + j ≤ 80000) : Calls Tryz.prog 22 #[p, q] w (RetSet w (fun r => P r && !Q r) (k + j + 1)) := (less_rep hp hq hk).mono fun _ _ => retSet
theorem not_ret {p : Value} {P : Int → Bool} {k : Nat} {w : World} (hp : Rep w p P k) (hk : k ≤ 90000) : Calls Tryz.prog 24 #[p] w (RetSet w (fun r => !P r) (k + 1)) := (not_rep hp hk).mono fun _ _ => retSet
end Go.Proofs.YtmbjjheaddhmeaaGreatDoor
