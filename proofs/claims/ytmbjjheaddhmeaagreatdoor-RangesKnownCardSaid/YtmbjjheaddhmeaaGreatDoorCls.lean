/- A region that draws its order, whose operations read and whose calls make memory: one walk in the order of the text, over the class of the worlds that meet a condition. -/
import Derived.Deep.QuietTactic
import Derived.BigQuiet
import Derived.Below
namespace Go.Proofs.YtmbjjheaddhmeaaGreatDoor
open Go Go.RowKit

/-- A world that meets S. -/
structure ClsW (S : World → Prop) where
  val : World
  ok : S val

theorem wp_region_cls {P : Program} (S : World → Prop) {id : Nat} {Q : Exit → Act → World → Prop} {a : Act} {w : World} {l : List Oper} (hm : P.follows .mixedOrders = true) (hB : Region.lexB .any l.toArray = true) (hS : S w.drew)
    (h : wpQuiet P l.toArray (fun w' => ∃ u : ClsW S, w' = u.val) (fun a' => ∀ w', (∃ u : ClsW S, w' = u.val) → Q .normal a' w') l a) : (Code.region id l.toArray true).wp P Q a w :=
  wp_region_quiet (C := fun w' => ∃ u : ClsW S, w' = u.val) hm hB ⟨⟨_, hS⟩, rfl⟩ (by simpa using h)

/-- A call that only makes memory, in a class that such a call keeps. -/
theorem cls_call {P : Program} {f : FuncId} {args : Array Value} {v : Value} {S : World → Prop} (hk : ∀ W W', S W → Below W.heap.size W W' → S W') {u : ClsW S}
    (h : Calls P f args u.val fun e w' => e = .returned v ∧ Below u.val.heap.size u.val w') : Calls P f args u.val fun e w'' => e = .returned v ∧ ∃ u' : ClsW S, w'' = u'.val :=
  h.mono fun _ w' ⟨he, hb⟩ => ⟨he, ⟨w', hk _ _ u.ok hb⟩, rfl⟩
/-- A call that leaves the world alone. -/
theorem cls_same {P : Program} {f : FuncId} {args : Array Value} {v : Value} {S : World → Prop} {u : ClsW S}
    (h : Calls P f args u.val fun e w' => e = .returned v ∧ w' = u.val) : Calls P f args u.val fun e w'' => e = .returned v ∧ ∃ u' : ClsW S, w'' = u'.val :=
  h.mono fun _ _ ⟨he, hw⟩ => ⟨he, u, hw⟩
/-- A piece that is shown not to panic: what stands behind a panic need not be asked. -/
theorem wp_calm {P : Program} {c : Code} {Q : Exit → Act → World → Prop} {a : Act} {w : World} (h : c.wp P (fun e a w => match e with | .panic _ => False | .normal => Q .normal a w | .ret => Q .ret a w | .exit i => Q (.exit i) a w | .goto i => Q (.goto i) a w | .outgrown => Q .outgrown a w) a w) : c.wp P Q a w :=
  wp_mono h fun e a w hq => by cases e <;> first | exact hq | exact hq.elim

/-- The class of the worlds in which what lay in W lies as it lay. -/
def AbW (W X : World) : Prop := Below W.heap.size W X
theorem AbW.keep {W : World} : ∀ X Y, AbW W X → Below X.heap.size X Y → AbW W Y := fun _ _ h hb => Below.trans h (hb.mono (Below.size h))
theorem AbW.there (W : World) : Nonempty (ClsW (AbW W)) := ⟨⟨W, Below.refl _ _⟩⟩
theorem AbW.drew (W : World) : AbW W W.drew := (Below.refl _ W).drew
theorem AbW.cell {W : World} {a : Addr} {v : Value} (h : W.cell? a = some v) : ∀ u : ClsW (AbW W), u.val.cell? a = some v := fun u => (Below.cell u.ok (p := a) (World.block_lt_of_cell? W a h)).trans h

end Go.Proofs.YtmbjjheaddhmeaaGreatDoor
