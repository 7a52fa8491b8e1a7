/- (*Set).Count. A range over a function whose iterator itself ranges over a function: a law that the kit lacks. The iterator's contract asks more of what it keeps for the caller: that it abides every turn of what is no cells, from a block on. (*Set).All: all points of a set, in their order. -/
import Derived.Test.YtmbjjheaddhmeaaGreatDoorVals
import Derived.Test.YtmbjjheaddhmeaaGreatDoorNot
import Derived.RangeFuncNested
import Derived.RangeFuncBound
import Derived.RangeFuncCalls
import Derived.RangeFuncLeaves
import Derived.Below
namespace Go.Proofs.YtmbjjheaddhmeaaGreatDoor
open Go.RowKit Go.Shelf
attribute [local go_sem] Oper.semAt_some

/-- A span whose ends lie among the points' numbers. -/
abbrev BSp : Type := { x : Int × Int // 0 ≤ x.1 ∧ x.1 ≤ 1114367 ∧ 0 ≤ x.2 ∧ x.2 ≤ 1114367 }
def bval (x : BSp) : Int × Int := x.1
theorem bsp_mk : ∀ l : List (Int × Int), Bd l → ∃ zs : List BSp, zs.map bval = l
  | [], _ => ⟨[], rfl⟩
  | x :: l, h => by
    obtain ⟨zs, hz⟩ := bsp_mk l (fun y hy => h y (List.mem_cons_of_mem _ hy))
    exact ⟨(⟨x, h x List.mem_cons_self⟩ : BSp) :: zs, by show x :: zs.map bval = _; rw [hz]⟩

def countF (l : List (Int × Int)) : Int := l.foldl (fun s x => s + (numP x.2 - numP x.1 + 1)) 0
theorem countF_snoc (l : List (Int × Int)) (x : Int × Int) : countF (l ++ [x]) = countF l + (numP x.2 - numP x.1 + 1) := by simp [countF]
theorem numP_bd {r : Int} (h : 0 ≤ r ∧ r ≤ 1114367) : -2000 ≤ numP r ∧ numP r ≤ 1114367 := by unfold numP; split <;> (try split) <;> omega
theorem countF_bd (zs : List BSp) : -2000000 * (zs.length : Int) ≤ countF (zs.map bval) ∧ countF (zs.map bval) ≤ 2000000 * (zs.length : Int) := by
  obtain ⟨m, hm⟩ : ∃ m, zs.length = m := ⟨_, rfl⟩
  induction m generalizing zs with
  | zero => obtain rfl := List.eq_nil_of_length_eq_zero hm; simp [countF]
  | succ m ih =>
    obtain ⟨ys, y, rfl⟩ : ∃ ys y, zs = ys ++ [y] := by
      rcases List.eq_nil_or_concat zs with rfl | ⟨ys, y, rfl⟩
      · simp at hm
      · exact ⟨ys, y, by simp⟩
    have := ih ys (by simpa using hm)
    obtain ⟨h1, h2, h3, h4⟩ := y.2
    have e1 := numP_bd ⟨h1, h2⟩
    have e2 := numP_bd ⟨h3, h4⟩
    rw [List.map_append, List.map_singleton, countF_snoc]
    simp only [bval, List.length_append, List.length_singleton, Int.natCast_add, Int.natCast_one] at *
    omega

set_option maxRecDepth 100000 in
set_option maxHeartbeats 4000000 in
theorem count_walk (pb : Nat) (v : Value) (zs : List BSp) (w : World) (hc : w.cell? ⟨pb, 0, none⟩ = some v) (hI : Spans w v (zs.map bval)) (hl : zs.length ≤ 1000000) :
    Calls Tryz.prog 38 #[.pointer (some ⟨pb, 0, none⟩)] w fun e w' => e = .returned (.int .i64 (countF (zs.map bval))) ∧ Below w.heap.size w w' := by
  have hvs : ∃ a n c, v = .slice a n c := by obtain ⟨a, c, rfl, _⟩ := hI; exact ⟨_, _, _, rfl⟩
  have HI := Lib.hid hI
  have y1 : pb < w.heap.size := cell_lt hc
  refine (callsIn_wide (n := 4)).1 ?_
  have hro : Fence.wide.round = none := rfl
  have f5 : Fence.wide.fn 88 := trivial
  have f6 : Fence.wide.fn 132 := trivial
  have f7 : Fence.wide.fn 157 := trivial
  have h1 : 1 ≤ 4 := by omega
  clear hI
  refine callsIn_of_wp_marks Tryz.func38 rfl trivial ?_ hro
  simp only [Tryz.ntmps38, List.size_toArray, List.length_cons, List.length_nil, Nat.reduceAdd, Nat.reduceSub, Array.replicate_succ, Array.replicate_zero, List.push_toArray, List.append_toArray, List.nil_append, List.cons_append]
  have hc' : (w.alloc (.cells #[.int .i64 0] 3)).cell? ⟨pb, 0, none⟩ = some v := ((Below.refl w.heap.size w).alloc (Nat.le_refl _) _).cell (p := ⟨pb, 0, none⟩) y1 |>.trans hc
  gi_wp2_with (gi_at_call 88; refine (rows_in Fence.wide (4 - 1) f5 f6 hro (by omega) pb v hvs _ hc').mono ?_; rintro e w' ⟨rfl, rfl⟩)
  have hB0 : Below w.heap.size w ((w.alloc (.cells #[.int .i64 0] 3)).alloc (.cells #[v] 22)) := ((Below.refl _ w).alloc (Nat.le_refl _) _).alloc (by simp) _
  have bN := Boxed.new (w.alloc (.cells #[.int .i64 0] 3)) 22 v
  rw [World.size_alloc] at bN
  have bS := (Boxed.new w 3 (.int .i64 0)).alloc (.cells #[v] 22)
  refine wpIn_rangeFunc_ownH hro h1 (gf := 157) (lb := #[.pointer (some ⟨w.heap.size + 1, 0, none⟩)]) rfl f7 (enters_of Tryz.func157 (by kernel_rfl) rfl)
    (values_stops bval Fence.wide (4 - 1) f7 hro (by omega) (w.heap.size + 1) w.heap.size v zs hl _ (by simp) (by simp; omega) bN.cell w (Nat.le_refl _) HI.out hB0) belowK_t (belowK_b (by simp; omega)) (Below.refl _ _) (fun _ => rfl)
    (fun pre W => (W.cell? ⟨w.heap.size, 0, none⟩ = some (.int .i64 (countF (pre.map bval))) ∧ W.frozen? ⟨w.heap.size, 0, none⟩ = false) ∧ Below w.heap.size w W)
    (fun _ _ _ => False)
    (OwnFrom.and (Own.from (fun s A B row hs hg hr => ⟨cell_kept hs.1 hg hr, (frozen_kept hs.1 hg hr).trans hs.2⟩) _) (ownFrom_below (Nat.le_refl _) (by simp; omega)))
    (fun _ _ _ _ _ hs _ _ => hs)
    ⟨⟨bS.cell, bS.frozen⟩, hB0⟩
    (fun x a' W => ∃ Bx : Nat, (w.heap.size < Bx ∧ Bx < W.heap.size) ∧ W.cell? ⟨Bx, 0, none⟩ = some (.int .i32 x.1.1) ∧ W.cell? ⟨Bx, 1, none⟩ = some (.int .i32 x.1.2) ∧
      a' = { tmps := #[.pointer (some ⟨pb, 0, none⟩), undef, .int .i64 0, .pointer (some ⟨w.heap.size, 0, none⟩), .pointer (some ⟨Bx, 0, none⟩), .pointer (some ⟨pb, 0, none⟩), .func (.func 157) #[] #[.pointer (some ⟨w.heap.size + 1, 0, none⟩)], .agg #[.int .i32 x.1.1, .int .i32 x.1.2], undef, undef, undef, undef, undef, undef, undef, undef, undef, undef, undef], defers := [] })
    (fun x a' s A B row hs hg hr => by
      obtain ⟨Bx, h1, h2, h3, h4⟩ := hs
      exact ⟨Bx, ⟨h1.1, Nat.lt_of_lt_of_le h1.2 hg.size⟩, cell_kept h2 hg (fun r e => (hr r e).2), cell_kept h3 hg (fun r e => (hr r e).2), h4⟩) ?assign ?body ?done ?stop
  case assign =>
    rintro l pre x W K ⟨⟨hc1, hf1⟩, hB⟩ hK
    have hsx : spV (bval x) = .agg #[.int .i32 x.1.1, .int .i32 x.1.2] := rfl
    gi_wp2
    have hsz := hB.size
    have hlt : w.heap.size < W.heap.size := cell_lt hc1
    have BA := (Below.refl W.heap.size W).alloc (Nat.le_refl _) (.cells #[.int .i32 x.1.1, .int .i32 x.1.2] 39)
    refine hK _ _ ((KeepsOthers.alloc _ _).from _) ((Below.refl _ W).alloc hB.size (.cells #[.int .i32 x.1.1, .int .i32 x.1.2] 39)) ⟨⟨(BA.cell (p := ⟨w.heap.size, 0, none⟩) hlt).trans hc1, (BA.frozen (p := ⟨w.heap.size, 0, none⟩) hlt).trans hf1⟩, hB.trans (BA.mono hsz)⟩ ⟨W.heap.size, ⟨hlt, by simp⟩, by simp, by simp, rfl⟩
  case body =>
    rintro l pre x a' W hl ⟨r, hr⟩ ⟨⟨hc1, hf1⟩, hB⟩ ⟨Bx, hBx, d1, d2, rfl⟩ hlt
    have hx := x.2
    have hcs := countF_bd pre
    have HCN := Lib.hid (countF_snoc (pre.map bval) (bval x))
    have hmix : Tryz.prog.follows Departure.mixedOrders = true := by kernel_rfl
    have e1 := numP_bd ⟨hx.2.2.1, hx.2.2.2⟩
    have e2 := numP_bd ⟨hx.1, hx.2.1⟩
    have e0 : (bval x) = x.1 := rfl
    rw [e0] at HCN
    clear e0
    generalize countF (pre.map bval) = C at *
    have q1 : IntKind.i64.wrap (numP x.1.2 - numP x.1.1) = numP x.1.2 - numP x.1.1 := IntWalk.i64_in _ (by omega)
    have q2 : IntKind.i64.wrap (numP x.1.2 - numP x.1.1 + 1) = numP x.1.2 - numP x.1.1 + 1 := IntWalk.i64_in _ (by omega)
    have q3 : IntKind.i64.wrap (C + (numP x.1.2 - numP x.1.1 + 1)) = C + (numP x.1.2 - numP x.1.1 + 1) := IntWalk.i64_in _ (by omega)
    have Q1 := Lib.hid q1
    have Q2 := Lib.hid q2
    have Q3 := Lib.hid q3
    clear q1 q2 q3
    gi_wp2
    gi_region_with_o ((refine ⟨trivial, ?_⟩; gi_at_call 92; refine (CallsIn.inRound l (callsIn_wide.2 (number_any _ (by omega) (by omega) _))).mono ?_; rintro e w' ⟨rfl, rfl⟩))
    all_goals gi_wp2
    all_goals
      rw [Q1.out, Q2.out, Q3.out]
      refine ⟨((KeepsOthers.setCell _ _ _).trans (KeepsOthers.drew _)).from _, ((Below.refl _ W).setCell (p := ⟨w.heap.size, 0, none⟩) (Nat.le_refl _) _).drew, ⟨?_, ?_⟩, (hB.setCell (p := ⟨w.heap.size, 0, none⟩) (Nat.le_refl _) _).drew⟩
      · rw [List.map_append, List.map_singleton, show bval x = x.1 from rfl, HCN.out]
        exact World.cell?_setCell_same _ _ _ hc1
      · exact (World.frozen?_setCell _ _ _ _).trans hf1
  case done =>
    rintro D ys W hD rfl ⟨⟨hc1, hf1⟩, hB⟩ hK
    gi_wp2
    refine ⟨by simp, .inl ⟨_, _, rfl, run_takeDeferred hK, ?_⟩⟩
    exact ⟨_, results_tmp rfl _ _ _, rfl, hB.trans (belowK_b (w := w) (Nat.le_refl _) W D _ _ (by simp at hD; omega) hK rfl rfl)⟩
  case stop =>
    rintro D c pre W _ _ h _
    exact h.elim

theorem count_any (p : Value) (l : List (Int × Int)) (w : World) (hp : IsSet w p l) (hb : Bd l) (hl : l.length ≤ 1000000) :
    Calls Tryz.prog 38 #[p] w fun e w' => e = .returned (.int .i64 (countF l)) ∧ Below w.heap.size w w' := by
  obtain ⟨b, v, rfl, hc, hs⟩ := hp
  obtain ⟨zs, rfl⟩ := bsp_mk l hb
  exact count_walk b v zs w hc hs (by simpa using hl)

end Go.Proofs.YtmbjjheaddhmeaaGreatDoor

namespace Go.Proofs.YtmbjjheaddhmeaaGreatDoor
open Go Go.RowKit

/-- The block of the row that the caller's variable at block 'some Bl' owns (none: it has no such variable). -/
def rowOf : Option Nat → World → Option Nat
  | none, _ => none
  | some b, w => (w.cell? ⟨b, 0, none⟩).bind Value.ownBlock
theorem rowOf_below {Bl : Option Nat} {B : Nat} {W W' : World} (hBl : ∀ b, Bl = some b → b < B) (h : Below B W W') : rowOf Bl W' = rowOf Bl W := by
  cases Bl with
  | none => rfl
  | some b => show (W'.cell? ⟨b, 0, none⟩).bind _ = (W.cell? ⟨b, 0, none⟩).bind _; rw [h.cell (p := ⟨b, 0, none⟩) (hBl b rfl)]
/-- What a round of the caller keeps: what lies below n₀; from B on all but its own row. -/
structure Kept (Bl : Option Nat) (n₀ B : Nat) (W W' : World) : Prop where
  below : Below n₀ W W'
  size : W.heap.size ≤ W'.heap.size
  same : ∀ k, B ≤ k → k < W.heap.size → rowOf Bl W ≠ some k → W'.heap[k]? = W.heap[k]?
  row : rowOf Bl W' = rowOf Bl W ∨ ∃ k, rowOf Bl W' = some k ∧ W.heap.size ≤ k
theorem Kept.trans {Bl : Option Nat} {n₀ B : Nat} {X Y Z : World} (h : Kept Bl n₀ B X Y) (g : Kept Bl n₀ B Y Z) : Kept Bl n₀ B X Z where
  below := h.below.trans g.below
  size := Nat.le_trans h.size g.size
  same := fun k hk hlt hr => by
    have h1 := h.same k hk hlt hr
    refine (g.same k hk (Nat.lt_of_lt_of_le hlt h.size) ?_).trans h1
    rcases h.row with e | ⟨j, e, hj⟩
    · rw [e]; exact hr
    · rw [e]; intro h; cases h; omega
  row := by
    rcases g.row with e | ⟨j, e, hj⟩
    · rw [e]
      exact h.row
    · exact .inr ⟨j, e, Nat.le_trans h.size hj⟩
/-- What only makes memory keeps all that. -/
theorem Kept.of_below {Bl : Option Nat} {n₀ B : Nat} {W W' : World} (hBl : ∀ b, Bl = some b → b < W.heap.size) (hn : n₀ ≤ W.heap.size) (h : Below W.heap.size W W') : Kept Bl n₀ B W W' where
  below := h.mono hn
  size := h.size
  same := fun k _ hlt _ => h.block k hlt
  row := .inl (rowOf_below hBl h)

theorem KeepsFrom.up {A B : Nat} {W W' : World} (h : KeepsFrom A W W') (hb : A ≤ B) : KeepsFrom B W W' := ⟨h.size, fun k o hk ho hc => h.same k o (Nat.le_trans hb hk) ho hc⟩
theorem keepsFrom_put {B l : Nat} (W : World) (o : Obj) (h : l < B) : KeepsFrom B W (W.putObj l o) := ⟨by simp, fun k o' hk ho _ => (World.putObj_heap_other (by omega)).trans ho⟩
theorem Kept.keepsFrom {Bl : Option Nat} {n₀ B : Nat} {W W' : World} (h : Kept Bl n₀ B W W') (hr : ∀ k, rowOf Bl W = some k → ∃ o : Obj, W.heap[k]? = some o ∧ o.isCells = true) : KeepsFrom B W W' :=
  ⟨h.size, fun k o hk ho hc => (h.same k hk (Array.getElem?_eq_some_iff.1 ho).1 (fun e => by obtain ⟨o', h1, h2⟩ := hr k e; rw [ho] at h1; cases h1; rw [hc] at h2; cases h2)).trans ho⟩
theorem Kept.row_ne {Bl : Option Nat} {n₀ B k : Nat} {W W' : World} (h : Kept Bl n₀ B W W') (hk : k < W.heap.size) (hr : rowOf Bl W ≠ some k) : rowOf Bl W' ≠ some k := by
  rcases h.row with e | ⟨j, e, hj⟩
  · rw [e]; exact hr
  · rw [e]; intro h; cases h; omega
theorem rowOf_grown {Bl : Option Nat} {B : Nat} {W W' : World} {row : Option Nat} (hBl : ∀ b, Bl = some b → b < B) (hB : B ≤ W.heap.size) (h : W.grownBy W' row) (hr : ∀ r, row = some r → B ≤ r) : rowOf Bl W' = rowOf Bl W := by
  cases Bl with
  | none => rfl
  | some b =>
    have hb := hBl b rfl
    have e : W'.cell? ⟨b, 0, none⟩ = W.cell? ⟨b, 0, none⟩ := by
      simp only [World.cell?]; rw [h.block b (by omega) (fun e => by have := hr b e.symm; omega)]
    show (W'.cell? ⟨b, 0, none⟩).bind _ = (W.cell? ⟨b, 0, none⟩).bind _
    rw [e]

/-- The contract of an iterator that holds loops and variables of its own. -/
def SeqStopsO {α : Type} (F : Fence) (n : Nat) (P : Program) (g : Nat) (lb : Array Value) (encs : α → Array Value) (Bl : Option Nat) (n₀ B : Nat) (S Sp : List α → Prop) (N : Nat) (w : World) : Prop :=
  ∀ (l : Nat) (J Jx : List α → World → Prop) (W : World), Below w.heap.size w W → OwnFrom W.heap.size J → OwnFrom W.heap.size Jx → (∀ pre W1, J pre W1 → ∀ k, rowOf Bl W1 = some k → ∃ o : Obj, W1.heap[k]? = some o ∧ o.isCells = true) →
    (∀ pre x W1, J pre W1 → pre.length < N → YieldAt F (n - 1) P l (encs x) W1 fun e W' =>
      (e = .returned (.bool true) ∧ J (pre ++ [x]) W' ∧ Kept Bl n₀ B W1 W') ∨ (e = .returned (.bool false) ∧ Jx (pre ++ [x]) W' ∧ KeepsFrom B W1 W')) →
    J [] W → B ≤ W.heap.size →
    CallsIn F n P g (#[.func (.yield l) #[] #[]] ++ lb) W fun e W' => (∃ v, e = .returned v) ∧ ((∃ xs, S xs ∧ J xs W') ∨ (∃ pre, Sp pre ∧ Jx pre W'))

section
variable {F : Fence} {n : Nat} {P : Program}

/-- The two blocks of a loop's book-keeping. -/
def Books (B : Nat) (rc : Loop) (W : World) : Prop := W.heap[B + 1]? = some (.loop rc) ∧ W.heap[B]? = some (.deferred (some []))
theorem Books.grown {B m : Nat} {rc : Loop} {A W : World} {row : Option Nat} (h : Books B rc A) (hg : A.grownBy W row) (hr : ∀ r, row = some r → m ≤ r) (hm : B + 2 ≤ m) : Books B rc W :=
  ⟨(hg.block _ (Array.getElem?_eq_some_iff.1 h.1).1 (fun e => by have := hr _ e.symm; omega)).trans h.1, (hg.block _ (Array.getElem?_eq_some_iff.1 h.2).1 (fun e => by have := hr _ e.symm; omega)).trans h.2⟩
theorem Books.kept {B : Nat} {rc : Loop} {A W : World} (h : Books B rc A) (hk : KeepsFrom B A W) : Books B rc W :=
  ⟨hk.same _ _ (by omega) h.1 rfl, hk.same _ _ (Nat.le_refl _) h.2 rfl⟩
theorem Books.put {B : Nat} {rc rc' : Loop} {W : World} (h : Books B rc W) : Books B rc' (W.putObj (B + 1) (.loop rc')) :=
  ⟨World.putObj_heap_same (Array.getElem?_eq_some_iff.1 h.1).1, (World.putObj_heap_other (by omega)).trans h.2⟩

theorem wpIn_rangeO {α : Type} {g : Operand} {ps : Array Tmp} {assign body : Code} {Q : Exit → Act → World → Prop} {a : Act} {w : World}
    (hro : F.round = none) (h1 : 1 ≤ n) {gf : Nat} {lb : Array Value} (hg : a.eval g = .func (.func gf) #[] lb) (hFg : F.fn gf) (eg : ∀ args w, (callFunc gf args).run P w = .ok (.enter gf args) w)
    {encs : α → Array Value} {Bl : Option Nat} {n₀ : Nat} {S Sp : List α → Prop} {N : Nat} {w0 : World} (hseq : SeqStopsO F (n - 1) P gf lb encs Bl n₀ (w.heap.size + 2) S Sp N w0)
    (hBl : ∀ b, Bl = some b → b < w.heap.size) (hn₀ : n₀ ≤ w.heap.size) (hb0 : Below w0.heap.size w0 w) (hps : ∀ x, (encs x).size = ps.size)
    (I : List α → World → Prop) (Ix : Code → List α → World → Prop) (hIr : ∀ pre W, I pre W → ∀ k, rowOf Bl W = some k → ∃ o : Obj, W.heap[k]? = some o ∧ o.isCells = true) (hI : OwnFrom w.heap.size I) (hIx : ∀ c, OwnFrom w.heap.size (Ix c)) (h0 : I [] w) (Ax : α → Act → World → Prop) (hAx : ∀ x a', OwnFrom w.heap.size (fun (_ : Unit) W => Ax x a' W))
    (hassign : ∀ (l : Nat) (pre : List α) (x : α) (W : World) (K : Act → World → Prop), I pre W → (∀ a' W', KeepsFrom w.heap.size W W' → Kept Bl n₀ (w.heap.size + 2) W W' → I pre W' → Ax x a' W' → K a' W') →
      assign.wpIn (F.inRound l) (n - 1 - 1) P (Exit.then K (fun _ _ _ => False)) { tmps := (ps.zip (encs x)).foldl (fun t (p, v) => t.setIfInBounds p v) a.tmps, defers := [] } W)
    (hbody : ∀ (l : Nat) (pre : List α) (x : α) (a' : Act) (W : World), I pre W → Ax x a' W → pre.length < N → body.wpIn (F.inRound l) (n - 1 - 1) P (ownPostG w.heap.size (Kept Bl n₀ (w.heap.size + 2)) I Ix (pre ++ [x]) W) a' W)
    (hdone : ∀ (D : Nat) (xs : List α) (W : World), w.heap.size ≤ D → S xs → I xs W → W.heap[D]? = some (.deferred (some [])) → Q .normal { a with defers := { target := .collected D, args := #[] } :: a.defers } W)
    (hstop : ∀ (D : Nat) (c : Code) (pre : List α) (W : World), w.heap.size ≤ D → Sp pre → Ix c pre W → W.heap[D]? = some (.deferred (some [])) → c.wpIn F n P Q { a with defers := { target := .collected D, args := #[] } :: a.defers } W) :
    (Code.rangeFunc g ps assign body).wpIn F n P Q a w := by
  refine wpIn_rangeFunc ?_
  intro fn hfn
  rw [hro]
  let rc : LoopState → Option Code → Loop := fun st pe => { state := st, pending := pe, fn, tmps := a.tmps, params := ps, assign, body, defers := w.heap.size }
  have bk0 : Books w.heap.size (rc .ready none) ((w.alloc (.deferred (some []))).alloc (.loop (rc .ready none))) := by
    constructor
    · have := World.alloc_heap_new (w.alloc (.deferred (some []))) (.loop (rc .ready none)); rwa [World.size_alloc] at this
    · exact (Below.heap_alloc _ _ _ (by simp)).trans (World.alloc_heap_new w _)
  have hI1 : I [] ((w.alloc (.deferred (some []))).alloc (.loop (rc .ready none))) := hI.alloc _ (hI.alloc _ h0)
  have hb1 : Below w0.heap.size w0 ((w.alloc (.deferred (some []))).alloc (.loop (rc .ready none))) := hb0.trans ((((Below.refl _ w).alloc (Nat.le_refl _) _).alloc (by simp) _).mono hb0.size)
  have hW1s : ((w.alloc (.deferred (some []))).alloc (.loop (rc .ready none))).heap.size = w.heap.size + 2 := by simp
  obtain ⟨W1, hW1⟩ : ∃ W1, (w.alloc (.deferred (some []))).alloc (.loop (rc .ready none)) = W1 := ⟨_, rfl⟩
  rw [hW1] at bk0 hI1 hb1 hW1s
  refine ⟨w.heap.size + 1, [{ target := .collected w.heap.size, args := #[] }], W1, { target := .fn (.func gf) lb, args := #[.func (.yield (w.heap.size + 1)) #[] #[]] }, W1, gf,
    #[.func (.yield (w.heap.size + 1)) #[] #[]] ++ lb, W1, by rw [← hW1]; exact run_enterLoop_outer _ _ _ _ _, ?_, ?_, ?_, fun _ => h1, ?_⟩
  · simp only [resolve, hg]
    simp [go_sem]
  · intro f' hf'; simp [Target.leads] at hf'; subst hf'; exact hFg
  · simp [invoke, go_sem, eg]
  · refine (hseq (w.heap.size + 1) (fun pre W => I pre W ∧ Books w.heap.size (rc .ready none) W) (fun pre W => ∃ c, Ix c pre W ∧ Books w.heap.size (rc .done (some c)) W) W1 hb1
      (fun s A W row hs hg' hr => ⟨hI s A W row hs.1 hg' (fun r e => ⟨by have := (hr r e).1; omega, (hr r e).2⟩), hs.2.grown hg' (fun r e => (hr r e).1) (by omega)⟩)
      (fun s A W row hs hg' hr => by
        obtain ⟨c, hc, hk⟩ := hs
        exact ⟨c, hIx c s A W row hc hg' (fun r e => ⟨by have := (hr r e).1; omega, (hr r e).2⟩), hk.grown hg' (fun r e => (hr r e).1) (by omega)⟩)
      (fun pre W h => hIr pre W h.1) ?_ ⟨hI1, bk0⟩ (by omega)).mono ?_
    · rintro pre x W ⟨hi, hk⟩ hlen
      refine ⟨fn, _, assign, body, run_yield (P := P) (args := encs x) hk.1 (hps x), roundIn_of_wpIn hfn (hassign _ pre x W _ hi ?_)⟩
      intro a' Wa hkf hkp hia hax
      have hka := hk.kept hkf
      refine ⟨_, run_beginRound hka.1 rfl, ?_⟩
      have hk2 : Books w.heap.size (rc .busy none) (Wa.putObj (w.heap.size + 1) (.loop (rc .busy none))) := hka.put
      have hKb : ∀ (X : World) (o : Obj), Kept Bl n₀ (w.heap.size + 2) X (X.putObj (w.heap.size + 1) o) := fun X o => by
        have hb : Below (w.heap.size + 1) X (X.putObj (w.heap.size + 1) o) := ⟨rfl, rfl, rfl, by simp, fun k hk => World.putObj_heap_other (by omega)⟩
        exact ⟨hb.mono (by omega), by simp, fun k hk _ _ => World.putObj_heap_other (by omega), .inl (rowOf_below (fun b e => Nat.lt_succ_of_lt (hBl b e)) hb)⟩
      have hw2 := hKb Wa (.loop (rc .busy none))
      refine wpIn_mono (hbody _ pre x a' _ (hI.putObj _ hia (by omega) hka.1 rfl) ((hAx x a').putObj (s := ()) _ hax (by omega) hka.1 rfl) hlen) ?_
      have hkq : ∀ {W3 : World} {o : Obj}, KeepsFrom w.heap.size (Wa.putObj (w.heap.size + 1) (.loop (rc .busy none))) W3 → KeepsFrom (w.heap.size + 2) W (W3.putObj (w.heap.size + 1) o) := fun h =>
        (KeepsFrom.up hkf (by omega)).trans ((keepsFrom_put _ _ (by omega)).trans ((KeepsFrom.up h (by omega)).trans (keepsFrom_put _ _ (by omega))))
      rintro e a3 W3 hp
      cases e with
      | normal =>
        obtain ⟨hk3, hkp3, hi3⟩ := hp
        have hb3 := hk2.kept hk3
        exact ⟨_, _, run_endRound none hb3.1, .inl ⟨rfl, ⟨hI.putObj _ hi3 (by omega) hb3.1 rfl, hb3.put⟩, hkp.trans ((hw2.trans hkp3).trans (hKb _ _))⟩⟩
      | ret =>
        have hb3 := hk2.kept hp.1
        exact ⟨_, _, run_endRound (some .ret) hb3.1, .inr ⟨rfl, ⟨.ret, (hIx _).putObj _ hp.2 (by omega) hb3.1 rfl, hb3.put⟩, hkq hp.1⟩⟩
      | exit id =>
        have hb3 := hk2.kept hp.1
        exact ⟨_, _, run_endRound (some (.exit id)) hb3.1, .inr ⟨rfl, ⟨.exit id, (hIx _).putObj _ hp.2 (by omega) hb3.1 rfl, hb3.put⟩, hkq hp.1⟩⟩
      | goto t =>
        have hb3 := hk2.kept hp.1
        exact ⟨_, _, run_endRound (some (.goto t)) hb3.1, .inr ⟨rfl, ⟨.goto t, (hIx _).putObj _ hp.2 (by omega) hb3.1 rfl, hb3.put⟩, hkq hp.1⟩⟩
      | panic ch => exact hp.elim
      | outgrown => exact hp.elim
    · rintro e W2 ⟨⟨v, rfl⟩, (⟨xs, hS, hi, hk⟩ | ⟨pre, hSp, c, hi, hk⟩)⟩
      · exact ⟨none, _, run_endLoop (P := P) hk.1 (by simp [rc]), hdone _ xs _ (Nat.le_refl _) hS (hI.putObj _ hi (by omega) hk.1 rfl) (hk.put (rc' := { rc .ready none with state := .exhausted })).2⟩
      · exact ⟨some c, _, run_endLoop (P := P) hk.1 (by simp [rc]), hstop _ c pre _ (Nat.le_refl _) hSp ((hIx c).putObj _ hi (by omega) hk.1 rfl) (hk.put (rc' := { rc .done (some c) with state := .exhausted })).2⟩
end

end Go.Proofs.YtmbjjheaddhmeaaGreatDoor

namespace Go.Proofs.YtmbjjheaddhmeaaGreatDoor
open Go.RowKit Go.Shelf
attribute [local go_sem] Oper.semAt_some

/-- The points from r on, to hi. -/
def runF : Nat → Int → Int → List Int
  | 0, _, _ => []
  | g + 1, r, hi => if r ≤ hi then r :: runF g (nextP r) hi else []
def runL (x : Int × Int) : List Int := runF (x.2 - x.1 + 1).toNat x.1 x.2
def allF (l : List (Int × Int)) : List Int := l.flatMap runL
theorem nextP_gt (r : Int) : r < nextP r := by unfold nextP; split <;> (try split) <;> omega
theorem runF_stop (g : Nat) (r hi : Int) (h : ¬ r ≤ hi) : runF g r hi = [] := by
  cases g with
  | zero => rfl
  | succ g => rw [runF, if_neg h]
theorem runF_fuel (g : Nat) : ∀ (g' : Nat) (r hi : Int), (hi - r + 1).toNat ≤ g → (hi - r + 1).toNat ≤ g' → runF g r hi = runF g' r hi := by
  induction g with
  | zero => intro g' r hi h _; rw [runF_stop g' r hi (by omega)]; rfl
  | succ g ih =>
    intro g' r hi h h'
    by_cases hr : r ≤ hi
    · cases g' with
      | zero => omega
      | succ g' =>
        have := nextP_gt r
        rw [runF, runF, if_pos hr, if_pos hr, ih g' (nextP r) hi (by omega) (by omega)]
    · rw [runF_stop _ _ _ hr, runF_stop _ _ _ hr]
theorem runL_step {r hi : Int} (h : r ≤ hi) : runL (r, hi) = r :: runL (nextP r, hi) := by
  have := nextP_gt r
  show runF (hi - r + 1).toNat r hi = r :: runF (hi - nextP r + 1).toNat (nextP r) hi
  obtain ⟨g, hg⟩ : ∃ g, (hi - r + 1).toNat = g + 1 := ⟨(hi - r + 1).toNat - 1, by omega⟩
  rw [hg, runF, if_pos h, runF_fuel g (hi - nextP r + 1).toNat (nextP r) hi (by omega) (by omega)]
theorem runL_stop {r hi : Int} (h : ¬ r ≤ hi) : runL (r, hi) = [] := runF_stop _ _ _ h
theorem runF_len (g : Nat) : ∀ r hi, (runF g r hi).length ≤ g := by
  induction g with
  | zero => intro r hi; simp [runF]
  | succ g ih => intro r hi; rw [runF]; split <;> simp; exact ih _ _

/-- A point of the spans l. -/
abbrev PtA (l : List (Int × Int)) : Type := { r : Int // r ∈ allF l }
abbrev SpA (l : List (Int × Int)) : Type := { x : Int × Int // x ∈ l }
def sval {l : List (Int × Int)} (x : SpA l) : Int × Int := x.1
def ptv {l : List (Int × Int)} (ys : List (PtA l)) : List Int := ys.map Subtype.val
theorem ptv_append {l : List (Int × Int)} (a b : List (PtA l)) : ptv (a ++ b) = ptv a ++ ptv b := by simp [ptv]
theorem sval_all (l : List (Int × Int)) : ∃ zs : List (SpA l), zs.map sval = l := ⟨l.attach, List.attach_map_subtype_val l⟩

set_option maxHeartbeats 1000000 in
theorem all_in (F : Fence) (n : Nat) (h5 : F.fn 98) (hro : F.round = none) (p : Option Addr) (w : World) :
    CallsIn F n Tryz.prog 98 #[.pointer p] w fun e w' => e = .returned (.func (.func 135) #[] #[.pointer (some ⟨w.heap.size, 0, none⟩)]) ∧ w' = w.alloc (.cells #[.pointer p] 25) := by
  refine callsIn_of_wp Tryz.func98 rfl h5 ?_ hro
  simp only [Tryz.ntmps98, List.size_toArray, List.length_cons, List.length_nil, Nat.reduceAdd, Nat.reduceSub, Array.replicate_succ, Array.replicate_zero, List.push_toArray, List.append_toArray, List.nil_append, List.cons_append]
  gi_wp2
  go_ret
  exact ⟨rfl, rfl⟩

theorem ptv_inj {l : List (Int × Int)} {a b : List (PtA l)} (h : ptv a = ptv b) : a = b := (List.map_inj_right (fun _ _ h => Subtype.ext h)).1 h
theorem allF_snoc (l : List (Int × Int)) (x : Int × Int) : allF (l ++ [x]) = allF l ++ runL x := by simp [allF]
theorem allF_prefix {a l : List (Int × Int)} (h : a <+: l) : allF a <+: allF l := by
  obtain ⟨t, rfl⟩ := h; exact ⟨allF t, by simp [allF]⟩
theorem runL_mem {l : List (Int × Int)} {x : Int × Int} (hx : x ∈ l) {r : Int} (hr : r ∈ runL x) : r ∈ allF l := List.mem_flatMap.2 ⟨x, hx, hr⟩
theorem allF_len (l : List (Int × Int)) (hb : Bd l) : (allF l).length ≤ 1114368 * l.length := by
  induction l with
  | nil => simp [allF]
  | cons x l ih =>
    have h1 := ih (fun y hy => hb y (List.mem_cons_of_mem _ hy))
    have h2 := hb x List.mem_cons_self
    have h3 := runF_len (x.2 - x.1 + 1).toNat x.1 x.2
    simp only [allF, List.flatMap_cons, List.length_append, List.length_cons] at *
    have h4 : (runL x).length ≤ 1114368 := by unfold runL; omega
    omega

theorem roundAny {m m' k : Nat} {P : Program} {l : Nat} {f : FuncId} {tmps : Array Value} {assign body : Code} {w : World} {R : Ending → World → Prop}
    (h : RoundIn Fence.wide m P l f tmps assign body w R) : RoundIn (Fence.wide.inRound k) m' P l f tmps assign body w R :=
  ⟨h.1, fun c cs _ => h.2 c cs (fun d hd => by cases hd)⟩
theorem mem_app_allF {l : List (Int × Int)} {pre : List (SpA l)} {x : Int × Int} (hx : x ∈ l) {r : Int} (hr : r ∈ allF (pre.map sval) ++ runL x) : r ∈ allF l := by
  rcases List.mem_append.1 hr with h | h
  · obtain ⟨y, hy, hr⟩ := List.mem_flatMap.1 h
    obtain ⟨z, _, rfl⟩ := List.mem_map.1 hy
    exact runL_mem z.2 hr
  · exact runL_mem hx h
theorem len_app_allF {l : List (Int × Int)} (hb : Bd l) {pre : List (SpA l)} {x : Int × Int} (hx : x ∈ l) (hp : pre.length < 1000000) {ps : List (PtA l)} {t : List Int} (h : ptv ps ++ t = allF (pre.map sval) ++ runL x) : ps.length < 1114368 * 1000000 + 1 := by
  have h1 := congrArg List.length h
  have h2 := allF_len (pre.map sval) (fun y hy => by obtain ⟨z, _, rfl⟩ := List.mem_map.1 hy; exact hb _ z.2)
  have h3 := hb x hx
  have h4 : (runL x).length ≤ 1114368 := by have := runF_len (x.2 - x.1 + 1).toNat x.1 x.2; unfold runL; omega
  simp only [List.length_append, List.length_map, ptv] at h1 h2
  omega

/-- What the iterator keeps for itself: the box of yield. -/
structure MyBox (Bl : Option Nat) (l y : Nat) (X : World) : Prop where
  cell : X.cell? ⟨y, 0, none⟩ = some (.func (.yield l) #[] #[])
  row : rowOf Bl X ≠ some y
theorem MyBox.grown {Bl : Option Nat} {l y B : Nat} {X Y : World} {row : Option Nat} (h : MyBox Bl l y X) (hBl : ∀ b, Bl = some b → b < B) (hB : B ≤ X.heap.size) (hg : X.grownBy Y row) (hr : ∀ r, row = some r → B ≤ r ∧ ∃ o : Obj, X.heap[r]? = some o ∧ o.isCells = false) : MyBox Bl l y Y :=
  ⟨cell_kept h.cell hg (fun r e => (hr r e).2), by rw [rowOf_grown hBl hB hg (fun r e => (hr r e).1)]; exact h.row⟩
theorem MyBox.kept {Bl : Option Nat} {l y n₀ B : Nat} {X Y : World} (h : MyBox Bl l y X) (hk : Kept Bl n₀ B X Y) (hy : B ≤ y) : MyBox Bl l y Y := by
  have hlt : y < X.heap.size := cell_lt h.cell
  refine ⟨?_, hk.row_ne hlt h.row⟩
  have := hk.same y hy hlt h.row
  have hc := h.cell
  simp only [World.cell?] at hc ⊢
  rw [this]; exact hc

set_option maxRecDepth 100000 in
set_option maxHeartbeats 4000000 in
theorem all1_stops (n : Nat) (hn : 4 ≤ n) (l : List (Int × Int)) (hbd : Bd l) (hl : l.length ≤ 1000000) (pb Bs n₀ B : Nat) (v : Value) (Bl : Option Nat) (hBl : ∀ b, Bl = some b → b < B) (w0 w : World) (hw0 : w0.heap.size ≤ n₀) (hn₀ : n₀ ≤ w.heap.size) (hnB : n₀ ≤ B) (hb0 : Below w0.heap.size w0 w)
    (hc : w0.cell? ⟨pb, 0, none⟩ = some v) (hI : Spans w0 v l) (hBs : w.cell? ⟨Bs, 0, none⟩ = some (.pointer (some ⟨pb, 0, none⟩))) :
    SeqStopsO Fence.wide n Tryz.prog 135 #[.pointer (some ⟨Bs, 0, none⟩)] (fun x : PtA l => #[.int .i32 x.1]) Bl n₀ B (fun ys => ptv ys = allF l) (fun pre => ptv pre <+: allF l) (1114368 * 1000000 + 1) w := fun k J Jx W hW hJ hJx hJr hY h0 hBW => by
  have hro : Fence.wide.round = none := rfl
  have h1 : 1 ≤ n := by omega
  have h2 : 1 ≤ n - 1 - 1 := by omega
  have f5 : Fence.wide.fn 88 := trivial
  have f6 : Fence.wide.fn 132 := trivial
  have f7 : Fence.wide.fn 157 := trivial
  have f8 : Fence.wide.fn 74 := trivial
  obtain ⟨zs, hzs⟩ := sval_all l
  have hvs : ∃ a n c, v = .slice a n c := by obtain ⟨a, c, rfl, _⟩ := hI; exact ⟨_, _, _, rfl⟩
  have y1 : pb < w0.heap.size := cell_lt hc
  have y2 : Bs < w.heap.size := cell_lt hBs
  have hnW : n₀ ≤ W.heap.size := Nat.le_trans hn₀ hW.size
  have hbW : Below w0.heap.size w0 W := hb0.trans (hW.mono (Nat.le_trans hw0 hn₀))
  have hAY : Below W.heap.size W (W.alloc (.cells #[.func (.yield k) #[] #[]] 78)) := (Below.refl _ W).alloc (Nat.le_refl _) _
  have cBs : (W.alloc (.cells #[.func (.yield k) #[] #[]] 78)).cell? ⟨Bs, 0, none⟩ = some (.pointer (some ⟨pb, 0, none⟩)) := (hAY.cell (p := ⟨Bs, 0, none⟩) (Nat.lt_of_lt_of_le y2 hW.size)).trans ((hW.cell (p := ⟨Bs, 0, none⟩) y2).trans hBs)
  have cpb : (W.alloc (.cells #[.func (.yield k) #[] #[]] 78)).cell? ⟨pb, 0, none⟩ = some v := (hAY.cell (p := ⟨pb, 0, none⟩) (Nat.lt_of_lt_of_le y1 (Nat.le_trans hw0 hnW))).trans ((hbW.cell (p := ⟨pb, 0, none⟩) y1).trans hc)
  have HI := Lib.hid hI
  have HB := Lib.hid hBl
  have HJr := Lib.hid hJr
  have HY := Lib.hid hY
  have rW : ∀ j, rowOf Bl W = some j → j < W.heap.size := fun j e => by obtain ⟨o, h, _⟩ := hJr _ _ h0 _ e; exact (Array.getElem?_eq_some_iff.1 h).1
  have bY0 : MyBox Bl k W.heap.size ((W.alloc (.cells #[.func (.yield k) #[] #[]] 78)).alloc (.cells #[v] 22)) := by
    refine ⟨?_, ?_⟩
    · exact ((Below.refl _ (W.alloc (.cells #[.func (.yield k) #[] #[]] 78))).alloc (Nat.le_refl _) _).cell (p := ⟨W.heap.size, 0, none⟩) (by simp) |>.trans (by simp)
    · rw [rowOf_below (B := B) hBl (hAY.mono hBW |>.alloc (by simp; omega) _)]
      intro e; have := rW _ e; omega
  have BY0 := Lib.hid bY0
  have HR := Lib.hid rW
  have HJ := Lib.hid hJ
  have HJx := Lib.hid hJx
  clear hI hBl hJr hY bY0 rW hJ hJx
  refine callsIn_of_wp_marks Tryz.func135 rfl trivial ?_ hro
  simp only [Tryz.ntmps135, List.size_toArray, List.length_cons, List.length_nil, Nat.reduceAdd, Nat.reduceSub, Array.replicate_succ, Array.replicate_zero, List.push_toArray, List.append_toArray, List.nil_append, List.cons_append]
  gi_wp2_with (gi_at_call 88; refine (rows_in Fence.wide (n - 1) trivial trivial hro (by omega) pb v hvs _ cpb).mono ?_; rintro e w' ⟨rfl, rfl⟩)
  have hW2 : Below W.heap.size W ((W.alloc (.cells #[.func (.yield k) #[] #[]] 78)).alloc (.cells #[v] 22)) := hAY.alloc (by simp) _
  have hJ2 : J [] ((W.alloc (.cells #[.func (.yield k) #[] #[]] 78)).alloc (.cells #[v] 22)) := HJ.out.alloc _ (HJ.out.alloc _ h0)
  have hS2 : Spans w0 v (zs.map sval) := by rw [hzs]; exact HI.out
  have hb2 : Below w0.heap.size w0 ((W.alloc (.cells #[.func (.yield k) #[] #[]] 78)).alloc (.cells #[v] 22)) := hbW.trans (hW2.mono (Nat.le_trans hw0 hnW))
  have hz2 : ((W.alloc (.cells #[.func (.yield k) #[] #[]] 78)).alloc (.cells #[v] 22)).heap.size = W.heap.size + 2 := by simp
  have bN := (Boxed.new (W.alloc (.cells #[.func (.yield k) #[] #[]] 78)) 22 v).cell
  rw [World.size_alloc] at bN
  obtain ⟨W2, hW2d⟩ : ∃ W2, (W.alloc (.cells #[.func (.yield k) #[] #[]] 78)).alloc (.cells #[v] 22) = W2 := ⟨_, rfl⟩
  rw [hW2d] at BY0 hW2 hJ2 hb2 hz2 bN ⊢
  clear hW2d cBs cpb
  refine wpIn_rangeFunc_ownH hro h1 (gf := 157) (lb := #[.pointer (some ⟨W.heap.size + 1, 0, none⟩)]) rfl trivial (enters_of Tryz.func157 (by kernel_rfl) rfl)
    (values_stops sval Fence.wide (n - 1) trivial hro (by omega) (W.heap.size + 1) n₀ v zs (by have := congrArg List.length hzs; rw [List.length_map] at this; omega) W2 (by omega) (by omega) bN w0 hw0 hS2 hb2) belowK_t (belowK_b (by omega)) (Below.refl _ _) (fun _ => rfl)
    (fun pre X => ∃ qs, ptv qs = allF (pre.map sval) ∧ J qs X ∧ MyBox Bl k W.heap.size X ∧ W2.heap.size ≤ X.heap.size)
    (fun c pre X => c = .ret ∧ ∃ q, ptv q <+: allF (pre.map sval) ∧ Jx q X)
    (fun s X Z row hs hg hr => by
      obtain ⟨qs, e, hj, hm, hz⟩ := hs
      exact ⟨qs, e, HJ.out _ _ _ _ hj hg (fun r e => ⟨by have := (hr r e).1; omega, (hr r e).2⟩), hm.grown HB.out (by omega) hg (fun r e => ⟨by have := (hr r e).1; omega, (hr r e).2⟩), Nat.le_trans hz hg.size⟩)
    (fun c s X Z row hs hg hr => by
      obtain ⟨e1, q, e, hj⟩ := hs
      exact ⟨e1, q, e, HJx.out _ _ _ _ hj hg (fun r e => ⟨by have := (hr r e).1; omega, (hr r e).2⟩)⟩)
    ⟨[], rfl, hJ2, BY0.out, Nat.le_refl _⟩
    (fun x a' X => ∃ Bx : Nat, (B ≤ Bx ∧ Bx < X.heap.size) ∧ rowOf Bl X ≠ some Bx ∧ X.heap[Bx]? = some (.cells #[.int .i32 x.1.1, .int .i32 x.1.2] 39 (0, 0)) ∧ W2.heap.size ≤ X.heap.size ∧
      a' = { tmps := #[.func (.yield k) #[] #[], .pointer (some ⟨Bs, 0, none⟩), .pointer (some ⟨W.heap.size, 0, none⟩), .pointer (some ⟨Bx, 0, none⟩), undef, .pointer (some ⟨pb, 0, none⟩), .func (.func 157) #[] #[.pointer (some ⟨W.heap.size + 1, 0, none⟩)], .agg #[.int .i32 x.1.1, .int .i32 x.1.2], undef, undef, undef, undef, undef, undef, undef, undef, undef, undef, undef, undef], defers := [] })
    (fun x a' s X Z row hs hg hr => by
      obtain ⟨Bx, g1, g2, g3, g4, g5⟩ := hs
      exact ⟨Bx, ⟨g1.1, Nat.lt_of_lt_of_le g1.2 hg.size⟩, by rw [rowOf_grown HB.out (by omega) hg (fun r e => by have := (hr r e).1; omega)]; exact g2, (hg.block Bx g1.2 (fun e => by obtain ⟨_, o', h3, h5⟩ := hr Bx e.symm; rw [g3] at h3; cases h3; cases h5)).trans g3, Nat.le_trans g4 hg.size, g5⟩) ?assign ?body ?done ?stop
  case assign =>
    rintro l' pre x X K ⟨qs, e, hj, hm, hz⟩ hK
    have hsx : spV (sval x) = .agg #[.int .i32 x.1.1, .int .i32 x.1.2] := rfl
    have BA := (Below.refl X.heap.size X).alloc (Nat.le_refl _) (.cells #[.int .i32 x.1.1, .int .i32 x.1.2] 39)
    have hgr := World.grownBy_alloc X (.cells #[.int .i32 x.1.1, .int .i32 x.1.2] 39) none
    have HK := Lib.hid hK
    have HE := Lib.hid e
    clear hK e
    gi_wp2
    refine HK.out _ _ ((KeepsOthers.alloc _ _).from _) (BA.mono (by omega)) ⟨qs, HE.out, HJ.out.alloc _ hj, hm.grown HB.out (by omega) hgr (fun r e => by cases e), by simp; omega⟩ ⟨X.heap.size, ⟨by omega, by simp⟩, ?_, heap_alloc_new _ _, by simp; omega, rfl⟩
    rw [rowOf_grown (B := B) HB.out (by omega) hgr (fun r e => by cases e)]
    intro e; obtain ⟨o, h, _⟩ := HJr.out _ _ hj _ e
    have := (Array.getElem?_eq_some_iff.1 h).1; omega
  case body =>
    rintro l' pre x a' X hl' ⟨rc, hrc⟩ ⟨qs, e, hj, hm, hz⟩ ⟨Bx, hBx, hrx, hx, hz', rfl⟩ hlt
    obtain ⟨⟨lo, hi⟩, hmem⟩ := x
    obtain ⟨b1, b2, b3, b4⟩ := hbd _ hmem
    have hlen : pre.length < 1000000 := by have := congrArg List.length hzs; rw [List.length_map] at this; omega
    have hev : sval (⟨(lo, hi), hmem⟩ : SpA l) = (lo, hi) := rfl
    dsimp only at hx b1 b2 b3 b4
    have HE := Lib.hid e
    have HR := Lib.hid hrx
    have c0 : X.cell? ⟨Bx, 0, none⟩ = some (.int .i32 lo) := by simp [World.cell?, hx]
    clear e hrx
    gi_wp2
    gi_loopw [4] (fun rv wr => ∃ (r : Int) (ps : List (PtA l)), rv = .int .i32 r ∧ 0 ≤ r ∧ r ≤ 1114368 ∧ Hid (ptv ps ++ runL (r, hi) = allF (pre.map sval) ++ runL (lo, hi)) ∧ J ps wr ∧ MyBox Bl k W.heap.size wr ∧ Below n₀ X wr ∧ KeepsFrom B X wr ∧ X.heap.size ≤ wr.heap.size ∧
        Hid (rowOf Bl wr ≠ some Bx) ∧ wr.heap[Bx]? = some (.cells #[.int .i32 lo, .int .i32 hi] 39 (0, 0)))
      (fun rv _ => (1114369 - intOf rv).toNat)
    case atStart => exact ⟨lo, qs, rfl, b1, by omega, by rw [HE.out]; rfl, hj, hm, Below.refl _ _, KeepsFrom.refl _ _, Nat.le_refl _, HR.out, hx⟩
    case round =>
      obtain ⟨r, ps, rfl, r0, r1, HP, hjr, hmr, hbr, hkr, hsr, HRr, hxr⟩ := hrel
      clear c0 hx hj hm
      have c1 : wr.cell? ⟨Bx, 1, none⟩ = some (.int .i32 hi) := by simp [World.cell?, hxr]
      have cy := hmr.cell
      by_cases hle : r ≤ hi
      · have hst := runL_step hle
        have hmr' : r ∈ allF l := mem_app_allF hmem (by rw [← HP.out, hst]; simp)
        have hln := len_app_allF hbd hmem hlen HP.out
        obtain ⟨fn, tmps, assign, body, hy, hR⟩ := HY.out ps ⟨r, hmr'⟩ wr hjr hln
        dsimp only at hy
        have HST := Lib.hid hst
        have HRR := Lib.hid (roundAny (k := l') (m' := n - 1 - 1 - 1) hR)
        have hJr2 := Lib.hid (HJr.out ps wr hjr)
        have hbx : Bx < wr.heap.size := (Array.getElem?_eq_some_iff.1 hxr).1
        clear hst hR hln
        gi_wp2
        refine HRR.out.mono ?_
        rintro e W3 (⟨rfl, hJ3, hk3⟩ | ⟨rfl, hJx3, hk3⟩)
        · have hnx := fun W => (next_any r r0 (by omega) W)
          have hng := nextP_gt r
          have hn2 : nextP r ≤ 1114368 := by unfold nextP; split <;> (try split) <;> omega
          have hs3 := hk3.same Bx hBx.1 hbx HRr.out
          gi_wp2_with (gi_at_call 74; refine (CallsIn.inRound l' (callsIn_wide.2 (hnx _))).mono ?_; rintro e w' ⟨rfl, rfl⟩)
          go_roundw
          case rel => exact ⟨nextP r, ps ++ [⟨r, hmr'⟩], rfl, by omega, hn2, by rw [ptv_append, List.append_assoc, ← HP.out, HST.out]; rfl, hJ3, hmr.kept hk3 (by omega), hbr.trans hk3.below, hkr.trans (hk3.keepsFrom hJr2.out), Nat.le_trans hsr hk3.size, hk3.row_ne hbx HRr.out, hs3.trans hxr⟩
          case measure => simp [intOf]; omega
        · gi_wp2
          refine ⟨KeepsFrom.up (hkr.trans hk3) (by omega), rfl, ps ++ [⟨r, hmr'⟩], ?_, hJx3⟩
          rw [List.map_append, List.map_singleton, allF_snoc, hev, ← HP.out, HST.out, ptv_append]
          exact ⟨runL (nextP r, hi), by simp [ptv]⟩
      · have hst := runL_stop (r := r) (hi := hi) hle
        have HQ : Hid (ptv ps = allF (pre.map sval) ++ runL (lo, hi)) := Lib.hid (by rw [← HP.out, hst, List.append_nil])
        clear hst HP
        gi_wp2
        refine ⟨KeepsFrom.up hkr (by omega), hbr, ps, ?_, hjr, hmr, by omega⟩
        rw [List.map_append, List.map_singleton, allF_snoc, hev, HQ.out]
  case done =>
    rintro D ys X hD rfl ⟨qs, e, hj, hm, hz⟩ hK
    gi_wp2
    refine ⟨by simp, .inl ⟨_, _, rfl, run_takeDeferred hK, ?_⟩⟩
    exact ⟨_, results_none rfl _ _ _, ⟨_, rfl⟩, .inl ⟨qs, by rw [e, hzs], HJ.out.putObj _ hj (by omega) hK rfl⟩⟩
  case stop =>
    rintro D c pre X hD hpre ⟨rfl, q, hq, hj⟩ hK
    gi_wp2
    refine ⟨by simp, .inl ⟨_, _, rfl, run_takeDeferred hK, ?_⟩⟩
    refine ⟨_, results_none rfl _ _ _, ⟨_, rfl⟩, .inr ⟨q, ?_, HJx.out.putObj _ hj (by omega) hK rfl⟩⟩
    refine hq.trans (allF_prefix ?_)
    obtain ⟨t, ht⟩ := hpre
    have : pre.map sval <+: zs.map sval := ⟨t.map sval, by rw [← List.map_append, ht]⟩
    rw [hzs] at this
    exact this

end Go.Proofs.YtmbjjheaddhmeaaGreatDoor
