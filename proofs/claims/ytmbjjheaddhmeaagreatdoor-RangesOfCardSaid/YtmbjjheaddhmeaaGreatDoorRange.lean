/- A range over a function whose iterator itself ranges over a function: a law that the kit lacks. The iterator's contract asks more of what it keeps for the caller: that it abides every turn of what is no cells, from a block on. -/
import Derived.RangeFuncNested
import Derived.RangeFuncBound
import Derived.RangeFuncCalls
import Derived.RangeFuncLeaves
import Derived.Below
namespace Go.Proofs.YtmbjjheaddhmeaaGreatDoor
open Go Go.RowKit

/-- The block of the row that the caller's variable at block 'some Bl' owns (none: it has no such variable). -/
def rowOf : Option Nat → World → Option Nat
  | none, _ => none
  | some b, w => (w.cell? ⟨b, 0, none⟩).bind Value.ownBlock
theorem rowOf_below {Bl : Option Nat} {B : Nat} {W W' : World} (hBl : ∀ b, Bl = some b → b < B) (h : Below B W W') : rowOf Bl W' = rowOf Bl W := by
  cases Bl with
  | none => rfl
  | some b => show (W'.cell? ⟨b, 0, none⟩).bind _ = (W.cell? ⟨b, 0, none⟩).bind _; rw [h.cell (p := ⟨b, 0, none⟩) (hBl b rfl)]
/-- What a round of the caller keeps: what lies below n₀; from B on all but its own row. -/
structure Kept (Bl : Option Nat) (n₀ B : Nat) (W W' : World) : Prop where
  below : Below n₀ W W'
  size : W.heap.size ≤ W'.heap.size
  same : ∀ k, B ≤ k → k < W.heap.size → rowOf Bl W ≠ some k → W'.heap[k]? = W.heap[k]?
  row : rowOf Bl W' = rowOf Bl W ∨ ∃ k, rowOf Bl W' = some k ∧ W.heap.size ≤ k
theorem Kept.trans {Bl : Option Nat} {n₀ B : Nat} {X Y Z : World} (h : Kept Bl n₀ B X Y) (g : Kept Bl n₀ B Y Z) : Kept Bl n₀ B X Z where
  below := h.below.trans g.below
  size := Nat.le_trans h.size g.size
  same := fun k hk hlt hr => by
    have h1 := h.same k hk hlt hr
    refine (g.same k hk (Nat.lt_of_lt_of_le hlt h.size) ?_).trans h1
    rcases h.row with e | ⟨j, e, hj⟩
    · rw [e]; exact hr
    · rw [e]; intro h; cases h; omega
  row := by
    rcases g.row with e | ⟨j, e, hj⟩
    · rw [e]
      exact h.row
    · exact .inr ⟨j, e, Nat.le_trans h.size hj⟩
/-- What only makes memory keeps all that. -/
theorem Kept.of_below {Bl : Option Nat} {n₀ B : Nat} {W W' : World} (hBl : ∀ b, Bl = some b → b < W.heap.size) (hn : n₀ ≤ W.heap.size) (h : Below W.heap.size W W') : Kept Bl n₀ B W W' where
  below := h.mono hn
  size := h.size
  same := fun k _ hlt _ => h.block k hlt
  row := .inl (rowOf_below hBl h)

theorem KeepsFrom.up {A B : Nat} {W W' : World} (h : KeepsFrom A W W') (hb : A ≤ B) : KeepsFrom B W W' := ⟨h.size, fun k o hk ho hc => h.same k o (Nat.le_trans hb hk) ho hc⟩
theorem keepsFrom_put {B l : Nat} (W : World) (o : Obj) (h : l < B) : KeepsFrom B W (W.putObj l o) := ⟨by simp, fun k o' hk ho _ => (World.putObj_heap_other (by omega)).trans ho⟩
theorem Kept.keepsFrom {Bl : Option Nat} {n₀ B : Nat} {W W' : World} (h : Kept Bl n₀ B W W') (hr : ∀ k, rowOf Bl W = some k → ∃ o : Obj, W.heap[k]? = some o ∧ o.isCells = true) : KeepsFrom B W W' :=
  ⟨h.size, fun k o hk ho hc => (h.same k hk (Array.getElem?_eq_some_iff.1 ho).1 (fun e => by obtain ⟨o', h1, h2⟩ := hr k e; rw [ho] at h1; cases h1; rw [hc] at h2; cases h2)).trans ho⟩
theorem Kept.row_ne {Bl : Option Nat} {n₀ B k : Nat} {W W' : World} (h : Kept Bl n₀ B W W') (hk : k < W.heap.size) (hr : rowOf Bl W ≠ some k) : rowOf Bl W' ≠ some k := by
  rcases h.row with e | ⟨j, e, hj⟩
  · rw [e]; exact hr
  · rw [e]; intro h; cases h; omega
theorem rowOf_grown {Bl : Option Nat} {B : Nat} {W W' : World} {row : Option Nat} (hBl : ∀ b, Bl = some b → b < B) (hB : B ≤ W.heap.size) (h : W.grownBy W' row) (hr : ∀ r, row = some r → B ≤ r) : rowOf Bl W' = rowOf Bl W := by
  cases Bl with
  | none => rfl
  | some b =>
    have hb := hBl b rfl
    have e : W'.cell? ⟨b, 0, none⟩ = W.cell? ⟨b, 0, none⟩ := by
      simp only [World.cell?]; rw [h.block b (by omega) (fun e => by have := hr b e.symm; omega)]
    show (W'.cell? ⟨b, 0, none⟩).bind _ = (W.cell? ⟨b, 0, none⟩).bind _
    rw [e]

/-- The contract of an iterator that holds loops and variables of its own. -/
def SeqStopsO {α : Type} (F : Fence) (n : Nat) (P : Program) (g : Nat) (lb : Array Value) (encs : α → Array Value) (Bl : Option Nat) (n₀ B : Nat) (S Sp : List α → Prop) (N : Nat) (w : World) : Prop :=
  ∀ (l : Nat) (J Jx : List α → World → Prop) (W : World), Below w.heap.size w W → OwnFrom W.heap.size J → OwnFrom W.heap.size Jx → (∀ pre W1, J pre W1 → ∀ k, rowOf Bl W1 = some k → ∃ o : Obj, W1.heap[k]? = some o ∧ o.isCells = true) →
    (∀ pre x W1, J pre W1 → pre.length < N → YieldAt F (n - 1) P l (encs x) W1 fun e W' =>
      (e = .returned (.bool true) ∧ J (pre ++ [x]) W' ∧ Kept Bl n₀ B W1 W') ∨ (e = .returned (.bool false) ∧ Jx (pre ++ [x]) W' ∧ KeepsFrom B W1 W')) →
    J [] W → B ≤ W.heap.size →
    CallsIn F n P g (#[.func (.yield l) #[] #[]] ++ lb) W fun e W' => (∃ v, e = .returned v) ∧ ((∃ xs, S xs ∧ J xs W') ∨ (∃ pre, Sp pre ∧ Jx pre W'))

section
variable {F : Fence} {n : Nat} {P : Program}

/-- The two blocks of a loop's book-keeping. -/
def Books (B : Nat) (rc : Loop) (W : World) : Prop := W.heap[B + 1]? = some (.loop rc) ∧ W.heap[B]? = some (.deferred (some []))
theorem Books.grown {B m : Nat} {rc : Loop} {A W : World} {row : Option Nat} (h : Books B rc A) (hg : A.grownBy W row) (hr : ∀ r, row = some r → m ≤ r) (hm : B + 2 ≤ m) : Books B rc W :=
  ⟨(hg.block _ (Array.getElem?_eq_some_iff.1 h.1).1 (fun e => by have := hr _ e.symm; omega)).trans h.1, (hg.block _ (Array.getElem?_eq_some_iff.1 h.2).1 (fun e => by have := hr _ e.symm; omega)).trans h.2⟩
theorem Books.kept {B : Nat} {rc : Loop} {A W : World} (h : Books B rc A) (hk : KeepsFrom B A W) : Books B rc W :=
  ⟨hk.same _ _ (by omega) h.1 rfl, hk.same _ _ (Nat.le_refl _) h.2 rfl⟩
theorem Books.put {B : Nat} {rc rc' : Loop} {W : World} (h : Books B rc W) : Books B rc' (W.putObj (B + 1) (.loop rc')) :=
  ⟨World.putObj_heap_same (Array.getElem?_eq_some_iff.1 h.1).1, (World.putObj_heap_other (by omega)).trans h.2⟩

theorem wpIn_rangeO {α : Type} {g : Operand} {ps : Array Tmp} {assign body : Code} {Q : Exit → Act → World → Prop} {a : Act} {w : World}
    (hro : F.round = none) (h1 : 1 ≤ n) {gf : Nat} {lb : Array Value} (hg : a.eval g = .func (.func gf) #[] lb) (hFg : F.fn gf) (eg : ∀ args w, (callFunc gf args).run P w = .ok (.enter gf args) w)
    {encs : α → Array Value} {Bl : Option Nat} {n₀ : Nat} {S Sp : List α → Prop} {N : Nat} {w0 : World} (hseq : SeqStopsO F (n - 1) P gf lb encs Bl n₀ (w.heap.size + 2) S Sp N w0)
    (hBl : ∀ b, Bl = some b → b < w.heap.size) (hn₀ : n₀ ≤ w.heap.size) (hb0 : Below w0.heap.size w0 w) (hps : ∀ x, (encs x).size = ps.size)
    (I : List α → World → Prop) (Ix : Code → List α → World → Prop) (hIr : ∀ pre W, I pre W → ∀ k, rowOf Bl W = some k → ∃ o : Obj, W.heap[k]? = some o ∧ o.isCells = true) (hI : OwnFrom w.heap.size I) (hIx : ∀ c, OwnFrom w.heap.size (Ix c)) (h0 : I [] w) (Ax : α → Act → World → Prop) (hAx : ∀ x a', OwnFrom w.heap.size (fun (_ : Unit) W => Ax x a' W))
    (hassign : ∀ (l : Nat) (pre : List α) (x : α) (W : World) (K : Act → World → Prop), I pre W → (∀ a' W', KeepsFrom w.heap.size W W' → Kept Bl n₀ (w.heap.size + 2) W W' → I pre W' → Ax x a' W' → K a' W') →
      assign.wpIn (F.inRound l) (n - 1 - 1) P (Exit.then K (fun _ _ _ => False)) { tmps := (ps.zip (encs x)).foldl (fun t (p, v) => t.setIfInBounds p v) a.tmps, defers := [] } W)
    (hbody : ∀ (l : Nat) (pre : List α) (x : α) (a' : Act) (W : World), I pre W → Ax x a' W → pre.length < N → body.wpIn (F.inRound l) (n - 1 - 1) P (ownPostG w.heap.size (Kept Bl n₀ (w.heap.size + 2)) I Ix (pre ++ [x]) W) a' W)
    (hdone : ∀ (D : Nat) (xs : List α) (W : World), w.heap.size ≤ D → S xs → I xs W → W.heap[D]? = some (.deferred (some [])) → Q .normal { a with defers := { target := .collected D, args := #[] } :: a.defers } W)
    (hstop : ∀ (D : Nat) (c : Code) (pre : List α) (W : World), w.heap.size ≤ D → Sp pre → Ix c pre W → W.heap[D]? = some (.deferred (some [])) → c.wpIn F n P Q { a with defers := { target := .collected D, args := #[] } :: a.defers } W) :
    (Code.rangeFunc g ps assign body).wpIn F n P Q a w := by
  refine wpIn_rangeFunc ?_
  intro fn hfn
  rw [hro]
  let rc : LoopState → Option Code → Loop := fun st pe => { state := st, pending := pe, fn, tmps := a.tmps, params := ps, assign, body, defers := w.heap.size }
  have bk0 : Books w.heap.size (rc .ready none) ((w.alloc (.deferred (some []))).alloc (.loop (rc .ready none))) := by
    constructor
    · have := World.alloc_heap_new (w.alloc (.deferred (some []))) (.loop (rc .ready none)); rwa [World.size_alloc] at this
    · exact (Below.heap_alloc _ _ _ (by simp)).trans (World.alloc_heap_new w _)
  have hI1 : I [] ((w.alloc (.deferred (some []))).alloc (.loop (rc .ready none))) := hI.alloc _ (hI.alloc _ h0)
  have hb1 : Below w0.heap.size w0 ((w.alloc (.deferred (some []))).alloc (.loop (rc .ready none))) := hb0.trans ((((Below.refl _ w).alloc (Nat.le_refl _) _).alloc (by simp) _).mono hb0.size)
  have hW1s : ((w.alloc (.deferred (some []))).alloc (.loop (rc .ready none))).heap.size = w.heap.size + 2 := by simp
  obtain ⟨W1, hW1⟩ : ∃ W1, (w.alloc (.deferred (some []))).alloc (.loop (rc .ready none)) = W1 := ⟨_, rfl⟩
  rw [hW1] at bk0 hI1 hb1 hW1s
  refine ⟨w.heap.size + 1, [{ target := .collected w.heap.size, args := #[] }], W1, { target := .fn (.func gf) lb, args := #[.func (.yield (w.heap.size + 1)) #[] #[]] }, W1, gf,
    #[.func (.yield (w.heap.size + 1)) #[] #[]] ++ lb, W1, by rw [← hW1]; exact run_enterLoop_outer _ _ _ _ _, ?_, ?_, ?_, fun _ => h1, ?_⟩
  · simp only [resolve, hg]
    simp [go_sem]
  · intro f' hf'; simp [Target.leads] at hf'; subst hf'; exact hFg
  · simp [invoke, go_sem, eg]
  · refine (hseq (w.heap.size + 1) (fun pre W => I pre W ∧ Books w.heap.size (rc .ready none) W) (fun pre W => ∃ c, Ix c pre W ∧ Books w.heap.size (rc .done (some c)) W) W1 hb1
      (fun s A W row hs hg' hr => ⟨hI s A W row hs.1 hg' (fun r e => ⟨by have := (hr r e).1; omega, (hr r e).2⟩), hs.2.grown hg' (fun r e => (hr r e).1) (by omega)⟩)
      (fun s A W row hs hg' hr => by
        obtain ⟨c, hc, hk⟩ := hs
        exact ⟨c, hIx c s A W row hc hg' (fun r e => ⟨by have := (hr r e).1; omega, (hr r e).2⟩), hk.grown hg' (fun r e => (hr r e).1) (by omega)⟩)
      (fun pre W h => hIr pre W h.1) ?_ ⟨hI1, bk0⟩ (by omega)).mono ?_
    · rintro pre x W ⟨hi, hk⟩ hlen
      refine ⟨fn, _, assign, body, run_yield (P := P) (args := encs x) hk.1 (hps x), roundIn_of_wpIn hfn (hassign _ pre x W _ hi ?_)⟩
      intro a' Wa hkf hkp hia hax
      have hka := hk.kept hkf
      refine ⟨_, run_beginRound hka.1 rfl, ?_⟩
      have hk2 : Books w.heap.size (rc .busy none) (Wa.putObj (w.heap.size + 1) (.loop (rc .busy none))) := hka.put
      have hKb : ∀ (X : World) (o : Obj), Kept Bl n₀ (w.heap.size + 2) X (X.putObj (w.heap.size + 1) o) := fun X o => by
        have hb : Below (w.heap.size + 1) X (X.putObj (w.heap.size + 1) o) := ⟨rfl, rfl, rfl, by simp, fun k hk => World.putObj_heap_other (by omega)⟩
        exact ⟨hb.mono (by omega), by simp, fun k hk _ _ => World.putObj_heap_other (by omega), .inl (rowOf_below (fun b e => Nat.lt_succ_of_lt (hBl b e)) hb)⟩
      have hw2 := hKb Wa (.loop (rc .busy none))
      refine wpIn_mono (hbody _ pre x a' _ (hI.putObj _ hia (by omega) hka.1 rfl) ((hAx x a').putObj (s := ()) _ hax (by omega) hka.1 rfl) hlen) ?_
      have hkq : ∀ {W3 : World} {o : Obj}, KeepsFrom w.heap.size (Wa.putObj (w.heap.size + 1) (.loop (rc .busy none))) W3 → KeepsFrom (w.heap.size + 2) W (W3.putObj (w.heap.size + 1) o) := fun h =>
        (KeepsFrom.up hkf (by omega)).trans ((keepsFrom_put _ _ (by omega)).trans ((KeepsFrom.up h (by omega)).trans (keepsFrom_put _ _ (by omega))))
      rintro e a3 W3 hp
      cases e with
      | normal =>
        obtain ⟨hk3, hkp3, hi3⟩ := hp
        have hb3 := hk2.kept hk3
        exact ⟨_, _, run_endRound none hb3.1, .inl ⟨rfl, ⟨hI.putObj _ hi3 (by omega) hb3.1 rfl, hb3.put⟩, hkp.trans ((hw2.trans hkp3).trans (hKb _ _))⟩⟩
      | ret =>
        have hb3 := hk2.kept hp.1
        exact ⟨_, _, run_endRound (some .ret) hb3.1, .inr ⟨rfl, ⟨.ret, (hIx _).putObj _ hp.2 (by omega) hb3.1 rfl, hb3.put⟩, hkq hp.1⟩⟩
      | exit id =>
        have hb3 := hk2.kept hp.1
        exact ⟨_, _, run_endRound (some (.exit id)) hb3.1, .inr ⟨rfl, ⟨.exit id, (hIx _).putObj _ hp.2 (by omega) hb3.1 rfl, hb3.put⟩, hkq hp.1⟩⟩
      | goto t =>
        have hb3 := hk2.kept hp.1
        exact ⟨_, _, run_endRound (some (.goto t)) hb3.1, .inr ⟨rfl, ⟨.goto t, (hIx _).putObj _ hp.2 (by omega) hb3.1 rfl, hb3.put⟩, hkq hp.1⟩⟩
      | panic ch => exact hp.elim
      | outgrown => exact hp.elim
    · rintro e W2 ⟨⟨v, rfl⟩, (⟨xs, hS, hi, hk⟩ | ⟨pre, hSp, c, hi, hk⟩)⟩
      · exact ⟨none, _, run_endLoop (P := P) hk.1 (by simp [rc]), hdone _ xs _ (Nat.le_refl _) hS (hI.putObj _ hi (by omega) hk.1 rfl) (hk.put (rc' := { rc .ready none with state := .exhausted })).2⟩
      · exact ⟨some c, _, run_endLoop (P := P) hk.1 (by simp [rc]), hstop _ c pre _ (Nat.le_refl _) hSp ((hIx c).putObj _ hi (by omega) hk.1 rfl) (hk.put (rc' := { rc .done (some c) with state := .exhausted })).2⟩
end

end Go.Proofs.YtmbjjheaddhmeaaGreatDoor
