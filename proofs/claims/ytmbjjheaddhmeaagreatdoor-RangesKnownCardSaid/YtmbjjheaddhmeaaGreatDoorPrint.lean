/- Print. -/
import Derived.Test.YtmbjjheaddhmeaaGreatDoorVals
import Derived.Test.YtmbjjheaddhmeaaGreatDoorAll
import Derived.Test.YtmbjjheaddhmeaaGreatDoorFmt
import Derived.Test.YtmbjjheaddhmeaaGreatDoorSh
namespace Go.Proofs.YtmbjjheaddhmeaaGreatDoor
open Go.RowKit Go.Shelf
attribute [local go_sem] Oper.semAt_some

theorem builder_same {T e : TypeId} {B b : Nat} {bs : List Value} {w w' : World} (h : Lib.IsBuilderF T e B b bs w) (hk : ∀ (k : Nat) (o : Obj), w.heap[k]? = some o → o.isCells = true → w'.heap[k]? = some o) : Lib.IsBuilderF T e B b bs w' := by
  have one : ∀ p, Lib.BuilderAtF T e B b p bs w → Lib.BuilderAtF T e B b p bs w' := by
    rintro p ⟨hB, v, hb, ho, hne⟩
    refine ⟨hB, v, hk _ _ hb rfl, ⟨ho.1, ?_⟩, hne⟩
    rcases ho.2 with hn | ⟨g, cap, cur, fz, rfl, hg, hgg, rest⟩
    · exact .inl hn
    · exact .inr ⟨g, cap, cur, fz, rfl, hg, hk _ _ hgg rfl, rest⟩
  exact h.elim (fun x => .inl (one _ x)) (fun x => .inr (one _ x))
theorem builder_below {T e : TypeId} {B b : Nat} {bs : List Value} {w w' : World} (h : Lib.IsBuilderF T e B b bs w) (hb : Below w.heap.size w w') : Lib.IsBuilderF T e B b bs w' :=
  builder_same h fun k _ hk _ => (hb.block k (Array.getElem?_eq_some_iff.1 hk).1).trans hk
theorem builder_own {T e : TypeId} {B b : Nat} {bs : List Value} {A W : World} {row : Option Nat} (hs : Lib.IsBuilderF T e B b bs A) (hg : A.grownBy W row) (hr : ∀ r, row = some r → ∃ o : Obj, A.heap[r]? = some o ∧ o.isCells = false) : Lib.IsBuilderF T e B b bs W :=
  builder_same hs fun k o hk ho => (hg.block k (Array.getElem?_eq_some_iff.1 hk).1 (fun e => by obtain ⟨o', h1, h2⟩ := hr k e.symm; rw [hk] at h1; cases h1; rw [ho] at h2; cases h2)).trans hk
theorem byteCells_append (a b : List UInt8) : Lib.byteCells a ++ Lib.strCells ⟨b.toArray⟩ = Lib.byteCells (a ++ b) := by simp [Lib.byteCells, Lib.strCells]
theorem keeps_below {w w' : World} (hb : Below w.heap.size w w') : KeepsOthers w w' := ⟨hb.size, fun k _ hk _ => (hb.block k (Array.getElem?_eq_some_iff.1 hk).1).trans hk⟩
theorem keeps_builder {T e : TypeId} {B b : Nat} {bs : List Value} {w w' : World} (h : Lib.IsBuilderF T e B b bs w) (hB : Below B w w') (hk : Lib.OthersKept e (some b) w w') : KeepsOthers w w' := by
  have hc : ∃ cs fr, w.heap[b]? = some (.cells cs T fr) := h.elim (fun ⟨_, v, hb, _⟩ => ⟨_, _, hb⟩) (fun ⟨_, v, hb, _⟩ => ⟨_, _, hb⟩)
  obtain ⟨cs, fr, hc⟩ := hc
  refine ⟨hB.size, fun k o ho hn => hk k o ho ?_ ?_⟩
  · rintro e; cases e; rw [hc] at ho; cases ho; cases hn
  · rintro c fz rfl; cases hn

theorem span_kept {N Bx : Nat} {p q : Int} {W2 W3 : World} (hO : Lib.OthersKept 5 (some N) W2 W3) (hne : N < Bx) (h : W2.heap[Bx]? = some (.cells #[.int .i32 p, .int .i32 q] 39 (0, 0))) :
    W3.cell? ⟨Bx, 0, none⟩ = some (.int .i32 p) ∧ W3.cell? ⟨Bx, 1, none⟩ = some (.int .i32 q) := by
  have h3 := hO Bx _ h (fun e => absurd (Option.some.inj e) (Nat.ne_of_gt hne)) (by rintro c fz h; cases h)
  exact ⟨by simp [World.cell?, h3], by simp [World.cell?, h3]⟩

/-- A span as Print writes it; a set's text. -/
def sp1 (x : Int × Int) : List UInt8 := wr x.1 ++ if x.1 = x.2 then [] else 45 :: wr x.2
def printF (l : List (Int × Int)) : List UInt8 := 91 :: l.flatMap sp1 ++ [93]
theorem wr_len (r : Int) : (wr r).length ≤ 10 := by
  unfold wr; have := hexK_len 5 (r - 1114112).toNat; have := hexK_len 5 r.toNat; split <;> simp <;> omega
theorem sp1_len (x : Int × Int) : (sp1 x).length ≤ 25 := by
  have h1 := wr_len x.1; have h2 := wr_len x.2
  unfold sp1; split <;> simp <;> omega
theorem flat1_len (l : List (Int × Int)) : (l.flatMap sp1).length ≤ 25 * l.length := by
  induction l with
  | nil => simp
  | cons x l ih => have := sp1_len x; simp at *; omega
theorem len_fact1 (l : List (Int × Int)) (r : Int) (h : l.length ≤ 1000000) : (Lib.byteCells (91 :: l.flatMap sp1)).length + (⟨(wr r).toArray⟩ : ByteArray).size ≤ 140737488355328 := by
  have h1 := flat1_len l; have h2 := wr_len r
  have e : (⟨(wr r).toArray⟩ : ByteArray).size = (wr r).length := List.size_toArray
  rw [e]; simp only [Lib.byteCells, List.length_map, List.length_cons]; omega
theorem len_fact2 (l : List (Int × Int)) (r r' : Int) (h : l.length ≤ 1000000) : (Lib.byteCells (91 :: l.flatMap sp1) ++ Lib.strCells ⟨(wr r).toArray⟩).length + (⟨(45 :: wr r').toArray⟩ : ByteArray).size ≤ 140737488355328 := by
  have h1 := flat1_len l; have h2 := wr_len r; have h3 := wr_len r'
  have e : (⟨(45 :: wr r').toArray⟩ : ByteArray).size = (45 :: wr r').length := List.size_toArray
  rw [e]; simp only [Lib.byteCells, Lib.strCells, List.length_map, List.length_cons, List.length_append]; omega
theorem sp1_eq {x : Int × Int} (h : x.1 = x.2) : sp1 x = wr x.1 := by unfold sp1; rw [if_pos h]; exact List.append_nil _
theorem sp1_ne {x : Int × Int} (h : x.1 ≠ x.2) : sp1 x = wr x.1 ++ 45 :: wr x.2 := by unfold sp1; rw [if_neg h]
theorem dash (l : List UInt8) : (⟨#[45]⟩ : ByteArray) ++ ⟨l.toArray⟩ = ⟨(45 :: l).toArray⟩ := by apply ByteArray.ext; simp
theorem brack (l : List UInt8) : (⟨(91 :: l).toArray⟩ : ByteArray) ++ ⟨#[93]⟩ = ⟨(91 :: (l ++ [93])).toArray⟩ := by apply ByteArray.ext; simp
attribute [local irreducible] wr sp1 hexK

set_option maxRecDepth 100000 in
set_option maxHeartbeats 4000000 in
theorem print_walk (pb : Nat) (v : Value) (zs : List BSp) (w : World) (hc : w.cell? ⟨pb, 0, none⟩ = some v) (hI : Spans w v (zs.map bval)) (hl : zs.length ≤ 1000000) (hd : Db w) (hg : 6 < w.heap.size) :
    Calls Tryz.prog 37 #[.pointer (some ⟨pb, 0, none⟩)] w fun e w' => e = .returned (.string ⟨(printF (zs.map bval)).toArray⟩) ∧ Below w.heap.size w w' := by
  have hvs : ∃ a n c, v = .slice a n c := by obtain ⟨a, c, rfl, _⟩ := hI; exact ⟨_, _, _, rfl⟩
  have HI := Lib.hid hI
  have y1 : pb < w.heap.size := cell_lt hc
  refine (callsIn_wide (n := 4)).1 ?_
  have hro : Fence.wide.round = none := rfl
  have f5 : Fence.wide.fn 88 := trivial
  have f6 : Fence.wide.fn 132 := trivial
  have f7 : Fence.wide.fn 157 := trivial
  have g1 : Fence.wide.fn 87 := trivial
  have g2 : Fence.wide.fn 89 := trivial
  have g3 : Fence.wide.fn 91 := trivial
  have g4 : Fence.wide.fn 90 := trivial
  have h1 : 1 ≤ 4 := by omega
  clear hI
  refine callsIn_of_wp_marks Tryz.func37 rfl trivial ?_ hro
  simp only [Tryz.ntmps37, List.size_toArray, List.length_cons, List.length_nil, Nat.reduceAdd, Nat.reduceSub, Array.replicate_succ, Array.replicate_zero, List.push_toArray, List.append_toArray, List.nil_append, List.cons_append]
  have hA0 : Below w.heap.size w (w.alloc (.cells #[.pointer none, .slice none 0 0] 139)) := (Below.refl _ w).alloc (Nat.le_refl _) _
  gi_wp2_with (first
    | (gi_at_call 87; refine (callsIn_wide.2 (Tryz.Builder_WriteByte_k w.heap.size w.heap.size [] 91 _ (Lib.IsBuilderF.of (Lib.fresh_isBuilder 139 5 w)) (by simp) (by simp))).mono ?_; rintro e W1 ⟨rfl, hA1, hB1, hO1⟩)
    | (gi_at_call 88; refine (rows_in Fence.wide (4 - 1) f5 f6 hro (by omega) pb v hvs _ (((hA0.trans hB1).cell (p := ⟨pb, 0, none⟩) y1).trans hc)).mono ?_; rintro e w' ⟨rfl, rfl⟩))
  have hB0 : Below w.heap.size w W1 := hA0.trans hB1
  have y2 : w.heap.size < W1.heap.size := hA1.lt
  have hB2 : Below w.heap.size w (W1.alloc (.cells #[v] 22)) := hB0.alloc (Nat.le_of_lt y2) _
  refine wpIn_rangeFunc_ownH hro h1 (gf := 157) (lb := #[.pointer (some ⟨W1.heap.size, 0, none⟩)]) rfl f7 (enters_of Tryz.func157 (by kernel_rfl) rfl)
    (values_stops bval Fence.wide (4 - 1) f7 hro (by omega) W1.heap.size w.heap.size v zs hl _ (by simp) (by simp; omega) (Boxed.new W1 22 v).cell w (Nat.le_refl _) HI.out hB2) belowK_t (belowK_b (by simp; omega)) (Below.refl _ _) (fun _ => rfl)
    (fun pre W => Lib.IsBuilderF 139 5 w.heap.size w.heap.size (Lib.byteCells (91 :: (pre.map bval).flatMap sp1)) W ∧ Below w.heap.size w W)
    (fun _ _ _ => False)
    (OwnFrom.and (fun s A B row hs hg hr => builder_own hs hg (fun r e => (hr r e).2)) (ownFrom_below (Nat.le_refl _) (by simp; omega)))
    (fun _ _ _ _ _ hs _ _ => hs)
    ⟨.inr (hA1.alloc _), hB2⟩
    (fun x a' W => ∃ Bx : Nat, (w.heap.size < Bx ∧ Bx < W.heap.size) ∧ W.heap[Bx]? = some (.cells #[.int .i32 x.1.1, .int .i32 x.1.2] 39 (0, 0)) ∧
      a' = { tmps := #[.pointer (some ⟨pb, 0, none⟩), undef, .string ⟨#[]⟩, .pointer (some ⟨w.heap.size, 0, none⟩), .pointer (some ⟨Bx, 0, none⟩), .nilIface, .pointer (some ⟨pb, 0, none⟩), .func (.func 157) #[] #[.pointer (some ⟨W1.heap.size, 0, none⟩)], .agg #[.int .i32 x.1.1, .int .i32 x.1.2], undef, undef, undef, undef, undef, undef, undef, undef, undef, undef, undef, undef, undef, undef, undef, undef, undef, undef], defers := [] })
    (fun x a' s A B row hs hg hr => by
      obtain ⟨Bx, h1, h2, h4⟩ := hs
      exact ⟨Bx, ⟨h1.1, Nat.lt_of_lt_of_le h1.2 hg.size⟩, (hg.block Bx h1.2 (fun e => by obtain ⟨_, o', h3, h5⟩ := hr Bx e.symm; rw [h2] at h3; cases h3; cases h5)).trans h2, h4⟩) ?assign ?body ?done ?stop
  case assign =>
    rintro l pre x W K ⟨hb, hB⟩ hK
    have hsx : spV (bval x) = .agg #[.int .i32 x.1.1, .int .i32 x.1.2] := rfl
    gi_wp2
    have hsz := hB.size
    have hlt : w.heap.size < W.heap.size := hb.elim (fun h => h.lt) (fun h => h.lt)
    have BA := (Below.refl W.heap.size W).alloc (Nat.le_refl _) (.cells #[.int .i32 x.1.1, .int .i32 x.1.2] 39)
    refine hK _ _ ((KeepsOthers.alloc _ _).from _) ((Below.refl _ W).alloc hB.size (.cells #[.int .i32 x.1.1, .int .i32 x.1.2] 39)) ⟨hb.alloc _, hB.trans (BA.mono hsz)⟩ ⟨W.heap.size, ⟨hlt, by simp⟩, heap_alloc_new _ _, rfl⟩
  case body =>
    rintro l pre x a' W hl ⟨r, hr⟩ ⟨hb, hB⟩ ⟨Bx, hBx, d0, rfl⟩ hlt
    obtain ⟨⟨p, q⟩, hx⟩ := x
    have dW : Db W := (hB.cell (p := ⟨6, 15, none⟩) hg).trans hd
    have y3 := hB.size
    have hpl : (pre.map bval).length ≤ 1000000 := by rw [List.length_map]; omega
    have L1 := Lib.hid (len_fact1 (pre.map bval) p hpl)
    have L2 := Lib.hid (len_fact2 (pre.map bval) p q hpl)
    clear hpl
    have y5 : 6 < W.heap.size := Nat.lt_of_lt_of_le hg y3
    have eE : 91 :: ((pre ++ [(⟨(p, q), hx⟩ : BSp)]).map bval).flatMap sp1 = (91 :: (pre.map bval).flatMap sp1) ++ sp1 (p, q) := by simp [bval]
    have EE := Lib.hid eE
    clear eE
    dsimp only at d0 hx ⊢
    have d1 : W.cell? ⟨Bx, 0, none⟩ = some (.int .i32 p) := by simp [World.cell?, d0]
    by_cases hpq : p = q
    · subst hpq
      have hsx := Lib.hid (sp1_eq (x := (p, p)) rfl)
      gi_wp2_with (first
        | (gi_at_call 90; refine (CallsIn.inRound l (callsIn_wide.2 (written_any p hx.1 hx.2.1 W dW y5))).mono ?_; rintro e W2 ⟨rfl, hB2⟩; have hb2 := builder_below hb hB2; have HW := Lib.hid hb2)
        | (gi_at_call 89; refine (CallsIn.inRound l (callsIn_wide.2 (Tryz.Builder_WriteString_k w.heap.size w.heap.size _ ⟨(wr p).toArray⟩ W2 hb2 L1.out (Nat.le_trans y3 hB2.size)))).mono ?_; rintro e W3 ⟨rfl, hA3, hB3, hO3⟩; obtain ⟨c1, c2⟩ := span_kept hO3 hBx.1 ((hB2.block Bx hBx.2).trans d0)))
      have hBW : Below w.heap.size W W3 := (hB2.mono y3).trans hB3
      refine ⟨((keeps_below hB2).trans (keeps_builder hb2 hB3 hO3)).from _, hBW, ?_, hB.trans hBW⟩
      rw [byteCells_append] at hA3
      rw [EE.out, hsx.out]
      exact .inr hA3
    · have hsx := Lib.hid (sp1_ne (x := (p, q)) hpq)
      have hqp : (q == p) = false := beq_eq_false_iff_ne.2 (fun e => hpq e.symm)
      have hwl := wr_len q
      gi_wp2_with (first
        | (gi_at_call 89; rw [dash]; refine (CallsIn.inRound l (callsIn_wide.2 (Tryz.Builder_WriteString_k w.heap.size w.heap.size _ ⟨(45 :: wr q).toArray⟩ W4 hb4 L2.out (Nat.le_trans y3 (Nat.le_trans hB2.size (Nat.le_trans hB3.size hB4.size)))))).mono ?_; rintro e W5 ⟨rfl, hA5, hB5, hO5⟩)
        | (gi_at_call 90; refine (CallsIn.inRound l (callsIn_wide.2 (written_any q hx.2.2.1 hx.2.2.2 W3 dW3 (Nat.lt_of_lt_of_le y5 (Nat.le_trans hB2.size hB3.size))))).mono ?_; rintro e W4 ⟨rfl, hB4⟩; have hb4 := builder_below (.inr hA3) hB4)
        | (gi_at_call 89; refine (CallsIn.inRound l (callsIn_wide.2 (Tryz.Builder_WriteString_k w.heap.size w.heap.size _ ⟨(wr p).toArray⟩ W2 hb2 L1.out (Nat.le_trans y3 hB2.size)))).mono ?_; rintro e W3 ⟨rfl, hA3, hB3, hO3⟩; have dW3 : Db W3 := (((hB2.mono y3).trans hB3).cell (p := ⟨6, 15, none⟩) hg).trans dW; obtain ⟨c1, c2⟩ := span_kept hO3 hBx.1 ((hB2.block Bx hBx.2).trans d0))
        | (gi_at_call 90; refine (CallsIn.inRound l (callsIn_wide.2 (written_any p hx.1 hx.2.1 W dW y5))).mono ?_; rintro e W2 ⟨rfl, hB2⟩; have hb2 := builder_below hb hB2; have HW := Lib.hid hb2))
      have hBW : Below w.heap.size W W3 := (hB2.mono y3).trans hB3
      have y6 : w.heap.size ≤ W3.heap.size := Nat.le_trans y3 (Nat.le_trans hB2.size hB3.size)
      have hBV : Below w.heap.size W W5 := hBW.trans ((hB4.mono y6).trans hB5)
      refine ⟨((keeps_below hB2).trans ((keeps_builder hb2 hB3 hO3).trans ((keeps_below hB4).trans (keeps_builder hb4 hB5 hO5)))).from _, hBV, ?_, hB.trans hBV⟩
      rw [byteCells_append, byteCells_append] at hA5
      rw [EE.out, hsx.out, ← List.append_assoc]
      exact .inr hA5
  case done =>
    rintro D ys W hD rfl ⟨hb, hB⟩ hK
    have hfl := flat1_len (ys.map bval)
    have hll : (ys.map bval).length ≤ 1000000 := by rw [List.length_map]; exact hl
    have e91 : (91 :: (ys.map bval).flatMap sp1).length + 1 ≤ 9223372036854775807 := by rw [List.length_cons]; omega
    have e92 : printF (ys.map bval) = 91 :: ((ys.map bval).flatMap sp1 ++ [93]) := rfl
    clear hfl hll
    obtain ⟨T, hT⟩ : ∃ T, (ys.map bval).flatMap sp1 = T := ⟨_, rfl⟩
    rw [hT] at e91 e92 hb
    have e93 := e91
    rw [List.length_cons] at e93
    have HE := Lib.hid e92
    clear hT e92 e91
    gi_wp2_with (gi_at_call 91; refine (callsIn_wide.2 (Tryz.Builder_String_any_k w.heap.size w.heap.size _ W hb (by have := hB.size; omega))).mono ?_; rintro e W2 ⟨rfl, hb2, hB2, hO2⟩)
    have y7 : w.heap.size < D := by simp at hD; omega
    have hK2 : W2.heap[D]? = some (.deferred (some [])) := hO2 D _ hK (fun e => absurd (Option.some.inj e) (Nat.ne_of_gt y7)) (by rintro c fz h; cases h)
    refine ⟨by simp, .inl ⟨_, _, rfl, run_takeDeferred hK2, ?_⟩⟩
    refine ⟨_, results_tmp rfl _ _ _, ?_, (hB.trans hB2).trans (belowK_b (w := w) (Nat.le_refl _) W2 D _ _ (Nat.le_of_lt y7) hK2 rfl rfl)⟩
    rw [HE.out]
    show Ending.returned (.string (_ ++ _)) = _
    rw [brack]
  case stop =>
    rintro D c pre W _ _ h _
    exact h.elim

theorem print_any (p : Value) (l : List (Int × Int)) (w : World) (hp : IsSet w p l) (hb : Bd l) (hl : l.length ≤ 1000000) (hd : Db w) (hg : 6 < w.heap.size) :
    Calls Tryz.prog 37 #[p] w fun e w' => e = .returned (.string ⟨(printF l).toArray⟩) ∧ Below w.heap.size w w' := by
  obtain ⟨b, v, rfl, hc, hs⟩ := hp
  obtain ⟨zs, rfl⟩ := bsp_mk l hb
  exact print_walk b v zs w hc hs (by simpa using hl) hd hg

end Go.Proofs.YtmbjjheaddhmeaaGreatDoor
