/- (*Set).All: all points of a set, in their order. -/
import Derived.Test.YtmbjjheaddhmeaaGreatDoorCount
import Derived.Test.YtmbjjheaddhmeaaGreatDoorRange
namespace Go.Proofs.YtmbjjheaddhmeaaGreatDoor
open Go.RowKit Go.Shelf
attribute [local go_sem] Oper.semAt_some

/-- The points from r on, to hi. -/
def runF : Nat → Int → Int → List Int
  | 0, _, _ => []
  | g + 1, r, hi => if r ≤ hi then r :: runF g (nextP r) hi else []
def runL (x : Int × Int) : List Int := runF (x.2 - x.1 + 1).toNat x.1 x.2
def allF (l : List (Int × Int)) : List Int := l.flatMap runL
theorem nextP_gt (r : Int) : r < nextP r := by unfold nextP; split <;> (try split) <;> omega
theorem runF_stop (g : Nat) (r hi : Int) (h : ¬ r ≤ hi) : runF g r hi = [] := by
  cases g with
  | zero => rfl
  | succ g => rw [runF, if_neg h]
theorem runF_fuel (g : Nat) : ∀ (g' : Nat) (r hi : Int), (hi - r + 1).toNat ≤ g → (hi - r + 1).toNat ≤ g' → runF g r hi = runF g' r hi := by
  induction g with
  | zero => intro g' r hi h _; rw [runF_stop g' r hi (by omega)]; rfl
  | succ g ih =>
    intro g' r hi h h'
    by_cases hr : r ≤ hi
    · cases g' with
      | zero => omega
      | succ g' =>
        have := nextP_gt r
        rw [runF, runF, if_pos hr, if_pos hr, ih g' (nextP r) hi (by omega) (by omega)]
    · rw [runF_stop _ _ _ hr, runF_stop _ _ _ hr]
theorem runL_step {r hi : Int} (h : r ≤ hi) : runL (r, hi) = r :: runL (nextP r, hi) := by
  have := nextP_gt r
  show runF (hi - r + 1).toNat r hi = r :: runF (hi - nextP r + 1).toNat (nextP r) hi
  obtain ⟨g, hg⟩ : ∃ g, (hi - r + 1).toNat = g + 1 := ⟨(hi - r + 1).toNat - 1, by omega⟩
  rw [hg, runF, if_pos h, runF_fuel g (hi - nextP r + 1).toNat (nextP r) hi (by omega) (by omega)]
theorem runL_stop {r hi : Int} (h : ¬ r ≤ hi) : runL (r, hi) = [] := runF_stop _ _ _ h
theorem runF_len (g : Nat) : ∀ r hi, (runF g r hi).length ≤ g := by
  induction g with
  | zero => intro r hi; simp [runF]
  | succ g ih => intro r hi; rw [runF]; split <;> simp; exact ih _ _

/-- A point of the spans l. -/
abbrev PtA (l : List (Int × Int)) : Type := { r : Int // r ∈ allF l }
abbrev SpA (l : List (Int × Int)) : Type := { x : Int × Int // x ∈ l }
def sval {l : List (Int × Int)} (x : SpA l) : Int × Int := x.1
def ptv {l : List (Int × Int)} (ys : List (PtA l)) : List Int := ys.map Subtype.val
theorem ptv_append {l : List (Int × Int)} (a b : List (PtA l)) : ptv (a ++ b) = ptv a ++ ptv b := by simp [ptv]
theorem sval_all (l : List (Int × Int)) : ∃ zs : List (SpA l), zs.map sval = l := ⟨l.attach, List.attach_map_subtype_val l⟩

set_option maxHeartbeats 1000000 in
theorem all_in (F : Fence) (n : Nat) (h5 : F.fn 98) (hro : F.round = none) (p : Option Addr) (w : World) :
    CallsIn F n Tryz.prog 98 #[.pointer p] w fun e w' => e = .returned (.func (.func 135) #[] #[.pointer (some ⟨w.heap.size, 0, none⟩)]) ∧ w' = w.alloc (.cells #[.pointer p] 25) := by
  refine callsIn_of_wp Tryz.func98 rfl h5 ?_ hro
  simp only [Tryz.ntmps98, List.size_toArray, List.length_cons, List.length_nil, Nat.reduceAdd, Nat.reduceSub, Array.replicate_succ, Array.replicate_zero, List.push_toArray, List.append_toArray, List.nil_append, List.cons_append]
  gi_wp2
  go_ret
  exact ⟨rfl, rfl⟩

theorem ptv_inj {l : List (Int × Int)} {a b : List (PtA l)} (h : ptv a = ptv b) : a = b := (List.map_inj_right (fun _ _ h => Subtype.ext h)).1 h
theorem allF_snoc (l : List (Int × Int)) (x : Int × Int) : allF (l ++ [x]) = allF l ++ runL x := by simp [allF]
theorem allF_prefix {a l : List (Int × Int)} (h : a <+: l) : allF a <+: allF l := by
  obtain ⟨t, rfl⟩ := h; exact ⟨allF t, by simp [allF]⟩
theorem runL_mem {l : List (Int × Int)} {x : Int × Int} (hx : x ∈ l) {r : Int} (hr : r ∈ runL x) : r ∈ allF l := List.mem_flatMap.2 ⟨x, hx, hr⟩
theorem allF_len (l : List (Int × Int)) (hb : Bd l) : (allF l).length ≤ 1114368 * l.length := by
  induction l with
  | nil => simp [allF]
  | cons x l ih =>
    have h1 := ih (fun y hy => hb y (List.mem_cons_of_mem _ hy))
    have h2 := hb x List.mem_cons_self
    have h3 := runF_len (x.2 - x.1 + 1).toNat x.1 x.2
    simp only [allF, List.flatMap_cons, List.length_append, List.length_cons] at *
    have h4 : (runL x).length ≤ 1114368 := by unfold runL; omega
    omega

theorem roundAny {m m' k : Nat} {P : Program} {l : Nat} {f : FuncId} {tmps : Array Value} {assign body : Code} {w : World} {R : Ending → World → Prop}
    (h : RoundIn Fence.wide m P l f tmps assign body w R) : RoundIn (Fence.wide.inRound k) m' P l f tmps assign body w R :=
  ⟨h.1, fun c cs _ => h.2 c cs (fun d hd => by cases hd)⟩
theorem mem_app_allF {l : List (Int × Int)} {pre : List (SpA l)} {x : Int × Int} (hx : x ∈ l) {r : Int} (hr : r ∈ allF (pre.map sval) ++ runL x) : r ∈ allF l := by
  rcases List.mem_append.1 hr with h | h
  · obtain ⟨y, hy, hr⟩ := List.mem_flatMap.1 h
    obtain ⟨z, _, rfl⟩ := List.mem_map.1 hy
    exact runL_mem z.2 hr
  · exact runL_mem hx h
theorem len_app_allF {l : List (Int × Int)} (hb : Bd l) {pre : List (SpA l)} {x : Int × Int} (hx : x ∈ l) (hp : pre.length < 1000000) {ps : List (PtA l)} {t : List Int} (h : ptv ps ++ t = allF (pre.map sval) ++ runL x) : ps.length < 1114368 * 1000000 + 1 := by
  have h1 := congrArg List.length h
  have h2 := allF_len (pre.map sval) (fun y hy => by obtain ⟨z, _, rfl⟩ := List.mem_map.1 hy; exact hb _ z.2)
  have h3 := hb x hx
  have h4 : (runL x).length ≤ 1114368 := by have := runF_len (x.2 - x.1 + 1).toNat x.1 x.2; unfold runL; omega
  simp only [List.length_append, List.length_map, ptv] at h1 h2
  omega

/-- What the iterator keeps for itself: the box of yield. -/
structure MyBox (Bl : Option Nat) (l y : Nat) (X : World) : Prop where
  cell : X.cell? ⟨y, 0, none⟩ = some (.func (.yield l) #[] #[])
  row : rowOf Bl X ≠ some y
theorem MyBox.grown {Bl : Option Nat} {l y B : Nat} {X Y : World} {row : Option Nat} (h : MyBox Bl l y X) (hBl : ∀ b, Bl = some b → b < B) (hB : B ≤ X.heap.size) (hg : X.grownBy Y row) (hr : ∀ r, row = some r → B ≤ r ∧ ∃ o : Obj, X.heap[r]? = some o ∧ o.isCells = false) : MyBox Bl l y Y :=
  ⟨cell_kept h.cell hg (fun r e => (hr r e).2), by rw [rowOf_grown hBl hB hg (fun r e => (hr r e).1)]; exact h.row⟩
theorem MyBox.kept {Bl : Option Nat} {l y n₀ B : Nat} {X Y : World} (h : MyBox Bl l y X) (hk : Kept Bl n₀ B X Y) (hy : B ≤ y) : MyBox Bl l y Y := by
  have hlt : y < X.heap.size := cell_lt h.cell
  refine ⟨?_, hk.row_ne hlt h.row⟩
  have := hk.same y hy hlt h.row
  have hc := h.cell
  simp only [World.cell?] at hc ⊢
  rw [this]; exact hc

set_option maxRecDepth 100000 in
set_option maxHeartbeats 4000000 in
theorem all1_stops (n : Nat) (hn : 4 ≤ n) (l : List (Int × Int)) (hbd : Bd l) (hl : l.length ≤ 1000000) (pb Bs n₀ B : Nat) (v : Value) (Bl : Option Nat) (hBl : ∀ b, Bl = some b → b < B) (w0 w : World) (hw0 : w0.heap.size ≤ n₀) (hn₀ : n₀ ≤ w.heap.size) (hnB : n₀ ≤ B) (hb0 : Below w0.heap.size w0 w)
    (hc : w0.cell? ⟨pb, 0, none⟩ = some v) (hI : Spans w0 v l) (hBs : w.cell? ⟨Bs, 0, none⟩ = some (.pointer (some ⟨pb, 0, none⟩))) :
    SeqStopsO Fence.wide n Tryz.prog 135 #[.pointer (some ⟨Bs, 0, none⟩)] (fun x : PtA l => #[.int .i32 x.1]) Bl n₀ B (fun ys => ptv ys = allF l) (fun pre => ptv pre <+: allF l) (1114368 * 1000000 + 1) w := fun k J Jx W hW hJ hJx hJr hY h0 hBW => by
  have hro : Fence.wide.round = none := rfl
  have h1 : 1 ≤ n := by omega
  have h2 : 1 ≤ n - 1 - 1 := by omega
  have f5 : Fence.wide.fn 88 := trivial
  have f6 : Fence.wide.fn 132 := trivial
  have f7 : Fence.wide.fn 157 := trivial
  have f8 : Fence.wide.fn 74 := trivial
  obtain ⟨zs, hzs⟩ := sval_all l
  have hvs : ∃ a n c, v = .slice a n c := by obtain ⟨a, c, rfl, _⟩ := hI; exact ⟨_, _, _, rfl⟩
  have y1 : pb < w0.heap.size := cell_lt hc
  have y2 : Bs < w.heap.size := cell_lt hBs
  have hnW : n₀ ≤ W.heap.size := Nat.le_trans hn₀ hW.size
  have hbW : Below w0.heap.size w0 W := hb0.trans (hW.mono (Nat.le_trans hw0 hn₀))
  have hAY : Below W.heap.size W (W.alloc (.cells #[.func (.yield k) #[] #[]] 78)) := (Below.refl _ W).alloc (Nat.le_refl _) _
  have cBs : (W.alloc (.cells #[.func (.yield k) #[] #[]] 78)).cell? ⟨Bs, 0, none⟩ = some (.pointer (some ⟨pb, 0, none⟩)) := (hAY.cell (p := ⟨Bs, 0, none⟩) (Nat.lt_of_lt_of_le y2 hW.size)).trans ((hW.cell (p := ⟨Bs, 0, none⟩) y2).trans hBs)
  have cpb : (W.alloc (.cells #[.func (.yield k) #[] #[]] 78)).cell? ⟨pb, 0, none⟩ = some v := (hAY.cell (p := ⟨pb, 0, none⟩) (Nat.lt_of_lt_of_le y1 (Nat.le_trans hw0 hnW))).trans ((hbW.cell (p := ⟨pb, 0, none⟩) y1).trans hc)
  have HI := Lib.hid hI
  have HB := Lib.hid hBl
  have HJr := Lib.hid hJr
  have HY := Lib.hid hY
  have rW : ∀ j, rowOf Bl W = some j → j < W.heap.size := fun j e => by obtain ⟨o, h, _⟩ := hJr _ _ h0 _ e; exact (Array.getElem?_eq_some_iff.1 h).1
  have bY0 : MyBox Bl k W.heap.size ((W.alloc (.cells #[.func (.yield k) #[] #[]] 78)).alloc (.cells #[v] 22)) := by
    refine ⟨?_, ?_⟩
    · exact ((Below.refl _ (W.alloc (.cells #[.func (.yield k) #[] #[]] 78))).alloc (Nat.le_refl _) _).cell (p := ⟨W.heap.size, 0, none⟩) (by simp) |>.trans (by simp)
    · rw [rowOf_below (B := B) hBl (hAY.mono hBW |>.alloc (by simp; omega) _)]
      intro e; have := rW _ e; omega
  have BY0 := Lib.hid bY0
  have HR := Lib.hid rW
  have HJ := Lib.hid hJ
  have HJx := Lib.hid hJx
  clear hI hBl hJr hY bY0 rW hJ hJx
  refine callsIn_of_wp_marks Tryz.func135 rfl trivial ?_ hro
  simp only [Tryz.ntmps135, List.size_toArray, List.length_cons, List.length_nil, Nat.reduceAdd, Nat.reduceSub, Array.replicate_succ, Array.replicate_zero, List.push_toArray, List.append_toArray, List.nil_append, List.cons_append]
  gi_wp2_with (gi_at_call 88; refine (rows_in Fence.wide (n - 1) trivial trivial hro (by omega) pb v hvs _ cpb).mono ?_; rintro e w' ⟨rfl, rfl⟩)
  have hW2 : Below W.heap.size W ((W.alloc (.cells #[.func (.yield k) #[] #[]] 78)).alloc (.cells #[v] 22)) := hAY.alloc (by simp) _
  have hJ2 : J [] ((W.alloc (.cells #[.func (.yield k) #[] #[]] 78)).alloc (.cells #[v] 22)) := HJ.out.alloc _ (HJ.out.alloc _ h0)
  have hS2 : Spans w0 v (zs.map sval) := by rw [hzs]; exact HI.out
  have hb2 : Below w0.heap.size w0 ((W.alloc (.cells #[.func (.yield k) #[] #[]] 78)).alloc (.cells #[v] 22)) := hbW.trans (hW2.mono (Nat.le_trans hw0 hnW))
  have hz2 : ((W.alloc (.cells #[.func (.yield k) #[] #[]] 78)).alloc (.cells #[v] 22)).heap.size = W.heap.size + 2 := by simp
  have bN := (Boxed.new (W.alloc (.cells #[.func (.yield k) #[] #[]] 78)) 22 v).cell
  rw [World.size_alloc] at bN
  obtain ⟨W2, hW2d⟩ : ∃ W2, (W.alloc (.cells #[.func (.yield k) #[] #[]] 78)).alloc (.cells #[v] 22) = W2 := ⟨_, rfl⟩
  rw [hW2d] at BY0 hW2 hJ2 hb2 hz2 bN ⊢
  clear hW2d cBs cpb
  refine wpIn_rangeFunc_ownH hro h1 (gf := 157) (lb := #[.pointer (some ⟨W.heap.size + 1, 0, none⟩)]) rfl trivial (enters_of Tryz.func157 (by kernel_rfl) rfl)
    (values_stops sval Fence.wide (n - 1) trivial hro (by omega) (W.heap.size + 1) n₀ v zs (by have := congrArg List.length hzs; rw [List.length_map] at this; omega) W2 (by omega) (by omega) bN w0 hw0 hS2 hb2) belowK_t (belowK_b (by omega)) (Below.refl _ _) (fun _ => rfl)
    (fun pre X => ∃ qs, ptv qs = allF (pre.map sval) ∧ J qs X ∧ MyBox Bl k W.heap.size X ∧ W2.heap.size ≤ X.heap.size)
    (fun c pre X => c = .ret ∧ ∃ q, ptv q <+: allF (pre.map sval) ∧ Jx q X)
    (fun s X Z row hs hg hr => by
      obtain ⟨qs, e, hj, hm, hz⟩ := hs
      exact ⟨qs, e, HJ.out _ _ _ _ hj hg (fun r e => ⟨by have := (hr r e).1; omega, (hr r e).2⟩), hm.grown HB.out (by omega) hg (fun r e => ⟨by have := (hr r e).1; omega, (hr r e).2⟩), Nat.le_trans hz hg.size⟩)
    (fun c s X Z row hs hg hr => by
      obtain ⟨e1, q, e, hj⟩ := hs
      exact ⟨e1, q, e, HJx.out _ _ _ _ hj hg (fun r e => ⟨by have := (hr r e).1; omega, (hr r e).2⟩)⟩)
    ⟨[], rfl, hJ2, BY0.out, Nat.le_refl _⟩
    (fun x a' X => ∃ Bx : Nat, (B ≤ Bx ∧ Bx < X.heap.size) ∧ rowOf Bl X ≠ some Bx ∧ X.heap[Bx]? = some (.cells #[.int .i32 x.1.1, .int .i32 x.1.2] 39 (0, 0)) ∧ W2.heap.size ≤ X.heap.size ∧
      a' = { tmps := #[.func (.yield k) #[] #[], .pointer (some ⟨Bs, 0, none⟩), .pointer (some ⟨W.heap.size, 0, none⟩), .pointer (some ⟨Bx, 0, none⟩), undef, .pointer (some ⟨pb, 0, none⟩), .func (.func 157) #[] #[.pointer (some ⟨W.heap.size + 1, 0, none⟩)], .agg #[.int .i32 x.1.1, .int .i32 x.1.2], undef, undef, undef, undef, undef, undef, undef, undef, undef, undef, undef, undef], defers := [] })
    (fun x a' s X Z row hs hg hr => by
      obtain ⟨Bx, g1, g2, g3, g4, g5⟩ := hs
      exact ⟨Bx, ⟨g1.1, Nat.lt_of_lt_of_le g1.2 hg.size⟩, by rw [rowOf_grown HB.out (by omega) hg (fun r e => by have := (hr r e).1; omega)]; exact g2, (hg.block Bx g1.2 (fun e => by obtain ⟨_, o', h3, h5⟩ := hr Bx e.symm; rw [g3] at h3; cases h3; cases h5)).trans g3, Nat.le_trans g4 hg.size, g5⟩) ?assign ?body ?done ?stop
  case assign =>
    rintro l' pre x X K ⟨qs, e, hj, hm, hz⟩ hK
    have hsx : spV (sval x) = .agg #[.int .i32 x.1.1, .int .i32 x.1.2] := rfl
    have BA := (Below.refl X.heap.size X).alloc (Nat.le_refl _) (.cells #[.int .i32 x.1.1, .int .i32 x.1.2] 39)
    have hgr := World.grownBy_alloc X (.cells #[.int .i32 x.1.1, .int .i32 x.1.2] 39) none
    have HK := Lib.hid hK
    have HE := Lib.hid e
    clear hK e
    gi_wp2
    refine HK.out _ _ ((KeepsOthers.alloc _ _).from _) (BA.mono (by omega)) ⟨qs, HE.out, HJ.out.alloc _ hj, hm.grown HB.out (by omega) hgr (fun r e => by cases e), by simp; omega⟩ ⟨X.heap.size, ⟨by omega, by simp⟩, ?_, heap_alloc_new _ _, by simp; omega, rfl⟩
    rw [rowOf_grown (B := B) HB.out (by omega) hgr (fun r e => by cases e)]
    intro e; obtain ⟨o, h, _⟩ := HJr.out _ _ hj _ e
    have := (Array.getElem?_eq_some_iff.1 h).1; omega
  case body =>
    rintro l' pre x a' X hl' ⟨rc, hrc⟩ ⟨qs, e, hj, hm, hz⟩ ⟨Bx, hBx, hrx, hx, hz', rfl⟩ hlt
    obtain ⟨⟨lo, hi⟩, hmem⟩ := x
    obtain ⟨b1, b2, b3, b4⟩ := hbd _ hmem
    have hlen : pre.length < 1000000 := by have := congrArg List.length hzs; rw [List.length_map] at this; omega
    have hev : sval (⟨(lo, hi), hmem⟩ : SpA l) = (lo, hi) := rfl
    dsimp only at hx b1 b2 b3 b4
    have HE := Lib.hid e
    have HR := Lib.hid hrx
    have c0 : X.cell? ⟨Bx, 0, none⟩ = some (.int .i32 lo) := by simp [World.cell?, hx]
    clear e hrx
    gi_wp2
    gi_loopw [4] (fun rv wr => ∃ (r : Int) (ps : List (PtA l)), rv = .int .i32 r ∧ 0 ≤ r ∧ r ≤ 1114368 ∧ Hid (ptv ps ++ runL (r, hi) = allF (pre.map sval) ++ runL (lo, hi)) ∧ J ps wr ∧ MyBox Bl k W.heap.size wr ∧ Below n₀ X wr ∧ KeepsFrom B X wr ∧ X.heap.size ≤ wr.heap.size ∧
        Hid (rowOf Bl wr ≠ some Bx) ∧ wr.heap[Bx]? = some (.cells #[.int .i32 lo, .int .i32 hi] 39 (0, 0)))
      (fun rv _ => (1114369 - intOf rv).toNat)
    case atStart => exact ⟨lo, qs, rfl, b1, by omega, by rw [HE.out]; rfl, hj, hm, Below.refl _ _, KeepsFrom.refl _ _, Nat.le_refl _, HR.out, hx⟩
    case round =>
      obtain ⟨r, ps, rfl, r0, r1, HP, hjr, hmr, hbr, hkr, hsr, HRr, hxr⟩ := hrel
      clear c0 hx hj hm
      have c1 : wr.cell? ⟨Bx, 1, none⟩ = some (.int .i32 hi) := by simp [World.cell?, hxr]
      have cy := hmr.cell
      by_cases hle : r ≤ hi
      · have hst := runL_step hle
        have hmr' : r ∈ allF l := mem_app_allF hmem (by rw [← HP.out, hst]; simp)
        have hln := len_app_allF hbd hmem hlen HP.out
        obtain ⟨fn, tmps, assign, body, hy, hR⟩ := HY.out ps ⟨r, hmr'⟩ wr hjr hln
        dsimp only at hy
        have HST := Lib.hid hst
        have HRR := Lib.hid (roundAny (k := l') (m' := n - 1 - 1 - 1) hR)
        have hJr2 := Lib.hid (HJr.out ps wr hjr)
        have hbx : Bx < wr.heap.size := (Array.getElem?_eq_some_iff.1 hxr).1
        clear hst hR hln
        gi_wp2
        refine HRR.out.mono ?_
        rintro e W3 (⟨rfl, hJ3, hk3⟩ | ⟨rfl, hJx3, hk3⟩)
        · have hnx := fun W => (next_any r r0 (by omega) W)
          have hng := nextP_gt r
          have hn2 : nextP r ≤ 1114368 := by unfold nextP; split <;> (try split) <;> omega
          have hs3 := hk3.same Bx hBx.1 hbx HRr.out
          gi_wp2_with (gi_at_call 74; refine (CallsIn.inRound l' (callsIn_wide.2 (hnx _))).mono ?_; rintro e w' ⟨rfl, rfl⟩)
          go_roundw
          case rel => exact ⟨nextP r, ps ++ [⟨r, hmr'⟩], rfl, by omega, hn2, by rw [ptv_append, List.append_assoc, ← HP.out, HST.out]; rfl, hJ3, hmr.kept hk3 (by omega), hbr.trans hk3.below, hkr.trans (hk3.keepsFrom hJr2.out), Nat.le_trans hsr hk3.size, hk3.row_ne hbx HRr.out, hs3.trans hxr⟩
          case measure => simp [intOf]; omega
        · gi_wp2
          refine ⟨KeepsFrom.up (hkr.trans hk3) (by omega), rfl, ps ++ [⟨r, hmr'⟩], ?_, hJx3⟩
          rw [List.map_append, List.map_singleton, allF_snoc, hev, ← HP.out, HST.out, ptv_append]
          exact ⟨runL (nextP r, hi), by simp [ptv]⟩
      · have hst := runL_stop (r := r) (hi := hi) hle
        have HQ : Hid (ptv ps = allF (pre.map sval) ++ runL (lo, hi)) := Lib.hid (by rw [← HP.out, hst, List.append_nil])
        clear hst HP
        gi_wp2
        refine ⟨KeepsFrom.up hkr (by omega), hbr, ps, ?_, hjr, hmr, by omega⟩
        rw [List.map_append, List.map_singleton, allF_snoc, hev, HQ.out]
  case done =>
    rintro D ys X hD rfl ⟨qs, e, hj, hm, hz⟩ hK
    gi_wp2
    refine ⟨by simp, .inl ⟨_, _, rfl, run_takeDeferred hK, ?_⟩⟩
    exact ⟨_, results_none rfl _ _ _, ⟨_, rfl⟩, .inl ⟨qs, by rw [e, hzs], HJ.out.putObj _ hj (by omega) hK rfl⟩⟩
  case stop =>
    rintro D c pre X hD hpre ⟨rfl, q, hq, hj⟩ hK
    gi_wp2
    refine ⟨by simp, .inl ⟨_, _, rfl, run_takeDeferred hK, ?_⟩⟩
    refine ⟨_, results_none rfl _ _ _, ⟨_, rfl⟩, .inr ⟨q, ?_, HJx.out.putObj _ hj (by omega) hK rfl⟩⟩
    refine hq.trans (allF_prefix ?_)
    obtain ⟨t, ht⟩ := hpre
    have : pre.map sval <+: zs.map sval := ⟨t.map sval, by rw [← List.map_append, ht]⟩
    rw [hzs] at this
    exact this

end Go.Proofs.YtmbjjheaddhmeaaGreatDoor
