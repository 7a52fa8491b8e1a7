/- RangesBack: the walk. -/
import Derived.Test.YtmbjjheaddhmeaaGreatDoorBack
import Derived.Test.YtmbjjheaddhmeaaGreatDoorCls
import Derived.OneCell
import Derived.Deep.DeepCutAuto
import Derived.Deep.RegionHeld3
import Derived.StillTactics
namespace Go.Proofs.YtmbjjheaddhmeaaGreatDoor
open Go.RowKit Go.Shelf
theorem yielded_undef : yielded.match_1 (motive := fun _ => Option Bool) (some undef) (fun b => some b) (fun _ => none) = none := rfl
attribute [local go_sem] Oper.semAt_some yielded_undef

theorem printF_size (l : List (Int × Int)) (h : l.length ≤ 200) : (⟨(printF l).toArray⟩ : ByteArray).size ≤ 100000 := by
  have := flat1_len l
  show (printF l).toArray.size ≤ _
  rw [List.size_toArray]
  simp [printF] at *; omega
theorem list_of_mk (l : List UInt8) : (⟨l.toArray⟩ : ByteArray).data.toList = l := by simp

/-- Parse of what Print printed. -/
theorem parse_print (l : List (Int × Int)) (w : World) (h : RdOk w) (hp : Pts l) (hc : Can 0 (l.map nm)) (hl : l.length ≤ 200) :
    Calls Tryz.prog 26 #[.string ⟨(printF l).toArray⟩] w fun e w' => ∃ b, e = .returned (.tuple #[.pointer (some ⟨b, 0, none⟩), .nilIface]) ∧ Rep w' (.pointer (some ⟨b, 0, none⟩)) (fun r => memB r (l.map nm)) 200 ∧ Below w.heap.size w w' := by
  refine (parse_any _ w (printF_size l hl) h).mono ?_
  rintro e w' ⟨⟨no, k, hr, _⟩ | ⟨r, b, hr, rfl, hs⟩, hB⟩
  · rw [list_of_mk, parseF_print hp hc] at hr; cases hr
  · rw [list_of_mk, parseF_print hp hc] at hr
    injection hr with hr
    subst hr
    exact ⟨b, rfl, ⟨l, hs, hp, hc, hl, fun _ _ _ => rfl⟩, hB⟩

theorem intro_act {F : Fence} {n : Nat} {P : Program} {c : Code} {Q : Exit → Act → World → Prop} {a : Act} {w : World} (h : ∀ A0, A0 = a → c.wpIn F n P Q A0 w) : c.wpIn F n P Q a w := h a rfl

/-- What lies in memory while RangesBack runs: its result, its set, and what reading needs. -/
structure Bk (rb ab ba : Nat) (l : List (Int × Int)) (X : World) : Prop where
  res : X.heap[rb]? = some (.cells #[.bool false] 4 (0, 0))
  a : X.heap[ab]? = some (.cells #[.pointer (some ⟨ba, 0, none⟩)] 25 (0, 0))
  set : IsSet X (.pointer (some ⟨ba, 0, none⟩)) l
  ok : RdOk X
theorem Bk.below {rb ab ba : Nat} {l : List (Int × Int)} {X Y : World} (h : Bk rb ab ba l X) (hb : Below X.heap.size X Y) : Bk rb ab ba l Y :=
  ⟨(hb.block _ (Array.getElem?_eq_some_iff.1 h.res).1).trans h.res, (hb.block _ (Array.getElem?_eq_some_iff.1 h.a).1).trans h.a, h.set.below hb, h.ok.below hb⟩
theorem Bk.cells {rb ab ba : Nat} {l : List (Int × Int)} {X : World} (h : Bk rb ab ba l X) :
    X.cell? ⟨rb, 0, none⟩ = some (.bool false) ∧ X.frozen? ⟨rb, 0, none⟩ = false ∧ X.cell? ⟨ab, 0, none⟩ = some (.pointer (some ⟨ba, 0, none⟩)) := by
  simp [World.cell?, World.frozen?, h.res, h.a]
theorem Bk.rep {rb ab ba : Nat} {l : List (Int × Int)} {X : World} (h : Bk rb ab ba l X) (hp : Pts l) (hc : Can 0 (l.map nm)) (hl : l.length ≤ 200) : Rep X (.pointer (some ⟨ba, 0, none⟩)) (fun r => memB r (l.map nm)) 200 := ⟨l, h.set, hp, hc, hl, fun _ _ _ => rfl⟩

theorem has_true {p : Value} {l : List (Int × Int)} {k : Nat} {w : World} {r : Int} (hp : Rep w p (fun r => memB r (l.map nm)) k) (hk : k ≤ 90000) (h1 : ptB r = true) (h2 : memB (numP r) (l.map nm) = true) :
    Calls Tryz.prog 39 #[p, .int .i32 r] w fun e w' => e = .returned (.bool true) ∧ Below w.heap.size w w' := by
  have := numP_pt h1
  refine (has_rep (r := r) hp hk (by omega) (by omega)).mono ?_
  rintro e w' ⟨rfl, hB⟩
  rw [h1, h2]
  exact ⟨rfl, hB⟩

set_option maxRecDepth 100000 in
set_option maxHeartbeats 40000000 in
theorem back_any {v : Value} {l0 : List (Int × Int)} {w : World} (hv : Spans w v l0) (h : RdOk w) :
    Calls Tryz.prog 79 #[v] w fun e w' => e = .returned (.bool true) ∧ Below w.heap.size w w' := by
  refine (callsIn_wide (n := 9)).1 ?_
  have hro : Fence.wide.round = none := rfl
  have h1 : 1 ≤ 9 := by omega
  have f1 : Fence.wide.fn 125 := trivial
  have f2 : Fence.wide.fn 12 := trivial
  have f3 : Fence.wide.fn 37 := trivial
  have f4 : Fence.wide.fn 26 := trivial
  have f5 : Fence.wide.fn 126 := trivial
  have f6 : Fence.wide.fn 15 := trivial
  have f7 : Fence.wide.fn 8 := trivial
  have f8 : Fence.wide.fn 39 := trivial
  have f9 : Fence.wide.fn 98 := trivial
  have f10 : Fence.wide.fn 38 := trivial
  have bA := (Below.refl w.heap.size w).alloc (Nat.le_refl _) (.cells #[.bool false] 4)
  have hv1 := hv.below bA
  have H := Lib.hid h
  clear hv h
  refine callsIn_of_wp_marks Tryz.func79 rfl trivial ?_ hro
  simp only [Tryz.ntmps79, List.size_toArray, List.length_cons, List.length_nil, Nat.reduceAdd, Nat.reduceSub, Array.replicate_succ, Array.replicate_zero, List.push_toArray, List.append_toArray, List.nil_append, List.cons_append]
  refine wpIn_wide.2 ?_
  go_wp2_with (go_at_call 125; refine ((some_rep hv1)).mono ?_; rintro e w1 ⟨p, P, rfl, hR, hB1⟩; obtain ⟨ba, rfl⟩ := hR.ptr; obtain ⟨l, i1, i2, i3, i4, _⟩ := hR; have B1 : Bk w.heap.size w1.heap.size ba l (w1.alloc (.cells #[.pointer (some ⟨ba, 0, none⟩)] 25)) := ⟨((Below.refl _ w1).alloc (Nat.le_refl _) _).block _ (Nat.lt_of_lt_of_le (by simp) hB1.size) |>.trans ((hB1.block w.heap.size (by simp)).trans (heap_alloc_new w _)), heap_alloc_new w1 _, i1.below ((Below.refl _ w1).alloc (Nat.le_refl _) _), ((H.out.below bA).below hB1).below ((Below.refl _ w1).alloc (Nat.le_refl _) _)⟩; have hb1 : Below w.heap.size w (w1.alloc (.cells #[.pointer (some ⟨ba, 0, none⟩)] 25)) := (bA.trans (hB1.mono (by simp))).alloc (Nat.le_trans (by simp) hB1.size) _)
  have I2 := Lib.hid i2
  have I3 := Lib.hid i3
  clear i2 i3 i1 H bA hv1 hB1
  go_wp2_with (first
    | (go_at_call 12; refine ((works_any B1.ok.1 B1.ok.2.1)).mono ?_; rintro e w2 ⟨rfl, hB2⟩; have B2 := B1.below hB2; obtain ⟨r2, z2, c2⟩ := B2.cells)
    | (go_at_call 37; refine ((print_any _ l w2 B2.set I2.out.bd (by omega) B2.ok.1 B2.ok.2.1)).mono ?_; rintro e w3 ⟨rfl, hB3⟩; have B3 := B2.below hB3; obtain ⟨r3, z3, c3⟩ := B3.cells)
    | (go_at_call 26; refine ((parse_print l w3 B3.ok I2.out I3.out i4)).mono ?_; rintro e w4 ⟨bb, rfl, hR4, hB4⟩; have B4 := B3.below hB4; obtain ⟨r4, z4, c4⟩ := B4.cells)
    | (go_at_call 126; refine ((same_rep (B4.rep I2.out I3.out i4) hR4 (by omega) (fun _ => rfl) B4.ok.1 B4.ok.2.1)).mono ?_; rintro e w5 ⟨rfl, hB5⟩; have B5 := B4.below hB5; obtain ⟨r5, z5, c5⟩ := B5.cells)
    | (go_at_call 15; refine ((spans_any _ l w5 B5.set (by omega))).mono ?_; rintro e w6 ⟨vx, rfl, ho6, hB6⟩; have B6 := B5.below hB6; obtain ⟨r6, z6, c6⟩ := B6.cells; have S6 := Spans.of_owns ho6; clear ho6)
    | (go_at_call 8; refine ((of_rep_can S6 (by omega) I2.out I3.out)).mono ?_; rintro e w7 ⟨bc, rfl, hR7, hB7⟩; have B7 := B6.below hB7; obtain ⟨r7, z7, c7⟩ := B7.cells; have S7 := S6.below hB7))
  have hbw7 : Below w.heap.size w w7 := hb1.trans ((hB2.mono hb1.size).trans ((hB3.mono (by have := hB2.size; have := hb1.size; omega)).trans ((hB4.mono (by have := hB2.size; have := hB3.size; have := hb1.size; omega)).trans ((hB5.mono (by have := hB2.size; have := hB3.size; have := hB4.size; have := hb1.size; omega)).trans ((hB6.mono (by have := hB2.size; have := hB3.size; have := hB4.size; have := hB5.size; have := hb1.size; omega)).trans (hB7.mono (by have := hB2.size; have := hB3.size; have := hB4.size; have := hB5.size; have := hB6.size; have := hb1.size; omega)))))))
  clear r2 z2 c2 r3 z3 c3 r4 z4 c4 r5 z5 c5 r6 z6 c6 r7 z7 c7 B1 B2 B3 B4 B5 B6 hB2 hB3 hB4 hB5 hB6 hB7 hb1 S6 hR4
  obtain ⟨ax, cx, rfl, hA7⟩ := S7
  have S7 : Spans w7 (.slice ax l.length cx) l := ⟨ax, cx, rfl, hA7⟩
  obtain ⟨rb, hrb⟩ : ∃ rb, rb = w.heap.size := ⟨_, rfl⟩
  obtain ⟨ab, hab⟩ : ∃ ab, ab = w1.heap.size := ⟨_, rfl⟩
  obtain ⟨nb, hnb⟩ : ∃ nb, nb = w7.heap.size := ⟨_, rfl⟩
  have toX : ∀ X, Below nb w7 X → (Bk rb ab ba l X ∧ Rep X (.pointer (some ⟨bc, 0, none⟩)) (fun r => memB r (l.map nm)) l.length ∧ Rep X (.pointer (some ⟨ba, 0, none⟩)) (fun r => memB r (l.map nm)) 200) ∧ Below w.heap.size w X := by
    rw [hnb, hrb, hab]
    intro X hX
    exact ⟨⟨B7.below hX, hR7.below hX, (B7.rep I2.out I3.out i4).below hX⟩, hbw7.trans (hX.mono hbw7.size)⟩
  have TX := Lib.hid toX
  have HRBs := Lib.hid hrb
  have hb8s := Lib.hid (Nat.le_trans hbw7.size (Nat.le_of_eq hnb.symm))
  have SX : Hid (l = [] ∨ ∃ bx ox, ax = some ⟨bx, ox, none⟩ ∧ ∀ X, Below nb w7 X → ∀ j, j < l.length → X.cell? ⟨bx, ox + j * 2, none⟩ = some (.int .i32 (l[j]?.getD (0, 0)).1) ∧ X.cell? ⟨bx, ox + j * 2 + 1, none⟩ = some (.int .i32 (l[j]?.getD (0, 0)).2)) := by
    rcases hA7 with h | ⟨bx, ox, rfl, hA⟩
    · exact .inl h
    · refine .inr ⟨bx, ox, rfl, fun X hX j hj => ?_⟩
      rw [hnb] at hX
      exact ⟨(hX.cell (p := ⟨bx, ox + j * 2, none⟩) (cell_lt (hA j hj).1)).trans (hA j hj).1, (hX.cell (p := ⟨bx, ox + j * 2 + 1, none⟩) (cell_lt (hA j hj).2)).trans (hA j hj).2⟩
  have W7 := Lib.hid (⟨B7.set, hnb⟩ : IsSet w7 (.pointer (some ⟨ba, 0, none⟩)) l ∧ nb = w7.heap.size)
  have n8 := heap_alloc_new w7 (.cells #[.int .i64 0] 3)
  have hb8 : Below nb w7 (w7.alloc (.cells #[.int .i64 0] 3)) := by rw [hnb]; exact (Below.refl _ w7).alloc (Nat.le_refl _) _
  rw [← hrb, ← hab, ← hnb]
  rw [← hnb] at n8
  obtain ⟨w8, hw8⟩ : ∃ w8, w7.alloc (.cells #[.int .i64 0] 3) = w8 := ⟨_, rfl⟩
  rw [hw8] at n8 hb8 ⊢
  clear hw8 hnb hab hrb toX B7 hR7 hbw7 hA7 S7
  go_loopw [9] (fun iv wr => ∃ k : Nat, iv = .int .i64 k ∧ k ≤ l.length ∧ wr.heap[nb]? = some (.cells #[.int .i64 0] 3 (0, 0)) ∧ Below nb w7 wr)
    (fun iv _ => l.length - (intOf iv).toNat)
  case atStart => exact ⟨0, rfl, Nat.zero_le _, n8, hb8⟩
  case round =>
    obtain ⟨k, rfl, hk, n9, hb9⟩ := hrel
    clear n8 hb8
    obtain ⟨⟨B9, -, R9⟩, -⟩ := TX.out _ hb9
    by_cases hlt : k < l.length
    · obtain ⟨p1, p2, p3, p4, p5, p6⟩ := can_at I2.out I3.out k hlt
      rcases SX.out with h | ⟨bx, ox, rfl, hA⟩
      · subst h; simp at hlt
      obtain ⟨a1, a2⟩ := hA _ hb9 k hlt
      have q1 := numP_pt p1
      have q2 := numP_pt p2
      have hlt' : (k : Int) < (l.length : Int) := by omega
      obtain ⟨-, -, cc⟩ := B9.cells
      have RH := Lib.hid R9
      clear R9 B9
      have d1 : decide ((l[k]?.getD (0, 0)).2 < (l[k]?.getD (0, 0)).1) = false := by simp; omega
      have hk00 : (0 : Int) ≤ (k : Int) := Int.natCast_nonneg _
      have nbk : nb < wr.heap.size := (Array.getElem?_eq_some_iff.1 n9).1
      have k1 := AbW.cell a1
      have k2 := AbW.cell a2
      have k4 := AbW.cell cc
      by_cases hk0 : 0 < k
      · obtain ⟨a3, a4⟩ := hA _ hb9 (k - 1) (by omega)
        have p7 := p6 hk0
        have q3 := numP_pt (can_at I2.out I3.out (k - 1) (by omega)).2.1
        have k3 := AbW.cell a4
        generalize (l[k - 1]?.getD (0, 0)).2 = ph at *
        generalize l[k]?.getD (0, 0) = xk at *
        obtain ⟨lo, hi⟩ := xk
        dsimp only at *
        clear hA p6 a3
        have hk01 : decide (0 < k) = true := by simpa using hk0
        have hk02 : (0 : Int) ≤ (k : Int) - 1 := by omega
        have hk03 : (k : Int) - 1 < (l.length : Int) := by omega
        have hk04 : ((k : Int) - 1).toNat = k - 1 := by omega
        have hk05 : IntKind.i64.wrap ((k : Int) - 1) = (k : Int) - 1 := IntWalk.i64_in _ (by omega)
        have hk06 : IntKind.i32.wrap (ph + 1) = ph + 1 := IntWalk.i32_in _ (by omega)
        have hk07 : decide (lo ≤ ph + 1) = false := by simp; omega
        go_wp2_with fail
        go_upto_region 13 with (fail)
        go_cut [95] from 46 to 95 (fun s95 wx => s95 = .bool false ∧ Below wr.heap.size wr wx)
        case first =>
          clear n9 hb9 f1 f2 f3 f4 f5 f6 f7 f8 f9 f10 I2 I3 a1 a2 a4 cc TX SX W7
          have hne := AbW.there wr
          refine wp_region_cls (AbW wr) (by kernel_rfl) (by kernel_rfl) (AbW.drew wr) ?_
          repeat (go_big_quiet_step ((first
            | (go_at_call 39; rename_i u; exact cls_call AbW.keep (has_true (RH.out.below u.ok) (by omega) p1 p4))
            | (go_at_call 39; rename_i u; exact cls_call AbW.keep (has_true (RH.out.below u.ok) (by omega) p2 p5)))))
          refine wpQuiet_nil ?_
          rintro _ ⟨u, rfl⟩
          have hu := Lib.hid u.ok
          go_wp2_with fail
          go_meet
          exact ⟨rfl, hu.out⟩
        case rest =>
          obtain ⟨rfl, hBr⟩ := hcut
          have n10 := (hBr.block nb nbk).trans n9
          have hb10 := hb9.trans (hBr.mono (Nat.le_of_lt nbk))
          clear k1 k2 k3 k4 hk02 hk03 hk04 hk05 hk06 hk07 a1 a2 a4 cc n9 hb9
          go_wp2
          go_roundw
          case rel => exact ⟨k + 1, by go_num, by omega, n10, hb10⟩
          case measure => simp [intOf]; omega
      · generalize l[k]?.getD (0, 0) = xk at *
        obtain ⟨lo, hi⟩ := xk
        dsimp only at *
        clear hA p6
        have hk01 : decide (0 < k) = false := by simpa using hk0
        have HK := Lib.hid hk0
        clear hk0
        go_wp2_with fail
        go_upto_region 13 with (fail)
        go_cut [95] from 46 to 95 (fun s95 wx => s95 = .bool false ∧ Below wr.heap.size wr wx)
        case first =>
          clear n9 hb9 f1 f2 f3 f4 f5 f6 f7 f8 f9 f10 I2 I3 a1 a2 cc TX SX W7
          have hne := AbW.there wr
          refine wp_region_cls (AbW wr) (by kernel_rfl) (by kernel_rfl) (AbW.drew wr) ?_
          repeat (go_big_quiet_step ((first
            | (go_at_call 39; rename_i u; exact cls_call AbW.keep (has_true (RH.out.below u.ok) (by omega) p1 p4))
            | (go_at_call 39; rename_i u; exact cls_call AbW.keep (has_true (RH.out.below u.ok) (by omega) p2 p5)))))
          refine wpQuiet_nil ?_
          rintro _ ⟨u, rfl⟩
          have hu := Lib.hid u.ok
          go_wp2_with fail
          go_meet
          exact ⟨rfl, hu.out⟩
        case rest =>
          obtain ⟨rfl, hBr⟩ := hcut
          have n10 := (hBr.block nb nbk).trans n9
          have hb10 := hb9.trans (hBr.mono (Nat.le_of_lt nbk))
          clear k1 k2 k4 a1 a2 cc n9 hb9
          go_wp2
          go_roundw
          case rel => exact ⟨k + 1, by go_num, by omega, n10, hb10⟩
          case measure => simp [intOf]; omega
    · obtain rfl : k = l.length := by omega
      obtain ⟨-, -, cc⟩ := B9.cells
      have nbk : nb < wr.heap.size := (Array.getElem?_eq_some_iff.1 n9).1
      clear R9
      go_wp2_with (go_at_call 98; refine (callsIn_wide.1 (all_in Fence.wide 3 trivial hro (some ⟨ba, 0, none⟩) _)).mono ?_; rintro e w' ⟨rfl, rfl⟩)
      obtain ⟨⟨ba', vs, e, hcs, hIs⟩, hnb⟩ := W7.out
      injection e with e
      injection e with e
      injection e with e _ _
      subst e
      have hbA : Below nb w7 (wr.alloc (.cells #[.pointer (some ⟨ba, 0, none⟩)] 25)) := hb9.alloc (Nat.le_of_lt nbk) _
      have hAs : (wr.alloc (.cells #[.pointer (some ⟨ba, 0, none⟩)] 25)).heap.size = wr.heap.size + 1 := by simp
      have hBsA : (wr.alloc (.cells #[.pointer (some ⟨ba, 0, none⟩)] 25)).cell? ⟨wr.heap.size, 0, none⟩ = some (.pointer (some ⟨ba, 0, none⟩)) := by simp
      have nA : (wr.alloc (.cells #[.pointer (some ⟨ba, 0, none⟩)] 25)).heap[nb]? = some (.cells #[.int .i64 0] 3 (0, 0)) := (((Below.refl wr.heap.size wr).alloc (Nat.le_refl _) _).block nb nbk).trans n9
      obtain ⟨wA, hwA⟩ : ∃ wA, wr.alloc (.cells #[.pointer (some ⟨ba, 0, none⟩)] 25) = wA := ⟨_, rfl⟩
      rw [hwA] at hbA hAs hBsA nA ⊢
      clear hwA hb9 n9 B9 cc
      have hb70 : Below w7.heap.size w7 wA := by rw [← hnb]; exact hbA
      have u1 : w7.heap.size ≤ nb := by omega
      have u2 : nb ≤ wA.heap.size := by omega
      have HNB := Lib.hid hnb
      clear hnb
      refine (wpIn_wide (n := 9)).1 ?_
      refine intro_act ?_
      intro A0 hA0
      refine wpIn_rangeO hro h1 (gf := 135) (lb := #[.pointer (some ⟨wr.heap.size, 0, none⟩)]) (by rw [hA0]; rfl) trivial (enters_of Tryz.func135 (by kernel_rfl) rfl)
        (all1_stops 8 (by omega) l I2.out.bd (by omega) ba wr.heap.size nb (wA.heap.size + 2) vs none (fun b e => by cases e) w7 wA (by omega) (by omega) (by omega) hb70 hcs hIs hBsA) (fun b e => by cases e) (by omega) (Below.refl _ _) (fun _ => rfl)
        (fun pre X => X.heap[nb]? = some (.cells #[.int .i64 (pre.length : Int)] 3 (0, 0)) ∧ pre.length < 1000 ∧ Below nb w7 X ∧ wA.heap.size ≤ X.heap.size)
        (fun c pre X => c = .exit 2 ∧ pre.length = 1000 ∧ X.heap[nb]? = some (.cells #[.int .i64 (pre.length : Int)] 3 (0, 0)) ∧ Below nb w7 X ∧ wA.heap.size ≤ X.heap.size)
        (fun pre X _ k e => by cases e)
        (fun s X Z row hs hg hr => by
          obtain ⟨g1, g2, g3, g4⟩ := hs
          have hlt := (Array.getElem?_eq_some_iff.1 g1).1
          refine ⟨(hg.block nb hlt (fun e => by have := (hr _ e.symm).1; omega)).trans g1, g2, g3.grown hg (by omega) (fun k e => by have := (hr _ e).1; omega), Nat.le_trans g4 hg.size⟩)
        (fun c s X Z row hs hg hr => by
          obtain ⟨g0, g2, g1, g3, g4⟩ := hs
          have hlt := (Array.getElem?_eq_some_iff.1 g1).1
          refine ⟨g0, g2, (hg.block nb hlt (fun e => by have := (hr _ e.symm).1; omega)).trans g1, g3.grown hg (by omega) (fun k e => by have := (hr _ e).1; omega), Nat.le_trans g4 hg.size⟩)
        ⟨nA, by simp, hbA, Nat.le_refl _⟩
        (fun x a' _ => a' = (({ tmps := A0.tmps, defers := [] } : Act).put (some 98) (.int .i32 x.1)).put (some 10) (.int .i32 x.1))
        (fun x a' s X Z row hs hg hr => hs) ?assign ?body ?done ?stop
      case assign =>
        intro l' pre x X K hI hK
        have HK := Lib.hid hK
        clear hK
        subst hA0
        gi_wp2
        exact HK.out _ _ (KeepsFrom.refl _ _) ⟨Below.refl _ _, Nat.le_refl _, fun _ _ _ _ => rfl, .inl rfl⟩ hI (by first | rfl | simp [Act.put] | (simp only [Act.put]; rfl) | kernel_rfl)
      case body =>
        rintro l' pre x a' X ⟨g1, g2, g3, g4⟩ rfl hlen
        subst hA0
        obtain ⟨x, hx⟩ := x
        obtain ⟨m1, m2⟩ := allF_mem I2.out (can_le I3.out I2.out) hx
        obtain ⟨⟨BX, -, RX⟩, -⟩ := TX.out X g3
        obtain ⟨-, -, cc⟩ := BX.cells
        have cN := cell_of_one g1
        have fN := free_of_one g1
        have nbX : nb < X.heap.size := (Array.getElem?_eq_some_iff.1 g1).1
        have hle : (pre.length : Int) < 1000 := by omega
        have G3 := Lib.hid g3
        clear BX g3
        by_cases h1000 : pre.length + 1 = 1000
        · have hq : ((pre.length : Int) + 1 == 1000) = true := by rw [beq_iff_eq]; omega
          have HQ := Lib.hid h1000
          clear h1000
          gi_wp2_with (gi_at_call 39; refine (CallsIn.inRound l' (callsIn_wide.2 (has_true RX (by omega) m1 m2))).mono ?_; rintro e W2 ⟨rfl, hB2⟩; have g2' := (hB2.block nb nbX).trans g1; have cN2 := cell_of_one g2'; have fN2 := free_of_one g2')
          have hn2 : (W2.setCell ⟨nb, 0, none⟩ (.int .i64 ((pre.length : Int) + 1))).heap[nb]? = some (.cells #[.int .i64 ((pre ++ [(⟨x, hx⟩ : PtA l)]).length : Int)] 3 (0, 0)) := by rw [List.length_append]; exact one_setCell g2'
          have hk2 : KeepsFrom wA.heap.size X (W2.setCell ⟨nb, 0, none⟩ (.int .i64 ((pre.length : Int) + 1))) := ((keeps_below hB2).trans (KeepsOthers.setCell _ _ _)).from _
          have hb2 : Below nb w7 (W2.setCell ⟨nb, 0, none⟩ (.int .i64 ((pre.length : Int) + 1))) := (G3.out.trans (hB2.mono (Nat.le_of_lt nbX))).setCell (p := ⟨nb, 0, none⟩) (Nat.le_refl _) _
          have hs2 : X.heap.size ≤ (W2.setCell ⟨nb, 0, none⟩ (.int .i64 ((pre.length : Int) + 1))).heap.size := by simp; exact hB2.size
          exact ⟨hk2, rfl, by rw [List.length_append]; exact HQ.out, hn2, hb2, Nat.le_trans g4 hs2⟩
        · have hq : ((pre.length : Int) + 1 == 1000) = false := by rw [beq_eq_false_iff_ne]; omega
          have HQ := Lib.hid h1000
          clear h1000
          gi_wp2_with (gi_at_call 39; refine (CallsIn.inRound l' (callsIn_wide.2 (has_true RX (by omega) m1 m2))).mono ?_; rintro e W2 ⟨rfl, hB2⟩; have g2' := (hB2.block nb nbX).trans g1; have cN2 := cell_of_one g2'; have fN2 := free_of_one g2')
          have hn2 : (W2.setCell ⟨nb, 0, none⟩ (.int .i64 ((pre.length : Int) + 1))).heap[nb]? = some (.cells #[.int .i64 ((pre ++ [(⟨x, hx⟩ : PtA l)]).length : Int)] 3 (0, 0)) := by rw [List.length_append]; exact one_setCell g2'
          have hk2 : KeepsFrom wA.heap.size X (W2.setCell ⟨nb, 0, none⟩ (.int .i64 ((pre.length : Int) + 1))) := ((keeps_below hB2).trans (KeepsOthers.setCell _ _ _)).from _
          have hb2 : Below nb w7 (W2.setCell ⟨nb, 0, none⟩ (.int .i64 ((pre.length : Int) + 1))) := (G3.out.trans (hB2.mono (Nat.le_of_lt nbX))).setCell (p := ⟨nb, 0, none⟩) (Nat.le_refl _) _
          have hs2 : X.heap.size ≤ (W2.setCell ⟨nb, 0, none⟩ (.int .i64 ((pre.length : Int) + 1))).heap.size := by simp; exact hB2.size
          have h9 := HQ.out
          refine ⟨hk2, ⟨(hB2.mono (Nat.le_of_lt nbX)).setCell (p := ⟨nb, 0, none⟩) (Nat.le_refl _) _, hs2, fun k hk hlt _ => ?_, .inl rfl⟩, hn2, by rw [List.length_append]; simp; omega, hb2, Nat.le_trans g4 hs2⟩
          exact ((grownBy_setCell' W2 nb _).block k (Nat.lt_of_lt_of_le hlt hB2.size) (fun e => by cases e; omega)).trans (hB2.block k hlt)
      case done =>
        rintro D ys X hD hys ⟨g1, g2, g3, g4⟩ hK
        subst hA0
        obtain ⟨⟨BX, RC, RX⟩, hbX⟩ := TX.out X g3
        obtain ⟨rr, zz, cc⟩ := BX.cells
        have cN := cell_of_one g1
        have hcnt := allF_count I2.out I3.out
        rw [← hys] at hcnt
        have hXb : ∀ Y, Below X.heap.size X Y → Y.cell? ⟨ab, 0, none⟩ = some (.pointer (some ⟨ba, 0, none⟩)) ∧ Y.cell? ⟨nb, 0, none⟩ = some (.int .i64 (ys.length : Int)) ∧ Y.cell? ⟨rb, 0, none⟩ = some (.bool false) ∧ Y.frozen? ⟨rb, 0, none⟩ = false := fun Y hY =>
          ⟨(hY.cell (p := ⟨ab, 0, none⟩) (cell_lt cc)).trans cc, (hY.cell (p := ⟨nb, 0, none⟩) (cell_lt cN)).trans cN, (hY.cell (p := ⟨rb, 0, none⟩) (cell_lt rr)).trans rr, (hY.frozen (p := ⟨rb, 0, none⟩) (cell_lt rr)).trans zz⟩
        have HXB := Lib.hid hXb
        have BD : Below X.heap.size X X.drew := (Below.refl _ X).drew
        have hne1 : ab ≠ rb := by intro h; subst h; rw [rr] at cc; cases cc
        have hne2 : nb ≠ rb := by intro h; subst h; rw [rr] at cN; cases cN
        have hcn : countF l = (ys.length : Int) := by rw [hcnt]; simp [ptv]
        have hsame : Calls Tryz.prog 126 #[.pointer (some ⟨ba, 0, none⟩), .pointer (some ⟨bc, 0, none⟩)] X.drew fun e w' => e = .returned (.bool true) ∧ Below X.heap.size X w' := (same_rep (RX.below BD) (RC.below BD) (by omega) (fun _ => rfl) (BX.ok.below BD).1 (BX.ok.below BD).2.1).mono fun e w' ⟨he, hb⟩ => ⟨he, BD.trans hb⟩
        have hcount : ∀ Y, Below X.heap.size X Y → Calls Tryz.prog 38 #[.pointer (some ⟨ba, 0, none⟩)] Y fun e w' => e = .returned (.int .i64 (ys.length : Int)) ∧ Below X.heap.size X w' := fun Y hY =>
          (count_any _ l Y (BX.set.below hY) I2.out.bd (by omega)).mono fun e w' ⟨he, hb⟩ => ⟨by rw [he, hcn], hY.trans (hb.mono hY.size)⟩
        have HCO := Lib.hid hcount
        have HCN := Lib.hid hcn
        clear g3 g1 hys hXb hcount hcn hcnt BX RC RX f1 f2 f3 f4 f5 f6 f7 f8 f9 f10 hb70 hbA hcs hIs hBsA nA
        go_wp2
        first | (go_region_law (first
          | (go_simp; go_at_call 38; refine (HCO.out _ hY1).mono ?_; rintro e w12 ⟨rfl, hY2⟩; obtain ⟨y1, y2, y3, y4⟩ := HXB.out _ hY2)
          | (go_simp; go_at_call 126; refine hsame.mono ?_; rintro e w11 ⟨rfl, hY1⟩; obtain ⟨x1, x2, x3, x4⟩ := HXB.out _ hY1))) | fail
        all_goals
          have hDlt : D < X.heap.size := (Array.getElem?_eq_some_iff.1 hK).1
          have hDr : D ≠ rb := by rintro rfl; simp [World.cell?, hK] at rr
          have hK2 : (w12.setCell ⟨rb, 0, none⟩ (.bool true)).heap[D]? = some (.deferred (some [])) := ((grownBy_setCell' w12 rb _).block D (Nat.lt_of_lt_of_le hDlt hY2.size) (fun e => hDr (by cases e; rfl))).trans ((hY2.block D hDlt).trans hK)
          have hc2 : (w12.setCell ⟨rb, 0, none⟩ (.bool true)).cell? ⟨rb, 0, none⟩ = some (.bool true) := World.cell?_setCell_same _ _ _ y3
          have hbE : Below w.heap.size w (w12.setCell ⟨rb, 0, none⟩ (.bool true)) := (hbX.trans (hY2.mono hbX.size)).setCell (p := ⟨rb, 0, none⟩) (by have := HRBs.out; show w.heap.size ≤ rb; omega) _
          have hc3 := cell_kept hc2 (grownBy_putObj' _ D (.deferred none)) (fun r e => by cases e; exact ⟨_, hK2, rfl⟩)
          go_wp2
          refine ⟨by simp, .inl ⟨_, _, rfl, run_takeDeferred hK2, ?_⟩⟩
          refine ⟨.bool true, by simp [results, Tryz.results79, go_sem, hc3], rfl, hbE.trans (belowK_b (w := w) (Nat.le_refl _) _ D _ _ (by have := hb8s.out; omega) hK2 rfl rfl)⟩
      case stop =>
        rintro D c pre X hD hpre ⟨rfl, h1000, g0, g3, g4⟩ hK
        subst hA0
        refine wpIn_wide.2 ?_
        obtain ⟨⟨BX, RC, RX⟩, hbX⟩ := TX.out X g3
        obtain ⟨rr, zz, cc⟩ := BX.cells
        have g1 : X.heap[nb]? = some (.cells #[.int .i64 1000] 3 (0, 0)) := by rw [h1000] at g0; exact g0
        have cN := cell_of_one g1
        have hcnt := allF_count I2.out I3.out
        have hle : 1000 ≤ (allF l).length := by
          have := hpre.length_le
          simp [ptv] at this; omega
        clear g0 h1000 hpre
        by_cases hceq : countF l = 1000
        · clear hcnt hle
          have hXb : ∀ Y, Below X.heap.size X Y → Y.cell? ⟨ab, 0, none⟩ = some (.pointer (some ⟨ba, 0, none⟩)) ∧ Y.cell? ⟨nb, 0, none⟩ = some (.int .i64 1000) ∧ Y.cell? ⟨rb, 0, none⟩ = some (.bool false) ∧ Y.frozen? ⟨rb, 0, none⟩ = false := fun Y hY =>
            ⟨(hY.cell (p := ⟨ab, 0, none⟩) (cell_lt cc)).trans cc, (hY.cell (p := ⟨nb, 0, none⟩) (cell_lt cN)).trans cN, (hY.cell (p := ⟨rb, 0, none⟩) (cell_lt rr)).trans rr, (hY.frozen (p := ⟨rb, 0, none⟩) (cell_lt rr)).trans zz⟩
          have HXB := Lib.hid hXb
          have BD : Below X.heap.size X X.drew := (Below.refl _ X).drew
          have hne1 : ab ≠ rb := by intro h; subst h; rw [rr] at cc; cases cc
          have hne2 : nb ≠ rb := by intro h; subst h; rw [rr] at cN; cases cN
          have hcn : countF l = 1000 := hceq
          have hsame : Calls Tryz.prog 126 #[.pointer (some ⟨ba, 0, none⟩), .pointer (some ⟨bc, 0, none⟩)] X.drew fun e w' => e = .returned (.bool true) ∧ Below X.heap.size X w' := (same_rep (RX.below BD) (RC.below BD) (by omega) (fun _ => rfl) (BX.ok.below BD).1 (BX.ok.below BD).2.1).mono fun e w' ⟨he, hb⟩ => ⟨he, BD.trans hb⟩
          have hcount : ∀ Y, Below X.heap.size X Y → Calls Tryz.prog 38 #[.pointer (some ⟨ba, 0, none⟩)] Y fun e w' => e = .returned (.int .i64 1000) ∧ Below X.heap.size X w' := fun Y hY =>
            (count_any _ l Y (BX.set.below hY) I2.out.bd (by omega)).mono fun e w' ⟨he, hb⟩ => ⟨by rw [he, hcn], hY.trans (hb.mono hY.size)⟩
          have HCO := Lib.hid hcount
          have HCN := Lib.hid hcn
          clear g3 g1 hXb hcount hcn BX RC RX f1 f2 f3 f4 f5 f6 f7 f8 f9 f10 hb70 hbA hcs hIs hBsA nA
          go_wp2
          first | (go_region_law (first
            | (go_simp; go_at_call 38; refine (HCO.out _ hY1).mono ?_; rintro e w12 ⟨rfl, hY2⟩; obtain ⟨y1, y2, y3, y4⟩ := HXB.out _ hY2)
            | (go_simp; go_at_call 126; refine hsame.mono ?_; rintro e w11 ⟨rfl, hY1⟩; obtain ⟨x1, x2, x3, x4⟩ := HXB.out _ hY1))) | fail
          all_goals
            have hDlt : D < X.heap.size := (Array.getElem?_eq_some_iff.1 hK).1
            have hDr : D ≠ rb := by rintro rfl; simp [World.cell?, hK] at rr
            have hK2 : (w12.setCell ⟨rb, 0, none⟩ (.bool true)).heap[D]? = some (.deferred (some [])) := ((grownBy_setCell' w12 rb _).block D (Nat.lt_of_lt_of_le hDlt hY2.size) (fun e => hDr (by cases e; rfl))).trans ((hY2.block D hDlt).trans hK)
            have hc2 : (w12.setCell ⟨rb, 0, none⟩ (.bool true)).cell? ⟨rb, 0, none⟩ = some (.bool true) := World.cell?_setCell_same _ _ _ y3
            have hbE : Below w.heap.size w (w12.setCell ⟨rb, 0, none⟩ (.bool true)) := (hbX.trans (hY2.mono hbX.size)).setCell (p := ⟨rb, 0, none⟩) (by have := HRBs.out; show w.heap.size ≤ rb; omega) _
            have hc3 := cell_kept hc2 (grownBy_putObj' _ D (.deferred none)) (fun r e => by cases e; exact ⟨_, hK2, rfl⟩)
            go_wp2
            refine ⟨by simp, .inl ⟨_, _, rfl, run_takeDeferred hK2, ?_⟩⟩
            refine ⟨.bool true, by simp [results, Tryz.results79, go_sem, hc3], rfl, hbE.trans (belowK_b (w := w) (Nat.le_refl _) _ D _ _ (by have := hb8s.out; omega) hK2 rfl rfl)⟩
        · obtain ⟨C, hC⟩ : ∃ C, countF l = C := ⟨_, rfl⟩
          have hC1 : (1000 : Int) < C := by omega
          have hC2 : ((1000 : Int) == C) = false := by rw [beq_eq_false_iff_ne]; omega
          have hceq := hC
          clear hcnt hle hC
          have hXb : ∀ Y, Below X.heap.size X Y → Y.cell? ⟨ab, 0, none⟩ = some (.pointer (some ⟨ba, 0, none⟩)) ∧ Y.cell? ⟨nb, 0, none⟩ = some (.int .i64 1000) ∧ Y.cell? ⟨rb, 0, none⟩ = some (.bool false) ∧ Y.frozen? ⟨rb, 0, none⟩ = false := fun Y hY =>
            ⟨(hY.cell (p := ⟨ab, 0, none⟩) (cell_lt cc)).trans cc, (hY.cell (p := ⟨nb, 0, none⟩) (cell_lt cN)).trans cN, (hY.cell (p := ⟨rb, 0, none⟩) (cell_lt rr)).trans rr, (hY.frozen (p := ⟨rb, 0, none⟩) (cell_lt rr)).trans zz⟩
          have HXB := Lib.hid hXb
          have BD : Below X.heap.size X X.drew := (Below.refl _ X).drew
          have hne1 : ab ≠ rb := by intro h; subst h; rw [rr] at cc; cases cc
          have hne2 : nb ≠ rb := by intro h; subst h; rw [rr] at cN; cases cN
          have hcn : countF l = C := hceq
          have hsame : Calls Tryz.prog 126 #[.pointer (some ⟨ba, 0, none⟩), .pointer (some ⟨bc, 0, none⟩)] X.drew fun e w' => e = .returned (.bool true) ∧ Below X.heap.size X w' := (same_rep (RX.below BD) (RC.below BD) (by omega) (fun _ => rfl) (BX.ok.below BD).1 (BX.ok.below BD).2.1).mono fun e w' ⟨he, hb⟩ => ⟨he, BD.trans hb⟩
          have hcount : ∀ Y, Below X.heap.size X Y → Calls Tryz.prog 38 #[.pointer (some ⟨ba, 0, none⟩)] Y fun e w' => e = .returned (.int .i64 C) ∧ Below X.heap.size X w' := fun Y hY =>
            (count_any _ l Y (BX.set.below hY) I2.out.bd (by omega)).mono fun e w' ⟨he, hb⟩ => ⟨by rw [he, hcn], hY.trans (hb.mono hY.size)⟩
          have HCO := Lib.hid hcount
          have HCN := Lib.hid hcn
          clear g3 g1 hXb hcount hcn BX RC RX f1 f2 f3 f4 f5 f6 f7 f8 f9 f10 hb70 hbA hcs hIs hBsA nA
          go_wp2
          first | (go_region_law (first
            | (go_simp; go_at_call 38; refine (HCO.out _ hY2).mono ?_; rintro e w13 ⟨rfl, hY3⟩; obtain ⟨t1, t2, t3, t4⟩ := HXB.out _ hY3)
            | (go_simp; go_at_call 38; refine (HCO.out _ hY1).mono ?_; rintro e w12 ⟨rfl, hY2⟩; obtain ⟨y1, y2, y3, y4⟩ := HXB.out _ hY2)
            | (go_simp; go_at_call 126; refine hsame.mono ?_; rintro e w11 ⟨rfl, hY1⟩; obtain ⟨x1, x2, x3, x4⟩ := HXB.out _ hY1))) | fail
          all_goals
            have hDlt : D < X.heap.size := (Array.getElem?_eq_some_iff.1 hK).1
            have hDr : D ≠ rb := by rintro rfl; simp [World.cell?, hK] at rr
            have hK2 : (w13.setCell ⟨rb, 0, none⟩ (.bool true)).heap[D]? = some (.deferred (some [])) := ((grownBy_setCell' w13 rb _).block D (Nat.lt_of_lt_of_le hDlt hY3.size) (fun e => hDr (by cases e; rfl))).trans ((hY3.block D hDlt).trans hK)
            have hc2 : (w13.setCell ⟨rb, 0, none⟩ (.bool true)).cell? ⟨rb, 0, none⟩ = some (.bool true) := World.cell?_setCell_same _ _ _ t3
            have hbE : Below w.heap.size w (w13.setCell ⟨rb, 0, none⟩ (.bool true)) := (hbX.trans (hY3.mono hbX.size)).setCell (p := ⟨rb, 0, none⟩) (by have := HRBs.out; show w.heap.size ≤ rb; omega) _
            have hc3 := cell_kept hc2 (grownBy_putObj' _ D (.deferred none)) (fun r e => by cases e; exact ⟨_, hK2, rfl⟩)
            go_wp2
            refine ⟨by simp, .inl ⟨_, _, rfl, run_takeDeferred hK2, ?_⟩⟩
            refine ⟨.bool true, by simp [results, Tryz.results79, go_sem, hc3], rfl, hbE.trans (belowK_b (w := w) (Nat.le_refl _) _ D _ _ (by have := hb8s.out; omega) hK2 rfl rfl)⟩

end Go.Proofs.YtmbjjheaddhmeaaGreatDoor
