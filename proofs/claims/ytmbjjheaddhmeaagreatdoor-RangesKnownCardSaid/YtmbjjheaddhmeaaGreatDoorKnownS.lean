/- The spans of RangesKnown: all pairs of the edges. -/
import Derived.Test.YtmbjjheaddhmeaaGreatDoorOfW
import Derived.Test.YtmbjjheaddhmeaaGreatDoorMadeW
import Derived.Test.YtmbjjheaddhmeaaGreatDoorLaws
import Derived.Test.YtmbjjheaddhmeaaGreatDoorBackW
import Derived.Test.YtmbjjheaddhmeaaGreatDoorCls
import Derived.Test.YtmbjjheaddhmeaaGreatDoorDbOk
import Derived.Below
import Derived.Lib.Hide
import Derived.Deep.LoopGhost
import Derived.Deep.DeepCutAuto
import Derived.Deep.RegionHeld3
import Derived.Deep.AppendLies
import Derived.StillTailTactics
namespace Go.Proofs.YtmbjjheaddhmeaaGreatDoor
open Go.RowKit

def endsL : List Int := [-2147483648, -1, 0, 1, 97, 98, 100, 55294, 55295, 55296, 57343, 57344, 57345, 65533, 1114110, 1114111, 1114112, 1114239, 1114240, 1114241, 1114366, 1114367, 1114368, 2147483647]
theorem endsL_bd : ∀ x ∈ endsL, -2147483648 ≤ x ∧ x ≤ 2147483647 := by decide
theorem ends_any (w : World) :
    Calls Tryz.prog 78 #[] w fun e w' => e = .returned (.slice (some ⟨w.heap.size, 0, none⟩) 24 24) ∧ (∀ j, j < 24 → w'.cell? ⟨w.heap.size, j, none⟩ = some (.int .i32 (endsL[j]?.getD 0))) ∧ Below w.heap.size w w' := by
  go_enter Tryz.func78, Tryz.ntmps78
  go_wp2
  go_ret
  refine ⟨rfl, fun j hj => ?_, (Below.refl _ _).alloc (Nat.le_refl _) _⟩
  simp only [World.cell?, heap_alloc_new]
  rcases j with _ | _ | _ | _ | _ | _ | _ | _ | _ | _ | _ | _ | _ | _ | _ | _ | _ | _ | _ | _ | _ | _ | _ | _ | j
  all_goals first | omega | rfl

/-- What the statements on sets ask of memory. -/
structure KsOk (X : World) : Prop where
  rd : RdOk X
  er : ErrT X
  db : DbOk X
theorem KsOk.from {w X : World} (h : KsOk w) (hb : Below w.heap.size w X) : KsOk X := ⟨h.rd.below hb, ErrT.below hb h.er, DbOk.below hb h.db⟩

/-- The list that the sets are collected in, and the points. -/
structure KsC (w w1 : World) (r : Value) (R : List (Int × Int)) (X : World) : Prop where
  own : X.ownsRow w1.heap.size 39 2 r R.length (flat R)
  bel : Below w1.heap.size w1 X
  b1 : Below w.heap.size w w1
  ks : KsOk w
  ends : ∀ j, j < 24 → w1.cell? ⟨w.heap.size, j, none⟩ = some (.int .i32 (endsL[j]?.getD 0))
theorem KsC.below {w w1 : World} {r : Value} {R : List (Int × Int)} {X Y : World} (h : KsC w w1 r R X) (hb : Below X.heap.size X Y) : KsC w w1 r R Y := ⟨ownsRow_below hb h.own, below_snoc h.bel hb, h.b1, h.ks, h.ends⟩
theorem KsC.all {w w1 : World} {r : Value} {R : List (Int × Int)} {X : World} (h : KsC w w1 r R X) : Below w.heap.size w X := below_snoc h.b1 h.bel
theorem KsC.ok {w w1 : World} {r : Value} {R : List (Int × Int)} {X : World} (h : KsC w w1 r R X) : KsOk X := h.ks.from h.all
theorem KsC.cell {w w1 : World} {r : Value} {R : List (Int × Int)} {X : World} (h : KsC w w1 r R X) (j : Nat) (hj : j < 24) : X.cell? ⟨w.heap.size, j, none⟩ = some (.int .i32 (endsL[j]?.getD 0)) :=
  (h.bel.cell (p := ⟨w.heap.size, j, none⟩) (cell_lt (h.ends j hj))).trans (h.ends j hj)
theorem KsC.runes {w w1 : World} {r : Value} {R : List (Int × Int)} {X : World} (h : KsC w w1 r R X) : Runes X (.slice (some ⟨w.heap.size, 0, none⟩) 24 24) endsL :=
  ⟨_, 24, rfl, .inr ⟨_, 0, rfl, fun j hj => by rw [Nat.zero_add]; exact h.cell j hj⟩⟩
theorem KsC.shape {w w1 : World} {r : Value} {R : List (Int × Int)} {X : World} (h : KsC w w1 r R X) : ∃ a c, r = .slice a R.length c := by
  obtain ⟨a, c, e, _⟩ := Spans.of_owns h.own
  exact ⟨a, c, e⟩

theorem spans_one {X : World} {b : Nat} {p q : Int} (h1 : X.cell? ⟨b, 0, none⟩ = some (.int .i32 p)) (h2 : X.cell? ⟨b, 1, none⟩ = some (.int .i32 q)) : Spans X (.slice (some ⟨b, 0, none⟩) 1 1) [(p, q)] :=
  ⟨_, 1, rfl, .inr ⟨b, 0, rfl, fun j hj => by obtain rfl : j = 0 := by (simp at hj; omega)
                                              exact ⟨h1, h2⟩⟩⟩
theorem KsC.rooms {w we : World} {a : Option Addr} {c : Nat} {R : List (Int × Int)} {X : World} (h : KsC w we (.slice a R.length c) R X) (hR : 0 < R.length) :
    ∃ g, a = some ⟨g, 0, none⟩ ∧ R.length ≤ c ∧ c ≤ maxLen := by
  obtain ⟨_, ⟨e, _⟩ | ⟨g, cap, cur, e, _, _, h1, h2, _⟩⟩ := h.own
  · injection e; omega
  · injection e with e1 _ e3
    subst e3
    exact ⟨g, e1, h1, h2⟩
theorem KsC.win {w we : World} {g c : Nat} {R : List (Int × Int)} {X : World} (h : KsC w we (.slice (some ⟨g, 0, none⟩) R.length c) R X) (i : Nat) (hi : i < R.length) (d : Nat) : Spans X (.slice (some ⟨g, i * 2, none⟩) 1 d) [R[i]?.getD (0, 0)] := by
  obtain ⟨a, cap, e, h0 | ⟨b, off, rfl, hc⟩⟩ := Spans.of_owns h.own
  · subst h0; simp at hi
  · injection e with e1 _ _
    injection e1 with e1
    injection e1 with e1 e2 _
    subst e1 e2
    obtain ⟨c1, c2⟩ := hc i hi
    rw [Nat.zero_add] at c1 c2
    refine ⟨_, d, rfl, .inr ⟨g, i * 2, rfl, fun j hj => ?_⟩⟩
    obtain rfl : j = 0 := by simp at hj; omega
    exact ⟨c1, c2⟩
theorem Spans.none' (w : World) : Spans w (.slice none 0 0) [] := ⟨none, 0, rfl, .inl rfl⟩
theorem endsL_at (k : Nat) (h : k < 24) : -2147483648 ≤ endsL[k]?.getD 0 ∧ endsL[k]?.getD 0 ≤ 2147483647 := by
  have h' : k < endsL.length := h
  rw [List.getElem?_eq_getElem h']
  exact endsL_bd _ (List.getElem_mem h')
theorem spans_new3 (w : World) (p q : Int) : Spans (w.alloc (.cells #[.int .i32 p, .int .i32 q, .int .i32 99, .int .i32 99, .int .i32 p, .int .i32 q] 39)).drew (.slice (some ⟨w.heap.size, 0, none⟩) 3 3) [(p, q), (99, 99), (p, q)] := by
  refine ⟨_, 3, rfl, .inr ⟨_, 0, rfl, fun j hj => ?_⟩⟩
  have : j = 0 ∨ j = 1 ∨ j = 2 := by simp at hj; omega
  simp only [World.cell?]
  rw [show (w.alloc (.cells #[.int .i32 p, .int .i32 q, .int .i32 99, .int .i32 99, .int .i32 p, .int .i32 q] 39)).drew.heap[w.heap.size]? = _ from heap_alloc_new w _]
  rcases this with rfl | rfl | rfl <;> exact ⟨rfl, rfl⟩

theorem Tryz.infoSpanK : (Tryz.prog.info? 39).map (fun i => (i.zero, i.size, i.bytes)) = some (some (.agg #[.int .i32 0, .int .i32 0]), 2, 8) := by kernel_rfl

set_option maxRecDepth 100000 in
set_option maxHeartbeats 4000000 in
theorem spans_walk (w : World) (h : KsOk w) :
    Calls Tryz.prog 28 #[] w fun e w' => e = .returned (.bool true) ∧ Below w.heap.size w w' := by
  have H := Lib.hid h
  clear h
  go_enter Tryz.func28, Tryz.ntmps28
  go_wp2_with (go_at_call 78; refine (ends_any w).mono ?_; rintro e we ⟨rfl, R1, B1⟩)
  have C0 : Hid (KsC w we (.slice none 0 0) [] we) := Lib.hid ⟨World.ownsRow_nil _ _ _ _, Below.refl _ _, B1, H.out, R1⟩
  clear R1 B1
  go_loopg [2, 3] 24 (fun gk r i wr => ∃ (n : Nat) (R : List (Int × Int)), i = .int .i64 n ∧ n ≤ 24 ∧ 24 - n ≤ gk ∧ R.length ≤ 24 * n ∧ Hid (KsC w we r R wr))
  case atStart => exact ⟨0, [], rfl, by omega, by omega, by simp, C0⟩
  case round =>
    clear C0
    obtain ⟨n, R, rfl, hn, hg, hR, C⟩ := hrel
    obtain ⟨wx, rfl⟩ : ∃ wx, wx = wr := ⟨_, rfl⟩
    obtain ⟨gx, rfl⟩ : ∃ gx, gx = gk := ⟨_, rfl⟩
    obtain ⟨ar, cr, rfl⟩ := C.out.shape
    by_cases hnt : n < 24
    · have hnt' : (n : Int) < 24 := by omega
      have hn0 : (0 : Int) ≤ (n : Int) := Int.natCast_nonneg _
      go_wp2_with fail
      go_loopg [2, 4] 24 (fun gk r i wr => ∃ (m : Nat) (R : List (Int × Int)), i = .int .i64 m ∧ m ≤ 24 ∧ 24 - m ≤ gk ∧ R.length ≤ 24 * n + m ∧ Hid (KsC w we r R wr))
      case atStart => exact ⟨0, R, rfl, by omega, by omega, by omega, C⟩
      case round =>
        clear C hR ar cr R
        obtain ⟨m, R, rfl, hm, hgm, hR, C⟩ := hrel
        obtain ⟨ar, cr, rfl⟩ := C.out.shape
        by_cases hmt : m < 24
        · have hmt' : (m : Int) < 24 := by omega
          have hm0 : (0 : Int) ≤ (m : Int) := Int.natCast_nonneg _
          have c1 := C.out.cell n hnt
          have c2 := C.out.cell m hmt
          generalize endsL[n]?.getD 0 = p at *
          generalize endsL[m]?.getD 0 = q at *
          go_wp2_with fail
          go_still_tail 9, (by kernel_rfl)
          change wpList _ _ _ _ _ wr.drew
          have CX := Lib.hid (C.out.below (((Below.refl _ wr).alloc (Nat.le_refl _) (.cells #[.int .i32 p, .int .i32 q] 39)).drew))
          have cp : (wr.alloc (.cells #[.int .i32 p, .int .i32 q] 39)).drew.cell? ⟨wr.heap.size, 0, none⟩ = some (.int .i32 p) := by
            simp only [World.cell?]; rw [show (wr.alloc (.cells #[.int .i32 p, .int .i32 q] 39)).drew.heap[wr.heap.size]? = _ from heap_alloc_new wr _]; rfl
          have cq : (wr.alloc (.cells #[.int .i32 p, .int .i32 q] 39)).drew.cell? ⟨wr.heap.size, 1, none⟩ = some (.int .i32 q) := by
            simp only [World.cell?]; rw [show (wr.alloc (.cells #[.int .i32 p, .int .i32 q] 39)).drew.heap[wr.heap.size]? = _ from heap_alloc_new wr _]; rfl
          have BW1 := ((Below.refl _ wr).alloc (Nat.le_refl _) (.cells #[.int .i32 p, .int .i32 q] 39)).drew
          have d1 := Lib.hid ((BW1.cell (p := ⟨w.heap.size, n, none⟩) (cell_lt c1)).trans c1)
          have d2 := Lib.hid ((BW1.cell (p := ⟨w.heap.size, m, none⟩) (cell_lt c2)).trans c2)
          clear c1 c2 BW1
          go_wp2_with fail
          generalize (wr.alloc (.cells #[.int .i32 p, .int .i32 q] 39)).drew = W1 at *
          generalize wr.heap.size = bx at *
          go_wp2_with fail
          go_still_tail 7, (by kernel_rfl)
          change wpList _ _ _ _ _ W1.drew
          have B2 := ((Below.refl _ W1).alloc (Nat.le_refl _) (.cells #[.int .i32 p, .int .i32 q, .int .i32 99, .int .i32 99, .int .i32 p, .int .i32 q] 39)).drew
          have S3 := Lib.hid (spans_new3 W1 p q)
          have S1 := Lib.hid ((spans_one cp cq).below B2)
          have C2 := Lib.hid (CX.out.below B2)
          have cp2 := (B2.cell (p := ⟨bx, 0, none⟩) (cell_lt cp)).trans cp
          have cq2 := (B2.cell (p := ⟨bx, 1, none⟩) (cell_lt cq)).trans cq
          have e1 := Lib.hid ((B2.cell (p := ⟨w.heap.size, n, none⟩) (cell_lt d1.out)).trans d1.out)
          have e2 := Lib.hid ((B2.cell (p := ⟨w.heap.size, m, none⟩) (cell_lt d2.out)).trans d2.out)
          have cp3 := Lib.hid cp2
          have cq3 := Lib.hid cq2
          clear cp cq CX C B2 d1 d2 cp2 cq2
          go_wp2_with fail
          generalize (W1.alloc (.cells #[.int .i32 p, .int .i32 q, .int .i32 99, .int .i32 99, .int .i32 p, .int .i32 q] 39)).drew = W2 at *
          generalize W1.heap.size = bY at *
          go_wp2_with (first
            | (go_at_call 79; refine (back_any ((S1.out.below B3).below B4) ((C2.out.below B3).below B4).ok.rd).mono ?_; rintro e w5 ⟨rfl, B5⟩)
            | (go_at_call 3; refine (rangesOf_any (S3.out.below B3) (C2.out.below B3).runes endsL_bd (C2.out.below B3).ok.db (C2.out.below B3).ok.er).mono ?_; rintro e w4 ⟨rfl, B4⟩)
            | (go_at_call 3; refine (rangesOf_any S1.out C2.out.runes endsL_bd C2.out.ok.db C2.out.ok.er).mono ?_; rintro e w3 ⟨rfl, B3⟩))
          have B25 := below_snoc (below_snoc B3 B4) B5
          have C5 := Lib.hid (C2.out.below B25)
          have c1 := (B25.cell (p := ⟨w.heap.size, n, none⟩) (cell_lt e1.out)).trans e1.out
          have c2 := (B25.cell (p := ⟨w.heap.size, m, none⟩) (cell_lt e2.out)).trans e2.out
          have cp := (B25.cell (p := ⟨bx, 0, none⟩) (cell_lt cp3.out)).trans cp3.out
          have cq := (B25.cell (p := ⟨bx, 1, none⟩) (cell_lt cq3.out)).trans cq3.out
          have CP := Lib.hid cp
          have CQ := Lib.hid cq
          clear e1 e2 cp3 cq3 B25 B3 B4 B5 C2 S1 S3 cp cq
          have k1 := AbW.cell c1
          have k2 := AbW.cell c2
          have hne := AbW.there w5
          clear c1 c2
          by_cases hpq : p ≤ q
          · have hpq' : decide (p ≤ q) = true := by simpa using hpq
            go_wp2_with fail
            refine wp_region_cls (AbW w5) (by kernel_rfl) (by kernel_rfl) (AbW.drew w5) ?_
            repeat (go_big_quiet_step (fail))
            refine wpQuiet_nil ?_
            rintro _ ⟨u, rfl⟩
            have cp := (Below.cell u.ok (p := ⟨bx, 0, none⟩) (cell_lt CP.out)).trans CP.out
            have cq := (Below.cell u.ok (p := ⟨bx, 1, none⟩) (cell_lt CQ.out)).trans CQ.out
            have C6 := Lib.hid (C5.out.below u.ok)
            generalize u.val = w6 at *
            clear k1 k2 hne C5 CP CQ u
            obtain ⟨i0, hi0, hz0, hz1, hz2⟩ := info_parts Tryz.infoSpanK
            have hown := Lib.hid C6.out.own
            have hvb := Lib.hid hown.out.lt
            have nB : R.length + 1 ≤ maxLen := by unfold maxLen; omega
            have nB' : (R.length + 1) * 8 ≤ 140737488355328 := by omega
            have nC : we.heap.size ≤ w6.heap.size := C6.out.bel.size
            have BX : Below we.heap.size w6 (w6.alloc (.cells #[.int .i32 p, .int .i32 q] 39)) := (Below.refl _ w6).alloc nC _
            go_wp2_with (at_builtin; refine wpList_append_lies _ ?_ (.tmp 64) (.tmp 68) 22 ?_ (we.heap.size) 39 i0 (.agg #[.int .i32 0, .int .i32 0]) 2 8 Tryz.underlying22 hi0 hz0 hz1 hz2 ?_ ?_ (.slice ar R.length cr) (R.length) (flat R) ?_ ?_ ⟨w6.heap.size, 0, none⟩ 1 1 [.int .i32 p, .int .i32 q] ?_ ?_ ?_ ?_ ?_ ?_ ?_ ?_ (w6.heap.size + 1) ?_ ?_; (· rfl); (· rfl); (· rfl); (· decide); (· rfl); (· exact hown.out.alloc _); (· rfl); (· rfl); (· exact World.news_of_block (cs := #[.int .i32 p, .int .i32 q]) (t := 39) (fr := (0, 0)) (heap_alloc_new _ _)); (· simp [Value.oneCell']); (· decide); (· exact nB); (· exact nB'); (· first | (simp; omega) | omega); (· first | (with_reducible rfl) | simp); intro g cap w1 hown1 hgrow hat hlt; have BY := BX.grown hgrow (by simp; omega) (fun k hk => (hvb.out k hk).1))
            have C7 : Hid (KsC w we (.slice (some ⟨g, 0, none⟩) (R.length + 1) cap) (R ++ [(p, q)]) w1) := ⟨by rw [flat_snoc, List.length_append]; exact hown1, C6.out.bel.trans BY, C6.out.b1, C6.out.ks, C6.out.ends⟩
            clear hown1 hgrow BX BY hvb hown C6 cp cq hat hlt
            go_roundg (gk - 1)
            case measure => omega
            case rel => exact ⟨m + 1, R ++ [(p, q)], by go_num, by omega, by omega, by simp; omega, C7⟩
          · have hpq' : decide (p ≤ q) = false := by simpa using hpq
            go_wp2_with fail
            refine wp_region_cls (AbW w5) (by kernel_rfl) (by kernel_rfl) (AbW.drew w5) ?_
            repeat (go_big_quiet_step (fail))
            refine wpQuiet_nil ?_
            rintro _ ⟨u, rfl⟩
            have C6 := Lib.hid (C5.out.below u.ok)
            generalize u.val = w6 at *
            clear k1 k2 hne C5 CP CQ u
            go_wp2_with fail
            go_roundg (gk - 1)
            case measure => omega
            case rel => exact ⟨m + 1, R, by go_num, by omega, by omega, by omega, C6⟩
        · obtain rfl : m = 24 := by omega
          go_wp2_with fail
          go_roundg (gx - 1)
          case measure => omega
          case rel => exact ⟨n + 1, R, by go_num, by omega, by omega, by omega, C⟩
    · obtain rfl : n = 24 := by omega
      go_wp2_with fail
      have hR5 : R.length ≤ 576 := by omega
      clear hR hg hn
      go_loopg [7] R.length (fun gk i wr => ∃ n : Nat, i = .int .i64 n ∧ n ≤ R.length ∧ R.length - n ≤ gk ∧ Hid (KsC w we (.slice ar R.length cr) R wr))
      case atStart => exact ⟨0, rfl, by omega, by omega, C⟩
      case round =>
        clear C
        obtain ⟨n, rfl, hn, hg, C⟩ := hrel
        obtain ⟨wz, rfl⟩ : ∃ wz, wz = wr := ⟨_, rfl⟩
        obtain ⟨gz, rfl⟩ : ∃ gz, gz = gk := ⟨_, rfl⟩
        by_cases hnt : n < R.length
        · have hnt' : (n : Int) < (R.length : Int) := by omega
          have hn0 : (0 : Int) ≤ (n : Int) := Int.natCast_nonneg _
          have hn7 : (n : Int).tmod 7 = ((n % 7 : Nat) : Int) := by rw [Int.tmod_eq_emod_of_nonneg hn0]; omega
          go_wp2_with fail
          go_loopg [8] (R.length + 7) (fun gk i wr => ∃ m : Nat, i = .int .i64 m ∧ m ≤ R.length + 7 ∧ R.length + 7 - m ≤ gk ∧ Hid (KsC w we (.slice ar R.length cr) R wr))
          case atStart => exact ⟨n % 7, by first | rfl | (rw [hn7]) | go_num, by omega, by omega, C⟩
          case round =>
            clear C
            obtain ⟨m, rfl, hm, hgm, C⟩ := hrel
            by_cases hmt : m < R.length
            · have hmt' : (m : Int) < (R.length : Int) := by omega
              have hm0 : (0 : Int) ≤ (m : Int) := Int.natCast_nonneg _
              obtain ⟨g, rfl, hc1, hc2⟩ := C.out.rooms (by omega)
              unfold maxLen at hc2
              have q1 : IntKind.i64.wrap ((n : Int) + 1) = (n : Int) + 1 := IntWalk.i64_in _ (by omega)
              have q2 : IntKind.i64.wrap ((m : Int) + 1) = (m : Int) + 1 := IntWalk.i64_in _ (by omega)
              have q3 : (n : Int).tdiv 2 = ((n / 2 : Nat) : Int) := by rw [Int.tdiv_eq_ediv_of_nonneg hn0]; omega
              have q4 : IntKind.i64.wrap (((n / 2 : Nat) : Int) + 1) = ((n / 2 : Nat) : Int) + 1 := IntWalk.i64_in _ (by omega)
              have q5 : (m : Int).tmod 24 = ((m % 24 : Nat) : Int) := by rw [Int.tmod_eq_emod_of_nonneg hm0]; omega
              have cl := C.out.cell (m % 24) (by omega)
              have k1 := AbW.cell cl
              have hne := AbW.there wr
              have C1 := Lib.hid C
              clear C cl
              go_wp2_with fail
              refine wp_region_cls (AbW wr) (by kernel_rfl) (by kernel_rfl) (AbW.drew wr) ?_
              repeat (go_big_quiet_step ((first
                | (go_at_call 4; rename_i u; exact cls_call AbW.keep (rangesMade_any ((C1.out.below u.ok).win n hnt _) ((C1.out.below u.ok).win m hmt _) (C1.out.below u.ok).runes endsL_bd (C1.out.below u.ok).ok.db (C1.out.below u.ok).ok.er))
                | (go_at_call 80; rename_i u; exact cls_call AbW.keep (laws_any ((C1.out.below u.ok).win n hnt _) ((C1.out.below u.ok).win m hmt _) ((C1.out.below u.ok).win (n / 2) (by omega) _) (endsL_at (m % 24) (by omega)).1 (endsL_at (m % 24) (by omega)).2 (C1.out.below u.ok).ok.db)))))
              refine wpQuiet_nil ?_
              rintro _ ⟨u, rfl⟩
              have C2 := Lib.hid (C1.out.below u.ok)
              clear C1 k1 hne
              generalize u.val = wu at *
              go_wp2_with fail
              go_roundg (gk - 1)
              case measure => omega
              case rel => exact ⟨m + 7, by go_num, by omega, by omega, C2⟩
            · have C2 := C
              clear C
              go_wp2_with fail
              go_roundg (gz - 1)
              case measure => omega
              case rel => exact ⟨n + 1, by go_num, by omega, by omega, C2⟩
        · have C1 := Lib.hid C.out
          clear C
          go_wp2_with (first
            | (go_at_call 12; refine (works_any (DbOk.below (below_snoc B1 B2) C1.out.ok.db).1 (DbOk.below (below_snoc B1 B2) C1.out.ok.db).2).mono ?_; rintro e w3 ⟨rfl, B3⟩)
            | (go_at_call 4; refine (rangesMade_any (Spans.none' w2) (Spans.none' w2) (C1.out.below B1).runes endsL_bd (C1.out.below B1).ok.db (C1.out.below B1).ok.er).mono ?_; rintro e w2' ⟨rfl, B2⟩)
            | (go_at_call 3; refine (rangesOf_any (Spans.none' _) C1.out.runes endsL_bd C1.out.ok.db C1.out.ok.er).mono ?_; rintro e w2 ⟨rfl, B1⟩))
          go_ret
          exact ⟨rfl, below_snoc C1.out.all (below_snoc (below_snoc B1 B2) B3)⟩
end Go.Proofs.YtmbjjheaddhmeaaGreatDoor
