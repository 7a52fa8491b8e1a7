/- RangesOf: the walk. -/
import Derived.Test.YtmbjjheaddhmeaaGreatDoorIs
import Derived.Test.YtmbjjheaddhmeaaGreatDoorOfPair
import Derived.Test.YtmbjjheaddhmeaaGreatDoorApartS
namespace Go.Proofs.YtmbjjheaddhmeaaGreatDoor
open Go.RowKit

theorem Prs.set32 {w : World} {v : Value} {l : List (Int × Int)} (h : Prs w v l) {g o : Nat} {x : Int} (hc : w.cell? ⟨g, o, none⟩ = some (.int .i32 x)) (u : Value) : Prs (w.setCell ⟨g, o, none⟩ u) v l := by
  obtain ⟨a, cap, rfl, h⟩ := h
  refine ⟨a, cap, rfl, ?_⟩
  rcases h with h | ⟨b, off, rfl, h⟩
  · exact .inl h
  · refine .inr ⟨b, off, rfl, fun j hj => ?_⟩
    obtain ⟨h1, h2⟩ := h j hj
    refine ⟨(World.cell?_setCell_other _ _ _ _ ?_).trans h1, (World.cell?_setCell_other _ _ _ _ ?_).trans h2⟩
    · intro e; rw [e] at hc; rw [hc] at h1; cases h1
    · intro e; rw [e] at hc; rw [hc] at h2; cases h2
theorem RRep.set32 {w : World} {v : Value} {P : Int → Bool} (h : RRep w v P) {g o : Nat} {x : Int} (hc : w.cell? ⟨g, o, none⟩ = some (.int .i32 x)) (u : Value) : RRep (w.setCell ⟨g, o, none⟩ u) v P := by
  obtain ⟨y, L, h0, h1, h2⟩ := h
  exact ⟨y, L, h0, h1.set32 hc u, h2⟩
/-- What lies in memory while the lent list is written over. -/
structure OfC (w0 : World) (g c L b1 b3 bx : Nat) (q1 q2 : Option Addr) (PA : Int → Bool) (sa : Option Addr) (sn sc : Nat) (X : World) : Prop where
  a : RepO X b1 (.pointer q1) PA 200
  b : RepO X b3 (.pointer q2) PA 200
  x : RRep X (.agg #[.slice sa sn sc]) PA
  cx : X.cell? ⟨bx, 0, none⟩ = some (.slice sa sn sc)
  lent : ∃ M : List (Int × Int), M.length = L + 16 ∧ X.ownsRow w0.heap.size 39 2 (.slice (some ⟨g, 0, none⟩) (L + 16) c) (L + 16) (flat M)
  bel : Below w0.heap.size w0 X
theorem OfC.below {w0 : World} {g c L b1 b3 bx : Nat} {q1 q2 : Option Addr} {PA : Int → Bool} {sa : Option Addr} {sn sc : Nat} {X Y : World} (h : OfC w0 g c L b1 b3 bx q1 q2 PA sa sn sc X) (hb : Below X.heap.size X Y) : OfC w0 g c L b1 b3 bx q1 q2 PA sa sn sc Y := by
  obtain ⟨M, h1, h2⟩ := h.lent
  exact ⟨h.a.below hb, h.b.below hb, h.x.below hb, (hb.cell (p := ⟨bx, 0, none⟩) (cell_lt h.cx)).trans h.cx, ⟨M, h1, ownsRow_below hb h2⟩, below_snoc h.bel hb⟩
theorem OfC.cells {w0 : World} {g c L b1 b3 bx : Nat} {q1 q2 : Option Addr} {PA : Int → Bool} {sa : Option Addr} {sn sc : Nat} {X : World} (h : OfC w0 g c L b1 b3 bx q1 q2 PA sa sn sc X) (j : Nat) (hj : j < L) :
    (∃ p q : Int, X.cell? ⟨g, j * 2, none⟩ = some (.int .i32 p) ∧ X.cell? ⟨g, j * 2 + 1, none⟩ = some (.int .i32 q)) ∧ X.frozen? ⟨g, j * 2, none⟩ = false ∧ X.frozen? ⟨g, j * 2 + 1, none⟩ = false := by
  obtain ⟨M, h1, h2⟩ := h.lent
  have v1 := World.ownsRow.cellAt h2 (j * 2) (by omega)
  have v2 := World.ownsRow.cellAt h2 (j * 2 + 1) (by omega)
  have v5 := flat_get M j (by omega)
  rw [v5.1] at v1
  rw [v5.2] at v2
  exact ⟨⟨_, _, v1, v2⟩, World.ownsRow.frozenAt h2 _, World.ownsRow.frozenAt h2 _⟩
theorem OfC.store {w0 : World} {g c L b1 b3 bx : Nat} {q1 q2 : Option Addr} {PA : Int → Bool} {sa : Option Addr} {sn sc : Nat} {X : World} (h : OfC w0 g c L b1 b3 bx q1 q2 PA sa sn sc X) (j : Nat) (hj : j < L) (h1 : g < b1) (h3 : g < b3) (hx : bx ≠ g) (h0 : w0.heap.size ≤ g) (p q : Int) :
    OfC w0 g c L b1 b3 bx q1 q2 PA sa sn sc ((X.setCell ⟨g, j * 2, none⟩ (.int .i32 p)).setCell ⟨g, j * 2 + 1, none⟩ (.int .i32 q)) := by
  obtain ⟨⟨p0, q0, c1, c2⟩, -, -⟩ := h.cells j hj
  obtain ⟨M, m1, m2⟩ := h.lent
  refine ⟨(h.a.set h1 _).set h1 _, (h.b.set h3 _).set h3 _, (h.x.set32 c1 _).set32 (cell_set_next c2) _, cell_set_at (cell_set_at h.cx hx) hx, ⟨M.set j (p, q), by rw [List.length_set]; exact m1, ?_⟩, (h.bel.setCell (p := ⟨g, j * 2, none⟩) h0 _).setCell (p := ⟨g, j * 2 + 1, none⟩) h0 _⟩
  have s1 := (World.ownsRow.stored m2 (j * 2) (.int .i32 p)).1
  have s2 := (World.ownsRow.stored s1 (j * 2 + 1) (.int .i32 q)).1
  rw [flat_set] at s2
  exact s2
theorem Lent.below {w w' : World} {base g c : Nat} {l : List (Int × Int)} (h : Lent w base g c l) (hb : Below w.heap.size w w') : Lent w' base g c l := ⟨ownsRow_below hb h.1, h.2⟩

theorem book_new (w : World) : BookAt (w.alloc (.cells #[.slice none 0 0, .slice none 0 0, .slice none 0 0, .slice none 0 0, .slice none 0 0, .slice none 0 0, .slice none 0 0, .slice none 0 0, .slice none 0 0, .slice none 0 0, .slice none 0 0, .slice none 0 0, .slice none 0 0, .slice none 0 0, .slice none 0 0, .slice none 0 0, .slice none 0 0, .slice none 0 0, .slice none 0 0, .slice none 0 0, .slice none 0 0, .slice none 0 0, .slice none 0 0, .slice none 0 0] 66)) w.heap.size [] := by
  refine ⟨⟨.slice none 0 0, by simp, World.ownsRow_nil _ _ _ _⟩, by simp, fun i h1 h2 => ?_⟩
  rcases i with _ | _ | _ | _ | _ | _ | _ | _ | _ | _ | _ | _ | _ | _ | _ | _ | _ | _ | _ | _ | _ | _ | _ | _ | i
  all_goals first | (exact absurd rfl h2) | (exfalso; omega) | simp
theorem IsOwn.below {w w' : World} {base : Nat} {p : Value} {l : List (Int × Int)} (h : IsOwn w base p l) (hb : Below w.heap.size w w') : IsOwn w' base p l := by
  obtain ⟨b, u, h1, h2, h3, h4⟩ := h
  exact ⟨b, u, h1, h2, (hb.cell (p := ⟨b, 0, none⟩) (cell_lt h3)).trans h3, ownsRow_below hb h4⟩
theorem three_len {l1 l2 : List (Int × Int)} (h1 : l1.length ≤ 1000000) (h2 : l2.length ≤ 1000000) : ∀ i, i < 3 → ((fun t => if t = 0 then l1 else if t = 1 then l1 else l2 : Nat → List (Int × Int)) i).length ≤ 1000000 := fun i hi => by
  rcases i with _ | _ | _ | i
  · exact h1
  · exact h1
  · exact h2
  · omega
theorem three_many {w : World} {B : Nat} {v1 v2 v3 : Value} {l1 l2 l3 : List (Int × Int)} (h1 : w.ownsRow B 39 2 v1 l1.length (flat l1)) (h2 : w.ownsRow B 39 2 v2 l2.length (flat l2)) (h3 : w.ownsRow B 39 2 v3 l3.length (flat l3))
    {n1 n2 : Nat} (a1 : ∀ b, v1.ownBlock = some b → b < n1) (a2 : ∀ b, v2.ownBlock = some b → n1 ≤ b ∧ b < n2) (a3 : ∀ b, v3.ownBlock = some b → n2 ≤ b) (hn : n1 ≤ n2) :
    Many w B 3 (fun t => if t = 0 then v1 else if t = 1 then v2 else v3) (fun t => if t = 0 then l1 else if t = 1 then l2 else l3) := by
  have e12 : v1.ownBlock = none ∨ v1.ownBlock ≠ v2.ownBlock := by
    cases h : v1.ownBlock with
    | none => exact .inl rfl
    | some b => exact .inr fun e => by have := a1 b h; have := a2 b e.symm; omega
  have e13 : v1.ownBlock = none ∨ v1.ownBlock ≠ v3.ownBlock := by
    cases h : v1.ownBlock with
    | none => exact .inl rfl
    | some b => exact .inr fun e => by have := a1 b h; have := a3 b e.symm; omega
  have e23 : v2.ownBlock = none ∨ v2.ownBlock ≠ v3.ownBlock := by
    cases h : v2.ownBlock with
    | none => exact .inl rfl
    | some b => exact .inr fun e => by have := a2 b h; have := a3 b e.symm; omega
  have sw : ∀ {x y : Option Nat}, x = none ∨ x ≠ y → y = none ∨ y ≠ x := fun {x y} h => by
    cases y with
    | none => exact .inl rfl
    | some b => rcases h with h | h
                · exact .inr (by rw [h]; simp)
                · exact .inr (Ne.symm h)
  refine ⟨fun i hi => ?_, fun i j hi hj hij => ?_⟩
  · rcases i with _ | _ | _ | i
    · exact h1
    · exact h2
    · exact h3
    · omega
  · rcases i with _ | _ | _ | i <;> rcases j with _ | _ | _ | j
    all_goals first | (exfalso; omega) | exact e12 | exact e13 | exact e23 | exact sw e12 | exact sw e13 | exact sw e23

set_option maxRecDepth 100000 in
set_option maxHeartbeats 8000000 in
theorem rangesOf_walk {a1 xa : Option Addr} {c1 xc : Nat} {l : List (Int × Int)} {asks : List Int} {w : World} (h1 : Spans w (.slice a1 l.length c1) l) (h3 : Runes w (.slice xa asks.length xc) asks) (hab : ∀ x ∈ asks, -2147483648 ≤ x ∧ x ≤ 2147483647) (hd : DbOk w) (he : ErrT w) (hl : l.length ≤ 200) :
    Calls Tryz.prog 3 #[.slice a1 l.length c1, .slice xa asks.length xc] w fun e w' => e = .returned (.bool true) ∧ Below w.heap.size w w' := by
  obtain ⟨no, k, e, P, G0, E0⟩ := of_pair l (by omega)
  have HL := Lib.hid hl
  have g1 : ¬ (200 : Int) < (l.length : Int) := by omega
  have H1 := Lib.hid h1
  have H3 := Lib.hid h3
  clear h1 h3 hl
  go_enter Tryz.func3, Tryz.ntmps3
  go_wp2_with fail
  refine (lent_any _ l w H1.out (by have := HL.out; omega)).mono ?_
  rintro e w1 ⟨g, c, rfl, hLe, hg0, B1⟩
  have HLe := Lib.hid hLe
  have hgw : g < w1.heap.size := (hLe.1.lt g rfl).2
  clear hLe
  go_wp2_with fail
  refine (P.own w1 _ HLe.out.spans).mono ?_
  rintro e w2 ⟨q1, rfl, B2, R1, N1⟩
  have B12 := below_snoc B1 B2
  have HLe2 := Lib.hid (HLe.out.below B2)
  go_wp2_with fail
  refine (kept_any _ l w2 HLe2.out (H1.out.below B12) (by have := HL.out; omega)).mono ?_
  rintro e w3 ⟨rfl, B3⟩
  have B13 := below_snoc B12 B3
  have HLe3 := Lib.hid (HLe2.out.below B3)
  go_wp2_with fail
  refine (P.own w3 _ HLe3.out.spans).mono ?_
  rintro e w4 ⟨q2, rfl, B4, R2, N2⟩
  have B14 := below_snoc B13 B4
  have HLe4 := Lib.hid (HLe3.out.below B4)
  go_wp2_with fail
  refine (P.two w4 _ (H1.out.below B14)).mono ?_
  rintro e w5 ⟨sa, sn, sc, rfl, B5, T1⟩
  have B15 := below_snoc B14 B5
  go_wp2_with fail
  have A5 := (Below.refl w5.heap.size w5).alloc (Nat.le_refl _) (.cells #[.slice sa sn sc] 33)
  have cx5 : (w5.alloc (.cells #[.slice sa sn sc] 33)).cell? ⟨w5.heap.size, 0, none⟩ = some (.slice sa sn sc) := by simp
  generalize (w5.alloc (.cells #[.slice sa sn sc] 33)) = W5 at *
  have B15' := below_snoc B15 A5
  refine (P.told W5 (he.below B15')).mono ?_
  rintro e w6 ⟨rfl, B6⟩
  have B16 := below_snoc B15' B6
  go_wp2_with fail
  refine (P.told w6 (he.below B16)).mono ?_
  rintro e w7 ⟨rfl, B7⟩
  have B17 := below_snoc B16 B7
  go_wp2_with fail
  refine (works_any (DbOk.below B17 hd).1 (DbOk.below B17 hd).2).mono ?_
  rintro e w8 ⟨rfl, B8⟩
  have B18 := below_snoc B17 B8
  by_cases hn1 : no = 0
  · have hnn : (no != 0) = false := by simp [hn1]
    have r1 := R1 hn1
    have r2 := R2 hn1
    have t1 := T1 hn1
    have B58 := below_snoc A5 (below_snoc B6 (below_snoc B7 B8))
    have B48 := below_snoc B5 B58
    have B28 := below_snoc B3 (below_snoc B4 B48)
    have cx8 := (below_snoc B6 (below_snoc B7 B8)).cell (p := ⟨w5.heap.size, 0, none⟩) (cell_lt cx5) |>.trans cx5
    obtain ⟨o1, o2⟩ := HLe4.out.below B48
    have hg3 : g < w3.heap.size := Nat.lt_of_lt_of_le hgw (Nat.le_trans B2.size B3.size)
    have hg5 : g < w5.heap.size := Nat.lt_of_lt_of_le hg3 (Nat.le_trans B4.size B5.size)
    have hx : w5.heap.size ≠ g := by omega
    have r1' : RepO w8 w1.heap.size (.pointer q1) (fun r => memB r (l.map nm)) 200 := by
      obtain ⟨m, m1, m2, m3, m4, m5⟩ := r1.below B28
      exact ⟨m, m1, m2, m3, Nat.le_trans m4 HL.out, m5⟩
    have r2' : RepO w8 w3.heap.size (.pointer q2) (fun r => memB r (l.map nm)) 200 := by
      obtain ⟨m, m1, m2, m3, m4, m5⟩ := r2.below B48
      exact ⟨m, m1, m2, m3, Nat.le_trans m4 HL.out, m5⟩
    have hC : OfC w g c l.length w1.heap.size w3.heap.size w5.heap.size q1 q2 (fun r => memB r (l.map nm)) sa sn sc w8 :=
      ⟨r1', r2', t1.below B58, cx8, ⟨l ++ mks 90 0 16, by rw [List.length_append, mks_len], o1⟩, B18⟩
    have HC := Lib.hid hC
    have hgc : l.length ≤ c := by omega
    clear hC r1' r2' cx8 cx5 r1 r2 t1 o1 R1 R2 T1 N1 N2 G0 E0 P hn1
    generalize (fun r => memB r (l.map nm)) = PA at *
    generalize w5.heap.size = bx at *
    generalize hb1 : w1.heap.size = b1 at *
    generalize hb3 : w3.heap.size = b3 at *
    clear hb1 hb3 HLe HLe2 HLe3 HLe4 B1 B2 B3 B4 B5 A5 B6 B7 B8 B12 B13 B14 B15 B15' B16 B17 B58 B48 B28 B18
    obtain ⟨p1, hp1⟩ := HC.out.a.rep.ptr
    obtain ⟨p2, hp2⟩ := HC.out.b.rep.ptr
    injection hp1 with hp1
    injection hp2 with hp2
    subst hp1 hp2
    go_upto_if 3 with (fail)
    go_loopg [13] l.length (fun gk i wr => ∃ j : Nat, i = .int .i64 j ∧ j ≤ l.length ∧ l.length - j ≤ gk ∧ Hid (OfC w g c l.length b1 b3 bx (some ⟨p1, 0, none⟩) (some ⟨p2, 0, none⟩) PA sa sn sc wr))
    case atStart => exact ⟨0, rfl, by omega, by omega, HC⟩
    case round =>
      clear HC
      obtain ⟨j, rfl, hj, hg, HC⟩ := hrel
      by_cases hjl : j < l.length
      · have hjl' : (j : Int) < (l.length : Int) := by omega
        obtain ⟨⟨u1, u2, v1, v2⟩, v3, v4⟩ := HC.out.cells j hjl
        have d5 : ∀ u, (wr.setCell ⟨g, j * 2, none⟩ u).cell? ⟨g, j * 2 + 1, none⟩ = some (.int .i32 u2) := fun u => cell_set_next v2
        have d6 : ∀ u, (wr.setCell ⟨g, j * 2, none⟩ u).frozen? ⟨g, j * 2 + 1, none⟩ = false := fun u => (World.frozen?_setCell _ _ _ _).trans v4
        have HC2 := Lib.hid (HC.out.store j hjl hgw hg3 hx hg0 1 1)
        go_wp2
        go_roundg (gk - 1)
        case measure => omega
        case rel => exact ⟨j + 1, by go_num, by omega, by omega, HC2⟩
      · obtain rfl : j = l.length := by omega
        have D := HC.out
        have HAB := Lib.hid hab
        have cxr := D.cx
        clear hab HC
        go_wp2_with fail
        refine (is_rep D.a.rep D.x (by omega) (H3.out.below D.bel) HAB.out (DbOk.below D.bel hd)).mono ?_
        rintro e w9 ⟨rfl, B9⟩
        have D9 := D.below B9
        have cx9 := D9.cx
        clear D cxr
        go_wp2_with fail
        refine (is_rep D9.b.rep D9.x (by omega) (H3.out.below D9.bel) HAB.out (DbOk.below D9.bel hd)).mono ?_
        rintro e w10 ⟨rfl, B10⟩
        have D10 := D9.below B10
        clear D9 cx9
        obtain ⟨l1, i1, -, -, n1, -⟩ := D10.a
        obtain ⟨l2, i2, -, -, n2, -⟩ := D10.b
        go_wp2_with fail
        have BB := (Below.refl w10.heap.size w10).alloc (Nat.le_refl _) (.cells #[.slice none 0 0, .slice none 0 0, .slice none 0 0, .slice none 0 0, .slice none 0 0, .slice none 0 0, .slice none 0 0, .slice none 0 0, .slice none 0 0, .slice none 0 0, .slice none 0 0, .slice none 0 0, .slice none 0 0, .slice none 0 0, .slice none 0 0, .slice none 0 0, .slice none 0 0, .slice none 0 0, .slice none 0 0, .slice none 0 0, .slice none 0 0, .slice none 0 0, .slice none 0 0, .slice none 0 0] 66)
        have hbk := book_new w10
        have hsz : (w10.alloc (.cells #[.slice none 0 0, .slice none 0 0, .slice none 0 0, .slice none 0 0, .slice none 0 0, .slice none 0 0, .slice none 0 0, .slice none 0 0, .slice none 0 0, .slice none 0 0, .slice none 0 0, .slice none 0 0, .slice none 0 0, .slice none 0 0, .slice none 0 0, .slice none 0 0, .slice none 0 0, .slice none 0 0, .slice none 0 0, .slice none 0 0, .slice none 0 0, .slice none 0 0, .slice none 0 0, .slice none 0 0] 66)).heap.size = w10.heap.size + 1 := by simp
        generalize w10.alloc (.cells #[.slice none 0 0, .slice none 0 0, .slice none 0 0, .slice none 0 0, .slice none 0 0, .slice none 0 0, .slice none 0 0, .slice none 0 0, .slice none 0 0, .slice none 0 0, .slice none 0 0, .slice none 0 0, .slice none 0 0, .slice none 0 0, .slice none 0 0, .slice none 0 0, .slice none 0 0, .slice none 0 0, .slice none 0 0, .slice none 0 0, .slice none 0 0, .slice none 0 0, .slice none 0 0, .slice none 0 0] 66) = W10 at *
        generalize hbq : w10.heap.size = bk at hbk hsz ⊢
        have BQ := Lib.hid hbq
        refine (spans_any _ l1 W10 (i1.below BB).isSet (by omega)).mono ?_
        rintro e w11 ⟨v1, rfl, o1, B11⟩
        obtain ⟨x1, y1, rfl⟩ := owns_slice o1
        rw [hsz] at o1
        have BB11 := below_snoc BB B11
        go_wp2_with fail
        refine (bspans_any x1 l1.length y1 w11 (hbk.below B11) (by simp)).mono ?_
        rintro e w12 ⟨rfl, hbk2, K12, B12⟩
        have BB12 : Below w10.heap.size w10 w12 := BB11.trans (by rw [BQ.out]; exact B12)
        go_wp2_with fail
        refine (spans_any _ l1 w12 (i1.below BB12).isSet (by omega)).mono ?_
        rintro e w13 ⟨v2, rfl, o2', B13⟩
        obtain ⟨x2, y2, rfl⟩ := owns_slice o2'
        have BB13 := below_snoc BB12 B13
        go_wp2_with fail
        refine (bspans_any x2 l1.length y2 w13 (hbk2.below B13) (by simp)).mono ?_
        rintro e w14 ⟨rfl, hbk3, K14, B14⟩
        have BB14 : Below w10.heap.size w10 w14 := BB13.trans (by rw [BQ.out]; exact B14)
        go_wp2_with fail
        refine (spans_any _ l2 w14 (i2.below BB14).isSet (by omega)).mono ?_
        rintro e w15 ⟨v3, rfl, o3, B15⟩
        obtain ⟨x3, y3, rfl⟩ := owns_slice o3
        have BB15 := below_snoc BB14 B15
        go_wp2_with fail
        refine (bspans_any x3 l2.length y3 w15 (hbk3.below B15) (by simp)).mono ?_
        rintro e w16 ⟨rfl, hbk4, K16, B16⟩
        have BB16 : Below w10.heap.size w10 w16 := BB15.trans (by rw [BQ.out]; exact B16)
        have s12 : bk + 1 ≤ w12.heap.size := by rw [← hsz]; exact Nat.le_trans B11.size B12.size
        have s14 : bk + 1 ≤ w14.heap.size := Nat.le_trans s12 (Nat.le_trans B13.size B14.size)
        have m1 := K16 _ _ _ (ownsRow_below B15 (K14 _ _ _ (ownsRow_below B13 (K12 _ _ _ o1))))
        have m2 := K16 _ _ _ (ownsRow_below B15 (K14 _ _ _ (ownsRow_low o2' s12)))
        have m3 := K16 _ _ _ (ownsRow_low o3 s14)
        have hM := three_many m1 m2 m3 (n1 := w12.heap.size) (n2 := w14.heap.size) (fun b h => Nat.lt_of_lt_of_le (o1.lt b h).2 B12.size) (fun b h => ⟨(o2'.lt b h).1, Nat.lt_of_lt_of_le (o2'.lt b h).2 B14.size⟩) (fun b h => (o3.lt b h).1) (Nat.le_trans B13.size B14.size)
        go_wp2_with fail
        refine (apart_any (m := 3) hbk4 hM (by omega) (by omega) (three_len (by omega) (by omega))).mono ?_
        rintro e w17 ⟨rfl, B17⟩
        have BB17 : Below w10.heap.size w10 w17 := BB16.trans (by rw [BQ.out]; exact B17.mono (Nat.le_succ bk))
        have D17 := D10.below BB17
        have cx17 := D17.cx
        go_wp2_with fail
        refine (is_rep D17.a.rep D17.x (by omega) (H3.out.below D17.bel) HAB.out (DbOk.below D17.bel hd)).mono ?_
        rintro e w18 ⟨rfl, B18⟩
        go_wp2_with fail
        go_ret
        exact ⟨rfl, below_snoc D17.bel B18⟩
  · have hnn : (no != 0) = true := by simp; exact hn1
    obtain rfl := N1 hn1
    obtain rfl := N2 hn1
    have HN := Lib.hid hn1
    clear hn1
    go_wp2
    go_ret
    exact ⟨rfl, B18⟩

theorem rangesOf_any {v1 v2 : Value} {l : List (Int × Int)} {asks : List Int} {w : World} (h1 : Spans w v1 l) (h3 : Runes w v2 asks) (hab : ∀ x ∈ asks, -2147483648 ≤ x ∧ x ≤ 2147483647) (hd : DbOk w) (he : ErrT w) :
    Calls Tryz.prog 3 #[v1, v2] w fun e w' => e = .returned (.bool true) ∧ Below w.heap.size w w' := by
  obtain ⟨a1, c1, rfl⟩ := h1.shape
  obtain ⟨xa, xc, rfl⟩ := h3.shape
  by_cases hl : l.length ≤ 200
  · exact rangesOf_walk h1 h3 hab hd he hl
  · have g1 : (200 : Int) < (l.length : Int) := by omega
    clear h1 h3 hl
    go_enter Tryz.func3, Tryz.ntmps3
    go_wp2
    go_ret
    exact ⟨rfl, Below.refl _ _⟩
end Go.Proofs.YtmbjjheaddhmeaaGreatDoor
