/- RangesMade: the walk. -/
import Derived.Test.YtmbjjheaddhmeaaGreatDoorIs
import Derived.Test.YtmbjjheaddhmeaaGreatDoorOfPair
namespace Go.Proofs.YtmbjjheaddhmeaaGreatDoor
open Go.RowKit

/-- What lies in memory while sets are held against the document's. -/
structure MadeC (bp bq bx bz : Nat) (PA PB : Int → Bool) (sa : Option Addr) (sn sc : Nat) (ta : Option Addr) (tn tc : Nat) (xa : Option Addr) (asks : List Int) (xc : Nat) (w0 X : World) : Prop where
  a : Rep X (.pointer (some ⟨bp, 0, none⟩)) PA 200
  b : Rep X (.pointer (some ⟨bq, 0, none⟩)) PB 200
  x : RRep X (.agg #[.slice sa sn sc]) PA
  z : RRep X (.agg #[.slice ta tn tc]) PB
  cx : X.cell? ⟨bx, 0, none⟩ = some (.slice sa sn sc)
  cz : X.cell? ⟨bz, 0, none⟩ = some (.slice ta tn tc)
  k : Runes X (.slice xa asks.length xc) asks
  d : DbOk X
  bel : Below w0.heap.size w0 X
theorem MadeC.below {bp bq bx bz : Nat} {PA PB : Int → Bool} {sa : Option Addr} {sn sc : Nat} {ta : Option Addr} {tn tc : Nat} {xa : Option Addr} {asks : List Int} {xc : Nat} {w0 X Y : World} (h : MadeC bp bq bx bz PA PB sa sn sc ta tn tc xa asks xc w0 X) (hb : Below X.heap.size X Y) : MadeC bp bq bx bz PA PB sa sn sc ta tn tc xa asks xc w0 Y :=
  ⟨h.a.below hb, h.b.below hb, h.x.below hb, h.z.below hb, (hb.cell (p := ⟨bx, 0, none⟩) (cell_lt h.cx)).trans h.cx, (hb.cell (p := ⟨bz, 0, none⟩) (cell_lt h.cz)).trans h.cz, h.k.below hb, h.d.below hb, below_snoc h.bel hb⟩

set_option maxRecDepth 100000 in
set_option maxHeartbeats 8000000 in
theorem rangesMade_walk {a1 a2 xa : Option Addr} {c1 c2 xc : Nat} {l m : List (Int × Int)} {asks : List Int} {w : World} (h1 : Spans w (.slice a1 l.length c1) l) (h2 : Spans w (.slice a2 m.length c2) m) (h3 : Runes w (.slice xa asks.length xc) asks) (hab : ∀ x ∈ asks, -2147483648 ≤ x ∧ x ≤ 2147483647) (hd : DbOk w) (he : ErrT w) (hl : l.length ≤ 200) (hm : m.length ≤ 200) :
    Calls Tryz.prog 4 #[.slice a1 l.length c1, .slice a2 m.length c2, .slice xa asks.length xc] w fun e w' => e = .returned (.bool true) ∧ Below w.heap.size w w' := by
  obtain ⟨n1, k1, e1, P1, G1, -⟩ := of_pair l (by omega)
  obtain ⟨n2, k2, e2, P2, G2, -⟩ := of_pair m (by omega)
  have HL := Lib.hid hl
  have HM := Lib.hid hm
  have g1 : ¬ (200 : Int) < (l.length : Int) := by omega
  have g2 : ¬ (200 : Int) < (m.length : Int) := by omega
  have H1 := Lib.hid h1
  have H2 := Lib.hid h2
  have H3 := Lib.hid h3
  clear h1 h2 h3 hl hm
  go_enter Tryz.func4, Tryz.ntmps4
  go_wp2_with fail
  refine (works_any hd.1 hd.2).mono ?_
  rintro e w1 ⟨rfl, B1⟩
  go_wp2_with fail
  refine (spans_copy (H1.out.below B1) (by have := HL.out; omega)).mono ?_
  rintro e w2 ⟨b1, d1, rfl, s1, B2⟩
  go_wp2_with fail
  refine (P1.one w2 _ s1).mono ?_
  rintro e w3 ⟨q1, rfl, B3, R1, N1⟩
  have B13 := below_snoc (below_snoc B1 B2) B3
  go_wp2_with fail
  refine (spans_copy (H2.out.below B13) (by have := HM.out; omega)).mono ?_
  rintro e w4 ⟨b2, d2, rfl, s2, B4⟩
  go_wp2_with fail
  refine (P2.one w4 _ s2).mono ?_
  rintro e w5 ⟨q2, rfl, B5, R2, N2⟩
  have B15 := below_snoc (below_snoc B13 B4) B5
  go_wp2_with fail
  refine (P1.two w5 _ (H1.out.below B15)).mono ?_
  rintro e w6 ⟨sa, sn, sc, rfl, B6, T1⟩
  have B16 := below_snoc B15 B6
  go_wp2_with fail
  have A6 := (Below.refl w6.heap.size w6).alloc (Nat.le_refl _) (.cells #[.slice sa sn sc] 33)
  have cx6 : (w6.alloc (.cells #[.slice sa sn sc] 33)).cell? ⟨w6.heap.size, 0, none⟩ = some (.slice sa sn sc) := by simp
  generalize (w6.alloc (.cells #[.slice sa sn sc] 33)) = W6 at *
  have B16' := below_snoc B16 A6
  refine (P2.two W6 _ (H2.out.below B16')).mono ?_
  rintro e w7 ⟨ta, tn, tc, rfl, B7, T2⟩
  have B17 := below_snoc B16' B7
  go_wp2_with fail
  have A7 := (Below.refl w7.heap.size w7).alloc (Nat.le_refl _) (.cells #[.slice ta tn tc] 33)
  have cz7 : (w7.alloc (.cells #[.slice ta tn tc] 33)).cell? ⟨w7.heap.size, 0, none⟩ = some (.slice ta tn tc) := by simp
  generalize (w7.alloc (.cells #[.slice ta tn tc] 33)) = W7 at *
  have B17' := below_snoc B17 A7
  refine (P1.told W7 (he.below B17')).mono ?_
  rintro e w8 ⟨rfl, B8⟩
  have B18 := below_snoc B17' B8
  go_wp2_with fail
  refine (P2.told w8 (he.below B18)).mono ?_
  rintro e w9 ⟨rfl, B9⟩
  have B19 := below_snoc B18 B9
  by_cases hn1 : n1 = 0
  · by_cases hn2 : n2 = 0
    · have r1 := R1 hn1
      have r2 := R2 hn2
      obtain ⟨bp, hbp⟩ := r1.ptr
      obtain ⟨bq, hbq⟩ := r2.ptr
      injection hbp with hbp
      injection hbq with hbq
      subst hbp hbq
      have B89 := below_snoc B8 B9
      have B79 := below_snoc A7 B89
      have D69 := below_snoc B7 B79
      have B69 := below_snoc A6 D69
      have B59 := below_snoc B6 B69
      have B39 := below_snoc B4 (below_snoc B5 B59)
      have cz9 := (B89.cell (p := ⟨w7.heap.size, 0, none⟩) (cell_lt cz7)).trans cz7
      have cx9 := (D69.cell (p := ⟨w6.heap.size, 0, none⟩) (cell_lt cx6)).trans cx6
      have hM : MadeC bp bq w6.heap.size w7.heap.size (fun r => memB r (l.map nm)) (fun r => memB r (m.map nm)) sa sn sc ta tn tc xa asks xc w w9 :=
        ⟨(r1.weak HL.out).below B39, (r2.weak HM.out).below B59, (T1 hn1).below B69, (T2 hn2).below B79, cx9, cz9, H3.out.below B19, DbOk.below B19 hd, B19⟩
      generalize (fun r => memB r (l.map nm)) = PA at hM
      generalize (fun r => memB r (m.map nm)) = PB at hM
      clear r1 r2 cx6 cz7 cx9 cz9 T1 T2 R1 R2 N1 N2 H1 H2 H3 P1 P2 G1 G2 HL HM s1 s2 he hd A6 A7 B1 B2 B3 B4 B5 B6 B7 B8 B9 B13 B15 B16 B16' B17 B17' B18 B89 B79 D69 B69 B59 B39
      generalize w6.heap.size = bx at *
      generalize w7.heap.size = bz at *
      have HB := Lib.hid B19
      clear B19
      go_wp2_with fail
      refine wp_region_flow [.fix (.pointer (some ⟨bp, 0, none⟩)), .fix (.pointer (some ⟨bq, 0, none⟩)), .rel (fun v X => Rep X v (fun r => PA r || PB r) 400), .fix (.agg #[.slice sa sn sc]), .fix (.agg #[.slice ta tn tc]), .rel (fun v X => RRep X v (fun r => PA r || PB r)), .fix (.slice xa asks.length xc), .fix (.bool true), .fix (.bool true), .fix (.pointer (some ⟨bp, 0, none⟩)), .fix (.pointer (some ⟨bq, 0, none⟩)), .rel (fun v X => Rep X v (fun r => PA r && PB r) 400), .fix (.agg #[.slice sa sn sc]), .fix (.agg #[.slice ta tn tc]), .rel (fun v X => RRep X v (fun r => PA r && PB r)), .fix (.slice xa asks.length xc), .fix (.bool true), .fix (.bool true), .fix (.bool true), .fix (.pointer (some ⟨bp, 0, none⟩)), .fix (.pointer (some ⟨bq, 0, none⟩)), .rel (fun v X => Rep X v (fun r => PA r && !PB r) 401), .fix (.agg #[.slice sa sn sc]), .fix (.agg #[.slice ta tn tc]), .rel (fun v X => RRep X v (fun r => PA r && !PB r)), .fix (.slice xa asks.length xc), .fix (.bool true), .fix (.bool true), .fix (.bool true), .fix (.pointer (some ⟨bq, 0, none⟩)), .fix (.pointer (some ⟨bp, 0, none⟩)), .rel (fun v X => Rep X v (fun r => PB r && !PA r) 401), .fix (.agg #[.slice ta tn tc]), .fix (.agg #[.slice sa sn sc]), .rel (fun v X => RRep X v (fun r => PB r && !PA r)), .fix (.slice xa asks.length xc), .fix (.bool true), .fix (.bool true), .fix (.bool true), .fix (.pointer (some ⟨bp, 0, none⟩)), .rel (fun v X => Rep X v (fun r => !PA r) 201), .fix (.agg #[.slice sa sn sc]), .rel (fun v X => RRep X v (fun r => !PA r)), .fix (.slice xa asks.length xc), .fix (.bool true), .fix (.bool true), .fix (.bool true)] (fun X => MadeC bp bq bx bz PA PB sa sn sc ta tn tc xa asks xc w X) (fun X Y => Below X.heap.size X Y) (by kernel_rfl) (by kernel_rfl) (by kernel_rfl) rfl (hM.below (Below.refl _ _).drew) (fun X Y h1 h2 => h1.below h2) (fun X => Below.refl _ X) ?_ ?_ ?_
      · refine ⟨?_, ?_, ?_, ?_, ?_, ?_, ?_, ?_, ?_, ?_, trivial⟩
        · exact fun v X Y h hb => h.below hb
        · exact fun v X Y h hb => h.below hb
        · exact fun v X Y h hb => h.below hb
        · exact fun v X Y h hb => h.below hb
        · exact fun v X Y h hb => h.below hb
        · exact fun v X Y h hb => h.below hb
        · exact fun v X Y h hb => h.below hb
        · exact fun v X Y h hb => h.below hb
        · exact fun v X Y h hb => h.below hb
        · exact fun v X Y h hb => h.below hb
      · refine flowObl_cons ?_ (flowObl_cons ?_ (flowObl_cons ?_ (flowObl_cons ?_ (flowObl_cons ?_ (flowObl_cons ?_ (flowObl_cons ?_ (flowObl_cons ?_ (flowObl_cons ?_ (flowObl_cons ?_ (flowObl_cons ?_ (flowObl_cons ?_ (flowObl_cons ?_ (flowObl_cons ?_ (flowObl_cons ?_ (flowObl_cons ?_ (flowObl_cons ?_ (flowObl_cons ?_ (flowObl_cons ?_ (flowObl_cons ?_ (flowObl_cons ?_ (flowObl_cons ?_ (flowObl_cons ?_ (flowObl_cons ?_ (flowObl_cons ?_ (flowObl_cons ?_ (flowObl_cons ?_ (flowObl_cons ?_ (flowObl_cons ?_ (flowObl_cons ?_ (flowObl_cons ?_ (flowObl_cons ?_ (flowObl_cons ?_ (flowObl_cons ?_ (flowObl_cons ?_ (flowObl_cons ?_ (flowObl_cons ?_ (flowObl_cons ?_ (flowObl_cons ?_ (flowObl_cons ?_ (flowObl_cons ?_ (flowObl_cons ?_ (flowObl_cons ?_ (flowObl_cons ?_ (flowObl_cons ?_ (flowObl_cons ?_ (flowObl_cons ?_ (flowObl_nil)))))))))))))))))))))))))))))))))))))))))))))))
        · intro a X hC hS
          have h7 := see_old hS 7 (by kernel_rfl) (by kernel_rfl) rfl
          refine flow_run (wanted_none rfl) fun K hK => ?_
          clear hS
          simp [go_sem, BigFrame.eval_const, h7]
          exact hK _ _ rfl (Below.refl _ _)
        · intro a X hC hS
          have h9 := see_old hS 9 (by kernel_rfl) (by kernel_rfl) rfl
          refine flow_run (wanted_none rfl) fun K hK => ?_
          clear hS
          simp [go_sem, BigFrame.eval_const, h9]
          exact hK _ _ rfl (Below.refl _ _)
        · intro a X hC hS
          have h80 := see_fix hS 80 0 (by kernel_rfl) (by kernel_rfl) rfl
          have h81 := see_fix hS 81 1 (by kernel_rfl) (by kernel_rfl) rfl
          refine flow_run (wanted_none rfl) fun K hK => ?_
          clear hS
          simp [go_sem, BigFrame.eval_const, h80, h81]
          refine (join_ret hC.a hC.b (by omega)).mono ?_
          rintro e w' ⟨b, rfl, hR, hB⟩
          exact hK _ w' hR hB
        · intro a X hC hS
          have h11 := see_old hS 11 (by kernel_rfl) (by kernel_rfl) rfl
          refine flow_run (wanted_none rfl) fun K hK => ?_
          clear hS
          have hc := hC.cx
          simp [go_sem, BigFrame.eval_const, h11, hc]
          exact hK _ _ rfl (Below.refl _ _)
        · intro a X hC hS
          have h14 := see_old hS 14 (by kernel_rfl) (by kernel_rfl) rfl
          refine flow_run (wanted_none rfl) fun K hK => ?_
          clear hS
          have hc := hC.cz
          simp [go_sem, BigFrame.eval_const, h14, hc]
          exact hK _ _ rfl (Below.refl _ _)
        · intro a X hC hS
          have h83 := see_fix hS 83 3 (by kernel_rfl) (by kernel_rfl) rfl
          have h84 := see_fix hS 84 4 (by kernel_rfl) (by kernel_rfl) rfl
          refine flow_run (wanted_none rfl) fun K hK => ?_
          clear hS
          simp [go_sem, BigFrame.eval_const, h83, h84]
          refine (rJoin_ret hC.x hC.z).mono ?_
          rintro e w' ⟨b, n, c, rfl, hR, hB⟩
          exact hK _ w' hR hB
        · intro a X hC hS
          have h2 := see_old hS 2 (by kernel_rfl) (by kernel_rfl) rfl
          refine flow_run (wanted_none rfl) fun K hK => ?_
          clear hS
          simp [go_sem, BigFrame.eval_const, h2]
          exact hK _ _ rfl (Below.refl _ _)
        · intro a X hC hS
          have r82 := see_rel hS 82 2 (by kernel_rfl) (by kernel_rfl) rfl
          have r85 := see_rel hS 85 5 (by kernel_rfl) (by kernel_rfl) rfl
          have h86 := see_fix hS 86 6 (by kernel_rfl) (by kernel_rfl) rfl
          refine flow_run (wanted_none rfl) fun K hK => ?_
          clear hS
          simp [go_sem, BigFrame.eval_const, h86]
          refine (is_rep r82 r85 (by omega) hC.k hab hC.d).mono ?_
          rintro e w' ⟨rfl, hB⟩
          exact hK _ w' rfl hB
        · intro a X hC hS
          have h87 := see_fix hS 87 7 (by kernel_rfl) (by kernel_rfl) rfl
          refine flow_run (wanted_none rfl) fun K hK => ?_
          clear hS
          simp [go_sem, BigFrame.eval_const, h87]
          exact hK _ _ rfl (Below.refl _ _)
        · intro a X hC hS
          have h7 := see_old hS 7 (by kernel_rfl) (by kernel_rfl) rfl
          have hg88 := see_fix hS 88 8 (by kernel_rfl) (by kernel_rfl) rfl
          refine flow_run ((wanted_guard rfl rfl hg88).trans rfl) fun K hK => ?_
          clear hg88
          clear hS
          simp [go_sem, BigFrame.eval_const, h7]
          exact hK _ _ rfl (Below.refl _ _)
        · intro a X hC hS
          have h9 := see_old hS 9 (by kernel_rfl) (by kernel_rfl) rfl
          have hg88 := see_fix hS 88 8 (by kernel_rfl) (by kernel_rfl) rfl
          refine flow_run ((wanted_guard rfl rfl hg88).trans rfl) fun K hK => ?_
          clear hg88
          clear hS
          simp [go_sem, BigFrame.eval_const, h9]
          exact hK _ _ rfl (Below.refl _ _)
        · intro a X hC hS
          have h89 := see_fix hS 89 9 (by kernel_rfl) (by kernel_rfl) rfl
          have h90 := see_fix hS 90 10 (by kernel_rfl) (by kernel_rfl) rfl
          have hg88 := see_fix hS 88 8 (by kernel_rfl) (by kernel_rfl) rfl
          refine flow_run ((wanted_guard rfl rfl hg88).trans rfl) fun K hK => ?_
          clear hg88
          clear hS
          simp [go_sem, BigFrame.eval_const, h89, h90]
          refine (both_ret hC.a hC.b (by omega)).mono ?_
          rintro e w' ⟨b, rfl, hR, hB⟩
          exact hK _ w' hR hB
        · intro a X hC hS
          have h11 := see_old hS 11 (by kernel_rfl) (by kernel_rfl) rfl
          have hg88 := see_fix hS 88 8 (by kernel_rfl) (by kernel_rfl) rfl
          refine flow_run ((wanted_guard rfl rfl hg88).trans rfl) fun K hK => ?_
          clear hg88
          clear hS
          have hc := hC.cx
          simp [go_sem, BigFrame.eval_const, h11, hc]
          exact hK _ _ rfl (Below.refl _ _)
        · intro a X hC hS
          have h14 := see_old hS 14 (by kernel_rfl) (by kernel_rfl) rfl
          have hg88 := see_fix hS 88 8 (by kernel_rfl) (by kernel_rfl) rfl
          refine flow_run ((wanted_guard rfl rfl hg88).trans rfl) fun K hK => ?_
          clear hg88
          clear hS
          have hc := hC.cz
          simp [go_sem, BigFrame.eval_const, h14, hc]
          exact hK _ _ rfl (Below.refl _ _)
        · intro a X hC hS
          have h92 := see_fix hS 92 12 (by kernel_rfl) (by kernel_rfl) rfl
          have h93 := see_fix hS 93 13 (by kernel_rfl) (by kernel_rfl) rfl
          have hg88 := see_fix hS 88 8 (by kernel_rfl) (by kernel_rfl) rfl
          refine flow_run ((wanted_guard rfl rfl hg88).trans rfl) fun K hK => ?_
          clear hg88
          clear hS
          simp [go_sem, BigFrame.eval_const, h92, h93]
          refine (rBoth_ret hC.x hC.z).mono ?_
          rintro e w' ⟨b, n, c, rfl, hR, hB⟩
          exact hK _ w' hR hB
        · intro a X hC hS
          have h2 := see_old hS 2 (by kernel_rfl) (by kernel_rfl) rfl
          have hg88 := see_fix hS 88 8 (by kernel_rfl) (by kernel_rfl) rfl
          refine flow_run ((wanted_guard rfl rfl hg88).trans rfl) fun K hK => ?_
          clear hg88
          clear hS
          simp [go_sem, BigFrame.eval_const, h2]
          exact hK _ _ rfl (Below.refl _ _)
        · intro a X hC hS
          have r91 := see_rel hS 91 11 (by kernel_rfl) (by kernel_rfl) rfl
          have r94 := see_rel hS 94 14 (by kernel_rfl) (by kernel_rfl) rfl
          have h95 := see_fix hS 95 15 (by kernel_rfl) (by kernel_rfl) rfl
          have hg88 := see_fix hS 88 8 (by kernel_rfl) (by kernel_rfl) rfl
          refine flow_run ((wanted_guard rfl rfl hg88).trans rfl) fun K hK => ?_
          clear hg88
          clear hS
          simp [go_sem, BigFrame.eval_const, h95]
          refine (is_rep r91 r94 (by omega) hC.k hab hC.d).mono ?_
          rintro e w' ⟨rfl, hB⟩
          exact hK _ w' rfl hB
        · intro a X hC hS
          have h88 := see_fix hS 88 8 (by kernel_rfl) (by kernel_rfl) rfl
          have h96 := see_fix hS 96 16 (by kernel_rfl) (by kernel_rfl) rfl
          refine flow_run (wanted_none rfl) fun K hK => ?_
          clear hS
          simp [go_sem, BigFrame.eval_const, h88, h96]
          exact hK _ _ rfl (Below.refl _ _)
        · intro a X hC hS
          have h97 := see_fix hS 97 17 (by kernel_rfl) (by kernel_rfl) rfl
          refine flow_run (wanted_none rfl) fun K hK => ?_
          clear hS
          simp [go_sem, BigFrame.eval_const, h97]
          exact hK _ _ rfl (Below.refl _ _)
        · intro a X hC hS
          have h7 := see_old hS 7 (by kernel_rfl) (by kernel_rfl) rfl
          have hg98 := see_fix hS 98 18 (by kernel_rfl) (by kernel_rfl) rfl
          refine flow_run ((wanted_guard rfl rfl hg98).trans rfl) fun K hK => ?_
          clear hg98
          clear hS
          simp [go_sem, BigFrame.eval_const, h7]
          exact hK _ _ rfl (Below.refl _ _)
        · intro a X hC hS
          have h9 := see_old hS 9 (by kernel_rfl) (by kernel_rfl) rfl
          have hg98 := see_fix hS 98 18 (by kernel_rfl) (by kernel_rfl) rfl
          refine flow_run ((wanted_guard rfl rfl hg98).trans rfl) fun K hK => ?_
          clear hg98
          clear hS
          simp [go_sem, BigFrame.eval_const, h9]
          exact hK _ _ rfl (Below.refl _ _)
        · intro a X hC hS
          have h99 := see_fix hS 99 19 (by kernel_rfl) (by kernel_rfl) rfl
          have h100 := see_fix hS 100 20 (by kernel_rfl) (by kernel_rfl) rfl
          have hg98 := see_fix hS 98 18 (by kernel_rfl) (by kernel_rfl) rfl
          refine flow_run ((wanted_guard rfl rfl hg98).trans rfl) fun K hK => ?_
          clear hg98
          clear hS
          simp [go_sem, BigFrame.eval_const, h99, h100]
          refine (less_ret hC.a hC.b (by omega)).mono ?_
          rintro e w' ⟨b, rfl, hR, hB⟩
          exact hK _ w' hR hB
        · intro a X hC hS
          have h11 := see_old hS 11 (by kernel_rfl) (by kernel_rfl) rfl
          have hg98 := see_fix hS 98 18 (by kernel_rfl) (by kernel_rfl) rfl
          refine flow_run ((wanted_guard rfl rfl hg98).trans rfl) fun K hK => ?_
          clear hg98
          clear hS
          have hc := hC.cx
          simp [go_sem, BigFrame.eval_const, h11, hc]
          exact hK _ _ rfl (Below.refl _ _)
        · intro a X hC hS
          have h14 := see_old hS 14 (by kernel_rfl) (by kernel_rfl) rfl
          have hg98 := see_fix hS 98 18 (by kernel_rfl) (by kernel_rfl) rfl
          refine flow_run ((wanted_guard rfl rfl hg98).trans rfl) fun K hK => ?_
          clear hg98
          clear hS
          have hc := hC.cz
          simp [go_sem, BigFrame.eval_const, h14, hc]
          exact hK _ _ rfl (Below.refl _ _)
        · intro a X hC hS
          have h102 := see_fix hS 102 22 (by kernel_rfl) (by kernel_rfl) rfl
          have h103 := see_fix hS 103 23 (by kernel_rfl) (by kernel_rfl) rfl
          have hg98 := see_fix hS 98 18 (by kernel_rfl) (by kernel_rfl) rfl
          refine flow_run ((wanted_guard rfl rfl hg98).trans rfl) fun K hK => ?_
          clear hg98
          clear hS
          simp [go_sem, BigFrame.eval_const, h102, h103]
          refine (rLess_ret hC.x hC.z).mono ?_
          rintro e w' ⟨b, n, c, rfl, hR, hB⟩
          exact hK _ w' hR hB
        · intro a X hC hS
          have h2 := see_old hS 2 (by kernel_rfl) (by kernel_rfl) rfl
          have hg98 := see_fix hS 98 18 (by kernel_rfl) (by kernel_rfl) rfl
          refine flow_run ((wanted_guard rfl rfl hg98).trans rfl) fun K hK => ?_
          clear hg98
          clear hS
          simp [go_sem, BigFrame.eval_const, h2]
          exact hK _ _ rfl (Below.refl _ _)
        · intro a X hC hS
          have r101 := see_rel hS 101 21 (by kernel_rfl) (by kernel_rfl) rfl
          have r104 := see_rel hS 104 24 (by kernel_rfl) (by kernel_rfl) rfl
          have h105 := see_fix hS 105 25 (by kernel_rfl) (by kernel_rfl) rfl
          have hg98 := see_fix hS 98 18 (by kernel_rfl) (by kernel_rfl) rfl
          refine flow_run ((wanted_guard rfl rfl hg98).trans rfl) fun K hK => ?_
          clear hg98
          clear hS
          simp [go_sem, BigFrame.eval_const, h105]
          refine (is_rep r101 r104 (by omega) hC.k hab hC.d).mono ?_
          rintro e w' ⟨rfl, hB⟩
          exact hK _ w' rfl hB
        · intro a X hC hS
          have h98 := see_fix hS 98 18 (by kernel_rfl) (by kernel_rfl) rfl
          have h106 := see_fix hS 106 26 (by kernel_rfl) (by kernel_rfl) rfl
          refine flow_run (wanted_none rfl) fun K hK => ?_
          clear hS
          simp [go_sem, BigFrame.eval_const, h98, h106]
          exact hK _ _ rfl (Below.refl _ _)
        · intro a X hC hS
          have h107 := see_fix hS 107 27 (by kernel_rfl) (by kernel_rfl) rfl
          refine flow_run (wanted_none rfl) fun K hK => ?_
          clear hS
          simp [go_sem, BigFrame.eval_const, h107]
          exact hK _ _ rfl (Below.refl _ _)
        · intro a X hC hS
          have h9 := see_old hS 9 (by kernel_rfl) (by kernel_rfl) rfl
          have hg108 := see_fix hS 108 28 (by kernel_rfl) (by kernel_rfl) rfl
          refine flow_run ((wanted_guard rfl rfl hg108).trans rfl) fun K hK => ?_
          clear hg108
          clear hS
          simp [go_sem, BigFrame.eval_const, h9]
          exact hK _ _ rfl (Below.refl _ _)
        · intro a X hC hS
          have h7 := see_old hS 7 (by kernel_rfl) (by kernel_rfl) rfl
          have hg108 := see_fix hS 108 28 (by kernel_rfl) (by kernel_rfl) rfl
          refine flow_run ((wanted_guard rfl rfl hg108).trans rfl) fun K hK => ?_
          clear hg108
          clear hS
          simp [go_sem, BigFrame.eval_const, h7]
          exact hK _ _ rfl (Below.refl _ _)
        · intro a X hC hS
          have h109 := see_fix hS 109 29 (by kernel_rfl) (by kernel_rfl) rfl
          have h110 := see_fix hS 110 30 (by kernel_rfl) (by kernel_rfl) rfl
          have hg108 := see_fix hS 108 28 (by kernel_rfl) (by kernel_rfl) rfl
          refine flow_run ((wanted_guard rfl rfl hg108).trans rfl) fun K hK => ?_
          clear hg108
          clear hS
          simp [go_sem, BigFrame.eval_const, h109, h110]
          refine (less_ret hC.b hC.a (by omega)).mono ?_
          rintro e w' ⟨b, rfl, hR, hB⟩
          exact hK _ w' hR hB
        · intro a X hC hS
          have h14 := see_old hS 14 (by kernel_rfl) (by kernel_rfl) rfl
          have hg108 := see_fix hS 108 28 (by kernel_rfl) (by kernel_rfl) rfl
          refine flow_run ((wanted_guard rfl rfl hg108).trans rfl) fun K hK => ?_
          clear hg108
          clear hS
          have hc := hC.cz
          simp [go_sem, BigFrame.eval_const, h14, hc]
          exact hK _ _ rfl (Below.refl _ _)
        · intro a X hC hS
          have h11 := see_old hS 11 (by kernel_rfl) (by kernel_rfl) rfl
          have hg108 := see_fix hS 108 28 (by kernel_rfl) (by kernel_rfl) rfl
          refine flow_run ((wanted_guard rfl rfl hg108).trans rfl) fun K hK => ?_
          clear hg108
          clear hS
          have hc := hC.cx
          simp [go_sem, BigFrame.eval_const, h11, hc]
          exact hK _ _ rfl (Below.refl _ _)
        · intro a X hC hS
          have h112 := see_fix hS 112 32 (by kernel_rfl) (by kernel_rfl) rfl
          have h113 := see_fix hS 113 33 (by kernel_rfl) (by kernel_rfl) rfl
          have hg108 := see_fix hS 108 28 (by kernel_rfl) (by kernel_rfl) rfl
          refine flow_run ((wanted_guard rfl rfl hg108).trans rfl) fun K hK => ?_
          clear hg108
          clear hS
          simp [go_sem, BigFrame.eval_const, h112, h113]
          refine (rLess_ret hC.z hC.x).mono ?_
          rintro e w' ⟨b, n, c, rfl, hR, hB⟩
          exact hK _ w' hR hB
        · intro a X hC hS
          have h2 := see_old hS 2 (by kernel_rfl) (by kernel_rfl) rfl
          have hg108 := see_fix hS 108 28 (by kernel_rfl) (by kernel_rfl) rfl
          refine flow_run ((wanted_guard rfl rfl hg108).trans rfl) fun K hK => ?_
          clear hg108
          clear hS
          simp [go_sem, BigFrame.eval_const, h2]
          exact hK _ _ rfl (Below.refl _ _)
        · intro a X hC hS
          have r111 := see_rel hS 111 31 (by kernel_rfl) (by kernel_rfl) rfl
          have r114 := see_rel hS 114 34 (by kernel_rfl) (by kernel_rfl) rfl
          have h115 := see_fix hS 115 35 (by kernel_rfl) (by kernel_rfl) rfl
          have hg108 := see_fix hS 108 28 (by kernel_rfl) (by kernel_rfl) rfl
          refine flow_run ((wanted_guard rfl rfl hg108).trans rfl) fun K hK => ?_
          clear hg108
          clear hS
          simp [go_sem, BigFrame.eval_const, h115]
          refine (is_rep r111 r114 (by omega) hC.k hab hC.d).mono ?_
          rintro e w' ⟨rfl, hB⟩
          exact hK _ w' rfl hB
        · intro a X hC hS
          have h108 := see_fix hS 108 28 (by kernel_rfl) (by kernel_rfl) rfl
          have h116 := see_fix hS 116 36 (by kernel_rfl) (by kernel_rfl) rfl
          refine flow_run (wanted_none rfl) fun K hK => ?_
          clear hS
          simp [go_sem, BigFrame.eval_const, h108, h116]
          exact hK _ _ rfl (Below.refl _ _)
        · intro a X hC hS
          have h117 := see_fix hS 117 37 (by kernel_rfl) (by kernel_rfl) rfl
          refine flow_run (wanted_none rfl) fun K hK => ?_
          clear hS
          simp [go_sem, BigFrame.eval_const, h117]
          exact hK _ _ rfl (Below.refl _ _)
        · intro a X hC hS
          have h7 := see_old hS 7 (by kernel_rfl) (by kernel_rfl) rfl
          have hg118 := see_fix hS 118 38 (by kernel_rfl) (by kernel_rfl) rfl
          refine flow_run ((wanted_guard rfl rfl hg118).trans rfl) fun K hK => ?_
          clear hg118
          clear hS
          simp [go_sem, BigFrame.eval_const, h7]
          exact hK _ _ rfl (Below.refl _ _)
        · intro a X hC hS
          have h119 := see_fix hS 119 39 (by kernel_rfl) (by kernel_rfl) rfl
          have hg118 := see_fix hS 118 38 (by kernel_rfl) (by kernel_rfl) rfl
          refine flow_run ((wanted_guard rfl rfl hg118).trans rfl) fun K hK => ?_
          clear hg118
          clear hS
          simp [go_sem, BigFrame.eval_const, h119]
          refine (not_ret hC.a (by omega)).mono ?_
          rintro e w' ⟨b, rfl, hR, hB⟩
          exact hK _ w' hR hB
        · intro a X hC hS
          have h11 := see_old hS 11 (by kernel_rfl) (by kernel_rfl) rfl
          have hg118 := see_fix hS 118 38 (by kernel_rfl) (by kernel_rfl) rfl
          refine flow_run ((wanted_guard rfl rfl hg118).trans rfl) fun K hK => ?_
          clear hg118
          clear hS
          have hc := hC.cx
          simp [go_sem, BigFrame.eval_const, h11, hc]
          exact hK _ _ rfl (Below.refl _ _)
        · intro a X hC hS
          have h121 := see_fix hS 121 41 (by kernel_rfl) (by kernel_rfl) rfl
          have hg118 := see_fix hS 118 38 (by kernel_rfl) (by kernel_rfl) rfl
          refine flow_run ((wanted_guard rfl rfl hg118).trans rfl) fun K hK => ?_
          clear hg118
          clear hS
          simp [go_sem, BigFrame.eval_const, h121]
          refine (rNot_ret hC.x).mono ?_
          rintro e w' ⟨b, n, c, rfl, hR, hB⟩
          exact hK _ w' hR hB
        · intro a X hC hS
          have h2 := see_old hS 2 (by kernel_rfl) (by kernel_rfl) rfl
          have hg118 := see_fix hS 118 38 (by kernel_rfl) (by kernel_rfl) rfl
          refine flow_run ((wanted_guard rfl rfl hg118).trans rfl) fun K hK => ?_
          clear hg118
          clear hS
          simp [go_sem, BigFrame.eval_const, h2]
          exact hK _ _ rfl (Below.refl _ _)
        · intro a X hC hS
          have r120 := see_rel hS 120 40 (by kernel_rfl) (by kernel_rfl) rfl
          have r122 := see_rel hS 122 42 (by kernel_rfl) (by kernel_rfl) rfl
          have h123 := see_fix hS 123 43 (by kernel_rfl) (by kernel_rfl) rfl
          have hg118 := see_fix hS 118 38 (by kernel_rfl) (by kernel_rfl) rfl
          refine flow_run ((wanted_guard rfl rfl hg118).trans rfl) fun K hK => ?_
          clear hg118
          clear hS
          simp [go_sem, BigFrame.eval_const, h123]
          refine (is_rep r120 r122 (by omega) hC.k hab hC.d).mono ?_
          rintro e w' ⟨rfl, hB⟩
          exact hK _ w' rfl hB
        · intro a X hC hS
          have h118 := see_fix hS 118 38 (by kernel_rfl) (by kernel_rfl) rfl
          have h124 := see_fix hS 124 44 (by kernel_rfl) (by kernel_rfl) rfl
          refine flow_run (wanted_none rfl) fun K hK => ?_
          clear hS
          simp [go_sem, BigFrame.eval_const, h118, h124]
          exact hK _ _ rfl (Below.refl _ _)
        · intro a X hC hS
          have h125 := see_fix hS 125 45 (by kernel_rfl) (by kernel_rfl) rfl
          refine flow_run (wanted_none rfl) fun K hK => ?_
          clear hS
          simp [go_sem, BigFrame.eval_const, h125]
          exact hK _ _ rfl (Below.refl _ _)
      · intro v82 v85 v91 v94 v101 v104 v111 v114 v120 v122 X hX hF
        simp only [Act.put, List.setIfInBounds_toArray, List.set_cons_zero, List.set_cons_succ]
        clear hF hM HB
        go_wp2_with fail
        refine wp_region_flow [.fix (.bool true), .fix (.bool true), .fix (.pointer (some ⟨bp, 0, none⟩)), .fix (.pointer (some ⟨bp, 0, none⟩)), .rel (fun v X => Rep X v (fun r => PA r || PA r) 400), .fix (.agg #[.slice sa sn sc]), .fix (.slice xa asks.length xc), .fix (.bool true), .fix (.bool true), .fix (.bool true), .fix (.pointer (some ⟨bp, 0, none⟩)), .fix (.pointer (some ⟨bp, 0, none⟩)), .rel (fun v X => Rep X v (fun r => PA r && !PA r) 401), .fix (.agg #[.slice none 0 0]), .fix (.slice xa asks.length xc), .fix (.bool true), .fix (.bool true), .fix (.bool true), .fix (.pointer (some ⟨bp, 0, none⟩)), .fix (.agg #[.slice sa sn sc]), .fix (.slice xa asks.length xc), .fix (.bool true), .fix (.bool true), .fix (.bool true), .fix (.pointer (some ⟨bq, 0, none⟩)), .fix (.agg #[.slice ta tn tc]), .fix (.slice xa asks.length xc), .fix (.bool true), .fix (.bool true), .fix (.bool true)] (fun X => MadeC bp bq bx bz PA PB sa sn sc ta tn tc xa asks xc w X) (fun X Y => Below X.heap.size X Y) (by kernel_rfl) (by kernel_rfl) (by kernel_rfl) rfl (hX.below (Below.refl _ _).drew) (fun X Y h1 h2 => h1.below h2) (fun X => Below.refl _ X) ?_ ?_ ?_
        · refine ⟨?_, ?_, trivial⟩
          · exact fun v X Y h hb => h.below hb
          · exact fun v X Y h hb => h.below hb
        · refine flowObl_cons ?_ (flowObl_cons ?_ (flowObl_cons ?_ (flowObl_cons ?_ (flowObl_cons ?_ (flowObl_cons ?_ (flowObl_cons ?_ (flowObl_cons ?_ (flowObl_cons ?_ (flowObl_cons ?_ (flowObl_cons ?_ (flowObl_cons ?_ (flowObl_cons ?_ (flowObl_cons ?_ (flowObl_cons ?_ (flowObl_cons ?_ (flowObl_cons ?_ (flowObl_cons ?_ (flowObl_cons ?_ (flowObl_cons ?_ (flowObl_cons ?_ (flowObl_cons ?_ (flowObl_cons ?_ (flowObl_cons ?_ (flowObl_cons ?_ (flowObl_cons ?_ (flowObl_cons ?_ (flowObl_cons ?_ (flowObl_cons ?_ (flowObl_cons ?_ (flowObl_nil))))))))))))))))))))))))))))))
          · intro a X hC hS
            have h17 := see_old hS 17 (by kernel_rfl) (by kernel_rfl) rfl
            refine flow_run (wanted_none rfl) fun K hK => ?_
            clear hS
            simp [go_sem, BigFrame.eval_const, h17]
            exact hK _ _ rfl (Below.refl _ _)
          · intro a X hC hS
            have h126 := see_fix hS 126 0 (by kernel_rfl) (by kernel_rfl) rfl
            refine flow_run (wanted_none rfl) fun K hK => ?_
            clear hS
            simp [go_sem, BigFrame.eval_const, h126]
            exact hK _ _ rfl (Below.refl _ _)
          · intro a X hC hS
            have h7 := see_old hS 7 (by kernel_rfl) (by kernel_rfl) rfl
            have hg127 := see_fix hS 127 1 (by kernel_rfl) (by kernel_rfl) rfl
            refine flow_run ((wanted_guard rfl rfl hg127).trans rfl) fun K hK => ?_
            clear hg127
            clear hS
            simp [go_sem, BigFrame.eval_const, h7]
            exact hK _ _ rfl (Below.refl _ _)
          · intro a X hC hS
            have h7 := see_old hS 7 (by kernel_rfl) (by kernel_rfl) rfl
            have hg127 := see_fix hS 127 1 (by kernel_rfl) (by kernel_rfl) rfl
            refine flow_run ((wanted_guard rfl rfl hg127).trans rfl) fun K hK => ?_
            clear hg127
            clear hS
            simp [go_sem, BigFrame.eval_const, h7]
            exact hK _ _ rfl (Below.refl _ _)
          · intro a X hC hS
            have h128 := see_fix hS 128 2 (by kernel_rfl) (by kernel_rfl) rfl
            have h129 := see_fix hS 129 3 (by kernel_rfl) (by kernel_rfl) rfl
            have hg127 := see_fix hS 127 1 (by kernel_rfl) (by kernel_rfl) rfl
            refine flow_run ((wanted_guard rfl rfl hg127).trans rfl) fun K hK => ?_
            clear hg127
            clear hS
            simp [go_sem, BigFrame.eval_const, h128, h129]
            refine (join_ret hC.a hC.a (by omega)).mono ?_
            rintro e w' ⟨b, rfl, hR, hB⟩
            exact hK _ w' hR hB
          · intro a X hC hS
            have h11 := see_old hS 11 (by kernel_rfl) (by kernel_rfl) rfl
            have hg127 := see_fix hS 127 1 (by kernel_rfl) (by kernel_rfl) rfl
            refine flow_run ((wanted_guard rfl rfl hg127).trans rfl) fun K hK => ?_
            clear hg127
            clear hS
            have hc := hC.cx
            simp [go_sem, BigFrame.eval_const, h11, hc]
            exact hK _ _ rfl (Below.refl _ _)
          · intro a X hC hS
            have h2 := see_old hS 2 (by kernel_rfl) (by kernel_rfl) rfl
            have hg127 := see_fix hS 127 1 (by kernel_rfl) (by kernel_rfl) rfl
            refine flow_run ((wanted_guard rfl rfl hg127).trans rfl) fun K hK => ?_
            clear hg127
            clear hS
            simp [go_sem, BigFrame.eval_const, h2]
            exact hK _ _ rfl (Below.refl _ _)
          · intro a X hC hS
            have r130 := see_rel hS 130 4 (by kernel_rfl) (by kernel_rfl) rfl
            have h131 := see_fix hS 131 5 (by kernel_rfl) (by kernel_rfl) rfl
            have h132 := see_fix hS 132 6 (by kernel_rfl) (by kernel_rfl) rfl
            have hg127 := see_fix hS 127 1 (by kernel_rfl) (by kernel_rfl) rfl
            refine flow_run ((wanted_guard rfl rfl hg127).trans rfl) fun K hK => ?_
            clear hg127
            clear hS
            simp [go_sem, BigFrame.eval_const, h131, h132]
            refine (is_rep (r130.congr (fun r _ _ => Bool.or_self _)) hC.x (by omega) hC.k hab hC.d).mono ?_
            rintro e w' ⟨rfl, hB⟩
            exact hK _ w' rfl hB
          · intro a X hC hS
            have h127 := see_fix hS 127 1 (by kernel_rfl) (by kernel_rfl) rfl
            have h133 := see_fix hS 133 7 (by kernel_rfl) (by kernel_rfl) rfl
            refine flow_run (wanted_none rfl) fun K hK => ?_
            clear hS
            simp [go_sem, BigFrame.eval_const, h127, h133]
            exact hK _ _ rfl (Below.refl _ _)
          · intro a X hC hS
            have h134 := see_fix hS 134 8 (by kernel_rfl) (by kernel_rfl) rfl
            refine flow_run (wanted_none rfl) fun K hK => ?_
            clear hS
            simp [go_sem, BigFrame.eval_const, h134]
            exact hK _ _ rfl (Below.refl _ _)
          · intro a X hC hS
            have h7 := see_old hS 7 (by kernel_rfl) (by kernel_rfl) rfl
            have hg135 := see_fix hS 135 9 (by kernel_rfl) (by kernel_rfl) rfl
            refine flow_run ((wanted_guard rfl rfl hg135).trans rfl) fun K hK => ?_
            clear hg135
            clear hS
            simp [go_sem, BigFrame.eval_const, h7]
            exact hK _ _ rfl (Below.refl _ _)
          · intro a X hC hS
            have h7 := see_old hS 7 (by kernel_rfl) (by kernel_rfl) rfl
            have hg135 := see_fix hS 135 9 (by kernel_rfl) (by kernel_rfl) rfl
            refine flow_run ((wanted_guard rfl rfl hg135).trans rfl) fun K hK => ?_
            clear hg135
            clear hS
            simp [go_sem, BigFrame.eval_const, h7]
            exact hK _ _ rfl (Below.refl _ _)
          · intro a X hC hS
            have h136 := see_fix hS 136 10 (by kernel_rfl) (by kernel_rfl) rfl
            have h137 := see_fix hS 137 11 (by kernel_rfl) (by kernel_rfl) rfl
            have hg135 := see_fix hS 135 9 (by kernel_rfl) (by kernel_rfl) rfl
            refine flow_run ((wanted_guard rfl rfl hg135).trans rfl) fun K hK => ?_
            clear hg135
            clear hS
            simp [go_sem, BigFrame.eval_const, h136, h137]
            refine (less_ret hC.a hC.a (by omega)).mono ?_
            rintro e w' ⟨b, rfl, hR, hB⟩
            exact hK _ w' hR hB
          · intro a X hC hS
            have hg135 := see_fix hS 135 9 (by kernel_rfl) (by kernel_rfl) rfl
            refine flow_run ((wanted_guard rfl rfl hg135).trans rfl) fun K hK => ?_
            clear hg135
            clear hS
            simp [go_sem, BigFrame.eval_const]
            exact hK _ _ rfl (Below.refl _ _)
          · intro a X hC hS
            have h2 := see_old hS 2 (by kernel_rfl) (by kernel_rfl) rfl
            have hg135 := see_fix hS 135 9 (by kernel_rfl) (by kernel_rfl) rfl
            refine flow_run ((wanted_guard rfl rfl hg135).trans rfl) fun K hK => ?_
            clear hg135
            clear hS
            simp [go_sem, BigFrame.eval_const, h2]
            exact hK _ _ rfl (Below.refl _ _)
          · intro a X hC hS
            have r138 := see_rel hS 138 12 (by kernel_rfl) (by kernel_rfl) rfl
            have h139 := see_fix hS 139 13 (by kernel_rfl) (by kernel_rfl) rfl
            have h140 := see_fix hS 140 14 (by kernel_rfl) (by kernel_rfl) rfl
            have hg135 := see_fix hS 135 9 (by kernel_rfl) (by kernel_rfl) rfl
            refine flow_run ((wanted_guard rfl rfl hg135).trans rfl) fun K hK => ?_
            clear hg135
            clear hS
            simp [go_sem, BigFrame.eval_const, h139, h140]
            refine (is_rep (r138.congr (fun r _ _ => by show (PA r && !PA r) = false; cases PA r <;> rfl)) (RRep.empty _) (by omega) hC.k hab hC.d).mono ?_
            rintro e w' ⟨rfl, hB⟩
            exact hK _ w' rfl hB
          · intro a X hC hS
            have h135 := see_fix hS 135 9 (by kernel_rfl) (by kernel_rfl) rfl
            have h141 := see_fix hS 141 15 (by kernel_rfl) (by kernel_rfl) rfl
            refine flow_run (wanted_none rfl) fun K hK => ?_
            clear hS
            simp [go_sem, BigFrame.eval_const, h135, h141]
            exact hK _ _ rfl (Below.refl _ _)
          · intro a X hC hS
            have h142 := see_fix hS 142 16 (by kernel_rfl) (by kernel_rfl) rfl
            refine flow_run (wanted_none rfl) fun K hK => ?_
            clear hS
            simp [go_sem, BigFrame.eval_const, h142]
            exact hK _ _ rfl (Below.refl _ _)
          · intro a X hC hS
            have h7 := see_old hS 7 (by kernel_rfl) (by kernel_rfl) rfl
            have hg143 := see_fix hS 143 17 (by kernel_rfl) (by kernel_rfl) rfl
            refine flow_run ((wanted_guard rfl rfl hg143).trans rfl) fun K hK => ?_
            clear hg143
            clear hS
            simp [go_sem, BigFrame.eval_const, h7]
            exact hK _ _ rfl (Below.refl _ _)
          · intro a X hC hS
            have h11 := see_old hS 11 (by kernel_rfl) (by kernel_rfl) rfl
            have hg143 := see_fix hS 143 17 (by kernel_rfl) (by kernel_rfl) rfl
            refine flow_run ((wanted_guard rfl rfl hg143).trans rfl) fun K hK => ?_
            clear hg143
            clear hS
            have hc := hC.cx
            simp [go_sem, BigFrame.eval_const, h11, hc]
            exact hK _ _ rfl (Below.refl _ _)
          · intro a X hC hS
            have h2 := see_old hS 2 (by kernel_rfl) (by kernel_rfl) rfl
            have hg143 := see_fix hS 143 17 (by kernel_rfl) (by kernel_rfl) rfl
            refine flow_run ((wanted_guard rfl rfl hg143).trans rfl) fun K hK => ?_
            clear hg143
            clear hS
            simp [go_sem, BigFrame.eval_const, h2]
            exact hK _ _ rfl (Below.refl _ _)
          · intro a X hC hS
            have h144 := see_fix hS 144 18 (by kernel_rfl) (by kernel_rfl) rfl
            have h145 := see_fix hS 145 19 (by kernel_rfl) (by kernel_rfl) rfl
            have h146 := see_fix hS 146 20 (by kernel_rfl) (by kernel_rfl) rfl
            have hg143 := see_fix hS 143 17 (by kernel_rfl) (by kernel_rfl) rfl
            refine flow_run ((wanted_guard rfl rfl hg143).trans rfl) fun K hK => ?_
            clear hg143
            clear hS
            simp [go_sem, BigFrame.eval_const, h144, h145, h146]
            refine (is_rep hC.a hC.x (by omega) hC.k hab hC.d).mono ?_
            rintro e w' ⟨rfl, hB⟩
            exact hK _ w' rfl hB
          · intro a X hC hS
            have h143 := see_fix hS 143 17 (by kernel_rfl) (by kernel_rfl) rfl
            have h147 := see_fix hS 147 21 (by kernel_rfl) (by kernel_rfl) rfl
            refine flow_run (wanted_none rfl) fun K hK => ?_
            clear hS
            simp [go_sem, BigFrame.eval_const, h143, h147]
            exact hK _ _ rfl (Below.refl _ _)
          · intro a X hC hS
            have h148 := see_fix hS 148 22 (by kernel_rfl) (by kernel_rfl) rfl
            refine flow_run (wanted_none rfl) fun K hK => ?_
            clear hS
            simp [go_sem, BigFrame.eval_const, h148]
            exact hK _ _ rfl (Below.refl _ _)
          · intro a X hC hS
            have h9 := see_old hS 9 (by kernel_rfl) (by kernel_rfl) rfl
            have hg149 := see_fix hS 149 23 (by kernel_rfl) (by kernel_rfl) rfl
            refine flow_run ((wanted_guard rfl rfl hg149).trans rfl) fun K hK => ?_
            clear hg149
            clear hS
            simp [go_sem, BigFrame.eval_const, h9]
            exact hK _ _ rfl (Below.refl _ _)
          · intro a X hC hS
            have h14 := see_old hS 14 (by kernel_rfl) (by kernel_rfl) rfl
            have hg149 := see_fix hS 149 23 (by kernel_rfl) (by kernel_rfl) rfl
            refine flow_run ((wanted_guard rfl rfl hg149).trans rfl) fun K hK => ?_
            clear hg149
            clear hS
            have hc := hC.cz
            simp [go_sem, BigFrame.eval_const, h14, hc]
            exact hK _ _ rfl (Below.refl _ _)
          · intro a X hC hS
            have h2 := see_old hS 2 (by kernel_rfl) (by kernel_rfl) rfl
            have hg149 := see_fix hS 149 23 (by kernel_rfl) (by kernel_rfl) rfl
            refine flow_run ((wanted_guard rfl rfl hg149).trans rfl) fun K hK => ?_
            clear hg149
            clear hS
            simp [go_sem, BigFrame.eval_const, h2]
            exact hK _ _ rfl (Below.refl _ _)
          · intro a X hC hS
            have h150 := see_fix hS 150 24 (by kernel_rfl) (by kernel_rfl) rfl
            have h151 := see_fix hS 151 25 (by kernel_rfl) (by kernel_rfl) rfl
            have h152 := see_fix hS 152 26 (by kernel_rfl) (by kernel_rfl) rfl
            have hg149 := see_fix hS 149 23 (by kernel_rfl) (by kernel_rfl) rfl
            refine flow_run ((wanted_guard rfl rfl hg149).trans rfl) fun K hK => ?_
            clear hg149
            clear hS
            simp [go_sem, BigFrame.eval_const, h150, h151, h152]
            refine (is_rep hC.b hC.z (by omega) hC.k hab hC.d).mono ?_
            rintro e w' ⟨rfl, hB⟩
            exact hK _ w' rfl hB
          · intro a X hC hS
            have h149 := see_fix hS 149 23 (by kernel_rfl) (by kernel_rfl) rfl
            have h153 := see_fix hS 153 27 (by kernel_rfl) (by kernel_rfl) rfl
            refine flow_run (wanted_none rfl) fun K hK => ?_
            clear hS
            simp [go_sem, BigFrame.eval_const, h149, h153]
            exact hK _ _ rfl (Below.refl _ _)
          · intro a X hC hS
            have h154 := see_fix hS 154 28 (by kernel_rfl) (by kernel_rfl) rfl
            refine flow_run (wanted_none rfl) fun K hK => ?_
            clear hS
            simp [go_sem, BigFrame.eval_const, h154]
            exact hK _ _ rfl (Below.refl _ _)
        · intro v130 v138 X2 hX2 hF
          simp only [Act.put, List.setIfInBounds_toArray, List.set_cons_zero, List.set_cons_succ]
          clear hF
          go_wp2
          go_ret
          exact ⟨rfl, hX2.bel⟩
    · have hnn : (n2 != 0) = true := by simp; exact hn2
      have HN := Lib.hid hn2
      clear hn2
      go_wp2
      go_ret
      exact ⟨rfl, B19⟩
  · have hnn : (n1 != 0) = true := by simp; exact hn1
    have HN := Lib.hid hn1
    clear hn1
    go_wp2
    go_ret
    exact ⟨rfl, B19⟩

theorem rangesMade_any {v1 v2 v3 : Value} {l m : List (Int × Int)} {asks : List Int} {w : World} (h1 : Spans w v1 l) (h2 : Spans w v2 m) (h3 : Runes w v3 asks) (hab : ∀ x ∈ asks, -2147483648 ≤ x ∧ x ≤ 2147483647) (hd : DbOk w) (he : ErrT w) :
    Calls Tryz.prog 4 #[v1, v2, v3] w fun e w' => e = .returned (.bool true) ∧ Below w.heap.size w w' := by
  obtain ⟨a1, c1, rfl⟩ := h1.shape
  obtain ⟨a2, c2, rfl⟩ := h2.shape
  obtain ⟨xa, xc, rfl⟩ := h3.shape
  by_cases hl : l.length ≤ 200
  · by_cases hm : m.length ≤ 200
    · exact rangesMade_walk h1 h2 h3 hab hd he hl hm
    · have g1 : ¬ (200 : Int) < (l.length : Int) := by omega
      have g2 : (200 : Int) < (m.length : Int) := by omega
      clear h1 h2 h3 hl hm
      go_enter Tryz.func4, Tryz.ntmps4
      go_wp2
      go_ret
      exact ⟨rfl, Below.refl _ _⟩
  · have g1 : (200 : Int) < (l.length : Int) := by omega
    clear h1 h2 h3 hl
    go_enter Tryz.func4, Tryz.ntmps4
    go_wp2
    go_ret
    exact ⟨rfl, Below.refl _ _⟩
end Go.Proofs.YtmbjjheaddhmeaaGreatDoor
