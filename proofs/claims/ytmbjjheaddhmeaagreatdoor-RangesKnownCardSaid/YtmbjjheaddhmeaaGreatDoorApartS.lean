/- The document's lists that are kept apart: lists of spans; the book's Apart. -/
import Derived.BigRegion
import Derived.BigCall
import Derived.Deep.DeepCutAuto
import Derived.Deep.RegionLaw
import Derived.Laws.OwnMore
import Derived.Deep.RegionHeld3
import Derived.Test.YtmbjjheaddhmeaaGreatDoorKit
namespace Go.Proofs.YtmbjjheaddhmeaaGreatDoor
section
open Go.RowKit

set_option maxRecDepth 100000 in
set_option maxHeartbeats 4000000 in
theorem apartSpans_any (G C m B : Nat) (vs : Nat → Value) (X : Nat → List (Int × Int)) (w : World) (h : Many w B m vs X) (ho : w.ownsRow B 22 1 (.slice (some ⟨G, 0, none⟩) m C) m ((List.range m).map vs)) (hm : m ≤ 100) (hl : ∀ i, i < m → (X i).length ≤ 1000000) (hB : B ≤ w.heap.size) :
    Calls Tryz.prog 54 #[.slice (some ⟨G, 0, none⟩) m C] w fun e w' => e = .returned (.bool true) ∧ Below B w w' := by
  have H := Lib.hid h
  have HO := Lib.hid ho
  have HL := Lib.hid hl
  clear h ho hl
  go_enter Tryz.func54, Tryz.ntmps54
  go_wp2
  go_loopg [3] m (fun gk i wr => ∃ (k : Nat) (Y : Nat → List (Int × Int)), i = .int .i64 k ∧ k ≤ m ∧ m - k ≤ gk ∧ Hid (Many wr B m vs Y) ∧ Hid (∀ t, (Y t).length = (X t).length) ∧ Hid (∀ t, t < k → Y t = mks t 0 (X t).length) ∧ Hid (wr.ownsRow B 22 1 (.slice (some ⟨G, 0, none⟩) m C) m ((List.range m).map vs)) ∧ Below B w wr)
  case atStart => exact ⟨0, X, rfl, by omega, by omega, H, fun t => rfl, fun t ht => by omega, HO, Below.refl _ _⟩
  case round =>
    obtain ⟨k, Y, rfl, hk, hg, HM, HY, HZ, hown, hb⟩ := hrel
    by_cases hkm : k < m
    · have hkm' : (k : Int) < (m : Int) := by omega
      have hcell : ∀ W : World, W.ownsRow B 22 1 (.slice (some ⟨G, 0, none⟩) m C) m ((List.range m).map vs) → W.cell? ⟨G, k, none⟩ = some (vs k) := fun W hW => by
        rw [World.ownsRow.cellAt hW k (by omega)]; simp [hkm]
      have HC := Lib.hid hcell
      obtain ⟨n, hn⟩ : ∃ n, (X k).length = n := ⟨_, rfl⟩
      have hnl : n ≤ 1000000 := by have := HL.out k hkm; omega
      have HN := Lib.hid hn
      obtain ⟨a, c, hv⟩ : ∃ a c, vs k = .slice a n c := by
        obtain ⟨a, c, h⟩ := owns_slice (HM.out.1 k hkm)
        rw [HY.out k, hn] at h
        exact ⟨a, c, h⟩
      have HV := Lib.hid hv
      clear hn hv hcell
      obtain ⟨K, rfl⟩ : ∃ K, K = gk := ⟨_, rfl⟩
      go_upto_if 3 with (fail)
      go_loopg [4] n (fun g2 i wx => ∃ (j : Nat) (Y : Nat → List (Int × Int)), i = .int .i64 j ∧ j ≤ n ∧ n - j ≤ g2 ∧ Hid (Many wx B m vs Y) ∧ Hid (∀ t, (Y t).length = (X t).length) ∧ Hid (∀ t, t < k → Y t = mks t 0 (X t).length) ∧ Hid ((Y k).take j = mks k 0 j) ∧ Hid (wx.ownsRow B 22 1 (.slice (some ⟨G, 0, none⟩) m C) m ((List.range m).map vs)) ∧ Below B w wx)
      case atStart => exact ⟨0, Y, rfl, by omega, by omega, HM, HY, HZ, rfl, hown, hb⟩
      case round =>
        clear HM HY HZ hown hb
        obtain ⟨j, Y, rfl, hj, hg2, HM, HY, HZ, HT, hown, hb⟩ := hrel
        have c0 : wr.cell? ⟨G, k, none⟩ = some (.slice a n c) := (HC.out _ hown.out).trans (congrArg some HV.out)
        by_cases hjn : j < n
        · have hjn' : (j : Int) < (n : Int) := by omega
          have hvk := HV.out
          obtain ⟨g, c', hse, hg1, hg3⟩ := World.ownsRow.form (HM.out.1 k hkm) (by rw [HY.out k, HN.out]; omega)
          obtain ⟨rfl, rfl⟩ : a = some ⟨g, 0, none⟩ ∧ c = c' := by rw [hvk, HY.out k, HN.out] at hse; injection hse with h1 h2 h3; exact ⟨h1, h3⟩
          have hvk2 : vs k = .slice (some ⟨g, 0, none⟩) (Y k).length c := by rw [hvk, HY.out k, HN.out]
          have HVK := Lib.hid hvk2
          have hmk := fun W => mark_any (k : Int) (j : Int) W (by omega) (by omega) (by omega) (by omega)
          have hGw : G < wr.heap.size := cell_lt c0
          have o0 := HM.out.1 k hkm
          rw [hvk2] at o0
          have hYk : (Y k).length = n := by rw [HY.out k, HN.out]
          have v1 := World.ownsRow.cellAt o0 (j * 2) (by omega)
          have v2 := World.ownsRow.cellAt o0 (j * 2 + 1) (by omega)
          have v3 := World.ownsRow.frozenAt o0 (j * 2)
          have v4 := World.ownsRow.frozenAt o0 (j * 2 + 1)
          have v5 := flat_get (Y k) j (by omega)
          have hgG : G ≠ g := by
            have := owns_types hown.out o0 (by decide)
            rcases this with h | h
            · cases h
            · exact fun e => h (by rw [e]; rfl)
          rw [v5.1] at v1
          rw [v5.2] at v2
          have hgw : g < wr.heap.size := hg3
          generalize ((Y k)[j]?.getD (0, 0)) = x at *
          obtain ⟨p0, q0⟩ := x
          dsimp only at v1 v2
          clear v5 o0 hYk
          have hGw' : G < wr.drew.heap.size := hGw
          have hgw' : g < wr.drew.heap.size := hgw
          have v1' : wr.drew.cell? ⟨g, j * 2, none⟩ = some (.int .i32 p0) := v1
          have v2' : wr.drew.cell? ⟨g, j * 2 + 1, none⟩ = some (.int .i32 q0) := v2
          have v3' : wr.drew.frozen? ⟨g, j * 2, none⟩ = false := v3
          have v4' : wr.drew.frozen? ⟨g, j * 2 + 1, none⟩ = false := v4
          clear hse hvk hvk2
          go_upto_region 7 with (fail)
          have c1 : wr.drew.cell? ⟨G, k, none⟩ = some (.slice (some ⟨g, 0, none⟩) n c) := c0
          go_region_held3 (fun W : World => W.cell? ⟨G, k, none⟩ = some (.slice (some ⟨g, 0, none⟩) n c)) (first | (with_reducible exact z1) | (with_reducible exact c1) | (with_reducible exact c0) | (with_reducible exact z7 _ _)) (first
            | (go_at_call 82; with_reducible refine (hmk _).mono ?_; rintro e w2 ⟨rfl, hB2⟩; have z1 := (hB2.cell (p := ⟨G, k, none⟩) hGw').trans c1; have d1 := (hB2.cell (p := ⟨g, j * 2, none⟩) hgw').trans v1'; have d2 := (hB2.cell (p := ⟨g, j * 2 + 1, none⟩) hgw').trans v2'; have d3 := (hB2.frozen (p := ⟨g, j * 2, none⟩) hgw').trans v3'; have d4 := (hB2.frozen (p := ⟨g, j * 2 + 1, none⟩) hgw').trans v4'; have d5 : ∀ u, (w2.setCell ⟨g, j * 2, none⟩ u).cell? ⟨g, j * 2 + 1, none⟩ = some (.int .i32 q0) := fun u => cell_set_next d2; have d6 : ∀ u, (w2.setCell ⟨g, j * 2, none⟩ u).frozen? ⟨g, j * 2 + 1, none⟩ = false := fun u => (World.frozen?_setCell _ _ _ _).trans d4; have z7 : ∀ u u', ((w2.setCell ⟨g, j * 2, none⟩ u).setCell ⟨g, j * 2 + 1, none⟩ u').cell? ⟨G, k, none⟩ = some (.slice (some ⟨g, 0, none⟩) n c) := fun u u' => (cell_set_at (cell_set_at z1 hgG) hgG)))
          all_goals
            go_wp2
            have hM2 := (HM.out.below (below_drew1 hB2)).store (j := j) (p := -7 - (k : Int)) (q := -(j : Int) - 1) hkm HVK.out
            go_roundg (gk - 1)
            case measure => omega
            case rel =>
              refine ⟨j + 1, setX Y k j (mkS k j), by go_num, by omega, by omega, hM2.1, fun t => ?_, fun t ht => ?_, ?_, (HM.out.below (below_drew1 hB2)).other hkm HVK.out hM2.2 (ownsRow_below (below_drew1 hB2) hown.out) (by decide), ?_⟩
              · unfold setX
                split
                · rename_i h; subst h; rw [List.length_set]; exact HY.out t
                · exact HY.out t
              · unfold setX
                rw [if_neg (by omega)]; exact HZ.out t ht
              · unfold setX
                rw [if_pos rfl, mks_snoc, ← HT.out, Nat.zero_add]
                exact take_set_snoc _ _ _ (by rw [HY.out k, HN.out]; exact hjn)
              · have h1 := hb.trans ((below_drew1 hB2).mono (Nat.le_trans hB hb.size))
                exact (h1.setCell (p := ⟨g, j * 2, none⟩) hg1 _).setCell (p := ⟨g, j * 2 + 1, none⟩) hg1 _
        · obtain rfl : j = n := by omega
          go_wp2
          go_roundg (K - 1)
          case measure => omega
          case rel =>
            refine ⟨k + 1, Y, by go_num, by omega, by omega, HM, HY, fun t ht => ?_, hown, hb⟩
            rcases Nat.lt_or_ge t k with h | h
            · exact HZ.out t h
            · obtain rfl : t = k := by omega
              have h1 := HT.out
              have h2 := HY.out t
              rw [HN.out] at h2 ⊢
              rw [← h1, ← h2, List.take_length]
    · obtain rfl : k = m := by omega
      obtain ⟨len, hlen⟩ : ∃ len : Nat → Nat, len = fun t => (X t).length := ⟨_, rfl⟩
      have hT := Tw.start HM.out (len := len) (fun t ht => by rw [hlen]; exact HZ.out t ht)
      have hGlt : G < wr.heap.size := (hown.out.lt G rfl).2
      have hLen : ∀ t, t < k → len t ≤ 1000000 := fun t ht => by rw [hlen]; exact HL.out t ht
      have HLEN := Lib.hid hLen
      obtain ⟨H0, hH0⟩ : ∃ H0, wr.heap.size = H0 := ⟨_, rfl⟩
      rw [hH0] at hT hGlt
      have HT := Lib.hid hT
      have hBH : B ≤ H0 := by rw [← hH0]; exact Nat.le_trans hB hb.size
      clear hlen HM HY HZ hT hLen hH0 H HL hk hg
      go_upto_if 3 with (fail)
      go_loopg [5, 6] k (fun gk ve i wr => ∃ (c : Nat) (cur : Nat → Value) (e : Nat → Nat), i = .int .i64 c ∧ c ≤ k ∧ k - c ≤ gk ∧ Hid (Tw wr B k H0 vs cur len e) ∧ Hid (∀ t, t < c → e t = 64) ∧ Hid (∀ t, c ≤ t → cur t = vs t ∧ e t = 0) ∧ Hid (wr.ownsRow B 22 1 (.slice (some ⟨G, 0, none⟩) k C) k ((List.range k).map vs)) ∧ Hid (wr.ownsRow H0 22 1 ve c ((List.range c).map cur)) ∧ Below B w wr)
      case atStart => exact ⟨0, vs, fun _ => 0, rfl, by omega, by omega, HT, fun t ht => by omega, fun t _ => ⟨rfl, rfl⟩, hown, World.ownsRow_nil _ _ _ _, hb⟩
      case round =>
        clear HT hown hb
        obtain ⟨c, cur, e, rfl, hc, hg, HT, HE1, HE2, hown, htw, hb⟩ := hrel
        by_cases hck : c < k
        · have hck' : (c : Int) < (k : Int) := by omega
          have hcell : ∀ W : World, W.ownsRow B 22 1 (.slice (some ⟨G, 0, none⟩) k C) k ((List.range k).map vs) → W.cell? ⟨G, c, none⟩ = some (vs c) := fun W hW => by
            rw [World.ownsRow.cellAt hW c (by omega)]; simp [hck]
          have HC := Lib.hid hcell
          obtain ⟨n, hn⟩ : ∃ n, len c = n := ⟨_, rfl⟩
          have hnl : n ≤ 1000000 := by have := HLEN.out c hck; omega
          have HN := Lib.hid hn
          obtain ⟨av, ac, hv⟩ : ∃ a c', vs c = .slice a n c' := by
            obtain ⟨a, c', h1, _⟩ := HT.out.sp c hck
            rw [mks_len, hn] at h1
            exact ⟨a, c', h1⟩
          have HV := Lib.hid hv
          obtain ⟨tv, tc, hve⟩ := owns_slice htw.out
          subst hve
          have c0 : wr.cell? ⟨G, c, none⟩ = some (.slice av n ac) := (HC.out _ hown.out).trans (congrArg some HV.out)
          have q1 := (HE2.out c (Nat.le_refl _)).1
          have q2 := (HE2.out c (Nat.le_refl _)).2
          have HQ : Hid (cur c = .slice av n ac) := q1.trans hv
          have HQ2 := Lib.hid q2
          clear hn hv hcell q1 q2
          obtain ⟨K, rfl⟩ : ∃ K, K = gk := ⟨_, rfl⟩
          go_upto_if 3 with (fail)
          go_loopg [7, 8] (64 : Nat) (fun g2 s i wx => ∃ (j : Nat) (cu : Nat → Value) (ee : Nat → Nat), s = cu c ∧ i = .int .i64 j ∧ j ≤ 64 ∧ 64 - j ≤ g2 ∧ Hid (Tw wx B k H0 vs cu len ee) ∧ Hid (ee c = j) ∧ Hid (∀ t, t ≠ c → cu t = cur t ∧ ee t = e t) ∧ Hid (wx.ownsRow B 22 1 (.slice (some ⟨G, 0, none⟩) k C) k ((List.range k).map vs)) ∧ Hid (wx.ownsRow H0 22 1 (.slice tv c tc) c ((List.range c).map cur)) ∧ Below B w wx)
          case atStart => exact ⟨0, cur, e, HQ.out.symm, rfl, by omega, by omega, HT, HQ2.out, fun t _ => ⟨rfl, rfl⟩, hown, htw, hb⟩
          case round =>
            clear HT hown htw hb c0
            obtain ⟨j, cu, ee, rfl, rfl, hj, hg2, HT, HEJ, HO, hown, htw, hb⟩ := hrel
            have c0 : wr.cell? ⟨G, c, none⟩ = some (.slice av n ac) := (HC.out _ hown.out).trans (congrArg some HV.out)
            have hcu : wr.ownsRow B 39 2 (cu c) (mks c 0 (len c + ee c)).length (flat (mks c 0 (len c + ee c))) := HT.out.many.1 c hck
            rw [mks_len, HN.out, HEJ.out] at hcu
            obtain ⟨ua, uc, huv⟩ := owns_slice hcu
            rw [huv] at hcu
            have HU := Lib.hid hcu
            have HUV := Lib.hid huv
            rw [huv]
            clear hcu huv
            by_cases hj64 : j < 64
            · have hj' : (j : Int) < 64 := by omega
              have hGw : G < wr.heap.size := cell_lt c0
              have hmk := fun W => mark_any (c : Int) ((n : Int) + (j : Int)) W (by omega) (by omega) (by omega) (by omega)
              have HF : Hid (flat (mks c 0 (n + j + 1)) = flat (mks c 0 (n + j)) ++ [.int .i32 (-7 - (c : Int)), .int .i32 (-((n : Int) + (j : Int)) - 1)]) := by
                show _ = _
                rw [flat_mks_snoc, show (((n + j : Nat) : Int)) = (n : Int) + (j : Int) by omega]
              have nB : n + j + 1 ≤ maxLen := by unfold maxLen; omega
              have nB' : (n + j + 1) * 8 ≤ 140737488355328 := by omega
              have hs1 : B ≤ wr.heap.size := Nat.le_trans hB hb.size
              obtain ⟨i0, hi0, hz0, hz1, hz2⟩ := info_parts Tryz.infoSpanN
              go_wp2_with (first
                | (go_at_call 82; with_reducible refine (hmk _).mono ?_; rintro e w2 ⟨rfl, hB2⟩; have own2 := Lib.hid (ownsRow_below hB2 HU.out); have hb2 : Below B w w2 := hb.trans (hB2.mono hs1); have hs2 : B ≤ w2.heap.size := Nat.le_trans hs1 hB2.size; have hvb := Lib.hid own2.out.lt; have BX : Below B w (w2.alloc (.cells #[.int .i32 (-7 - (c : Int)), .int .i32 (-((n : Int) + (j : Int)) - 1)] 39)) := hb2.alloc hs2 _)
                | (at_builtin; refine wpList_append_two _ ?_ (.tmp 50) (.tmp 60) 22 ?_ (B) 39 i0 (.agg #[.int .i32 0, .int .i32 0]) 2 8 Tryz.underlying22 hi0 hz0 hz1 hz2 ?_ ?_ (.slice ua (n + j) uc) ((n + j)) (flat (mks c 0 (n + j))) ?_ ?_ ⟨w2.heap.size, 0, none⟩ 1 1 [.int .i32 (-7 - (c : Int)), .int .i32 (-((n : Int) + (j : Int)) - 1)] ?_ ?_ ?_ ?_ ?_ ?_ ?_ ?_ (w2.heap.size + 1) ?_ ?_; (· rfl); (· rfl); (· rfl); (· decide); (· rfl); (· exact own2.out.alloc _); (· rfl); (· rfl); (· exact World.news_of_block (cs := #[.int .i32 (-7 - (c : Int)), .int .i32 (-((n : Int) + (j : Int)) - 1)]) (t := 39) (fr := (0, 0)) (heap_alloc_new _ _)); (· simp [Value.oneCell']); (· decide); (· exact nB); (· exact nB'); (· first | (simp; omega) | omega); (· first | (with_reducible rfl) | simp); intro g cap w1 hown1 hgrow hat hlt; have BY := BX.grown hgrow (by simp; omega) (fun k hk => (hvb.out k hk).1)))
              have BA : Below wr.heap.size wr (w2.alloc (.cells #[.int .i32 (-7 - (c : Int)), .int .i32 (-((n : Int) + (j : Int)) - 1)] 39)) := hB2.alloc hB2.size _
              have hT3 := (HT.out.below BA).push (c := cap) (g := g) (n := n + j + 1) hck (by rw [HN.out, HEJ.out]) (by rw [HF.out]; exact hown1) (by rw [HUV.out]; exact hgrow) (by
                rw [HUV.out]
                rcases hat with h | ⟨h1, h2⟩
                · exact .inl h
                · exact .inr ⟨by rw [h1]; simp, h2⟩)
              go_roundg (gk - 1)
              case measure => omega
              case rel =>
                exact ⟨j + 1, _, _, (upd_same _ _ _).symm, by go_num, by omega, by omega, hT3, (upd_same _ _ _).trans (congrArg (· + 1) HEJ.out), fun t ht => ⟨(upd_other _ _ _ _ ht).trans (HO.out t ht).1, (upd_other _ _ _ _ ht).trans (HO.out t ht).2⟩,
                  (ownsRow_below BA hown.out).kept hgrow (owns_types hown.out HU.out (by decide)), (ownsRow_below BA htw.out).kept hgrow (owns_types htw.out HU.out (by decide)), BY⟩
            · obtain rfl : j = 64 := by omega
              have hs1 : B ≤ wr.heap.size := Nat.le_trans hB hb.size
              have hs0 : H0 ≤ wr.heap.size := HT.out.hi
              obtain ⟨i0, hi0, hz0, hz1, hz2⟩ := info_parts Tryz.infoSpansL
              have hvb := Lib.hid htw.out.lt
              have nB : c + 1 ≤ maxLen := by unfold maxLen; omega
              have nB' : (c + 1) * 24 ≤ 140737488355328 := by omega
              have BA : Below wr.heap.size wr (wr.alloc (.cells #[.slice ua (n + 64) uc] 22)) := (Below.refl _ wr).alloc (Nat.le_refl _) _
              have BX : Below B w (wr.alloc (.cells #[.slice ua (n + 64) uc] 22)) := hb.alloc hs1 _
              go_wp2_with ((at_builtin; refine wpList_append_lies _ ?_ (.tmp 62) (.tmp 64) 47 ?_ (H0) 22 i0 (.slice none 0 0) 1 24 Tryz.underlying47 hi0 hz0 hz1 hz2 ?_ ?_ (.slice tv c tc) (c) ((List.range c).map cur) ?_ ?_ ⟨wr.heap.size, 0, none⟩ 1 1 [.slice ua (n + 64) uc] ?_ ?_ ?_ ?_ ?_ ?_ ?_ ?_ (wr.heap.size + 1) ?_ ?_; (· rfl); (· rfl); (· rfl); (· decide); (· rfl); (· exact htw.out.alloc _); (· rfl); (· rfl); (· exact World.news_of_block (cs := #[.slice ua (n + 64) uc]) (t := 22) (fr := (0, 0)) (heap_alloc_new _ _)); (· simp [Value.oneCell']); (· decide); (· exact nB); (· exact nB'); (· first | (simp; omega) | omega); (· first | (with_reducible rfl) | simp); intro g cap w1 hown1 hgrow hat hlt; have BY := BX.grown hgrow (by simp; omega) (fun k hk => Nat.le_trans hBH (hvb.out k hk).1)))
              go_roundg (K - 1)
              case measure => omega
              case rel =>
                refine ⟨c + 1, cu, ee, by go_num, by omega, by omega, (HT.out.below BA).far (ownsRow_below BA htw.out) (by decide) hgrow, fun t ht => ?_, fun t ht => ?_, (ownsRow_below BA hown.out).kept hgrow ?_, ?_, BY⟩
                · by_cases htc : t = c
                  · subst htc; exact HEJ.out
                  · rw [(HO.out t htc).2]; exact HE1.out t (by omega)
                · have h1 := HO.out t (by omega)
                  rw [h1.1, h1.2]; exact HE2.out t (by omega)
                · right
                  intro hb2
                  have := (hvb.out G hb2.symm).1
                  omega
                · rw [List.range_succ, List.map_append, show (List.range c).map cu = (List.range c).map cur from List.map_congr_left fun t ht => (HO.out t (by have := List.mem_range.1 ht; omega)).1, List.map_singleton, HUV.out]
                  exact hown1
        · obtain rfl : c = k := by omega
          obtain ⟨tv, tc, hve⟩ := owns_slice htw.out
          subst hve
          clear HE2 hg hck hc
          obtain ⟨V, rfl⟩ : ∃ V : World, V = wr := ⟨_, rfl⟩
          have hbV := Lib.hid hb
          clear hb
          go_upto_if 3 with (fail)
          go_loopg [9] c (fun gk i wr => ∃ d : Nat, i = .int .i64 d ∧ d ≤ c ∧ c - d ≤ gk ∧ Below V.heap.size V wr)
          case atStart => exact ⟨0, rfl, by omega, by omega, Below.refl _ _⟩
          case round =>
            obtain ⟨d, rfl, hd, hg, hb⟩ := hrel
            by_cases hdc : d < c
            · have hdc' : (d : Int) < (c : Int) := by omega
              obtain ⟨n, hn⟩ : ∃ n, len d = n := ⟨_, rfl⟩
              have hnl : n ≤ 1000000 := by have := HLEN.out d hdc; omega
              obtain ⟨Gt, tc', hse, hg1, hg3⟩ := World.ownsRow.form htw.out (by omega)
              obtain ⟨rfl, -⟩ : tv = some ⟨Gt, 0, none⟩ ∧ True := by injection hse with h1 h2 h3; exact ⟨h1, trivial⟩
              have c0 : V.cell? ⟨G, d, none⟩ = some (vs d) := by rw [World.ownsRow.cellAt hown.out d (by omega)]; simp [hdc]
              have c1 : V.cell? ⟨Gt, d, none⟩ = some (cur d) := by rw [World.ownsRow.cellAt htw.out d (by omega)]; simp [hdc]
              obtain ⟨av, ac, hv1, hv2⟩ := HT.out.sp d hdc
              obtain ⟨bv, bc, hu1, hu2⟩ := HT.out.curSpans hdc
              rw [HE1.out d hdc, hn] at hu1 hu2
              rw [mks_len] at hu1 hu2
              rw [hn] at hv1 hv2
              rw [mks_len] at hv1 hv2
              rw [hv1] at c0
              rw [hu1] at c1
              rcases hu2 with hu2 | ⟨bb, bo, rfl, hu2⟩
              · have := congrArg List.length hu2
                rw [mks_len] at this; simp at this
              have HU2 := Lib.hid hu2
              have hv3 : ∀ j, j < n → ∃ g o, av = some ⟨g, o, none⟩ ∧ V.cell? ⟨g, o + j * 2, none⟩ = some (.int .i32 (-7 - (d : Int))) ∧ V.cell? ⟨g, o + j * 2 + 1, none⟩ = some (.int .i32 (-(j : Int) - 1)) := fun j hj => by
                rcases hv2 with hv2 | ⟨g, o, h1, hv2⟩
                · have := congrArg List.length hv2
                  rw [mks_len] at this; simp at this; omega
                · have := hv2 j hj
                  rw [mks_get _ _ _ _ hj, Nat.zero_add] at this
                  exact ⟨g, o, h1, this⟩
              have HV3 := Lib.hid hv3
              have hGV : G < V.heap.size := cell_lt c0
              have hGtV : Gt < V.heap.size := cell_lt c1
              clear hn hv1 hu1 hu2 hv2 hv3 hse
              obtain ⟨K, rfl⟩ : ∃ K, K = gk := ⟨_, rfl⟩
              go_upto_if 3 with (fail)
              go_loopg [10] (n + 64) (fun g2 i wx => ∃ j : Nat, i = .int .i64 j ∧ j ≤ n + 64 ∧ n + 64 - j ≤ g2 ∧ Below V.heap.size V wx)
              case atStart => exact ⟨0, rfl, by omega, by omega, hb⟩
              case round =>
                clear hb
                obtain ⟨j, rfl, hj, hg2, hb⟩ := hrel
                have d0 := (hb.cell (p := ⟨G, d, none⟩) hGV).trans c0
                have d1 := (hb.cell (p := ⟨Gt, d, none⟩) hGtV).trans c1
                by_cases hjn : j < n + 64
                · have hjn' : (j : Int) < (n : Int) + 64 := by omega
                  obtain ⟨x1, x2⟩ := HU2.out j hjn
                  rw [mks_get _ _ _ _ hjn, Nat.zero_add] at x1 x2
                  have x1' : V.cell? ⟨bb, bo + j * 2, none⟩ = some (.int .i32 (-7 - (d : Int))) := x1
                  have x2' : V.cell? ⟨bb, bo + j * 2 + 1, none⟩ = some (.int .i32 (-(j : Int) - 1)) := x2
                  have hm := fun W => mark_any (d : Int) (j : Int) W (by omega) (by omega) (by omega) (by omega)
                  clear x1 x2
                  by_cases hjl : j < n
                  · have hjl' : (j : Int) < (n : Int) := by omega
                    obtain ⟨ag, ao, rfl, y1, y2⟩ := HV3.out j hjl
                    go_wp2_with ((go_at_call 82; with_reducible refine (hm _).mono ?_; rintro e w2 ⟨rfl, hB2⟩; have hb2 := below_snoc hb hB2; have z1 := (hb2.cell (p := ⟨bb, bo + j * 2, none⟩) (cell_lt x1')).trans x1'; have z2 := (hb2.cell (p := ⟨bb, bo + j * 2 + 1, none⟩) (cell_lt x2')).trans x2'; have z3 := (hb2.cell (p := ⟨ag, ao + j * 2, none⟩) (cell_lt y1)).trans y1; have z4 := (hb2.cell (p := ⟨ag, ao + j * 2 + 1, none⟩) (cell_lt y2)).trans y2; have z5 := (hb2.cell (p := ⟨G, d, none⟩) hGV).trans c0; have z6 := (hb2.cell (p := ⟨Gt, d, none⟩) hGtV).trans c1; have q1 : bb < w2.heap.size := cell_lt z1; have q3 : ag < w2.heap.size := cell_lt z3; have q5 : G < w2.heap.size := cell_lt z5; have q6 : Gt < w2.heap.size := cell_lt z6))
                    go_quiet (fail)
                    go_wp2
                    go_roundg (gk - 1)
                    case measure => omega
                    case rel => exact ⟨j + 1, by go_num, by omega, by omega, below_drewN (hb2.alloc hb2.size _) _⟩
                  · have hjl' : ¬ (j : Int) < (n : Int) := by omega
                    go_wp2_with ((go_at_call 82; with_reducible refine (hm _).mono ?_; rintro e w2 ⟨rfl, hB2⟩; have hb2 := below_snoc hb hB2; have z1 := (hb2.cell (p := ⟨bb, bo + j * 2, none⟩) (cell_lt x1')).trans x1'; have z2 := (hb2.cell (p := ⟨bb, bo + j * 2 + 1, none⟩) (cell_lt x2')).trans x2'; have z5 := (hb2.cell (p := ⟨G, d, none⟩) hGV).trans c0; have z6 := (hb2.cell (p := ⟨Gt, d, none⟩) hGtV).trans c1; have q1 : bb < w2.heap.size := cell_lt z1; have q5 : G < w2.heap.size := cell_lt z5; have q6 : Gt < w2.heap.size := cell_lt z6))
                    go_quiet (fail)
                    go_wp2
                    go_roundg (gk - 1)
                    case measure => omega
                    case rel => exact ⟨j + 1, by go_num, by omega, by omega, below_drewN (hb2.alloc hb2.size _) _⟩
                · obtain rfl : j = n + 64 := by omega
                  go_wp2
                  go_roundg (K - 1)
                  case measure => omega
                  case rel => exact ⟨d + 1, by go_num, by omega, by omega, hb⟩
            · obtain rfl : d = c := by omega
              go_wp2
              go_ret
              exact ⟨rfl, hbV.out.trans (hb.mono (Nat.le_trans hB hbV.out.size))⟩
end

section
open Go.RowKit

set_option maxRecDepth 100000 in
set_option maxHeartbeats 4000000 in
theorem apart_any {bk m : Nat} {vs : Nat → Value} {X : Nat → List (Int × Int)} {w : World} (h : BookAt w bk ((List.range m).map vs)) (hM : Many w (bk + 1) m vs X) (hm0 : 0 < m) (hm : m ≤ 100) (hl : ∀ i, i < m → (X i).length ≤ 1000000) :
    Calls Tryz.prog 16 #[.pointer (some ⟨bk, 0, none⟩)] w fun e w' => e = .returned (.bool true) ∧ Below (bk + 1) w w' := by
  obtain ⟨v, f6, hown⟩ := h.six
  rw [List.length_map, List.length_range] at hown
  obtain ⟨G, C, rfl, hg1, hg2⟩ := World.ownsRow.form hown hm0
  have hS := fun (hb : bk + 1 ≤ w.heap.size) => apartSpans_any G C m (bk + 1) vs X w hM hown hm hl hb
  have hS2 := hS (by omega)
  have f0 := h.oth 0 (by omega) (by omega)
  have f1 := h.oth 1 (by omega) (by omega)
  have f2 := h.oth 2 (by omega) (by omega)
  have f3 := h.oth 3 (by omega) (by omega)
  have f4 := h.oth 4 (by omega) (by omega)
  have f5 := h.oth 5 (by omega) (by omega)
  have f7 := h.oth 7 (by omega) (by omega)
  have f8 := h.oth 8 (by omega) (by omega)
  have f9 := h.oth 9 (by omega) (by omega)
  have f10 := h.oth 10 (by omega) (by omega)
  have f11 := h.oth 11 (by omega) (by omega)
  have f12 := h.oth 12 (by omega) (by omega)
  have f13 := h.oth 13 (by omega) (by omega)
  have f14 := h.oth 14 (by omega) (by omega)
  have f15 := h.oth 15 (by omega) (by omega)
  have f16 := h.oth 16 (by omega) (by omega)
  have f17 := h.oth 17 (by omega) (by omega)
  have f18 := h.oth 18 (by omega) (by omega)
  have f19 := h.oth 19 (by omega) (by omega)
  have f20 := h.oth 20 (by omega) (by omega)
  have f21 := h.oth 21 (by omega) (by omega)
  have f22 := h.oth 22 (by omega) (by omega)
  have f23 := h.oth 23 (by omega) (by omega)
  clear hS h hM hown hl
  go_enter Tryz.func16, Tryz.ntmps16
  go_wp2_with (first
    | (go_at_call 54; with_reducible refine hS2.mono ?_; rintro e w1 ⟨rfl, hb1⟩; have k7 := (hb1.cell (p := ⟨bk, 7, none⟩) (Nat.lt_succ_self bk)).trans f7; have k8 := (hb1.cell (p := ⟨bk, 8, none⟩) (Nat.lt_succ_self bk)).trans f8; have k9 := (hb1.cell (p := ⟨bk, 9, none⟩) (Nat.lt_succ_self bk)).trans f9; have k10 := (hb1.cell (p := ⟨bk, 10, none⟩) (Nat.lt_succ_self bk)).trans f10; have k11 := (hb1.cell (p := ⟨bk, 11, none⟩) (Nat.lt_succ_self bk)).trans f11; have k12 := (hb1.cell (p := ⟨bk, 12, none⟩) (Nat.lt_succ_self bk)).trans f12; have k13 := (hb1.cell (p := ⟨bk, 13, none⟩) (Nat.lt_succ_self bk)).trans f13; have k14 := (hb1.cell (p := ⟨bk, 14, none⟩) (Nat.lt_succ_self bk)).trans f14; have k15 := (hb1.cell (p := ⟨bk, 15, none⟩) (Nat.lt_succ_self bk)).trans f15; have k16 := (hb1.cell (p := ⟨bk, 16, none⟩) (Nat.lt_succ_self bk)).trans f16; have k17 := (hb1.cell (p := ⟨bk, 17, none⟩) (Nat.lt_succ_self bk)).trans f17; have k18 := (hb1.cell (p := ⟨bk, 18, none⟩) (Nat.lt_succ_self bk)).trans f18; have k19 := (hb1.cell (p := ⟨bk, 19, none⟩) (Nat.lt_succ_self bk)).trans f19; have k20 := (hb1.cell (p := ⟨bk, 20, none⟩) (Nat.lt_succ_self bk)).trans f20; have k21 := (hb1.cell (p := ⟨bk, 21, none⟩) (Nat.lt_succ_self bk)).trans f21; have k22 := (hb1.cell (p := ⟨bk, 22, none⟩) (Nat.lt_succ_self bk)).trans f22; have k23 := (hb1.cell (p := ⟨bk, 23, none⟩) (Nat.lt_succ_self bk)).trans f23)
    | (go_at_call 48; with_reducible refine (ApartBytes_nil _).mono ?_; rintro e w' ⟨rfl, rfl⟩)
    | (go_at_call 49; with_reducible refine (ApartTexts_nil _).mono ?_; rintro e w' ⟨rfl, rfl⟩)
    | (go_at_call 50; with_reducible refine (ApartInts_nil _).mono ?_; rintro e w' ⟨rfl, rfl⟩)
    | (go_at_call 51; with_reducible refine (ApartIds_nil _).mono ?_; rintro e w' ⟨rfl, rfl⟩)
    | (go_at_call 52; with_reducible refine (ApartRunes_nil _).mono ?_; rintro e w' ⟨rfl, rfl⟩)
    | (go_at_call 53; with_reducible refine (ApartNumbers_nil _).mono ?_; rintro e w' ⟨rfl, rfl⟩)
    | (go_at_call 55; with_reducible refine (ApartRanges_nil _).mono ?_; rintro e w' ⟨rfl, rfl⟩)
    | (go_at_call 56; with_reducible refine (ApartTokens_nil _).mono ?_; rintro e w' ⟨rfl, rfl⟩)
    | (go_at_call 57; with_reducible refine (ApartItems_nil _).mono ?_; rintro e w' ⟨rfl, rfl⟩)
    | (go_at_call 58; with_reducible refine (ApartSeats_nil _).mono ?_; rintro e w' ⟨rfl, rfl⟩)
    | (go_at_call 59; with_reducible refine (ApartWeights_nil _).mono ?_; rintro e w' ⟨rfl, rfl⟩)
    | (go_at_call 60; with_reducible refine (ApartElements_nil _).mono ?_; rintro e w' ⟨rfl, rfl⟩)
    | (go_at_call 61; with_reducible refine (ApartSpots_nil _).mono ?_; rintro e w' ⟨rfl, rfl⟩)
    | (go_at_call 62; with_reducible refine (ApartWords_nil _).mono ?_; rintro e w' ⟨rfl, rfl⟩)
    | (go_at_call 63; with_reducible refine (ApartPairs_nil _).mono ?_; rintro e w' ⟨rfl, rfl⟩)
    | (go_at_call 64; with_reducible refine (ApartEntries_nil _).mono ?_; rintro e w' ⟨rfl, rfl⟩)
    | (go_at_call 65; with_reducible refine (ApartDocs_nil _).mono ?_; rintro e w' ⟨rfl, rfl⟩)
    | (go_at_call 66; with_reducible refine (ApartInfos_nil _).mono ?_; rintro e w' ⟨rfl, rfl⟩)
    | (go_at_call 67; with_reducible refine (ApartHits_nil _).mono ?_; rintro e w' ⟨rfl, rfl⟩)
    | (go_at_call 68; with_reducible refine (ApartNears_nil _).mono ?_; rintro e w' ⟨rfl, rfl⟩)
    | (go_at_call 69; with_reducible refine (apartPosts_nil _).mono ?_; rintro e w' ⟨rfl, rfl⟩)
    | (go_at_call 70; with_reducible refine (apartTerms_nil _).mono ?_; rintro e w' ⟨rfl, rfl⟩)
    | (go_at_call 71; with_reducible refine (apartQueries_nil _).mono ?_; rintro e w' ⟨rfl, rfl⟩))
  go_ret
  exact ⟨rfl, hb1⟩
end
end Go.Proofs.YtmbjjheaddhmeaaGreatDoor
