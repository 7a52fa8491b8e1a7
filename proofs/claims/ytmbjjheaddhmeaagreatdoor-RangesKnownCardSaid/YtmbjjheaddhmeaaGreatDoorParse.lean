/- ranges.Parse. -/
import Derived.Test.YtmbjjheaddhmeaaGreatDoorSpan
import Derived.Test.YtmbjjheaddhmeaaGreatDoorTidy
namespace Go.Proofs.YtmbjjheaddhmeaaGreatDoor
open Go.RowKit Go.Shelf

def PaQ (l : List UInt8) (w w' : World) (e : Ending) : Prop :=
  ((∃ no k : Nat, parseF l = .err no k ∧ e = .returned (.tuple #[.pointer none, .iface 81 (.agg #[.int .i64 no, .int .i64 0, .int .i64 k])])) ∨
    ∃ r b, parseF l = .ok r ∧ e = .returned (.tuple #[.pointer (some ⟨b, 0, none⟩), .nilIface]) ∧ IsSet w' (.pointer (some ⟨b, 0, none⟩)) r) ∧ Below w.heap.size w w'
theorem paQ_err {l : List UInt8} {w w' : World} {e : Ending} (no k : Nat) (h : parseF l = .err no k) (he : e = .returned (.tuple #[.pointer none, .iface 81 (.agg #[.int .i64 no, .int .i64 0, .int .i64 k])])) (hB : Below w.heap.size w w') : PaQ l w w' e := ⟨.inl ⟨no, k, h, he⟩, hB⟩

theorem parseG_nil (g : Nat) (out : List (Int × Int)) (k : Nat) : parseG (g + 1) [] out k = .err 25 k := rfl
theorem parseG_end (g : Nat) (out : List (Int × Int)) (k : Nat) (t : List UInt8) : parseG (g + 1) (93 :: t) out k = if t = [] then .ok out else .err 3 (k + 1) := by rw [parseG, if_pos rfl]
theorem parseG_span (g : Nat) (out : List (Int × Int)) (k : Nat) (l : List UInt8) (h : l ≠ []) (h2 : ∀ c t, l = c :: t → c ≠ 93) : parseG (g + 1) l out k = match spanF l with
    | .esc d => .err 9 (k + d)
    | .form => .err 4 k
    | .ok lo hi n => if touchF out lo then .err 4 k else parseG g (l.drop n) (out ++ [(lo, hi)]) (k + n) := by
  cases l with
  | nil => exact absurd rfl h
  | cons c t => rw [parseG, if_neg (h2 c t rfl)]; cases spanF (c :: t) <;> rfl

set_option maxRecDepth 100000 in
set_option maxHeartbeats 8000000 in
theorem parse_any (s : ByteArray) (w : World) (hs : s.size ≤ 100000) (h : RdOk w) :
    Calls Tryz.prog 26 #[.string s] w fun e w' => PaQ s.data.toList w w' e := by
  obtain ⟨i0, hi0, hz0, hz1, hz2⟩ := info_parts Tryz.infoSpanT
  have hP := fun W => Tryz.strings_HasPrefix s ⟨#[91]⟩ W
  dsimp only at hP
  cases hb : Lib.hasPrefix s.data.toList [91] with
  | false =>
    rw [hb] at hP
    have hF : Hid (parseF s.data.toList = .err 25 0) := Lib.hid (by unfold parseF; rw [hb, if_neg (by decide)])
    clear hb
    go_enter Tryz.func26, Tryz.ntmps26
    go_wp2_with (go_at_call 75; refine (hP _).mono ?_; rintro e w' ⟨rfl, rfl⟩)
    go_ret2
    exact paQ_err 25 0 hF.out rfl (Below.refl _ _)
  | true =>
    rw [hb] at hP
    have h0 : 1 ≤ s.size := by
      rw [Lib.size_eq]
      cases hh : s.data.toList with
      | nil => rw [hh] at hb; cases hb
      | cons c t => simp
    have hF : Hid (parseF s.data.toList = parseG s.size (s.data.toList.drop 1) [] 1) := Lib.hid (by unfold parseF; rw [hb, if_pos rfl, Lib.size_eq])
    have H := Lib.hid h
    clear hb h
    go_enter Tryz.func26, Tryz.ntmps26
    go_wp2_with (go_at_call 75; refine (hP _).mono ?_; rintro e w' ⟨rfl, rfl⟩)
    clear hP
    obtain ⟨ws, rfl⟩ : ∃ ws : World, ws = w' := ⟨_, rfl⟩
    go_loopg [5] s.size (fun g i wr => ∃ (k : Nat) (v : Value) (out : List (Int × Int)), i = .int .i64 k ∧ 1 ≤ k ∧ k ≤ s.size ∧ s.size - k + 1 ≤ g ∧ out.length ≤ k ∧ Hid (parseF s.data.toList = parseG g (s.data.toList.drop k) out k) ∧ Hid (Pts out) ∧
      wr.cell? ⟨ws.heap.size, 0, none⟩ = some v ∧ wr.frozen? ⟨ws.heap.size, 0, none⟩ = false ∧ Hid (wr.ownsRow (ws.heap.size + 1) 39 2 v out.length (flat out)) ∧ Below ws.heap.size ws wr)
    case atStart => exact ⟨1, .slice none 0 0, [], rfl, by omega, by omega, by omega, by simp, hF.out, Pts.nil, by simp, by simp, World.ownsRow_nil _ _ _ _, (Below.refl _ _).alloc (Nat.le_refl _) _⟩
    case round =>
      obtain ⟨k, v, out, rfl, hk1, hk, hg, ho, HF, HP, hc, hf, hown, hb⟩ := hrel
      clear hF
      have y6 : ws.heap.size < wr.heap.size := cell_lt hc
      obtain ⟨g', rfl⟩ : ∃ g', gk = g' + 1 := ⟨gk - 1, by omega⟩
      by_cases hks : k = s.size
      · have hE : Hid (parseF s.data.toList = .err 25 k) := Lib.hid (by rw [HF.out, List.drop_of_length_le (by rw [← Lib.size_eq]; omega), parseG_nil])
        have hq : ((k : Int) == (s.size : Int)) = true := by rw [beq_iff_eq]; omega
        clear hks HF
        go_wp2
        go_ret2
        exact paQ_err 25 k hE.out rfl hb
      · have hlt : k < s.size := by omega
        have hlt' : (k : Int) < (s.size : Int) := by omega
        have hq : ((k : Int) == (s.size : Int)) = false := by rw [beq_eq_false_iff_ne]; omega
        obtain ⟨c, t, hct⟩ : ∃ c t, s.data.toList.drop k = c :: t := by
          rw [Lib.size_eq] at hlt
          exact ⟨_, _, List.drop_eq_getElem_cons hlt⟩
        obtain ⟨_, hcc⟩ := byte_of hct
        have hci := hcc hlt
        have htl : t.length = s.size - (k + 1) := by
          have := congrArg List.length hct
          rw [List.length_drop, ← Lib.size_eq, List.length_cons] at this
          omega
        clear hks hcc
        by_cases h93 : c = 93
        · subst h93
          have HE : Hid (parseF s.data.toList = if t = [] then .ok out else .err 3 (k + 1)) := Lib.hid (by rw [HF.out, hct, parseG_end])
          clear HF hct
          by_cases ht : t = []
          · subst ht
            have HE2 := Lib.hid (HE.out.trans (if_pos rfl))
            have hle : (s.size : Int) ≤ (k : Int) + 1 := by simp at htl; omega
            clear HE htl
            go_wp2
            go_ret2
            exact ⟨.inr ⟨out, _, HE2.out, rfl, ⟨_, v, rfl, hc, Spans.of_owns hown.out⟩⟩, hb⟩
          · have HE2 := Lib.hid (HE.out.trans (if_neg ht))
            have hle : (k : Int) + 1 < (s.size : Int) := by
              have := List.length_pos_iff.2 ht
              omega
            clear HE htl ht
            go_wp2
            go_ret2
            exact paQ_err 3 (k + 1) HE2.out (by simp) hb
        · have HS := parseG_span g' out k (c :: t) (by simp) (fun c' t' h => by injection h with h1 h2; rw [← h1]; exact h93)
          rw [← hct] at HS
          have hsp := span_any s k wr (by omega) hk (H.out.below hb)
          have HN := Lib.hid (HF.out.trans HS)
          have hcn : ((c.toNat : Int) == 93) = false := by
            rw [beq_eq_false_iff_ne]; intro h; exact h93 (UInt8.toNat_inj.1 (by show _ = 93; omega))
          clear HS HF htl hct h93
          obtain ⟨R, hR⟩ : ∃ R, R = spanF (s.data.toList.drop k) := ⟨_, rfl⟩
          rw [← hR] at hsp
          have HR := Lib.hid hR
          clear hR
          cases R with
          | esc d =>
            have HE : Hid (parseF s.data.toList = .err 9 (k + d)) := Lib.hid (by rw [HN.out, ← HR.out])
            clear HN HR
            go_wp2_with (go_at_call 76; refine hsp.mono ?_; unfold spT; rintro e w2 ⟨rfl, hB2⟩)
            go_ret2
            exact paQ_err 9 (k + d) HE.out rfl ((hb.trans (hB2.mono (Nat.le_of_lt y6))).alloc (Nat.le_trans (Nat.le_of_lt y6) hB2.size) _)
          | form =>
            have HE : Hid (parseF s.data.toList = .err 4 k) := Lib.hid (by rw [HN.out, ← HR.out])
            clear HN HR
            go_wp2_with (go_at_call 76; refine hsp.mono ?_; unfold spT; rintro e w2 ⟨rfl, hB2⟩)
            go_ret2
            exact paQ_err 4 k HE.out rfl ((hb.trans (hB2.mono (Nat.le_of_lt y6))).alloc (Nat.le_trans (Nat.le_of_lt y6) hB2.size) _)
          | ok p q n =>
            obtain ⟨p1, p2, p3, p4, p5, -, -⟩ := spanF_ok HR.out.symm
            have hdl : (s.data.toList.drop k).drop n = s.data.toList.drop (k + n) := by rw [List.drop_drop]
            have HE : Hid (parseF s.data.toList = if touchF out p then .err 4 k else parseG g' (s.data.toList.drop (k + n)) (out ++ [(p, q)]) (k + n)) := Lib.hid (by rw [HN.out, ← HR.out]; dsimp only; rw [hdl])
            have hkn : k + n ≤ s.size := by rw [List.length_drop, ← Lib.size_eq] at p5; omega
            have HP2 : Hid (Pts (out ++ [(p, q)])) := HP.out.append (Pts.cons.2 ⟨⟨p1, p2⟩, Pts.nil⟩)
            have b1 := numP_pt p1
            clear HN HR hdl p5 p1 p2 p3
            have hvb0 := Lib.hid hown.out.lt
            rcases List.eq_nil_or_concat out with rfl | ⟨ini, ⟨r, u⟩, rfl⟩
            · obtain ⟨av, cv, rfl⟩ : ∃ av cv, v = .slice av 0 cv := by
                rcases hown.out.2 with ⟨rfl, h⟩ | ⟨g, cap, cur, rfl, _⟩
                · exact ⟨_, _, rfl⟩
                · exact ⟨_, _, rfl⟩
              have HE2 : Hid (parseF s.data.toList = parseG g' (s.data.toList.drop (k + n)) ([] ++ [(p, q)]) (k + n)) := Lib.hid (HE.out.trans (if_neg (by simp [touchF])))
              clear HE
              go_wp2_with (go_at_call 76; refine hsp.mono ?_; clear hsp; unfold spT; rintro e w2 ⟨rfl, hB2⟩; have c2 := (hB2.cell (p := ⟨ws.heap.size, 0, none⟩) y6).trans hc; have f2 := (hB2.frozen (p := ⟨ws.heap.size, 0, none⟩) y6).trans hf; have hown2 := Lib.hid (ownsRow_below hB2 hown.out); have hb2 := hb.trans (hB2.mono (Nat.le_of_lt y6)); have y7 := Nat.lt_of_lt_of_le y6 hB2.size)
              have hvb := Lib.hid hown2.out.lt
              go_quiet (fail)
              go_wp2
              have nB : ([] : List (Int × Int)).length + 1 ≤ maxLen := by unfold maxLen; simp
              have nB' : (([] : List (Int × Int)).length + 1) * 8 ≤ 140737488355328 := by simp
              have nC : ws.heap.size + 1 ≤ w2.heap.size := y7
              have BX : Below (ws.heap.size + 1) w2 (((w2.alloc (.cells #[.int .i32 p, .int .i32 q] 39)).alloc (.cells #[.int .i32 p, .int .i32 q] 39)).drewN nq).drew := (below_drewN' (((Below.refl _ w2).alloc nC _).alloc (by simp; omega) _) nq).drew
              have BXw : Below w2.heap.size w2 (((w2.alloc (.cells #[.int .i32 p, .int .i32 q] 39)).alloc (.cells #[.int .i32 p, .int .i32 q] 39)).drewN nq).drew := (below_drewN' (((Below.refl _ w2).alloc (Nat.le_refl _) _).alloc (by simp) _) nq).drew
              go_region_law ((refine step_append_lies _ ?_ (.tmp 86) (.tmp 88) 22 ?_ (ws.heap.size + 1) 39 i0 (.agg #[.int .i32 0, .int .i32 0]) 2 8 Tryz.underlying22 hi0 hz0 hz1 hz2 ?_ ?_ (.slice av 0 cv) (([] : List (Int × Int)).length) (flat ([] : List (Int × Int))) ?_ ?_ ⟨w2.heap.size + 1, 0, none⟩ 1 1 [.int .i32 p, .int .i32 q] ?_ ?_ ?_ ?_ ?_ ?_ ?_ ?_ (w2.heap.size + 2) ?_ ?_; (· rfl); (· rfl); (· rfl); (· decide); (· rfl); (· exact ownsRow_below BXw hown2.out); (· rfl); (· rfl); (· refine World.news_of_block (cs := #[.int .i32 p, .int .i32 q]) (t := 39) (fr := (0, 0)) ?_; rw [← World.size_alloc w2 (.cells #[.int .i32 p, .int .i32 q] 39)]; exact heap_alloc_new (w2.alloc _) _); (· simp [Value.oneCell']); (· decide); (· exact nB); (· exact nB'); (· first | (simp; omega) | omega); (· first | (with_reducible rfl) | simp); intro g cap w1 hown1 hgrow hat hlt; have BY := BX.grown hgrow (by simp; omega) (fun k hk => (hvb.out k hk).1); have e1 := (BY.cell (p := ⟨ws.heap.size, 0, none⟩) (Nat.lt_succ_self _)).trans c2; have e2 := (BY.frozen (p := ⟨ws.heap.size, 0, none⟩) (Nat.lt_succ_self _)).trans f2))
              all_goals
                go_wp2
                obtain ⟨d1, d2, d3, d4⟩ := push_done (hb2.trans (BY.mono (by omega))) e1 e2 hown1
                go_roundg g'
                case measure => omega
                case rel => exact ⟨k + n, _, [(p, q)], by go_num, by omega, by omega, by omega, by simp; omega, HE2, HP2, d1, d2, d3, d4⟩
            · rw [List.concat_eq_append] at ho HE HP HP2 hown
              have hs4 := HP.out.bd (r, u) (by simp)
              rw [show (ini ++ [(r, u)]).length = ini.length + 1 by simp] at hown ho
              obtain ⟨g0, cap0, rfl, hg0, hg0'⟩ := World.ownsRow.form hown.out (by simp)
              have e5 := flat_get (ini ++ [(r, u)]) ini.length (by simp)
              have c5 := World.ownsRow.cellAt hown.out (ini.length * 2) (by omega)
              have c6 := World.ownsRow.cellAt hown.out (ini.length * 2 + 1) (by omega)
              rw [e5.1] at c5
              rw [e5.2] at c6
              simp only [List.getElem?_concat_length, Option.getD_some] at c5 c6
              have hnx := fun W => (next_any u (by omega) (by omega) W).mono (R' := fun e w' => e = .returned (.int .i32 (nextP u)) ∧ w' = W) (fun e w' h => ⟨h.1, h.2.symm⟩)
              have htc := Lib.hid (touch_snoc ini (r, u) p)
              generalize hNS : nextP u = NS at hnx
              have HNS := Lib.hid hNS
              have hne : g0 ≠ ws.heap.size := by omega
              have hk0 : ini.length + 1 ≤ 1000000 := by omega
              have hw0 : IntKind.i64.wrap (ini.length : Int) = (ini.length : Int) := IntWalk.i64_in _ (by omega)
              have hw1 : (ini.length : Int) < (ini.length : Int) + 1 := by omega
              have hw2 : (0 : Int) ≤ (ini.length : Int) := by omega
              clear e5 hNS hs4
              by_cases hle : p ≤ NS
              · have HE2 : Hid (parseF s.data.toList = .err 4 k) := Lib.hid (HE.out.trans (if_pos (by rw [htc.out]; dsimp only; rw [HNS.out]; simpa using hle)))
                clear HE
                go_wp2_with (go_at_call 76; refine hsp.mono ?_; clear hsp; unfold spT; rintro e w2 ⟨rfl, hB2⟩; have c2 := (hB2.cell (p := ⟨ws.heap.size, 0, none⟩) y6).trans hc; have f2 := (hB2.frozen (p := ⟨ws.heap.size, 0, none⟩) y6).trans hf; have hown2 := Lib.hid (ownsRow_below hB2 hown.out); have hb2 := hb.trans (hB2.mono (Nat.le_of_lt y6)); have y7 := Nat.lt_of_lt_of_le y6 hB2.size; have k5 := (hB2.cell (p := ⟨g0, ini.length * 2, none⟩) hg0').trans c5; have k6 := (hB2.cell (p := ⟨g0, ini.length * 2 + 1, none⟩) hg0').trans c6; have hg2 := Nat.lt_of_lt_of_le hg0' hB2.size; have z7 := Nat.lt_succ_of_lt hg2)
                go_quiet ((go_at_call 74; exact Calls.quiet_of_same (hnx _)))
                go_wp2
                go_ret2
                exact paQ_err 4 k HE2.out rfl (below_drewN' (hb2.alloc (Nat.le_of_lt y7) _) nq)
              · have HE2 : Hid (parseF s.data.toList = parseG g' (s.data.toList.drop (k + n)) ((ini ++ [(r, u)]) ++ [(p, q)]) (k + n)) := Lib.hid (HE.out.trans (if_neg (by rw [htc.out]; dsimp only; rw [HNS.out]; simpa using hle)))
                clear HE
                go_wp2_with (go_at_call 76; refine hsp.mono ?_; clear hsp; unfold spT; rintro e w2 ⟨rfl, hB2⟩; have c2 := (hB2.cell (p := ⟨ws.heap.size, 0, none⟩) y6).trans hc; have f2 := (hB2.frozen (p := ⟨ws.heap.size, 0, none⟩) y6).trans hf; have hown2 := Lib.hid (ownsRow_below hB2 hown.out); have hb2 := hb.trans (hB2.mono (Nat.le_of_lt y6)); have y7 := Nat.lt_of_lt_of_le y6 hB2.size; have k5 := (hB2.cell (p := ⟨g0, ini.length * 2, none⟩) hg0').trans c5; have k6 := (hB2.cell (p := ⟨g0, ini.length * 2 + 1, none⟩) hg0').trans c6; have hg2 := Nat.lt_of_lt_of_le hg0' hB2.size; have z7 := Nat.lt_succ_of_lt hg2)
                go_quiet ((go_at_call 74; exact Calls.quiet_of_same (hnx _)))
                go_wp2
                have hvb := Lib.hid hown2.out.lt
                have nB : ini.length + 1 + 1 ≤ maxLen := by unfold maxLen; omega
                have nB' : (ini.length + 1 + 1) * 8 ≤ 140737488355328 := by omega
                have nC : ws.heap.size + 1 ≤ w2.heap.size := y7
                have BX : Below (ws.heap.size + 1) w2 (((w2.alloc (.cells #[.int .i32 p, .int .i32 q] 39)).alloc (.cells #[.int .i32 p, .int .i32 q] 39)).drewN nq).drew := (below_drewN' (((Below.refl _ w2).alloc nC _).alloc (by simp; omega) _) nq).drew
                have BXw : Below w2.heap.size w2 (((w2.alloc (.cells #[.int .i32 p, .int .i32 q] 39)).alloc (.cells #[.int .i32 p, .int .i32 q] 39)).drewN nq).drew := (below_drewN' (((Below.refl _ w2).alloc (Nat.le_refl _) _).alloc (by simp) _) nq).drew
                go_region_law ((refine step_append_lies _ ?_ (.tmp 86) (.tmp 88) 22 ?_ (ws.heap.size + 1) 39 i0 (.agg #[.int .i32 0, .int .i32 0]) 2 8 Tryz.underlying22 hi0 hz0 hz1 hz2 ?_ ?_ (.slice (some ⟨g0, 0, none⟩) (ini.length + 1) cap0) (ini.length + 1) (flat (ini ++ [(r, u)])) ?_ ?_ ⟨w2.heap.size + 1, 0, none⟩ 1 1 [.int .i32 p, .int .i32 q] ?_ ?_ ?_ ?_ ?_ ?_ ?_ ?_ (w2.heap.size + 2) ?_ ?_; (· rfl); (· rfl); (· rfl); (· decide); (· rfl); (· exact ownsRow_below BXw hown2.out); (· rfl); (· rfl); (· refine World.news_of_block (cs := #[.int .i32 p, .int .i32 q]) (t := 39) (fr := (0, 0)) ?_; rw [← World.size_alloc w2 (.cells #[.int .i32 p, .int .i32 q] 39)]; exact heap_alloc_new (w2.alloc _) _); (· simp [Value.oneCell']); (· decide); (· exact nB); (· exact nB'); (· first | (simp; omega) | omega); (· first | (with_reducible rfl) | simp); intro g cap w1 hown1 hgrow hat hlt; have BY := BX.grown hgrow (by simp; omega) (fun k hk => (hvb.out k hk).1); have e1 := (BY.cell (p := ⟨ws.heap.size, 0, none⟩) (Nat.lt_succ_self _)).trans c2; have e2 := (BY.frozen (p := ⟨ws.heap.size, 0, none⟩) (Nat.lt_succ_self _)).trans f2))
                all_goals
                  go_wp2
                  obtain ⟨d1, d2, d3, d4⟩ := push_done (hb2.trans (BY.mono (by omega))) e1 e2 hown1
                  go_roundg g'
                  case measure => omega
                  case rel => exact ⟨k + n, _, ini ++ [(r, u)] ++ [(p, q)], by go_num, by omega, by omega, by omega, by simp; omega, HE2, HP2, d1, d2, by rw [flat_snoc, show (ini ++ [(r, u)] ++ [(p, q)]).length = ini.length + 1 + 1 by simp]; exact d3, d4⟩

end Go.Proofs.YtmbjjheaddhmeaaGreatDoor
