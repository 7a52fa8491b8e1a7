/- The first points that All tells: a loop over an iterator that collects. -/
import Derived.Test.YtmbjjheaddhmeaaGreatDoorAll
import Derived.Test.YtmbjjheaddhmeaaGreatDoorRefFirst
import Derived.Deep.AppendLies
import Derived.RangeFuncBox
import Derived.OwnWalkIn
namespace Go.Proofs.YtmbjjheaddhmeaaGreatDoor
open Go.RowKit Go.Shelf
attribute [local go_sem] Oper.semAt_some

theorem wpListIn_append_lies {F : Fence} {n : Nat} {P : Program} (w : World) {ops : Array Oper} {rest : List Oper} {o : Oper} {a : Act} {Q : Exit → Act → World → Prop}
    (hg : o.guard = none) (s x : Operand) (t : TypeId) (hop : o.op = Op.call { callee := Callee.builtin Builtin.append, args := #[s, x], argTypes := #[t, t] })
    (base : Nat) (e : TypeId) (i : TypeInfo) (z : Value) (size bytes : Nat) (h1 : P.underlying t = some (.slice e)) (h2 : P.info? e = some i) (h3 : i.zero = some z) (h4 : i.size = size) (h5 : i.bytes = bytes) (h6 : z.cells.size = size) (h7 : 0 < size)
    (v : Value) (k : Nat) (xs : List Value) (hs : a.eval s = v) (hown : w.ownsRow base e size v k xs) (ad : Addr) (m c : Nat) (news : List Value) (hx : a.eval x = .slice (some ad) m c) (hn : news.length = m * size)
    (hc : ∀ j u, news[j]? = some u → w.cell? (ad.add j) = some u) (h1c : ∀ u ∈ news, u.oneCell' = true) (hm : 0 < m) (b1 : k + m ≤ maxLen) (b2 : (k + m) * bytes ≤ 140737488355328) (b3 : base ≤ w.heap.size)
    (hK : ∀ g cap w', w'.ownsRow base e size (.slice (some ⟨g, 0, none⟩) (k + m) cap) (k + m) (xs ++ news) → w.grownBy w' v.ownBlock → (v.ownBlock = some g ∨ g = w.heap.size) → wpListIn F n P ops Q rest (a.put o.dst (.slice (some ⟨g, 0, none⟩) (k + m) cap)) w') :
    wpListIn F n P ops Q (o :: rest) a w := by
  refine wpListIn_plain hg fun K hK' => ?_
  obtain ⟨g, cap, w', hrun, r1, r2, r3, _⟩ := run_append_lies (P := P) w t o.type base e i z size bytes h1 h2 h3 h4 h5 h6 h7 v k xs hown ad m c news hn hc h1c hm b1 b2 b3 w.heap.size rfl
  unfold Oper.wpIn
  refine ⟨?_, ?_⟩
  · simp [Oper.about, hop, resolve, Target.leads, Sem.run_pure]
  · rw [Oper.semAt_plain F _ _ (by rw [hop]; intro c hc'; cases hc')]
    simp [execOp, hop, resolve, invoke, builtin, hs, hx, hrun, Result.andThen]
    exact hK' _ _ (hK g cap w' r1 r2 r3)

theorem intro_actF {F : Fence} {n : Nat} {P : Program} {c : Code} {Q : Exit → Act → World → Prop} {a : Act} {w : World} (h : ∀ A0, A0 = a → c.wpIn F n P Q A0 w) : c.wpIn F n P Q a w := h a rfl

/-- The box holds what has been collected. -/
def Coll (lb : Nat) (l : List Int) (X : World) : Prop := ∃ v, Boxed X lb 23 v ∧ X.ownsRow lb 21 1 v l.length (l.map I32)
theorem Coll.own {lb B : Nat} : OwnFrom B (fun (l : List Int) X => Coll lb l X) := by
  rintro s X Y row ⟨v, hv, hr⟩ hg hrow
  refine ⟨v, hv.kept hg (fun e' => ?_), hr.kept hg ?_⟩
  · obtain ⟨_, o, ho, hc⟩ := hrow lb e'.symm
    rw [show X.heap[lb]? = _ from hv] at ho; cases ho; cases hc
  · rcases hr.2 with ⟨rfl, _⟩ | ⟨g, cap, cur, rfl, _, hgb, _⟩
    · exact .inl rfl
    · refine .inr fun e' => ?_
      obtain ⟨_, o, ho, hc⟩ := hrow g (by simpa [Value.ownBlock] using e'.symm)
      rw [hgb] at ho; cases ho; cases hc
theorem Coll.row {lb : Nat} {l : List Int} {X : World} (h : Coll lb l X) : ∀ k, rowOf (some lb) X = some k → ∃ o : Obj, X.heap[k]? = some o ∧ o.isCells = true := by
  obtain ⟨v, hv, hr⟩ := h
  intro k hk
  rw [rowOf, hv.cell] at hk
  rcases hr.2 with ⟨rfl, _⟩ | ⟨g, cap, cur, rfl, _, hgb, _⟩
  · simp [Value.ownBlock] at hk
  · obtain rfl : g = k := by simpa [Value.ownBlock] using hk
    exact ⟨_, hgb, rfl⟩

set_option maxRecDepth 100000 in
set_option maxHeartbeats 4000000 in
theorem first_any (p : Value) (l : List (Int × Int)) (n : Nat) (w : World) (hp : IsSet w p l) (hbd : Bd l) (hl : l.length ≤ 1000000) (hn1 : n ≤ 100000) :
    Calls Tryz.prog 46 #[p, .int .i64 n] w fun e w' => ∃ a m c, e = .returned (.slice a m c) ∧ Runes w' (.slice a m c) ((allF l).take n) ∧ Below w.heap.size w w' := by
  obtain ⟨i0, hi0, hz0, hz1, hz2⟩ := info_parts Tryz.infoRune
  obtain ⟨pb, vs, rfl, hcs, hIs⟩ := hp
  refine (callsIn_wide (n := 9)).1 ?_
  have hro : Fence.wide.round = none := rfl
  have h1 : 1 ≤ 9 := by omega
  have f9 : Fence.wide.fn 98 := trivial
  have bA := (((Below.refl w.heap.size w).alloc (Nat.le_refl _) (.cells #[.int .i64 n] 3)).alloc (by simp) (.cells #[.slice none 0 0] 23)).alloc (by simp; omega) (.cells #[.pointer (some ⟨pb, 0, none⟩)] 25)
  have zA : (((w.alloc (.cells #[.int .i64 n] 3)).alloc (.cells #[.slice none 0 0] 23)).alloc (.cells #[.pointer (some ⟨pb, 0, none⟩)] 25)).heap.size = w.heap.size + 1 + 1 + 1 := by simp
  have x1 : (((w.alloc (.cells #[.int .i64 n] 3)).alloc (.cells #[.slice none 0 0] 23)).alloc (.cells #[.pointer (some ⟨pb, 0, none⟩)] 25)).cell? ⟨w.heap.size, 0, none⟩ = some (.int .i64 n) := by simp [go_sem]
  have x2 : Boxed (((w.alloc (.cells #[.int .i64 n] 3)).alloc (.cells #[.slice none 0 0] 23)).alloc (.cells #[.pointer (some ⟨pb, 0, none⟩)] 25)) (w.heap.size + 1) 23 (.slice none 0 0) := by
    have := Boxed.new (w.alloc (.cells #[.int .i64 n] 3)) 23 (.slice none 0 0)
    rw [World.size_alloc] at this
    exact this.alloc _
  have x3 : (((w.alloc (.cells #[.int .i64 n] 3)).alloc (.cells #[.slice none 0 0] 23)).alloc (.cells #[.pointer (some ⟨pb, 0, none⟩)] 25)).cell? ⟨w.heap.size + 1 + 1, 0, none⟩ = some (.pointer (some ⟨pb, 0, none⟩)) := by simp [go_sem]
  refine callsIn_of_wp_marks Tryz.func46 rfl trivial ?_ hro
  simp only [Tryz.ntmps46, List.size_toArray, List.length_cons, List.length_nil, Nat.reduceAdd, Nat.reduceSub, Array.replicate_succ, Array.replicate_zero, List.push_toArray, List.append_toArray, List.nil_append, List.cons_append]
  refine wpIn_wide.2 ?_
  go_wp2_with (go_at_call 98; refine (callsIn_wide.1 (all_in Fence.wide 3 trivial hro (some ⟨pb, 0, none⟩) _)).mono ?_; rintro e w' ⟨rfl, rfl⟩)
  generalize (((w.alloc (.cells #[.int .i64 n] 3)).alloc (.cells #[.slice none 0 0] 23)).alloc (.cells #[.pointer (some ⟨pb, 0, none⟩)] 25)) = wA at *
  refine (wpIn_wide (n := 9)).1 ?_
  refine intro_actF ?_
  intro A0 hA0
  have u1 : w.heap.size ≤ w.heap.size + 1 := by omega
  have u2 : w.heap.size + 1 ≤ wA.heap.size := by omega
  have HX1 := Lib.hid x1
  have HbA := Lib.hid bA
  refine wpIn_rangeO hro h1 (gf := 135) (lb := #[.pointer (some ⟨w.heap.size + 1 + 1, 0, none⟩)]) (by rw [hA0]; rfl) trivial (enters_of Tryz.func135 (by kernel_rfl) rfl)
    (all1_stops 8 (by omega) l hbd hl pb (w.heap.size + 1 + 1) (w.heap.size + 1) (wA.heap.size + 2) vs (some (w.heap.size + 1)) (fun b e => by cases e; omega) w wA u1 u2 (by omega) bA hcs hIs x3) (fun b e => by cases e; omega) u2 (Below.refl _ _) (fun _ => rfl)
    (fun pre X => Coll (w.heap.size + 1) (ptv pre) X ∧ pre.length ≤ n ∧ Below (w.heap.size + 1) wA X ∧ wA.heap.size ≤ X.heap.size)
    (fun c xs X => c = .exit 0 ∧ xs.length = n + 1 ∧ Coll (w.heap.size + 1) (ptv xs.dropLast) X ∧ Below (w.heap.size + 1) wA X ∧ wA.heap.size ≤ X.heap.size)
    (fun pre X h k e => h.1.row k e)
    (fun s X Z row hs hg hr => by
      obtain ⟨g1, g2, g3, g4⟩ := hs
      exact ⟨Coll.own (B := wA.heap.size) _ _ _ _ g1 hg hr, g2, g3.grown hg (by omega) (fun k e => by have := (hr _ e).1; omega), Nat.le_trans g4 hg.size⟩)
    (fun c s X Z row hs hg hr => by
      obtain ⟨g0, g2, g1, g3, g4⟩ := hs
      exact ⟨g0, g2, Coll.own (B := wA.heap.size) _ _ _ _ g1 hg hr, g3.grown hg (by omega) (fun k e => by have := (hr _ e).1; omega), Nat.le_trans g4 hg.size⟩)
    ⟨⟨_, x2, World.ownsRow_nil _ _ _ _⟩, by simp, Below.refl _ _, Nat.le_refl _⟩
    (fun x a' _ => a' = (({ tmps := A0.tmps, defers := [] } : Act).put (some 9) (.int .i32 x.1)).put (some 6) (.int .i32 x.1))
    (fun x a' s X Z row hs hg hr => hs) ?assign ?body ?done ?stop
  case assign =>
    intro l' pre x X K hI hK
    have HK := Lib.hid hK
    clear hK
    subst hA0
    gi_wp2
    exact HK.out _ _ (KeepsFrom.refl _ _) ⟨Below.refl _ _, Nat.le_refl _, fun _ _ _ _ => rfl, .inl rfl⟩ hI (by first | rfl | simp [Act.put] | (simp only [Act.put]; rfl) | kernel_rfl)
  case body =>
    rintro l' pre x a' X ⟨⟨v, hv, hr⟩, g2, g3, g4⟩ rfl hlen
    subst hA0
    obtain ⟨x, hx⟩ := x
    have cN := (g3.cell (p := ⟨w.heap.size, 0, none⟩) (Nat.lt_succ_self _)).trans x1
    have cL := hv.cell
    have fL := hv.frozen
    have hpl : (ptv pre).length = pre.length := by simp [ptv]
    rw [hpl] at hr
    obtain ⟨av, cv, rfl⟩ := owns_slice hr
    have HR := Lib.hid hr
    have HV := Lib.hid hv
    have G3 := Lib.hid g3
    clear hr hv g3 x1 x2 x3 bA
    by_cases hpn : pre.length = n
    · have hq : ((pre.length : Int) == (n : Int)) = true := by rw [beq_iff_eq]; omega
      have HQ := Lib.hid hpn
      clear hpn
      gi_wp2
      refine ⟨KeepsFrom.refl _ _, rfl, by rw [List.length_append]; simpa using HQ.out, ⟨_, HV.out, ?_⟩, G3.out, g4⟩
      rw [List.dropLast_concat, hpl]; exact HR.out
    · have hq : ((pre.length : Int) == (n : Int)) = false := by rw [beq_eq_false_iff_ne]; omega
      have hlt : pre.length < n := by omega
      clear hpn
      have nB : pre.length + 1 ≤ maxLen := by unfold maxLen; omega
      have nB' : (pre.length + 1) * 4 ≤ 140737488355328 := by omega
      have hlX : w.heap.size + 1 < X.heap.size := HV.out.lt
      gi_wp2_with (gi_at_builtin; go_loud (refine wpListIn_append_lies _ rfl (.tmp 14) (.tmp 16) 23 rfl (w.heap.size + 1) 21 i0 (.int .i32 0) 1 4 Tryz.underlying23 hi0 hz0 hz1 hz2 rfl (by decide) (.slice av pre.length cv) pre.length ((ptv pre).map I32) rfl (HR.out.alloc _) ⟨X.heap.size, 0, none⟩ 1 1 [.int .i32 x] rfl rfl (World.news_of_block (cs := #[.int .i32 x]) (t := 21) (fr := (0, 0)) (heap_alloc_new X _)) (by simp [Value.oneCell']) (by decide) nB nB' (by simp; omega) ?_); intro g cap w1 hown1 hgrow hat; obtain ⟨k1, k2, k3, k4, k5⟩ := HV.out.appended (by decide) HR.out (Nat.le_of_lt hlX) (Nat.le_refl _) hown1 hgrow; have cB := k1.cell; have fB := k1.frozen)
      have hpl2 : (ptv (pre ++ [(⟨x, hx⟩ : PtA l)])) = ptv pre ++ [x] := by simp [ptv]
      refine ⟨k4.from _, ⟨k5, k4.size, fun k hk hlt' hne => ?_, ?_⟩, ⟨_, k2, ?_⟩, by rw [List.length_append]; simp; omega, G3.out.trans k5, Nat.le_trans g4 k4.size⟩
      · have hrow : rowOf (some (w.heap.size + 1)) X = (Value.slice av pre.length cv).ownBlock := by rw [rowOf, HV.out.cell]; rfl
        rw [hrow] at hne
        exact ((grownBy_setCell' w1 (w.heap.size + 1) _).block k (Nat.lt_of_lt_of_le hlt' (Nat.le_trans (by simp) hgrow.size)) (fun e => by cases e; omega)).trans ((hgrow.block k (by simp; omega) (fun e => hne e.symm)).trans (Below.heap_alloc _ _ _ hlt'))
      · rw [rowOf, k2.cell, rowOf, HV.out.cell]
        rcases hat with h | h
        · left; show some g = _; rw [← h]; rfl
        · right; exact ⟨g, rfl, by rw [h]; simp⟩
      · rw [hpl2, map_I32_snoc, List.length_append, hpl]; exact k3
  case done =>
    rintro D ys X hD hys ⟨⟨v, hv, hr⟩, g2, g3, g4⟩ hK
    subst hA0
    obtain ⟨av, cv, rfl⟩ := owns_slice hr
    have cL := hv.cell
    have HY := Lib.hid hys
    have hpl : (ptv ys).length = ys.length := by simp [ptv]
    have HRu := Lib.hid (Runes.of_owns (ownsRow_putObj hr (.deferred none) hK rfl))
    have HB := Lib.hid (HbA.out.trans ((g3.mono u1).trans ((belowK_b (w := wA) (Nat.le_refl _) X D _ (.deferred none) (by omega) hK rfl rfl).mono (show w.heap.size ≤ wA.heap.size by omega))))
    clear hys hr hv g3 x1 x2 x3 bA
    go_wp2
    refine ⟨by simp, .inl ⟨_, _, rfl, run_takeDeferred hK, ?_⟩⟩
    refine ⟨_, results_tmp rfl _ _ _, av, _, cv, rfl, ?_, HB.out⟩
    rw [← HY.out, List.take_of_length_le (by rw [hpl]; exact g2)]
    have h := HRu.out
    rw [hpl] at h
    exact h
  case stop =>
    rintro D c pre X hD hpre ⟨rfl, g2, ⟨v, hv, hr⟩, g3, g4⟩ hK
    subst hA0
    obtain ⟨av, cv, rfl⟩ := owns_slice hr
    have cL := hv.cell
    have hpl : (ptv pre.dropLast).length = n := by simp [ptv, g2]
    have HT : Hid (ptv pre.dropLast = (allF l).take n) := by
      obtain ⟨t, ht⟩ := hpre
      rcases List.eq_nil_or_concat pre with rfl | ⟨ini, z, rfl⟩
      · simp at g2
      · rw [List.concat_eq_append] at *
        rw [List.dropLast_concat] at *
        show ptv ini = _
        rw [← ht, ptv_append, List.append_assoc, take_full hpl]
    have hRu := Runes.of_owns (ownsRow_putObj hr (.deferred none) hK rfl)
    rw [hpl, HT.out] at hRu
    have HRu := Lib.hid hRu
    clear hRu
    have HB := Lib.hid (HbA.out.trans ((g3.mono u1).trans ((belowK_b (w := wA) (Nat.le_refl _) X D _ (.deferred none) (by omega) hK rfl rfl).mono (show w.heap.size ≤ wA.heap.size by omega))))
    clear hr hv g3 x1 x2 x3 bA hpre
    refine wpIn_wide.2 ?_
    go_wp2
    refine ⟨by simp, .inl ⟨_, _, rfl, run_takeDeferred hK, ?_⟩⟩
    exact ⟨_, results_tmp rfl _ _ _, av, _, cv, rfl, HRu.out, HB.out⟩
end Go.Proofs.YtmbjjheaddhmeaaGreatDoor
