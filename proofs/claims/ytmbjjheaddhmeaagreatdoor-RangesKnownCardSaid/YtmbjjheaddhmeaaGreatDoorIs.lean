/- is: a set held against the document's. -/
import Derived.Test.YtmbjjheaddhmeaaGreatDoorFirst
import Derived.Test.YtmbjjheaddhmeaaGreatDoorRefPrint
import Derived.Test.YtmbjjheaddhmeaaGreatDoorFlow
import Derived.Test.YtmbjjheaddhmeaaGreatDoorDbOk
namespace Go.Proofs.YtmbjjheaddhmeaaGreatDoor
open Go.RowKit

theorem runL_runK {hi : Int} (n : Nat) : ∀ {lo : Int}, PtE lo → ptB hi = true → numP hi + 1 - numP lo = n → runL (lo, hi) = runK n (numP lo) := by
  induction n with
  | zero =>
    intro lo hl hh he
    have h1 := numP_ptE hl; have h2 := numP_pt hh
    rw [runL_stop (by omega)]; rfl
  | succ n ih =>
    intro lo hl hh he
    have h1 := numP_ptE hl; have h2 := numP_pt hh
    have hlo : ptB lo = true := hl.elim id (fun e => by subst e; have := numP_end; omega)
    obtain ⟨n1, n2⟩ := nextP_pt hlo
    rw [runL_step (by omega), runK, ih n1 hh (by omega), n2, ptK_numP hlo]
theorem allF_allK {l : List (Int × Int)} (hp : Pts l) (ho : ∀ x ∈ l, x.1 ≤ x.2) : allF l = allK (l.map nm) := by
  induction l with
  | nil => rfl
  | cons x l ih =>
    obtain ⟨⟨p1, p2⟩, hp'⟩ := Pts.cons.1 hp
    have h1 := numP_pt p1; have h2 := numP_pt p2
    have h0 := ho x (by simp)
    have e : allF (x :: l) = runL (x.1, x.2) ++ allF l := by simp [allF]
    rw [e, ih hp' (fun y hy => ho y (by simp [hy])), runL_runK (numP x.2 + 1 - numP x.1).toNat (.inl p1) p2 (by omega)]
    simp [allK, nm]

/-- What a set and the document's set, of the same points, have in common. -/
theorem rep_rrep {w : World} {p v : Value} {P : Int → Bool} {k : Nat} (hs : Rep w p P k) (hr : RRep w v P) :
    ∃ l u, IsSet w p l ∧ Pts l ∧ Can 0 (l.map nm) ∧ l.length ≤ k ∧ v = .agg #[u] ∧ Prs w u (l.map nm) := by
  obtain ⟨l, h1, h2, h3, h4, h5⟩ := hs
  obtain ⟨u, L, k1, k2, k3, k4⟩ := hr
  have : l.map nm = L := uniq h3 k3 fun r a b => by rw [h5 r a b, k4 r a b]
  subst this
  exact ⟨l, u, h1, h2, h3, h4, k1, k2⟩

set_option maxRecDepth 100000 in
set_option maxHeartbeats 4000000 in
theorem is_walk (bp : Nat) (l : List (Int × Int)) (ua : Option Addr) (un uc : Nat) (va : Option Addr) (vc : Nat) (asks : List Int) (w : World) (hset : IsSet w (.pointer (some ⟨bp, 0, none⟩)) l) (hp : Pts l) (hcan : Can 0 (l.map nm)) (hl : l.length ≤ 90000)
    (hr : Prs w (.slice ua un uc) (l.map nm)) (hask : Runes w (.slice va asks.length vc) asks) (hab : ∀ x ∈ asks, -2147483648 ≤ x ∧ x ≤ 2147483647) (hd : Db w) (hg : 6 < w.heap.size) :
    Calls Tryz.prog 13 #[.pointer (some ⟨bp, 0, none⟩), .agg #[.slice ua un uc], .slice va asks.length vc] w fun e w' => e = .returned (.bool true) ∧ Below w.heap.size w w' := by
  obtain ⟨L, hL⟩ : ∃ L, l.map nm = L := ⟨_, rfl⟩
  have hLl : L.length = l.length := by rw [← hL]; simp
  have hpt : ptS L = l := by rw [← hL]; exact ptS_nums hp
  have hcn : countN L = countF l := by rw [← hL, countF_nums]
  have hfk : allF l = allK L := by rw [allF_allK hp (can_le hcan hp), hL]
  have hrep : Rep w (.pointer (some ⟨bp, 0, none⟩)) (fun r => memB r L) l.length := ⟨l, hset, hp, hcan, Nat.le_refl _, fun r _ _ => by rw [hL]⟩
  rw [hL] at hcan hr
  have hnum := can_num (Int.le_refl 0) hcan
  have hbd := hp.bd
  have bA := (Below.refl w.heap.size w).alloc (Nat.le_refl _) (.cells #[.slice ua un uc] 33)
  have c0 : (w.alloc (.cells #[.slice ua un uc] 33)).cell? ⟨w.heap.size, 0, none⟩ = some (.slice ua un uc) := by simp
  have hlt : w.heap.size < (w.alloc (.cells #[.slice ua un uc] 33)).heap.size := by simp
  obtain ⟨cnt, hcnt⟩ : ∃ c, countF l = c := ⟨_, rfl⟩
  obtain ⟨pr, hpr⟩ : ∃ c, printF l = c := ⟨_, rfl⟩
  obtain ⟨fs, hfs⟩ : ∃ c, (allF l).take 300 = c := ⟨_, rfl⟩
  go_enter Tryz.func13, Tryz.ntmps13
  go_wp2
  generalize (w.alloc (.cells #[.slice ua un uc] 33)) = W at *
  have hSpans : ∀ X, Below W.heap.size W X → Calls Tryz.prog 15 #[.pointer (some ⟨bp, 0, none⟩)] X fun e w' => ∃ v', e = .returned v' ∧ Spans w' v' l ∧ Below X.heap.size X w' := fun X hC =>
    (spans_any _ l X ((hset.below bA).below hC) (by omega)).mono (by rintro e w' ⟨v', rfl, ho, hB⟩; exact ⟨v', rfl, Spans.of_owns ho, hB⟩)
  have hRSpans : ∀ X, Below W.heap.size W X → Calls Tryz.prog 41 #[.agg #[.slice ua un uc]] X fun e w' => ∃ v', e = .returned v' ∧ Spans w' v' l ∧ Below X.heap.size X w' := fun X hC =>
    (rSpans_any _ L X ((hr.below bA).below hC) hnum (by omega)).mono (by rintro e w' ⟨xa, xc, rfl, ho, hB⟩; rw [hpt] at ho; exact ⟨_, rfl, ho, hB⟩)
  have hCount : ∀ X, Below W.heap.size W X → Calls Tryz.prog 38 #[.pointer (some ⟨bp, 0, none⟩)] X fun e w' => e = .returned (.int .i64 cnt) ∧ Below X.heap.size X w' := fun X hC => by
    rw [← hcnt]; exact count_any _ l X ((hset.below bA).below hC) hbd (by omega)
  have hRCount : ∀ X, Below W.heap.size W X → Calls Tryz.prog 42 #[.agg #[.slice ua un uc]] X fun e w' => e = .returned (.int .i64 cnt) ∧ Below X.heap.size X w' := fun X hC => by
    rw [← hcnt, ← hcn]; exact rCount_any _ L X ((hr.below bA).below hC) hnum (by omega)
  have hPrint : ∀ X, Below W.heap.size W X → Calls Tryz.prog 37 #[.pointer (some ⟨bp, 0, none⟩)] X fun e w' => e = .returned (.string ⟨pr.toArray⟩) ∧ Below X.heap.size X w' := fun X hC => by
    rw [← hpr]
    have d := Db.below (bA.trans (hC.mono bA.size)) hd hg
    exact print_any _ l X ((hset.below bA).below hC) hbd (by omega) d.1 d.2
  have hRPrint : ∀ X, Below W.heap.size W X → Calls Tryz.prog 43 #[.agg #[.slice ua un uc]] X fun e w' => e = .returned (.string ⟨pr.toArray⟩) ∧ Below X.heap.size X w' := fun X hC => by
    rw [← hpr, ← hpt]
    have := rPrint_any _ L X ((hr.below bA).below hC) hnum (by omega)
    rw [hpt] at this ⊢; exact this
  have hFirst : ∀ X, Below W.heap.size W X → Calls Tryz.prog 46 #[.pointer (some ⟨bp, 0, none⟩), .int .i64 300] X fun e w' => ∃ v', e = .returned v' ∧ Runes w' v' fs ∧ Below X.heap.size X w' := fun X hC =>
    (first_any _ l 300 X ((hset.below bA).below hC) hbd (by omega) (by omega)).mono (by rintro e w' ⟨xa, xn, xc, rfl, ho, hB⟩; rw [hfs] at ho; exact ⟨_, rfl, ho, hB⟩)
  have hRFirst : ∀ X, Below W.heap.size W X → Calls Tryz.prog 47 #[.agg #[.slice ua un uc], .int .i64 300] X fun e w' => ∃ v', e = .returned v' ∧ Runes w' v' fs ∧ Below X.heap.size X w' := fun X hC =>
    (rFirst_any _ L 300 X ((hr.below bA).below hC) hnum (by omega) (by omega)).mono (by rintro e w' ⟨xa, xn, xc, rfl, ho, hB⟩; rw [← hfk, hfs] at ho; exact ⟨_, rfl, ho, hB⟩)
  have hHas : ∀ X r, Below W.heap.size W X → -2147483648 ≤ r → r ≤ 2147483647 → Calls Tryz.prog 39 #[.pointer (some ⟨bp, 0, none⟩), .int .i32 r] X fun e w' => e = .returned (.bool (ptB r && memB (numP r) L)) ∧ Below X.heap.size X w' := fun X r hC r0 r1 =>
    has_rep ((hrep.below bA).below hC) (by omega) r0 r1
  have hRHas : ∀ X r, Below W.heap.size W X → Calls Tryz.prog 44 #[.agg #[.slice ua un uc], .int .i32 r] X fun e w' => e = .returned (.bool (ptB r && memB (numP r) L)) ∧ Below X.heap.size X w' := fun X r hC =>
    rHas_any _ L r X ((hr.below bA).below hC) (by omega)
  have hask2 := hask.below bA
  have hfs' := hfs
  clear hfs
  clear hrep hset hr hp hcan hnum hbd hpt hcn hfk hpr hcnt hd hL hLl
  refine wp_region_flow [.fix (.pointer (some ⟨bp, 0, none⟩)), .fix (.bool false), .fix (.bool false), .fix (.pointer (some ⟨bp, 0, none⟩)), .rel (fun v X => Spans X v l), .fix (.agg #[.slice ua un uc]), .rel (fun v X => Spans X v l), .fix (.bool true), .fix (.bool false), .fix (.bool false), .fix (.bool false), .fix (.pointer (some ⟨bp, 0, none⟩)), .fix (.int .i64 cnt), .fix (.agg #[.slice ua un uc]), .fix (.int .i64 cnt), .fix (.bool false), .fix (.bool false), .fix (.bool false), .fix (.pointer (some ⟨bp, 0, none⟩)), .fix (.string ⟨pr.toArray⟩), .fix (.agg #[.slice ua un uc]), .fix (.string ⟨pr.toArray⟩), .fix (.bool false), .fix (.bool false)] (fun X => Below W.heap.size W X) (fun X Y => Below X.heap.size X Y) (by kernel_rfl) (by kernel_rfl) (by kernel_rfl) rfl ((Below.refl _ W).drew) (fun X Y h1 h2 => h1.trans (h2.mono h1.size)) (fun X => Below.refl _ X) ?_ ?_ ?_
  · refine ⟨?_, ?_, trivial⟩
    · exact fun v X Y h hb => Spans.below hb h
    · exact fun v X Y h hb => Spans.below hb h
  · refine flowObl_cons ?_ (flowObl_cons ?_ (flowObl_cons ?_ (flowObl_cons ?_ (flowObl_cons ?_ (flowObl_cons ?_ (flowObl_cons ?_ (flowObl_cons ?_ (flowObl_cons ?_ (flowObl_cons ?_ (flowObl_cons ?_ (flowObl_cons ?_ (flowObl_cons ?_ (flowObl_cons ?_ (flowObl_cons ?_ (flowObl_cons ?_ (flowObl_cons ?_ (flowObl_cons ?_ (flowObl_cons ?_ (flowObl_cons ?_ (flowObl_cons ?_ (flowObl_cons ?_ (flowObl_cons ?_ (flowObl_cons ?_ (flowObl_nil))))))))))))))))))))))))
    · intro a X hC hS
      have h0 := see_old hS 0 (by kernel_rfl) (by kernel_rfl) rfl
      refine flow_run (wanted_none rfl) fun K hK => ?_
      clear hS
      simp [go_sem, BigFrame.eval_const, h0]
      exact hK _ _ rfl (Below.refl _ _)
    · intro a X hC hS
      have h8 := see_fix hS 8 0 (by kernel_rfl) (by kernel_rfl) rfl
      refine flow_run (wanted_none rfl) fun K hK => ?_
      clear hS
      simp [go_sem, BigFrame.eval_const, h8]
      exact hK _ _ rfl (Below.refl _ _)
    · intro a X hC hS
      have h9 := see_fix hS 9 1 (by kernel_rfl) (by kernel_rfl) rfl
      refine flow_run (wanted_none rfl) fun K hK => ?_
      clear hS
      simp [go_sem, BigFrame.eval_const, h9]
      exact hK _ _ rfl (Below.refl _ _)
    · intro a X hC hS
      have h0 := see_old hS 0 (by kernel_rfl) (by kernel_rfl) rfl
      have hg10 := see_fix hS 10 2 (by kernel_rfl) (by kernel_rfl) rfl
      refine flow_run ((wanted_guard rfl rfl hg10).trans rfl) fun K hK => ?_
      clear hg10
      clear hS
      simp [go_sem, BigFrame.eval_const, h0]
      exact hK _ _ rfl (Below.refl _ _)
    · intro a X hC hS
      have h11 := see_fix hS 11 3 (by kernel_rfl) (by kernel_rfl) rfl
      have hg10 := see_fix hS 10 2 (by kernel_rfl) (by kernel_rfl) rfl
      refine flow_run ((wanted_guard rfl rfl hg10).trans rfl) fun K hK => ?_
      clear hg10
      clear hS
      simp [go_sem, BigFrame.eval_const, h11]
      refine (hSpans X hC).mono ?_
      rintro e w' ⟨v', rfl, hs, hB⟩
      exact hK v' w' hs hB
    · intro a X hC hS
      have h4 := see_old hS 4 (by kernel_rfl) (by kernel_rfl) rfl
      have hg10 := see_fix hS 10 2 (by kernel_rfl) (by kernel_rfl) rfl
      refine flow_run ((wanted_guard rfl rfl hg10).trans rfl) fun K hK => ?_
      clear hg10
      clear hS
      have hc := (hC.cell (p := ⟨w.heap.size, 0, none⟩) hlt).trans c0
      simp [go_sem, BigFrame.eval_const, h4, hc]
      exact hK _ _ rfl (Below.refl _ _)
    · intro a X hC hS
      have h13 := see_fix hS 13 5 (by kernel_rfl) (by kernel_rfl) rfl
      have hg10 := see_fix hS 10 2 (by kernel_rfl) (by kernel_rfl) rfl
      refine flow_run ((wanted_guard rfl rfl hg10).trans rfl) fun K hK => ?_
      clear hg10
      clear hS
      simp [go_sem, BigFrame.eval_const, h13]
      refine (hRSpans X hC).mono ?_
      rintro e w' ⟨v', rfl, hs, hB⟩
      exact hK v' w' hs hB
    · intro a X hC hS
      have r12 := see_rel hS 12 4 (by kernel_rfl) (by kernel_rfl) rfl
      have r14 := see_rel hS 14 6 (by kernel_rfl) (by kernel_rfl) rfl
      have hg10 := see_fix hS 10 2 (by kernel_rfl) (by kernel_rfl) rfl
      refine flow_run ((wanted_guard rfl rfl hg10).trans rfl) fun K hK => ?_
      clear hg10
      clear hS
      simp [go_sem, BigFrame.eval_const]
      refine (sameSpans_any _ _ l l X r12 r14 (by omega) (by omega)).mono ?_
      rintro e w' ⟨rfl, hB⟩
      exact hK _ w' (by simp [FSp.holds]) hB
    · intro a X hC hS
      have h15 := see_fix hS 15 7 (by kernel_rfl) (by kernel_rfl) rfl
      have hg10 := see_fix hS 10 2 (by kernel_rfl) (by kernel_rfl) rfl
      refine flow_run ((wanted_guard rfl rfl hg10).trans rfl) fun K hK => ?_
      clear hg10
      clear hS
      simp [go_sem, BigFrame.eval_const, h15]
      exact hK _ _ rfl (Below.refl _ _)
    · intro a X hC hS
      have h10 := see_fix hS 10 2 (by kernel_rfl) (by kernel_rfl) rfl
      have h16 := see_fix hS 16 8 (by kernel_rfl) (by kernel_rfl) rfl
      refine flow_run (wanted_none rfl) fun K hK => ?_
      clear hS
      simp [go_sem, BigFrame.eval_const, h10, h16]
      exact hK _ _ rfl (Below.refl _ _)
    · intro a X hC hS
      have h17 := see_fix hS 17 9 (by kernel_rfl) (by kernel_rfl) rfl
      refine flow_run (wanted_none rfl) fun K hK => ?_
      clear hS
      simp [go_sem, BigFrame.eval_const, h17]
      exact hK _ _ rfl (Below.refl _ _)
    · intro a X hC hS
      have h0 := see_old hS 0 (by kernel_rfl) (by kernel_rfl) rfl
      have hg18 := see_fix hS 18 10 (by kernel_rfl) (by kernel_rfl) rfl
      refine flow_run ((wanted_guard rfl rfl hg18).trans rfl) fun K hK => ?_
      clear hg18
      clear hS
      simp [go_sem, BigFrame.eval_const, h0]
      exact hK _ _ rfl (Below.refl _ _)
    · intro a X hC hS
      have h19 := see_fix hS 19 11 (by kernel_rfl) (by kernel_rfl) rfl
      have hg18 := see_fix hS 18 10 (by kernel_rfl) (by kernel_rfl) rfl
      refine flow_run ((wanted_guard rfl rfl hg18).trans rfl) fun K hK => ?_
      clear hg18
      clear hS
      simp [go_sem, BigFrame.eval_const, h19]
      refine (hCount X hC).mono ?_
      rintro e w' ⟨rfl, hB⟩
      exact hK _ w' rfl hB
    · intro a X hC hS
      have h4 := see_old hS 4 (by kernel_rfl) (by kernel_rfl) rfl
      have hg18 := see_fix hS 18 10 (by kernel_rfl) (by kernel_rfl) rfl
      refine flow_run ((wanted_guard rfl rfl hg18).trans rfl) fun K hK => ?_
      clear hg18
      clear hS
      have hc := (hC.cell (p := ⟨w.heap.size, 0, none⟩) hlt).trans c0
      simp [go_sem, BigFrame.eval_const, h4, hc]
      exact hK _ _ rfl (Below.refl _ _)
    · intro a X hC hS
      have h21 := see_fix hS 21 13 (by kernel_rfl) (by kernel_rfl) rfl
      have hg18 := see_fix hS 18 10 (by kernel_rfl) (by kernel_rfl) rfl
      refine flow_run ((wanted_guard rfl rfl hg18).trans rfl) fun K hK => ?_
      clear hg18
      clear hS
      simp [go_sem, BigFrame.eval_const, h21]
      refine (hRCount X hC).mono ?_
      rintro e w' ⟨rfl, hB⟩
      exact hK _ w' rfl hB
    · intro a X hC hS
      have h20 := see_fix hS 20 12 (by kernel_rfl) (by kernel_rfl) rfl
      have h22 := see_fix hS 22 14 (by kernel_rfl) (by kernel_rfl) rfl
      have hg18 := see_fix hS 18 10 (by kernel_rfl) (by kernel_rfl) rfl
      refine flow_run ((wanted_guard rfl rfl hg18).trans rfl) fun K hK => ?_
      clear hg18
      clear hS
      simp [go_sem, BigFrame.eval_const, h20, h22]
      exact hK _ _ rfl (Below.refl _ _)
    · intro a X hC hS
      have h18 := see_fix hS 18 10 (by kernel_rfl) (by kernel_rfl) rfl
      have h23 := see_fix hS 23 15 (by kernel_rfl) (by kernel_rfl) rfl
      refine flow_run (wanted_none rfl) fun K hK => ?_
      clear hS
      simp [go_sem, BigFrame.eval_const, h18, h23]
      exact hK _ _ rfl (Below.refl _ _)
    · intro a X hC hS
      have h24 := see_fix hS 24 16 (by kernel_rfl) (by kernel_rfl) rfl
      refine flow_run (wanted_none rfl) fun K hK => ?_
      clear hS
      simp [go_sem, BigFrame.eval_const, h24]
      exact hK _ _ rfl (Below.refl _ _)
    · intro a X hC hS
      have h0 := see_old hS 0 (by kernel_rfl) (by kernel_rfl) rfl
      have hg25 := see_fix hS 25 17 (by kernel_rfl) (by kernel_rfl) rfl
      refine flow_run ((wanted_guard rfl rfl hg25).trans rfl) fun K hK => ?_
      clear hg25
      clear hS
      simp [go_sem, BigFrame.eval_const, h0]
      exact hK _ _ rfl (Below.refl _ _)
    · intro a X hC hS
      have h26 := see_fix hS 26 18 (by kernel_rfl) (by kernel_rfl) rfl
      have hg25 := see_fix hS 25 17 (by kernel_rfl) (by kernel_rfl) rfl
      refine flow_run ((wanted_guard rfl rfl hg25).trans rfl) fun K hK => ?_
      clear hg25
      clear hS
      simp [go_sem, BigFrame.eval_const, h26]
      refine (hPrint X hC).mono ?_
      rintro e w' ⟨rfl, hB⟩
      exact hK _ w' rfl hB
    · intro a X hC hS
      have h4 := see_old hS 4 (by kernel_rfl) (by kernel_rfl) rfl
      have hg25 := see_fix hS 25 17 (by kernel_rfl) (by kernel_rfl) rfl
      refine flow_run ((wanted_guard rfl rfl hg25).trans rfl) fun K hK => ?_
      clear hg25
      clear hS
      have hc := (hC.cell (p := ⟨w.heap.size, 0, none⟩) hlt).trans c0
      simp [go_sem, BigFrame.eval_const, h4, hc]
      exact hK _ _ rfl (Below.refl _ _)
    · intro a X hC hS
      have h28 := see_fix hS 28 20 (by kernel_rfl) (by kernel_rfl) rfl
      have hg25 := see_fix hS 25 17 (by kernel_rfl) (by kernel_rfl) rfl
      refine flow_run ((wanted_guard rfl rfl hg25).trans rfl) fun K hK => ?_
      clear hg25
      clear hS
      simp [go_sem, BigFrame.eval_const, h28]
      refine (hRPrint X hC).mono ?_
      rintro e w' ⟨rfl, hB⟩
      exact hK _ w' rfl hB
    · intro a X hC hS
      have h27 := see_fix hS 27 19 (by kernel_rfl) (by kernel_rfl) rfl
      have h29 := see_fix hS 29 21 (by kernel_rfl) (by kernel_rfl) rfl
      have hg25 := see_fix hS 25 17 (by kernel_rfl) (by kernel_rfl) rfl
      refine flow_run ((wanted_guard rfl rfl hg25).trans rfl) fun K hK => ?_
      clear hg25
      clear hS
      simp [go_sem, BigFrame.eval_const, h27, h29]
      exact hK _ _ rfl (Below.refl _ _)
    · intro a X hC hS
      have h25 := see_fix hS 25 17 (by kernel_rfl) (by kernel_rfl) rfl
      have h30 := see_fix hS 30 22 (by kernel_rfl) (by kernel_rfl) rfl
      refine flow_run (wanted_none rfl) fun K hK => ?_
      clear hS
      simp [go_sem, BigFrame.eval_const, h25, h30]
      exact hK _ _ rfl (Below.refl _ _)
  · intro v12 v14 X hX hF
    simp only [Act.put, List.setIfInBounds_toArray, List.set_cons_zero, List.set_cons_succ]
    clear hF
    obtain ⟨xa, xc, hx1, hA⟩ := hask2
    obtain ⟨rfl, -, rfl⟩ : va = xa ∧ asks.length = asks.length ∧ vc = xc := by injection hx1 with h1 h2 h3; exact ⟨h1, rfl, h3⟩
    clear hx1
    have hfl : fs.length ≤ 300 := by rw [← hfs']; simp; omega
    clear hfs'
    go_wp2
    go_loopg [7] (200 : Nat) (fun gk i wr => ∃ k : Nat, i = .int .i64 k ∧ k ≤ asks.length ∧ k ≤ 200 ∧ 200 - k ≤ gk ∧ Below W.heap.size W wr)
    case atStart => exact ⟨0, rfl, by omega, by omega, by omega, hX⟩
    case round =>
      clear hX
      obtain ⟨k, rfl, hk, hk2, hgk, hb⟩ := hrel
      by_cases hk1 : k < asks.length ∧ k < 200
      · obtain ⟨hk1, hk3⟩ := hk1
        rcases hA with h | ⟨ba, oa, rfl, hA⟩
        · subst h; simp at hk1
        have a1 := hA k hk1
        obtain ⟨r0, r1⟩ : -2147483648 ≤ asks[k]?.getD 0 ∧ asks[k]?.getD 0 ≤ 2147483647 := by rw [List.getElem?_eq_getElem hk1]; exact hab _ (List.getElem_mem hk1)
        generalize asks[k]?.getD 0 = r at *
        have a1' := (hb.cell (p := ⟨ba, oa + k, none⟩) (cell_lt a1)).trans a1
        have c1 := (hb.cell (p := ⟨w.heap.size, 0, none⟩) hlt).trans c0
        have hh : ∀ u : ClsW (AbW wr), Calls Tryz.prog 39 #[.pointer (some ⟨bp, 0, none⟩), .int .i32 r] u.val fun x w' => x = .returned (.bool (ptB r && memB (numP r) L)) ∧ Below u.val.heap.size u.val w' := fun u => hHas u.val r (hb.trans (u.ok.mono hb.size)) r0 r1
        have hrh : ∀ u : ClsW (AbW wr), Calls Tryz.prog 44 #[.agg #[.slice ua un uc], .int .i32 r] u.val fun x w' => x = .returned (.bool (ptB r && memB (numP r) L)) ∧ Below u.val.heap.size u.val w' := fun u => hRHas u.val r (hb.trans (u.ok.mono hb.size))
        obtain ⟨m, hm⟩ : ∃ m, (ptB r && memB (numP r) L) = m := ⟨_, rfl⟩
        rw [hm] at hh hrh
        have hmm : (m != m) = false := by cases m <;> rfl
        have hk1' : (k : Int) < (asks.length : Int) := by omega
        have hk3' : (k : Int) < 200 := by omega
        clear hA a1 hm hSpans hRSpans hCount hRCount hPrint hRPrint hFirst hRFirst hHas hRHas
        go_wp2
        refine wp_region_cls (AbW wr) (by kernel_rfl) (by kernel_rfl) (AbW.drew wr) ?_
        have hne := AbW.there wr
        have k1 := AbW.cell a1'
        have k2 := AbW.cell c1
        repeat (go_big_quiet_step ((first
          | (go_at_call 39; rename_i u; with_reducible exact cls_call AbW.keep (hh u))
          | (go_at_call 44; rename_i u; with_reducible exact cls_call AbW.keep (hrh u)))))
        refine wpQuiet_nil ?_
        rintro U ⟨⟨U', hU⟩, hUe⟩
        obtain rfl : U = U' := hUe
        replace hU : Below wr.heap.size wr U := hU
        clear hne k1 k2
        go_wp2
        go_roundg (gk - 1)
        case measure => omega
        case rel => exact ⟨k + 1, by go_num, by omega, by omega, by omega, hb.trans (hU.mono hb.size)⟩
      · clear hA
        by_cases hk4 : k < asks.length
        · obtain rfl : k = 200 := by omega
          have hk5 : (200 : Int) < (asks.length : Int) := by omega
          clear hk1
          go_wp2
          refine wp_region_flow [.fix (.pointer (some ⟨bp, 0, none⟩)), .rel (fun v X => Runes X v fs), .fix (.agg #[.slice ua un uc]), .rel (fun v X => Runes X v fs), .fix (.bool true), .fix (.bool true)] (fun X => Below W.heap.size W X) (fun X Y => Below X.heap.size X Y) (by kernel_rfl) (by kernel_rfl) (by kernel_rfl) rfl (hb.drew) (fun X Y h1 h2 => h1.trans (h2.mono h1.size)) (fun X => Below.refl _ X) ?_ ?_ ?_
          · refine ⟨?_, ?_, trivial⟩
            · exact fun v X Y h hb => Runes.below hb h
            · exact fun v X Y h hb => Runes.below hb h
          · refine flowObl_cons ?_ (flowObl_cons ?_ (flowObl_cons ?_ (flowObl_cons ?_ (flowObl_cons ?_ (flowObl_cons ?_ (flowObl_nil))))))
            · intro a X hC hS
              have h0 := see_old hS 0 (by kernel_rfl) (by kernel_rfl) rfl
              refine flow_run (wanted_none rfl) fun K hK => ?_
              clear hS
              simp [go_sem, BigFrame.eval_const, h0]
              exact hK _ _ rfl (Below.refl _ _)
            · intro a X hC hS
              have h55 := see_fix hS 55 0 (by kernel_rfl) (by kernel_rfl) rfl
              refine flow_run (wanted_none rfl) fun K hK => ?_
              clear hS
              simp [go_sem, BigFrame.eval_const, h55]
              refine (hFirst X hC).mono ?_
              rintro e w' ⟨v', rfl, hs, hB⟩
              exact hK v' w' hs hB
            · intro a X hC hS
              have h4 := see_old hS 4 (by kernel_rfl) (by kernel_rfl) rfl
              refine flow_run (wanted_none rfl) fun K hK => ?_
              clear hS
              have hc := (hC.cell (p := ⟨w.heap.size, 0, none⟩) hlt).trans c0
              simp [go_sem, BigFrame.eval_const, h4, hc]
              exact hK _ _ rfl (Below.refl _ _)
            · intro a X hC hS
              have h57 := see_fix hS 57 2 (by kernel_rfl) (by kernel_rfl) rfl
              refine flow_run (wanted_none rfl) fun K hK => ?_
              clear hS
              simp [go_sem, BigFrame.eval_const, h57]
              refine (hRFirst X hC).mono ?_
              rintro e w' ⟨v', rfl, hs, hB⟩
              exact hK v' w' hs hB
            · intro a X hC hS
              have r56 := see_rel hS 56 1 (by kernel_rfl) (by kernel_rfl) rfl
              have r58 := see_rel hS 58 3 (by kernel_rfl) (by kernel_rfl) rfl
              refine flow_run (wanted_none rfl) fun K hK => ?_
              clear hS
              simp [go_sem, BigFrame.eval_const]
              refine (sameRunes_any _ _ fs X r56 r58 (by omega)).mono ?_
              rintro e w' ⟨rfl, hB⟩
              exact hK _ w' rfl hB
            · intro a X hC hS
              have h59 := see_fix hS 59 4 (by kernel_rfl) (by kernel_rfl) rfl
              refine flow_run (wanted_none rfl) fun K hK => ?_
              clear hS
              simp [go_sem, BigFrame.eval_const, h59]
              exact hK _ _ rfl (Below.refl _ _)
          · intro v56 v58 X hX hF
            simp only [Act.put, List.setIfInBounds_toArray, List.set_cons_zero, List.set_cons_succ]
            clear hF
            go_wp2
            go_ret
            exact ⟨rfl, bA.trans (hX.mono bA.size)⟩
        · obtain rfl : k = asks.length := by omega
          clear hk1 hk4
          go_wp2
          refine wp_region_flow [.fix (.pointer (some ⟨bp, 0, none⟩)), .rel (fun v X => Runes X v fs), .fix (.agg #[.slice ua un uc]), .rel (fun v X => Runes X v fs), .fix (.bool true), .fix (.bool true)] (fun X => Below W.heap.size W X) (fun X Y => Below X.heap.size X Y) (by kernel_rfl) (by kernel_rfl) (by kernel_rfl) rfl (hb.drew) (fun X Y h1 h2 => h1.trans (h2.mono h1.size)) (fun X => Below.refl _ X) ?_ ?_ ?_
          · refine ⟨?_, ?_, trivial⟩
            · exact fun v X Y h hb => Runes.below hb h
            · exact fun v X Y h hb => Runes.below hb h
          · refine flowObl_cons ?_ (flowObl_cons ?_ (flowObl_cons ?_ (flowObl_cons ?_ (flowObl_cons ?_ (flowObl_cons ?_ (flowObl_nil))))))
            · intro a X hC hS
              have h0 := see_old hS 0 (by kernel_rfl) (by kernel_rfl) rfl
              refine flow_run (wanted_none rfl) fun K hK => ?_
              clear hS
              simp [go_sem, BigFrame.eval_const, h0]
              exact hK _ _ rfl (Below.refl _ _)
            · intro a X hC hS
              have h55 := see_fix hS 55 0 (by kernel_rfl) (by kernel_rfl) rfl
              refine flow_run (wanted_none rfl) fun K hK => ?_
              clear hS
              simp [go_sem, BigFrame.eval_const, h55]
              refine (hFirst X hC).mono ?_
              rintro e w' ⟨v', rfl, hs, hB⟩
              exact hK v' w' hs hB
            · intro a X hC hS
              have h4 := see_old hS 4 (by kernel_rfl) (by kernel_rfl) rfl
              refine flow_run (wanted_none rfl) fun K hK => ?_
              clear hS
              have hc := (hC.cell (p := ⟨w.heap.size, 0, none⟩) hlt).trans c0
              simp [go_sem, BigFrame.eval_const, h4, hc]
              exact hK _ _ rfl (Below.refl _ _)
            · intro a X hC hS
              have h57 := see_fix hS 57 2 (by kernel_rfl) (by kernel_rfl) rfl
              refine flow_run (wanted_none rfl) fun K hK => ?_
              clear hS
              simp [go_sem, BigFrame.eval_const, h57]
              refine (hRFirst X hC).mono ?_
              rintro e w' ⟨v', rfl, hs, hB⟩
              exact hK v' w' hs hB
            · intro a X hC hS
              have r56 := see_rel hS 56 1 (by kernel_rfl) (by kernel_rfl) rfl
              have r58 := see_rel hS 58 3 (by kernel_rfl) (by kernel_rfl) rfl
              refine flow_run (wanted_none rfl) fun K hK => ?_
              clear hS
              simp [go_sem, BigFrame.eval_const]
              refine (sameRunes_any _ _ fs X r56 r58 (by omega)).mono ?_
              rintro e w' ⟨rfl, hB⟩
              exact hK _ w' rfl hB
            · intro a X hC hS
              have h59 := see_fix hS 59 4 (by kernel_rfl) (by kernel_rfl) rfl
              refine flow_run (wanted_none rfl) fun K hK => ?_
              clear hS
              simp [go_sem, BigFrame.eval_const, h59]
              exact hK _ _ rfl (Below.refl _ _)
          · intro v56 v58 X hX hF
            simp only [Act.put, List.setIfInBounds_toArray, List.set_cons_zero, List.set_cons_succ]
            clear hF
            go_wp2
            go_ret
            exact ⟨rfl, bA.trans (hX.mono bA.size)⟩

theorem is_rep {p v va : Value} {P : Int → Bool} {k : Nat} {asks : List Int} {w : World} (hs : Rep w p P k) (hr : RRep w v P) (hk : k ≤ 90000) (hask : Runes w va asks) (hab : ∀ x ∈ asks, -2147483648 ≤ x ∧ x ≤ 2147483647) (hd : DbOk w) :
    Calls Tryz.prog 13 #[p, v, va] w fun e w' => e = .returned (.bool true) ∧ Below w.heap.size w w' := by
  obtain ⟨l, u, h1, h2, h3, h4, rfl, h5⟩ := rep_rrep hs hr
  obtain ⟨b, vs, rfl, h6, h7⟩ := h1
  obtain ⟨ua, uc, rfl, h8⟩ := h5
  obtain ⟨xa, xc, rfl, h9⟩ := hask
  exact is_walk b l ua _ uc xa xc asks w ⟨b, vs, rfl, h6, h7⟩ h2 h3 (by omega) ⟨ua, uc, rfl, h8⟩ ⟨xa, xc, rfl, h9⟩ hab hd.1 hd.2
end Go.Proofs.YtmbjjheaddhmeaaGreatDoor
