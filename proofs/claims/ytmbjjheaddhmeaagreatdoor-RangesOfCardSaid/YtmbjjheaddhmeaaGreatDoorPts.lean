/- Spans of points, and the spans of their numbers. -/
import Derived.Test.YtmbjjheaddhmeaaGreatDoorLaw
import Derived.Test.YtmbjjheaddhmeaaGreatDoorOf
namespace Go.Proofs.YtmbjjheaddhmeaaGreatDoor
open Go.RowKit

theorem numP_pt {r : Int} (h : ptB r = true) : (0 ≤ r ∧ r < 55296 ∧ numP r = r) ∨ (57344 ≤ r ∧ r ≤ 1114111 ∧ numP r = r - 2048) ∨ (1114240 ≤ r ∧ r ≤ 1114367 ∧ numP r = r - 2176) := by
  simp only [ptB, decide_eq_true_eq] at h
  unfold numP
  rcases h with h | h | h
  · left; rw [if_neg (by omega), if_neg (by omega)]; omega
  · right; left; rw [if_neg (by omega), if_pos (by omega)]; omega
  · right; right; rw [if_pos (by omega)]; omega
theorem numP_end : numP 1114368 = 1112192 := rfl
/-- A point, or the end behind the last one. -/
def PtE (r : Int) : Prop := ptB r = true ∨ r = 1114368
theorem numP_ptE {r : Int} (h : PtE r) : (0 ≤ r ∧ r < 55296 ∧ numP r = r) ∨ (57344 ≤ r ∧ r ≤ 1114111 ∧ numP r = r - 2048) ∨ (1114240 ≤ r ∧ r ≤ 1114368 ∧ numP r = r - 2176) := by
  rcases h with h | rfl
  · have := numP_pt h; omega
  · right; right; exact ⟨by omega, by omega, rfl⟩
theorem nextP_pt {r : Int} (h : ptB r = true) : PtE (nextP r) ∧ numP (nextP r) = numP r + 1 := by
  have h1 := numP_pt h
  have h2 : PtE (nextP r) := by
    unfold PtE nextP
    simp only [ptB, decide_eq_true_eq] at *
    split
    · left; omega
    · split
      · left; omega
      · omega
  have h3 := numP_ptE h2
  refine ⟨h2, ?_⟩
  have h4 : nextP r = if r = 55295 then 57344 else if r = 1114111 then 1114240 else r + 1 := rfl
  split at h4
  · omega
  · split at h4 <;> omega
theorem lastP_pt {r : Int} (h : ptB r = true) (h0 : 0 < r) : ptB (lastP r) = true ∧ numP (lastP r) = numP r - 1 := by
  have h1 := numP_pt h
  have h2 : ptB (lastP r) = true := by
    unfold lastP
    simp only [ptB, decide_eq_true_eq] at *
    split
    · left; omega
    · split <;> omega
  have h3 := numP_pt h2
  refine ⟨h2, ?_⟩
  have h4 : lastP r = if r = 57344 then 55295 else if r = 1114240 then 1114111 else r - 1 := rfl
  split at h4
  · omega
  · split at h4 <;> omega
theorem ptB_max {a b : Int} (ha : ptB a = true) (hb : ptB b = true) : ptB (max a b) = true ∧ numP (max a b) = max (numP a) (numP b) := by
  have h1 := numP_pt ha; have h2 := numP_pt hb
  by_cases h : a ≤ b
  · rw [Int.max_eq_right h]; exact ⟨hb, by omega⟩
  · rw [Int.max_eq_left (by omega)]; exact ⟨ha, by omega⟩
theorem ptB_min {a b : Int} (ha : ptB a = true) (hb : ptB b = true) : ptB (min a b) = true ∧ numP (min a b) = min (numP a) (numP b) := by
  have h1 := numP_pt ha; have h2 := numP_pt hb
  by_cases h : a ≤ b
  · rw [Int.min_eq_left h]; exact ⟨ha, by omega⟩
  · rw [Int.min_eq_right (by omega)]; exact ⟨hb, by omega⟩

def nm (x : Int × Int) : Int × Int := (numP x.1, numP x.2)
def Pts (l : List (Int × Int)) : Prop := ∀ x ∈ l, ptB x.1 = true ∧ ptB x.2 = true
theorem Pts.bd {l : List (Int × Int)} (h : Pts l) : Bd l := fun x hx => by
  have h1 := numP_pt (h x hx).1; have h2 := numP_pt (h x hx).2; omega
theorem Pts.nil : Pts [] := fun x h => by cases h
theorem Pts.cons {x : Int × Int} {l : List (Int × Int)} : Pts (x :: l) ↔ (ptB x.1 = true ∧ ptB x.2 = true) ∧ Pts l := by simp [Pts]
theorem Pts.append {l m : List (Int × Int)} (h : Pts l) (k : Pts m) : Pts (l ++ m) := fun x hx => (List.mem_append.1 hx).elim (h x) (k x)
theorem nm_inj {x y : Int × Int} (hx : ptB x.1 = true ∧ ptB x.2 = true) (hy : ptB y.1 = true ∧ ptB y.2 = true) (h : nm x = nm y) : x = y := by
  have e1 : numP x.1 = numP y.1 := congrArg Prod.fst h
  have e2 : numP x.2 = numP y.2 := congrArg Prod.snd h
  have h1 := numP_pt hx.1; have h2 := numP_pt hx.2; have h3 := numP_pt hy.1; have h4 := numP_pt hy.2
  exact Prod.ext (by omega) (by omega)
theorem nums_inj {l : List (Int × Int)} : ∀ {m : List (Int × Int)}, Pts l → Pts m → l.map nm = m.map nm → l = m := by
  induction l with
  | nil => intro m _ _ h; exact (List.map_eq_nil_iff.1 h.symm).symm
  | cons x l ih =>
    intro m hl hm h
    cases m with
    | nil => cases h
    | cons y m =>
      rw [List.map_cons, List.map_cons] at h
      injection h with h1 h2
      rw [nm_inj (Pts.cons.1 hl).1 (Pts.cons.1 hm).1 h1, ih (Pts.cons.1 hl).2 (Pts.cons.1 hm).2 h2]

theorem notF_nums {l : List (Int × Int)} : ∀ {f : Int}, Pts l → PtE f → Can (numP f) (l.map nm) → (notF f l).map nm = notN (numP f) (l.map nm) ∧ Pts (notF f l) := by
  induction l with
  | nil =>
    intro f _ hf _
    have h1 := numP_ptE hf
    rw [notF, List.map_nil, notN]
    by_cases h : f ≤ 1114367
    · rw [if_pos h, if_pos (by omega)]
      refine ⟨rfl, Pts.cons.2 ⟨⟨?_, rfl⟩, Pts.nil⟩⟩
      rcases hf with hf | rfl
      · exact hf
      · omega
    · rw [if_neg h, if_neg (by omega)]; exact ⟨rfl, Pts.nil⟩
  | cons x l ih =>
    intro f hl hf hc
    obtain ⟨⟨p1, p2⟩, hl'⟩ := Pts.cons.1 hl
    rw [List.map_cons] at hc
    obtain ⟨h1, h2, h3, h4⟩ := hc
    obtain ⟨n1, n2⟩ := nextP_pt p2
    obtain ⟨i1, i2⟩ := ih hl' n1 (h4.mono (by show numP (nextP x.2) ≤ numP x.2 + 2; omega))
    have e1 := numP_ptE hf; have e2 := numP_pt p1
    rw [notF, List.map_append, i1, List.map_cons, notN, n2]
    show _ = (if numP f < numP x.1 then [(numP f, numP x.1 - 1)] else []) ++ notN (numP x.2 + 1) (l.map nm) ∧ _
    by_cases h : f < x.1
    · have := lastP_pt p1 (by omega)
      have hf' : ptB f = true := hf.elim id (fun e => by omega)
      rw [if_pos h, if_pos (by omega)]
      exact ⟨by simp [nm, this.2], Pts.append (Pts.cons.2 ⟨⟨hf', this.1⟩, Pts.nil⟩) i2⟩
    · rw [if_neg h, if_neg (by omega)]
      exact ⟨by simp, i2⟩

theorem bothF_nums (n : Nat) : ∀ {l m : List (Int × Int)}, l.length + m.length ≤ n → Pts l → Pts m → (bothF l m).map nm = bothN (l.map nm) (m.map nm) ∧ Pts (bothF l m) := by
  induction n with
  | zero =>
    intro l m hn _ _
    obtain rfl := List.eq_nil_of_length_eq_zero (show l.length = 0 by omega)
    rw [bothF, List.map_nil, bothN]; exact ⟨rfl, Pts.nil⟩
  | succ n ih =>
    intro l m hn hl hm
    cases l with
    | nil => rw [bothF, List.map_nil, bothN]; exact ⟨rfl, Pts.nil⟩
    | cons a l =>
      cases m with
      | nil => rw [bothF, List.map_nil, List.map_cons, bothN]; exact ⟨rfl, Pts.nil⟩
      | cons b m =>
        obtain ⟨⟨p1, p2⟩, hl'⟩ := Pts.cons.1 hl
        obtain ⟨⟨q1, q2⟩, hm'⟩ := Pts.cons.1 hm
        simp only [List.length_cons] at hn
        have e1 := numP_pt p2; have e2 := numP_pt q2
        obtain ⟨x1, x2⟩ := ptB_max p1 q1
        obtain ⟨y1, y2⟩ := ptB_min p2 q2
        have e3 := numP_pt x1; have e4 := numP_pt y1
        rw [bothF, List.map_append, List.map_cons, List.map_cons, bothN]
        have hd : List.map nm (if max a.1 b.1 ≤ min a.2 b.2 then [(max a.1 b.1, min a.2 b.2)] else []) = (if max (nm a).1 (nm b).1 ≤ min (nm a).2 (nm b).2 then [(max (nm a).1 (nm b).1, min (nm a).2 (nm b).2)] else []) ∧ Pts (if max a.1 b.1 ≤ min a.2 b.2 then [(max a.1 b.1, min a.2 b.2)] else []) := by
          show _ = (if max (numP a.1) (numP b.1) ≤ min (numP a.2) (numP b.2) then [(max (numP a.1) (numP b.1), min (numP a.2) (numP b.2))] else []) ∧ _
          rw [← x2, ← y2]
          by_cases h : max a.1 b.1 ≤ min a.2 b.2
          · rw [if_pos h, if_pos (by omega)]; exact ⟨rfl, Pts.cons.2 ⟨⟨x1, y1⟩, Pts.nil⟩⟩
          · rw [if_neg h, if_neg (by omega)]; exact ⟨rfl, Pts.nil⟩
        rw [hd.1]
        have hc : (a.2 < b.2) ↔ ((nm a).2 < (nm b).2) := by show _ ↔ numP a.2 < numP b.2; omega
        by_cases h : a.2 < b.2
        · rw [if_pos h, if_pos (hc.1 h)]
          obtain ⟨i1, i2⟩ := ih (l := l) (m := b :: m) (by simp; omega) hl' hm
          rw [i1]; exact ⟨rfl, hd.2.append i2⟩
        · rw [if_neg h, if_neg (fun e => h (hc.2 e))]
          obtain ⟨i1, i2⟩ := ih (l := a :: l) (m := m) (by simp; omega) hl hm'
          rw [i1]; exact ⟨rfl, hd.2.append i2⟩

theorem foldl_mg (l : List (Int × Int)) : ∀ (out : List (Int × Int)) (y : Int × Int), Pts (out ++ [y]) → Pts l → (l.foldl mstep (out ++ [y])).map nm = out.map nm ++ mg (nm y) (l.map nm) ∧ Pts (l.foldl mstep (out ++ [y])) := by
  induction l with
  | nil => intro out y hp _; exact ⟨by simp [mg], hp⟩
  | cons x l ih =>
    intro out y hp hl
    obtain ⟨⟨p1, p2⟩, hl'⟩ := Pts.cons.1 hl
    have hy := hp y (by simp)
    have ho : Pts out := fun z hz => hp z (by simp [hz])
    obtain ⟨n1, n2⟩ := nextP_pt hy.2
    have e1 := numP_ptE n1; have e2 := numP_pt p1
    rw [List.foldl_cons, mstep_snoc, List.map_cons, mg]
    have hc : (x.1 ≤ nextP y.2) ↔ (nm x).1 ≤ (nm y).2 + 1 := by show _ ↔ numP x.1 ≤ numP y.2 + 1; omega
    by_cases h : x.1 ≤ nextP y.2
    · rw [if_pos h, if_pos (hc.1 h)]
      obtain ⟨m1, m2⟩ := ptB_max hy.2 p2
      obtain ⟨i1, i2⟩ := ih out (y.1, max y.2 x.2) (ho.append (Pts.cons.2 ⟨⟨hy.1, m1⟩, Pts.nil⟩)) hl'
      rw [i1]
      refine ⟨?_, i2⟩
      show _ ++ mg (numP y.1, numP (max y.2 x.2)) _ = _ ++ mg ((nm y).1, max (numP y.2) (numP x.2)) _
      rw [m2]; rfl
    · rw [if_neg h, if_neg (fun e => h (hc.2 e))]
      obtain ⟨i1, i2⟩ := ih (out ++ [y]) x (hp.append (Pts.cons.2 ⟨⟨p1, p2⟩, Pts.nil⟩)) hl'
      rw [i1]
      exact ⟨by simp, i2⟩
theorem mergeF_nums (x : Int × Int) (l : List (Int × Int)) (hp : Pts (x :: l)) : (mergeF (x :: l)).map nm = mg (nm x) (l.map nm) ∧ Pts (mergeF (x :: l)) := by
  obtain ⟨i1, i2⟩ := foldl_mg l [] x (Pts.cons.2 ⟨(Pts.cons.1 hp).1, Pts.nil⟩) (Pts.cons.1 hp).2
  exact ⟨i1, i2⟩
theorem mergeF_can {l : List (Int × Int)} (hp : Pts l) (ho : ∀ x ∈ l, x.1 ≤ x.2) (hs : l.Pairwise (fun a b : Int × Int => a.1 ≤ b.1)) : Can 0 ((mergeF l).map nm) ∧ Pts (mergeF l) ∧ ∀ r, memB r ((mergeF l).map nm) = memB r (l.map nm) := by
  cases l with
  | nil => exact ⟨trivial, Pts.nil, fun r => rfl⟩
  | cons x l =>
    obtain ⟨i1, i2⟩ := mergeF_nums x l hp
    obtain ⟨p1, p2⟩ := (Pts.cons.1 hp).1
    have e1 := numP_pt p1; have e2 := numP_pt p2
    have e3 := ho x List.mem_cons_self
    have hs' := List.pairwise_cons.1 hs
    obtain ⟨j1, j2⟩ := mg_spec (l := l.map nm) (y := nm x) (by show numP x.1 ≤ numP x.2; omega) (by show numP x.2 ≤ 1112191; omega)
      (fun z hz => by
        obtain ⟨w, hw, rfl⟩ := List.mem_map.1 hz
        have f1 := numP_pt ((Pts.cons.1 hp).2 w hw).1; have f2 := numP_pt ((Pts.cons.1 hp).2 w hw).2
        have f3 := ho w (List.mem_cons_of_mem _ hw)
        have f4 := hs'.1 w hw
        show numP x.1 ≤ numP w.1 ∧ numP w.1 ≤ numP w.2 ∧ numP w.2 ≤ 1112191
        omega)
      (by
        rw [List.pairwise_map]
        refine List.Pairwise.imp_of_mem (fun {a b} ha hb hab => ?_) hs'.2
        have f1 := numP_pt ((Pts.cons.1 hp).2 a ha).1; have f2 := numP_pt ((Pts.cons.1 hp).2 b hb).1
        show numP a.1 ≤ numP b.1
        omega)
    rw [i1]
    exact ⟨j1.mono (by show 0 ≤ numP x.1; omega), i2, j2⟩
theorem memB_perm {l m : List (Int × Int)} (h : l.Perm m) (r : Int) : memB r l = memB r m := by
  induction h with
  | nil => rfl
  | cons x _ ih => rw [memB, memB, ih]
  | swap x y l => simp only [memB]; rw [← Bool.or_assoc, ← Bool.or_assoc, Bool.or_comm (decide (y.1 ≤ r) && decide (r ≤ y.2))]
  | trans _ _ ih1 ih2 => rw [ih1, ih2]
theorem countF_nums (l : List (Int × Int)) : countF l = countN (l.map nm) := by
  have h : ∀ (l : List (Int × Int)) (s : Int), l.foldl (fun s x => s + (numP x.2 - numP x.1 + 1)) s = s + countN (l.map nm) := by
    intro l
    induction l with
    | nil => intro s; simp [countN]
    | cons x l ih => intro s; rw [List.foldl_cons, ih, List.map_cons, countN]; show _ = s + ((numP x.2 - numP x.1 + 1) + _); omega
  rw [countF, h]; omega

end Go.Proofs.YtmbjjheaddhmeaaGreatDoor
