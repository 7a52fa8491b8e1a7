/- Of, Join, Less. -/
import Derived.Test.YtmbjjheaddhmeaaGreatDoorA
import Derived.Test.YtmbjjheaddhmeaaGreatDoorM
import Derived.Test.YtmbjjheaddhmeaaGreatDoorClone
import Derived.Test.YtmbjjheaddhmeaaGreatDoorTidy
import Derived.Test.YtmbjjheaddhmeaaGreatDoorBoth
import Derived.Test.YtmbjjheaddhmeaaGreatDoorNot
import Derived.Laws.AppendOwnNone
namespace Go.Proofs.YtmbjjheaddhmeaaGreatDoor
open Go.RowKit

theorem flat_append (l m : List (Int × Int)) : flat (l ++ m) = flat l ++ flat m := by simp [flat]
theorem Bd.append {l m : List (Int × Int)} (h1 : Bd l) (h2 : Bd m) : Bd (l ++ m) := fun x hx => (List.mem_append.1 hx).elim (h1 x) (h2 x)

theorem run_append_own_none_c {P : Program} {w : World} (base : Nat) (t ty e : TypeId) (i : TypeInfo) (size : Nat) (ht : P.underlying t = some (.slice e)) (hi : P.info? e = some i)
    (v : Value) (n : Nat) (xs : List Value) (hown : w.ownsRow base e size v n xs) (c : Nat) :
    (Builtin.append_ #[t, t] ty #[v, .slice none 0 c]).run P w = .ok v w := by
  rcases hown.2 with ⟨rfl, rfl⟩ | ⟨g, cap, cur, rfl, _, _, hnc, _⟩
  · simp [Builtin.append_, run_underlying ht, sizeOf, typeInfo, hi, Builtin.lenOf, Builtin.firstCells]
  · simp [Builtin.append_, run_underlying ht, sizeOf, typeInfo, hi, Builtin.lenOf, Builtin.firstCells, hnc, storeCells]

/-- 'append(v, u...)', spans onto what the call owns, as a step of a region that draws its order. -/
theorem step_append_spans {ops : Array Oper} {o : Oper} {a : Act} {w : World} {K : Act → World → Prop} {Q : Exit → Act → World → Prop} {E : Prop} (hgd : o.guard = none) (s x : Operand)
    (ho : o.op = .call { callee := .builtin .append, args := #[s, x], argTypes := #[22, 22] }) (base : Nat) (v : Value) (l m : List (Int × Int)) (hs : a.eval s = v) (hown : w.ownsRow base 39 2 v l.length (flat l))
    (u : Value) (hx : a.eval x = u) (hu : Spans w u m) (hlm : l.length + m.length ≤ 1000000) (hbase : base ≤ w.heap.size)
    (h : ∀ v' w', w'.ownsRow base 39 2 v' (l ++ m).length (flat (l ++ m)) → w.grownBy w' v.ownBlock → K (a.put o.dst v') w') :
    if Region.wanted o (yielded ops a.tmps) = true then Oper.wp Tryz.prog o a w K Q else E := by
  obtain ⟨i0, hi0, hz0, hz1, hz2⟩ := info_parts Tryz.infoSpanC
  have hw : Region.wanted o (yielded ops a.tmps) = true := by simp [Region.wanted, hgd]
  rw [if_pos hw]
  obtain ⟨ad, c, rfl, hA⟩ := hu
  cases ad with
  | none =>
    obtain rfl : m = [] := by rcases hA with h | ⟨b, off, h, _⟩; · exact h
                              · cases h
    have hrun := run_append_own_none_c (P := Tryz.prog) (w := w) base 22 o.type 39 i0 2 Tryz.underlying22 hi0 v l.length (flat l) hown c
    unfold Oper.wp
    simp [execOp, ho, resolve, invoke, builtin, hs, hx, hrun, Result.andThen]
    exact h v w (by simpa using hown) ⟨rfl, rfl, rfl, Nat.le_refl _, fun _ _ _ => rfl⟩
  | some ad =>
    have hc : ∀ j u, (flat m)[j]? = some u → w.cell? (ad.add j) = some u := by
      rcases hA with h | ⟨b, off, h, hA⟩
      · subst h; intro j u h; simp [flat] at h
      · cases h
        intro j u hu
        rw [add_lit]
        exact flat_cells hA j u hu
    obtain ⟨v', w', hrun, r1, r2, _⟩ := run_append_own (P := Tryz.prog) w base 22 o.type 39 i0 (.agg #[.int .i32 0, .int .i32 0]) 2 8 Tryz.underlying22 hi0 hz0 hz1 hz2 rfl (by decide) v l.length (flat l) hown ad m.length c (flat m) (flat_length m) hc (flat_one m) (by unfold maxLen; omega) (by omega) hbase
    unfold Oper.wp
    simp [execOp, ho, resolve, invoke, builtin, hs, hx, hrun, Result.andThen]
    exact h v' w' (by rw [List.length_append, flat_append]; exact r1) r2

set_option maxRecDepth 100000 in
set_option maxHeartbeats 2000000 in
theorem join_any (p q : Value) (l m : List (Int × Int)) (w : World) (hp : IsSet w p l) (hq : IsSet w q m) (hl : l.length + m.length ≤ 1000000) (hbl : Bd l) (hbm : Bd m) :
    Calls Tryz.prog 18 #[p, q] w fun e w' => ∃ p l', e = .returned p ∧ l'.Perm (l ++ m) ∧ l'.Pairwise (fun a b : Int × Int => a.1 ≤ b.1) ∧ IsSet w' p (mergeF l') ∧ Below w.heap.size w w' := by
  obtain ⟨pa, va, rfl, h1, hA⟩ := hp
  obtain ⟨pb, vb, rfl, h2, hB⟩ := hq
  have HA := Lib.hid hA
  have HB := Lib.hid hB
  have HBD := Lib.hid (Bd.append hbl hbm)
  have y1 : pa < w.heap.size := cell_lt h1
  have y2 : pb < w.heap.size := cell_lt h2
  clear hA hB hbl hbm
  go_enter Tryz.func18, Tryz.ntmps18
  go_wp2
  go_region_law ((first
    | (go_simp; go_at_call 33; refine (clone_any va l _ (HA.out.below (Below.refl _ _).drew) (by omega)).mono ?_; rintro e w1 ⟨v1, rfl, hown, hb1⟩; have hb1 : Below w.heap.size w w1 := ((Below.refl _ w).drew).trans hb1; have hown1 : Hid (w1.ownsRow w.heap.size 39 2 v1 l.length (flat l)) := hown; have HB1 := Lib.hid (HB.out.below hb1); have h2' := (hb1.cell (p := ⟨pb, 0, none⟩) y2).trans h2; have hbase1 : w.heap.size ≤ w1.heap.size := hb1.size; clear hown)
    | (go_simp; go_at_call 32; refine (tidy_any _ _ w.heap.size _ HBD.out hown2'.out hbase2 (by simp; omega)).mono ?_; rintro e w3 ⟨p3, l3, rfl, hp3, hs3, hset3, hb3⟩; have Hp3 := Lib.hid hp3; have Hs3 := Lib.hid hs3; have Hset3 := Lib.hid hset3; clear hp3 hs3 hset3)
    | (refine step_append_spans ?_ (.tmp 9) (.tmp 13) ?_ w.heap.size v1 l m ?_ ?_ vb ?_ ?_ hl ?_ ?_; (· rfl); (· rfl); (· rfl); (· exact hown1.out); (· rfl); (· exact HB1.out); (· exact hbase1); intro v2 w2 hown2 hgrow; have hown2' := Lib.hid hown2; have hb2 := hb1.grown hgrow hbase1 (fun k hk => (hown1.out.lt k hk).1); have hbase2 : w.heap.size ≤ w2.heap.size := Nat.le_trans hbase1 hgrow.size; clear hown2)))
  all_goals (go_wp2_with fail)
  all_goals (go_ret; exact ⟨p3, l3, rfl, Hp3.out, Hs3.out, Hset3.out, hb2.trans hb3⟩)

theorem notF_bd (l : List (Int × Int)) (hl : Bd l) : ∀ f : Int, 0 ≤ f → Bd (notF f l) := by
  induction l with
  | nil =>
    intro f hf x hx
    rw [notF] at hx
    split at hx
    · simp at hx; subst hx; dsimp only; omega
    · simp at hx
  | cons y l ih =>
    intro f hf x hx
    rw [notF] at hx
    have hy := hl y (by simp)
    rcases List.mem_append.1 hx with hx | hx
    · split at hx
      · simp at hx; subst hx
        dsimp only
        unfold lastP
        split
        · omega
        · split <;> omega
      · simp at hx
    · refine ih (fun z hz => hl z (by simp [hz])) _ ?_ x hx
      unfold nextP
      split
      · omega
      · split <;> omega
theorem notF_len (l : List (Int × Int)) : ∀ f : Int, (notF f l).length ≤ l.length + 1 := by
  induction l with
  | nil => intro f; rw [notF]; split <;> simp
  | cons y l ih => intro f; rw [notF]; have := ih (nextP y.2); split <;> simp <;> omega

set_option maxRecDepth 100000 in
set_option maxHeartbeats 1000000 in
theorem less_any (p q : Value) (l m : List (Int × Int)) (w : World) (hp : IsSet w p l) (hq : IsSet w q m) (hl : l.length ≤ 99000) (hm : m.length ≤ 99000) (hbm : Bd m) :
    Calls Tryz.prog 22 #[p, q] w fun e w' => ∃ v, e = .returned v ∧ IsSet w' v (bothF l (notF 0 m)) ∧ Below w.heap.size w w' := by
  have hn := not_any q m w hq (by omega) hbm
  have HP := Lib.hid hp
  have hlen := notF_len m 0
  clear hq hp
  go_enter Tryz.func22, Tryz.ntmps22
  go_wp2_with fail
  refine hn.mono ?_
  rintro e w1 ⟨v1, rfl, hs, hb1⟩
  have h2 := both_any p v1 l (notF 0 m) w1 (HP.out.below hb1) hs (by omega) (by omega)
  clear hn hs
  go_wp2_with fail
  refine h2.mono ?_
  rintro e w2 ⟨v2, rfl, hs, hb2⟩
  have HS := Lib.hid hs
  clear h2 hs
  go_wp2
  go_ret
  exact ⟨v2, rfl, HS.out, hb1.trans (hb2.mono hb1.size)⟩

end Go.Proofs.YtmbjjheaddhmeaaGreatDoor
