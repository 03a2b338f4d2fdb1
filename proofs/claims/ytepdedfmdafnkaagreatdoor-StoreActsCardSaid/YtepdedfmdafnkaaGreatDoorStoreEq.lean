/- store: Same, by maps.Equal; Copy, by maps.Clone. -/
import Derived.Test.YtepdedfmdafnkaaGreatDoorStoreBytes
import Derived.Test.YtepdedfmdafnkaaGreatDoorStoreDrop
import Derived.Test.YtepdedfmdafnkaaGreatDoorIter
import Derived.Maps.OwnSet
import Derived.Maps.RangeWalk
import Derived.Deep.RegionHeld3
namespace Go.Proofs.YtepdedfmdafnkaaGreatDoor
open Go.RowKit Go.Maps Go.Sort

theorem rising_name {l : List Ob} (h : Rising l) {a b : Ob} (ha : a ∈ l) (hb : b ∈ l) (hn : a.name = b.name) : a = b := by
  have h1 := getO_of_mem h ha
  rw [hn, getO_of_mem h hb] at h1
  exact (Option.some.inj h1).symm
theorem sub_len : ∀ {l m : List Ob}, Rising l → Rising m → (∀ o ∈ l, o ∈ m) → l.length ≤ m.length
  | [], _, _, _, _ => Nat.zero_le _
  | a :: r, [], _, _, h => absurd (h a (List.mem_cons_self ..)) (by simp)
  | a :: r, b :: s, hl, hm, h => by
    have ha := (List.pairwise_cons.1 hl).1
    have hb := (List.pairwise_cons.1 hm).1
    have hne : ∀ o ∈ r, o ≠ b → o ∈ s := fun o ho hob => (List.mem_cons.1 (h o (List.mem_cons_of_mem _ ho))).resolve_left hob
    by_cases e : a = b
    · subst e
      have := sub_len (List.pairwise_cons.1 hl).2 (List.pairwise_cons.1 hm).2 (fun o ho => hne o ho (fun e => by have := ha o ho; rw [e, bef_irr] at this; cases this))
      simp only [List.length_cons]; omega
    · have has : a ∈ s := (List.mem_cons.1 (h a (List.mem_cons_self ..))).resolve_left e
      have hba := hb a has
      have := sub_len hl (List.pairwise_cons.1 hm).2 (fun o ho => by
        rcases List.mem_cons.1 ho with rfl | ho
        · exact has
        · refine hne o ho (fun e => ?_)
          have h1 := ha o ho
          rw [e] at h1
          have := bef_trans h1 hba
          rw [bef_irr] at this; cases this)
      simp only [List.length_cons] at this ⊢; omega
  termination_by l m => l.length + m.length
theorem rising_eq : ∀ {l m : List Ob}, Rising l → Rising m → l.length = m.length → (∀ o ∈ l, o ∈ m) → l = m
  | [], [], _, _, _, _ => rfl
  | [], _ :: _, _, _, h, _ => by cases h
  | _ :: _, [], _, _, h, _ => by cases h
  | a :: r, b :: s, hl, hm, hlen, h => by
    have ha := (List.pairwise_cons.1 hl).1
    have hb := (List.pairwise_cons.1 hm).1
    have e : a = b := by
      by_cases e : a = b
      · exact e
      have has : a ∈ s := (List.mem_cons.1 (h a (List.mem_cons_self ..))).resolve_left e
      have hba := hb a has
      have := sub_len hl (List.pairwise_cons.1 hm).2 (fun o ho => by
        rcases List.mem_cons.1 ho with rfl | ho
        · exact has
        · refine (List.mem_cons.1 (h o (List.mem_cons_of_mem _ ho))).resolve_left (fun e => ?_)
          have h1 := ha o ho
          rw [e] at h1
          have := bef_trans h1 hba
          rw [bef_irr] at this; cases this)
      simp only [List.length_cons] at this hlen; omega
    subst e
    have := rising_eq (List.pairwise_cons.1 hl).2 (List.pairwise_cons.1 hm).2 (by simpa using hlen) (fun o ho => (List.mem_cons.1 (h o (List.mem_cons_of_mem _ ho))).resolve_left (fun e => by have h1 := ha o ho; rw [e, bef_irr] at h1; cases h1))
    rw [this]

theorem look_own {w : World} {b n : Nat} {l : List Ob} (h : w.ownsMap Tryz.prog 9 objElem b n (mapD l)) (x : Str) (hx : x.length ≤ 100000) :
    (Instr.lookup 76 (.map (some b)) (S x) true).run Tryz.prog w = .ok (.tuple #[obV (getO l x), .bool (getO l x).isSome]) w := by
  obtain ⟨v, ps, hrun, hv⟩ := h.look_ok (string_keyed Tryz.underlying9) Tryz.underlying76 (zeroOb w) (zd := obT [] 0) (zp := []) (objElem_mk (t := []) (by decide)) (keyStr hx)
  rw [hrun, has_mapD]
  rw [at_mapD] at hv
  cases hg : getO l x with
  | none => rw [hg] at hv; rw [objElem_inv hv]; rfl
  | some o => rw [hg] at hv; rw [objElem_inv hv]; rfl

theorem owns_kept {w w' : World} {b n : Nat} {l : List Ob} {row : Option Nat} (h : w.ownsMap Tryz.prog 9 objElem b n (mapD l)) (hg : w.grownBy w' row) (hr : some b ≠ row) : w'.ownsMap Tryz.prog 9 objElem b n (mapD l) := h.kept hg hr

set_option maxHeartbeats 4000000 in
set_option maxRecDepth 100000 in
theorem equalMaps (b1 b2 n1 n2 : Nat) (l1 l2 : List Ob) (w : World) (h1 : w.ownsMap Tryz.prog 9 objElem b1 n1 (mapD l1)) (h2 : w.ownsMap Tryz.prog 9 objElem b2 n2 (mapD l2)) (hr1 : Rising l1) (hr2 : Rising l2) (hn : ∀ o ∈ l1, o.name.length ≤ 100000) :
    Calls Tryz.prog 47 #[.map (some b1), .map (some b2)] w fun e w' => e = .returned (.bool (decide (l1 = l2))) ∧ Below w.heap.size w w' := by
  have e1 := fun ty => h1.len Tryz.underlying76 ty
  have e2 := fun ty => h2.len Tryz.underlying76 ty
  rw [size_mapD] at e1 e2
  have hK := string_keyed Tryz.underlying9
  by_cases hsz : l1.length = l2.length
  · generalize hres : decide (l1 = l2) = res
    have RES := Lib.hid hres
    have HSZ := Lib.hid hsz
    have hne : ((l1.length : Int) != (l2.length : Int)) = false := by simp [hsz]
    clear hres hsz
    go_enter Tryz.func47, Tryz.ntmps47
    go_wp2_with (first
      | (at_range; refine wpList_range_own _ rfl _ 76 rfl 9 81 hK Tryz.underlying76 objElem b1 n1 _ rfl h1 ?_; intro w0 hrg0 hg0 hs0)
      | go_in)
    go_frame
    go_loopw [6] (fun _ wr => ∃ (left : Lit → Bool) (cnt : Nat), wr.ranges Tryz.prog 9 objElem b1 w.heap.size n1 (mapD l1) left cnt ∧ wr.ownsMap Tryz.prog 9 objElem b2 n2 (mapD l2) ∧ w.grownBy wr none ∧ Hid (∀ o ∈ l1, left (.string o.name) = false → getO l2 o.name = some o))
      (fun _ wr => wr.rangeLeft b1 w.heap.size)
    case atStart =>
      refine ⟨_, _, hrg0, h2.kept hg0 (by simp), hg0, Lib.hid fun o ho hl => ?_⟩
      rw [has_mapD, getO_of_mem hr1 ho] at hl
      cases hl
    case round =>
      obtain ⟨left, cnt, hrg, h2r, hgw, G⟩ := hrel
      go_wp2_with (first
        | (at_next; refine wpList_next_ranges _ rfl _ rfl 9 hK objElem encStr (fun c : Str × Int => .agg #[S c.1, .int .i64 c.2]) (fun key kl hk => by obtain ⟨x, hx, _⟩ := Maps.keyOf_str Tryz.underlying9 hk; exact ⟨x, hx⟩) (fun v y hv => by obtain ⟨c, rfl, _⟩ := objElem_inv2 hv; exact ⟨c, rfl⟩) b1 w.heap.size n1 _ _ _ rfl hrg ?_ ?_)
        | go_in)
      · intro _ hl0
        go_wp2
        go_ret
        refine ⟨ret_bool ?_, (Below.refl _ w).grown hgw (Nat.le_refl _) (fun k e => by cases e)⟩
        rw [← RES.out]
        exact (decide_eq_true (rising_eq hr1 hr2 HSZ.out fun o ho => (getO_mem (G.out o ho (hl0 _))).1)).symm
      · intro x ct cd kl yd yp w1 cnt1 hkey hlk hv hat hrg1 hlt hg1 hs1 hen
        obtain ⟨x', ex, rfl, _⟩ := Maps.keyOf_str Tryz.underlying9 hkey
        obtain rfl : x = x' := encStr_inj ex
        obtain ⟨⟨ct', cd'⟩, ec, ez⟩ := objElem_inv2 hv
        have h1' : S ct = S ct' ∧ Value.int .i64 cd = Value.int .i64 cd' := by simpa using ec
        obtain rfl : ct = ct' := encStr_inj h1'.1
        obtain rfl : cd = cd' := by simpa using h1'.2
        clear h1' ec
        obtain rfl : yd = obT ct cd := (Prod.mk.inj ez).1
        have hgo := got_of_at hat
        have hgw1 : w.grownBy w1 none := hgw.andThen hg1 (fun j hj => by cases hj; exact Or.inl (Nat.le_refl _))
        have h2w1 := h2r.kept hg1 (fun e => by have := Option.some.inj e; have := h2.lt; omega)
        have hw3 : ∀ o, (w1.alloc o).ownsMap Tryz.prog 9 objElem b2 n2 (mapD l2) := fun o => h2w1.alloc o
        have hl := look_own (hw3 (.cells #[S ct, .int .i64 cd] 81)) x (hn ⟨x, ct, cd⟩ (getO_mem hgo).1)
        have hbb : ∀ o o', Below w.heap.size w ((w1.alloc o).alloc o') := fun o o' => ((((Below.refl _ w).grown hgw1 (Nat.le_refl _) (fun k e => by cases e)).alloc hgw1.size o).alloc (by have := hgw1.size; simp; omega) o')
        clear hs1 hw3
        cases hg2 : getO l2 x with
        | none =>
          rw [hg2] at hl
          simp only [obV, Option.isSome_none] at hl
          go_wp2
          go_ret
          refine ⟨ret_bool ?_, hbb _ _⟩
          rw [← RES.out]
          exact (decide_eq_false fun e => by rw [e, hg2] at hgo; cases hgo).symm
        | some o2 =>
          rw [hg2] at hl
          simp only [obV, Option.isSome_some] at hl
          obtain ⟨n2', t2, d2⟩ := o2
          obtain rfl : n2' = x := (getO_mem hg2).2
          go_wp2
          · rename_i he1 he2
            subst he1 he2
            have hrg3 := (hrg1.of_walks (KeepsWalks.alloc w1 (.cells #[S ct, .int .i64 cd] 81))).of_walks (KeepsWalks.alloc _ (.cells #[S ct, .int .i64 cd] 81))
            refine ⟨⟨_, cnt1, hrg3, (h2w1.alloc _).alloc _, (hgw1.andThen (World.grownBy_alloc _ _ none) (fun j hj => by cases hj)).andThen (World.grownBy_alloc _ _ none) (fun j hj => by cases hj), Lib.hid fun o ho hl' => ?_⟩, ?_⟩
            · simp only [Bool.and_eq_false_iff, Bool.not_eq_false'] at hl'
              rcases hl' with hl' | hl'
              · exact G.out o ho hl'
              · have hon : o.name = n2' := by simpa [Lit.sameKey] using hl'
                have := rising_name hr1 ho (getO_mem hgo).1 hon
                rw [this]
                exact hg2
            · rw [hrg3.left_eq, hrg.left_eq]; exact hlt
          · rename_i he1 he2
            go_ret
            refine ⟨ret_bool ?_, hbb _ _⟩
            rw [← RES.out]
            exact (decide_eq_false fun e => by rw [e, hg2] at hgo; cases hgo; exact he2 rfl).symm
          · rename_i he1
            go_ret
            refine ⟨ret_bool ?_, hbb _ _⟩
            rw [← RES.out]
            exact (decide_eq_false fun e => by rw [e, hg2] at hgo; cases hgo; exact he1 rfl).symm
  · have hne : ((l1.length : Int) != (l2.length : Int)) = true := by simp; omega
    go_enter Tryz.func47, Tryz.ntmps47
    go_wp2_with fail
    go_ret
    exact ⟨ret_bool (decide_eq_false fun e => hsz (by rw [e])).symm, Below.refl _ _⟩

set_option maxRecDepth 20000 in
set_option maxHeartbeats 8000000 in
/-- Two stores that have the same. -/
theorem same_true (sb mb sb' mb' : Nat) (a b : St) (w : World) (ha : StoreAt w sb mb a) (hb : StoreAt w sb' mb' b) (e0 : a.objs = b.objs) (e1 : a.head = b.head) (e2 : a.day = b.day) (e3 : a.off = b.off) :
    Calls Tryz.prog 13 #[stP sb, stP sb'] w fun e w' => e = .returned (.bool true) ∧ Below w.heap.size w w' := by
  have c0 := ha.c0; have c1 := ha.c1; have c2 := ha.c2; have c3 := ha.c3
  have d0 := hb.c0; have d1 := hb.c1; have d2 := hb.c2; have d3 := hb.c3
  have HA := Lib.hid ha; have HB := Lib.hid hb
  have hn : ∀ o ∈ a.objs, o.name.length ≤ 100000 := fun o ho => Nat.le_trans (ha.ok.nam o ho) (by omega)
  have A0 := Lib.hid (HA.out.below (Bdn (Below.refl w.heap.size w) 1)); have B0 := Lib.hid (HB.out.below (Bdn (Below.refl w.heap.size w) 1))
  have HQ := Lib.hid (decide_eq_true e0)
  have f1 : (a.head == b.head) = true := by simpa using e1
  have f2 : (a.day == b.day) = true := by simpa using e2
  have f3 : (a.off == b.off) = true := by simpa using e3
  clear ha hb e0 e1 e2 e3
  go_enter Tryz.func13, Tryz.ntmps13
  go_wp2_with fail
  first
  | go_region_held3 (fun w' => w'.cell? ⟨sb, 0, none⟩ = some (.map (some mb)) ∧ w'.cell? ⟨sb', 0, none⟩ = some (.map (some mb')) ∧ w'.cell? ⟨sb, 1, none⟩ = some (S a.head) ∧ w'.cell? ⟨sb, 2, none⟩ = some (.int .i64 a.day) ∧ w'.cell? ⟨sb, 3, none⟩ = some (.bool a.off) ∧ w'.cell? ⟨sb', 1, none⟩ = some (S b.head) ∧ w'.cell? ⟨sb', 2, none⟩ = some (.int .i64 b.day) ∧ w'.cell? ⟨sb', 3, none⟩ = some (.bool b.off)) (exact ⟨c0, d0, c1, c2, c3, d1, d2, d3⟩) (first | (go_at_call 47; refine (equalMaps mb mb' _ _ a.objs b.objs _ A0.out.own B0.out.own A0.out.ok.ris B0.out.ok.ris hn).mono ?_; rintro e w1 ⟨rfl, hb1⟩; rw [HQ.out]; have A1 := A0.out.below hb1; have B1 := B0.out.below hb1; clear c0 c1 c2 c3 d0 d1 d2 d3; have c0 := A1.c0; have d0 := B1.c0; have c1 := A1.c1; have c2 := A1.c2; have c3 := A1.c3; have d1 := B1.c1; have d2 := B1.c2; have d3 := B1.c3; have HBB := Lib.hid (Below.trans (Bdn (Below.refl w.heap.size w) 1) hb1); clear A1 B1 hb1))
  | fail
  all_goals
    go_wp2_with fail
    go_ret
    exact ⟨rfl, HBB.out⟩
theorem same_nil (sb : Nat) (w : World) :
    Calls Tryz.prog 13 #[stP sb, .pointer none] w fun e w' => e = .returned (.bool false) ∧ w = w' := by
  go_enter Tryz.func13, Tryz.ntmps13
  go_wp2_with fail
  go_ret
  exact ⟨rfl, rfl⟩
theorem same_nils (w : World) :
    Calls Tryz.prog 13 #[.pointer none, .pointer none] w fun e w' => e = .returned (.bool true) ∧ w = w' := by
  go_enter Tryz.func13, Tryz.ntmps13
  go_wp2_with fail
  go_ret
  exact ⟨rfl, rfl⟩

end Go.Proofs.YtepdedfmdafnkaaGreatDoor
