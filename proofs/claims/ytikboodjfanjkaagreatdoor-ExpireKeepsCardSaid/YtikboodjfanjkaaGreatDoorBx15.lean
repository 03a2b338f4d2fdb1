/- store: Same, by maps.Equal; Copy, by maps.Clone. store: Copy, by maps.Clone. Acts on a store: in memory; LongActs. coded and faulted of the packages of statements. deedboxlaw2.stored: the walk. A store and its model, side by side. deedboxlaw2.Do: an act on a store and on its model. Printed by gen_do.py. A slice that came in, of whatever elements; texts; files. Parameters that came in: a number, a text, a byte, a file by value; lists of five and six parameters. -/
import Derived.Test.YtikboodjfanjkaaGreatDoorBx13
import Derived.Test.YtikboodjfanjkaaGreatDoorBx12
import Derived.Maps.OwnSet
import Derived.Maps.RangeWalk
import Derived.Deep.RegionHeld3
import Derived.Test.YtikboodjfanjkaaGreatDoorBx2
import Derived.Deep.RegionWith
import Derived.Test.YtikboodjfanjkaaGreatDoorBx14
import Derived.Deep.CutBlock
import Derived.Deep.DeepCutAuto
import Derived.Test.YtikboodjfanjkaaGreatDoorBx11
import Derived.Test.YtikboodjfanjkaaGreatDoorBx4
namespace Go.Proofs.YtikboodjfanjkaaGreatDoor
open Go.RowKit Go.Maps Go.Sort

theorem rising_name {l : List Ob} (h : Rising l) {a b : Ob} (ha : a ∈ l) (hb : b ∈ l) (hn : a.name = b.name) : a = b := by
  have h1 := getO_of_mem h ha
  rw [hn, getO_of_mem h hb] at h1
  exact (Option.some.inj h1).symm
theorem sub_len : ∀ {l m : List Ob}, Rising l → Rising m → (∀ o ∈ l, o ∈ m) → l.length ≤ m.length
  | [], _, _, _, _ => Nat.zero_le _
  | a :: r, [], _, _, h => absurd (h a (List.mem_cons_self ..)) (by simp)
  | a :: r, b :: s, hl, hm, h => by
    have ha := (List.pairwise_cons.1 hl).1
    have hb := (List.pairwise_cons.1 hm).1
    have hne : ∀ o ∈ r, o ≠ b → o ∈ s := fun o ho hob => (List.mem_cons.1 (h o (List.mem_cons_of_mem _ ho))).resolve_left hob
    by_cases e : a = b
    · subst e
      have := sub_len (List.pairwise_cons.1 hl).2 (List.pairwise_cons.1 hm).2 (fun o ho => hne o ho (fun e => by have := ha o ho; rw [e, bef_irr] at this; cases this))
      simp only [List.length_cons]; omega
    · have has : a ∈ s := (List.mem_cons.1 (h a (List.mem_cons_self ..))).resolve_left e
      have hba := hb a has
      have := sub_len hl (List.pairwise_cons.1 hm).2 (fun o ho => by
        rcases List.mem_cons.1 ho with rfl | ho
        · exact has
        · refine hne o ho (fun e => ?_)
          have h1 := ha o ho
          rw [e] at h1
          have := bef_trans h1 hba
          rw [bef_irr] at this; cases this)
      simp only [List.length_cons] at this ⊢; omega
  termination_by l m => l.length + m.length
theorem rising_eq : ∀ {l m : List Ob}, Rising l → Rising m → l.length = m.length → (∀ o ∈ l, o ∈ m) → l = m
  | [], [], _, _, _, _ => rfl
  | [], _ :: _, _, _, h, _ => by cases h
  | _ :: _, [], _, _, h, _ => by cases h
  | a :: r, b :: s, hl, hm, hlen, h => by
    have ha := (List.pairwise_cons.1 hl).1
    have hb := (List.pairwise_cons.1 hm).1
    have e : a = b := by
      by_cases e : a = b
      · exact e
      have has : a ∈ s := (List.mem_cons.1 (h a (List.mem_cons_self ..))).resolve_left e
      have hba := hb a has
      have := sub_len hl (List.pairwise_cons.1 hm).2 (fun o ho => by
        rcases List.mem_cons.1 ho with rfl | ho
        · exact has
        · refine (List.mem_cons.1 (h o (List.mem_cons_of_mem _ ho))).resolve_left (fun e => ?_)
          have h1 := ha o ho
          rw [e] at h1
          have := bef_trans h1 hba
          rw [bef_irr] at this; cases this)
      simp only [List.length_cons] at this hlen; omega
    subst e
    have := rising_eq (List.pairwise_cons.1 hl).2 (List.pairwise_cons.1 hm).2 (by simpa using hlen) (fun o ho => (List.mem_cons.1 (h o (List.mem_cons_of_mem _ ho))).resolve_left (fun e => by have h1 := ha o ho; rw [e, bef_irr] at h1; cases h1))
    rw [this]

theorem look_own {w : World} {b n : Nat} {l : List Ob} (h : w.ownsMap Tryz.prog 9 objElem b n (mapD l)) (x : Str) (hx : x.length ≤ 100000) :
    (Instr.lookup 98 (.map (some b)) (S x) true).run Tryz.prog w = .ok (.tuple #[obV (getO l x), .bool (getO l x).isSome]) w := by
  obtain ⟨v, ps, hrun, hv⟩ := h.look_ok (string_keyed Tryz.underlying9) Tryz.underlying98 (zeroOb w) (zd := obT [] 0) (zp := []) (objElem_mk (t := []) (by decide)) (keyStr hx)
  rw [hrun, has_mapD]
  rw [at_mapD] at hv
  cases hg : getO l x with
  | none => rw [hg] at hv; rw [objElem_inv hv]; rfl
  | some o => rw [hg] at hv; rw [objElem_inv hv]; rfl

theorem owns_kept {w w' : World} {b n : Nat} {l : List Ob} {row : Option Nat} (h : w.ownsMap Tryz.prog 9 objElem b n (mapD l)) (hg : w.grownBy w' row) (hr : some b ≠ row) : w'.ownsMap Tryz.prog 9 objElem b n (mapD l) := h.kept hg hr

set_option maxHeartbeats 4000000 in
set_option maxRecDepth 100000 in
theorem equalMaps (b1 b2 n1 n2 : Nat) (l1 l2 : List Ob) (w : World) (h1 : w.ownsMap Tryz.prog 9 objElem b1 n1 (mapD l1)) (h2 : w.ownsMap Tryz.prog 9 objElem b2 n2 (mapD l2)) (hr1 : Rising l1) (hr2 : Rising l2) (hn : ∀ o ∈ l1, o.name.length ≤ 100000) :
    Calls Tryz.prog 133 #[.map (some b1), .map (some b2)] w fun e w' => e = .returned (.bool (decide (l1 = l2))) ∧ Below w.heap.size w w' := by
  have e1 := fun ty => h1.len Tryz.underlying98 ty
  have e2 := fun ty => h2.len Tryz.underlying98 ty
  rw [size_mapD] at e1 e2
  have hK := string_keyed Tryz.underlying9
  by_cases hsz : l1.length = l2.length
  · generalize hres : decide (l1 = l2) = res
    have RES := Lib.hid hres
    have HSZ := Lib.hid hsz
    have hne : ((l1.length : Int) != (l2.length : Int)) = false := by simp [hsz]
    clear hres hsz
    go_enter Tryz.func133, Tryz.ntmps133
    go_wp2_with (first
      | (at_range; refine wpList_range_own _ rfl _ 98 rfl 9 127 hK Tryz.underlying98 objElem b1 n1 _ rfl h1 ?_; intro w0 hrg0 hg0 hs0)
      | go_in)
    go_frame
    go_loopw [6] (fun _ wr => ∃ (left : Lit → Bool) (cnt : Nat), wr.ranges Tryz.prog 9 objElem b1 w.heap.size n1 (mapD l1) left cnt ∧ wr.ownsMap Tryz.prog 9 objElem b2 n2 (mapD l2) ∧ w.grownBy wr none ∧ Hid (∀ o ∈ l1, left (.string o.name) = false → getO l2 o.name = some o))
      (fun _ wr => wr.rangeLeft b1 w.heap.size)
    case atStart =>
      refine ⟨_, _, hrg0, h2.kept hg0 (by simp), hg0, Lib.hid fun o ho hl => ?_⟩
      rw [has_mapD, getO_of_mem hr1 ho] at hl
      cases hl
    case round =>
      obtain ⟨left, cnt, hrg, h2r, hgw, G⟩ := hrel
      go_wp2_with (first
        | (at_next; refine wpList_next_ranges _ rfl _ rfl 9 hK objElem encStr (fun c : Str × Int => .agg #[S c.1, .int .i64 c.2]) (fun key kl hk => by obtain ⟨x, hx, _⟩ := Maps.keyOf_str Tryz.underlying9 hk; exact ⟨x, hx⟩) (fun v y hv => by obtain ⟨c, rfl, _⟩ := objElem_inv2 hv; exact ⟨c, rfl⟩) b1 w.heap.size n1 _ _ _ rfl hrg ?_ ?_)
        | go_in)
      · intro _ hl0
        go_wp2
        go_ret
        refine ⟨ret_bool ?_, (Below.refl _ w).grown hgw (Nat.le_refl _) (fun k e => by cases e)⟩
        rw [← RES.out]
        exact (decide_eq_true (rising_eq hr1 hr2 HSZ.out fun o ho => (getO_mem (G.out o ho (hl0 _))).1)).symm
      · intro x ct cd kl yd yp w1 cnt1 hkey hlk hv hat hrg1 hlt hg1 hs1 hen
        obtain ⟨x', ex, rfl, _⟩ := Maps.keyOf_str Tryz.underlying9 hkey
        obtain rfl : x = x' := encStr_inj ex
        obtain ⟨⟨ct', cd'⟩, ec, ez⟩ := objElem_inv2 hv
        have h1' : S ct = S ct' ∧ Value.int .i64 cd = Value.int .i64 cd' := by simpa using ec
        obtain rfl : ct = ct' := encStr_inj h1'.1
        obtain rfl : cd = cd' := by simpa using h1'.2
        clear h1' ec
        obtain rfl : yd = obT ct cd := (Prod.mk.inj ez).1
        have hgo := got_of_at hat
        have hgw1 : w.grownBy w1 none := hgw.andThen hg1 (fun j hj => by cases hj; exact Or.inl (Nat.le_refl _))
        have h2w1 := h2r.kept hg1 (fun e => by have := Option.some.inj e; have := h2.lt; omega)
        have hw3 : ∀ o, (w1.alloc o).ownsMap Tryz.prog 9 objElem b2 n2 (mapD l2) := fun o => h2w1.alloc o
        have hl := look_own (hw3 (.cells #[S ct, .int .i64 cd] 127)) x (hn ⟨x, ct, cd⟩ (getO_mem hgo).1)
        have hbb : ∀ o o', Below w.heap.size w ((w1.alloc o).alloc o') := fun o o' => ((((Below.refl _ w).grown hgw1 (Nat.le_refl _) (fun k e => by cases e)).alloc hgw1.size o).alloc (by have := hgw1.size; simp; omega) o')
        clear hs1 hw3
        cases hg2 : getO l2 x with
        | none =>
          rw [hg2] at hl
          simp only [obV, Option.isSome_none] at hl
          go_wp2
          go_ret
          refine ⟨ret_bool ?_, hbb _ _⟩
          rw [← RES.out]
          exact (decide_eq_false fun e => by rw [e, hg2] at hgo; cases hgo).symm
        | some o2 =>
          rw [hg2] at hl
          simp only [obV, Option.isSome_some] at hl
          obtain ⟨n2', t2, d2⟩ := o2
          obtain rfl : n2' = x := (getO_mem hg2).2
          go_wp2
          · rename_i he1 he2
            subst he1 he2
            have hrg3 := (hrg1.of_walks (KeepsWalks.alloc w1 (.cells #[S ct, .int .i64 cd] 127))).of_walks (KeepsWalks.alloc _ (.cells #[S ct, .int .i64 cd] 127))
            refine ⟨⟨_, cnt1, hrg3, (h2w1.alloc _).alloc _, (hgw1.andThen (World.grownBy_alloc _ _ none) (fun j hj => by cases hj)).andThen (World.grownBy_alloc _ _ none) (fun j hj => by cases hj), Lib.hid fun o ho hl' => ?_⟩, ?_⟩
            · simp only [Bool.and_eq_false_iff, Bool.not_eq_false'] at hl'
              rcases hl' with hl' | hl'
              · exact G.out o ho hl'
              · have hon : o.name = n2' := by simpa [Lit.sameKey] using hl'
                have := rising_name hr1 ho (getO_mem hgo).1 hon
                rw [this]
                exact hg2
            · rw [hrg3.left_eq, hrg.left_eq]; exact hlt
          · rename_i he1 he2
            go_ret
            refine ⟨ret_bool ?_, hbb _ _⟩
            rw [← RES.out]
            exact (decide_eq_false fun e => by rw [e, hg2] at hgo; cases hgo; exact he2 rfl).symm
          · rename_i he1
            go_ret
            refine ⟨ret_bool ?_, hbb _ _⟩
            rw [← RES.out]
            exact (decide_eq_false fun e => by rw [e, hg2] at hgo; cases hgo; exact he1 rfl).symm
  · have hne : ((l1.length : Int) != (l2.length : Int)) = true := by simp; omega
    go_enter Tryz.func133, Tryz.ntmps133
    go_wp2_with fail
    go_ret
    exact ⟨ret_bool (decide_eq_false fun e => hsz (by rw [e])).symm, Below.refl _ _⟩

set_option maxRecDepth 20000 in
set_option maxHeartbeats 8000000 in
/-- Two stores that have the same. -/
theorem same_true (sb mb sb' mb' : Nat) (a b : St) (w : World) (ha : StoreAt w sb mb a) (hb : StoreAt w sb' mb' b) (e0 : a.objs = b.objs) (e1 : a.head = b.head) (e2 : a.day = b.day) (e3 : a.off = b.off) :
    Calls Tryz.prog 80 #[stP sb, stP sb'] w fun e w' => e = .returned (.bool true) ∧ Below w.heap.size w w' := by
  have c0 := ha.c0; have c1 := ha.c1; have c2 := ha.c2; have c3 := ha.c3
  have d0 := hb.c0; have d1 := hb.c1; have d2 := hb.c2; have d3 := hb.c3
  have HA := Lib.hid ha; have HB := Lib.hid hb
  have hn : ∀ o ∈ a.objs, o.name.length ≤ 100000 := fun o ho => Nat.le_trans (ha.ok.nam o ho) (by omega)
  have A0 := Lib.hid (HA.out.below (Bdn (Below.refl w.heap.size w) 1)); have B0 := Lib.hid (HB.out.below (Bdn (Below.refl w.heap.size w) 1))
  have HQ := Lib.hid (decide_eq_true e0)
  have f1 : (a.head == b.head) = true := by simpa using e1
  have f2 : (a.day == b.day) = true := by simpa using e2
  have f3 : (a.off == b.off) = true := by simpa using e3
  clear ha hb e0 e1 e2 e3
  go_enter Tryz.func80, Tryz.ntmps80
  go_wp2_with fail
  first
  | go_region_held3 (fun w' => w'.cell? ⟨sb, 0, none⟩ = some (.map (some mb)) ∧ w'.cell? ⟨sb', 0, none⟩ = some (.map (some mb')) ∧ w'.cell? ⟨sb, 1, none⟩ = some (S a.head) ∧ w'.cell? ⟨sb, 2, none⟩ = some (.int .i64 a.day) ∧ w'.cell? ⟨sb, 3, none⟩ = some (.bool a.off) ∧ w'.cell? ⟨sb', 1, none⟩ = some (S b.head) ∧ w'.cell? ⟨sb', 2, none⟩ = some (.int .i64 b.day) ∧ w'.cell? ⟨sb', 3, none⟩ = some (.bool b.off)) (exact ⟨c0, d0, c1, c2, c3, d1, d2, d3⟩) (first | (go_at_call 133; refine (equalMaps mb mb' _ _ a.objs b.objs _ A0.out.own B0.out.own A0.out.ok.ris B0.out.ok.ris hn).mono ?_; rintro e w1 ⟨rfl, hb1⟩; rw [HQ.out]; have A1 := A0.out.below hb1; have B1 := B0.out.below hb1; clear c0 c1 c2 c3 d0 d1 d2 d3; have c0 := A1.c0; have d0 := B1.c0; have c1 := A1.c1; have c2 := A1.c2; have c3 := A1.c3; have d1 := B1.c1; have d2 := B1.c2; have d3 := B1.c3; have HBB := Lib.hid (Below.trans (Bdn (Below.refl w.heap.size w) 1) hb1); clear A1 B1 hb1))
  | fail
  all_goals
    go_wp2_with fail
    go_ret
    exact ⟨rfl, HBB.out⟩
theorem same_nil (sb : Nat) (w : World) :
    Calls Tryz.prog 80 #[stP sb, .pointer none] w fun e w' => e = .returned (.bool false) ∧ w = w' := by
  go_enter Tryz.func80, Tryz.ntmps80
  go_wp2_with fail
  go_ret
  exact ⟨rfl, rfl⟩
theorem same_nils (w : World) :
    Calls Tryz.prog 80 #[.pointer none, .pointer none] w fun e w' => e = .returned (.bool true) ∧ w = w' := by
  go_enter Tryz.func80, Tryz.ntmps80
  go_wp2_with fail
  go_ret
  exact ⟨rfl, rfl⟩

end Go.Proofs.YtikboodjfanjkaaGreatDoor
namespace Go.Proofs.YtikboodjfanjkaaGreatDoor
open Go.RowKit Go.Maps Go.Sort

theorem cell_al {w : World} {o : Obj} {a : Addr} {v : Value} (h : w.cell? a = some v) : (w.alloc o).cell? a = some v := (((Below.refl _ w).alloc (Nat.le_refl _) o).cell (World.block_lt_of_cell? w a h)).trans h

theorem cloneMap (b n : Nat) (l : List Ob) (w : World) (h : w.ownsMap Tryz.prog 9 objElem b n (mapD l)) :
    Calls Tryz.prog 132 #[.map (some b)] w fun e w' => e = .returned (.map (some w.heap.size)) ∧ w'.ownsMap Tryz.prog 9 objElem w.heap.size n (mapD l) ∧ Below w.heap.size w w' :=
  Calls.mono (AnyW.maps_Clone_owns Tryz.cloneW 9 objElem b n (mapD l) w h) fun _ _ ⟨h1, h2, _, h3⟩ => ⟨h1, h2, h3⟩

set_option maxRecDepth 20000 in
set_option maxHeartbeats 2000000 in
theorem copy_any (sb mb : Nat) (s : St) (w : World) (h : StoreAt w sb mb s) :
    Calls Tryz.prog 79 #[stP sb] w fun e w' => ∃ sb' mb', e = .returned (stP sb') ∧ w.heap.size ≤ sb' ∧ w.heap.size ≤ mb' ∧ StoreAt w' sb' mb' s ∧ Below w.heap.size w w' := by
  have c0 := h.c0; have c1 := h.c1; have c2 := h.c2; have c3 := h.c3; have c4 := h.c4
  have H := Lib.hid h; clear h
  have A0 := Lib.hid (H.out.below (Bdn (Below.refl w.heap.size w) 1))
  go_enter Tryz.func79, Tryz.ntmps79
  go_wp2_with fail
  go_region_held3 (fun w' => w'.cell? ⟨sb, 0, none⟩ = some (.map (some mb)) ∧ w'.cell? ⟨sb, 1, none⟩ = some (S s.head) ∧ w'.cell? ⟨sb, 2, none⟩ = some (.int .i64 s.day) ∧ w'.cell? ⟨sb, 3, none⟩ = some (.bool s.off) ∧ w'.cell? ⟨sb, 4, none⟩ = some (.int .i64 s.cut)) (first | exact ⟨c0, c1, c2, c3, c4⟩ | exact ⟨cell_al c0, cell_al c1, cell_al c2, cell_al c3, cell_al c4⟩) (first | (go_at_call 132; refine (cloneMap mb s.objs.length s.objs _ A0.out.own).mono ?_; rintro e w1 ⟨rfl, ho1, hb1⟩; have A1 := A0.out.below hb1; clear c0 c1 c2 c3 c4; have c0 := A1.c0; have c1 := A1.c1; have c2 := A1.c2; have c3 := A1.c3; have c4 := A1.c4; have HO := Lib.hid ho1; have HBB := Lib.hid (Below.trans (Bdn (Below.refl w.heap.size w) 1) hb1); clear A1 ho1 hb1))
  all_goals
    go_wp2_with fail
    go_ret
    have HB := HBB.out
    have ho : w1.ownsMap Tryz.prog 9 objElem w.heap.size s.objs.length (mapD s.objs) := HO.out
    exact ⟨_, _, rfl, HB.size, Nat.le_refl _, ⟨heap_alloc_new w1 _, ho.alloc _, H.out.ok⟩, HB.alloc HB.size _⟩
end Go.Proofs.YtikboodjfanjkaaGreatDoor
namespace Go.Proofs.YtikboodjfanjkaaGreatDoor
open Go.RowKit

structure Ac where
  kind : Str
  name : Str
  s : Str
  n : Int
abbrev encA (a : Ac) : List Value := [S a.kind, S a.name, S a.s, .int .i64 a.n]
abbrev ActsAt (w : World) (v : Value) (l : List Ac) : Prop := At encA 4 w v l
theorem szAct (w : World) : (sizeOf 43).run Tryz.prog w = .ok 4 w := by kernel_rfl
def acOk (a : Ac) : Prop := a.name.length ≤ 40 ∧ (a.s.length ≤ 100 ∨ a.s.length = 20001)

set_option maxRecDepth 20000 in
theorem longActs_any (v : Value) (l : List Ac) (w : World) (hl : ActsAt w v l) :
    Calls Tryz.prog 8 #[v] w fun e w' => (e = .returned (.int .i64 1) ∨ (e = .returned (.int .i64 0) ∧ l.length ≤ 80 ∧ ∀ a ∈ l, acOk a)) ∧ Below w.heap.size w w' := by
  obtain ⟨a, c, b, o, rfl, ha, hc, hcm, hx⟩ := hl
  unfold maxLen at hcm
  by_cases h80 : l.length ≤ 80
  case neg =>
    have g : (80 : Int) < (l.length : Int) := by omega
    go_enter Tryz.func8, Tryz.ntmps8
    go_wp2_with fail
    go_ret
    exact ⟨.inl rfl, Below.refl _ _⟩
  have g : decide ((80 : Int) < (l.length : Int)) = false := by simp; omega
  go_enter Tryz.func8, Tryz.ntmps8
  go_wp2_with fail
  go_loopw [3] (fun i wr => ∃ k : Nat, k ≤ l.length ∧ i = .int .i64 k ∧ Hid (∀ j < k, ∀ x, l[j]? = some x → acOk x) ∧ Below w.heap.size w wr) (fun i _ => l.length - (intOf i).toNat)
  case atStart => exact ⟨0, by omega, rfl, fun j hj => absurd hj (by omega), Below.refl _ _⟩
  case round =>
    obtain ⟨k, hk, rfl, hj, hb⟩ := hrel
    by_cases hlt : k < l.length
    case neg =>
      have f : decide ((k : Int) < (l.length : Int)) = false := by simp; omega
      go_wp2_with fail
      go_ret
      exact ⟨.inr ⟨rfl, h80, fun x hx => by
        obtain ⟨j, hj'⟩ := List.getElem?_of_mem hx
        exact hj.out j (by have := (List.getElem?_eq_some_iff.1 hj').1; omega) x hj'⟩, hb⟩
    obtain ⟨x, hxk⟩ := get_ex hlt
    have c1 := hx k x hxk 1 _ rfl
    have c2 := hx k x hxk 2 _ rfl
    have c1 := (hb.cell (World.block_lt_of_cell? w _ c1)).trans c1
    have c2 := (hb.cell (World.block_lt_of_cell? w _ c2)).trans c2
    have i1 := idx_at (c := c) 4 Tryz.underlying23 szAct ha k hlt
    have f : (k : Int) < (l.length : Int) := by omega
    have Hx := Lib.hid hxk; clear hxk
    by_cases e1 : x.name.length ≤ 40
    case neg =>
      have g1 : (40 : Int) < (x.name.length : Int) := by omega
      clear e1
      go_wp2_with fail
      go_ret
      exact ⟨.inl rfl, hb⟩
    have K1 := Lib.hid e1
    have g1 : decide ((40 : Int) < (x.name.length : Int)) = false := by simp; omega
    clear e1
    by_cases e2 : x.s.length ≤ 100
    case pos =>
      have K2 : Hid (x.s.length ≤ 100 ∨ x.s.length = 20001) := Lib.hid (.inl e2)
      have g2 : decide ((100 : Int) < (x.s.length : Int)) = false := by simp; omega
      clear e2
      go_wp2_with fail
      refine ⟨⟨k + 1, by omega, by go_num, Lib.hid fun j hj' y hy => by
        rcases Nat.lt_or_ge j k with h | h
        · exact hj.out j h y hy
        · obtain rfl : j = k := by omega
          rw [Hx.out] at hy
          cases hy
          exact ⟨K1.out, K2.out⟩, hb⟩, ?_⟩
      simp [intOf]; omega
    have g2 : (100 : Int) < (x.s.length : Int) := by omega
    clear e2
    by_cases e3 : x.s.length = 20001
    case pos =>
      have K2 : Hid (x.s.length ≤ 100 ∨ x.s.length = 20001) := Lib.hid (.inr e3)
      have g3 : ((x.s.length : Int) != 20001) = false := by simp [e3]
      clear e3
      go_wp2_with fail
      refine ⟨⟨k + 1, by omega, by go_num, Lib.hid fun j hj' y hy => by
        rcases Nat.lt_or_ge j k with h | h
        · exact hj.out j h y hy
        · obtain rfl : j = k := by omega
          rw [Hx.out] at hy
          cases hy
          exact ⟨K1.out, K2.out⟩, hb⟩, ?_⟩
      simp [intOf]; omega
    have g3 : ((x.s.length : Int) != 20001) = true := by simp; omega
    clear e3
    go_wp2_with fail
    go_ret
    exact ⟨.inl rfl, hb⟩
end Go.Proofs.YtikboodjfanjkaaGreatDoor
namespace Go.Proofs.YtikboodjfanjkaaGreatDoor
open Go.RowKit

def codedB (er : Er) (k : Int) : Bool := decide ((er.code : Int) = k) && decide (er.place = -1)
def faultedB (er : Er) (c p : Int) : Bool := decide ((er.code : Int) = c) && (decide (c = 0) || decide (er.place = p))


theorem coded2_any (E : Nat → Addr) (B : Nat) (er : Er) (v : Value) (k : Int) (w : World) (hE : Errs allE E B w) (hA : AsVar w) (hv : ErV E w v er) :
    Calls Tryz.prog 64 #[v, .int .i64 k] w fun e w' => e = .returned (.bool (codedB er k)) ∧ Below w.heap.size w w' := by
  unfold codedB
  by_cases h1 : (er.code : Int) = k
  · have g1 : ((er.code : Int) == k) = true := by simpa using h1
    have H1 := Lib.hid h1; clear h1
    by_cases h2 : er.place = -1
    · have g2 : (er.place == -1) = true := by simpa using h2
      have H2 := Lib.hid h2; clear h2
      go_enter Tryz.func64, Tryz.ntmps64
      go_wp2_with (go_at_call 95; refine (code_any E B er _ _ hE hA hv).mono ?_; rintro e w1 ⟨rfl, hb⟩)
      go_ret
      exact ⟨ret_bool (by simp [H1.out, H2.out]), hb⟩
    · have g2 : (er.place == -1) = false := by simpa using h2
      go_enter Tryz.func64, Tryz.ntmps64
      go_wp2_with (go_at_call 95; refine (code_any E B er _ _ hE hA hv).mono ?_; rintro e w1 ⟨rfl, hb⟩)
      go_ret
      exact ⟨ret_bool (by simp [H1.out, h2]), hb⟩
  · have g1 : ((er.code : Int) == k) = false := by simpa using h1
    go_enter Tryz.func64, Tryz.ntmps64
    go_wp2_with (go_at_call 95; refine (code_any E B er _ _ hE hA hv).mono ?_; rintro e w1 ⟨rfl, hb⟩)
    go_ret
    exact ⟨ret_bool (by simp [h1]), hb⟩


end Go.Proofs.YtikboodjfanjkaaGreatDoor
namespace Go.Proofs.YtikboodjfanjkaaGreatDoor
open Go.RowKit Go.Maps

def nA : Str := [97, 47, 49]
def sA : St := ⟨[⟨nA, [120], 0⟩], [], 0, false, -1⟩
def sB : St := ⟨[⟨nA, [120], 0⟩], nA, 0, false, -1⟩
theorem putA : putE St.new nA [120] = .nil ∧ putS St.new nA [120] = sA := by decide
theorem putB : putE sA nA [121] = .bare 7 ∧ putS sA nA [121] = sA := by decide
theorem getA : ((getO sA.objs nA).map (·.text)).getD [] = [120] ∧ (getO sA.objs nA).isSome = true := by decide
theorem swapA : swapE sA [] nA = .nil ∧ swapS sA [] nA = sB := by decide
theorem coded7 : codedB (.bare 7) 7 = true := by decide

/-- What two worlds share below a block that neither store lies under. -/
theorem But2.under {sb mb B : Nat} {a b c : World} (h : Below B a b) (k : But2 sb mb b c) (h1 : B ≤ sb) (h2 : B ≤ mb) (hB : B ≤ b.heap.size) : Below B a c := k.below h h1 h2 hB

end Go.Proofs.YtikboodjfanjkaaGreatDoor
namespace Go.Proofs.YtikboodjfanjkaaGreatDoor
open Go.RowKit Go.Maps

/-- An error that no world is asked for. -/
def Er.isPlain : Er → Bool
  | .loc _ _ => false
  | _ => true
theorem ErV.any {E : Nat → Addr} {w : World} {v : Value} {er : Er} (h : ErV E w v er) (hp : er.isPlain = true) : ∀ w', ErV E w' v er := by
  intro w'
  cases er with
  | nil => exact h
  | bare c => exact h
  | loc c i => cases hp
theorem coded_self {er : Er} (hp : er.isPlain = true) : codedB er (er.code : Int) = true := by
  cases er with
  | nil => rfl
  | bare c => simp [codedB, Er.code, Er.place]
  | loc c i => cases hp
theorem plain_put (s : St) (n t : Str) : (putE s n t).isPlain = true := by
  unfold putE
  repeat' split
  all_goals rfl
theorem plain_drop (s : St) (n : Str) : (dropE s n).isPlain = true := by
  unfold dropE
  repeat' split
  all_goals rfl
theorem plain_swap (s : St) (n t : Str) : (swapE s n t).isPlain = true := by
  unfold swapE
  repeat' split
  all_goals rfl
def cutE (s : St) (n : Int) : Er := if n < 0 then .bare 2 else if s.off then .bare 12 else .nil
theorem plain_cut (s : St) (n : Int) : (cutE s n).isPlain = true := by
  unfold cutE
  repeat' split
  all_goals rfl
theorem cutE_code (s : St) (n : Int) : ((cutE s n).code : Int) = (if n < 0 then 2 else if s.off then 12 else 0) := by
  unfold cutE
  split
  · rfl
  · split <;> rfl

section
variable {w w' : World} {sb mb a b : Nat} {s : St} {e : TypeId}
theorem StoreAt.aside (h : StoreAt w sb mb s) (hb : But2 a b w w') (h1 : sb ≠ a) (h2 : sb ≠ b) (h3 : mb ≠ a) (h4 : mb ≠ b) : StoreAt w' sb mb s :=
  ⟨(hb.block sb h.lt h1 h2).trans h.blk, by
    obtain ⟨es, clock, hx, F, hs, hD⟩ := h.own
    exact ⟨es, clock, (hb.block mb h.ltm h3 h4).trans hx, F, hs, hD⟩, h.ok⟩
theorem own_off {α : Type} {enc : α → List Value} {sz B : Nat} {v : Value} {l : List α} (h : Own enc e sz B w v l) (hs : StoreAt w sb mb s) (he : e ≠ 100) : v.ownBlock ≠ some sb ∧ v.ownBlock ≠ some mb := by
  refine ⟨own_ne h hs.blk fun cs hc => ?_, ?_⟩
  · cases hc; exact he rfl
  · obtain ⟨es, clock, hx, _⟩ := hs.own
    exact own_ne h hx fun cs hc => by cases hc
end

/-- The store s and the model m, apart, made behind w0. -/
structure Both (w0 : World) (sb mb xb : Nat) (v : Value) (s m : St) (w : World) : Prop where
  sto : StoreAt w sb mb s
  mdl : ModAt w w0.heap.size xb v m
  bel : Below w0.heap.size w0 w
  h1 : w0.heap.size ≤ sb
  h2 : w0.heap.size ≤ mb
  h3 : w0.heap.size ≤ xb
  n1 : xb ≠ sb
  n2 : xb ≠ mb
section
variable {w0 w w' : World} {sb mb xb : Nat} {v v' : Value} {s s' m m' : St}
theorem Both.below (h : Both w0 sb mb xb v s m w) (hb : Below w.heap.size w w') : Both w0 sb mb xb v s m w' :=
  { h with sto := h.sto.below hb, mdl := h.mdl.below hb, bel := h.bel.trans (hb.mono h.bel.size) }
theorem Both.drew (h : Both w0 sb mb xb v s m w) : Both w0 sb mb xb v s m w.drew := h.below (Bdn (Below.refl _ _) 1)
theorem Both.turnS (h : Both w0 sb mb xb v s m w) (hs : StoreAt w' sb mb s') (hb : But2 sb mb w w') : Both w0 sb mb xb v s' m w' := by
  obtain ⟨k1, k2⟩ := own_off h.mdl.own h.sto (by decide)
  exact { h with sto := hs, mdl := ⟨(hb.block xb h.mdl.lt h.n1 h.n2).trans h.mdl.blk, own_but h.mdl.own k1 k2 hb, h.mdl.ok⟩, bel := hb.under h.bel h.h1 h.h2 h.bel.size }
theorem Both.turnM (h : Both w0 sb mb xb v s m w) (hm : ModAt w' w0.heap.size xb v' m') (hb : But2 xb xb w w') : Both w0 sb mb xb v' s m' w' :=
  { h with sto := h.sto.aside hb h.n1.symm h.n1.symm h.n2.symm h.n2.symm, mdl := hm, bel := hb.under h.bel h.h3 h.h3 h.bel.size }
/-- Another store is turned. -/
theorem Both.turnC {wb wm : Nat} {c : St} (h : Both w0 sb mb xb v s m w) (hc : StoreAt w wb wm c) (k1 : w0.heap.size ≤ wb) (k2 : w0.heap.size ≤ wm) (n1 : wb ≠ sb ∧ wb ≠ mb ∧ wm ≠ sb ∧ wm ≠ mb) (n2 : wb ≠ xb ∧ wm ≠ xb) (hb : But2 wb wm w w') : Both w0 sb mb xb v s m w' := by
  obtain ⟨q1, q2⟩ := own_off h.mdl.own hc (by decide)
  exact { h with sto := h.sto.aside hb n1.1.symm n1.2.2.1.symm n1.2.1.symm n1.2.2.2.symm, mdl := ⟨(hb.block xb h.mdl.lt n2.1.symm n2.2.symm).trans h.mdl.blk, own_but h.mdl.own q1 q2 hb, h.mdl.ok⟩, bel := hb.under h.bel k1 k2 h.bel.size }
theorem Both.hB (h : Both w0 sb mb xb v s m w) : w0.heap.size ≤ w.heap.size := h.bel.size
end
end Go.Proofs.YtikboodjfanjkaaGreatDoor
namespace Go.Proofs.YtikboodjfanjkaaGreatDoor
open Go.RowKit Go.Maps

def cpN : Str := [116, 104, 101, 47, 99, 111, 112, 121]

set_option maxHeartbeats 4000000 in
set_option maxRecDepth 20000 in
theorem do_any (E : Nat → Addr) (B : Nat) (w0 : World) (hE : Errs allE E B w0) (hA : AsVar w0) (hgB : 12 < B) (sb mb xb : Nat) (v : Value) (st : St) (x : Ac) (hx : acOk x) (hxn : x.n ≤ 9223372036854775807) (w : World) (h : Both w0 sb mb xb v st st w) :
    Calls Tryz.prog 19 #[stP sb, stP xb, .agg #[S x.kind, S x.name, S x.s, .int .i64 x.n]] w fun e w' => e = .returned (.int .i64 1) ∧ ∃ v' st', Both w0 sb mb xb v' st' st' w' := by
  have hBw := hE.le
  have hsl := h.sto.lt
  have hml := h.sto.ltm
  have hxl := h.mdl.lt
  have g1 := h.h1
  have g2 := h.h2
  have g3 := h.h3
  have H := Lib.hid (h.below ((Below.refl _ w).alloc (Nat.le_refl _) (.cells #[S x.kind, S x.name, S x.s, .int .i64 x.n] 43)))
  have hA0 := heap_alloc_new w (.cells #[S x.kind, S x.name, S x.s, .int .i64 x.n] 43)
  clear h
  go_enter Tryz.func19, Tryz.ntmps19
  obtain ⟨A, hA1⟩ : ∃ A, w.heap.size = A := ⟨_, rfl⟩
  rw [hA1] at hA0 hsl hml hxl
  go_upto_block 0 with fail
  try rw [hA1]
  generalize w.alloc (.cells #[S x.kind, S x.name, S x.s, .int .i64 x.n] 43) = w4 at *
  have Cs := fun (w6 : World) (h6 : w6.heap[A]? = w4.heap[A]?) => (⟨by rw [cell_of_row w6 A 1 _ _ (0, 0) (h6.trans hA0)]; rfl, by rw [cell_of_row w6 A 2 _ _ (0, 0) (h6.trans hA0)]; rfl, by rw [cell_of_row w6 A 3 _ _ (0, 0) (h6.trans hA0)]; rfl⟩ : w6.cell? ⟨A, 1, none⟩ = some (S x.name) ∧ w6.cell? ⟨A, 2, none⟩ = some (S x.s) ∧ w6.cell? ⟨A, 3, none⟩ = some (.int .i64 x.n))
  have CS := Lib.hid Cs
  have hAl := (Array.getElem?_eq_some_iff.1 hA0).1
  have Hsz : ∀ {w6 : World}, w6.heap[A]? = w4.heap[A]? → A + 1 ≤ w6.heap.size := fun h6 => (Array.getElem?_eq_some_iff.1 (h6.trans hA0)).1
  have hAl' : A < A + 1 := Nat.lt_succ_self A
  obtain ⟨k1, k2, k3⟩ := CS.out w4 rfl
  clear Cs hA0
  go_cut [7] (fun sm wx => sm = .bool true ∧ ∃ v' st', Both w0 sb mb xb v' st' st' wx)
  case first =>
    by_cases e0 : x.kind = [112, 117, 116]
    case pos =>
      have f0 : (x.kind == [112, 117, 116]) = true := by simpa using e0
      clear e0
      as_aux_lemma =>
        have hpl := plain_put st x.name x.s
        have hcd := coded_self hpl

        have HD := Lib.hid (H.out.drew)
        go_wp2_with fail
        go_region_held3 (fun w' => w'.cell? ⟨A, 1, none⟩ = some (S x.name) ∧ w'.cell? ⟨A, 2, none⟩ = some (S x.s) ∧ w'.cell? ⟨A, 3, none⟩ = some (.int .i64 x.n)) (exact ⟨k1, k2, k3⟩) (first
          | (go_at_call 65; refine (put_any E B sb mb st x.name x.s _ ((hE.sub (by decide)).below' HD.out.bel hBw) HD.out.sto (by have := hx.1; omega) (by rcases hx.2 with h | h <;> omega) (by omega) (by omega)).mono ?_; rintro e w5 ⟨ev, rfl, hev, h5, hb5⟩; have H5 := Lib.hid (HD.out.turnS h5 hb5); have HV5 := Lib.hid (hev.any hpl); have hA5 : w5.heap[A]? = w4.heap[A]? := hb5.block A hAl (by omega) (by omega); clear k1 k2 k3; obtain ⟨k1, k2, k3⟩ := CS.out w5 hA5; clear hev h5 hb5 HD)
          | (go_at_call 66; refine (putM_any w0.heap.size xb v st x.name x.s _ H5.out.mdl (by have := hx.1; omega) (by rcases hx.2 with h | h <;> omega) H5.out.hB).mono ?_; rintro e w6 ⟨v6, rfl, h6, hb6⟩; have H6 := Lib.hid (H5.out.turnM h6 hb6); have hA6 : w6.heap[A]? = w4.heap[A]? := (hb6.block A (Nat.lt_of_lt_of_le hAl' (Hsz hA5)) (by omega) (by omega)).trans hA5; clear k1 k2 k3; obtain ⟨k1, k2, k3⟩ := CS.out w6 hA6; clear h6 hb6 H5)
          | (go_at_call 64; refine (coded2_any E B (putE st x.name x.s) _ _ _ (hE.below' H6.out.bel hBw) (hA.below H6.out.bel (by omega)) (HV5.out _)).mono ?_; rintro e w7 ⟨rfl, hb7⟩; have hcd' := hcd; rw [hcd]; have hA7 : w7.heap[A]? = w4.heap[A]? := (hb7.block A (Nat.lt_of_lt_of_le hAl' (Hsz hA6))).trans hA6; have H7 := Lib.hid (H6.out.below hb7); clear k1 k2 k3; obtain ⟨k1, k2, k3⟩ := CS.out w7 hA7; clear hb7 H6 hcd'))
        all_goals
          go_wp2_with fail
          go_meet
          exact ⟨rfl, _, _, H7.out⟩
    have f0 : (x.kind == [112, 117, 116]) = false := by simpa using e0
    clear e0
    by_cases e1 : x.kind = [103, 101, 116]
    case pos =>
      have f1 : (x.kind == [103, 101, 116]) = true := by simpa using e1
      clear e1
      as_aux_lemma =>
        go_wp2_with fail
        refine (get_any E B sb mb st x.name _ ((hE.sub (by decide)).below' H.out.bel hBw) H.out.sto (by have := hx.1; omega)).mono ?_
        rintro e w5 ⟨ev, rfl, hev, hb5⟩
        have H5 := Lib.hid (H.out.below hb5)
        have hpl : (if (getO st.objs x.name).isSome then Er.nil else .bare 6).isPlain = true := by split <;> rfl
        have hcd : codedB (if (getO st.objs x.name).isSome then Er.nil else .bare 6) (if (getO st.objs x.name).isSome then 0 else 6) = true := by split <;> rfl
        have HV5 := Lib.hid (hev.any hpl)
        have hA5 : w5.heap[A]? = w4.heap[A]? := hb5.block A hAl
        clear k1 k2 k3
        obtain ⟨k1, k2, k3⟩ := CS.out w5 hA5
        generalize hT : ((getO st.objs x.name).map (·.text)).getD [] = T
        have HT := Lib.hid hT
        clear hT hev hb5
        go_wp2_with fail
        refine (getM_any w0.heap.size xb v st x.name _ H5.out.mdl).mono ?_
        rintro e w6 ⟨rfl, hb6⟩
        have H6 := Lib.hid (H5.out.below hb6)
        rw [HT.out]
        clear hb6
        generalize (if (getO st.objs x.name).isSome = true then Er.nil else Er.bare 6) = er at *
        generalize (if (getO st.objs x.name).isSome = true then (0 : Int) else 6) = cd at *
        go_wp2_with fail
        refine (coded2_any E B er _ _ _ (hE.below' H6.out.bel hBw) (hA.below H6.out.bel (by omega)) (HV5.out _)).mono ?_
        rintro e w7 ⟨rfl, hb7⟩
        rw [hcd]
        have H7 := Lib.hid (H6.out.below hb7)
        clear hb7
        go_wp2_with fail
        go_meet
        exact ⟨rfl, _, _, H7.out⟩
    have f1 : (x.kind == [103, 101, 116]) = false := by simpa using e1
    clear e1
    by_cases e2 : x.kind = [100, 114, 111, 112]
    case pos =>
      have f2 : (x.kind == [100, 114, 111, 112]) = true := by simpa using e2
      clear e2
      as_aux_lemma =>
        have hpl := plain_drop st x.name
        have hcd := coded_self hpl

        have HD := Lib.hid (H.out.drew)
        go_wp2_with fail
        go_region_held3 (fun w' => w'.cell? ⟨A, 1, none⟩ = some (S x.name) ∧ w'.cell? ⟨A, 2, none⟩ = some (S x.s) ∧ w'.cell? ⟨A, 3, none⟩ = some (.int .i64 x.n)) (exact ⟨k1, k2, k3⟩) (first
          | (go_at_call 69; refine (drop_any E B sb mb st x.name _ ((hE.sub (by decide)).below' HD.out.bel hBw) HD.out.sto (by have := hx.1; omega)).mono ?_; rintro e w5 ⟨ev, rfl, hev, h5, hb5⟩; have H5 := Lib.hid (HD.out.turnS h5 hb5); have HV5 := Lib.hid (hev.any hpl); have hA5 : w5.heap[A]? = w4.heap[A]? := hb5.block A hAl (by omega) (by omega); clear k1 k2 k3; obtain ⟨k1, k2, k3⟩ := CS.out w5 hA5; clear hev h5 hb5 HD)
          | (go_at_call 70; refine (dropM_any w0.heap.size xb v st x.name _ H5.out.mdl H5.out.hB).mono ?_; rintro e w6 ⟨v6, rfl, h6, hb6⟩; have H6 := Lib.hid (H5.out.turnM h6 hb6); have hA6 : w6.heap[A]? = w4.heap[A]? := (hb6.block A (Nat.lt_of_lt_of_le hAl' (Hsz hA5)) (by omega) (by omega)).trans hA5; clear k1 k2 k3; obtain ⟨k1, k2, k3⟩ := CS.out w6 hA6; clear h6 hb6 H5)
          | (go_at_call 64; refine (coded2_any E B (dropE st x.name) _ _ _ (hE.below' H6.out.bel hBw) (hA.below H6.out.bel (by omega)) (HV5.out _)).mono ?_; rintro e w7 ⟨rfl, hb7⟩; have hcd' := hcd; rw [hcd]; have hA7 : w7.heap[A]? = w4.heap[A]? := (hb7.block A (Nat.lt_of_lt_of_le hAl' (Hsz hA6))).trans hA6; have H7 := Lib.hid (H6.out.below hb7); clear k1 k2 k3; obtain ⟨k1, k2, k3⟩ := CS.out w7 hA7; clear hb7 H6 hcd'))
        all_goals
          go_wp2_with fail
          go_meet
          exact ⟨rfl, _, _, H7.out⟩
    have f2 : (x.kind == [100, 114, 111, 112]) = false := by simpa using e2
    clear e2
    by_cases e3 : x.kind = [115, 119, 97, 112]
    case pos =>
      have f3 : (x.kind == [115, 119, 97, 112]) = true := by simpa using e3
      clear e3
      as_aux_lemma =>
        have hpl := plain_swap st x.name x.s
        have hcd := coded_self hpl

        have HD := Lib.hid (H.out.drew)
        go_wp2_with fail
        go_region_held3 (fun w' => w'.cell? ⟨A, 1, none⟩ = some (S x.name) ∧ w'.cell? ⟨A, 2, none⟩ = some (S x.s) ∧ w'.cell? ⟨A, 3, none⟩ = some (.int .i64 x.n)) (exact ⟨k1, k2, k3⟩) (first
          | (go_at_call 71; refine (swap_any E B sb mb st x.name x.s _ ((hE.sub (by decide)).below' HD.out.bel hBw) HD.out.sto (by rcases hx.2 with h | h <;> omega) (by omega) (by omega)).mono ?_; rintro e w5 ⟨ev, rfl, hev, h5, hb5⟩; have H5 := Lib.hid (HD.out.turnS h5 hb5); have HV5 := Lib.hid (hev.any hpl); have hA5 : w5.heap[A]? = w4.heap[A]? := hb5.block A hAl (by omega) (by omega); clear k1 k2 k3; obtain ⟨k1, k2, k3⟩ := CS.out w5 hA5; clear hev h5 hb5 HD)
          | (go_at_call 72; refine (swapM_any w0.heap.size xb v st x.name x.s _ H5.out.mdl (by rcases hx.2 with h | h <;> omega)).mono ?_; rintro e w6 ⟨rfl, h6, hb6⟩; have H6 := Lib.hid (H5.out.turnM h6 hb6); have hA6 : w6.heap[A]? = w4.heap[A]? := (hb6.block A (Nat.lt_of_lt_of_le hAl' (Hsz hA5)) (by omega) (by omega)).trans hA5; clear k1 k2 k3; obtain ⟨k1, k2, k3⟩ := CS.out w6 hA6; clear h6 hb6 H5)
          | (go_at_call 64; refine (coded2_any E B (swapE st x.name x.s) _ _ _ (hE.below' H6.out.bel hBw) (hA.below H6.out.bel (by omega)) (HV5.out _)).mono ?_; rintro e w7 ⟨rfl, hb7⟩; have hcd' := hcd; rw [hcd]; have hA7 : w7.heap[A]? = w4.heap[A]? := (hb7.block A (Nat.lt_of_lt_of_le hAl' (Hsz hA6))).trans hA6; have H7 := Lib.hid (H6.out.below hb7); clear k1 k2 k3; obtain ⟨k1, k2, k3⟩ := CS.out w7 hA7; clear hb7 H6 hcd'))
        all_goals
          go_wp2_with fail
          go_meet
          exact ⟨rfl, _, _, H7.out⟩
    have f3 : (x.kind == [115, 119, 97, 112]) = false := by simpa using e3
    clear e3
    by_cases e4 : x.kind = [99, 117, 116]
    case pos =>
      have f4 : (x.kind == [99, 117, 116]) = true := by simpa using e4
      clear e4
      as_aux_lemma =>
        have hpl := plain_cut st x.n
        have hcd := coded_self hpl
        have hcc := Lib.hid (cutE_code st x.n)
        have HD := Lib.hid (H.out.drew)
        go_wp2_with fail
        go_region_held3 (fun w' => w'.cell? ⟨A, 1, none⟩ = some (S x.name) ∧ w'.cell? ⟨A, 2, none⟩ = some (S x.s) ∧ w'.cell? ⟨A, 3, none⟩ = some (.int .i64 x.n)) (exact ⟨k1, k2, k3⟩) (first
          | (go_at_call 73; refine (cutSt_any E B sb mb st x.n _ ((hE.sub (by decide)).below' HD.out.bel hBw) HD.out.sto hxn).mono ?_; rintro e w5 ⟨ev, rfl, hev, h5, hb5⟩; have H5 := Lib.hid (HD.out.turnS h5 hb5); have HV5 := Lib.hid (hev.any hpl); have hA5 : w5.heap[A]? = w4.heap[A]? := hb5.block A hAl (by omega) (by omega); clear k1 k2 k3; obtain ⟨k1, k2, k3⟩ := CS.out w5 hA5; clear hev h5 hb5 HD)
          | (go_at_call 74; refine (cutM_any w0.heap.size xb v st x.n _ H5.out.mdl hxn).mono ?_; rintro e w6 ⟨rfl, h6, hb6⟩; rw [← hcc.out]; have H6 := Lib.hid (H5.out.turnM h6 hb6); have hA6 : w6.heap[A]? = w4.heap[A]? := (hb6.block A (Nat.lt_of_lt_of_le hAl' (Hsz hA5)) (by omega) (by omega)).trans hA5; clear k1 k2 k3; obtain ⟨k1, k2, k3⟩ := CS.out w6 hA6; clear h6 hb6 H5)
          | (go_at_call 64; refine (coded2_any E B (cutE st x.n) _ _ _ (hE.below' H6.out.bel hBw) (hA.below H6.out.bel (by omega)) (HV5.out _)).mono ?_; rintro e w7 ⟨rfl, hb7⟩; have hcd' := hcd; rw [hcd]; have hA7 : w7.heap[A]? = w4.heap[A]? := (hb7.block A (Nat.lt_of_lt_of_le hAl' (Hsz hA6))).trans hA6; have H7 := Lib.hid (H6.out.below hb7); clear k1 k2 k3; obtain ⟨k1, k2, k3⟩ := CS.out w7 hA7; clear hb7 H6 hcd'))
        all_goals
          go_wp2_with fail
          go_meet
          exact ⟨rfl, _, _, H7.out⟩
    have f4 : (x.kind == [99, 117, 116]) = false := by simpa using e4
    clear e4
    by_cases e5 : x.kind = [111, 110]
    case pos =>
      have f5 : (x.kind == [111, 110]) = true := by simpa using e5
      clear e5
      as_aux_lemma =>
        go_wp2_with fail
        refine (on_any sb mb st _ H.out.sto).mono ?_
        rintro e w5 ⟨rfl, h5, hb5⟩
        have H5 := Lib.hid (H.out.turnS h5 hb5)
        clear h5 hb5
        go_wp2_with fail
        refine (onM_any w0.heap.size xb v st _ H5.out.mdl).mono ?_
        rintro e w6 ⟨rfl, h6, hb6⟩
        have H6 := Lib.hid (H5.out.turnM h6 hb6)
        clear h6 hb6 k1 k2 k3
        go_wp2_with fail
        go_meet
        exact ⟨rfl, _, _, H6.out⟩
    have f5 : (x.kind == [111, 110]) = false := by simpa using e5
    clear e5
    by_cases e6 : x.kind = [110, 101, 120, 116]
    case pos =>
      have f6 : (x.kind == [110, 101, 120, 116]) = true := by simpa using e6
      clear e6
      as_aux_lemma =>
        by_cases hb : nextBad st x.n
        case pos =>
          go_wp2_with fail
          refine (next_any E B sb mb st x.n _ ((hE.sub (by decide)).below' H.out.bel hBw) H.out.sto).mono ?_
          rintro e w5 ⟨ev, rfl, hev, h5, hb5⟩
          rw [if_pos hb] at hev ⊢
          have H5 := Lib.hid (H.out.turnS h5 hb5)
          have HV5 := Lib.hid (hev.any (by rfl))
          have hA5 : w5.heap[A]? = w4.heap[A]? := hb5.block A hAl (by omega) (by omega)
          clear k1 k2 k3
          obtain ⟨k1, k2, k3⟩ := CS.out w5 hA5
          clear hev h5 hb5
          have HB := Lib.hid hb
          clear hb
          generalize hdd : (0 : Int) = dd at *
          have HDD := Lib.hid hdd; clear hdd
          go_wp2_with fail
          refine (nextM_any w0.heap.size xb v st x.n _ H5.out.mdl).mono ?_
          rintro e w6 ⟨rfl, h6, hb6⟩
          rw [if_pos HB.out, if_pos HB.out, HDD.out]
          have H6 := Lib.hid (H5.out.turnM h6 hb6)
          clear h6 hb6
          go_wp2_with fail
          refine (coded2_any E B ((.bare 2)) _ _ _ (hE.below' H6.out.bel hBw) (hA.below H6.out.bel (by omega)) (HV5.out _)).mono ?_
          rintro e w7 ⟨rfl, hb7⟩
          rw [show codedB (.bare 2) 2 = true from rfl]
          have H7 := Lib.hid (H6.out.below hb7)
          clear hb7
          have fdd : (dd == dd) = true := by simp
          go_wp2_with fail
          go_meet
          exact ⟨by simp, _, _, H7.out⟩
        case neg =>
          go_wp2_with fail
          refine (next_any E B sb mb st x.n _ ((hE.sub (by decide)).below' H.out.bel hBw) H.out.sto).mono ?_
          rintro e w5 ⟨ev, rfl, hev, h5, hb5⟩
          rw [if_neg hb] at hev ⊢
          have H5 := Lib.hid (H.out.turnS h5 hb5)
          have HV5 := Lib.hid (hev.any (by rfl))
          have hA5 : w5.heap[A]? = w4.heap[A]? := hb5.block A hAl (by omega) (by omega)
          clear k1 k2 k3
          obtain ⟨k1, k2, k3⟩ := CS.out w5 hA5
          clear hev h5 hb5
          have HB := Lib.hid hb
          clear hb
          generalize hdd : st.day + x.n = dd at *
          have HDD := Lib.hid hdd; clear hdd
          go_wp2_with fail
          refine (nextM_any w0.heap.size xb v st x.n _ H5.out.mdl).mono ?_
          rintro e w6 ⟨rfl, h6, hb6⟩
          rw [if_neg HB.out, if_neg HB.out, HDD.out]
          have H6 := Lib.hid (H5.out.turnM h6 hb6)
          clear h6 hb6
          go_wp2_with fail
          refine (coded2_any E B (.nil) _ _ _ (hE.below' H6.out.bel hBw) (hA.below H6.out.bel (by omega)) (HV5.out _)).mono ?_
          rintro e w7 ⟨rfl, hb7⟩
          rw [show codedB .nil 0 = true from rfl]
          have H7 := Lib.hid (H6.out.below hb7)
          clear hb7
          have fdd : (dd == dd) = true := by simp
          go_wp2_with fail
          go_meet
          exact ⟨by simp, _, _, H7.out⟩
    have f6 : (x.kind == [110, 101, 120, 116]) = false := by simpa using e6
    clear e6
    as_aux_lemma =>
      clear k1 k2 k3
      go_wp2_with fail
      refine (copy_any sb mb st _ H.out.sto).mono ?_
      rintro e w5 ⟨wb, wm, rfl, hwb, hwm, hcp, hb5⟩
      have H5 := Lib.hid (H.out.below hb5)
      have C5 := Lib.hid hcp
      have hsl := H.out.sto.lt
      have hml := H.out.sto.ltm
      have hxl := H.out.mdl.lt
      have hne : (wb ≠ sb ∧ wb ≠ mb ∧ wm ≠ sb ∧ wm ≠ mb) ∧ wb ≠ xb ∧ wm ≠ xb := by omega
      have hw0 := H.out.bel.size
      have hwb' : w0.heap.size ≤ wb := by omega
      have hwm' : w0.heap.size ≤ wm := by omega
      clear hb5 hcp
      go_wp2_with fail
      refine (same_true sb mb wb wm st st _ H5.out.sto C5.out rfl rfl rfl rfl).mono ?_
      rintro e w6 ⟨rfl, hb6⟩
      have H6 := Lib.hid (H5.out.below hb6)
      have C6 := Lib.hid (C5.out.below hb6)
      clear hb6
      go_wp2_with fail
      refine (on_any wb wm st _ C6.out).mono ?_
      rintro e w7 ⟨rfl, h7, hb7⟩
      have H7 := Lib.hid (H6.out.turnC C6.out hwb' hwm' hne.1 hne.2 hb7)
      have C7 := Lib.hid h7
      clear h7 hb7
      go_wp2_with fail
      refine (put_any E B wb wm _ cpN [120] _ ((hE.sub (by decide)).below' H7.out.bel hBw) C7.out (by decide) (by decide) (by omega) (by omega)).mono ?_
      rintro e w8 ⟨ev8, rfl, -, -, hb8⟩
      have H8 := Lib.hid (H7.out.turnC C7.out hwb' hwm' hne.1 hne.2 hb8)
      clear hb8
      go_wp2_with fail
      refine (get_any E B sb mb st cpN _ ((hE.sub (by decide)).below' H8.out.bel hBw) H8.out.sto (by decide)).mono ?_
      rintro e w9 ⟨ev, rfl, hev, hb9⟩
      have H9 := Lib.hid (H8.out.below hb9)
      generalize ((getO st.objs cpN).map (·.text)).getD [] = T
      clear hb9
      go_wp2_with fail
      refine (findM_any w0.heap.size xb v st cpN _ H9.out.mdl).mono ?_
      rintro e w10 ⟨r, rfl, hr, hb10⟩
      have H10 := Lib.hid (H9.out.below hb10)
      clear hb10
      rcases hr.got H9.out.mdl.ok.ris with ⟨k, y, rfl, -, -, -, hg⟩ | ⟨rfl, hg⟩
      · rw [hg] at hev
        obtain rfl : ev = .nilIface := hev
        have f1 : (0 : Int) ≤ (k : Int) := by omega
        clear hr hg
        go_wp2_with fail
        go_meet
        exact ⟨rfl, _, _, H10.out⟩
      · rw [hg] at hev
        obtain ⟨u1, x1, rfl⟩ := ErV.iface hev (by simp)
        clear hr hg hev
        go_wp2_with fail
        go_meet
        exact ⟨rfl, _, _, H10.out⟩
  case rest =>
    obtain ⟨rfl, v', st', h⟩ := hcut
    go_wp2_with fail
    go_ret
    exact ⟨rfl, v', st', h⟩
end Go.Proofs.YtikboodjfanjkaaGreatDoor
namespace Go.Proofs.YtikboodjfanjkaaGreatDoor
open Go.ChangeShapes Go.WideShapes Go.ChangeAt Go.RowKit

theorem some_ix {α : Type} {l : List α} {n k : Nat} (h : l.length = n) (hk : k < n) : ∃ x, l[k]? = some x := ⟨l[k]'(by omega), by simp [h, hk]⟩
theorem six_of {α : Type} : ∀ {l : List α}, l.length = 6 → ∃ a b c d e f, l = [a, b, c, d, e, f]
  | [a, b, c, d, e, f], _ => ⟨a, b, c, d, e, f, rfl⟩

set_option maxRecDepth 100000 in
/-- The slice's cells, by its elements' own reading. -/
theorem slice_came {H : Type} {enc : TypeId × Value → H} {W : World} {base fuel : Nat} {sp : Nat → Bool} {held : Bool} {cs : List Value} {y : DataW H × List MemPlace} {α : Type} (en : α → List Value) (sz : Nat) (hsz : 0 < sz) (tS tE : TypeId) (hu : Tryz.prog.underlying tS = some (.slice tE)) (hc : Tryz.prog.cellsOf tE = sz)
    (Pr : α → Prop) (one : ∀ (fuel : Nat) (sp : Nat → Bool) (held : Bool) (cs : List Value) (y : DataW H × List MemPlace), DataW.trod enc Tryz.prog W base sp held fuel tE cs = some y → ∃ x : α, cs = en x ∧ (en x).length = sz ∧ Pr x)
    (hf : DataW.trod enc Tryz.prog W base sp held fuel tS cs = some y) : ∃ v l, cs = [v] ∧ At en sz W v l ∧ ∀ x ∈ l, Pr x := by
  rcases DataW.trod_slice hu hf with ⟨hcs, hx⟩ | ⟨a, len', cap', elems, rest, n, _, hcs, _, _, hl, hm, hlen, hel, _, _⟩
  · exact ⟨_, [], hcs, At.nil _ _ _, fun _ h => by cases h⟩
  · refine ⟨.slice (some a) len' cap', ?_⟩
    rcases Nat.eq_zero_or_pos len' with rfl | hpos
    · exact ⟨[], hcs, ⟨some a, cap', 0, 0, rfl, fun h => absurd h (by simp), by simp, hm, fun k x h => by simp at h⟩, fun _ h => by cases h⟩
    obtain ⟨b, off, spot⟩ := a
    have hsp : spot = none := by
      have h1 := hel 0 hpos
      obtain ⟨y, hy⟩ := some_ix hlen hpos
      rw [hy, hc, Option.bind_eq_some_iff] at h1
      obtain ⟨cs, hcl, ht⟩ := h1
      obtain ⟨x, rfl, hxl, _⟩ := one _ _ _ _ _ ht
      obtain ⟨_, _, hcc⟩ := World.cells?_some hcl
      obtain ⟨u, hu0⟩ := some_ix hxl hsz
      have := hcc 0 hsz
      rw [hu0] at this
      have := World.cell?_spot this
      simpa [Addr.add] using this
    subst hsp
    have each : ∀ i, i < len' → ∃ x : α, (∀ j u, (en x)[j]? = some u → W.cell? ((⟨b, off, none⟩ : Addr).add (i * sz + j)) = some u) ∧ Pr x := by
      intro i hi
      have h1 := hel i hi
      obtain ⟨y, hy⟩ := some_ix hlen hi
      rw [hy, hc, Option.bind_eq_some_iff] at h1
      obtain ⟨cs, hcl, ht⟩ := h1
      obtain ⟨x, rfl, hxl, hp⟩ := one _ _ _ _ _ ht
      obtain ⟨_, _, hcc⟩ := World.cells?_some hcl
      refine ⟨x, fun j u hu => ?_, hp⟩
      have hj : j < sz := by
        rcases Nat.lt_or_ge j sz with h | h
        · exact h
        · rw [List.getElem?_eq_none (by omega)] at hu; cases hu
      have := hcc j hj
      rw [hu] at this
      rw [add_lit] at this
      rw [add_lit] at this
      rw [add_lit, ← Nat.add_assoc]
      exact this
    have build : ∀ m, m ≤ len' → ∃ l : List α, l.length = m ∧ (∀ k x, l[k]? = some x → ∀ j u, (en x)[j]? = some u → W.cell? ((⟨b, off, none⟩ : Addr).add (k * sz + j)) = some u) ∧ ∀ x ∈ l, Pr x := by
      intro m
      induction m with
      | zero => exact fun _ => ⟨[], rfl, fun k x h => by simp at h, fun _ h => by cases h⟩
      | succ m ih =>
        intro hm
        obtain ⟨l, h1, h2, h3⟩ := ih (by omega)
        obtain ⟨x, hx, hn⟩ := each m (by omega)
        refine ⟨l ++ [x], by simp [h1], fun k z hk j u hu => ?_, fun z hz => ?_⟩
        · rcases Nat.lt_or_ge k l.length with h | h
          · rw [List.getElem?_append_left h] at hk
            exact h2 k z hk j u hu
          · have hk' := (List.getElem?_eq_some_iff.1 hk).1
            rw [List.length_append, List.length_singleton] at hk'
            obtain rfl : k = l.length := by omega
            rw [List.getElem?_append_right (Nat.le_refl _), Nat.sub_self] at hk
            simp at hk
            subst hk
            rw [h1]
            exact hx j u hu
        · rcases List.mem_append.1 hz with h | h
          · exact h3 z h
          · simp at h; subst h; exact hn
    obtain ⟨l, h1, h2, h3⟩ := build len' (Nat.le_refl _)
    refine ⟨l, hcs, ⟨_, cap', b, off, by rw [h1], fun _ => rfl, by rw [h1]; exact hl, hm, fun k x hk j u hu => ?_⟩, h3⟩
    have := h2 k x hk j u hu
    rw [add_lit, ← Nat.add_assoc] at this
    exact this

set_option maxRecDepth 100000 in
/-- The same, of a parameter. -/
theorem param_came {H : Type} {enc : TypeId × Value → H} {W : World} {base : Nat} {sp : Nat → Bool} {v : Value} {d : DataW H} {p : List MemPlace} {α : Type} (en : α → List Value) (sz : Nat) (hsz : 0 < sz) (tS tE : TypeId) (hu : Tryz.prog.underlying tS = some (.slice tE)) (hc : Tryz.prog.cellsOf tE = sz)
    (Pr : α → Prop) (one : ∀ (fuel : Nat) (sp : Nat → Bool) (held : Bool) (cs : List Value) (y : DataW H × List MemPlace), DataW.trod enc Tryz.prog W 0 sp held fuel tE cs = some y → ∃ x : α, cs = en x ∧ (en x).length = sz ∧ Pr x)
    (hv : Value.okWide Tryz.prog W .any base tS v) (h : DataW.Trod enc Tryz.prog W 0 sp true tS v d p) : ∃ l, At en sz W v l ∧ ∀ x ∈ l, Pr x := by
  obtain ⟨a0, len, cap, rfl⟩ := okWide_slice hu hv
  obtain ⟨fuel, hf⟩ := h
  obtain ⟨v, l, hcs, ha, hp⟩ := slice_came en sz hsz tS tE hu hc Pr one hf
  simp [Value.cells] at hcs
  subst hcs
  exact ⟨l, ha, hp⟩

theorem str_of_trod {H : Type} {enc : TypeId × Value → H} {W : World} {base fuel : Nat} {sp : Nat → Bool} {held : Bool} {cs : List Value} {y : DataW H × List MemPlace} (h : DataW.trod enc Tryz.prog W base sp held fuel 9 cs = some y) :
    ∃ s : Str, cs = encS s := by
  obtain ⟨s, h0, _, _⟩ := DataW.trod_string Tryz.underlying9 h
  exact ⟨s.data.toList, by rw [h0]⟩
theorem cellsFile : Tryz.prog.cellsOf 50 = 6 := by kernel_rfl
theorem cellsStrF : Tryz.prog.cellsOf 9 = 1 := by kernel_rfl
/-- An integer's bounds. -/
def inI (n : Int) : Prop := -9223372036854775808 ≤ n ∧ n ≤ 9223372036854775807
def FileWf (x : Fl) : Prop := inI x.n ∧ inI x.lo ∧ inI x.hi ∧ inI x.seq
/-- One file, read. -/
theorem file_of_trod {H : Type} {enc : TypeId × Value → H} {W : World} {base fuel : Nat} {sp : Nat → Bool} {held : Bool} {cs : List Value} {y : DataW H × List MemPlace} (h : DataW.trod enc Tryz.prog W base sp held fuel 50 cs = some y) :
    ∃ x : Fl, cs = encF x ∧ (encF x).length = 6 ∧ FileWf x := by
  obtain ⟨xs, n, _, _, hl, hxs, hf⟩ := DataW.trod_struct Tryz.underlying50 h
  rw [cellsFile] at hl
  obtain ⟨c0, c1, c2, c3, c4, c5, rfl⟩ := six_of hl
  have f0 := hf 0 _ rfl
  have f1 := hf 1 _ rfl
  have f2 := hf 2 _ rfl
  have f3 := hf 3 _ rfl
  have f4 := hf 4 _ rfl
  have f5 := hf 5 _ rfl
  obtain ⟨x0, e0⟩ := some_ix hxs (k := 0) (by decide)
  obtain ⟨x1, e1⟩ := some_ix hxs (k := 1) (by decide)
  obtain ⟨x2, e2⟩ := some_ix hxs (k := 2) (by decide)
  obtain ⟨x3, e3⟩ := some_ix hxs (k := 3) (by decide)
  obtain ⟨x4, e4⟩ := some_ix hxs (k := 4) (by decide)
  obtain ⟨x5, e5⟩ := some_ix hxs (k := 5) (by decide)
  rw [e0] at f0; rw [e1] at f1; rw [e2] at f2; rw [e3] at f3; rw [e4] at f4; rw [e5] at f5
  obtain ⟨s0, h0, _, _⟩ := DataW.trod_string Tryz.underlying9 f0
  obtain ⟨s1, h1, _, _⟩ := DataW.trod_string Tryz.underlying9 f1
  obtain ⟨m2, h2, _, w2⟩ := DataW.trod_int Tryz.underlying3 f2
  obtain ⟨m3, h3, _, w3⟩ := DataW.trod_int Tryz.underlying3 f3
  obtain ⟨m4, h4, _, w4⟩ := DataW.trod_int Tryz.underlying3 f4
  obtain ⟨m5, h5, _, w5⟩ := DataW.trod_int Tryz.underlying3 f5
  simp [cellsStrF, cellsInt] at h0 h1 h2 h3 h4 h5
  subst h0 h1 h2 h3 h4 h5
  exact ⟨⟨s0.data.toList, s1.data.toList, m2, m3, m4, m5⟩, by simp, rfl, bounds_i64 w2, bounds_i64 w3, bounds_i64 w4, bounds_i64 w5⟩
set_option maxRecDepth 100000 in
/-- A slice of files that came in. -/
theorem files_came {H : Type} {enc : TypeId × Value → H} {W : World} {base : Nat} {sp : Nat → Bool} {v : Value} {d : DataW H} {p : List MemPlace} (hv : Value.okWide Tryz.prog W .any base 28 v)
    (h : DataW.Trod enc Tryz.prog W 0 sp true 28 v d p) : ∃ l, FilesAt W v l ∧ ∀ x ∈ l, FileWf x :=
  param_came encF 6 (by decide) _ _ Tryz.underlying28 cellsFile FileWf (fun _ _ _ _ _ ht => file_of_trod ht) hv h
end Go.Proofs.YtikboodjfanjkaaGreatDoor
namespace Go.Proofs.YtikboodjfanjkaaGreatDoor
open Go.ChangeShapes Go.WideShapes Go.ChangeAt Go.RowKit

set_option maxRecDepth 100000 in
theorem int_came {H : Type} {enc : TypeId × Value → H} {W : World} {base : Nat} {sp : Nat → Bool} {v : Value} {d : DataW H} {p : List MemPlace} (hv : Value.okWide Tryz.prog W .any base 3 v)
    (h : DataW.Trod enc Tryz.prog W 0 sp true 3 v d p) : ∃ x, v = .int .i64 x ∧ (-9223372036854775808 ≤ x ∧ x ≤ 9223372036854775807) := by
  obtain ⟨x, h1, _, _, wx⟩ := open_int Tryz.underlying3 hv h
  exact ⟨x, h1, bounds_i64 wx⟩
set_option maxRecDepth 100000 in
theorem str_came {H : Type} {enc : TypeId × Value → H} {W : World} {base : Nat} {sp : Nat → Bool} {v : Value} {d : DataW H} {p : List MemPlace} (hv : Value.okWide Tryz.prog W .any base 9 v)
    (h : DataW.Trod enc Tryz.prog W 0 sp true 9 v d p) : ∃ s : Str, v = S s ∧ (s.length : Int) ≤ 9223372036854775807 := by
  obtain ⟨s, h1, _, _, ws⟩ := ChangeMaps.open_string Tryz.underlying9 hv h
  refine ⟨s.data.toList, by rw [h1], ?_⟩
  have : s.data.toList.length = s.size := Array.length_toList
  unfold maxLen at ws; omega
theorem bounds_u8 {n : Int} (h : (Lit.int .u8 n).wf = true) : 0 ≤ n ∧ n ≤ 255 := by
  simp [Lit.wf, IntKind.min, IntKind.max, IntKind.signed, IntKind.bits] at h
  omega
set_option maxRecDepth 100000 in
theorem byte_came {H : Type} {enc : TypeId × Value → H} {W : World} {base : Nat} {sp : Nat → Bool} {v : Value} {d : DataW H} {p : List MemPlace} (hv : Value.okWide Tryz.prog W .any base 5 v)
    (h : DataW.Trod enc Tryz.prog W 0 sp true 5 v d p) : ∃ c : UInt8, v = .int .u8 c.toNat := by
  obtain ⟨x, h1, _, _, wx⟩ := open_int Tryz.underlying5 hv h
  have hb := bounds_u8 wx
  refine ⟨UInt8.ofNat x.toNat, ?_⟩
  rw [h1]
  congr 1
  rw [UInt8.toNat_ofNat', Nat.mod_eq_of_lt (by omega)]
  omega
set_option maxRecDepth 100000 in
/-- A file by value. -/
theorem file_came {H : Type} {enc : TypeId × Value → H} {W : World} {base : Nat} {sp : Nat → Bool} {v : Value} {d : DataW H} {p : List MemPlace} (hv : Value.okWide Tryz.prog W .any base 50 v)
    (h : DataW.Trod enc Tryz.prog W 0 sp true 50 v d p) : ∃ f : Fl, v = fileV f ∧ FileWf f := by
  obtain ⟨cs, rfl, hsz⟩ := okWide_struct Tryz.underlying50 hv
  obtain ⟨fuel, hf⟩ := h
  obtain ⟨x, h1, h2, h3⟩ := file_of_trod hf
  refine ⟨x, ?_, h3⟩
  simp only [Value.cells] at h1
  exact congrArg Value.agg (Array.toList_inj.1 h1)

theorem trodAll_five {H : Type} {enc : TypeId × Value → H} {P : Program} {w : World} {base : Nat} {sp : Nat → Bool} {held : Bool} {t1 t2 t3 t4 t5 : TypeId} {args : Array Value} {ds : List (DataW H)} {ps : List MemPlace} (h : DataW.TrodAll enc P w base sp held [t1, t2, t3, t4, t5] args.toList ds ps) :
    ∃ v1 v2 v3 v4 v5 d1 d2 d3 d4 d5 p1 p2 p3 p4 p5, args = #[v1, v2, v3, v4, v5] ∧ ds = [d1, d2, d3, d4, d5] ∧ ps = p1 ++ (p2 ++ (p3 ++ (p4 ++ p5))) ∧ DataW.Trod enc P w base sp held t1 v1 d1 p1 ∧ DataW.Trod enc P w base sp held t2 v2 d2 p2 ∧ DataW.Trod enc P w base sp held t3 v3 d3 p3 ∧ DataW.Trod enc P w base sp held t4 v4 d4 p4 ∧ DataW.Trod enc P w base sp held t5 v5 d5 p5 := by
  obtain ⟨l⟩ := args
  obtain ⟨v1, l1, d1, e1, p1, q1, rfl, rfl, rfl, h1, h⟩ := trodAll_cons h
  obtain ⟨v2, l2, d2, e2, p2, q2, rfl, rfl, rfl, h2, h⟩ := trodAll_cons h
  obtain ⟨v3, l3, d3, e3, p3, q3, rfl, rfl, rfl, h3, h⟩ := trodAll_cons h
  obtain ⟨v4, l4, d4, e4, p4, q4, rfl, rfl, rfl, h4, h⟩ := trodAll_cons h
  obtain ⟨v5, l5, d5, e5, p5, q5, rfl, rfl, rfl, h5, h⟩ := trodAll_cons h
  obtain ⟨rfl, rfl, rfl⟩ := trodAll_nil h
  exact ⟨v1, v2, v3, v4, v5, d1, d2, d3, d4, d5, p1, p2, p3, p4, p5, rfl, rfl, by simp, h1, h2, h3, h4, h5⟩
theorem trodAll_six {H : Type} {enc : TypeId × Value → H} {P : Program} {w : World} {base : Nat} {sp : Nat → Bool} {held : Bool} {t1 t2 t3 t4 t5 t6 : TypeId} {args : Array Value} {ds : List (DataW H)} {ps : List MemPlace} (h : DataW.TrodAll enc P w base sp held [t1, t2, t3, t4, t5, t6] args.toList ds ps) :
    ∃ v1 v2 v3 v4 v5 v6 d1 d2 d3 d4 d5 d6 p1 p2 p3 p4 p5 p6, args = #[v1, v2, v3, v4, v5, v6] ∧ ds = [d1, d2, d3, d4, d5, d6] ∧ ps = p1 ++ (p2 ++ (p3 ++ (p4 ++ (p5 ++ p6)))) ∧ DataW.Trod enc P w base sp held t1 v1 d1 p1 ∧ DataW.Trod enc P w base sp held t2 v2 d2 p2 ∧ DataW.Trod enc P w base sp held t3 v3 d3 p3 ∧ DataW.Trod enc P w base sp held t4 v4 d4 p4 ∧ DataW.Trod enc P w base sp held t5 v5 d5 p5 ∧ DataW.Trod enc P w base sp held t6 v6 d6 p6 := by
  obtain ⟨l⟩ := args
  obtain ⟨v1, l1, d1, e1, p1, q1, rfl, rfl, rfl, h1, h⟩ := trodAll_cons h
  obtain ⟨v2, l2, d2, e2, p2, q2, rfl, rfl, rfl, h2, h⟩ := trodAll_cons h
  obtain ⟨v3, l3, d3, e3, p3, q3, rfl, rfl, rfl, h3, h⟩ := trodAll_cons h
  obtain ⟨v4, l4, d4, e4, p4, q4, rfl, rfl, rfl, h4, h⟩ := trodAll_cons h
  obtain ⟨v5, l5, d5, e5, p5, q5, rfl, rfl, rfl, h5, h⟩ := trodAll_cons h
  obtain ⟨v6, l6, d6, e6, p6, q6, rfl, rfl, rfl, h6, h⟩ := trodAll_cons h
  obtain ⟨rfl, rfl, rfl⟩ := trodAll_nil h
  exact ⟨v1, v2, v3, v4, v5, v6, d1, d2, d3, d4, d5, d6, p1, p2, p3, p4, p5, p6, rfl, rfl, by simp, h1, h2, h3, h4, h5, h6⟩
end Go.Proofs.YtikboodjfanjkaaGreatDoor
