/- deedboxref3.ReachOf: the walk. slices.IndexFunc and DeleteFunc at []int, at whatever function value that answers by a plain predicate. slices.DeleteFunc, in plain words. Of no program. slices.DeleteFunc at []int. slices.IndexFunc and DeleteFunc at []string, at whatever function value that answers by a plain predicate. A store in memory; the methods that only read a field or write one. store: Get, Born, Next, write, Swap, Drop. DERIVED: THE SHELF's CONTRACTS AT THIS DUMP, IN PLAIN WORDS (tools/lay-plain.mjs out of 'TryzIter.lean', which tools/lay-shelf.mjs wrote): THE SAME DECLARATIONS UNDER THE SAME NAMES: 'import', 'namespace', 'open', 'def', 'theorem' AND NOTHING ELSE: no command of the shelf's: FOR A HAND-IN. Each laying: the table of numbers ('.._ren') and one theorem, a field a fact of the dump's own or the kernel's comparison; each contract: ONE APPLICATION. store: Names: the keys, sorted. A loop over a function's values whose rounds all go on: the caller's invariant need only abide what is new since the loop began. Of no program. -/
import Derived.Test.YtikboodjfanjkaaGreatDoorBx11
import Derived.Test.YtikboodjfanjkaaGreatDoorBx2
import Derived.Test.YtikboodjfanjkaaGreatDoorBx5
import Derived.Outline
import Derived.Test.YtikboodjfanjkaaGreatDoorBx4
import Derived.Test.YtikboodjfanjkaaGreatDoorBx1
import Derived.Test.YtikboodjfanjkaaGreatDoorBx9
import Derived.Maps.OwnOps
import Derived.Shelf.SlIter.Nil
import Derived.Shelf.SortM.Plain
import Derived.Shelf.SortM.SortNone
import Derived.Shelf.SlMaps.Clone
import Derived.Shelf.SlMaps.Equal
import Derived.Test.YtikboodjfanjkaaGreatDoorProg
import Derived.Sort.MapsRangeIn
import Derived.RangeFuncLeaves
import Derived.WalkKit
import Derived.OwnWalkIn
import Derived.TacticsInMore
import Derived.RegionIn
import Derived.LoopNIn
import Derived.LoopIn
import Derived.RangeFuncOwn
import Derived.RangeFuncGives
namespace Go.Proofs.YtikboodjfanjkaaGreatDoor
open Go.RowKit
attribute [local go_sem] bapp

theorem foldW_app (xs ys l : List Str) : (xs ++ ys).foldl withL l = ys.foldl withL (xs.foldl withL l) := List.foldl_append
set_option maxRecDepth 20000 in
set_option maxHeartbeats 1000000 in
theorem reachOf_any (v : Value) (l : List SnV) (w : World) (hl : SnapsAt w v l) (hh : HeldSn w l) (hf : FewSn l) :
    Calls Tryz.prog 16 #[v] w fun e w' => ∃ u, e = .returned u ∧ StrsAt w' u (reachR (plainS l)) ∧ Below w.heap.size w w' := by
  obtain ⟨a, c, b, o, rfl, ha, hc, hcm, hx⟩ := hl
  unfold maxLen at hcm
  have hn := hf.len
  go_enter Tryz.func16, Tryz.ntmps16
  go_wp2_with fail
  go_loopw [3, 4] (fun v i wr => ∃ (k : Nat) (out : List Str), i = .int .i64 k ∧ k ≤ l.length ∧ out.length ≤ k * 101 ∧ Hid (out = reachR (plainS (l.take k))) ∧ StrsAt wr v out ∧ Below w.heap.size w wr) (fun _ i _ => l.length - (intOf i).toNat)
  case atStart => exact ⟨0, [], rfl, by omega, by simp, Lib.hid rfl, At.nil _ _ _, Below.refl _ _⟩
  case round =>
    obtain ⟨k, out, rfl, hk, hol, HO, ho, hb⟩ := hrel
    by_cases hlt : k < l.length
    case neg =>
      obtain rfl : k = l.length := by omega
      have f : decide ((l.length : Int) < (l.length : Int)) = false := by simp
      have HR : Hid (out = reachR (plainS l)) := Lib.hid (by rw [HO.out, List.take_length])
      clear hx ha hol
      go_wp2_with fail
      go_ret
      exact ⟨_, rfl, by rw [← HR.out]; exact ho, hb⟩
    obtain ⟨x, hxk⟩ := get_ex hlt
    have hxm := List.mem_of_getElem? hxk
    obtain ⟨c0, -, -, -, -, -, c6⟩ := snAtCells hx hb hxk
    have i1 := idx_at (c := c) 7 Tryz.underlying22 szSn ha k hlt
    have f : (k : Int) < (l.length : Int) := by omega
    obtain ⟨hid0, hid1⟩ := hf.num x hxm
    have hfl := hf.fil x hxm
    have hil := itoa_len x.s.id hid0 hid1
    obtain ⟨fa, fc, fb, fo, hv, hfa, hfc, hfcm, hfx⟩ := hh x hxm
    simp only [SnV.u, Value.slice.injEq] at hv
    obtain ⟨e1, e2, e3⟩ := hv
    rw [e1, e2, e3] at c6
    unfold maxLen at hfcm
    have hrs : reachR (plainS (l.take (k + 1))) = (x.s.files.map (·.path)).foldl withL (withL (reachR (plainS (l.take k))) (nameS x.s.id)) := by
      unfold reachR
      rw [reachAll_snoc hxk, foldW_app]
      rfl
    have HRs := Lib.hid hrs
    clear hxk hxm hrs e1 e2 e3
    have C6 := Lib.hid (fun (W : World) (hW : Below wr.heap.size wr W) => (hW.cell (World.block_lt_of_cell? wr _ c6)).trans c6)
    go_wp2_with fail
    refine (decimalE_any x.s.id _ hid0 hid1).mono ?_
    rintro e w2 ⟨rfl, hb2⟩
    have hbw2 := hb.trans (hb2.mono hb.size)
    have ho2 := ho.below hb2
    have hlo : out.length ≤ 100000 := by omega
    go_wp2_with fail
    refine (with_any _ out (nameS x.s.id) _ ho2 hlo).mono ?_
    rintro e w3 ⟨v3, rfl, ho3, hb3⟩
    have hbw3 := hbw2.trans (hb3.mono hbw2.size)
    have hr3 := hb2.trans (hb3.mono hb2.size)
    have hol3 : (withL out (nameS x.s.id)).length ≤ k * 101 + 1 := Nat.le_trans (withL_len _ _) (by omega)
    obtain ⟨fl, hfe⟩ : ∃ fl, fl = x.s.files := ⟨_, rfl⟩
    rw [← hfe] at hfl hfa hfc hfx C6 c6 HRs
    obtain ⟨out3, hout3⟩ : ∃ out3, out3 = withL out (nameS x.s.id) := ⟨_, rfl⟩
    have HO3 : Hid (withL (reachR (plainS (l.take k))) (nameS x.s.id) = out3) := Lib.hid (by rw [hout3, HO.out])
    rw [← hout3] at ho3 hol3
    clear c0 c6 ho ho2 hb2 hb3 hbw2 hil hout3 hfe hlo hid0 hid1
    go_wp2_with fail
    go_loopw [3, 5] (fun v i wq => ∃ (m : Nat) (out : List Str), i = .int .i64 m ∧ m ≤ fl.length ∧ out.length ≤ k * 101 + 1 + m ∧ Hid (out = ((fl.take m).map (·.path)).foldl withL out3) ∧ StrsAt wq v out ∧ Below w.heap.size w wq ∧ Hid (wq.cell? ⟨b, o + k * 7 + 6, none⟩ = some (.slice fa fl.length fc))) (fun _ i _ => fl.length - (intOf i).toNat)
    case atStart => exact ⟨0, out3, rfl, by omega, by omega, Lib.hid rfl, ho3, hbw3, Lib.hid (C6.out _ hr3)⟩
    case round =>
      obtain ⟨m, out4, rfl, hm, hol4, HO4, ho4, hb4, hc6⟩ := hrel
      have c6 := hc6.out
      clear hbw3 ho3 hol3
      by_cases hlm : m < fl.length
      case neg =>
        obtain rfl : m = fl.length := by omega
        have f2 : decide ((fl.length : Int) < (fl.length : Int)) = false := by simp
        have HF : Hid (out4 = reachR (plainS (l.take (k + 1)))) := Lib.hid (by rw [HO4.out, HRs.out, List.take_length, HO3.out])
        go_wp2_with fail
        go_roundw
        case rel => exact ⟨k + 1, out4, by go_num, by omega, by omega, HF, ho4, hb4⟩
        case measure => simp [intOf]; omega
      obtain ⟨y, hym⟩ := get_ex hlm
      obtain ⟨q0, -⟩ := flCells hfx hb4 hym
      have i2 := idx_at (c := fc) 6 Tryz.underlying28 szFl hfa m hlm
      have f2 : (m : Int) < (fl.length : Int) := by omega
      have HRm : Hid (((fl.take (m + 1)).map (·.path)).foldl withL out3 = withL out4 y.path) := Lib.hid (by rw [take_map_snoc hym, foldW_app, HO4.out]; rfl)
      have hlo4 : out4.length ≤ 100000 := by omega
      have hol5 : (withL out4 y.path).length ≤ k * 101 + 1 + (m + 1) := Nat.le_trans (withL_len _ _) (by omega)
      clear hym
      go_wp2_with fail
      refine (with_any _ out4 y.path _ ho4 hlo4).mono ?_
      rintro e w5 ⟨v5, rfl, ho5, hb5⟩
      have hb5' := hb4.trans (hb5.mono hb4.size)
      have c6' := (hb5.cell (World.block_lt_of_cell? _ _ c6)).trans c6
      have Hc6' := Lib.hid c6'
      clear c6 q0
      go_wp2_with fail
      go_roundw
      case rel => exact ⟨m + 1, _, by go_num, by omega, hol5, Lib.hid (by rw [HRm.out]), ho5, hb5', Hc6'⟩
      case measure => simp [intOf]; omega
end Go.Proofs.YtikboodjfanjkaaGreatDoor
namespace Go.Proofs.YtikboodjfanjkaaGreatDoor
open Go.RowKit

end Go.Proofs.YtikboodjfanjkaaGreatDoor
namespace Go.Proofs.YtikboodjfanjkaaGreatDoor

/-- How far the list is, and what it holds by then. -/
def DelRel {α : Type} (p : α → Bool) (l : List α) (i j : Nat) (ys : List α) : Prop :=
  i < j ∧ j ≤ l.length ∧ ys.length = l.length ∧ ys.take i = (l.take j).filter (fun x => !p x) ∧ ys.drop j = l.drop j

theorem filter_take_none {α : Type} {p : α → Bool} {l : List α} {k : Nat} (h : ∀ (j : Nat) (y : α), j < k → l[j]? = some y → p y = false) : (l.take k).filter (fun x => !p x) = l.take k := by
  refine List.filter_eq_self.2 fun x hx => ?_
  obtain ⟨j, hj, he⟩ := List.getElem_of_mem hx
  rw [List.length_take] at hj
  have : l[j]? = some x := by rw [List.getElem_take] at he; simp [he, show j < l.length by omega]
  simp [h j x (by omega) this]
theorem DelRel.start {α : Type} {p : α → Bool} {l : List α} {k : Nat} {x : α} (hk : l[k]? = some x) (hp : p x = true) (h : ∀ (j : Nat) (y : α), j < k → l[j]? = some y → p y = false) : DelRel p l k (k + 1) l := by
  have hlt : k < l.length := by
    rcases Nat.lt_or_ge k l.length with h' | h'
    · exact h'
    · rw [List.getElem?_eq_none h'] at hk; cases hk
  refine ⟨by omega, by omega, rfl, ?_, rfl⟩
  rw [List.take_add_one, hk, List.filter_append, filter_take_none h]
  simp [hp]
theorem DelRel.skip {α : Type} {p : α → Bool} {l ys : List α} {i j : Nat} {x : α} (h : DelRel p l i j ys) (hx : l[j]? = some x) (hp : p x = true) : DelRel p l i (j + 1) ys := by
  obtain ⟨h1, h2, h3, h4, h5⟩ := h
  have hlt : j < l.length := by
    rcases Nat.lt_or_ge j l.length with h' | h'
    · exact h'
    · rw [List.getElem?_eq_none h'] at hx; cases hx
  refine ⟨by omega, by omega, h3, ?_, ?_⟩
  · rw [h4, List.take_add_one, hx, List.filter_append]; simp [hp]
  · rw [← List.drop_drop, h5, List.drop_drop]
theorem DelRel.keep {α : Type} {p : α → Bool} {l ys : List α} {i j : Nat} {x : α} (h : DelRel p l i j ys) (hx : l[j]? = some x) (hp : p x = false) : DelRel p l (i + 1) (j + 1) (ys.set i x) := by
  obtain ⟨h1, h2, h3, h4, h5⟩ := h
  have hlt : j < l.length := by
    rcases Nat.lt_or_ge j l.length with h' | h'
    · exact h'
    · rw [List.getElem?_eq_none h'] at hx; cases hx
  refine ⟨by omega, by omega, by simpa using h3, ?_, ?_⟩
  · rw [List.take_add_one (l := l), hx, List.filter_append, ← h4, List.take_add_one, List.take_set_of_le (Nat.le_refl _), List.getElem?_set_self (by omega)]
    simp [hp]
  · rw [List.drop_set_of_lt (by omega), ← List.drop_drop, h5, List.drop_drop]
theorem DelRel.next {α : Type} {p : α → Bool} {l ys : List α} {i j : Nat} {x : α} (h : DelRel p l i j ys) (hx : l[j]? = some x) : ys[j]? = some x := by
  have : (ys.drop j)[0]? = (l.drop j)[0]? := by rw [h.2.2.2.2]
  simpa [hx] using this
theorem DelRel.done {α : Type} {p : α → Bool} {l ys : List α} {i : Nat} (h : DelRel p l i l.length ys) : ys.take i = l.filter (fun x => !p x) := by
  have := h.2.2.2.1; rwa [List.take_length] at this

end Go.Proofs.YtikboodjfanjkaaGreatDoor
namespace Go.Proofs.YtikboodjfanjkaaGreatDoor
open Go.RowKit

theorem own_cell1 {α : Type} {val : α → Value} {e : TypeId} {B : Nat} {w : World} {g n cap : Nat} {l : List α} (hen : Enc (fun x => [val x]) 1) (h : Own (fun x => [val x]) e 1 B w (.slice (some ⟨g, 0, none⟩) n cap) l) {k : Nat} {x : α} (hk : l[k]? = some x) :
    w.cell? ⟨g, k, none⟩ = some (val x) ∧ w.frozen? ⟨g, k, none⟩ = false ∧ B ≤ g := by
  have hlt : k < l.length := by
    rcases Nat.lt_or_ge k l.length with h' | h'
    · exact h'
    · rw [List.getElem?_eq_none h'] at hk; cases hk
  obtain ⟨g', cap', cur, hv, hB, hg, hc, hm, hs, ht⟩ := h.open (by omega)
  cases hv
  refine ⟨?_, frozen_row hg, hB⟩
  have := flat_get hen l k x hk 0 (val x) rfl
  rw [← ht] at this
  rw [cell_of_row w g k cur e (0, 0) hg]
  simp only [Nat.mul_one, Nat.add_zero] at this
  rw [List.getElem?_take, if_pos hlt] at this
  simpa using this

end Go.Proofs.YtikboodjfanjkaaGreatDoor
namespace Go.Proofs.YtikboodjfanjkaaGreatDoor
open Go.RowKit

theorem indexFuncS_any (f : FuncId) (caps : Array Value) (p : Str → Bool) (base : Nat) (w0 : World) (v : Value) (l : List Str) (w : World) (hf : Clo Tryz.prog f) (hp : PredOn Tryz.prog f caps S l p base w0)
    (hl : StrsAt w v l) (hw : Below base w0 w) (hB : base ≤ w.heap.size) :
    Calls Tryz.prog 134 #[v, .func (.func f) #[] caps] w fun e w' => e = .returned (.int .i64 (idxVal p l)) ∧ Below w.heap.size w w' := by
  obtain ⟨a, c, b, o, rfl, ha, hc, hcm, hx⟩ := hl
  unfold maxLen at hcm
  have hf' := hf
  unfold Clo at hf'
  go_enter Tryz.func134, Tryz.ntmps134
  go_wp2_with fail
  go_loopw [8] (fun i wr => ∃ k : Nat, k ≤ l.length ∧ i = .int .i64 k ∧ Hid (∀ j y, j < k → l[j]? = some y → p y = false) ∧ Below w.heap.size w wr) (fun i _ => l.length - (intOf i).toNat)
  case atStart => exact ⟨0, by omega, rfl, fun j y hj => absurd hj (by omega), Below.refl _ _⟩
  case round =>
    obtain ⟨k, hk, rfl, hj, hb⟩ := hrel
    by_cases hlt : k < l.length
    · obtain ⟨x, hxk⟩ := get_ex hlt
      have c1 := hx k x hxk 0 _ rfl
      have c1 := (hb.cell (World.block_lt_of_cell? w _ c1)).trans c1
      have i1 := idx_at (c := c) 1 Tryz.underlying24 szStr ha k hlt
      have hk1 : (k : Int) < (l.length : Int) := by omega
      simp only [Nat.mul_one, Nat.add_zero] at c1 i1
      have hpx := hp wr x (List.mem_of_getElem? hxk) (hw.trans (hb.mono hB)) (Nat.le_trans hB hb.size)
      have Hp := Lib.hid hpx; clear hpx
      have Hx := Lib.hid hxk; clear hxk
      go_wp2_with fail
      refine Hp.out.mono ?_
      rintro e w1 ⟨rfl, hb1⟩
      have hb2 := hb.trans (hb1.mono hb.size)
      cases hpv : p x with
      | true =>
        have Hpv := Lib.hid hpv; clear hpv
        go_wp2_with fail
        go_ret
        refine ⟨?_, hb2⟩
        rw [idxVal_some Hx.out Hpv.out hj.out]; rfl
      | false =>
        have Hpv := Lib.hid hpv; clear hpv
        go_wp2_with fail
        go_roundw
        case rel => exact ⟨k + 1, by omega, by go_num, (fun j y hj' hy => by
          rcases Nat.lt_or_ge j k with h | h
          · exact hj.out j y h hy
          · obtain rfl : j = k := by omega
            rw [Hx.out] at hy
            obtain rfl := Option.some.inj hy
            exact Hpv.out), hb2⟩
        case measure => simp [intOf]; omega
    · obtain rfl : k = l.length := by omega
      go_wp2_with fail
      go_ret
      refine ⟨?_, hb⟩
      rw [idxVal_none fun j x hj' => hj.out j x (by
        rcases Nat.lt_or_ge j l.length with h | h
        · exact h
        · rw [List.getElem?_eq_none h] at hj'; cases hj') hj']
      rfl

set_option maxHeartbeats 1000000 in
theorem deleteFuncS_any (f : FuncId) (caps : Array Value) (p : Str → Bool) (base : Nat) (w0 : World) (v : Value) (l : List Str) (w : World) (hf : Clo Tryz.prog f) (hp : PredOn Tryz.prog f caps S l p base w0)
    (hl : Own encS 9 1 base w v l) (hw : Below base w0 w) (hB : base ≤ w.heap.size) :
    Calls Tryz.prog 82 #[v, .func (.func f) #[] caps] w fun e w' => ∃ v', e = .returned v' ∧ Own encS 9 1 base w' v' (l.filter fun x => !p x) ∧ Below base w w' := by
  have hif := indexFuncS_any f caps p base w0 v l w hf hp (hl.at encS_enc) hw hB
  have Hif := Lib.hid hif; clear hif
  have Hf := Lib.hid hf; clear hf
  have Hp := Lib.hid hp; clear hp
  by_cases hall : ∀ (j : Nat) (x : Str), l[j]? = some x → p x = false
  · have e1 : idxVal p l = -1 := idxVal_none hall
    have e2 : l.filter (fun x => !p x) = l := List.filter_eq_self.2 fun x hx => by
      obtain ⟨j, hj, he⟩ := List.getElem_of_mem hx
      simp [hall j x (by simp [hj, he])]
    have H1 := Lib.hid e1; have H2 := Lib.hid e2; clear e1 e2 hall
    go_enter Tryz.func82, Tryz.ntmps82
    go_wp2_with fail
    refine Hif.out.mono ?_
    rintro e w1 ⟨rfl, hb⟩
    rw [H1.out]
    go_wp2_with fail
    go_ret
    exact ⟨v, rfl, by rw [H2.out]; exact hl.below hb, hb.mono hB⟩
  · obtain ⟨k, x, hk, hpx, hlow⟩ : ∃ (k : Nat) (x : Str), l[k]? = some x ∧ p x = true ∧ ∀ (j : Nat) (y : Str), j < k → l[j]? = some y → p y = false := by
      cases hfi : l.findIdx? p with
      | none =>
        exfalso; refine hall fun j x hj => ?_
        have := List.findIdx?_eq_none_iff.1 hfi x (List.mem_of_getElem? hj)
        exact this
      | some k =>
        obtain ⟨h1, h2, h3⟩ := List.findIdx?_eq_some_iff_getElem.1 hfi
        refine ⟨k, l[k], by simp, h2, fun j y hj hy => ?_⟩
        have h4 : j < l.length := by omega
        have := h3 j hj
        have hy' : l[j] = y := by rw [List.getElem?_eq_getElem h4] at hy; exact Option.some.inj hy
        rw [hy'] at this; simpa using this
    have hlt : k < l.length := by
      rcases Nat.lt_or_ge k l.length with h' | h'
      · exact h'
      · rw [List.getElem?_eq_none h'] at hk; cases hk
    have e1 : idxVal p l = k := idxVal_some hk hpx hlow
    have hst := DelRel.start hk hpx hlow
    obtain ⟨g, cap, cur, rfl, hBg, _, hcap, hm, _, _⟩ := hl.open (by omega)
    unfold maxLen at hm
    have hne : ((k : Int) == -1) = false := beq_eq_false_iff_ne.2 (by omega)
    have H1 := Lib.hid e1; have Hst := Lib.hid hst; clear e1 hst hall hlow hk
    go_enter Tryz.func82, Tryz.ntmps82
    go_wp2_with fail
    refine Hif.out.mono ?_
    rintro e w1 ⟨rfl, hb⟩
    rw [H1.out]
    have ho1 := hl.below hb
    have hb1 : Below base w w1 := hb.mono hB
    clear hl hb
    go_wp2_with fail
    go_loopw [5, 6] (fun s5 s6 wr => ∃ (i j : Nat) (ys : List Str), s5 = .int .i64 i ∧ s6 = .int .i64 j ∧ Hid (DelRel p l i j ys) ∧ Own encS 9 1 base wr (.slice (some ⟨g, 0, none⟩) l.length cap) ys ∧ Below base w wr) (fun _ s6 _ => l.length - (intOf s6).toNat)
    case atStart => exact ⟨k, k + 1, l, rfl, by go_num, Hst.out, ho1, hb1⟩
    case round =>
      obtain ⟨i, j, ys, rfl, rfl, hd, ho, hbr⟩ := hrel
      have hij := hd.out.1
      have hjn := hd.out.2.1
      have hysl := hd.out.2.2.1
      have Hysl := Lib.hid hysl; clear hysl
      by_cases hlt' : j < l.length
      · obtain ⟨x', hxj⟩ := get_ex hlt'
        have hyj := hd.out.next hxj
        obtain ⟨c1, _, _⟩ := own_cell1 (val := S) encS_enc ho hyj
        have hk1 : (j : Int) < (l.length : Int) := by omega
        have hpc := Hp.out wr x' (List.mem_of_getElem? hxj) (hw.trans hbr) (Nat.le_trans hB hbr.size)
        have Hpc := Lib.hid hpc; clear hpc hyj
        have Hxj := Lib.hid hxj; clear hxj
        have hf' := Hf.out
        unfold Clo at hf'
        go_wp2_with fail
        refine Hpc.out.mono ?_
        rintro e w2 ⟨rfl, hb2⟩
        have ho2 := ho.below hb2
        have hbr2 : Below base w w2 := hbr.trans (hb2.mono (Nat.le_trans hB hbr.size))
        clear c1
        cases hpv : p x' with
        | true =>
          have hd2 := hd.out.skip Hxj.out hpv
          have Hd2 := Lib.hid hd2; clear hd2 hpv
          go_wp2_with fail
          go_roundw
          case rel => exact ⟨i, j + 1, ys, rfl, by go_num, Hd2.out, ho2, hbr2⟩
          case measure => simp [intOf]; omega
        | false =>
          have hd2 := hd.out.keep Hxj.out hpv
          have Hd2 := Lib.hid hd2; clear hd2 hpv
          obtain ⟨y', hyi⟩ := get_ex (l := ys) (k := i) (by rw [Hysl.out]; omega)
          obtain ⟨c2, f2, _⟩ := own_cell1 (val := S) encS_enc ho2 hyi
          have ho3 := Own.set1 (val := S) encS_enc ho2 (i := i) (by rw [Hysl.out]; omega) x'
          have hk2 : (i : Int) < (l.length : Int) := by omega
          have Ho3 := Lib.hid ho3; clear ho3 hyi
          go_wp2_with fail
          go_roundw
          case rel => exact ⟨i + 1, j + 1, ys.set i x', by go_num, by go_num, Hd2.out, Ho3.out, hbr2.setCell (p := ⟨g, i, none⟩) hBg _⟩
          case measure => simp [intOf]; omega
      · obtain rfl : j = l.length := by omega
        have hfin := hd.out.done
        have Hfin := Lib.hid hfin; clear hfin
        obtain ⟨cs, hrun, ho2⟩ := run_clear_own (c := cap - i) elStr encS_enc (fun z hz u hu => by
          have : (Tryz.prog.info? 9).bind (·.zero) = some (.string ByteArray.empty) := by kernel_rfl
          rw [this] at hz; cases hz
          simp [Value.cells] at hu; subst hu; rfl) ho (k := i) (by rw [Hysl.out]; omega)
        simp only [Nat.mul_one] at hrun
        have hci : ¬ cap = i := by omega
        have hcap2 : (i : Int) ≤ (cap : Int) := by omega
        have hil : (i : Int) ≤ (l.length : Int) := by omega
        have Ho2 := Lib.hid ho2; clear ho2
        go_wp2_with fail
        go_ret
        refine ⟨.slice (some ⟨g, 0, none⟩) i cap, rfl, ?_, Bset hbr hBg _⟩
        have := Ho2.out
        rwa [Hfin.out] at this
end Go.Proofs.YtikboodjfanjkaaGreatDoor
namespace Go.Proofs.YtikboodjfanjkaaGreatDoor
open Go.RowKit Go.Maps

/-- What a store's map holds, as it reads. -/
def objElem (v : Value) : Option (DataW Unit × List MemPlace) :=
  match v with
  | .agg cs => match cs.toList with
    | [.string s, .int .i64 d] => if s.size ≤ maxLen then some (obT s.data.toList d, []) else none
    | _ => none
  | _ => none
theorem objElem_mk {t : Str} {d : Int} (h : t.length ≤ maxLen) : objElem (.agg #[S t, .int .i64 d]) = some (obT t d, []) := by
  have : (ByteArray.mk t.toArray).size ≤ maxLen := by simpa [ByteArray.size] using h
  simp [objElem, this]
theorem objElem_inv {v : Value} {t : Str} {d : Int} {ps : List MemPlace} (h : objElem v = some (obT t d, ps)) : v = .agg #[S t, .int .i64 d] := by
  unfold objElem at h
  split at h
  · rename_i cs
    split at h
    · rename_i s d' hcs
      split at h
      · simp only [Option.some.injEq, Prod.mk.injEq, obT, DataW.agg.injEq, List.cons.injEq, DataW.lit.injEq, Lit.string.injEq, Lit.int.injEq, and_true, true_and] at h
        obtain ⟨⟨h1, h2⟩, -⟩ := h
        have : cs = #[.string s, .int .i64 d'] := by rw [← hcs]
        rw [this, h2]
        have hs : S t = .string s := by rw [← h1]
        rw [hs]
      · cases h
    · cases h
  · cases h

/-- A store, in plain words. -/
structure St where
  objs : List Ob
  head : Str
  day : Int
  off : Bool
  cut : Int
  deriving DecidableEq

def St.new : St := ⟨[], [], 0, false, -1⟩

abbrev stCells (mb : Nat) (s : St) : Array Value := #[.map (some mb), S s.head, .int .i64 s.day, .bool s.off, .int .i64 s.cut]

/-- What holds of each store. -/
structure St.Ok (s : St) : Prop where
  ris : Rising s.objs
  day0 : 0 ≤ s.day
  day1 : s.day ≤ 100000
  cut0 : -1 ≤ s.cut
  cut1 : s.cut ≤ 9223372036854775807
  txt : ∀ o ∈ s.objs, o.text.length ≤ 20000
  nam : ∀ o ∈ s.objs, o.name.length ≤ 20000
  num : s.objs.length ≤ 200
  hd : s.head.length ≤ 20000

/-- The store s lies in block sb, its map in block mb. -/
structure StoreAt (w : World) (sb mb : Nat) (s : St) : Prop where
  blk : w.heap[sb]? = some (.cells (stCells mb s) 100 (0, 0))
  own : w.ownsMap Tryz.prog 9 objElem mb s.objs.length (mapD s.objs)
  ok : s.Ok

theorem StoreAt.lt {w : World} {sb mb : Nat} {s : St} (h : StoreAt w sb mb s) : sb < w.heap.size := (Array.getElem?_eq_some_iff.1 h.blk).1
theorem StoreAt.ltm {w : World} {sb mb : Nat} {s : St} (h : StoreAt w sb mb s) : mb < w.heap.size := h.own.lt
theorem StoreAt.ne {w : World} {sb mb : Nat} {s : St} (h : StoreAt w sb mb s) : sb ≠ mb := by
  rintro rfl
  obtain ⟨es, clock, hb, _⟩ := h.own
  rw [h.blk] at hb; cases hb
theorem StoreAt.below {w w' : World} {sb mb : Nat} {s : St} (h : StoreAt w sb mb s) (hb : Below w.heap.size w w') : StoreAt w' sb mb s :=
  ⟨(hb.block _ h.lt).trans h.blk, h.own.kept (row := none) ⟨hb.os, hb.tape, hb.output, hb.size, fun k hk _ => hb.block k hk⟩ (by simp), h.ok⟩

/-- Nothing that lay there has turned but what lies in these two blocks. -/
structure But2 (sb mb : Nat) (w w' : World) : Prop where
  os : w'.os = w.os
  tape : w'.tape = w.tape
  output : w'.output = w.output
  size : w.heap.size ≤ w'.heap.size
  block : ∀ k, k < w.heap.size → k ≠ sb → k ≠ mb → w'.heap[k]? = w.heap[k]?
theorem But2.of {sb mb : Nat} {w w' : World} (h : Below w.heap.size w w') : But2 sb mb w w' := ⟨h.os, h.tape, h.output, h.size, fun k hk _ _ => h.block k hk⟩
theorem But2.trans {sb mb : Nat} {a b c : World} (h : But2 sb mb a b) (k : But2 sb mb b c) : But2 sb mb a c :=
  ⟨k.os.trans h.os, k.tape.trans h.tape, k.output.trans h.output, Nat.le_trans h.size k.size, fun i hi h1 h2 => (k.block i (Nat.lt_of_lt_of_le hi h.size) h1 h2).trans (h.block i hi h1 h2)⟩
theorem But2.set {sb mb : Nat} (w : World) (i : Nat) (x : Value) : But2 sb mb w (w.setCell ⟨sb, i, none⟩ x) :=
  ⟨rfl, rfl, rfl, by simp [World.setCell], fun k _ h1 _ => (grown_set w sb i x).block k (by assumption) (fun e => h1 (Option.some.inj e))⟩
theorem But2.below {sb mb B : Nat} {a b c : World} (h : Below B a b) (k : But2 sb mb b c) (h1 : B ≤ sb) (h2 : B ≤ mb) (hB : B ≤ b.heap.size) : Below B a c :=
  h.trans ⟨k.os, k.tape, k.output, k.size, fun i hi => k.block i (by omega) (by omega) (by omega)⟩

section
variable {w : World} {sb mb : Nat} {s : St}
theorem StoreAt.c0 (h : StoreAt w sb mb s) : w.cell? ⟨sb, 0, none⟩ = some (.map (some mb)) := by simp [World.cell?, h.blk]
theorem StoreAt.c1 (h : StoreAt w sb mb s) : w.cell? ⟨sb, 1, none⟩ = some (S s.head) := by simp [World.cell?, h.blk]
theorem StoreAt.c2 (h : StoreAt w sb mb s) : w.cell? ⟨sb, 2, none⟩ = some (.int .i64 s.day) := by simp [World.cell?, h.blk]
theorem StoreAt.c3 (h : StoreAt w sb mb s) : w.cell? ⟨sb, 3, none⟩ = some (.bool s.off) := by simp [World.cell?, h.blk]
theorem StoreAt.c4 (h : StoreAt w sb mb s) : w.cell? ⟨sb, 4, none⟩ = some (.int .i64 s.cut) := by simp [World.cell?, h.blk]
theorem StoreAt.fz (h : StoreAt w sb mb s) (i : Nat) : w.frozen? ⟨sb, i, none⟩ = false := by simp [World.frozen?, h.blk]
theorem StoreAt.setBlk (h : StoreAt w sb mb s) (i : Nat) (x : Value) : (w.setCell ⟨sb, i, none⟩ x).heap[sb]? = some (.cells ((stCells mb s).setIfInBounds i x) 100 (0, 0)) := heap_setCell_same w sb i (stCells mb s) 100 x h.blk
theorem StoreAt.ownSet (h : StoreAt w sb mb s) (i : Nat) (x : Value) : (w.setCell ⟨sb, i, none⟩ x).ownsMap Tryz.prog 9 objElem mb s.objs.length (mapD s.objs) := h.own.setCell (by exact fun e => h.ne e.symm) x
theorem StoreAt.setHead (h : StoreAt w sb mb s) {x : Str} (hx : x.length ≤ 20000) : StoreAt (w.setCell ⟨sb, 1, none⟩ (S x)) sb mb { s with head := x } :=
  ⟨h.setBlk 1 _, h.ownSet 1 _, { h.ok with hd := hx }⟩
theorem StoreAt.setDay (h : StoreAt w sb mb s) {x : Int} (h0 : 0 ≤ x) (h1 : x ≤ 100000) : StoreAt (w.setCell ⟨sb, 2, none⟩ (.int .i64 x)) sb mb { s with day := x } :=
  ⟨h.setBlk 2 _, h.ownSet 2 _, { h.ok with day0 := h0, day1 := h1 }⟩
theorem StoreAt.setOff (h : StoreAt w sb mb s) (x : Bool) : StoreAt (w.setCell ⟨sb, 3, none⟩ (.bool x)) sb mb { s with off := x } :=
  ⟨h.setBlk 3 _, h.ownSet 3 _, { h.ok with }⟩
theorem StoreAt.setCut (h : StoreAt w sb mb s) {x : Int} (h0 : -1 ≤ x) (h1 : x ≤ 9223372036854775807) : StoreAt (w.setCell ⟨sb, 4, none⟩ (.int .i64 x)) sb mb { s with cut := x } :=
  ⟨h.setBlk 4 _, h.ownSet 4 _, { h.ok with cut0 := h0, cut1 := h1 }⟩
end

abbrev stP (sb : Nat) : Value := .pointer (some ⟨sb, 0, none⟩)


theorem cutSt_any (E : Nat → Addr) (B : Nat) (sb mb : Nat) (s : St) (n : Int) (w : World) (hE : Errs [2, 12] E B w) (h : StoreAt w sb mb s) (hn : n ≤ 9223372036854775807) :
    Calls Tryz.prog 73 #[stP sb, .int .i64 n] w fun e w' => ∃ ev, e = .returned ev ∧
      ErV E w' ev (if n < 0 then .bare 2 else if s.off then .bare 12 else .nil) ∧ StoreAt w' sb mb (if n < 0 ∨ s.off then s else { s with cut := n }) ∧ But2 sb mb w w' := by
  have v2 := hE.var 2 (by decide)
  have v12 := hE.var 12 (by decide)
  simp only [errG] at v2 v12
  have c3 := h.c3
  have c4 := h.c4
  have f4 := h.fz 4
  by_cases h0 : n < 0
  · rw [if_pos h0, if_pos (.inl h0)]
    go_enter Tryz.func73, Tryz.ntmps73
    go_wp2_with fail
    go_ret
    exact ⟨_, rfl, ⟨by decide, rfl⟩, h, .of (Below.refl _ _)⟩
  rw [if_neg h0]
  have g0 : 0 ≤ n := by omega
  obtain ⟨objs, head, day, off, cut⟩ := s
  have H := Lib.hid h; clear h
  cases off with
  | true =>
    simp only [h0, false_or, if_true]
    simp only at c3 c4
    clear h0
    go_enter Tryz.func73, Tryz.ntmps73
    go_wp2_with fail
    go_ret
    exact ⟨_, rfl, ⟨by decide, rfl⟩, H.out, .of (Below.refl _ _)⟩
  | false =>
    simp only [h0, false_or, Bool.false_eq_true, if_false]
    simp only at c3 c4
    clear h0
    go_enter Tryz.func73, Tryz.ntmps73
    go_wp2_with fail
    go_ret
    exact ⟨_, rfl, rfl, H.out.setCut (by omega) hn, .set _ _ _⟩
theorem on_any (sb mb : Nat) (s : St) (w : World) (h : StoreAt w sb mb s) :
    Calls Tryz.prog 75 #[stP sb] w fun e w' => e = .returned (.tuple #[]) ∧ StoreAt w' sb mb { s with off := false, cut := -1 } ∧ But2 sb mb w w' := by
  have c3 := h.c3
  have c4 := h.c4
  have f3 := h.fz 3
  have f4 := h.fz 4
  have H := Lib.hid h; clear h
  go_enter Tryz.func75, Tryz.ntmps75
  go_wp2_with fail
  go_end0
  exact ⟨rfl, (H.out.setOff false).setCut (by decide) (by decide), (But2.set w 3 _).trans (But2.set _ 4 _)⟩
end Go.Proofs.YtikboodjfanjkaaGreatDoor
namespace Go.Proofs.YtikboodjfanjkaaGreatDoor
open Go.RowKit Go.Maps

def obV : Option Ob → Value
  | some o => .agg #[S o.text, .int .i64 o.day]
  | none => .agg #[.string ⟨#[]⟩, .int .i64 0]
theorem zeroOb (w : World) : (zeroValue 127).run Tryz.prog w = .ok (.agg #[.string ⟨#[]⟩, .int .i64 0]) w := by kernel_rfl
theorem keyStr {n : Str} (h : n.length ≤ 100000) : keyOf Tryz.prog 9 (S n) = some (.string n) := by
  have := WideMaps.keyOf_string_mk Tryz.underlying9 (s := ⟨n.toArray⟩) (by show n.toArray.size ≤ _; unfold maxLen; simp; omega)
  exact this
theorem look_any {w : World} {sb mb : Nat} {s : St} (h : StoreAt w sb mb s) (n : Str) (hn : n.length ≤ 100000) :
    (Instr.lookup 98 (.map (some mb)) (S n) true).run Tryz.prog w = .ok (.tuple #[obV (getO s.objs n), .bool (getO s.objs n).isSome]) w := by
  obtain ⟨v, ps, hrun, hv⟩ := h.own.look_ok (string_keyed Tryz.underlying9) Tryz.underlying98 (zeroOb w) (zd := obT [] 0) (zp := []) (objElem_mk (t := []) (by decide)) (keyStr hn)
  rw [hrun, has_mapD]
  rw [at_mapD] at hv
  cases hg : getO s.objs n with
  | none => rw [hg] at hv; rw [objElem_inv hv]; rfl
  | some o => rw [hg] at hv; rw [objElem_inv hv]; rfl

set_option maxRecDepth 20000 in
theorem get_any (E : Nat → Addr) (B : Nat) (sb mb : Nat) (s : St) (n : Str) (w : World) (hE : Errs [6] E B w) (h : StoreAt w sb mb s) (hn : n.length ≤ 100000) :
    Calls Tryz.prog 67 #[stP sb, S n] w fun e w' => ∃ ev, e = .returned (.tuple #[S (((getO s.objs n).map (·.text)).getD []), ev]) ∧ ErV E w' ev (if (getO s.objs n).isSome then .nil else .bare 6) ∧ Below w.heap.size w w' := by
  have v6 := fun o => (hE.below' ((Below.refl _ w).alloc (Nat.le_refl _) o) hE.le).var 6 (by decide)
  simp only [errG] at v6
  have v6 := v6 (.cells #[.string ⟨#[]⟩, .int .i64 0] 127)
  have c0 := h.c0
  have hl := look_any h n hn
  cases hg : getO s.objs n with
  | none =>
    rw [hg] at hl
    simp only [obV, Option.isSome_none] at hl
    clear hg
    go_enter Tryz.func67, Tryz.ntmps67
    go_wp2_with fail
    go_quiet (fail)
    go_wp2_with fail
    go_ret2
    exact ⟨_, rfl, ⟨by decide, rfl⟩, Bdn ((Below.refl _ _).alloc (Nat.le_refl _) _) _⟩
  | some o =>
    rw [hg] at hl
    simp only [obV, Option.isSome_some] at hl
    clear hg
    go_enter Tryz.func67, Tryz.ntmps67
    go_wp2_with fail
    go_ret2
    exact ⟨_, rfl, rfl, (Below.refl _ _).alloc (Nat.le_refl _) _⟩

set_option maxRecDepth 20000 in
theorem born_any (sb mb : Nat) (s : St) (n : Str) (w : World) (h : StoreAt w sb mb s) (hn : n.length ≤ 100000) :
    Calls Tryz.prog 26 #[stP sb, S n] w fun e w' => e = .returned (.int .i64 (((getO s.objs n).map (·.day)).getD (-1))) ∧ Below w.heap.size w w' := by
  have c0 := h.c0
  have hl := look_any h n hn
  cases hg : getO s.objs n with
  | none =>
    rw [hg] at hl
    simp only [obV, Option.isSome_none] at hl
    clear hg
    go_enter Tryz.func26, Tryz.ntmps26
    go_wp2_with fail
    go_ret
    exact ⟨rfl, (Below.refl _ _).alloc (Nat.le_refl _) _⟩
  | some o =>
    rw [hg] at hl
    simp only [obV, Option.isSome_some] at hl
    clear hg
    go_enter Tryz.func26, Tryz.ntmps26
    go_wp2_with fail
    go_ret
    exact ⟨rfl, (Below.refl _ _).alloc (Nat.le_refl _) _⟩
theorem daySt_any (sb mb : Nat) (s : St) (w : World) (h : StoreAt w sb mb s) :
    Calls Tryz.prog 25 #[stP sb] w fun e w' => e = .returned (.int .i64 s.day) ∧ w = w' := by
  have c2 := h.c2
  go_enter Tryz.func25, Tryz.ntmps25
  go_wp2_with fail
  go_ret
  exact ⟨rfl, rfl⟩

/-- Days on. -/
def nextBad (s : St) (n : Int) : Prop := n < 0 ∨ 100000 - s.day < n
instance (s : St) (n : Int) : Decidable (nextBad s n) := inferInstanceAs (Decidable (_ ∨ _))
def nextS (s : St) (n : Int) : St := if nextBad s n then s else { s with day := s.day + n }
set_option maxRecDepth 20000 in
theorem next_any (E : Nat → Addr) (B : Nat) (sb mb : Nat) (s : St) (n : Int) (w : World) (hE : Errs [2] E B w) (h : StoreAt w sb mb s) :
    Calls Tryz.prog 77 #[stP sb, .int .i64 n] w fun e w' => ∃ ev, e = .returned (.tuple #[.int .i64 (if nextBad s n then 0 else s.day + n), ev]) ∧
      ErV E w' ev (if nextBad s n then .bare 2 else .nil) ∧ StoreAt w' sb mb (nextS s n) ∧ But2 sb mb w w' := by
  have v2 := hE.var 2 (by decide)
  simp only [errG] at v2
  have c2 := h.c2
  have f2 := h.fz 2
  have d0 := h.ok.day0
  have d1 := h.ok.day1
  unfold nextS
  by_cases hb : nextBad s n
  · simp only [hb, if_true]
    have H := Lib.hid h; clear h
    by_cases h0 : n < 0
    · clear hb
      go_enter Tryz.func77, Tryz.ntmps77
      go_wp2_with fail
      go_quiet (fail)
      go_wp2_with fail
      go_ret2
      exact ⟨_, rfl, ⟨by decide, rfl⟩, H.out.below (Bdn (Below.refl _ _) _), .of (Bdn (Below.refl _ _) _)⟩
    · have h1 : 100000 - s.day < n := hb.resolve_left h0
      have g0 : decide (n < 0) = false := by simpa using h0
      clear hb h0
      go_enter Tryz.func77, Tryz.ntmps77
      go_wp2_with fail
      go_quiet (fail)
      go_wp2_with fail
      go_ret2
      exact ⟨_, rfl, ⟨by decide, rfl⟩, H.out.below (Bdn (Below.refl _ _) _), .of (Bdn (Below.refl _ _) _)⟩
  · simp only [hb, if_false]
    have h0 : ¬ n < 0 := fun e => hb (.inl e)
    have h1 : ¬ 100000 - s.day < n := fun e => hb (.inr e)
    have g0 : decide (n < 0) = false := by simpa using h0
    have g1 : decide (100000 - s.day < n) = false := by simpa using h1
    have k0 : 0 ≤ n := by omega
    have k1 : n ≤ 100000 - s.day := by omega
    have H := Lib.hid (h.setDay (x := s.day + n) (by omega) (by omega))
    have hd : (w.setCell ⟨sb, 2, none⟩ (.int .i64 (s.day + n))).cell? ⟨sb, 2, none⟩ = some (.int .i64 (s.day + n)) := H.out.c2
    clear h hb h0 h1
    go_enter Tryz.func77, Tryz.ntmps77
    go_wp2_with fail
    go_ret2
    exact ⟨_, rfl, rfl, H.out, .set _ _ _⟩

/-- How much is written, and what is then. -/
def wrote (s : St) (n : Nat) : Nat := if s.cut < 0 then n else if s.cut < n then s.cut.toNat else n
def aft (s : St) (n : Nat) : St := if s.cut < 0 then s else if s.cut < n then { s with off := true } else { s with cut := s.cut - n }
theorem wrote_le (s : St) (n : Nat) : wrote s n ≤ n := by unfold wrote; split <;> (try split) <;> omega
set_option maxRecDepth 20000 in
theorem write_any (sb mb : Nat) (s : St) (n : Nat) (w : World) (h : StoreAt w sb mb s) (hn : n ≤ 100000) :
    Calls Tryz.prog 129 #[stP sb, .int .i64 (n : Int)] w fun e w' => e = .returned (.int .i64 (wrote s n : Int)) ∧ StoreAt w' sb mb (aft s n) ∧ But2 sb mb w w' := by
  have c3 := h.c3
  have c4 := h.c4
  have f3 := h.fz 3
  have f4 := h.fz 4
  have hc0 := h.ok.cut0
  have hc1 := h.ok.cut1
  unfold wrote aft
  by_cases h0 : s.cut < 0
  · simp only [h0, if_true]
    have H := Lib.hid h; clear h
    go_enter Tryz.func129, Tryz.ntmps129
    go_wp2_with fail
    go_ret
    exact ⟨rfl, H.out, .of (Below.refl _ _)⟩
  by_cases h1 : s.cut < n
  · simp only [h0, h1, if_true, if_false]
    have hk : ((s.cut.toNat : Nat) : Int) = s.cut := by omega
    have g0 : 0 ≤ s.cut := by omega
    rw [hk]
    have H := Lib.hid (h.setOff true)
    have hd : (w.setCell ⟨sb, 3, none⟩ (.bool true)).cell? ⟨sb, 4, none⟩ = some (.int .i64 s.cut) := H.out.c4
    clear h h0 hk
    go_enter Tryz.func129, Tryz.ntmps129
    go_wp2_with fail
    go_ret
    exact ⟨rfl, H.out, .set _ _ _⟩
  · simp only [h0, h1, if_false]
    have g0 : 0 ≤ s.cut := by omega
    have g1 : (n : Int) ≤ s.cut := by omega
    have H := Lib.hid (h.setCut (x := s.cut - n) (by omega) (by omega))
    clear h h0 h1
    go_enter Tryz.func129, Tryz.ntmps129
    go_wp2_with fail
    go_ret
    exact ⟨rfl, H.out, .set _ _ _⟩

/-- The head is swapped. -/
def swapE (s : St) (old text : Str) : Er := if 20000 < text.length then .bare 2 else if s.off = true then .bare 12 else if s.head ≠ old then .bare 11 else if wrote s text.length < text.length then .bare 12 else .nil
def swapS (s : St) (old text : Str) : St := if 20000 < text.length ∨ s.off = true ∨ s.head ≠ old then s else if wrote s text.length < text.length then aft s text.length else { aft s text.length with head := text }
set_option maxRecDepth 20000 in
theorem swap_any (E : Nat → Addr) (B : Nat) (sb mb : Nat) (s : St) (old text : Str) (w : World) (hE : Errs [2, 11, 12] E B w) (h : StoreAt w sb mb s) (ht : text.length ≤ 100000) (hB : B ≤ sb) (hB2 : B ≤ mb) :
    Calls Tryz.prog 71 #[stP sb, S old, S text] w fun e w' => ∃ ev, e = .returned ev ∧ ErV E w' ev (swapE s old text) ∧ StoreAt w' sb mb (swapS s old text) ∧ But2 sb mb w w' := by
  have v2 := hE.var 2 (by decide)
  have v11 := hE.var 11 (by decide)
  have v12 := hE.var 12 (by decide)
  simp only [errG] at v2 v11 v12
  have c1 := h.c1
  have c3 := h.c3
  unfold swapE swapS
  by_cases h0 : 20000 < text.length
  · simp only [h0, if_true, true_or]
    have g0 : (20000 : Int) < text.length := by omega
    have H := Lib.hid h; clear h
    go_enter Tryz.func71, Tryz.ntmps71
    go_wp2_with fail
    go_ret
    exact ⟨_, rfl, ⟨by decide, rfl⟩, H.out, .of (Below.refl _ _)⟩
  have g0 : (text.length : Int) ≤ 20000 := by omega
  cases ho : s.off with
  | true =>
    rw [ho] at c3
    simp only [h0, if_true, if_false, true_or, or_true]
    have H := Lib.hid h; clear h ho
    go_enter Tryz.func71, Tryz.ntmps71
    go_wp2_with fail
    go_ret
    exact ⟨_, rfl, ⟨by decide, rfl⟩, H.out, .of (Below.refl _ _)⟩
  | false =>
    rw [ho] at c3
    by_cases h1 : s.head = old
    · simp only [h0, h1, if_false, Bool.false_eq_true, false_or, ne_eq, not_true_eq_false]
      have g1 : (s.head == old) = true := by simpa using h1
      have hfin : ∀ w1, But2 sb mb w w1 → Errs [2, 11, 12] E B w1 := fun w1 hb2 => hE.below ((Below.refl B w).trans ⟨hb2.os, hb2.tape, hb2.output, hb2.size, fun k hk => hb2.block k (Nat.lt_of_lt_of_le hk hE.le) (by omega) (by omega)⟩)
      have H := Lib.hid h
      have H1 := Lib.hid h1
      have HE := Lib.hid hfin
      clear h ho h1 hfin
      by_cases hw : wrote s text.length < text.length
      · simp only [hw, if_true]
        have g2 : (wrote s text.length : Int) < text.length := by omega
        clear hw
        go_enter Tryz.func71, Tryz.ntmps71
        go_wp2_with fail
        refine (write_any sb mb s text.length _ H.out ht).mono ?_
        rintro e w1 ⟨rfl, h2, hb2⟩
        have v12' := (HE.out w1 hb2).var 12 (by decide)
        simp only [errG] at v12'
        have H2 := Lib.hid h2
        clear v2 v11 v12 h2 c1 c3
        generalize wrote s text.length = wr at *
        go_wp2_with fail
        go_ret
        exact ⟨_, rfl, ⟨by decide, rfl⟩, H2.out, hb2⟩
      · simp only [hw, if_false]
        have g2 : decide ((wrote s text.length : Int) < text.length) = false := by simp; omega
        have g3 : (text.length : Int) ≤ (wrote s text.length : Int) := by omega
        clear hw
        go_enter Tryz.func71, Tryz.ntmps71
        go_wp2_with fail
        refine (write_any sb mb s text.length _ H.out ht).mono ?_
        rintro e w1 ⟨rfl, h2, hb2⟩
        have c1' := h2.c1
        have f1' := h2.fz 1
        have H2 := Lib.hid (h2.setHead (x := text) (by omega))
        clear v2 v11 v12 h2 c1 c3
        generalize wrote s text.length = wr at *
        go_wp2_with fail
        go_ret
        exact ⟨_, rfl, rfl, H2.out, hb2.trans (But2.set _ _ _)⟩
    · simp only [h0, h1, if_true, if_false, Bool.false_eq_true, false_or, ne_eq, not_false_eq_true]
      have g1 : (s.head == old) = false := by simpa using h1
      have H := Lib.hid h; clear h ho h1
      go_enter Tryz.func71, Tryz.ntmps71
      go_wp2_with fail
      go_ret
      exact ⟨_, rfl, ⟨by decide, rfl⟩, H.out, .of (Below.refl _ _)⟩
end Go.Proofs.YtikboodjfanjkaaGreatDoor
namespace Go.Proofs
open Go.Shelf
def Tryz.keysZ_ren : Go.Shelf.Ren := ⟨fun | 7 => 86 | 10 => 137 | n => n, fun | 23 => 98 | 26 => 9 | 3 => 127 | 28 => 124 | 0 => 0 | 27 => 123 | 33 => 119 | 4 => 4 | n => n, fun | n => n⟩
theorem Tryz.keysZ : Go.Proofs.SlLaysZ.n7 Tryz.prog Tryz.keysZ_ren := {
  mixed := by kernel_rfl
  f7 := ⟨Tryz.f86.name, by decide, Tryz.func86.trans (congrArg some (by kernel_rfl))⟩
  f10 := ⟨Tryz.f137.name, by decide, Tryz.func137.trans (congrArg some (by kernel_rfl))⟩
  t0 := Tryz.underlying0
  a0 := Tryz.isAgg0
  z0 := Tryz.sizeOf0
  v0 := Tryz.zeroValue0
  t4 := Tryz.underlying4
  a4 := Tryz.isAgg4
  z4 := Tryz.sizeOf4
  v4 := Tryz.zeroValue4
  t23 := Tryz.underlying98
  a23 := Tryz.isAgg98
  z23 := Tryz.sizeOf98
  v23 := Tryz.zeroValue98
  t26 := Tryz.underlying9
  a26 := Tryz.isAgg9
  z26 := Tryz.sizeOf9
  v26 := Tryz.zeroValue9
  t27 := Tryz.underlying123
  a27 := Tryz.isAgg123
  z27 := Tryz.sizeOf123
  v27 := Tryz.zeroValue123
  t28 := Tryz.underlying124
  a28 := Tryz.isAgg124
  z28 := Tryz.sizeOf124
  v28 := Tryz.zeroValue124
  t33 := Tryz.underlying119
  a33 := Tryz.isAgg119
  z33 := Tryz.sizeOf119
  v33 := Tryz.zeroValue119 }
def Tryz.sortedZ_ren : Go.Shelf.Ren := ⟨fun | 6 => 85 | 8 => 136 | 9 => 60 | 11 => 171 | 13 => 125 | 12 => 124 | 23 => 165 | 24 => 166 | 14 => 156 | 15 => 157 | 16 => 158 | 17 => 159 | 18 => 160 | 19 => 161 | 20 => 162 | 21 => 163 | 22 => 164 | 25 => 191 | 26 => 192 | 27 => 193 | 28 => 194 | 29 => 195 | 30 => 196 | 31 => 222 | n => n, fun | 26 => 9 | 28 => 124 | 24 => 24 | 0 => 0 | 3 => 3 | 37 => 173 | 48 => 162 | 50 => 161 | 4 => 4 | 40 => 197 | 39 => 196 | 45 => 151 | 5 => 5 | 9 => 9 | 51 => 231 | 55 => 235 | 57 => 268 | 58 => 84 | 33 => 119 | n => n, fun | n => n⟩
theorem Tryz.sortedZ : Go.Proofs.SlLaysZ.n6 Tryz.prog Tryz.sortedZ_ren := {
  mixed := by kernel_rfl
  f6 := ⟨Tryz.f85.name, by decide, Tryz.func85.trans (congrArg some (by kernel_rfl))⟩
  f8 := ⟨Tryz.f136.name, by decide, Tryz.func136.trans (congrArg some (by kernel_rfl))⟩
  f11 := ⟨Tryz.f171.name, by decide, Tryz.func171.trans (congrArg some (by kernel_rfl))⟩
  t0 := Tryz.underlying0
  a0 := Tryz.isAgg0
  z0 := Tryz.sizeOf0
  v0 := Tryz.zeroValue0
  t24 := Tryz.underlying24
  a24 := Tryz.isAgg24
  z24 := Tryz.sizeOf24
  v24 := Tryz.zeroValue24
  t26 := Tryz.underlying9
  a26 := Tryz.isAgg9
  z26 := Tryz.sizeOf9
  v26 := Tryz.zeroValue9
  t28 := Tryz.underlying124
  a28 := Tryz.isAgg124
  z28 := Tryz.sizeOf124
  v28 := Tryz.zeroValue124
  i26 := by kernel_rfl }
def Tryz.sortM_ren : Go.Shelf.Ren := ⟨fun | 6 => 60 | 8 => 125 | 9 => 124 | 19 => 165 | 20 => 166 | 21 => 156 | 22 => 157 | 23 => 158 | 24 => 159 | 25 => 160 | 26 => 161 | 27 => 162 | 28 => 163 | 29 => 164 | 36 => 191 | 31 => 192 | 32 => 193 | 37 => 194 | 38 => 195 | 39 => 196 | 41 => 222 | n => n, fun | 27 => 24 | 29 => 9 | 3 => 3 | 32 => 173 | 26 => 24 | 0 => 0 | 44 => 162 | 46 => 161 | 4 => 4 | 36 => 197 | 35 => 196 | 41 => 151 | 5 => 5 | 9 => 9 | 53 => 231 | 57 => 235 | 63 => 268 | 64 => 84 | n => n, fun | n => n⟩
theorem Tryz.sortM : Go.Proofs.SlLaysM.n6 Tryz.prog Tryz.sortM_ren := {
  mixed := by kernel_rfl
  f6 := ⟨Tryz.f60.name, by decide, Tryz.func60.trans (congrArg some (by kernel_rfl))⟩
  f8 := Tryz.func125.trans (congrArg some (by kernel_rfl))
  f9 := ⟨Tryz.f124.name, by decide, Tryz.func124.trans (congrArg some (by kernel_rfl))⟩
  f19 := Tryz.func165.trans (congrArg some (by kernel_rfl))
  f20 := Tryz.func166.trans (congrArg some (by kernel_rfl))
  f21 := ⟨Tryz.f156.name, by decide, Tryz.func156.trans (congrArg some (by kernel_rfl))⟩
  f22 := ⟨Tryz.f157.name, by decide, Tryz.func157.trans (congrArg some (by kernel_rfl))⟩
  f23 := ⟨Tryz.f158.name, by decide, Tryz.func158.trans (congrArg some (by kernel_rfl))⟩
  f24 := ⟨Tryz.f159.name, by decide, Tryz.func159.trans (congrArg some (by kernel_rfl))⟩
  f25 := ⟨Tryz.f160.name, by decide, Tryz.func160.trans (congrArg some (by kernel_rfl))⟩
  f26 := ⟨Tryz.f161.name, by decide, Tryz.func161.trans (congrArg some (by kernel_rfl))⟩
  f27 := ⟨Tryz.f162.name, by decide, Tryz.func162.trans (congrArg some (by kernel_rfl))⟩
  f28 := ⟨Tryz.f163.name, by decide, Tryz.func163.trans (congrArg some (by kernel_rfl))⟩
  f29 := ⟨Tryz.f164.name, by decide, Tryz.func164.trans (congrArg some (by kernel_rfl))⟩
  f31 := Tryz.func192.trans (congrArg some (by kernel_rfl))
  f32 := Tryz.func193.trans (congrArg some (by kernel_rfl))
  f36 := ⟨Tryz.f191.name, by decide, Tryz.func191.trans (congrArg some (by kernel_rfl))⟩
  f37 := ⟨Tryz.f194.name, by decide, Tryz.func194.trans (congrArg some (by kernel_rfl))⟩
  f38 := ⟨Tryz.f195.name, by decide, Tryz.func195.trans (congrArg some (by kernel_rfl))⟩
  f39 := ⟨Tryz.f196.name, by decide, Tryz.func196.trans (congrArg some (by kernel_rfl))⟩
  f41 := ⟨Tryz.f222.name, by decide, Tryz.func222.trans (congrArg some (by kernel_rfl))⟩
  t0 := Tryz.underlying0
  a0 := Tryz.isAgg0
  z0 := Tryz.sizeOf0
  v0 := Tryz.zeroValue0
  t3 := Tryz.underlying3
  a3 := Tryz.isAgg3
  z3 := Tryz.sizeOf3
  v3 := Tryz.zeroValue3
  t4 := Tryz.underlying4
  a4 := Tryz.isAgg4
  z4 := Tryz.sizeOf4
  v4 := Tryz.zeroValue4
  t5 := Tryz.underlying5
  a5 := Tryz.isAgg5
  z5 := Tryz.sizeOf5
  v5 := Tryz.zeroValue5
  t9 := Tryz.underlying9
  a9 := Tryz.isAgg9
  z9 := Tryz.sizeOf9
  v9 := Tryz.zeroValue9
  t26 := Tryz.underlying24
  a26 := Tryz.isAgg24
  z26 := Tryz.sizeOf24
  v26 := Tryz.zeroValue24
  t27 := Tryz.underlying24
  a27 := Tryz.isAgg24
  z27 := Tryz.sizeOf24
  v27 := Tryz.zeroValue24
  t29 := Tryz.underlying9
  a29 := Tryz.isAgg9
  z29 := Tryz.sizeOf9
  v29 := Tryz.zeroValue9
  t32 := Tryz.underlying173
  a32 := Tryz.isAgg173
  z32 := Tryz.sizeOf173
  v32 := Tryz.zeroValue173
  t35 := Tryz.underlying196
  a35 := Tryz.isAgg196
  z35 := Tryz.sizeOf196
  v35 := Tryz.zeroValue196
  t36 := Tryz.underlying197
  a36 := Tryz.isAgg197
  z36 := Tryz.sizeOf197
  v36 := Tryz.zeroValue197
  t41 := Tryz.underlying151
  a41 := Tryz.isAgg151
  z41 := Tryz.sizeOf151
  v41 := Tryz.zeroValue151
  t44 := Tryz.underlying162
  a44 := Tryz.isAgg162
  z44 := Tryz.sizeOf162
  v44 := Tryz.zeroValue162
  t46 := Tryz.underlying161
  a46 := Tryz.isAgg161
  z46 := Tryz.sizeOf161
  v46 := Tryz.zeroValue161
  t53 := Tryz.underlying231
  a53 := Tryz.isAgg231
  z53 := Tryz.sizeOf231
  v53 := Tryz.zeroValue231
  t57 := Tryz.underlying235
  a57 := Tryz.isAgg235
  z57 := Tryz.sizeOf235
  v57 := Tryz.zeroValue235
  t63 := Tryz.underlying268
  a63 := Tryz.isAgg268
  z63 := Tryz.sizeOf268
  v63 := Tryz.zeroValue268
  t64 := Tryz.underlying84
  a64 := Tryz.isAgg84
  z64 := Tryz.sizeOf84
  v64 := Tryz.zeroValue84 }
def Tryz.cloneW_ren : Go.Shelf.Ren := ⟨fun | 5 => 132 | 7 => 170 | n => n, fun | 23 => 98 | 25 => 9 | 3 => 127 | 4 => 4 | 20 => 20 | n => n, fun | n => n⟩
theorem Tryz.cloneW : Go.Proofs.SlLaysW.n5 Tryz.prog Tryz.cloneW_ren := {
  mixed := by kernel_rfl
  f5 := ⟨Tryz.f132.name, by decide, Tryz.func132.trans (congrArg some (by kernel_rfl))⟩
  f7 := Tryz.func170.trans (congrArg some (by kernel_rfl))
  t4 := Tryz.underlying4
  a4 := Tryz.isAgg4
  z4 := Tryz.sizeOf4
  v4 := Tryz.zeroValue4
  t20 := Tryz.underlying20
  a20 := Tryz.isAgg20
  z20 := Tryz.sizeOf20
  v20 := Tryz.zeroValue20
  t23 := Tryz.underlying98
  a23 := Tryz.isAgg98
  z23 := Tryz.sizeOf98
  v23 := Tryz.zeroValue98 }
end Go.Proofs
namespace Go.Proofs.YtikboodjfanjkaaGreatDoor
open Go.RowKit Go.Maps Go.Sort Go.Shelf

theorem mapsKeys (mb : Option Nat) (W : World) : CallsIn Fence.wide 5 Tryz.prog 86 #[.map mb] W fun e w' => e = .returned (.func (.func 137) #[] #[.pointer (some ⟨W.heap.size, 0, none⟩)]) ∧ w' = W.alloc (.cells #[.map mb] 98) :=
  AnyZ.keys_in Tryz.keysZ Fence.wide 5 trivial rfl mb W

theorem sortsZ (m : Nat) : AnyZ.SortsIn Tryz.prog Tryz.sortedZ_ren Fence.wide m :=
  ⟨fun blk off cap ss W hH hblk hsz => callsIn_wide.2 (AnyM.slices_Sort_string Tryz.sortM blk off cap ss W hH hblk hsz),
   fun p cap W => callsIn_wide.2 (AnyM.slices_Sort_string_none Tryz.sortM p cap W)⟩

set_option maxHeartbeats 1000000 in
theorem sortedKeys {H : Type} (b nn : Nat) (D0 : DataW H) (R : Value → Option (DataW H × List MemPlace)) (w : World) (hown : w.ownsMap Tryz.prog 9 R b nn D0) (hmax : Maps.size D0 ≤ maxLen) (hbytes : Maps.size D0 * 16 ≤ 140737488355328) :
    CallsIn Fence.wide 5 Tryz.prog 85 #[.func (.func 137) #[] #[.pointer (some ⟨w.heap.size, 0, none⟩)]] (w.alloc (.cells #[.map (some b)] 98)) fun e w' => ∃ (v : Value) (ss : List (List UInt8)), e = .returned v ∧ ss.Perm (strKeys D0) ∧
      w'.ownsRow (w.alloc (.cells #[.map (some b)] 98)).heap.size 9 1 v ss.length ((ss.mergeSort (fun x y => decide (x ≤ y))).map encStr) ∧ (v = .slice none 0 0 ↔ ss = []) ∧ Below (w.alloc (.cells #[.map (some b)] 98)).heap.size (w.alloc (.cells #[.map (some b)] 98)) w' := by
  have hbl := hown.lt
  have hseq : SeqGives Fence.wide 2 Tryz.prog 137 #[.pointer (some ⟨w.heap.size, 0, none⟩)] encStr (fun ss => ss.Perm (strKeys D0)) (Maps.size D0) (w.alloc (.cells #[.map (some b)] 98)) :=
    AnyZ.keys_gives (ρ := Tryz.keysZ_ren) { Tryz.keysZ with } Fence.wide _ trivial rfl (by omega) w.heap.size b nn D0 _ (by simp) (by simp) (by
      obtain ⟨es, clock, hb, Ft, hs, hD⟩ := hown
      exact ⟨es, clock, (Below.heap_alloc _ _ b hbl).trans hb, Ft, hs, hD⟩)
  exact AnyZ.sorted_in Tryz.sortedZ Fence.wide 5 trivial trivial trivial trivial rfl (by omega) (sortsZ _) (enters_of Tryz.func60 (by kernel_rfl) rfl) 137 #[.pointer (some ⟨w.heap.size, 0, none⟩)] trivial (enters_of Tryz.func137 (by kernel_rfl) rfl) _ _ hmax hbytes _ hseq

theorem bef_lt : ∀ {a b : Str}, bef a b = true → a < b
  | [], [], h => by cases h
  | [], _ :: _, _ => List.nil_lt_cons _ _
  | _ :: _, [], h => by cases h
  | a :: r, b :: s, h => by
    have h : (decide (a < b) || (a == b && bytesBefore r s)) = true := h
    rw [List.cons_lt_cons_iff]
    simp only [Bool.or_eq_true, Bool.and_eq_true, decide_eq_true_eq, beq_iff_eq] at h
    rcases h with h | ⟨h1, h2⟩
    · exact .inl h
    · exact .inr ⟨h1, bef_lt h2⟩
theorem ascending {l : List Ob} (h : Rising l) {ss : List Str} (hp : ss.Perm (l.map (·.name))) : ss.mergeSort (fun x y => decide (x ≤ y)) = l.map (·.name) := by
  refine (mergeSort_of_perm hp).trans ?_
  refine List.mergeSort_of_pairwise ?_
  exact List.pairwise_map.2 (h.imp fun {a b} hb => decide_eq_true (List.le_of_lt (bef_lt hb)))

set_option maxRecDepth 20000 in
set_option maxHeartbeats 1000000 in
theorem namesSt_any (sb mb : Nat) (s : St) (w : World) (h : StoreAt w sb mb s) :
    Calls Tryz.prog 24 #[stP sb] w fun e w' => ∃ v, e = .returned v ∧ Own encS 9 1 w.heap.size w' v (s.objs.map (·.name)) ∧ Below w.heap.size w w' := by
  have c0 := h.c0
  have hn := h.ok.num
  refine (callsIn_wide (n := 6)).1 ?_
  have hfK : Fence.wide.fn 86 := trivial
  have hfS : Fence.wide.fn 85 := trivial
  refine callsIn_of_wp Tryz.func24 rfl trivial ?_ rfl
  simp only [Tryz.ntmps24, List.size_toArray, List.length_cons, List.length_nil, Nat.reduceAdd, Nat.reduceSub, Array.replicate_succ, Array.replicate_zero, List.push_toArray, List.append_toArray, List.nil_append, List.cons_append]
  gi_wp2_with (first
    | (gi_at_call 86; refine (mapsKeys _ _).mono ?_; rintro e w' ⟨rfl, rfl⟩)
    | (gi_at_call 85; refine (sortedKeys mb s.objs.length (mapD s.objs) objElem w h.own (by rw [size_mapD]; unfold maxLen; omega) (by rw [size_mapD]; omega)).mono ?_; rintro e w' ⟨v, ss, rfl, hS, hrow, hnil, hb⟩))
  go_ret
  rw [keys_mapD] at hS
  rw [ascending h.ok.ris hS] at hrow
  have hlen : ss.length = (s.objs.map (·.name)).length := hS.length_eq
  refine ⟨_, rfl, ?_, ((Below.refl _ w).alloc (Nat.le_refl _) _).trans (hb.mono (by simp))⟩
  unfold Own
  have hf : (s.objs.map (·.name)).flatMap encS = (s.objs.map (·.name)).map encStr := flat_one _ _
  rw [hf, ← hlen]
  exact ownsRow_base_a hrow (by simp)
end Go.Proofs.YtikboodjfanjkaaGreatDoor
namespace Go.Proofs.YtikboodjfanjkaaGreatDoor
open Go.RowKit

/-- What abides turns of blocks from B on that hold no cells. -/
def From {β : Type} (B : Nat) (I : β → World → Prop) : Prop :=
  ∀ s W W' row, I s W → W.grownBy W' row → (∀ r, row = some r → B ≤ r ∧ ∃ o : Obj, W.heap[r]? = some o ∧ o.isCells = false) → I s W'
theorem From.turn {β : Type} {B : Nat} {I : β → World → Prop} (h : From B I) {s : β} {W : World} {l : Nat} {o : Obj} (o' : Obj) (hs : I s W) (hl : W.heap[l]? = some o) (ho : o.isCells = false) (hB : B ≤ l) : I s (W.putObj l o') :=
  h s W _ (some l) hs (grownBy_putObj' W l o') (fun r e => by cases e; exact ⟨hB, o, hl, ho⟩)
theorem From.new {β : Type} {B : Nat} {I : β → World → Prop} (h : From B I) {s : β} {W : World} (o : Obj) (hs : I s W) : I s (W.alloc o) :=
  h s W _ none hs (World.grownBy_alloc W o none) (fun r e => by cases e)

variable {F : Fence} {n : Nat} {P : Program}

theorem rangeAll {α : Type} {g : Operand} {ps : Array Tmp} {assign body : Code} {Q : Exit → Act → World → Prop} {a : Act} {w : World}
    (hro : F.round = none) (h1 : 1 ≤ n) {gf : Nat} {lb : Array Value} (hg : a.eval g = .func (.func gf) #[] lb) (hFg : F.fn gf) (eg : ∀ args w, (callFunc gf args).run P w = .ok (.enter gf args) w)
    {enc : α → Value} {G : List α → Prop} {N : Nat} {w0 : World} (hseq : SeqGives F (n - 1) P gf lb enc G N w0) (hb0 : Below w0.heap.size w0 w) (hps : ps.size = 1)
    (I : List α → World → Prop) (hI : From w.heap.size I) (h0 : I [] w) (M : List α × α × Act → World → Prop) (hM : From w.heap.size M)
    (hassign : ∀ (l : Nat) (pre : List α) (x : α) (W : World), I pre W → pre.length < N →
      assign.wpIn (F.inRound l) (n - 1 - 1) P (Exit.then (fun a₁ W₁ => KeepsOthers W W₁ ∧ M (pre, x, a₁) W₁) (fun _ _ _ => False)) { tmps := (ps.zip #[enc x]).foldl (fun t (p, v) => t.setIfInBounds p v) a.tmps, defers := [] } W)
    (hbody : ∀ (l : Nat) (pre : List α) (x : α) (a₁ : Act) (W : World), M (pre, x, a₁) W → body.wpIn (F.inRound l) (n - 1 - 1) P (fun e _ W' => e = .normal ∧ KeepsOthers W W' ∧ I (pre ++ [x]) W') a₁ W)
    (hdone : ∀ (D : Nat) (xs : List α) (W : World), G xs → I xs W → w.heap.size ≤ D → W.heap[D]? = some (.deferred (some [])) → Q .normal { a with defers := { target := .collected D, args := #[] } :: a.defers } W) :
    (Code.rangeFunc g ps assign body).wpIn F n P Q a w := by
  refine wpIn_rangeFunc fun fn hfn => ?_
  rw [hro]
  generalize hDs : w.heap.size = D at *
  obtain ⟨rec, hrec⟩ : ∃ rec : LoopState → Loop, rec = fun st => { state := st, pending := none, fn, tmps := a.tmps, params := ps, assign, body, defers := D } := ⟨_, rfl⟩
  have rst : ∀ st, (rec st).state = st := fun st => by rw [hrec]
  have rps : ∀ st, (rec st).params = ps := fun st => by rw [hrec]
  have rbusy : ∀ st st', { rec st with state := st' } = rec st' := fun st st' => by rw [hrec]
  obtain ⟨W1, hW1⟩ : ∃ W1, (w.alloc (.deferred (some []))).alloc (.loop (rec .ready)) = W1 := ⟨_, rfl⟩
  have hL1 : W1.heap[D + 1]? = some (.loop (rec .ready)) := by
    rw [← hW1, ← hDs]
    have h := World.alloc_heap_new (w.alloc (.deferred (some []))) (.loop (rec .ready))
    rwa [World.size_alloc] at h
  have hK1 : W1.heap[D]? = some (.deferred (some [])) := by
    rw [← hW1, ← hDs]
    exact (Below.heap_alloc _ _ _ (by simp)).trans (World.alloc_heap_new w _)
  have hb1 : Below w0.heap.size w0 W1 := by
    rw [← hW1]; exact (hb0.alloc hb0.size _).alloc (by have := hb0.size; simp; omega) _
  have hs1 : D ≤ W1.heap.size := by rw [← hW1]; simp; omega
  have hI1 : I [] W1 := by rw [← hW1]; exact hI.new _ (hI.new _ h0)
  refine ⟨D + 1, [{ target := .collected D, args := #[] }], W1, { target := .fn (.func gf) lb, args := #[.func (.yield (D + 1)) #[] #[]] }, W1, gf, #[.func (.yield (D + 1)) #[] #[]] ++ lb, W1, ?_, ?_, ?_, ?_, fun _ => h1, ?_⟩
  · rw [← hW1, hrec, ← hDs]
    exact run_enterLoop_outer _ _ _ _ _
  · simp only [resolve, hg]
    simp [go_sem]
  · intro f' hf'
    simp [Target.leads] at hf'
    subst hf'
    exact hFg
  · simp [invoke, go_sem, eg]
  refine (hseq (D + 1) (fun pre W => I pre W ∧ W.heap[D + 1]? = some (.loop (rec .ready)) ∧ W.heap[D]? = some (.deferred (some []))) W1 hb1 ?_ ?_ ⟨hI1, hL1, hK1⟩).mono ?_
  · rintro s A B row ⟨hi, hl, hk⟩ hg' hr
    refine ⟨hI s A B row hi hg' (fun r e => ?_), (grownBy_keeps hg' (fun r e => (hr r e).2) hl rfl).trans hl, (grownBy_keeps hg' (fun r e => (hr r e).2) hk rfl).trans hk⟩
    obtain ⟨h2, o, ho, hw⟩ := hr r e
    exact ⟨Nat.le_trans hs1 h2, o, ho, Obj.not_cells_of_walk hw⟩
  · rintro pre x W ⟨hi, hl, hk⟩ hlen
    refine ⟨fn, _, assign, body, ?_, roundIn_of_wpIn hfn (wpIn_mono (hassign (D + 1) pre x W hi hlen) ?_)⟩
    · have hy := run_yield (P := P) (args := #[enc x]) hl (by rw [rps, hps]; rfl)
      rw [hrec] at hy
      exact hy
    · intro e a1 W0 hp
      cases e with
      | normal =>
        obtain ⟨hk0, hm⟩ := hp
        have hl := hk0.same _ _ hl rfl
        have hk := hk0.same _ _ hk rfl
        have hlt : D + 1 < W0.heap.size := (Array.getElem?_eq_some_iff.1 hl).1
        refine ⟨_, run_beginRound hl (rst _), ?_⟩
        rw [rbusy]
        have hl2 : (W0.putObj (D + 1) (.loop (rec .busy))).heap[D + 1]? = some (.loop (rec .busy)) := World.putObj_heap_same hlt
        have hk2 : (W0.putObj (D + 1) (.loop (rec .busy))).heap[D]? = some (.deferred (some [])) := (World.putObj_heap_other (by omega)).trans hk
        have hw2 : KeepsWalks W0 (W0.putObj (D + 1) (.loop (rec .busy))) := KeepsWalks.putObj _ hl rfl
        refine wpIn_mono (hbody _ pre x a1 _ (hM.turn _ hm hl rfl (by omega))) ?_
        rintro e a3 W3 ⟨rfl, hk3, hi3⟩
        have hl3 := hk3.same _ _ hl2 rfl
        have hr := run_endRound (P := P) none hl3
        have hfin : { rec .busy with state := if (none : Option Code).isNone then LoopState.ready else .done, pending := none } = rec .ready := by rw [hrec]; rfl
        rw [hfin] at hr
        exact ⟨_, _, hr, rfl, ⟨hI.turn _ hi3 hl3 rfl (by omega), World.putObj_heap_same (Array.getElem?_eq_some_iff.1 hl3).1, (World.putObj_heap_other (by omega)).trans (hk3.same _ _ hk2 rfl)⟩, ((hk0.walks.trans hw2).trans hk3.walks).trans (KeepsWalks.putObj _ hl3 rfl)⟩
      | _ => exact hp.elim
  · rintro e W2 ⟨⟨v, rfl⟩, xs, hG, hi, hl, hk⟩
    have hend := run_endLoop (P := P) hl (by rw [rst]; simp)
    have hp : (rec .ready).pending = none := by rw [hrec]
    rw [hp] at hend
    exact ⟨none, _, hend, hdone D xs _ hG (hI.turn _ hi hl rfl (by omega)) (Nat.le_refl _) ((World.putObj_heap_other (by omega)).trans hk)⟩
end Go.Proofs.YtikboodjfanjkaaGreatDoor
