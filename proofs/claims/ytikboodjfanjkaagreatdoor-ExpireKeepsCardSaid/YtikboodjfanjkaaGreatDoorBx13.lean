/- The model of a store in memory; its methods that only read, or write a field. The model of a store: Find, Get, Names. expire.Orphans; deedboxref3.OrphansOf: the walks. expire.Orphans; deedboxref3.OrphansOf: the walks. store: bytes of all objects: a range over maps.Values. store: Drop, New. store.name: is a text an object's name?. -/
import Derived.Test.YtikboodjfanjkaaGreatDoorBx12
import Derived.Test.YtikboodjfanjkaaGreatDoorBx4
import Derived.Test.YtikboodjfanjkaaGreatDoorBx2
import Derived.Test.YtikboodjfanjkaaGreatDoorBx6
import Derived.Deep.RegionHeld3
import Derived.Deep.RegionWith
import Derived.Test.YtikboodjfanjkaaGreatDoorBx7
import Derived.Deep.CutBlock
import Derived.Deep.DeepCutAuto
import Derived.Sort.MapsRangeIn
import Derived.RangeFuncNested
import Derived.RangeFuncMany
import Derived.RangeFuncLeaves
import Derived.Shelf.Abstract
import Derived.WalkKit
import Derived.OwnWalkIn
import Derived.TacticsInMore
import Derived.RegionIn
import Derived.LoopNIn
import Derived.LoopIn
import Derived.Shelf.Strings.SlTrimAscii
namespace Go.Proofs.YtikboodjfanjkaaGreatDoor
open Go.RowKit Go.Maps

abbrev encO (o : Ob) : List Value := [S o.name, S o.text, .int .i64 o.day]
theorem encO_enc : Enc encO 3 := fun x => ⟨rfl, by simp [Value.oneCell']⟩
abbrev modCells (v : Value) (s : St) : Array Value := #[v, S s.head, .int .i64 s.day, .bool s.off, .int .i64 s.cut]

/-- The model s lies in block xb, its objects in a row of the call's own. -/
structure ModAt (w : World) (B xb : Nat) (v : Value) (s : St) : Prop where
  blk : w.heap[xb]? = some (.cells (modCells v s) 103 (0, 0))
  own : Own encO 121 3 B w v s.objs
  ok : s.Ok

section
variable {w w' : World} {B xb : Nat} {v : Value} {s : St}
theorem ModAt.lt (h : ModAt w B xb v s) : xb < w.heap.size := (Array.getElem?_eq_some_iff.1 h.blk).1
theorem ModAt.c0 (h : ModAt w B xb v s) : w.cell? ⟨xb, 0, none⟩ = some v := by simp [World.cell?, h.blk]
theorem ModAt.c1 (h : ModAt w B xb v s) : w.cell? ⟨xb, 1, none⟩ = some (S s.head) := by simp [World.cell?, h.blk]
theorem ModAt.c2 (h : ModAt w B xb v s) : w.cell? ⟨xb, 2, none⟩ = some (.int .i64 s.day) := by simp [World.cell?, h.blk]
theorem ModAt.c3 (h : ModAt w B xb v s) : w.cell? ⟨xb, 3, none⟩ = some (.bool s.off) := by simp [World.cell?, h.blk]
theorem ModAt.c4 (h : ModAt w B xb v s) : w.cell? ⟨xb, 4, none⟩ = some (.int .i64 s.cut) := by simp [World.cell?, h.blk]
theorem ModAt.fz (h : ModAt w B xb v s) (i : Nat) : w.frozen? ⟨xb, i, none⟩ = false := by simp [World.frozen?, h.blk]
theorem ModAt.below (h : ModAt w B xb v s) (hb : Below w.heap.size w w') : ModAt w' B xb v s := ⟨(hb.block _ h.lt).trans h.blk, h.own.below hb, h.ok⟩
theorem own_ne {α : Type} {enc : α → List Value} {e : TypeId} {sz B : Nat} {v : Value} {l : List α} (h : Own enc e sz B w v l) {k : Nat} {o : Obj} (hk : w.heap[k]? = some o) (ho : ∀ cs, o ≠ .cells cs e (0, 0)) : v.ownBlock ≠ some k := by
  obtain ⟨_, h2⟩ := h
  rcases h2 with ⟨rfl, _⟩ | ⟨g, cap, cur, rfl, _, hg, _⟩
  · simp [Value.ownBlock]
  · intro e1
    have : g = k := by simpa [Value.ownBlock] using e1
    subst this
    rw [hk] at hg
    cases hg
    exact ho _ rfl
theorem own_but {α : Type} {enc : α → List Value} {e : TypeId} {sz B a b : Nat} {v : Value} {l : List α} (h : Own enc e sz B w v l) (h1 : v.ownBlock ≠ some a) (h2 : v.ownBlock ≠ some b) (hb : But2 a b w w') : Own enc e sz B w' v l := by
  obtain ⟨h0, h3⟩ := h
  refine ⟨h0, ?_⟩
  rcases h3 with h4 | ⟨g, cap, cur, rfl, hB, hg, rest⟩
  · exact .inl h4
  · have hlt := (Array.getElem?_eq_some_iff.1 hg).1
    exact .inr ⟨g, cap, cur, rfl, hB, (hb.block g hlt (fun e1 => h1 (by rw [e1]; rfl)) (fun e1 => h2 (by rw [e1]; rfl))).trans hg, rest⟩
theorem ModAt.apart (h : ModAt w B xb v s) : v.ownBlock ≠ some xb := own_ne h.own h.blk (fun cs e => by cases e)
theorem ModAt.setBlk (h : ModAt w B xb v s) (i : Nat) (x : Value) : (w.setCell ⟨xb, i, none⟩ x).heap[xb]? = some (.cells ((modCells v s).setIfInBounds i x) 103 (0, 0)) := heap_setCell_same w xb i (modCells v s) 103 x h.blk
theorem ModAt.ownSet (h : ModAt w B xb v s) (i : Nat) (x : Value) : Own encO 121 3 B (w.setCell ⟨xb, i, none⟩ x) v s.objs := own_but h.own h.apart h.apart (But2.set (mb := xb) w i x)
theorem ModAt.setHead (h : ModAt w B xb v s) {x : Str} (hx : x.length ≤ 20000) : ModAt (w.setCell ⟨xb, 1, none⟩ (S x)) B xb v { s with head := x } :=
  ⟨h.setBlk 1 _, h.ownSet 1 _, { h.ok with hd := hx }⟩
theorem ModAt.setDay (h : ModAt w B xb v s) {x : Int} (h0 : 0 ≤ x) (h1 : x ≤ 100000) : ModAt (w.setCell ⟨xb, 2, none⟩ (.int .i64 x)) B xb v { s with day := x } :=
  ⟨h.setBlk 2 _, h.ownSet 2 _, { h.ok with day0 := h0, day1 := h1 }⟩
theorem ModAt.setOff (h : ModAt w B xb v s) (x : Bool) : ModAt (w.setCell ⟨xb, 3, none⟩ (.bool x)) B xb v { s with off := x } :=
  ⟨h.setBlk 3 _, h.ownSet 3 _, { h.ok with }⟩
theorem ModAt.setCut (h : ModAt w B xb v s) {x : Int} (h0 : -1 ≤ x) (h1 : x ≤ 9223372036854775807) : ModAt (w.setCell ⟨xb, 4, none⟩ (.int .i64 x)) B xb v { s with cut := x } :=
  ⟨h.setBlk 4 _, h.ownSet 4 _, { h.ok with cut0 := h0, cut1 := h1 }⟩
end

theorem newMod_any (w : World) :
    Calls Tryz.prog 18 #[] w fun e w' => ∃ xb, e = .returned (stP xb) ∧ w.heap.size ≤ xb ∧ ModAt w' w.heap.size xb (.slice none 0 0) St.new ∧ Below w.heap.size w w' := by
  go_enter Tryz.func18, Tryz.ntmps18
  go_wp2_with fail
  go_ret
  refine ⟨w.heap.size, rfl, Nat.le_refl _, ⟨?_, Own.nil encO _ 3 _ _, { ris := List.Pairwise.nil, day0 := Int.le_refl _, day1 := by decide, cut0 := Int.le_refl _, cut1 := by decide, txt := fun _ h => (by cases h), nam := fun _ h => (by cases h), num := Nat.zero_le _, hd := Nat.zero_le _ }⟩, (Below.refl _ _).alloc (Nat.le_refl _) _⟩
  exact heap_alloc_new w (.cells (modCells (.slice none 0 0) St.new) 103)

theorem onM_any (B xb : Nat) (v : Value) (s : St) (w : World) (h : ModAt w B xb v s) :
    Calls Tryz.prog 76 #[stP xb] w fun e w' => e = .returned (.tuple #[]) ∧ ModAt w' B xb v { s with off := false, cut := -1 } ∧ But2 xb xb w w' := by
  have c3 := h.c3
  have c4 := h.c4
  have f3 := h.fz 3
  have f4 := h.fz 4
  have H := Lib.hid h; clear h
  go_enter Tryz.func76, Tryz.ntmps76
  go_wp2_with fail
  go_end0
  exact ⟨rfl, (H.out.setOff false).setCut (by decide) (by decide), (But2.set (mb := xb) w 3 _).trans (But2.set _ 4 _)⟩

theorem cutM_any (B xb : Nat) (v : Value) (s : St) (n : Int) (w : World) (h : ModAt w B xb v s) (hn : n ≤ 9223372036854775807) :
    Calls Tryz.prog 74 #[stP xb, .int .i64 n] w fun e w' => e = .returned (.int .i64 (if n < 0 then 2 else if s.off then 12 else 0)) ∧ ModAt w' B xb v (if n < 0 ∨ s.off then s else { s with cut := n }) ∧ But2 xb xb w w' := by
  have c3 := h.c3
  have c4 := h.c4
  have f4 := h.fz 4
  by_cases h0 : n < 0
  · rw [if_pos h0, if_pos (.inl h0)]
    have H := Lib.hid h; clear h
    go_enter Tryz.func74, Tryz.ntmps74
    go_wp2_with fail
    go_ret
    exact ⟨rfl, H.out, .of (Below.refl _ _)⟩
  rw [if_neg h0]
  have g0 : 0 ≤ n := by omega
  obtain ⟨objs, head, day, off, cut⟩ := s
  have H := Lib.hid h; clear h
  cases off with
  | true =>
    simp only [h0, false_or, if_true]
    simp only at c3 c4
    clear h0
    go_enter Tryz.func74, Tryz.ntmps74
    go_wp2_with fail
    go_ret
    exact ⟨rfl, H.out, .of (Below.refl _ _)⟩
  | false =>
    simp only [h0, false_or, Bool.false_eq_true, if_false]
    simp only at c3 c4
    clear h0
    go_enter Tryz.func74, Tryz.ntmps74
    go_wp2_with fail
    go_ret
    exact ⟨rfl, H.out.setCut (by omega) hn, .set _ _ _⟩

set_option maxRecDepth 20000 in
theorem written_any (B xb : Nat) (v : Value) (s : St) (n : Nat) (w : World) (h : ModAt w B xb v s) (hn : n ≤ 100000) :
    Calls Tryz.prog 131 #[stP xb, .int .i64 (n : Int)] w fun e w' => e = .returned (.int .i64 (wrote s n : Int)) ∧ ModAt w' B xb v (aft s n) ∧ But2 xb xb w w' := by
  have c3 := h.c3
  have c4 := h.c4
  have f3 := h.fz 3
  have f4 := h.fz 4
  have hc0 := h.ok.cut0
  have hc1 := h.ok.cut1
  unfold wrote aft
  by_cases h0 : s.cut < 0
  · simp only [h0, if_true]
    have H := Lib.hid h; clear h
    go_enter Tryz.func131, Tryz.ntmps131
    go_wp2_with fail
    go_ret
    exact ⟨rfl, H.out, .of (Below.refl _ _)⟩
  by_cases h1 : s.cut < n
  · simp only [h0, h1, if_true, if_false]
    have hk : ((s.cut.toNat : Nat) : Int) = s.cut := by omega
    have g0 : 0 ≤ s.cut := by omega
    rw [hk]
    have H := Lib.hid (h.setOff true)
    have hd : (w.setCell ⟨xb, 3, none⟩ (.bool true)).cell? ⟨xb, 4, none⟩ = some (.int .i64 s.cut) := H.out.c4
    clear h h0 hk
    go_enter Tryz.func131, Tryz.ntmps131
    go_wp2_with fail
    go_ret
    exact ⟨rfl, H.out, .set _ _ _⟩
  · simp only [h0, h1, if_false]
    have g0 : 0 ≤ s.cut := by omega
    have g1 : (n : Int) ≤ s.cut := by omega
    have H := Lib.hid (h.setCut (x := s.cut - n) (by omega) (by omega))
    clear h h0 h1
    go_enter Tryz.func131, Tryz.ntmps131
    go_wp2_with fail
    go_ret
    exact ⟨rfl, H.out, .set _ _ _⟩

set_option maxRecDepth 20000 in
theorem nextM_any (B xb : Nat) (v : Value) (s : St) (n : Int) (w : World) (h : ModAt w B xb v s) :
    Calls Tryz.prog 78 #[stP xb, .int .i64 n] w fun e w' => e = .returned (.tuple #[.int .i64 (if nextBad s n then 0 else s.day + n), .int .i64 (if nextBad s n then 2 else 0)]) ∧
      ModAt w' B xb v (nextS s n) ∧ But2 xb xb w w' := by
  have c2 := h.c2
  have f2 := h.fz 2
  have d0 := h.ok.day0
  have d1 := h.ok.day1
  unfold nextS
  by_cases hb : nextBad s n
  · simp only [hb, if_true]
    have H := Lib.hid h; clear h
    by_cases h0 : n < 0
    · clear hb
      go_enter Tryz.func78, Tryz.ntmps78
      go_wp2_with fail
      go_ret2
      exact ⟨rfl, H.out, .of (Below.refl _ _)⟩
    · have h1 : 100000 - s.day < n := hb.resolve_left h0
      have g0 : decide (n < 0) = false := by simpa using h0
      clear hb h0
      go_enter Tryz.func78, Tryz.ntmps78
      go_wp2_with fail
      go_ret2
      exact ⟨rfl, H.out, .of (Below.refl _ _)⟩
  · simp only [hb, if_false]
    have h0 : ¬ n < 0 := fun e => hb (.inl e)
    have h1 : ¬ 100000 - s.day < n := fun e => hb (.inr e)
    have g0 : decide (n < 0) = false := by simpa using h0
    have g1 : decide (100000 - s.day < n) = false := by simpa using h1
    have k0 : 0 ≤ n := by omega
    have k1 : n ≤ 100000 - s.day := by omega
    have H := Lib.hid (h.setDay (x := s.day + n) (by omega) (by omega))
    have hd : (w.setCell ⟨xb, 2, none⟩ (.int .i64 (s.day + n))).cell? ⟨xb, 2, none⟩ = some (.int .i64 (s.day + n)) := H.out.c2
    clear h hb h0 h1
    go_enter Tryz.func78, Tryz.ntmps78
    go_wp2_with fail
    go_ret2
    exact ⟨rfl, H.out, .set _ _ _⟩

set_option maxRecDepth 20000 in
theorem swapM_any (B xb : Nat) (v : Value) (s : St) (old text : Str) (w : World) (h : ModAt w B xb v s) (ht : text.length ≤ 100000) :
    Calls Tryz.prog 72 #[stP xb, S old, S text] w fun e w' => e = .returned (.int .i64 ((swapE s old text).code : Int)) ∧ ModAt w' B xb v (swapS s old text) ∧ But2 xb xb w w' := by
  have c1 := h.c1
  have c3 := h.c3
  unfold swapE swapS
  by_cases h0 : 20000 < text.length
  · simp only [h0, if_true, true_or]
    have g0 : (20000 : Int) < text.length := by omega
    have H := Lib.hid h; clear h
    go_enter Tryz.func72, Tryz.ntmps72
    go_wp2_with fail
    go_ret
    exact ⟨rfl, H.out, .of (Below.refl _ _)⟩
  have g0 : (text.length : Int) ≤ 20000 := by omega
  cases ho : s.off with
  | true =>
    rw [ho] at c3
    simp only [h0, if_true, if_false, true_or, or_true]
    have H := Lib.hid h; clear h ho
    go_enter Tryz.func72, Tryz.ntmps72
    go_wp2_with fail
    go_ret
    exact ⟨rfl, H.out, .of (Below.refl _ _)⟩
  | false =>
    rw [ho] at c3
    by_cases h1 : s.head = old
    · simp only [h0, h1, if_false, Bool.false_eq_true, false_or, ne_eq, not_true_eq_false]
      have g1 : (s.head == old) = true := by simpa using h1
      have H := Lib.hid h
      have H1 := Lib.hid h1
      clear h ho h1
      by_cases hw : wrote s text.length < text.length
      · simp only [hw, if_true]
        have g2 : (wrote s text.length : Int) < text.length := by omega
        clear hw
        go_enter Tryz.func72, Tryz.ntmps72
        go_wp2_with fail
        refine (written_any B xb v s text.length _ H.out ht).mono ?_
        rintro e w1 ⟨rfl, h2, hb2⟩
        have H2 := Lib.hid h2
        clear h2 c1 c3
        generalize wrote s text.length = wr at *
        go_wp2_with fail
        go_ret
        exact ⟨rfl, H2.out, hb2⟩
      · simp only [hw, if_false]
        have g2 : decide ((wrote s text.length : Int) < text.length) = false := by simp; omega
        have g3 : (text.length : Int) ≤ (wrote s text.length : Int) := by omega
        clear hw
        go_enter Tryz.func72, Tryz.ntmps72
        go_wp2_with fail
        refine (written_any B xb v s text.length _ H.out ht).mono ?_
        rintro e w1 ⟨rfl, h2, hb2⟩
        have c1' := h2.c1
        have f1' := h2.fz 1
        have H2 := Lib.hid (h2.setHead (x := text) (by omega))
        clear h2 c1 c3
        generalize wrote s text.length = wr at *
        go_wp2_with fail
        go_ret
        exact ⟨rfl, H2.out, hb2.trans (But2.set _ _ _)⟩
    · simp only [h0, h1, if_true, if_false, Bool.false_eq_true, false_or, ne_eq, not_false_eq_true]
      have g1 : (s.head == old) = false := by simpa using h1
      have H := Lib.hid h; clear h ho h1
      go_enter Tryz.func72, Tryz.ntmps72
      go_wp2_with fail
      go_ret
      exact ⟨rfl, H.out, .of (Below.refl _ _)⟩
end Go.Proofs.YtikboodjfanjkaaGreatDoor
namespace Go.Proofs.YtikboodjfanjkaaGreatDoor
open Go.RowKit Go.Maps

theorem szOb (w : World) : (sizeOf 121).run Tryz.prog w = .ok 3 w := by kernel_rfl

/-- Where a name is. -/
def FindR (l : List Ob) (n : Str) (r : Int) : Prop := (∃ (k : Nat) (o : Ob), r = k ∧ l[k]? = some o ∧ o.name = n) ∨ (r = -1 ∧ getO l n = none)
theorem FindR.got {l : List Ob} {n : Str} {r : Int} (h : FindR l n r) (hr : Rising l) : (∃ (k : Nat) (o : Ob), r = k ∧ k < l.length ∧ l[k]? = some o ∧ o.name = n ∧ getO l n = some o) ∨ (r = -1 ∧ getO l n = none) := by
  rcases h with ⟨k, o, h1, h2, h3⟩ | h
  · exact .inl ⟨k, o, h1, (List.getElem?_eq_some_iff.1 h2).1, h2, h3, h3 ▸ getO_of_mem hr (List.mem_of_getElem? h2)⟩
  · exact .inr h

set_option maxRecDepth 20000 in
theorem findM_any (B xb : Nat) (v : Value) (s : St) (n : Str) (w : World) (h : ModAt w B xb v s) :
    Calls Tryz.prog 81 #[stP xb, S n] w fun e w' => ∃ r, e = .returned (.int .i64 r) ∧ FindR s.objs n r ∧ Below w.heap.size w w' := by
  obtain ⟨a, c, b, o, rfl, ha, -, hm, hx⟩ := h.own.at encO_enc
  unfold maxLen at hm
  have hn := h.ok.num
  have c0 := h.c0
  have H := Lib.hid h; clear h
  go_enter Tryz.func81, Tryz.ntmps81
  go_wp2_with fail
  go_loopw [5] (fun i wr => ∃ k : Nat, k ≤ s.objs.length ∧ i = .int .i64 k ∧ Hid (∀ j < k, ∀ x, s.objs[j]? = some x → x.name ≠ n) ∧ Below w.heap.size w wr) (fun i _ => s.objs.length - (intOf i).toNat)
  case atStart => exact ⟨0, by omega, rfl, Lib.hid fun j hj => absurd hj (by omega), Below.refl _ _⟩
  case round =>
    obtain ⟨k, hk, rfl, hj, hb⟩ := hrel
    have c0 := (hb.cell (World.block_lt_of_cell? w _ c0)).trans c0
    by_cases hlt : k < s.objs.length
    case neg =>
      have f : decide ((k : Int) < (s.objs.length : Int)) = false := by simp; omega
      go_wp2_with fail
      go_ret
      refine ⟨_, rfl, .inr ⟨rfl, getO_none.2 fun x hx => ?_⟩, hb⟩
      obtain ⟨j, hj'⟩ := List.getElem?_of_mem hx
      exact hj.out j (by have := (List.getElem?_eq_some_iff.1 hj').1; omega) x hj'
    obtain ⟨x, hxk⟩ := get_ex hlt
    have q0 := hx k x hxk 0 _ rfl
    have q0 := (hb.cell (World.block_lt_of_cell? w _ q0)).trans q0
    have i1 := idx_at (c := c) 3 Tryz.underlying101 szOb ha k hlt
    have f : (k : Int) < (s.objs.length : Int) := by omega
    simp only [Nat.add_zero] at q0
    have Hx := Lib.hid hxk; clear hxk
    by_cases e : x.name = n
    case pos =>
      have g : (x.name == n) = true := by simpa using e
      have HE := Lib.hid e; clear e
      go_wp2_with fail
      go_ret
      exact ⟨_, rfl, .inl ⟨k, x, rfl, Hx.out, HE.out⟩, hb⟩
    have g : (x.name == n) = false := by simpa using e
    have HE := Lib.hid e; clear e
    go_wp2_with fail
    refine ⟨⟨k + 1, by omega, by go_num, Lib.hid fun j hj' y hy => ?_, hb⟩, by simp [intOf]; omega⟩
    rcases Nat.lt_or_ge j k with h | h
    · exact hj.out j h y hy
    · obtain rfl : j = k := by omega
      rw [Hx.out] at hy
      cases hy
      exact HE.out

set_option maxRecDepth 20000 in
theorem getM_any (B xb : Nat) (v : Value) (s : St) (n : Str) (w : World) (h : ModAt w B xb v s) :
    Calls Tryz.prog 68 #[stP xb, S n] w fun e w' => e = .returned (.tuple #[S (((getO s.objs n).map (·.text)).getD []), .int .i64 (if (getO s.objs n).isSome then 0 else 6)]) ∧ Below w.heap.size w w' := by
  have H := Lib.hid h
  obtain ⟨a, c, b, o, rfl, ha, -, hm, hx⟩ := h.own.at encO_enc
  have hnum := h.ok.num
  unfold maxLen at hm
  clear h
  cases hg : getO s.objs n with
  | some y =>
    simp only [Option.map_some, Option.getD_some, Option.isSome_some, if_true]
    go_enter Tryz.func68, Tryz.ntmps68
    go_wp2_with fail
    refine (findM_any B xb _ s n _ H.out).mono ?_
    rintro e w1 ⟨r, rfl, hr, hb⟩
    rcases hr.got H.out.ok.ris with ⟨k, x, rfl, hk, hxk, hnm, hg2⟩ | ⟨rfl, hg2⟩
    · rw [hg] at hg2
      cases hg2
      have q1 := hx k y hxk 1 _ rfl
      have q1 := (hb.cell (World.block_lt_of_cell? w _ q1)).trans q1
      have i1 := idx_at (c := c) 3 Tryz.underlying101 szOb ha k hk
      have c0 := (H.out.below hb).c0
      have f : (k : Int) < (s.objs.length : Int) := by omega
      clear hxk hg hr
      go_wp2_with fail
      go_ret2
      exact ⟨rfl, hb⟩
    · rw [hg] at hg2; cases hg2
  | none =>
    simp only [Option.map_none, Option.getD_none, Option.isSome_none, Bool.false_eq_true, if_false]
    go_enter Tryz.func68, Tryz.ntmps68
    go_wp2_with fail
    refine (findM_any B xb _ s n _ H.out).mono ?_
    rintro e w1 ⟨r, rfl, hr, hb⟩
    rcases hr.got H.out.ok.ris with ⟨k, x, rfl, hk, hxk, hnm, hg2⟩ | ⟨rfl, hg2⟩
    · rw [hg] at hg2; cases hg2
    · clear hg hr
      go_wp2_with fail
      go_ret2
      exact ⟨rfl, hb⟩
end Go.Proofs.YtikboodjfanjkaaGreatDoor
namespace Go.Proofs.YtikboodjfanjkaaGreatDoor
open Go.RowKit Go.Maps

/-- Is a name one that nobody needs? (The days' difference as the program's numbers are.) -/
def bornOf (l : List Ob) (n : Str) : Int := ((getO l n).map (·.day)).getD (-1)
def keptN (l : List Ob) (needed : List Str) (day age : Int) (n : Str) : Bool := decide (n ∈ needed) || decide (IntKind.i64.wrap (day - bornOf l n) < age)
def orphN (l : List Ob) (needed : List Str) (day age : Int) : List Str := (l.map (·.name)).filter fun n => !keptN l needed day age n

set_option maxRecDepth 20000 in
theorem orphan1_any (sb mb : Nat) (st : St) (nv : Value) (needed : List Str) (age : Int) (n : Str) (a1 a2 a3 : Addr) (w : World) (h : StoreAt w sb mb st) (hN : StrsAt w nv needed) (hnl : needed.length ≤ 100000) (hn : n.length ≤ 100000)
    (h1 : w.cell? a1 = some nv) (h2 : w.cell? a2 = some (stP sb)) (h3 : w.cell? a3 = some (.int .i64 age)) :
    Calls Tryz.prog 83 #[S n, .pointer (some a1), .pointer (some a2), .pointer (some a3)] w fun e w' => e = .returned (.bool (keptN st.objs needed st.day age n)) ∧ Below w.heap.size w w' := by
  have H := Lib.hid h; clear h
  have hb1 : Below w.heap.size w w.drew := Bdn (Below.refl _ _) 1
  have HD := Lib.hid (H.out.below hb1)
  have HN0 := Lib.hid hN
  have HN := Lib.hid (hN.below hb1); clear hN
  have Hc := Lib.hid (fun (W : World) (hW : Below w.heap.size w W) => (⟨(hW.cell (World.block_lt_of_cell? w _ h1)).trans h1, (hW.cell (World.block_lt_of_cell? w _ h2)).trans h2, (hW.cell (World.block_lt_of_cell? w _ h3)).trans h3⟩ : W.cell? a1 = some nv ∧ W.cell? a2 = some (stP sb) ∧ W.cell? a3 = some (.int .i64 age)))
  clear h1 h2 h3
  obtain ⟨c1, c2, c3⟩ := Hc.out _ hb1
  by_cases hm : n ∈ needed
  · have hQ : ∀ q, Calls Tryz.prog 84 #[nv, S n] (w.drewN q) fun e w' => e = .returned (.bool true) ∧ w' = w.drewN q := fun q => by
      have h := containsS_any nv needed n (w.drewN q) (HN0.out.below (Bdn (Below.refl _ _) q)) hnl
      rw [decide_eq_true hm] at h
      exact h.mono fun _ _ ⟨h1, h2⟩ => ⟨h1, h2.symm⟩
    have HQ := Lib.hid hQ; clear hQ
    have hk : keptN st.objs needed st.day age n = true := by unfold keptN; rw [decide_eq_true hm]; rfl
    rw [hk]
    clear hk hm c1 c2 c3
    have c1 := (Hc.out _ (Below.refl _ _)).1
    go_enter Tryz.func83, Tryz.ntmps83
    go_wp2_with fail
    go_quiet (first
      | (go_at_call 84; refine Calls.quiet_of_same (HQ.out _)))
    go_wp2_with fail
    go_ret
    exact ⟨rfl, Bdn (Below.refl _ _) _⟩
  · have hC := containsS_any nv needed n w.drew HN.out hnl
    rw [decide_eq_false hm] at hC
    have HC := Lib.hid hC; clear hC
    have hk : keptN st.objs needed st.day age n = decide (IntKind.i64.wrap (st.day - bornOf st.objs n) < age) := by unfold keptN; rw [decide_eq_false hm]; rfl
    rw [hk]
    clear hk hm
    go_enter Tryz.func83, Tryz.ntmps83
    go_wp2_with fail
    go_region_held3 (fun w' => w'.cell? a1 = some nv ∧ w'.cell? a2 = some (stP sb) ∧ w'.cell? a3 = some (.int .i64 age)) (exact ⟨c1, c2, c3⟩) (first
      | (go_at_call 84; refine HC.out.mono ?_; rintro e w5 ⟨rfl, rfl⟩)
      | (go_at_call 25; refine (daySt_any sb mb st _ HD.out).mono ?_; rintro e w5 ⟨rfl, rfl⟩)
      | (go_at_call 26; refine (born_any sb mb st n _ HD.out hn).mono ?_; rintro e w5 ⟨rfl, hb5⟩; have hb15 := hb1.trans (hb5.mono hb1.size); clear c1 c2 c3; obtain ⟨c1, c2, c3⟩ := Hc.out _ hb15; clear hb5))
    all_goals
      go_wp2_with fail
      go_ret
      exact ⟨rfl, hb15⟩
end Go.Proofs.YtikboodjfanjkaaGreatDoor
namespace Go.Proofs.YtikboodjfanjkaaGreatDoor
open Go.RowKit Go.Maps

theorem wrapEq64 (n : Int) : IntKind.i64.wrap n = wrap64 n := (IntKind.wrap_i64 n).trans (by unfold wrap64; rfl)
def keptO (needed : List Str) (day age : Int) (o : Ob) : Bool := decide (o.name ∈ needed) || decide (IntKind.i64.wrap (day - o.day) < age)
theorem orphN_eq {l : List Ob} (h : Rising l) (needed : List Str) (day age : Int) : orphN l needed day age = (l.filter fun o => !keptO needed day age o).map (·.name) := by
  unfold orphN
  rw [List.filter_map]
  congr 1
  refine List.filter_congr fun o ho => ?_
  have e : bornOf l o.name = o.day := by unfold bornOf; rw [getO_of_mem h ho]; rfl
  simp only [Function.comp_apply, keptN, keptO, e]

theorem clo_orphan1 : Clo Tryz.prog 83 := fun _ _ => by kernel_rfl
set_option maxRecDepth 20000 in
theorem orphans_any (sb mb : Nat) (st : St) (nv : Value) (needed : List Str) (age : Int) (w : World) (h : StoreAt w sb mb st) (hN : StrsAt w nv needed) (hnl : needed.length ≤ 100000) :
    Calls Tryz.prog 20 #[stP sb, nv, .int .i64 age] w fun e w' => ∃ u, e = .returned u ∧ StrsAt w' u (orphN st.objs needed st.day age) ∧ Below w.heap.size w w' := by
  obtain ⟨a, c, rfl, -, -⟩ := At.form' hN
  obtain ⟨w1, hw1⟩ : ∃ w1, w1 = ((w.alloc (.cells #[stP sb] 37)).alloc (.cells #[.slice a needed.length c] 24)).alloc (.cells #[.int .i64 age] 3) := ⟨_, rfl⟩
  have hb1 : Below w.heap.size w w1 := hw1 ▸ (((Below.refl _ _).alloc (Nat.le_refl _) _).alloc (by simp) _).alloc (by simp; omega) _
  have e1 : (w.alloc (.cells #[stP sb] 37)).heap.size = w.heap.size + 1 := by simp
  have e2 : ((w.alloc (.cells #[stP sb] 37)).alloc (.cells #[.slice a needed.length c] 24)).heap.size = w.heap.size + 1 + 1 := by simp
  have c0 : w1.cell? ⟨w.heap.size, 0, none⟩ = some (stP sb) := newCell (w := w) (cs := #[stP sb]) (t := 37) (w6 := w1) (by rw [hw1]; exact ((Below.refl _ _).alloc (Nat.le_refl _) _).alloc (by simp) _) 0 rfl
  have c1 : w1.cell? ⟨w.heap.size + 1, 0, none⟩ = some (.slice a needed.length c) := by
    have h := newCell (w := w.alloc (.cells #[stP sb] 37)) (cs := #[.slice a needed.length c]) (t := 24) (w6 := w1) (by rw [hw1]; exact (Below.refl _ _).alloc (Nat.le_refl _) _) 0 rfl
    rwa [e1] at h
  have c2 : w1.cell? ⟨w.heap.size + 1 + 1, 0, none⟩ = some (.int .i64 age) := by
    have h := newCell (w := (w.alloc (.cells #[stP sb] 37)).alloc (.cells #[.slice a needed.length c] 24)) (cs := #[.int .i64 age]) (t := 3) (w6 := w1) (by rw [hw1]; exact Below.refl _ _) 0 rfl
    rwa [e2] at h
  clear e1 e2
  have H1 := Lib.hid (h.below hb1)
  have HN1 := Lib.hid (hN.below hb1)
  have HW := Lib.hid hw1
  clear h hN hw1
  go_enter Tryz.func20, Tryz.ntmps20
  go_upto_region 1 with fail
  rw [← HW.out]
  go_wp2_with fail
  refine (namesSt_any sb mb st w1 H1.out).mono ?_
  rintro e w2 ⟨v2, rfl, ho2, hb2⟩
  have hb2' := hb1.trans (hb2.mono hb1.size)
  have d0 := (hb2.cell (World.block_lt_of_cell? _ _ c0)).trans c0
  have d1 := (hb2.cell (World.block_lt_of_cell? _ _ c1)).trans c1
  have d2 := (hb2.cell (World.block_lt_of_cell? _ _ c2)).trans c2
  have k0 := World.block_lt_of_cell? _ _ c0
  have k1 := World.block_lt_of_cell? _ _ c1
  have k2 := World.block_lt_of_cell? _ _ c2
  go_wp2_with fail
  refine (deleteFuncS_any _ _ (keptN st.objs needed st.day age) w1.heap.size w2 v2 _ _ clo_orphan1 ?_ ho2 (Below.refl _ _) hb2.size).mono ?_
  · intro W x hx hbW hle
    obtain ⟨o, ho, rfl⟩ := List.mem_map.1 hx
    have hxl := H1.out.ok.nam o ho
    have hW1 := hb2.trans hbW
    exact orphan1_any sb mb st _ needed age o.name _ _ _ W (H1.out.below hW1) (HN1.out.below hW1) hnl (by omega) ((hbW.cell k1).trans d1) ((hbW.cell k0).trans d0) ((hbW.cell k2).trans d2)
  · rintro e w3 ⟨v3, rfl, hown3, hb3⟩
    go_wp2_with fail
    go_ret
    exact ⟨_, rfl, hown3.at encS_enc, hb2'.trans (hb3.mono hb1.size)⟩
set_option maxRecDepth 20000 in
theorem orphansNil_any (nv : Value) (needed : List Str) (age : Int) (w : World) (hN : StrsAt w nv needed) :
    Calls Tryz.prog 20 #[.pointer none, nv, .int .i64 age] w fun e w' => e = .returned (.slice none 0 0) ∧ Below w.heap.size w w' := by
  obtain ⟨a, c, rfl, -, -⟩ := At.form' hN
  have hb1 : Below w.heap.size w (((w.alloc (.cells #[.pointer none] 37)).alloc (.cells #[.slice a needed.length c] 24)).alloc (.cells #[.int .i64 age] 3)) := (((Below.refl _ _).alloc (Nat.le_refl _) _).alloc (by simp) _).alloc (by simp; omega) _
  go_enter Tryz.func20, Tryz.ntmps20
  go_wp2_with fail
  go_ret
  exact ⟨rfl, hb1⟩

set_option maxRecDepth 20000 in
set_option maxHeartbeats 1000000 in
theorem orphansOf_any (B xb : Nat) (v : Value) (s : St) (nv : Value) (needed : List Str) (age : Int) (w : World) (h : ModAt w B xb v s) (hN : StrsAt w nv needed) :
    Calls Tryz.prog 21 #[stP xb, nv, .int .i64 age] w fun e w' => ∃ u, e = .returned u ∧ StrsAt w' u (orphN s.objs needed s.day age) ∧ Below w.heap.size w w' := by
  rw [orphN_eq h.ok.ris]
  obtain ⟨a, c, b, o, rfl, ha, -, hm, hx⟩ := h.own.at encO_enc
  unfold maxLen at hm
  have hn := h.ok.num
  have H := Lib.hid h; clear h
  have HN := Lib.hid hN; clear hN
  go_enter Tryz.func21, Tryz.ntmps21
  go_wp2_with fail
  go_loopw [7, 8] (fun u i wr => ∃ (k : Nat) (out : List Str), k ≤ s.objs.length ∧ i = .int .i64 k ∧ out.length ≤ k ∧ Hid (out = ((s.objs.take k).filter fun o => !keptO needed s.day age o).map (·.name)) ∧ Own encS 9 1 w.heap.size wr u out ∧ Below w.heap.size w wr) (fun _ i _ => s.objs.length - (intOf i).toNat)
  case atStart => exact ⟨0, [], by omega, rfl, by simp, Lib.hid rfl, Own.nil encS _ 1 _ _, Below.refl _ _⟩
  case round =>
    obtain ⟨k, out, hk, rfl, hol, HO, ho, hb⟩ := hrel
    have c0 := (H.out.below hb).c0
    by_cases hlt : k < s.objs.length
    case neg =>
      have f : decide ((k : Int) < (s.objs.length : Int)) = false := by simp; omega
      have HF : Hid (out = (s.objs.filter fun o => !keptO needed s.day age o).map (·.name)) := Lib.hid (by rw [HO.out, List.take_of_length_le (by omega)])
      go_wp2_with fail
      go_ret
      exact ⟨_, rfl, by rw [← HF.out]; exact ho.at encS_enc, hb⟩
    obtain ⟨x, hxk⟩ := get_ex hlt
    have q0 := hx k x hxk 0 _ rfl
    have q2 := hx k x hxk 2 _ rfl
    have q0 := (hb.cell (World.block_lt_of_cell? w _ q0)).trans q0
    have q2 := (hb.cell (World.block_lt_of_cell? w _ q2)).trans q2
    have i1 := idx_at (c := c) 3 Tryz.underlying101 szOb ha k hlt
    have f : (k : Int) < (s.objs.length : Int) := by omega
    simp only [Nat.add_zero] at q0
    have hst : ((s.objs.take (k + 1)).filter fun o => !keptO needed s.day age o).map (·.name) = out ++ (if keptO needed s.day age x then [] else [x.name]) := by
      rw [HO.out, List.take_add_one, hxk]
      simp only [Option.toList_some, List.filter_append, List.map_append]
      congr 1
      cases hq : keptO needed s.day age x <;> simp [hq]
    have HS := Lib.hid hst
    have Hx := Lib.hid hxk; clear hxk hst
    go_wp2_with fail
    refine (inTexts_any x.name nv needed wr (HN.out.below hb)).mono ?_
    rintro e w2 ⟨rfl, hb2⟩
    have hbw2 := hb.trans (hb2.mono hb.size)
    have ho2 := ho.below hb2
    have H2 := Lib.hid (H.out.below hbw2)
    have q0 := (hb2.cell (World.block_lt_of_cell? _ _ q0)).trans q0
    have q2 := (hb2.cell (World.block_lt_of_cell? _ _ q2)).trans q2
    clear c0 hb hb2 ho
    by_cases hin : x.name ∈ needed
    case pos =>
      have hk1 : keptO needed s.day age x = true := by unfold keptO; rw [decide_eq_true hin]; rfl
      have HR : Hid (out = ((s.objs.take (k + 1)).filter fun o => !keptO needed s.day age o).map (·.name)) := Lib.hid (by rw [HS.out, hk1]; simp)
      rw [decide_eq_true hin]
      clear hk1 hin q0 q2
      go_wp2_with fail
      go_quiet (fail)
      go_wp2_with fail
      go_roundw
      case rel => exact ⟨k + 1, out, by omega, by go_num, by omega, HR, ho2.drewN _, Bdn hbw2 _⟩
      case measure => simp [intOf]; omega
    rw [decide_eq_false hin]
    have c0 := H2.out.c0
    have c2 := H2.out.c2
    have hk1 : keptO needed s.day age x = decide (IntKind.i64.wrap (s.day - x.day) < age) := by unfold keptO; rw [decide_eq_false hin]; rfl
    by_cases hle : IntKind.i64.wrap (s.day - x.day) < age
    case pos =>
      have HR : Hid (out = ((s.objs.take (k + 1)).filter fun o => !keptO needed s.day age o).map (·.name)) := Lib.hid (by rw [HS.out, hk1, decide_eq_true hle]; simp)
      have g : decide (age ≤ wrap64 (s.day - x.day)) = false := by rw [decide_eq_false_iff_not]; have := wrapEq64 (s.day - x.day); omega
      clear hk1 hin hle
      go_wp2_with fail
      go_quiet (fail)
      go_wp2_with fail
      go_roundw
      case rel => exact ⟨k + 1, out, by omega, by go_num, by omega, HR, ho2.drewN _, Bdn hbw2 _⟩
      case measure => simp [intOf]; omega
    have HR : Hid (out ++ [x.name] = ((s.objs.take (k + 1)).filter fun o => !keptO needed s.day age o).map (·.name)) := Lib.hid (by rw [HS.out, hk1, decide_eq_false hle]; simp)
    have g : age ≤ wrap64 (s.day - x.day) := by have := wrapEq64 (s.day - x.day); omega
    clear hk1 hin hle
    go_wp2_with fail
    go_quiet (fail)
    go_wp2_with (at_builtin; refine wpList_app rfl _ _ _ rfl w.heap.size elStr _ out.length _ rfl ((ho2.drewN nq).alloc _) (.slice (some ⟨(w2.drewN nq).heap.size, 0, none⟩) 1 1) 1 [S x.name] rfl (src_one rfl rfl (by simp [Value.oneCell'])) (by unfold maxLen; omega) (by omega) (by have := hbw2.size; simp; omega) ?_; intro v3 w3 hown hg _; have hb3 := Bapp ((Bdn hbw2 nq).alloc hbw2.size _) ((ho2.drewN nq).alloc _) hg (Nat.le_refl _) (by have := hbw2.size; simp; omega))
    go_roundw
    case rel => exact ⟨k + 1, out ++ [x.name], by omega, by go_num, by simp; omega, HR, Own.snoc hown, hb3⟩
    case measure => simp [intOf]; omega
end Go.Proofs.YtikboodjfanjkaaGreatDoor
namespace Go.Proofs.YtikboodjfanjkaaGreatDoor
open Go.RowKit Go.Maps Go.Sort Go.Shelf
attribute [local go_sem] Oper.semAt_some

abbrev obVal (o : Ob) : Value := .agg #[S o.text, .int .i64 o.day]

theorem perm_of_names {l ps : List Ob} (hl : Rising l) (hp : (ps.map (·.name)).Perm (l.map (·.name))) (hv : ∀ p ∈ ps, getO l p.name = some p) : ps.Perm l := by
  have h1 : ∀ q : List Ob, (∀ p ∈ q, getO l p.name = some p) → (q.map (·.name)).filterMap (getO l) = q := by
    intro q
    induction q with
    | nil => intro _; rfl
    | cons a r ih => intro h; simp [h a (by simp), ih fun p hp => h p (by simp [hp])]
  have h2 := hp.filterMap (getO l)
  rwa [h1 ps hv, h1 l fun p hp => getO_of_mem hl hp] at h2

theorem values_in (F : Fence) (n : Nat) (hf : F.fn 169) (hro : F.round = none) (m : Option Nat) (w : World) :
    CallsIn F n Tryz.prog 169 #[.map m] w fun e w' => e = .returned (.func (.func 204) #[] #[.pointer (some ⟨w.heap.size, 0, none⟩)]) ∧ w' = w.alloc (.cells #[.map m] 98) := by
  refine callsIn_of_wp Tryz.func169 rfl hf ?_ hro
  simp only [Tryz.ntmps169, List.size_toArray, List.length_cons, List.length_nil, Nat.reduceAdd, Nat.reduceSub, Array.replicate_succ, Array.replicate_zero, List.push_toArray, List.append_toArray, List.nil_append, List.cons_append]
  gi_wp2
  go_ret
  exact ⟨rfl, rfl⟩

theorem objElem_inv2 {v : Value} {y : DataW Unit × List MemPlace} (h : objElem v = some y) : ∃ c : Str × Int, v = .agg #[S c.1, .int .i64 c.2] ∧ y = (obT c.1 c.2, []) := by
  unfold objElem at h
  split at h
  · rename_i cs
    split at h
    · rename_i s d' hcs
      split at h
      · refine ⟨(s.data.toList, d'), ?_, (Option.some.inj h).symm⟩
        have : cs = #[.string s, .int .i64 d'] := by rw [← hcs]
        rw [this]
      · cases h
    · cases h
  · cases h
theorem got_of_at {os : List Ob} {x t : Str} {d : Int} (h : ∀ zd, (mapD os).atKey (.string x) zd = obT t d) : getO os x = some ⟨x, t, d⟩ := by
  cases hg : getO os x with
  | none =>
    have h1 := h (.lit (.bool true))
    rw [at_mapD, hg] at h1
    cases h1
  | some o =>
    have h1 := h (.lit (.bool true))
    rw [at_mapD, hg] at h1
    obtain ⟨_, hn⟩ := getO_mem hg
    obtain ⟨n, t', d'⟩ := o
    simp only [Option.map_some, Option.getD_some, obT, DataW.agg.injEq, List.cons.injEq, DataW.lit.injEq, Lit.string.injEq, Lit.int.injEq, and_true, true_and] at h1
    obtain ⟨rfl, rfl⟩ := h1
    cases hn
    rfl

set_option maxRecDepth 100000 in
set_option maxHeartbeats 1000000 in
theorem values1_in (F : Fence) (n : Nat) (hf : F.fn 204) (hro : F.round = none) (hn : 1 ≤ n) (l Bm b nn : Nat) (os : List Ob) (hos : Rising os) (J Jx : List {o : Ob // o ∈ os} → World → Prop)
    (hY : ∀ pre x W, J pre W → pre.length < os.length → YieldAt F (n - 1) Tryz.prog l #[obVal x.1] W fun e W' =>
      (e = .returned (.bool true) ∧ J (pre ++ [x]) W' ∧ KeepsWalks W W') ∨ (e = .returned (.bool false) ∧ Jx (pre ++ [x]) W'))
    (W : World) (hJ : AbidesFrom W.heap.size J) (hm : W.cell? ⟨Bm, 0, none⟩ = some (.map (some b))) (hown : W.ownsMap Tryz.prog 9 objElem b nn (mapD os)) (h0 : J [] W) :
    CallsIn F n Tryz.prog 204 #[.func (.yield l) #[] #[], .pointer (some ⟨Bm, 0, none⟩)] W fun e W' => (∃ v, e = .returned v) ∧
      ((∃ xs : List {o : Ob // o ∈ os}, (xs.map (·.1)).Perm os ∧ J xs W') ∨ (∃ pre, Jx pre W')) := by
  refine callsIn_of_wp Tryz.func204 rfl hf ?_ hro
  simp only [Tryz.ntmps204, List.size_toArray, List.length_cons, List.length_nil, Nat.reduceAdd, Nat.reduceSub, Array.replicate_succ, Array.replicate_zero, List.push_toArray, List.append_toArray, List.nil_append, List.cons_append]
  gi_wp2_with (first
    | (gi_at_range; refine wpListIn_range_own _ rfl _ 98 rfl 9 127 (string_keyed Tryz.underlying9) Tryz.underlying98 _ b nn _ rfl hown ?_; intro w0 hrg0 hg0 hs0)
    | gi_in)
  go_frame
  gi_loopw [4] (fun _ wr => ∃ (left : Lit → Bool) (cnt : Nat) (ps : List {o : Ob // o ∈ os}), wr.ranges Tryz.prog 9 objElem b W.heap.size nn (mapD os) left cnt ∧ ps.length + cnt ≤ os.length ∧ Collected (mapD os) left (ps.map (·.1.name)) ∧ J ps wr)
    (fun _ wr => wr.rangeLeft b W.heap.size)
  case atStart =>
    exact ⟨_, _, [], hrg0, by simp [size_mapD], Collected.start _, hJ [] W w0 none h0 hg0 (fun r e => by cases e)⟩
  case round =>
    obtain ⟨left, cnt, ps, hrg, hcs, hC, hJs⟩ := hrel
    gi_wp2_with (first
      | (gi_at_next; refine wpListIn_next_ranges _ rfl _ rfl 9 (string_keyed Tryz.underlying9) objElem encStr (fun c : Str × Int => .agg #[S c.1, .int .i64 c.2]) (fun key kl hk => by obtain ⟨x, hx, _⟩ := Maps.keyOf_str Tryz.underlying9 hk; exact ⟨x, hx⟩) (fun v y hv => by obtain ⟨c, rfl, _⟩ := objElem_inv2 hv; exact ⟨c, rfl⟩) b W.heap.size nn _ _ _ rfl hrg ?_ ?_)
      | gi_in)
    · -- nothing is left
      intro hc0 hl0
      gi_wp2
      go_end0
      have hp := hC.perm hown (string_keyed Tryz.underlying9) Tryz.underlying9 hl0
      rw [keys_mapD] at hp
      exact ⟨⟨_, rfl⟩, .inl ⟨ps, perm_of_names hos (by simpa [Function.comp_def] using hp) (fun p hp => by obtain ⟨q, _, rfl⟩ := List.mem_map.1 hp; exact getO_of_mem hos q.2), hJs⟩⟩
    · -- an entry has come
      intro x ct cd kl yd yp w2 cnt2 hkey hlk hv hat hrg2 hlt hg2 hs2 hen
      obtain ⟨x', ex, rfl, _⟩ := Maps.keyOf_str Tryz.underlying9 hkey
      obtain rfl : x = x' := encStr_inj ex
      obtain ⟨⟨ct', cd'⟩, ec, ez⟩ := objElem_inv2 hv
      have h1 : S ct = S ct' ∧ Value.int .i64 cd = Value.int .i64 cd' := by simpa using ec
      obtain rfl : ct = ct' := encStr_inj h1.1
      obtain rfl : cd = cd' := by simpa using h1.2
      clear h1 ec
      obtain rfl : yd = obT ct cd := (Prod.mk.inj ez).1
      have hgo := got_of_at hat
      have hJ2 : J ps w2 := hJ _ wr w2 (some W.heap.size) hJs hg2 (fun r e => by cases e; exact ⟨Nat.le_refl _, hrg.iter_walk⟩)
      have hJ3 := hJ ps w2 (w2.alloc (.cells #[S ct, .int .i64 cd] 127)) none hJ2 (World.grownBy_alloc _ _ none) (fun r e => by cases e)
      have hrg2 := hrg2.of_walks (KeepsWalks.alloc w2 (.cells #[S ct, .int .i64 cd] 127))
      obtain ⟨fn, tmps, assign, body, hy, hR⟩ := hY ps ⟨⟨x, ct, cd⟩, (getO_mem hgo).1⟩ _ hJ3 (by omega)
      clear hs2
      gi_wp2
      refine hR.mono ?_
      have hC2 : Collected (mapD os) (fun z => left z && !z.sameKey (.string x)) ((ps ++ [(⟨⟨x, ct, cd⟩, (getO_mem hgo).1⟩ : {o : Ob // o ∈ os})]).map (·.1.name)) := by simpa using hC.step hlk hat
      rintro e W3 (⟨rfl, hJ3, hk3⟩ | ⟨rfl, hJx3⟩)
      · gi_wp2
        have hrg3 := hrg2.of_walks hk3
        go_roundw
        case rel => exact ⟨_, cnt2, _, hrg3, by simp; omega, hC2, hJ3⟩
        case measure => rw [hrg3.left_eq, hrg.left_eq]; exact hlt
      · gi_wp2
        refine bodyPost_ret (results_none rfl _ _ _) rfl ?_
        exact ⟨⟨_, rfl⟩, .inr ⟨_, hJx3⟩⟩

theorem values_stops (F : Fence) (n : Nat) (hf : F.fn 204) (hro : F.round = none) (hn : 1 ≤ n) (Bm b nn : Nat) (os : List Ob) (hos : Rising os) (w : World) (hBm : Bm < w.heap.size)
    (hm : w.cell? ⟨Bm, 0, none⟩ = some (.map (some b))) (hown : w.ownsMap Tryz.prog 9 objElem b nn (mapD os)) :
    SeqStops F n Tryz.prog 204 #[.pointer (some ⟨Bm, 0, none⟩)] (fun x : {o : Ob // o ∈ os} => obVal x.1) (fun xs => (xs.map (·.1)).Perm os) (fun _ => True) os.length w := fun l J Jx W hW hJ _ hY h0 => by
  have hown' : W.ownsMap Tryz.prog 9 objElem b nn (mapD os) := by
    have hbl := hown.lt
    obtain ⟨es, clock, hb, Ft, hs, hD⟩ := hown
    exact ⟨es, clock, (hW.block b hbl).trans hb, Ft, hs, hD⟩
  refine (values1_in F n hf hro hn l Bm b nn os hos J Jx hY W hJ ((hW.cell (p := ⟨Bm, 0, none⟩) hBm).trans hm) hown' h0).mono ?_
  rintro e W' ⟨h1, h2 | ⟨pre, h2⟩⟩
  · exact ⟨h1, .inl h2⟩
  · exact ⟨h1, .inr ⟨pre, trivial, h2⟩⟩

theorem total_len : ∀ {l : List Ob}, (∀ o ∈ l, o.text.length ≤ 20000) → total l ≤ l.length * 20000
  | [], _ => by simp [total]
  | a :: r, h => by
    have h2 := total_len fun o ho => h o (List.mem_cons_of_mem a ho)
    have h3 := h a (List.mem_cons_self ..)
    unfold total at h2 ⊢
    rw [List.map_cons, List.sum_cons, List.length_cons, Nat.add_mul]; omega
theorem total_le {s : St} (h : s.Ok) : total s.objs ≤ 4000000 := by
  have := total_len h.txt
  have hn := h.num
  have : s.objs.length * 20000 ≤ 200 * 20000 := Nat.mul_le_mul_right _ hn
  omega
theorem box_cell {W : World} {B : Nat} {v : Value} {t : TypeId} (h : W.heap[B]? = some (.cells #[v] t (0, 0))) : W.cell? ⟨B, 0, none⟩ = some v ∧ W.frozen? ⟨B, 0, none⟩ = false := by
  constructor <;> simp [World.cell?, World.frozen?, h]
theorem total_perm {a b : List Ob} (h : a.Perm b) : total a = total b := (h.map _).sum_nat

set_option maxRecDepth 100000 in
set_option maxHeartbeats 2000000 in
theorem bytes_any (sb mb : Nat) (s : St) (w : World) (h : StoreAt w sb mb s) :
    Calls Tryz.prog 128 #[stP sb] w fun e w' => e = .returned (.int .i64 (total s.objs : Int)) ∧ Below w.heap.size w w' := by
  have c0 := (h.below ((Below.refl _ w).alloc (Nat.le_refl _) (.cells #[.int .i64 0] 3))).c0
  refine (callsIn_wide (n := 6)).1 ?_
  have h7 : Fence.wide.fn 204 := trivial
  have h5 : Fence.wide.fn 169 := trivial
  refine callsIn_of_wp_marks Tryz.func128 rfl trivial ?_ rfl
  simp only [Tryz.ntmps128, List.size_toArray, List.length_cons, List.length_nil, Nat.reduceAdd, Nat.reduceSub, Array.replicate_succ, Array.replicate_zero, List.push_toArray, List.append_toArray, List.nil_append, List.cons_append]
  gi_wp2_with (gi_at_call 169; refine (values_in Fence.wide 5 trivial rfl _ _).mono ?_; rintro e w' ⟨rfl, rfl⟩)
  obtain ⟨W0, hW0⟩ : ∃ W0, (w.alloc (.cells #[.int .i64 0] 3)).alloc (.cells #[.map (some mb)] 98) = W0 := ⟨_, rfl⟩
  have hs0 : W0.heap.size = w.heap.size + 2 := by rw [← hW0]; simp
  have hb0 : Below w.heap.size w W0 := by rw [← hW0]; exact ((Below.refl _ w).alloc (Nat.le_refl _) _).alloc (by simp) _
  have hn0 : W0.heap[w.heap.size]? = some (.cells #[.int .i64 0] 3 (0, 0)) := by
    rw [← hW0]; exact (Below.heap_alloc _ _ _ (by simp)).trans (World.alloc_heap_new w _)
  have hm0 : W0.heap[w.heap.size + 1]? = some (.cells #[.map (some mb)] 98 (0, 0)) := by
    rw [← hW0]
    have := World.alloc_heap_new (w.alloc (.cells #[.int .i64 0] 3)) (.cells #[.map (some mb)] 98)
    rwa [World.size_alloc] at this
  rw [hW0]
  clear hW0
  refine rangeAll rfl (by omega) (gf := 204) (lb := #[.pointer (some ⟨w.heap.size + 1, 0, none⟩)]) rfl h7 (enters_of Tryz.func204 (by kernel_rfl) rfl)
    (values_stops Fence.wide 5 h7 rfl (by omega) (w.heap.size + 1) mb s.objs.length s.objs h.ok.ris W0 (by omega) (box_cell hm0).1 (h.below hb0).own).gives (Below.refl _ _) rfl
    (fun pre W => W.heap[w.heap.size]? = some (.cells #[.int .i64 (total (pre.map (·.1)))] 3 (0, 0)) ∧ Below w.heap.size w W) ?_ ⟨hn0, hb0⟩
    (fun p W => (W.heap[w.heap.size]? = some (.cells #[.int .i64 (total (p.1.map (·.1)))] 3 (0, 0)) ∧ Below w.heap.size w W) ∧ p.1.length < s.objs.length ∧ ∃ B, w.heap.size < B ∧ p.2.2 = ⟨#[stP sb, undef, .int .i64 0, .pointer (some ⟨w.heap.size, 0, none⟩), .pointer (some ⟨B, 0, none⟩), stP sb, .pointer (some ⟨sb, 0, none⟩), .pointer (some ⟨sb, 0, none⟩), .map (some mb), .func (.func 204) #[] #[.pointer (some ⟨w.heap.size + 1, 0, none⟩)], obVal p.2.1.1, undef, undef, undef, undef, undef, undef], []⟩ ∧ W.heap[B]? = some (.cells #[S p.2.1.1.text, .int .i64 p.2.1.1.day] 127 (0, 0))) ?_ ?_ ?_ ?_
  · rintro pre A Z row ⟨h1, h2⟩ hg hr
    exact ⟨(hg.block _ (Array.getElem?_eq_some_iff.1 h1).1 (fun e => by have := (hr _ e.symm).1; omega)).trans h1, h2.grown hg h2.size (fun k e => by have := (hr _ e).1; omega)⟩
  · rintro p A Z row ⟨⟨h1, h2⟩, h3, B, h4, h5, h6⟩ hg hr
    refine ⟨⟨(hg.block _ (Array.getElem?_eq_some_iff.1 h1).1 (fun e => by have := (hr _ e.symm).1; omega)).trans h1, h2.grown hg h2.size (fun k e => by have := (hr _ e).1; omega)⟩, h3, B, h4, h5, (hg.block _ (Array.getElem?_eq_some_iff.1 h6).1 (fun e => ?_)).trans h6⟩
    obtain ⟨_, o, ho, hc⟩ := hr _ e.symm
    rw [h6] at ho
    cases ho
    cases hc
  · rintro l pre x W ⟨h1, h2⟩ hlen
    have hlt := (Array.getElem?_eq_some_iff.1 h1).1
    gi_wp2
    refine ⟨KeepsOthers.alloc _ _, ⟨(Below.heap_alloc _ _ _ hlt).trans h1, h2.alloc h2.size _⟩, hlen, W.heap.size, hlt, rfl, World.alloc_heap_new W _⟩
  · rintro l pre x a1 W ⟨⟨h1, h2⟩, hlen, B, hB, ha1, h6⟩
    simp only at h1 hlen ha1 h6
    subst ha1
    obtain ⟨c1, f1⟩ := box_cell h1
    have hx := h.ok.txt x.1 x.2
    have htp : total (pre.map (·.1)) ≤ pre.length * 20000 := by
      clear h1 c1
      have hall : ∀ o ∈ pre.map (·.1), o.text.length ≤ 20000 := fun o ho => by obtain ⟨q, _, rfl⟩ := List.mem_map.1 ho; exact h.ok.txt q.1 q.2
      have := total_len hall
      rwa [List.length_map] at this
    have hn := h.ok.num
    have hc0 : W.cell? ⟨B, 0, none⟩ = some (S x.1.text) := by simp [World.cell?, h6]
    have ht : total ((pre ++ [x]).map (·.1)) = total (pre.map (·.1)) + x.1.text.length := by simp [total]
    rw [ht]
    generalize total (pre.map (·.1)) = tt at *
    have hbt : tt ≤ 4000000 := by omega
    clear htp ht hlen
    obtain ⟨⟨nm, tx, dy⟩, hxm⟩ := x
    simp only at hx hc0 h6 ⊢
    gi_wp2
    exact ⟨KeepsOthers.setCell _ _ _, heap_setCell_same W _ 0 _ _ _ h1, h2.grown (grown_set W w.heap.size 0 _) h2.size (fun k e => by cases e; exact Nat.le_refl _)⟩
  · rintro D xs W hG ⟨h1, h2⟩ hD hK
    obtain ⟨c1, f1⟩ := box_cell h1
    rw [total_perm hG] at c1
    gi_wp2
    refine ⟨by simp, .inl ⟨_, _, rfl, run_takeDeferred hK, ?_⟩⟩
    exact ⟨_, results_tmp rfl _ _ _, rfl, h2.grown (grownBy_putObj' W D _) h2.size (fun k e => by cases e; omega)⟩
end Go.Proofs.YtikboodjfanjkaaGreatDoor
namespace Go.Proofs.YtikboodjfanjkaaGreatDoor
open Go.RowKit Go.Maps

theorem ownsMap_tight {P : Program} {k : TypeId} {R : Value → Option (DataW Unit × List MemPlace)} {w : World} {b n : Nat} {D : DataW Unit} (h : w.ownsMap P k R b n D) : w.ownsMap P k R b (size D) D := by
  obtain ⟨es, clock, hb, F, _, rfl⟩ := h
  exact ⟨es, clock, hb, F, by simp [size, length_sorted], rfl⟩

def dropE (s : St) (n : Str) : Er := if s.off = true then .bare 12 else if getO s.objs n = none then .bare 6 else .nil
def dropS (s : St) (n : Str) : St := if s.off = true ∨ getO s.objs n = none then s else { s with objs := dropO s.objs n }

theorem mapTurned_but {w w' : World} {sb mb : Nat} (h : w.mapTurned w' mb) : But2 sb mb w w' :=
  ⟨h.grown.os, h.grown.tape, h.grown.output, h.grown.size, fun k hk _ h2 => h.grown.block k hk (fun e => h2 (Option.some.inj e))⟩
theorem mapTurned_blk {w w' : World} {sb mb : Nat} (h : w.mapTurned w' mb) (hne : sb ≠ mb) (hlt : sb < w.heap.size) : w'.heap[sb]? = w.heap[sb]? := h.grown.block sb hlt (fun e => hne (Option.some.inj e))
theorem St.Ok.drop {s : St} (h : s.Ok) (n : Str) : St.Ok { s with objs := dropO s.objs n } :=
  { ris := dropO_rising h.ris n, day0 := h.day0, day1 := h.day1, cut0 := h.cut0, cut1 := h.cut1, txt := fun o ho => h.txt o (List.mem_filter.1 ho).1, nam := fun o ho => h.nam o (List.mem_filter.1 ho).1, num := Nat.le_trans (List.length_filter_le _ _) h.num, hd := h.hd }

/-- delete(m, n). -/
theorem delete_any {w : World} {sb mb : Nat} {s : St} (h : StoreAt w sb mb s) (n : Str) (hn : n.length ≤ 100000) :
    ∃ w', (∀ ty, (Builtin.delete_ #[98, 9] ty #[.map (some mb), S n]).run Tryz.prog w = .ok (.tuple #[]) w') ∧ StoreAt w' sb mb { s with objs := dropO s.objs n } ∧ But2 sb mb w w' := by
  obtain ⟨w', h1, h2, h3⟩ := h.own.drop (string_keyed Tryz.underlying9) Tryz.underlying98 (keyStr hn) 0
  refine ⟨w', fun ty => ?_, ⟨(mapTurned_blk h3 h.ne h.lt).trans h.blk, ?_, h.ok.drop n⟩, mapTurned_but h3⟩
  · exact h1
  · rw [del_mapD] at h2
    have := ownsMap_tight h2
    rwa [size_mapD] at this

set_option maxRecDepth 20000 in
theorem drop_any (E : Nat → Addr) (B : Nat) (sb mb : Nat) (s : St) (n : Str) (w : World) (hE : Errs [6, 12] E B w) (h : StoreAt w sb mb s) (hn : n.length ≤ 100000) :
    Calls Tryz.prog 69 #[stP sb, S n] w fun e w' => ∃ ev, e = .returned ev ∧ ErV E w' ev (dropE s n) ∧ StoreAt w' sb mb (dropS s n) ∧ But2 sb mb w w' := by
  have c0 := h.c0
  have hl := look_any h n hn
  have hba := fun o => (Below.refl w.heap.size w).alloc (Nat.le_refl _) o
  have hE1 := fun o => hE.below' (hba o) hE.le
  have v6 := fun o => (hE1 o).var 6 (by decide)
  have v12 := fun o => (hE1 o).var 12 (by decide)
  simp only [errG] at v6 v12
  unfold dropE dropS
  cases ho : s.off with
  | true =>
    cases hg : getO s.objs n with
    | none =>
      rw [hg] at hl
      simp only [obV, Option.isSome_none] at hl
      have h1 := h.below (hba (.cells #[.string ⟨#[]⟩, .int .i64 0] 127))
      have v12 := v12 (.cells #[.string ⟨#[]⟩, .int .i64 0] 127)
      have c3 := h1.c3
      rw [ho] at c3
      have H := Lib.hid h1
      simp only [if_true, true_or]
      clear h h1 ho hg v6 hba hE1
      go_enter Tryz.func69, Tryz.ntmps69
      go_wp2_with fail
      go_ret
      exact ⟨_, rfl, ⟨by decide, rfl⟩, H.out, .of ((Below.refl _ _).alloc (Nat.le_refl _) _)⟩
    | some o =>
      rw [hg] at hl
      simp only [obV, Option.isSome_some] at hl
      have h1 := h.below (hba (.cells #[S o.text, .int .i64 o.day] 127))
      have v12 := v12 (.cells #[S o.text, .int .i64 o.day] 127)
      have c3 := h1.c3
      rw [ho] at c3
      have H := Lib.hid h1
      simp only [if_true, true_or]
      clear h h1 ho hg v6 hba hE1
      go_enter Tryz.func69, Tryz.ntmps69
      go_wp2_with fail
      go_ret
      exact ⟨_, rfl, ⟨by decide, rfl⟩, H.out, .of ((Below.refl _ _).alloc (Nat.le_refl _) _)⟩
  | false =>
    cases hg : getO s.objs n with
    | none =>
      rw [hg] at hl
      simp only [obV, Option.isSome_none] at hl
      have h1 := h.below (hba (.cells #[.string ⟨#[]⟩, .int .i64 0] 127))
      have v6 := v6 (.cells #[.string ⟨#[]⟩, .int .i64 0] 127)
      have c3 := h1.c3
      rw [ho] at c3
      have H := Lib.hid h1
      simp only [if_true, Bool.false_eq_true, if_false, or_true]
      clear h h1 ho hg v12 hba hE1
      go_enter Tryz.func69, Tryz.ntmps69
      go_wp2_with fail
      go_ret
      exact ⟨_, rfl, ⟨by decide, rfl⟩, H.out, .of ((Below.refl _ _).alloc (Nat.le_refl _) _)⟩
    | some o =>
      rw [hg] at hl
      simp only [obV, Option.isSome_some] at hl
      have h1 := h.below (hba (.cells #[S o.text, .int .i64 o.day] 127))
      have c3 := h1.c3
      have c0' := h1.c0
      rw [ho] at c3
      obtain ⟨w2, hrun, h2, hb2⟩ := delete_any h1 n hn
      have h2 : StoreAt w2 sb mb { objs := dropO s.objs n, head := s.head, day := s.day, off := false, cut := s.cut } := by rw [← ho]; exact h2
      have H := Lib.hid h2
      have Hb := Lib.hid hb2
      simp only [Bool.false_eq_true, if_false, or_false, reduceCtorEq]
      clear h h1 ho hg v6 v12 hba hE1 h2 hb2
      go_enter Tryz.func69, Tryz.ntmps69
      go_wp2_with fail
      go_ret
      exact ⟨_, rfl, rfl, H.out, (But2.of ((Below.refl _ _).alloc (Nat.le_refl _) _)).trans Hb.out⟩

theorem new_any (w : World) :
    Calls Tryz.prog 17 #[] w fun e w' => ∃ sb mb, e = .returned (stP sb) ∧ StoreAt w' sb mb St.new ∧ w.heap.size ≤ sb ∧ w.heap.size ≤ mb ∧ Below w.heap.size w w' := by
  have hmm := @run_makeMap Tryz.prog
  go_enter Tryz.func17, Tryz.ntmps17
  go_wp2_with fail
  go_ret
  have hs : (w.alloc (.map #[] 0)).heap.size = w.heap.size + 1 := by simp
  refine ⟨w.heap.size + 1, w.heap.size, rfl, ⟨?_, ?_, ?_⟩, by omega, Nat.le_refl _, ((Below.refl _ _).alloc (Nat.le_refl _) _).alloc (by simp) _⟩
  · have := heap_alloc_new (w.alloc (.map #[] 0)) (.cells (stCells w.heap.size St.new) 100)
    rw [hs] at this
    exact this
  · exact (World.ownsMap_made w Tryz.prog 9 objElem).alloc _
  · exact { ris := List.Pairwise.nil, day0 := Int.le_refl _, day1 := by decide, cut0 := Int.le_refl _, cut1 := by decide, txt := fun _ h => (by cases h), nam := fun _ h => (by cases h), num := Nat.zero_le _, hd := Nat.zero_le _ }
end Go.Proofs.YtikboodjfanjkaaGreatDoor
namespace Go.Proofs.YtikboodjfanjkaaGreatDoor
open Go.RowKit

theorem dropWhile_nil {α : Type} {p : α → Bool} : ∀ {l : List α}, l.dropWhile p = [] ↔ l.all p = true
  | [] => by simp
  | a :: r => by
    rw [List.dropWhile_cons, List.all_cons]
    cases h : p a with
    | true => simp [dropWhile_nil (l := r)]
    | false => simp
theorem trimS_nil (l cs : Str) : Lib.trimS l cs = [] ↔ l.all (fun b => cs.contains b) = true := by
  have hr : Lib.trimRightS l cs = [] ↔ l.all (fun b => cs.contains b) = true := by
    unfold Lib.trimRightS
    rw [List.reverse_eq_nil_iff, dropWhile_nil, List.all_reverse]
  unfold Lib.trimS
  constructor
  · intro h
    refine hr.1 ?_
    unfold Lib.trimLeftS at h
    rw [dropWhile_nil] at h
    cases hd : l.reverse.dropWhile (fun b => cs.contains b) with
    | nil => unfold Lib.trimRightS; rw [hd]; rfl
    | cons a r =>
      have ha : cs.contains a = false := by
        have := List.head?_dropWhile_not (fun b => cs.contains b) l.reverse
        rw [hd] at this
        simpa using this
      have hm : a ∈ Lib.trimRightS l cs := by unfold Lib.trimRightS; rw [hd]; simp
      have := List.all_eq_true.1 h a hm
      rw [ha] at this; cases this
  · intro h
    rw [hr.2 h]; rfl

/-- The signs of names. -/
def nameSigns : Str := [97, 98, 99, 100, 101, 102, 103, 104, 105, 106, 107, 108, 109, 110, 111, 112, 113, 114, 115, 116, 117, 118, 119, 120, 121, 122, 48, 49, 50, 51, 52, 53, 54, 55, 56, 57, 47]
def nameOk (s : Str) : Bool := decide (s ≠ []) && (decide (s.length ≤ 16) && s.all (fun b => nameSigns.contains b))

theorem trimName_any (s : Str) (w : World) (hs : s.length ≤ 100000) :
    Calls Tryz.prog 168 #[S s, .string ⟨#[97, 98, 99, 100, 101, 102, 103, 104, 105, 106, 107, 108, 109, 110, 111, 112, 113, 114, 115, 116, 117, 118, 119, 120, 121, 122, 48, 49, 50, 51, 52, 53, 54, 55, 56, 57, 47]⟩] w
      fun e w' => e = .returned (S (Lib.trimS s nameSigns)) ∧ Below w.heap.size w w' := by
  have h := Any.strings_Trim_laid Tryz.lays160 (by kernel_rfl) ⟨s.toArray⟩ ⟨nameSigns.toArray⟩ w (by simp [ByteArray.size]; omega) (by decide) (ascii_of_all (by decide))
  exact h
set_option maxRecDepth 20000 in
theorem name_any (s : Str) (w : World) (hs : s.length ≤ 100000) :
    Calls Tryz.prog 127 #[S s] w fun e w' => e = .returned (.bool (nameOk s)) ∧ Below w.heap.size w w' := by
  by_cases h0 : s = []
  · subst h0
    go_enter Tryz.func127, Tryz.ntmps127
    go_wp2_with fail
    go_ret
    exact ⟨rfl, Below.refl _ _⟩
  have e0 : nameOk s = (decide (s.length ≤ 16) && s.all (fun b => nameSigns.contains b)) := by simp [nameOk, h0]
  have g0 : (!s.isEmpty) = true := by simpa using h0
  by_cases h1 : s.length ≤ 16
  · have e1 : nameOk s = s.all (fun b => nameSigns.contains b) := by rw [e0]; simp [h1]
    have g1 : decide ((s.length : Int) ≤ 16) = true := by simp; omega
    have e2 : nameOk s = (Lib.trimS s nameSigns).isEmpty := by
      rw [e1, Bool.eq_iff_iff, ← trimS_nil, List.isEmpty_iff]
    have E := Lib.hid e2
    clear e0 e1 e2
    go_enter Tryz.func127, Tryz.ntmps127
    go_wp2_with fail
    refine (trimName_any s _ hs).mono ?_
    rintro e w1 ⟨rfl, hb⟩
    generalize Lib.trimS s nameSigns = tr at *
    go_wp2_with fail
    go_ret
    exact ⟨by rw [E.out]; simp, hb⟩
  · have e1 : nameOk s = false := by rw [e0]; simp [h1]
    have g1 : decide ((s.length : Int) ≤ 16) = false := by simp; omega
    have E := Lib.hid e1
    clear e0 e1
    go_enter Tryz.func127, Tryz.ntmps127
    go_wp2_with fail
    go_ret
    exact ⟨by rw [E.out]; rfl, Below.refl _ _⟩
end Go.Proofs.YtikboodjfanjkaaGreatDoor
