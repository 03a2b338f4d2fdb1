/- ModM, ModF, ModPut, ModPut2, ModDrop, Both, in one text. -/
import Derived.Test.YtepdedfmdafnkaaGreatDoorStoreGet
import Derived.Test.YtepdedfmdafnkaaGreatDoorOwnMore
import Derived.Test.YtepdedfmdafnkaaGreatDoorRange
import Derived.Test.YtepdedfmdafnkaaGreatDoorOwnInts
import Derived.Test.YtepdedfmdafnkaaGreatDoorRefNum
import Derived.Test.YtepdedfmdafnkaaGreatDoorStorePut
import Derived.Deep.CutBlock
import Derived.Deep.DeepCutAuto
import Derived.Deep.RegionLaw
import Derived.Test.YtepdedfmdafnkaaGreatDoorStoreNames
import Derived.Test.YtepdedfmdafnkaaGreatDoorStoreEq
import Derived.Test.YtepdedfmdafnkaaGreatDoorStoreCp
import Derived.Test.YtepdedfmdafnkaaGreatDoorActs
import Derived.Test.YtepdedfmdafnkaaGreatDoorStored
namespace Go.Proofs.YtepdedfmdafnkaaGreatDoor
open Go.RowKit Go.Maps

abbrev encO (o : Ob) : List Value := [S o.name, S o.text, .int .i64 o.day]
theorem encO_enc : Enc encO 3 := fun x => ⟨rfl, by simp [Value.oneCell']⟩
abbrev modCells (v : Value) (s : St) : Array Value := #[v, S s.head, .int .i64 s.day, .bool s.off, .int .i64 s.cut]

/-- The model s lies in block xb, its objects in a row of the call's own. -/
structure ModAt (w : World) (B xb : Nat) (v : Value) (s : St) : Prop where
  blk : w.heap[xb]? = some (.cells (modCells v s) 52 (0, 0))
  own : Own encO 49 3 B w v s.objs
  ok : s.Ok

section
variable {w w' : World} {B xb : Nat} {v : Value} {s : St}
theorem ModAt.lt (h : ModAt w B xb v s) : xb < w.heap.size := (Array.getElem?_eq_some_iff.1 h.blk).1
theorem ModAt.c0 (h : ModAt w B xb v s) : w.cell? ⟨xb, 0, none⟩ = some v := by simp [World.cell?, h.blk]
theorem ModAt.c1 (h : ModAt w B xb v s) : w.cell? ⟨xb, 1, none⟩ = some (S s.head) := by simp [World.cell?, h.blk]
theorem ModAt.c2 (h : ModAt w B xb v s) : w.cell? ⟨xb, 2, none⟩ = some (.int .i64 s.day) := by simp [World.cell?, h.blk]
theorem ModAt.c3 (h : ModAt w B xb v s) : w.cell? ⟨xb, 3, none⟩ = some (.bool s.off) := by simp [World.cell?, h.blk]
theorem ModAt.c4 (h : ModAt w B xb v s) : w.cell? ⟨xb, 4, none⟩ = some (.int .i64 s.cut) := by simp [World.cell?, h.blk]
theorem ModAt.fz (h : ModAt w B xb v s) (i : Nat) : w.frozen? ⟨xb, i, none⟩ = false := by simp [World.frozen?, h.blk]
theorem ModAt.below (h : ModAt w B xb v s) (hb : Below w.heap.size w w') : ModAt w' B xb v s := ⟨(hb.block _ h.lt).trans h.blk, h.own.below hb, h.ok⟩
theorem own_ne {α : Type} {enc : α → List Value} {e : TypeId} {sz B : Nat} {v : Value} {l : List α} (h : Own enc e sz B w v l) {k : Nat} {o : Obj} (hk : w.heap[k]? = some o) (ho : ∀ cs, o ≠ .cells cs e (0, 0)) : v.ownBlock ≠ some k := by
  obtain ⟨_, h2⟩ := h
  rcases h2 with ⟨rfl, _⟩ | ⟨g, cap, cur, rfl, _, hg, _⟩
  · simp [Value.ownBlock]
  · intro e1
    have : g = k := by simpa [Value.ownBlock] using e1
    subst this
    rw [hk] at hg
    cases hg
    exact ho _ rfl
theorem own_but {α : Type} {enc : α → List Value} {e : TypeId} {sz B a b : Nat} {v : Value} {l : List α} (h : Own enc e sz B w v l) (h1 : v.ownBlock ≠ some a) (h2 : v.ownBlock ≠ some b) (hb : But2 a b w w') : Own enc e sz B w' v l := by
  obtain ⟨h0, h3⟩ := h
  refine ⟨h0, ?_⟩
  rcases h3 with h4 | ⟨g, cap, cur, rfl, hB, hg, rest⟩
  · exact .inl h4
  · have hlt := (Array.getElem?_eq_some_iff.1 hg).1
    exact .inr ⟨g, cap, cur, rfl, hB, (hb.block g hlt (fun e1 => h1 (by rw [e1]; rfl)) (fun e1 => h2 (by rw [e1]; rfl))).trans hg, rest⟩
theorem ModAt.apart (h : ModAt w B xb v s) : v.ownBlock ≠ some xb := own_ne h.own h.blk (fun cs e => by cases e)
theorem ModAt.setBlk (h : ModAt w B xb v s) (i : Nat) (x : Value) : (w.setCell ⟨xb, i, none⟩ x).heap[xb]? = some (.cells ((modCells v s).setIfInBounds i x) 52 (0, 0)) := heap_setCell_same w xb i (modCells v s) 52 x h.blk
theorem ModAt.ownSet (h : ModAt w B xb v s) (i : Nat) (x : Value) : Own encO 49 3 B (w.setCell ⟨xb, i, none⟩ x) v s.objs := own_but h.own h.apart h.apart (But2.set (mb := xb) w i x)
theorem ModAt.setHead (h : ModAt w B xb v s) {x : Str} (hx : x.length ≤ 20000) : ModAt (w.setCell ⟨xb, 1, none⟩ (S x)) B xb v { s with head := x } :=
  ⟨h.setBlk 1 _, h.ownSet 1 _, { h.ok with hd := hx }⟩
theorem ModAt.setDay (h : ModAt w B xb v s) {x : Int} (h0 : 0 ≤ x) (h1 : x ≤ 100000) : ModAt (w.setCell ⟨xb, 2, none⟩ (.int .i64 x)) B xb v { s with day := x } :=
  ⟨h.setBlk 2 _, h.ownSet 2 _, { h.ok with day0 := h0, day1 := h1 }⟩
theorem ModAt.setOff (h : ModAt w B xb v s) (x : Bool) : ModAt (w.setCell ⟨xb, 3, none⟩ (.bool x)) B xb v { s with off := x } :=
  ⟨h.setBlk 3 _, h.ownSet 3 _, { h.ok with }⟩
theorem ModAt.setCut (h : ModAt w B xb v s) {x : Int} (h0 : -1 ≤ x) (h1 : x ≤ 9223372036854775807) : ModAt (w.setCell ⟨xb, 4, none⟩ (.int .i64 x)) B xb v { s with cut := x } :=
  ⟨h.setBlk 4 _, h.ownSet 4 _, { h.ok with cut0 := h0, cut1 := h1 }⟩
end

theorem newMod_any (w : World) :
    Calls Tryz.prog 22 #[] w fun e w' => ∃ xb, e = .returned (stP xb) ∧ w.heap.size ≤ xb ∧ ModAt w' w.heap.size xb (.slice none 0 0) St.new ∧ Below w.heap.size w w' := by
  go_enter Tryz.func22, Tryz.ntmps22
  go_wp2_with fail
  go_ret
  refine ⟨w.heap.size, rfl, Nat.le_refl _, ⟨?_, Own.nil encO _ 3 _ _, { ris := List.Pairwise.nil, day0 := Int.le_refl _, day1 := by decide, cut0 := Int.le_refl _, cut1 := by decide, txt := fun _ h => (by cases h), nam := fun _ h => (by cases h), num := Nat.zero_le _, hd := Nat.zero_le _ }⟩, (Below.refl _ _).alloc (Nat.le_refl _) _⟩
  exact heap_alloc_new w (.cells (modCells (.slice none 0 0) St.new) 52)

theorem onM_any (B xb : Nat) (v : Value) (s : St) (w : World) (h : ModAt w B xb v s) :
    Calls Tryz.prog 55 #[stP xb] w fun e w' => e = .returned (.tuple #[]) ∧ ModAt w' B xb v { s with off := false, cut := -1 } ∧ But2 xb xb w w' := by
  have c3 := h.c3
  have c4 := h.c4
  have f3 := h.fz 3
  have f4 := h.fz 4
  have H := Lib.hid h; clear h
  go_enter Tryz.func55, Tryz.ntmps55
  go_wp2_with fail
  go_end0
  exact ⟨rfl, (H.out.setOff false).setCut (by decide) (by decide), (But2.set (mb := xb) w 3 _).trans (But2.set _ 4 _)⟩

theorem cutM_any (B xb : Nat) (v : Value) (s : St) (n : Int) (w : World) (h : ModAt w B xb v s) (hn : n ≤ 9223372036854775807) :
    Calls Tryz.prog 54 #[stP xb, .int .i64 n] w fun e w' => e = .returned (.int .i64 (if n < 0 then 2 else if s.off then 12 else 0)) ∧ ModAt w' B xb v (if n < 0 ∨ s.off then s else { s with cut := n }) ∧ But2 xb xb w w' := by
  have c3 := h.c3
  have c4 := h.c4
  have f4 := h.fz 4
  by_cases h0 : n < 0
  · rw [if_pos h0, if_pos (.inl h0)]
    have H := Lib.hid h; clear h
    go_enter Tryz.func54, Tryz.ntmps54
    go_wp2_with fail
    go_ret
    exact ⟨rfl, H.out, .of (Below.refl _ _)⟩
  rw [if_neg h0]
  have g0 : 0 ≤ n := by omega
  obtain ⟨objs, head, day, off, cut⟩ := s
  have H := Lib.hid h; clear h
  cases off with
  | true =>
    simp only [h0, false_or, if_true]
    simp only at c3 c4
    clear h0
    go_enter Tryz.func54, Tryz.ntmps54
    go_wp2_with fail
    go_ret
    exact ⟨rfl, H.out, .of (Below.refl _ _)⟩
  | false =>
    simp only [h0, false_or, Bool.false_eq_true, if_false]
    simp only at c3 c4
    clear h0
    go_enter Tryz.func54, Tryz.ntmps54
    go_wp2_with fail
    go_ret
    exact ⟨rfl, H.out.setCut (by omega) hn, .set _ _ _⟩

set_option maxRecDepth 20000 in
theorem written_any (B xb : Nat) (v : Value) (s : St) (n : Nat) (w : World) (h : ModAt w B xb v s) (hn : n ≤ 100000) :
    Calls Tryz.prog 80 #[stP xb, .int .i64 (n : Int)] w fun e w' => e = .returned (.int .i64 (wrote s n : Int)) ∧ ModAt w' B xb v (aft s n) ∧ But2 xb xb w w' := by
  have c3 := h.c3
  have c4 := h.c4
  have f3 := h.fz 3
  have f4 := h.fz 4
  have hc0 := h.ok.cut0
  have hc1 := h.ok.cut1
  unfold wrote aft
  by_cases h0 : s.cut < 0
  · simp only [h0, if_true]
    have H := Lib.hid h; clear h
    go_enter Tryz.func80, Tryz.ntmps80
    go_wp2_with fail
    go_ret
    exact ⟨rfl, H.out, .of (Below.refl _ _)⟩
  by_cases h1 : s.cut < n
  · simp only [h0, h1, if_true, if_false]
    have hk : ((s.cut.toNat : Nat) : Int) = s.cut := by omega
    have g0 : 0 ≤ s.cut := by omega
    rw [hk]
    have H := Lib.hid (h.setOff true)
    have hd : (w.setCell ⟨xb, 3, none⟩ (.bool true)).cell? ⟨xb, 4, none⟩ = some (.int .i64 s.cut) := H.out.c4
    clear h h0 hk
    go_enter Tryz.func80, Tryz.ntmps80
    go_wp2_with fail
    go_ret
    exact ⟨rfl, H.out, .set _ _ _⟩
  · simp only [h0, h1, if_false]
    have g0 : 0 ≤ s.cut := by omega
    have g1 : (n : Int) ≤ s.cut := by omega
    have H := Lib.hid (h.setCut (x := s.cut - n) (by omega) (by omega))
    clear h h0 h1
    go_enter Tryz.func80, Tryz.ntmps80
    go_wp2_with fail
    go_ret
    exact ⟨rfl, H.out, .set _ _ _⟩

set_option maxRecDepth 20000 in
theorem nextM_any (B xb : Nat) (v : Value) (s : St) (n : Int) (w : World) (h : ModAt w B xb v s) :
    Calls Tryz.prog 56 #[stP xb, .int .i64 n] w fun e w' => e = .returned (.tuple #[.int .i64 (if nextBad s n then 0 else s.day + n), .int .i64 (if nextBad s n then 2 else 0)]) ∧
      ModAt w' B xb v (nextS s n) ∧ But2 xb xb w w' := by
  have c2 := h.c2
  have f2 := h.fz 2
  have d0 := h.ok.day0
  have d1 := h.ok.day1
  unfold nextS
  by_cases hb : nextBad s n
  · simp only [hb, if_true]
    have H := Lib.hid h; clear h
    by_cases h0 : n < 0
    · clear hb
      go_enter Tryz.func56, Tryz.ntmps56
      go_wp2_with fail
      go_ret2
      exact ⟨rfl, H.out, .of (Below.refl _ _)⟩
    · have h1 : 100000 - s.day < n := hb.resolve_left h0
      have g0 : decide (n < 0) = false := by simpa using h0
      clear hb h0
      go_enter Tryz.func56, Tryz.ntmps56
      go_wp2_with fail
      go_ret2
      exact ⟨rfl, H.out, .of (Below.refl _ _)⟩
  · simp only [hb, if_false]
    have h0 : ¬ n < 0 := fun e => hb (.inl e)
    have h1 : ¬ 100000 - s.day < n := fun e => hb (.inr e)
    have g0 : decide (n < 0) = false := by simpa using h0
    have g1 : decide (100000 - s.day < n) = false := by simpa using h1
    have k0 : 0 ≤ n := by omega
    have k1 : n ≤ 100000 - s.day := by omega
    have H := Lib.hid (h.setDay (x := s.day + n) (by omega) (by omega))
    have hd : (w.setCell ⟨xb, 2, none⟩ (.int .i64 (s.day + n))).cell? ⟨xb, 2, none⟩ = some (.int .i64 (s.day + n)) := H.out.c2
    clear h hb h0 h1
    go_enter Tryz.func56, Tryz.ntmps56
    go_wp2_with fail
    go_ret2
    exact ⟨rfl, H.out, .set _ _ _⟩

set_option maxRecDepth 20000 in
theorem swapM_any (B xb : Nat) (v : Value) (s : St) (old text : Str) (w : World) (h : ModAt w B xb v s) (ht : text.length ≤ 100000) :
    Calls Tryz.prog 53 #[stP xb, S old, S text] w fun e w' => e = .returned (.int .i64 ((swapE s old text).code : Int)) ∧ ModAt w' B xb v (swapS s old text) ∧ But2 xb xb w w' := by
  have c1 := h.c1
  have c3 := h.c3
  unfold swapE swapS
  by_cases h0 : 20000 < text.length
  · simp only [h0, if_true, true_or]
    have g0 : (20000 : Int) < text.length := by omega
    have H := Lib.hid h; clear h
    go_enter Tryz.func53, Tryz.ntmps53
    go_wp2_with fail
    go_ret
    exact ⟨rfl, H.out, .of (Below.refl _ _)⟩
  have g0 : (text.length : Int) ≤ 20000 := by omega
  cases ho : s.off with
  | true =>
    rw [ho] at c3
    simp only [h0, if_true, if_false, true_or, or_true]
    have H := Lib.hid h; clear h ho
    go_enter Tryz.func53, Tryz.ntmps53
    go_wp2_with fail
    go_ret
    exact ⟨rfl, H.out, .of (Below.refl _ _)⟩
  | false =>
    rw [ho] at c3
    by_cases h1 : s.head = old
    · simp only [h0, h1, if_false, Bool.false_eq_true, false_or, ne_eq, not_true_eq_false]
      have g1 : (s.head == old) = true := by simpa using h1
      have H := Lib.hid h
      have H1 := Lib.hid h1
      clear h ho h1
      by_cases hw : wrote s text.length < text.length
      · simp only [hw, if_true]
        have g2 : (wrote s text.length : Int) < text.length := by omega
        clear hw
        go_enter Tryz.func53, Tryz.ntmps53
        go_wp2_with fail
        refine (written_any B xb v s text.length _ H.out ht).mono ?_
        rintro e w1 ⟨rfl, h2, hb2⟩
        have H2 := Lib.hid h2
        clear h2 c1 c3
        generalize wrote s text.length = wr at *
        go_wp2_with fail
        go_ret
        exact ⟨rfl, H2.out, hb2⟩
      · simp only [hw, if_false]
        have g2 : decide ((wrote s text.length : Int) < text.length) = false := by simp; omega
        have g3 : (text.length : Int) ≤ (wrote s text.length : Int) := by omega
        clear hw
        go_enter Tryz.func53, Tryz.ntmps53
        go_wp2_with fail
        refine (written_any B xb v s text.length _ H.out ht).mono ?_
        rintro e w1 ⟨rfl, h2, hb2⟩
        have c1' := h2.c1
        have f1' := h2.fz 1
        have H2 := Lib.hid (h2.setHead (x := text) (by omega))
        clear h2 c1 c3
        generalize wrote s text.length = wr at *
        go_wp2_with fail
        go_ret
        exact ⟨rfl, H2.out, hb2.trans (But2.set _ _ _)⟩
    · simp only [h0, h1, if_true, if_false, Bool.false_eq_true, false_or, ne_eq, not_false_eq_true]
      have g1 : (s.head == old) = false := by simpa using h1
      have H := Lib.hid h; clear h ho h1
      go_enter Tryz.func53, Tryz.ntmps53
      go_wp2_with fail
      go_ret
      exact ⟨rfl, H.out, .of (Below.refl _ _)⟩
end Go.Proofs.YtepdedfmdafnkaaGreatDoor
namespace Go.Proofs.YtepdedfmdafnkaaGreatDoor
open Go.RowKit Go.Maps

theorem szOb (w : World) : (sizeOf 49).run Tryz.prog w = .ok 3 w := by kernel_rfl

/-- Where a name is. -/
def FindR (l : List Ob) (n : Str) (r : Int) : Prop := (∃ (k : Nat) (o : Ob), r = k ∧ l[k]? = some o ∧ o.name = n) ∨ (r = -1 ∧ getO l n = none)
theorem FindR.got {l : List Ob} {n : Str} {r : Int} (h : FindR l n r) (hr : Rising l) : (∃ (k : Nat) (o : Ob), r = k ∧ k < l.length ∧ l[k]? = some o ∧ o.name = n ∧ getO l n = some o) ∨ (r = -1 ∧ getO l n = none) := by
  rcases h with ⟨k, o, h1, h2, h3⟩ | h
  · exact .inl ⟨k, o, h1, (List.getElem?_eq_some_iff.1 h2).1, h2, h3, h3 ▸ getO_of_mem hr (List.mem_of_getElem? h2)⟩
  · exact .inr h

set_option maxRecDepth 20000 in
theorem findM_any (B xb : Nat) (v : Value) (s : St) (n : Str) (w : World) (h : ModAt w B xb v s) :
    Calls Tryz.prog 24 #[stP xb, S n] w fun e w' => ∃ r, e = .returned (.int .i64 r) ∧ FindR s.objs n r ∧ Below w.heap.size w w' := by
  obtain ⟨a, c, b, o, rfl, ha, -, hm, hx⟩ := h.own.at encO_enc
  unfold maxLen at hm
  have hn := h.ok.num
  have c0 := h.c0
  have H := Lib.hid h; clear h
  go_enter Tryz.func24, Tryz.ntmps24
  go_wp2_with fail
  go_loopw [5] (fun i wr => ∃ k : Nat, k ≤ s.objs.length ∧ i = .int .i64 k ∧ Hid (∀ j < k, ∀ x, s.objs[j]? = some x → x.name ≠ n) ∧ Below w.heap.size w wr) (fun i _ => s.objs.length - (intOf i).toNat)
  case atStart => exact ⟨0, by omega, rfl, Lib.hid fun j hj => absurd hj (by omega), Below.refl _ _⟩
  case round =>
    obtain ⟨k, hk, rfl, hj, hb⟩ := hrel
    have c0 := (hb.cell (World.block_lt_of_cell? w _ c0)).trans c0
    by_cases hlt : k < s.objs.length
    case neg =>
      have f : decide ((k : Int) < (s.objs.length : Int)) = false := by simp; omega
      go_wp2_with fail
      go_ret
      refine ⟨_, rfl, .inr ⟨rfl, getO_none.2 fun x hx => ?_⟩, hb⟩
      obtain ⟨j, hj'⟩ := List.getElem?_of_mem hx
      exact hj.out j (by have := (List.getElem?_eq_some_iff.1 hj').1; omega) x hj'
    obtain ⟨x, hxk⟩ := get_ex hlt
    have q0 := hx k x hxk 0 _ rfl
    have q0 := (hb.cell (World.block_lt_of_cell? w _ q0)).trans q0
    have i1 := idx_at (c := c) 3 Tryz.underlying50 szOb ha k hlt
    have f : (k : Int) < (s.objs.length : Int) := by omega
    simp only [Nat.add_zero] at q0
    have Hx := Lib.hid hxk; clear hxk
    by_cases e : x.name = n
    case pos =>
      have g : (x.name == n) = true := by simpa using e
      have HE := Lib.hid e; clear e
      go_wp2_with fail
      go_ret
      exact ⟨_, rfl, .inl ⟨k, x, rfl, Hx.out, HE.out⟩, hb⟩
    have g : (x.name == n) = false := by simpa using e
    have HE := Lib.hid e; clear e
    go_wp2_with fail
    refine ⟨⟨k + 1, by omega, by go_num, Lib.hid fun j hj' y hy => ?_, hb⟩, by simp [intOf]; omega⟩
    rcases Nat.lt_or_ge j k with h | h
    · exact hj.out j h y hy
    · obtain rfl : j = k := by omega
      rw [Hx.out] at hy
      cases hy
      exact HE.out

set_option maxRecDepth 20000 in
theorem getM_any (B xb : Nat) (v : Value) (s : St) (n : Str) (w : World) (h : ModAt w B xb v s) :
    Calls Tryz.prog 51 #[stP xb, S n] w fun e w' => e = .returned (.tuple #[S (((getO s.objs n).map (·.text)).getD []), .int .i64 (if (getO s.objs n).isSome then 0 else 6)]) ∧ Below w.heap.size w w' := by
  have H := Lib.hid h
  obtain ⟨a, c, b, o, rfl, ha, -, hm, hx⟩ := h.own.at encO_enc
  have hnum := h.ok.num
  unfold maxLen at hm
  clear h
  cases hg : getO s.objs n with
  | some y =>
    simp only [Option.map_some, Option.getD_some, Option.isSome_some, if_true]
    go_enter Tryz.func51, Tryz.ntmps51
    go_wp2_with fail
    refine (findM_any B xb _ s n _ H.out).mono ?_
    rintro e w1 ⟨r, rfl, hr, hb⟩
    rcases hr.got H.out.ok.ris with ⟨k, x, rfl, hk, hxk, hnm, hg2⟩ | ⟨rfl, hg2⟩
    · rw [hg] at hg2
      cases hg2
      have q1 := hx k y hxk 1 _ rfl
      have q1 := (hb.cell (World.block_lt_of_cell? w _ q1)).trans q1
      have i1 := idx_at (c := c) 3 Tryz.underlying50 szOb ha k hk
      have c0 := (H.out.below hb).c0
      have f : (k : Int) < (s.objs.length : Int) := by omega
      clear hxk hg hr
      go_wp2_with fail
      go_ret2
      exact ⟨rfl, hb⟩
    · rw [hg] at hg2; cases hg2
  | none =>
    simp only [Option.map_none, Option.getD_none, Option.isSome_none, Bool.false_eq_true, if_false]
    go_enter Tryz.func51, Tryz.ntmps51
    go_wp2_with fail
    refine (findM_any B xb _ s n _ H.out).mono ?_
    rintro e w1 ⟨r, rfl, hr, hb⟩
    rcases hr.got H.out.ok.ris with ⟨k, x, rfl, hk, hxk, hnm, hg2⟩ | ⟨rfl, hg2⟩
    · rw [hg] at hg2; cases hg2
    · clear hg hr
      go_wp2_with fail
      go_ret2
      exact ⟨rfl, hb⟩

set_option maxRecDepth 20000 in
theorem namesM_any (B xb : Nat) (v : Value) (s : St) (w : World) (h : ModAt w B xb v s) :
    Calls Tryz.prog 58 #[stP xb] w fun e w' => ∃ u, e = .returned u ∧ Own encS 9 1 w.heap.size w' u (s.objs.map (·.name)) ∧ Below w.heap.size w w' := by
  obtain ⟨a, c, b, o, rfl, ha, -, hm, hx⟩ := h.own.at encO_enc
  unfold maxLen at hm
  have hn := h.ok.num
  have c0 := h.c0
  have H := Lib.hid h; clear h
  go_enter Tryz.func58, Tryz.ntmps58
  go_wp2_with fail
  go_loopw [3, 4] (fun u i wr => ∃ (k : Nat) (out : List Str), k ≤ s.objs.length ∧ i = .int .i64 k ∧ out.length = k ∧ Hid (out = (s.objs.take k).map (·.name)) ∧ Own encS 9 1 w.heap.size wr u out ∧ Below w.heap.size w wr) (fun _ i _ => s.objs.length - (intOf i).toNat)
  case atStart => exact ⟨0, [], by omega, rfl, rfl, Lib.hid rfl, Own.nil encS _ 1 _ _, Below.refl _ _⟩
  case round =>
    obtain ⟨k, out, hk, rfl, hol, HO, ho, hb⟩ := hrel
    have c0 := (hb.cell (World.block_lt_of_cell? w _ c0)).trans c0
    by_cases hlt : k < s.objs.length
    case neg =>
      have f : decide ((k : Int) < (s.objs.length : Int)) = false := by simp; omega
      have hfin : out = s.objs.map (·.name) := by rw [HO.out, List.take_of_length_le (by omega)]
      have HF := Lib.hid hfin; clear hfin
      go_wp2_with fail
      go_ret
      exact ⟨_, rfl, HF.out ▸ ho, hb⟩
    obtain ⟨x, hxk⟩ := get_ex hlt
    have q0 := hx k x hxk 0 _ rfl
    have q0 := (hb.cell (World.block_lt_of_cell? w _ q0)).trans q0
    have i1 := idx_at (c := c) 3 Tryz.underlying50 szOb ha k hlt
    have f : (k : Int) < (s.objs.length : Int) := by omega
    simp only [Nat.add_zero] at q0
    have Hx := Lib.hid hxk; clear hxk
    go_wp2_with (at_builtin; refine wpList_app rfl _ _ _ rfl w.heap.size elStr _ out.length _ rfl (ho.alloc _) (.slice (some ⟨wr.heap.size, 0, none⟩) 1 1) 1 [S x.name] rfl (src_one rfl rfl (by simp [Value.oneCell'])) (by unfold maxLen; omega) (by omega) (by have := hb.size; simp; omega) ?_; intro v' w2 hown hg _)
    refine ⟨⟨k + 1, out ++ [x.name], by omega, by go_num, by simp [hol], Lib.hid ?_, Own.snoc hown, Bapp (hb.alloc hb.size _) (ho.alloc _) hg (Nat.le_refl _) (by have := hb.size; simp; omega)⟩, by simp [intOf]; omega⟩
    rw [HO.out, List.take_add_one, Hx.out, List.map_append]
    rfl
end Go.Proofs.YtepdedfmdafnkaaGreatDoor
namespace Go.Proofs.YtepdedfmdafnkaaGreatDoor
open Go.RowKit Go.Maps
attribute [local go_sem] bget bapp

def signP (b : UInt8) : Prop := (97 ≤ b.toNat ∧ b.toNat ≤ 122) ∨ (48 ≤ b.toNat ∧ b.toNat ≤ 57) ∨ b.toNat = 47
instance (b : UInt8) : Decidable (signP b) := inferInstanceAs (Decidable (_ ∨ _))
theorem sign_iff (b : UInt8) : nameSigns.contains b = decide (signP b) := by
  have h : ∀ n : Fin 256, nameSigns.contains (UInt8.ofNat n.val) = decide (signP (UInt8.ofNat n.val)) := by decide +kernel
  have := h ⟨b.toNat, b.toNat_lt⟩
  simpa using this
theorem nameOk_iff (s : Str) : nameOk s = (decide (1 ≤ s.length) && decide (s.length ≤ 16) && s.all (fun b => decide (signP b))) := by
  unfold nameOk
  have h1 : (fun b => nameSigns.contains b) = fun b => decide (signP b) := funext sign_iff
  rw [h1]
  cases s with
  | nil => rfl
  | cons a r => simp

set_option maxRecDepth 20000 in
theorem isObject_any (s : Str) (w : World) (hs : s.length ≤ 100000) :
    Calls Tryz.prog 79 #[S s] w fun e w' => e = .returned (.bool (nameOk s)) ∧ Below w.heap.size w w' := by
  rw [nameOk_iff]
  go_enter Tryz.func79, Tryz.ntmps79
  go_wp2_with fail
  go_loopw [3] (fun i wr => ∃ k : Nat, k ≤ s.length ∧ i = .int .i64 k ∧ Hid (∀ j < k, ∀ x, s[j]? = some x → signP x) ∧ Below w.heap.size w wr) (fun i _ => s.length - (intOf i).toNat)
  case atStart => exact ⟨0, by omega, rfl, Lib.hid fun j hj => absurd hj (by omega), Below.refl _ _⟩
  case round =>
    obtain ⟨k, hk, rfl, hj, hb⟩ := hrel
    by_cases hlt : k < s.length
    case neg =>
      have f : decide ((k : Int) < (s.length : Int)) = false := by simp; omega
      have hall : s.all (fun b => decide (signP b)) = true := by
        rw [List.all_eq_true]
        intro x hx
        obtain ⟨j, hj'⟩ := List.getElem?_of_mem hx
        exact decide_eq_true (hj.out j (by have := (List.getElem?_eq_some_iff.1 hj').1; omega) x hj')
      have HA := Lib.hid hall; clear hall
      go_wp2_with fail
      all_goals
        go_ret
        refine ⟨ret_bool ?_, hb⟩
        rw [HA.out, Bool.eq_iff_iff]
        simp
        omega
    have f : (k : Int) < (s.length : Int) := by omega
    have hgk : s[k]? = some s[k] := by simp [hlt]
    go_wp2_with fail
    all_goals first
      | (refine ⟨⟨k + 1, by omega, by go_num, Lib.hid fun j hj' y hy => ?_, hb⟩, by simp [intOf]; omega⟩
         rcases Nat.lt_or_ge j k with h | h
         · exact hj.out j h y hy
         · obtain rfl : j = k := by omega
           rw [hgk] at hy
           cases hy
           clear hj hb hgk hk hj'
           unfold signP
           simp at *
           omega)
      | (go_ret
         refine ⟨ret_bool ?_, hb⟩
         have key : ¬ signP s[k] := by
           clear hj hb hgk hk
           unfold signP
           simp at *
           omega
         have hall : (s.all fun b => decide (signP b)) = false := by
           rw [List.all_eq_false]
           exact ⟨s[k], List.getElem_mem hlt, by simpa using key⟩
         rw [hall, Bool.and_false])
end Go.Proofs.YtepdedfmdafnkaaGreatDoor
namespace Go.Proofs.YtepdedfmdafnkaaGreatDoor
open Go.RowKit Go.Maps

theorem putO_at {x : Ob} : ∀ {l : List Ob} {k : Nat}, k ≤ l.length → (∀ j < k, ∀ o, l[j]? = some o → bef x.name o.name = false) → (∀ o, l[k]? = some o → bef x.name o.name = true) → putO x l = l.take k ++ x :: l.drop k
  | [], 0, _, _, _ => rfl
  | [], _ + 1, h, _, _ => by simp at h
  | a :: r, 0, _, _, h => by unfold putO; rw [if_pos (h a rfl)]; rfl
  | a :: r, k + 1, hk, h, h2 => by
    unfold putO
    rw [if_neg (by rw [h 0 (by omega) a rfl]; decide)]
    rw [putO_at (k := k) (by simpa using hk) (fun j hj o ho => h (j + 1) (by omega) o (by simpa using ho)) (fun o ho => h2 o (by simpa using ho))]
    rfl
theorem less_bef : ∀ a b : Str, Op.bytesLess a b = bef a b
  | [], [] => by simp [Op.bytesLess, bytesBefore]
  | [], _ :: _ => by simp [Op.bytesLess, bytesBefore]
  | _ :: _, [] => by simp [Op.bytesLess, bytesBefore]
  | a :: r, b :: s => by
    have ih := less_bef r s
    show Op.bytesLess (a :: r) (b :: s) = (decide (a < b) || (a == b && bytesBefore r s))
    unfold Op.bytesLess
    rw [ih]
theorem bef_asym {a b : Str} (h : bef a b = true) : bef b a = false := by
  cases hb : bef b a with
  | false => rfl
  | true =>
    have := bef_trans h hb
    rw [bef_irr] at this; cases this
theorem own_base {α : Type} {enc : α → List Value} {e : TypeId} {sz B B' : Nat} {w : World} {v : Value} {l : List α} (h : Own enc e sz B' w v l) (hB : B ≤ B') : Own enc e sz B w v l := by
  obtain ⟨h1, h2⟩ := h
  refine ⟨h1, ?_⟩
  rcases h2 with h0 | ⟨g, cap, cur, hv, hg, rest⟩
  · exact .inl h0
  · exact .inr ⟨g, cap, cur, hv, Nat.le_trans hB hg, rest⟩
theorem own_shape {α : Type} {enc : α → List Value} {e : TypeId} {sz B : Nat} {w : World} {v : Value} {l : List α} (h : Own enc e sz B w v l) : (v = .slice none 0 0 ∧ l = []) ∨ ∃ g cap, v = .slice (some ⟨g, 0, none⟩) l.length cap ∧ l.length ≤ cap ∧ cap ≤ maxLen := by
  obtain ⟨h1, h2⟩ := h
  rcases h2 with ⟨rfl, h0⟩ | ⟨g, cap, cur, hv, _, _, hn, hm, _⟩
  · exact .inl ⟨rfl, List.eq_nil_of_length_eq_zero h0⟩
  · exact .inr ⟨g, cap, hv, hn, hm⟩
section
variable {α : Type} {enc : α → List Value} {sz n cap g k : Nat} {w : World} {l : List α}
theorem At.takeS (h : At enc sz w (.slice (some ⟨g, 0, none⟩) n cap) l) (hk : k ≤ l.length) : At enc sz w (.slice (some ⟨g, 0, none⟩) k cap) (l.take k) := by
  obtain ⟨a, c, b, o, hv, ha, hc, hm, hx⟩ := h
  cases hv
  have hl : (l.take k).length = k := by rw [List.length_take]; omega
  refine ⟨some ⟨g, 0, none⟩, cap, b, o, by rw [hl], fun h0 => ha (by omega), by omega, hm, fun i x hi j u hu => hx i x ?_ j u hu⟩
  rw [List.getElem?_take] at hi
  split at hi
  · exact hi
  · cases hi
theorem At.dropS (h : At enc sz w (.slice (some ⟨g, 0, none⟩) n cap) l) (hk : k ≤ l.length) : At enc sz w (.slice (some ⟨g, k * sz, none⟩) (l.length - k) (cap - k)) (l.drop k) := by
  obtain ⟨a, c, b, o, hv, ha, hc, hm, hx⟩ := h
  cases hv
  have hl : (l.drop k).length = l.length - k := List.length_drop
  refine ⟨some ⟨g, k * sz, none⟩, cap - k, g, k * sz, by rw [hl], fun _ => rfl, by omega, by omega, fun i x hi j u hu => ?_⟩
  rw [List.getElem?_drop] at hi
  have hlt := (List.getElem?_eq_some_iff.1 hi).1
  have h1 := hx _ x hi j u hu
  have h2 := ha (by omega)
  cases h2
  rw [show k * sz + i * sz + j = 0 + (k + i) * sz + j by rw [Nat.add_mul]; omega]
  exact h1
end
theorem wpList_here {P : Program} {w : World} {ops : Array Oper} {l : List Oper} {a : Act} {Q : Exit → Act → World → Prop} (h : wpList P ops Q l a w ∧ True) : wpList P ops Q l a w := h.1
theorem elOb : ElemInfo Tryz.prog 50 49 3 40 := elemInfo_of Tryz.underlying50 (z := .agg #[.string ByteArray.empty, .string ByteArray.empty, .int .i64 0]) (by kernel_rfl) rfl (by decide)
/-- append, as a step of a region that draws its order. -/
theorem step_app {P : Program} {ops : Array Oper} {o : Oper} {a : Act} {w : World} {K : Act → World → Prop} {Q : Exit → Act → World → Prop} {E : Prop} (hgd : o.guard = none) (s x : Operand) (t : TypeId)
    (ho : o.op = .call { callee := .builtin .append, args := #[s, x], argTypes := #[t, t] }) (base : Nat) {e : TypeId} {size bytes : Nat} (hE : ElemInfo P t e size bytes)
    (v : Value) (n : Nat) (xs : List Value) (hs : a.eval s = v) (hown : w.ownsRow base e size v n xs) (xv : Value) (m : Nat) (news : List Value) (hx : a.eval x = xv) (hsrc : SrcAt w size xv m news)
    (h63 : n + m ≤ maxLen) (hbytes : (n + m) * bytes ≤ 140737488355328) (hbase : base ≤ w.heap.size)
    (hK : ∀ v' w', w'.ownsRow base e size v' (n + m) (xs ++ news) → w.grownBy w' v.ownBlock → (v'.ownBlock = v.ownBlock ∨ v'.ownBlock = some w.heap.size) → K (a.put o.dst v') w') :
    if Region.wanted o (yielded ops a.tmps) = true then Oper.wp P o a w K Q else E := by
  have hw : Region.wanted o (yielded ops a.tmps) = true := by simp [Region.wanted, hgd]
  rw [if_pos hw]
  obtain ⟨v', w', hr, h2, h3, h4⟩ := run_app (P := P) w base t o.type e size bytes hE v n xs hown xv m news hsrc h63 hbytes hbase
  unfold Oper.wp execOp
  simp only [ho, resolve, invoke, builtin, Sem.run_bind, Sem.run_pure, Result.andThen_ok, List.map_toArray, List.map_cons, List.map_nil, hs, hx, hr]
  exact hK _ _ h2 h3 h4
theorem total_take {l : List Ob} {k : Nat} {x : Ob} (h : l[k]? = some x) : total (l.take (k + 1)) = total (l.take k) + x.text.length := by
  unfold total
  rw [List.take_add_one, h]
  simp

set_option maxRecDepth 20000 in
set_option maxHeartbeats 4000000 in
theorem putM_any (B xb : Nat) (v : Value) (s : St) (n t : Str) (w : World) (h : ModAt w B xb v s) (hn : n.length ≤ 100000) (ht : t.length ≤ 100000) (hB : B ≤ w.heap.size) :
    Calls Tryz.prog 50 #[stP xb, S n, S t] w fun e w' => ∃ v', e = .returned (.int .i64 ((putE s n t).code : Int)) ∧ ModAt w' B xb v' (putS s n t) ∧ But2 xb xb w w' := by
  have H := Lib.hid h
  unfold putE putS
  by_cases g1 : nameOk n = true
  case neg =>
    have g1 : nameOk n = false := by simpa using g1
    simp only [g1, if_true, true_or]
    go_enter Tryz.func50, Tryz.ntmps50
    go_wp2_with fail
    refine (isObject_any n _ hn).mono ?_
    rintro e w1 ⟨rfl, hb1⟩
    rw [g1]
    go_wp2_with fail
    go_ret
    exact ⟨_, rfl, H.out.below hb1, .of hb1⟩
  have hn16 := nameOk_len g1
  by_cases g2 : 20000 < t.length
  case pos =>
    simp only [g1, g2, if_true, true_or, or_true, Bool.true_eq_false, if_false]
    have g2 : (20000 : Int) < (t.length : Int) := by omega
    clear h
    go_enter Tryz.func50, Tryz.ntmps50
    go_wp2_with fail
    refine (isObject_any n _ hn).mono ?_
    rintro e w1 ⟨rfl, hb1⟩
    rw [g1]
    go_wp2_with fail
    go_ret
    exact ⟨_, rfl, H.out.below hb1, .of hb1⟩
  have k2 : (t.length : Int) ≤ 20000 := by omega
  by_cases g3 : s.off = true
  case pos =>
    simp only [g1, g2, g3, if_true, true_or, or_true, Bool.true_eq_false, if_false]
    clear h
    go_enter Tryz.func50, Tryz.ntmps50
    go_wp2_with fail
    refine (isObject_any n _ hn).mono ?_
    rintro e w1 ⟨rfl, hb1⟩
    have c3 := (H.out.below hb1).c3
    rw [g3] at c3
    rw [g1]
    go_wp2_with fail
    go_ret
    exact ⟨_, rfl, H.out.below hb1, .of hb1⟩
  have g3 : s.off = false := by simpa using g3
  cases hg : getO s.objs n with
  | some y =>
    simp only [g1, g2, g3, Option.isSome_some, if_true, true_or, or_true, Bool.true_eq_false, if_false, Bool.false_eq_true]
    clear h
    go_enter Tryz.func50, Tryz.ntmps50
    go_wp2_with fail
    refine (isObject_any n _ hn).mono ?_
    rintro e w1 ⟨rfl, hb1⟩
    have H1 := Lib.hid (H.out.below hb1)
    have c3 := H1.out.c3
    rw [g3] at c3
    rw [g1]
    go_wp2_with fail
    refine (findM_any B xb v s n _ H1.out).mono ?_
    rintro e w2 ⟨r, rfl, hr, hb2⟩
    rcases hr.got H.out.ok.ris with ⟨k, x, rfl, hk, hxk, hnm, hg2⟩ | ⟨rfl, hg2⟩
    · clear hr hxk hnm hg hg2 hk
      go_wp2_with fail
      go_ret
      exact ⟨_, rfl, H1.out.below hb2, .of (hb1.trans (hb2.mono hb1.size))⟩
    · rw [hg] at hg2; cases hg2
  | none =>
    have HG := Lib.hid hg
    have hnum := h.ok.num
    have htot := total_le h.ok
    obtain ⟨a, c, b, o, hv, ha, -, hm, hx⟩ := h.own.at encO_enc
    subst hv
    unfold maxLen at hm
    simp only [g1, g2, g3, Option.isSome_none, Bool.true_eq_false, if_false, Bool.false_eq_true, false_or]
    go_enter Tryz.func50, Tryz.ntmps50
    go_wp2_with fail
    refine (isObject_any n _ hn).mono ?_
    rintro e w1 ⟨rfl, hb1⟩
    have H1 := Lib.hid (H.out.below hb1)
    have c3 := H1.out.c3
    rw [g3] at c3
    rw [g1]
    go_wp2_with fail
    refine (findM_any B xb _ s n _ H1.out).mono ?_
    rintro e w2 ⟨r, rfl, hr, hb2⟩
    have hb2' := hb1.trans (hb2.mono hb1.size)
    rcases hr.got H.out.ok.ris with ⟨k, x, rfl, hk, hxk, hnm, hg2⟩ | ⟨rfl, hg2⟩
    · rw [hg] at hg2; cases hg2
    clear hr hg hg2 c3 hb1 hb2 h
    have c0 := (H.out.below hb2').c0
    go_wp2_with fail
    go_loopw [8, 9] (fun nv i wr => ∃ k : Nat, k ≤ s.objs.length ∧ i = .int .i64 k ∧ nv = .int .i64 ((t.length : Int) + (total (s.objs.take k) : Int)) ∧ Below w.heap.size w wr) (fun _ i _ => s.objs.length - (intOf i).toNat)
    case atStart => exact ⟨0, by omega, rfl, by simp [total], hb2'⟩
    case round =>
      obtain ⟨k, hk, rfl, rfl, hb⟩ := hrel
      clear c0
      have c0 := (H.out.below hb).c0
      by_cases hlt : k < s.objs.length
      case pos =>
        have f : (k : Int) < (s.objs.length : Int) := by omega
        obtain ⟨x, hxk⟩ := get_ex hlt
        have q1 := hx k x hxk 1 _ rfl
        have q1 := (hb.cell (World.block_lt_of_cell? w _ q1)).trans q1
        have i1 := idx_at (c := c) 3 Tryz.underlying50 szOb ha k hlt
        have htt := total_take hxk
        have hxl := H.out.ok.txt x (List.mem_of_getElem? hxk)
        have hle : total (s.objs.take (k + 1)) ≤ 4000000 := Nat.le_trans (by
          have := total_len (l := s.objs.take (k + 1)) (fun o ho => H.out.ok.txt o (List.mem_of_mem_take ho))
          rw [List.length_take] at this
          exact Nat.le_trans this (Nat.mul_le_mul_right _ (by omega))) (by omega : 200 * 20000 ≤ 4000000)
        have HT := Lib.hid htt
        have b1 : (total (s.objs.take k) : Int) + (x.text.length : Int) ≤ 4000000 := by omega
        clear hxk htt hle
        go_wp2_with fail
        exact ⟨⟨k + 1, by omega, by go_num, congrArg (Value.int .i64) (by have := HT.out; omega), hb⟩, by simp [intOf]; omega⟩
      case neg =>
        have f : decide ((k : Int) < (s.objs.length : Int)) = false := by simp; omega
        obtain rfl : k = s.objs.length := by omega
        rw [List.take_length]
        by_cases g5 : 200 ≤ s.objs.length
        case pos =>
          have g5' : (200 : Int) ≤ (s.objs.length : Int) := by omega
          have gf : 200 ≤ s.objs.length ∨ 262144 < total s.objs + t.length := .inl g5
          go_wp2_with fail
          go_ret
          exact ⟨rfl, ⟨_, H.out.below hb⟩, .of hb⟩
        by_cases g6 : 262144 < total s.objs + t.length
        case pos =>
          have g5' : decide ((200 : Int) ≤ (s.objs.length : Int)) = false := by simp; omega
          have g6' : (262144 : Int) < (t.length : Int) + (total s.objs : Int) := by omega
          have gf : 200 ≤ s.objs.length ∨ 262144 < total s.objs + t.length := .inr g6
          go_wp2_with fail
          go_ret
          exact ⟨rfl, ⟨_, H.out.below hb⟩, .of hb⟩
        have g5' : decide ((200 : Int) ≤ (s.objs.length : Int)) = false := by simp; omega
        have g6' : decide ((262144 : Int) < (t.length : Int) + (total s.objs : Int)) = false := by simp; omega
        have g7 : ¬ (200 ≤ s.objs.length ∨ 262144 < total s.objs + t.length) := by omega
        go_upto_block 2 with fail
        go_cut [10] (fun u wx => ∃ k : Nat, u = .int .i64 k ∧ k ≤ s.objs.length ∧ (∀ j < k, ∀ x, s.objs[j]? = some x → bef n x.name = false) ∧ (∀ x, s.objs[k]? = some x → bef n x.name = true) ∧ Below w.heap.size w wx)
        case first =>
          go_wp2_with fail
          go_loopw [10] (fun u wx => ∃ k : Nat, u = .int .i64 k ∧ k ≤ s.objs.length ∧ Hid (∀ j < k, ∀ x, s.objs[j]? = some x → bef n x.name = false) ∧ Below w.heap.size w wx) (fun i _ => s.objs.length - (intOf i).toNat)
          case atStart => exact ⟨0, rfl, by omega, Lib.hid fun j hj => absurd hj (by omega), hb⟩
          case round =>
            obtain ⟨k, rfl, hk, hj, hb⟩ := hrel
            clear c0
            have c0 := (H.out.below hb).c0
            by_cases hlt : k < s.objs.length
            case neg =>
              have f : decide ((k : Int) < (s.objs.length : Int)) = false := by simp; omega
              go_wp2_with fail
              go_meet
              refine ⟨k, rfl, hk, hj.out, ?_, hb⟩
              intro x hx
              rw [List.getElem?_eq_none (by omega)] at hx
              cases hx
            have f : (k : Int) < (s.objs.length : Int) := by omega
            obtain ⟨x, hxk⟩ := get_ex hlt
            have q0 := hx k x hxk 0 _ rfl
            have q0 := (hb.cell (World.block_lt_of_cell? w _ q0)).trans q0
            have i1 := idx_at (c := c) 3 Tryz.underlying50 szOb ha k hlt
            simp only [Nat.add_zero] at q0
            have HX := Lib.hid hxk
            clear hxk
            go_wp2_with fail
            · rename_i hle
              refine ⟨⟨k + 1, by go_num, by omega, Lib.hid fun j hj' y hy => ?_, hb⟩, by simp [intOf]; omega⟩
              rcases Nat.lt_or_ge j k with h | h
              · exact hj.out j h y hy
              · obtain rfl : j = k := by omega
                rw [HX.out] at hy
                cases hy
                exact bef_asym ((less_bef _ _).symm.trans hle)
            · rename_i hle
              go_meet
              refine ⟨k, rfl, hk, hj.out, fun y hy => ?_, hb⟩
              rw [HX.out] at hy
              cases hy
              exact bef_tri (fun e => getO_none.1 HG.out _ (List.mem_of_getElem? HX.out) e) ((less_bef _ _).symm.trans hle)
        case rest =>
          obtain ⟨k, rfl, hk, hj, hk2, hb⟩ := hcut
          have hput := putO_at (x := ⟨n, t.take (wrote s t.length), s.day⟩) hk hj hk2
          have HP := Lib.hid hput
          have HB := Lib.hid hb
          clear hj hk2 hput
          go_wp2_with fail
          refine (written_any B xb _ s t.length _ (H.out.below hb) ht).mono ?_
          rintro e w3 ⟨rfl, h3, hb3⟩
          have hwl := wrote_le s t.length
          clear c0
          have c0 := h3.c0
          have c2 := h3.c2
          rw [aft_day] at c2
          have H3 := Lib.hid h3
          have hs23 : _ ≤ w3.heap.size := hb3.size
          have HB3 := Lib.hid ((But2.of (sb := xb) (mb := xb) hb).trans hb3)
          clear h3 hb3 hb
          have hsh := own_shape H.out.own
          rcases hsh with ⟨hv, hnil⟩ | ⟨g, cap, hv, hcap, hcm⟩
          · have hl0 : s.objs.length = 0 := by rw [hnil]; rfl
            obtain hk0 : k = 0 := by omega
            have HNIL := Lib.hid hnil
            clear hnil
            simp only [Value.slice.injEq] at hv
            obtain ⟨rfl, -, rfl⟩ := hv
            rw [hl0] at c0
            subst hk0
            have hsn : ∀ (W : World) (a' : Option Addr) (c' : Nat), SrcAt W 3 (.slice a' 0 c') 0 [] := fun W a' c' => ⟨a', c', rfl, rfl, fun u hu => (by cases hu), fun h0 => absurd h0 (by decide)⟩
            have htl : (s.objs.take 0).length = 0 := by rw [List.length_take]; omega
            have hdl : (s.objs.drop 0).length = s.objs.length - 0 := List.length_drop
            have htk : s.objs.take 0 = [] := rfl
            have hdk : s.objs.drop 0 = [] := by rw [HNIL.out]; rfl
            go_wp2_with (at_builtin; refine wpList_app rfl _ _ _ rfl w3.heap.size elOb (.slice none 0 0) 0 [] rfl (Own.nil encO _ 3 _ _) _ 0 [] rfl (hsn _ _ _) (by unfold maxLen; omega) (by omega) (Nat.le_refl _) ?_; intro u4 w4 ho4 hg4 hn4)
            have hb4 : Below w3.heap.size w3 w4 := Bapp (Below.refl _ w3) (Own.nil encO 49 3 w3.heap.size w3) hg4 (Nat.le_refl _) (Nat.le_refl _)
            have ho4 : Own encO 49 3 w3.heap.size w4 u4 (s.objs.take 0) := by rw [htk]; unfold Own; simpa using ho4
            clear hg4 hn4
            have H4 := Lib.hid (H3.out.below (Bd1 hb4))
            have ho4 := ho4.drewN 1
            have hb4 : Below w3.heap.size w3 (w4.drewN 1) := Bdn hb4 1
            clear c0 c2
            have c0 := H4.out.c0
            rw [hl0] at c0
            have c2 := H4.out.c2
            rw [aft_day] at c2
            obtain ⟨wr', hwr'⟩ : ∃ m, wrote s t.length = m := ⟨_, rfl⟩
            rw [hwr']
            have hwi : (wr' : Int) ≤ (t.length : Int) := by omega
            have HWR := Lib.hid hwr'
            clear hwr'
            have ho4' : w4.drew.ownsRow w3.heap.size 49 3 u4 0 ((s.objs.take 0).flatMap encO) := by
              have : w4.drew.ownsRow w3.heap.size 49 3 u4 (s.objs.take 0).length ((s.objs.take 0).flatMap encO) := ho4
              rwa [htl] at this
            have hs34 : w3.heap.size ≤ w4.heap.size := hb4.size
            have hsrc : SrcAt ((w4.alloc (.cells #[S n, .string ((ByteArray.mk t.toArray).extract 0 wr'), .int .i64 s.day] 49)).drew) 3 (.slice (some ⟨w4.heap.size, 0, none⟩) 1 1) 1 [S n, .string ((ByteArray.mk t.toArray).extract 0 wr'), .int .i64 s.day] := src_one (w := w4) rfl rfl (by simp [Value.oneCell'])
            go_region_law ((refine step_app rfl _ _ _ rfl w3.heap.size elOb u4 0 _ rfl (World.ownsRow.alloc ho4' _) (.slice (some ⟨w4.heap.size, 0, none⟩) 1 1) 1 _ rfl hsrc (by unfold maxLen; omega) (by omega) (by simp; omega) ?_; intro u5 w5 ho5 hg5 hn5))
            have hb5 : Below w3.heap.size w3 w5 := Bapp (hb4.alloc hb4.size _) (Own.alloc (Own.drewN ho4 0) _) hg5 (Nat.le_refl _) (by simp; omega)
            clear hg5 hn5 hsrc c0 c2 ho4'
            have H5 := Lib.hid (H3.out.below hb5)
            have c0 := H5.out.c0
            rw [hl0] at c0
            have f0 := H5.out.fz 0
            have hx5 : (take_ext t wr').symm = (take_ext t wr').symm := rfl
            rw [← take_ext] at ho5
            have ho5 : Own encO 49 3 w3.heap.size w5 u5 (s.objs.take 0 ++ [⟨n, t.take wr', s.day⟩]) := Own.snoc (x := (⟨n, t.take wr', s.day⟩ : Ob)) (by rw [htl]; exact ho5)
            have hl5 : (s.objs.take 0 ++ [(⟨n, t.take wr', s.day⟩ : Ob)]).length = 0 + 1 := by simp
            clear hx5
            have hs35 : w3.heap.size ≤ w5.heap.size := hb5.size
            have ho5' : w5.ownsRow w3.heap.size 49 3 u5 (0 + 1) ((s.objs.take 0 ++ [(⟨n, t.take wr', s.day⟩ : Ob)]).flatMap encO) := by
              have := ho5
              unfold Own at this
              rwa [hl5] at this
            go_wp2_with (at_builtin; refine wpList_here ?_)
            all_goals
              refine ⟨?_, trivial⟩
              refine wpList_app rfl _ _ _ rfl w3.heap.size elOb u5 (0 + 1) _ rfl ho5' _ 0 [] rfl (hsn _ _ _) (by unfold maxLen; omega) (by omega) (by omega) ?_
              intro u6 w6 ho6 hg6 hn6
              have hb6 := Bapp hb5 ho5 hg6 (Nat.le_refl _) hs35
              have H6 := Lib.hid (H3.out.below hb6)
              have c0' := H6.out.c0
              rw [hl0] at c0'
              have f0' := H6.out.fz 0
              have hl6 : ((s.objs.take 0 ++ [(⟨n, t.take wr', s.day⟩ : Ob)]) ++ s.objs.drop 0).length = 0 + 1 + (s.objs.length - 0) := by rw [List.length_append, hl5, List.length_drop]
              have ho6' : Own encO 49 3 w3.heap.size w6 u6 ((s.objs.take 0 ++ [(⟨n, t.take wr', s.day⟩ : Ob)]) ++ s.objs.drop 0) := by
                unfold Own
                rw [hl6, List.flatMap_append, hdk, hl0]
                exact ho6
              have hlist : (s.objs.take 0 ++ [(⟨n, t.take wr', s.day⟩ : Ob)]) ++ s.objs.drop 0 = putO ⟨n, t.take (wrote s t.length), s.day⟩ s.objs := by
                rw [HP.out, HWR.out]; simp
              rw [hlist] at ho6'
              have hxb3 : xb < w3.heap.size := H3.out.lt
              have hne6 : u6.ownBlock ≠ some xb := fun e => by
                have := (World.ownsRow.lt ho6' _ e).1
                omega
              have hbd : Own encO 49 3 B w6 u6 (putO ⟨n, t.take (wrote s t.length), s.day⟩ s.objs) := own_base ho6' (Nat.le_trans hB (Nat.le_trans HB.out.size (Nat.le_trans hs23 (Nat.le_refl _))))
              have hokf : St.Ok { aft s t.length with objs := putO ⟨n, t.take (wrote s t.length), s.day⟩ s.objs } := by
                have := H3.out.ok.put (n := n) (t := t.take (wrote s t.length)) (d := s.day) (by omega) (by rw [List.length_take]; omega) (by rw [aft_objs]; exact HG.out) (by rw [aft_objs]; omega)
                rwa [aft_objs] at this
              have hF : ModAt (w6.setCell ⟨xb, 0, none⟩ u6) B xb u6 { aft s t.length with objs := putO ⟨n, t.take (wrote s t.length), s.day⟩ s.objs } :=
                ⟨heap_setCell_same w6 xb 0 _ _ u6 H6.out.blk, own_but hbd hne6 hne6 (But2.set (mb := xb) w6 0 u6), hokf⟩
              have c3f := hF.c3
              simp only at c3f
              have HFF := Lib.hid hF
              have HBF := Lib.hid ((HB3.out.trans (.of hb6)).trans (But2.set (mb := xb) w6 0 u6))
              have hsh6 := own_shape ho6'
              rw [putO_length, hl0, Nat.zero_add] at hsh6
              clear hF hbd ho6' ho6 hg6 hn6 hlist hl6 c0 f0 hne6 hokf
              rcases hsh6 with ⟨_, he⟩ | ⟨g6, cap6, rfl, _, _⟩
              · have := congrArg List.length he
                rw [putO_length] at this
                simp at this
              obtain ⟨af, haf⟩ : ∃ af, (aft s t.length).off = af := ⟨_, rfl⟩
              rw [haf] at c3f
              have HAF := Lib.hid haf
              clear haf
              cases af with
              | true =>
                go_wp2_with fail
                all_goals first
                  | (go_ret
                     exact ⟨rfl, ⟨_, by have := HFF.out; rw [HAF.out] at this; exact this⟩, HBF.out⟩)
                  | (go_ret
                     exact ⟨by rw [HAF.out]; rfl, ⟨_, HFF.out⟩, HBF.out⟩)
                  | (go_ret
                     exact ⟨_, by rw [HAF.out]; rfl, HFF.out, HBF.out⟩)
                  | (exfalso
                     have h1 := HAF.out
                     first
                       | exact h h1
                       | (rw [h1] at h; cases h))
              | false =>
                go_wp2_with fail
                all_goals first
                  | (go_ret
                     exact ⟨rfl, ⟨_, by have := HFF.out; rw [HAF.out] at this; exact this⟩, HBF.out⟩)
                  | (go_ret
                     exact ⟨by rw [HAF.out]; rfl, ⟨_, HFF.out⟩, HBF.out⟩)
                  | (go_ret
                     exact ⟨_, by rw [HAF.out]; rfl, HFF.out, HBF.out⟩)
                  | (exfalso
                     have h1 := HAF.out
                     first
                       | exact h h1
                       | (rw [h1] at h; cases h))
          · cases hv
            have hA3 := Lib.hid (H3.out.own.at encO_enc)
            rw [aft_objs] at hA3
            have s1 := Lib.hid (At.src encO_enc (by decide) (hA3.out.takeS hk))
            have s2 := Lib.hid (At.src encO_enc (by decide) (hA3.out.dropS hk))
            have k1 : (k : Int) ≤ (s.objs.length : Int) := by omega
            have k2' : (s.objs.length : Int) ≤ (c : Int) := by omega
            have k3 : (k : Int) ≤ (c : Int) := by omega
            have htl : (s.objs.take k).length = k := by rw [List.length_take]; omega
            have hdl : (s.objs.drop k).length = s.objs.length - k := List.length_drop
            rw [htl] at s1
            rw [hdl] at s2
            go_wp2_with (at_builtin; refine wpList_app rfl _ _ _ rfl w3.heap.size elOb (.slice none 0 0) 0 [] rfl (Own.nil encO _ 3 _ _) (.slice (some ⟨g, 0, none⟩) k c) k _ rfl s1.out (by unfold maxLen; omega) (by omega) (Nat.le_refl _) ?_; intro u4 w4 ho4 hg4 hn4)
            have hb4 : Below w3.heap.size w3 w4 := Bapp (Below.refl _ w3) (Own.nil encO 49 3 w3.heap.size w3) hg4 (Nat.le_refl _) (Nat.le_refl _)
            have ho4 : Own encO 49 3 w3.heap.size w4 u4 (s.objs.take k) := by unfold Own; rw [htl]; simpa using ho4
            clear hg4 hn4
            have H4 := Lib.hid (H3.out.below (Bd1 hb4))
            have ho4 := ho4.drewN 1
            have hb4 : Below w3.heap.size w3 (w4.drewN 1) := Bdn hb4 1
            clear c0 c2
            have c0 := H4.out.c0
            have c2 := H4.out.c2
            rw [aft_day] at c2
            obtain ⟨wr', hwr'⟩ : ∃ m, wrote s t.length = m := ⟨_, rfl⟩
            rw [hwr']
            have hwi : (wr' : Int) ≤ (t.length : Int) := by omega
            have HWR := Lib.hid hwr'
            clear hwr'
            have ho4' : w4.drew.ownsRow w3.heap.size 49 3 u4 k ((s.objs.take k).flatMap encO) := by
              have : w4.drew.ownsRow w3.heap.size 49 3 u4 (s.objs.take k).length ((s.objs.take k).flatMap encO) := ho4
              rwa [htl] at this
            have hs34 : w3.heap.size ≤ w4.heap.size := hb4.size
            have hsrc : SrcAt ((w4.alloc (.cells #[S n, .string ((ByteArray.mk t.toArray).extract 0 wr'), .int .i64 s.day] 49)).drew) 3 (.slice (some ⟨w4.heap.size, 0, none⟩) 1 1) 1 [S n, .string ((ByteArray.mk t.toArray).extract 0 wr'), .int .i64 s.day] := src_one (w := w4) rfl rfl (by simp [Value.oneCell'])
            go_region_law ((refine step_app rfl _ _ _ rfl w3.heap.size elOb u4 k _ rfl (World.ownsRow.alloc ho4' _) (.slice (some ⟨w4.heap.size, 0, none⟩) 1 1) 1 _ rfl hsrc (by unfold maxLen; omega) (by omega) (by simp; omega) ?_; intro u5 w5 ho5 hg5 hn5))
            have hb5 : Below w3.heap.size w3 w5 := Bapp (hb4.alloc hb4.size _) (Own.alloc (Own.drewN ho4 0) _) hg5 (Nat.le_refl _) (by simp; omega)
            clear hg5 hn5 hsrc c0 c2 ho4'
            have H5 := Lib.hid (H3.out.below hb5)
            have c0 := H5.out.c0
            have f0 := H5.out.fz 0
            have hx5 : (take_ext t wr').symm = (take_ext t wr').symm := rfl
            rw [← take_ext] at ho5
            have ho5 : Own encO 49 3 w3.heap.size w5 u5 (s.objs.take k ++ [⟨n, t.take wr', s.day⟩]) := Own.snoc (x := (⟨n, t.take wr', s.day⟩ : Ob)) (by rw [htl]; exact ho5)
            have hl5 : (s.objs.take k ++ [(⟨n, t.take wr', s.day⟩ : Ob)]).length = k + 1 := by simp [htl]
            clear hx5
            have hA5 := H5.out.own.at encO_enc
            rw [aft_objs] at hA5
            have s5 := At.src encO_enc (by decide) (hA5.dropS hk)
            rw [hdl] at s5
            have s5'' : ∀ (a' : Option Addr) (c' : Nat), s.objs.length = k → SrcAt w5 3 (.slice a' (s.objs.length - k) c') (s.objs.length - k) ((s.objs.drop k).flatMap encO) := by
              intro a' c' he
              have hd : s.objs.drop k = [] := List.drop_eq_nil_of_le (by omega)
              rw [hd]
              exact ⟨a', c', rfl, by simp; omega, fun u hu => (by cases hu), fun h0 => absurd h0 (by omega)⟩
            clear hA5 s1 s2 hA3
            have hs35 : w3.heap.size ≤ w5.heap.size := hb5.size
            have ho5' : w5.ownsRow w3.heap.size 49 3 u5 (k + 1) ((s.objs.take k ++ [(⟨n, t.take wr', s.day⟩ : Ob)]).flatMap encO) := by
              have := ho5
              unfold Own at this
              rwa [hl5] at this
            go_wp2_with (at_builtin; refine wpList_here ?_)
            all_goals
              refine ⟨?_, trivial⟩
              refine wpList_app rfl _ _ _ rfl w3.heap.size elOb u5 (k + 1) _ rfl ho5' _ (s.objs.length - k) ((s.objs.drop k).flatMap encO) rfl (by first | exact s5 | exact s5'' _ _ (by omega)) (by unfold maxLen; omega) (by omega) (by omega) ?_
              intro u6 w6 ho6 hg6 hn6
              have hb6 := Bapp hb5 ho5 hg6 (Nat.le_refl _) hs35
              have H6 := Lib.hid (H3.out.below hb6)
              have c0' := H6.out.c0
              have f0' := H6.out.fz 0
              have hl6 : ((s.objs.take k ++ [(⟨n, t.take wr', s.day⟩ : Ob)]) ++ s.objs.drop k).length = k + 1 + (s.objs.length - k) := by rw [List.length_append, hl5, List.length_drop]
              have ho6' : Own encO 49 3 w3.heap.size w6 u6 ((s.objs.take k ++ [(⟨n, t.take wr', s.day⟩ : Ob)]) ++ s.objs.drop k) := by
                unfold Own
                rw [hl6, List.flatMap_append]
                exact ho6
              have hlist : (s.objs.take k ++ [(⟨n, t.take wr', s.day⟩ : Ob)]) ++ s.objs.drop k = putO ⟨n, t.take (wrote s t.length), s.day⟩ s.objs := by
                rw [HP.out, HWR.out]; simp
              rw [hlist] at ho6'
              have hxb3 : xb < w3.heap.size := H3.out.lt
              have hne6 : u6.ownBlock ≠ some xb := fun e => by
                have := (World.ownsRow.lt ho6' _ e).1
                omega
              have hbd : Own encO 49 3 B w6 u6 (putO ⟨n, t.take (wrote s t.length), s.day⟩ s.objs) := own_base ho6' (Nat.le_trans hB (Nat.le_trans HB.out.size (Nat.le_trans hs23 (Nat.le_refl _))))
              have hokf : St.Ok { aft s t.length with objs := putO ⟨n, t.take (wrote s t.length), s.day⟩ s.objs } := by
                have := H3.out.ok.put (n := n) (t := t.take (wrote s t.length)) (d := s.day) (by omega) (by rw [List.length_take]; omega) (by rw [aft_objs]; exact HG.out) (by rw [aft_objs]; omega)
                rwa [aft_objs] at this
              have hF : ModAt (w6.setCell ⟨xb, 0, none⟩ u6) B xb u6 { aft s t.length with objs := putO ⟨n, t.take (wrote s t.length), s.day⟩ s.objs } :=
                ⟨heap_setCell_same w6 xb 0 _ _ u6 H6.out.blk, own_but hbd hne6 hne6 (But2.set (mb := xb) w6 0 u6), hokf⟩
              have c3f := hF.c3
              simp only at c3f
              have HFF := Lib.hid hF
              have HBF := Lib.hid ((HB3.out.trans (.of hb6)).trans (But2.set (mb := xb) w6 0 u6))
              have hsh6 := own_shape ho6'
              rw [putO_length] at hsh6
              clear hF hbd ho6' ho6 hg6 hn6 hlist hl6 c0 f0 hne6 hokf
              rcases hsh6 with ⟨_, he⟩ | ⟨g6, cap6, rfl, _, _⟩
              · have := congrArg List.length he
                rw [putO_length] at this
                simp at this
              obtain ⟨af, haf⟩ : ∃ af, (aft s t.length).off = af := ⟨_, rfl⟩
              rw [haf] at c3f
              have HAF := Lib.hid haf
              clear haf
              cases af with
              | true =>
                go_wp2_with fail
                all_goals first
                  | (go_ret
                     exact ⟨rfl, ⟨_, by have := HFF.out; rw [HAF.out] at this; exact this⟩, HBF.out⟩)
                  | (go_ret
                     exact ⟨by rw [HAF.out]; rfl, ⟨_, HFF.out⟩, HBF.out⟩)
                  | (go_ret
                     exact ⟨_, by rw [HAF.out]; rfl, HFF.out, HBF.out⟩)
                  | (exfalso
                     have h1 := HAF.out
                     first
                       | exact h h1
                       | (rw [h1] at h; cases h))
              | false =>
                go_wp2_with fail
                all_goals first
                  | (go_ret
                     exact ⟨rfl, ⟨_, by have := HFF.out; rw [HAF.out] at this; exact this⟩, HBF.out⟩)
                  | (go_ret
                     exact ⟨by rw [HAF.out]; rfl, ⟨_, HFF.out⟩, HBF.out⟩)
                  | (go_ret
                     exact ⟨_, by rw [HAF.out]; rfl, HFF.out, HBF.out⟩)
                  | (exfalso
                     have h1 := HAF.out
                     first
                       | exact h h1
                       | (rw [h1] at h; cases h))
end Go.Proofs.YtepdedfmdafnkaaGreatDoor
namespace Go.Proofs.YtepdedfmdafnkaaGreatDoor
open Go.RowKit Go.Maps

theorem dropO_at : ∀ {l : List Ob} {k : Nat} {x : Ob}, Rising l → l[k]? = some x → dropO l x.name = l.take k ++ l.drop (k + 1)
  | [], k, x, _, h => by simp at h
  | a :: r, 0, x, hr, h => by
    obtain rfl : a = x := by simpa using h
    have ha := (List.pairwise_cons.1 hr.apart).1
    unfold dropO
    rw [List.filter_cons_of_neg (by simp)]
    simp only [List.take_zero, List.drop_succ_cons, List.drop_zero, List.nil_append]
    exact List.filter_eq_self.2 fun o ho => by simpa using (ha o ho).symm
  | a :: r, k + 1, x, hr, h => by
    have ha := (List.pairwise_cons.1 hr.apart).1
    have hx : r[k]? = some x := by simpa using h
    have ih := dropO_at (List.pairwise_cons.1 hr).2 hx
    unfold dropO at ih ⊢
    rw [List.filter_cons_of_pos (by simpa using ha x (List.mem_of_getElem? hx))]
    rw [ih]
    rfl

set_option maxRecDepth 20000 in
set_option maxHeartbeats 4000000 in
theorem dropM_any (B xb : Nat) (v : Value) (s : St) (n : Str) (w : World) (h : ModAt w B xb v s) (hB : B ≤ w.heap.size) :
    Calls Tryz.prog 52 #[stP xb, S n] w fun e w' => ∃ v', e = .returned (.int .i64 ((dropE s n).code : Int)) ∧ ModAt w' B xb v' (dropS s n) ∧ But2 xb xb w w' := by
  have H := Lib.hid h
  have c3 := h.c3
  unfold dropE dropS
  cases ho : s.off with
  | true =>
    rw [ho] at c3
    simp only [if_true, true_or]
    clear h ho
    go_enter Tryz.func52, Tryz.ntmps52
    go_wp2_with fail
    go_ret
    exact ⟨_, rfl, H.out, .of (Below.refl _ _)⟩
  | false =>
    rw [ho] at c3
    cases hg : getO s.objs n with
    | none =>
      simp only [if_true, or_true, Bool.false_eq_true, if_false]
      clear h ho
      go_enter Tryz.func52, Tryz.ntmps52
      go_wp2_with fail
      refine (findM_any B xb v s n _ H.out).mono ?_
      rintro e w1 ⟨r, rfl, hr, hb⟩
      rcases hr.got H.out.ok.ris with ⟨k, x, rfl, hk, hxk, hnm, hg2⟩ | ⟨rfl, hg2⟩
      · rw [hg] at hg2; cases hg2
      · clear hr hg hg2
        go_wp2_with fail
        go_ret
        exact ⟨_, rfl, H.out.below hb, .of hb⟩
    | some y =>
      simp only [Bool.false_eq_true, if_false, or_false, reduceCtorEq]
      have hnum := h.ok.num
      rcases own_shape h.own with ⟨rfl, hnil⟩ | ⟨g, c, rfl, hcap, hcm⟩
      · rw [hnil] at hg; cases hg
      unfold maxLen at hcm
      have HO := Lib.hid ho
      clear h ho
      go_enter Tryz.func52, Tryz.ntmps52
      go_wp2_with fail
      refine (findM_any B xb _ s n _ H.out).mono ?_
      rintro e w3 ⟨r, rfl, hr, hb⟩
      rcases hr.got H.out.ok.ris with ⟨k, x, rfl, hk, hxk, hnm, hg2⟩ | ⟨rfl, hg2⟩
      case inr => rw [hg] at hg2; cases hg2
      have hdr := dropO_at H.out.ok.ris hxk
      rw [hnm] at hdr
      have HD := Lib.hid hdr
      have H3 := Lib.hid (H.out.below hb)
      have HB := Lib.hid hb
      clear hr hg hg2 hxk hnm hdr c3 hb
      have c0 := H3.out.c0
      have hA3 := Lib.hid (H3.out.own.at encO_enc)
      have s1 := Lib.hid (At.src encO_enc (by decide) (hA3.out.takeS (Nat.le_of_lt hk)))
      have k1 : (k : Int) < (s.objs.length : Int) := by omega
      have k2 : (s.objs.length : Int) ≤ (c : Int) := by omega
      have k3 : (k : Int) ≤ (c : Int) := by omega
      have k4 : (k : Int) + 1 ≤ (s.objs.length : Int) := by omega
      have k5 : (k : Int) + 1 ≤ (c : Int) := by omega
      have htl : (s.objs.take k).length = k := by rw [List.length_take]; omega
      have hdl : (s.objs.drop (k + 1)).length = s.objs.length - (k + 1) := List.length_drop
      rw [htl] at s1
      go_wp2_with
       (first
        | (at_builtin
           refine wpList_app rfl _ _ _ rfl w3.heap.size elOb (.slice none 0 0) 0 [] rfl (Own.nil encO _ 3 _ _) (.slice (some ⟨g, 0, none⟩) k c) k _ rfl s1.out (by unfold maxLen; omega) (by omega) (Nat.le_refl _) ?_
           intro u4 w4 ho4 hg4 hn4
           have hb4 : Below w3.heap.size w3 w4 := Bapp (Below.refl _ w3) (Own.nil encO 49 3 w3.heap.size w3) hg4 (Nat.le_refl _) (Nat.le_refl _)
           have ho4 : Own encO 49 3 w3.heap.size w4 u4 (s.objs.take k) := by unfold Own; rw [htl]; simpa using ho4
           clear hg4 hn4
           have H4 := Lib.hid (H3.out.below hb4)
           clear c0
           have c0 := H4.out.c0
           have f0 := H4.out.fz 0
           have hA4 := H4.out.own.at encO_enc
           have s5 := At.src encO_enc (by decide) (hA4.dropS (k := k + 1) (by omega))
           rw [hdl] at s5
           have s5'' : ∀ (a' : Option Addr) (c' : Nat), s.objs.length = k + 1 → SrcAt w4 3 (.slice a' (s.objs.length - (k + 1)) c') (s.objs.length - (k + 1)) ((s.objs.drop (k + 1)).flatMap encO) := by
             intro a' c' he
             have hd : s.objs.drop (k + 1) = [] := List.drop_eq_nil_of_le (by omega)
             rw [hd]
             exact ⟨a', c', rfl, by simp; omega, fun u hu => (by cases hu), fun h0 => absurd h0 (by omega)⟩
           clear hA4 s1 hA3
           have hs34 : w3.heap.size ≤ w4.heap.size := hb4.size
           have ho4' : w4.ownsRow w3.heap.size 49 3 u4 k ((s.objs.take k).flatMap encO) := by
             have := ho4
             unfold Own at this
             rwa [htl] at this)
        | (at_builtin; refine wpList_here ?_))
      all_goals
        refine ⟨?_, trivial⟩
        refine wpList_app rfl _ _ _ rfl w3.heap.size elOb u4 k _ rfl ho4' _ (s.objs.length - (k + 1)) ((s.objs.drop (k + 1)).flatMap encO) rfl (by first | exact s5 | exact s5'' _ _ (by omega)) (by unfold maxLen; omega) (by omega) (by omega) ?_
        intro u6 w6 ho6 hg6 hn6
        have hb6 := Bapp hb4 ho4 hg6 (Nat.le_refl _) hs34
        have H6 := Lib.hid (H3.out.below hb6)
        have c0' := H6.out.c0
        have f0' := H6.out.fz 0
        have hl6 : (s.objs.take k ++ s.objs.drop (k + 1)).length = k + (s.objs.length - (k + 1)) := by rw [List.length_append, htl, hdl]
        have ho6' : Own encO 49 3 w3.heap.size w6 u6 (s.objs.take k ++ s.objs.drop (k + 1)) := by
          unfold Own
          rw [hl6, List.flatMap_append]
          exact ho6
        have hne6 : u6.ownBlock ≠ some xb := fun e => by
          have := (World.ownsRow.lt ho6' _ e).1
          have := H3.out.lt
          omega
        rw [← HD.out] at ho6'
        have hbd : Own encO 49 3 B w6 u6 (dropO s.objs n) := own_base ho6' (Nat.le_trans hB HB.out.size)
        have hF : ModAt (w6.setCell ⟨xb, 0, none⟩ u6) B xb u6 { s with objs := dropO s.objs n } :=
          ⟨heap_setCell_same w6 xb 0 _ _ u6 H6.out.blk, own_but hbd hne6 hne6 (But2.set (mb := xb) w6 0 u6), H.out.ok.drop n⟩
        have HFF := Lib.hid hF
        have HBF := Lib.hid (((But2.of (sb := xb) (mb := xb) HB.out).trans (.of hb6)).trans (But2.set (mb := xb) w6 0 u6))
        have hsh6 := own_shape ho6'
        clear hF hbd ho6' ho6 hg6 hn6 hl6 c0 f0 hne6
        rcases hsh6 with ⟨rfl, _⟩ | ⟨g6, cap6, rfl, _, _⟩
        all_goals
          go_wp2_with fail
          go_ret
          exact ⟨_, rfl, by have := HFF.out; rw [HO.out] at this; exact this, HBF.out⟩
end Go.Proofs.YtepdedfmdafnkaaGreatDoor
namespace Go.Proofs.YtepdedfmdafnkaaGreatDoor
open Go.RowKit Go.Maps

/-- An error that no world is asked for. -/
def Er.isPlain : Er → Bool
  | .loc _ _ => false
  | _ => true
theorem ErV.any {E : Nat → Addr} {w : World} {v : Value} {er : Er} (h : ErV E w v er) (hp : er.isPlain = true) : ∀ w', ErV E w' v er := by
  intro w'
  cases er with
  | nil => exact h
  | bare c => exact h
  | loc c i => cases hp
theorem coded_self {er : Er} (hp : er.isPlain = true) : codedB er (er.code : Int) = true := by
  cases er with
  | nil => rfl
  | bare c => simp [codedB, Er.code, Er.place]
  | loc c i => cases hp
theorem plain_put (s : St) (n t : Str) : (putE s n t).isPlain = true := by
  unfold putE
  repeat' split
  all_goals rfl
theorem plain_drop (s : St) (n : Str) : (dropE s n).isPlain = true := by
  unfold dropE
  repeat' split
  all_goals rfl
theorem plain_swap (s : St) (n t : Str) : (swapE s n t).isPlain = true := by
  unfold swapE
  repeat' split
  all_goals rfl
def cutE (s : St) (n : Int) : Er := if n < 0 then .bare 2 else if s.off then .bare 12 else .nil
theorem plain_cut (s : St) (n : Int) : (cutE s n).isPlain = true := by
  unfold cutE
  repeat' split
  all_goals rfl
theorem cutE_code (s : St) (n : Int) : ((cutE s n).code : Int) = (if n < 0 then 2 else if s.off then 12 else 0) := by
  unfold cutE
  split
  · rfl
  · split <;> rfl

section
variable {w w' : World} {sb mb a b : Nat} {s : St} {e : TypeId}
theorem StoreAt.aside (h : StoreAt w sb mb s) (hb : But2 a b w w') (h1 : sb ≠ a) (h2 : sb ≠ b) (h3 : mb ≠ a) (h4 : mb ≠ b) : StoreAt w' sb mb s :=
  ⟨(hb.block sb h.lt h1 h2).trans h.blk, by
    obtain ⟨es, clock, hx, F, hs, hD⟩ := h.own
    exact ⟨es, clock, (hb.block mb h.ltm h3 h4).trans hx, F, hs, hD⟩, h.ok⟩
theorem own_off {α : Type} {enc : α → List Value} {sz B : Nat} {v : Value} {l : List α} (h : Own enc e sz B w v l) (hs : StoreAt w sb mb s) (he : e ≠ 78) : v.ownBlock ≠ some sb ∧ v.ownBlock ≠ some mb := by
  refine ⟨own_ne h hs.blk fun cs hc => ?_, ?_⟩
  · cases hc; exact he rfl
  · obtain ⟨es, clock, hx, _⟩ := hs.own
    exact own_ne h hx fun cs hc => by cases hc
end

/-- The store s and the model m, apart, made behind w0. -/
structure Both (w0 : World) (sb mb xb : Nat) (v : Value) (s m : St) (w : World) : Prop where
  sto : StoreAt w sb mb s
  mdl : ModAt w w0.heap.size xb v m
  bel : Below w0.heap.size w0 w
  h1 : w0.heap.size ≤ sb
  h2 : w0.heap.size ≤ mb
  h3 : w0.heap.size ≤ xb
  n1 : xb ≠ sb
  n2 : xb ≠ mb
section
variable {w0 w w' : World} {sb mb xb : Nat} {v v' : Value} {s s' m m' : St}
theorem Both.below (h : Both w0 sb mb xb v s m w) (hb : Below w.heap.size w w') : Both w0 sb mb xb v s m w' :=
  { h with sto := h.sto.below hb, mdl := h.mdl.below hb, bel := h.bel.trans (hb.mono h.bel.size) }
theorem Both.drew (h : Both w0 sb mb xb v s m w) : Both w0 sb mb xb v s m w.drew := h.below (Bdn (Below.refl _ _) 1)
theorem Both.turnS (h : Both w0 sb mb xb v s m w) (hs : StoreAt w' sb mb s') (hb : But2 sb mb w w') : Both w0 sb mb xb v s' m w' := by
  obtain ⟨k1, k2⟩ := own_off h.mdl.own h.sto (by decide)
  exact { h with sto := hs, mdl := ⟨(hb.block xb h.mdl.lt h.n1 h.n2).trans h.mdl.blk, own_but h.mdl.own k1 k2 hb, h.mdl.ok⟩, bel := hb.under h.bel h.h1 h.h2 h.bel.size }
theorem Both.turnM (h : Both w0 sb mb xb v s m w) (hm : ModAt w' w0.heap.size xb v' m') (hb : But2 xb xb w w') : Both w0 sb mb xb v' s m' w' :=
  { h with sto := h.sto.aside hb h.n1.symm h.n1.symm h.n2.symm h.n2.symm, mdl := hm, bel := hb.under h.bel h.h3 h.h3 h.bel.size }
/-- Another store is turned. -/
theorem Both.turnC {wb wm : Nat} {c : St} (h : Both w0 sb mb xb v s m w) (hc : StoreAt w wb wm c) (k1 : w0.heap.size ≤ wb) (k2 : w0.heap.size ≤ wm) (n1 : wb ≠ sb ∧ wb ≠ mb ∧ wm ≠ sb ∧ wm ≠ mb) (n2 : wb ≠ xb ∧ wm ≠ xb) (hb : But2 wb wm w w') : Both w0 sb mb xb v s m w' := by
  obtain ⟨q1, q2⟩ := own_off h.mdl.own hc (by decide)
  exact { h with sto := h.sto.aside hb n1.1.symm n1.2.2.1.symm n1.2.1.symm n1.2.2.2.symm, mdl := ⟨(hb.block xb h.mdl.lt n2.1.symm n2.2.symm).trans h.mdl.blk, own_but h.mdl.own q1 q2 hb, h.mdl.ok⟩, bel := hb.under h.bel k1 k2 h.bel.size }
theorem Both.hB (h : Both w0 sb mb xb v s m w) : w0.heap.size ≤ w.heap.size := h.bel.size
end
end Go.Proofs.YtepdedfmdafnkaaGreatDoor
