/- deedboxlaw2.OwnInts; the types' facts for ints and texts. A slice that the call owns, and a store into another block. Of no program. A store in memory; the methods that only read a field or write one. store: Get, Born, Next, write, Swap, Drop. A slice that the call owns: opened, cut, written to, cleared behind. Of no program. A loop over a function's values whose rounds all go on: the caller's invariant need only abide what is new since the loop began. Of no program. The model of a store in memory; its methods that only read, or write a field. The model of a store: Find, Get, Names. -/
import Derived.Test.YtpfohfihkmjnaaaGreatDoorP1
import Derived.Maps.OwnOps
import Derived.RangeFuncOwn
import Derived.RangeFuncGives
namespace Go.Proofs.YtpfohfihkmjnaaaGreatDoor
open Go.RowKit

theorem elInt : ElemInfo Tryz.prog 69 3 1 8 := elemInfo_of Tryz.underlying69 (z := .int .i64 0) (by kernel_rfl) rfl (by decide)
theorem elStr : ElemInfo Tryz.prog 39 9 1 16 := elemInfo_of Tryz.underlying39 (z := .string ByteArray.empty) (by kernel_rfl) rfl (by decide)

end Go.Proofs.YtpfohfihkmjnaaaGreatDoor
namespace Go.Proofs.YtpfohfihkmjnaaaGreatDoor
open Go.RowKit

theorem grown_set (w : World) (g i : Nat) (x : Value) : w.grownBy (w.setCell ⟨g, i, none⟩ x) (some g) := by
  refine ⟨rfl, rfl, rfl, by simp [World.setCell], fun k _ hne => ?_⟩
  have : g ≠ k := fun e => hne (by rw [e])
  simp [World.setCell, Array.getElem?_modify, this]
theorem Own.store {α : Type} {enc : α → List Value} {e : TypeId} {sz B : Nat} {w : World} {v : Value} {l : List α} (h : Own enc e sz B w v l) {g : Nat} (hg : g < B) (i : Nat) (x : Value) : Own enc e sz B (w.setCell ⟨g, i, none⟩ x) v l := by
  refine World.ownsRow.kept h (grown_set w g i x) ?_
  cases hv : v.ownBlock with
  | none => exact .inl rfl
  | some k =>
    refine .inr fun e => ?_
    cases e
    have := (World.ownsRow.lt h g hv).1
    omega
end Go.Proofs.YtpfohfihkmjnaaaGreatDoor
namespace Go.Proofs.YtpfohfihkmjnaaaGreatDoor
open Go.RowKit Go.Maps

/-- What a store's map holds, as it reads. -/
def objElem (v : Value) : Option (DataW Unit × List MemPlace) :=
  match v with
  | .agg cs => match cs.toList with
    | [.string s, .int .i64 d] => if s.size ≤ maxLen then some (obT s.data.toList d, []) else none
    | _ => none
  | _ => none
theorem objElem_mk {t : Str} {d : Int} (h : t.length ≤ maxLen) : objElem (.agg #[S t, .int .i64 d]) = some (obT t d, []) := by
  have : (ByteArray.mk t.toArray).size ≤ maxLen := by simpa [ByteArray.size] using h
  simp [objElem, this]
theorem objElem_inv {v : Value} {t : Str} {d : Int} {ps : List MemPlace} (h : objElem v = some (obT t d, ps)) : v = .agg #[S t, .int .i64 d] := by
  unfold objElem at h
  split at h
  · rename_i cs
    split at h
    · rename_i s d' hcs
      split at h
      · simp only [Option.some.injEq, Prod.mk.injEq, obT, DataW.agg.injEq, List.cons.injEq, DataW.lit.injEq, Lit.string.injEq, Lit.int.injEq, and_true, true_and] at h
        obtain ⟨⟨h1, h2⟩, -⟩ := h
        have : cs = #[.string s, .int .i64 d'] := by rw [← hcs]
        rw [this, h2]
        have hs : S t = .string s := by rw [← h1]
        rw [hs]
      · cases h
    · cases h
  · cases h

/-- A store, in plain words. -/
structure St where
  objs : List Ob
  head : Str
  day : Int
  off : Bool
  cut : Int
  deriving DecidableEq

def St.new : St := ⟨[], [], 0, false, -1⟩

abbrev stCells (mb : Nat) (s : St) : Array Value := #[.map (some mb), S s.head, .int .i64 s.day, .bool s.off, .int .i64 s.cut]

/-- What holds of each store. -/
structure St.Ok (s : St) : Prop where
  ris : Rising s.objs
  day0 : 0 ≤ s.day
  day1 : s.day ≤ 100000
  cut0 : -1 ≤ s.cut
  cut1 : s.cut ≤ 9223372036854775807
  txt : ∀ o ∈ s.objs, o.text.length ≤ 20000
  nam : ∀ o ∈ s.objs, o.name.length ≤ 20000
  num : s.objs.length ≤ 200
  hd : s.head.length ≤ 20000

/-- The store s lies in block sb, its map in block mb. -/
structure StoreAt (w : World) (sb mb : Nat) (s : St) : Prop where
  blk : w.heap[sb]? = some (.cells (stCells mb s) 128 (0, 0))
  own : w.ownsMap Tryz.prog 9 objElem mb s.objs.length (mapD s.objs)
  ok : s.Ok

theorem StoreAt.lt {w : World} {sb mb : Nat} {s : St} (h : StoreAt w sb mb s) : sb < w.heap.size := (Array.getElem?_eq_some_iff.1 h.blk).1
theorem StoreAt.ltm {w : World} {sb mb : Nat} {s : St} (h : StoreAt w sb mb s) : mb < w.heap.size := h.own.lt
theorem StoreAt.ne {w : World} {sb mb : Nat} {s : St} (h : StoreAt w sb mb s) : sb ≠ mb := by
  rintro rfl
  obtain ⟨es, clock, hb, _⟩ := h.own
  rw [h.blk] at hb; cases hb
theorem StoreAt.below {w w' : World} {sb mb : Nat} {s : St} (h : StoreAt w sb mb s) (hb : Below w.heap.size w w') : StoreAt w' sb mb s :=
  ⟨(hb.block _ h.lt).trans h.blk, h.own.kept (row := none) ⟨hb.os, hb.tape, hb.output, hb.size, fun k hk _ => hb.block k hk⟩ (by simp), h.ok⟩

/-- Nothing that lay there has turned but what lies in these two blocks. -/
structure But2 (sb mb : Nat) (w w' : World) : Prop where
  os : w'.os = w.os
  tape : w'.tape = w.tape
  output : w'.output = w.output
  size : w.heap.size ≤ w'.heap.size
  block : ∀ k, k < w.heap.size → k ≠ sb → k ≠ mb → w'.heap[k]? = w.heap[k]?
theorem But2.of {sb mb : Nat} {w w' : World} (h : Below w.heap.size w w') : But2 sb mb w w' := ⟨h.os, h.tape, h.output, h.size, fun k hk _ _ => h.block k hk⟩
theorem But2.trans {sb mb : Nat} {a b c : World} (h : But2 sb mb a b) (k : But2 sb mb b c) : But2 sb mb a c :=
  ⟨k.os.trans h.os, k.tape.trans h.tape, k.output.trans h.output, Nat.le_trans h.size k.size, fun i hi h1 h2 => (k.block i (Nat.lt_of_lt_of_le hi h.size) h1 h2).trans (h.block i hi h1 h2)⟩
theorem But2.set {sb mb : Nat} (w : World) (i : Nat) (x : Value) : But2 sb mb w (w.setCell ⟨sb, i, none⟩ x) :=
  ⟨rfl, rfl, rfl, by simp [World.setCell], fun k _ h1 _ => (grown_set w sb i x).block k (by assumption) (fun e => h1 (Option.some.inj e))⟩
theorem But2.below {sb mb B : Nat} {a b c : World} (h : Below B a b) (k : But2 sb mb b c) (h1 : B ≤ sb) (h2 : B ≤ mb) (hB : B ≤ b.heap.size) : Below B a c :=
  h.trans ⟨k.os, k.tape, k.output, k.size, fun i hi => k.block i (by omega) (by omega) (by omega)⟩

section
variable {w : World} {sb mb : Nat} {s : St}
theorem StoreAt.c0 (h : StoreAt w sb mb s) : w.cell? ⟨sb, 0, none⟩ = some (.map (some mb)) := by simp [World.cell?, h.blk]
theorem StoreAt.c1 (h : StoreAt w sb mb s) : w.cell? ⟨sb, 1, none⟩ = some (S s.head) := by simp [World.cell?, h.blk]
theorem StoreAt.c2 (h : StoreAt w sb mb s) : w.cell? ⟨sb, 2, none⟩ = some (.int .i64 s.day) := by simp [World.cell?, h.blk]
theorem StoreAt.c3 (h : StoreAt w sb mb s) : w.cell? ⟨sb, 3, none⟩ = some (.bool s.off) := by simp [World.cell?, h.blk]
theorem StoreAt.c4 (h : StoreAt w sb mb s) : w.cell? ⟨sb, 4, none⟩ = some (.int .i64 s.cut) := by simp [World.cell?, h.blk]
theorem StoreAt.fz (h : StoreAt w sb mb s) (i : Nat) : w.frozen? ⟨sb, i, none⟩ = false := by simp [World.frozen?, h.blk]
theorem StoreAt.setBlk (h : StoreAt w sb mb s) (i : Nat) (x : Value) : (w.setCell ⟨sb, i, none⟩ x).heap[sb]? = some (.cells ((stCells mb s).setIfInBounds i x) 128 (0, 0)) := heap_setCell_same w sb i (stCells mb s) 128 x h.blk
theorem StoreAt.ownSet (h : StoreAt w sb mb s) (i : Nat) (x : Value) : (w.setCell ⟨sb, i, none⟩ x).ownsMap Tryz.prog 9 objElem mb s.objs.length (mapD s.objs) := h.own.setCell (by exact fun e => h.ne e.symm) x
theorem StoreAt.setHead (h : StoreAt w sb mb s) {x : Str} (hx : x.length ≤ 20000) : StoreAt (w.setCell ⟨sb, 1, none⟩ (S x)) sb mb { s with head := x } :=
  ⟨h.setBlk 1 _, h.ownSet 1 _, { h.ok with hd := hx }⟩
theorem StoreAt.setDay (h : StoreAt w sb mb s) {x : Int} (h0 : 0 ≤ x) (h1 : x ≤ 100000) : StoreAt (w.setCell ⟨sb, 2, none⟩ (.int .i64 x)) sb mb { s with day := x } :=
  ⟨h.setBlk 2 _, h.ownSet 2 _, { h.ok with day0 := h0, day1 := h1 }⟩
theorem StoreAt.setOff (h : StoreAt w sb mb s) (x : Bool) : StoreAt (w.setCell ⟨sb, 3, none⟩ (.bool x)) sb mb { s with off := x } :=
  ⟨h.setBlk 3 _, h.ownSet 3 _, { h.ok with }⟩
theorem StoreAt.setCut (h : StoreAt w sb mb s) {x : Int} (h0 : -1 ≤ x) (h1 : x ≤ 9223372036854775807) : StoreAt (w.setCell ⟨sb, 4, none⟩ (.int .i64 x)) sb mb { s with cut := x } :=
  ⟨h.setBlk 4 _, h.ownSet 4 _, { h.ok with cut0 := h0, cut1 := h1 }⟩
end

abbrev stP (sb : Nat) : Value := .pointer (some ⟨sb, 0, none⟩)


end Go.Proofs.YtpfohfihkmjnaaaGreatDoor
namespace Go.Proofs.YtpfohfihkmjnaaaGreatDoor
open Go.RowKit Go.Maps

def obV : Option Ob → Value
  | some o => .agg #[S o.text, .int .i64 o.day]
  | none => .agg #[.string ⟨#[]⟩, .int .i64 0]
theorem zeroOb (w : World) : (zeroValue 146).run Tryz.prog w = .ok (.agg #[.string ⟨#[]⟩, .int .i64 0]) w := by kernel_rfl
theorem keyStr {n : Str} (h : n.length ≤ 100000) : keyOf Tryz.prog 9 (S n) = some (.string n) := by
  have := WideMaps.keyOf_string_mk Tryz.underlying9 (s := ⟨n.toArray⟩) (by show n.toArray.size ≤ _; unfold maxLen; simp; omega)
  exact this
theorem look_any {w : World} {sb mb : Nat} {s : St} (h : StoreAt w sb mb s) (n : Str) (hn : n.length ≤ 100000) :
    (Instr.lookup 126 (.map (some mb)) (S n) true).run Tryz.prog w = .ok (.tuple #[obV (getO s.objs n), .bool (getO s.objs n).isSome]) w := by
  obtain ⟨v, ps, hrun, hv⟩ := h.own.look_ok (string_keyed Tryz.underlying9) Tryz.underlying126 (zeroOb w) (zd := obT [] 0) (zp := []) (objElem_mk (t := []) (by decide)) (keyStr hn)
  rw [hrun, has_mapD]
  rw [at_mapD] at hv
  cases hg : getO s.objs n with
  | none => rw [hg] at hv; rw [objElem_inv hv]; rfl
  | some o => rw [hg] at hv; rw [objElem_inv hv]; rfl

set_option maxRecDepth 20000 in
theorem get_any (E : Nat → Addr) (B : Nat) (sb mb : Nat) (s : St) (n : Str) (w : World) (hE : Errs [6] E B w) (h : StoreAt w sb mb s) (hn : n.length ≤ 100000) :
    Calls Tryz.prog 95 #[stP sb, S n] w fun e w' => ∃ ev, e = .returned (.tuple #[S (((getO s.objs n).map (·.text)).getD []), ev]) ∧ ErV E w' ev (if (getO s.objs n).isSome then .nil else .bare 6) ∧ Below w.heap.size w w' := by
  have v6 := fun o => (hE.below' ((Below.refl _ w).alloc (Nat.le_refl _) o) hE.le).var 6 (by decide)
  simp only [errG] at v6
  have v6 := v6 (.cells #[.string ⟨#[]⟩, .int .i64 0] 146)
  have c0 := h.c0
  have hl := look_any h n hn
  cases hg : getO s.objs n with
  | none =>
    rw [hg] at hl
    simp only [obV, Option.isSome_none] at hl
    clear hg
    go_enter Tryz.func95, Tryz.ntmps95
    go_wp2_with fail
    go_quiet (fail)
    go_wp2_with fail
    go_ret2
    exact ⟨_, rfl, ⟨by decide, rfl⟩, Bdn ((Below.refl _ _).alloc (Nat.le_refl _) _) _⟩
  | some o =>
    rw [hg] at hl
    simp only [obV, Option.isSome_some] at hl
    clear hg
    go_enter Tryz.func95, Tryz.ntmps95
    go_wp2_with fail
    go_ret2
    exact ⟨_, rfl, rfl, (Below.refl _ _).alloc (Nat.le_refl _) _⟩

/-- Days on. -/
def nextBad (s : St) (n : Int) : Prop := n < 0 ∨ 100000 - s.day < n
instance (s : St) (n : Int) : Decidable (nextBad s n) := inferInstanceAs (Decidable (_ ∨ _))
def nextS (s : St) (n : Int) : St := if nextBad s n then s else { s with day := s.day + n }
/-- How much is written, and what is then. -/
def wrote (s : St) (n : Nat) : Nat := if s.cut < 0 then n else if s.cut < n then s.cut.toNat else n
def aft (s : St) (n : Nat) : St := if s.cut < 0 then s else if s.cut < n then { s with off := true } else { s with cut := s.cut - n }
theorem wrote_le (s : St) (n : Nat) : wrote s n ≤ n := by unfold wrote; split <;> (try split) <;> omega
set_option maxRecDepth 20000 in
theorem write_any (sb mb : Nat) (s : St) (n : Nat) (w : World) (h : StoreAt w sb mb s) (hn : n ≤ 100000) :
    Calls Tryz.prog 85 #[stP sb, .int .i64 (n : Int)] w fun e w' => e = .returned (.int .i64 (wrote s n : Int)) ∧ StoreAt w' sb mb (aft s n) ∧ But2 sb mb w w' := by
  have c3 := h.c3
  have c4 := h.c4
  have f3 := h.fz 3
  have f4 := h.fz 4
  have hc0 := h.ok.cut0
  have hc1 := h.ok.cut1
  unfold wrote aft
  by_cases h0 : s.cut < 0
  · simp only [h0, if_true]
    have H := Lib.hid h; clear h
    go_enter Tryz.func85, Tryz.ntmps85
    go_wp2_with fail
    go_ret
    exact ⟨rfl, H.out, .of (Below.refl _ _)⟩
  by_cases h1 : s.cut < n
  · simp only [h0, h1, if_true, if_false]
    have hk : ((s.cut.toNat : Nat) : Int) = s.cut := by omega
    have g0 : 0 ≤ s.cut := by omega
    rw [hk]
    have H := Lib.hid (h.setOff true)
    have hd : (w.setCell ⟨sb, 3, none⟩ (.bool true)).cell? ⟨sb, 4, none⟩ = some (.int .i64 s.cut) := H.out.c4
    clear h h0 hk
    go_enter Tryz.func85, Tryz.ntmps85
    go_wp2_with fail
    go_ret
    exact ⟨rfl, H.out, .set _ _ _⟩
  · simp only [h0, h1, if_false]
    have g0 : 0 ≤ s.cut := by omega
    have g1 : (n : Int) ≤ s.cut := by omega
    have H := Lib.hid (h.setCut (x := s.cut - n) (by omega) (by omega))
    clear h h0 h1
    go_enter Tryz.func85, Tryz.ntmps85
    go_wp2_with fail
    go_ret
    exact ⟨rfl, H.out, .set _ _ _⟩

/-- The head is swapped. -/
def swapE (s : St) (old text : Str) : Er := if 20000 < text.length then .bare 2 else if s.off = true then .bare 12 else if s.head ≠ old then .bare 11 else if wrote s text.length < text.length then .bare 12 else .nil
def swapS (s : St) (old text : Str) : St := if 20000 < text.length ∨ s.off = true ∨ s.head ≠ old then s else if wrote s text.length < text.length then aft s text.length else { aft s text.length with head := text }
end Go.Proofs.YtpfohfihkmjnaaaGreatDoor
namespace Go.Proofs.YtpfohfihkmjnaaaGreatDoor
open Go.RowKit

section
variable {α : Type} {enc : α → List Value} {e : TypeId} {sz B : Nat} {w : World} {v : Value} {l : List α}

theorem Own.open (h : Own enc e sz B w v l) (hpos : 0 < l.length) : ∃ g cap cur, v = .slice (some ⟨g, 0, none⟩) l.length cap ∧ B ≤ g ∧ w.heap[g]? = some (.cells cur e (0, 0)) ∧ l.length ≤ cap ∧ cap ≤ maxLen ∧ cur.size = cap * sz ∧ cur.toList.take (l.length * sz) = l.flatMap enc := by
  obtain ⟨_, h2⟩ := h
  rcases h2 with ⟨_, h0⟩ | ⟨g, cap, cur, h⟩
  · omega
  · exact ⟨g, cap, cur, h⟩
theorem Own.mk {g cap n : Nat} {cur : Array Value} (hen : Enc enc sz) (hn : l.length = n) (hB : B ≤ g) (hg : w.heap[g]? = some (.cells cur e (0, 0))) (hc : n ≤ cap) (hm : cap ≤ maxLen) (hs : cur.size = cap * sz) (ht : cur.toList.take (n * sz) = l.flatMap enc) : Own enc e sz B w (.slice (some ⟨g, 0, none⟩) n cap) l := by
  subst hn
  exact ⟨flat_length hen l, .inr ⟨g, cap, cur, rfl, hB, hg, hc, hm, hs, ht⟩⟩

/-- s[:k] of such a slice. -/
theorem Own.cut {g n cap k : Nat} (hen : Enc enc sz) (h : Own enc e sz B w (.slice (some ⟨g, 0, none⟩) n cap) l) (hk : k ≤ l.length) (hpos : 0 < l.length) : Own enc e sz B w (.slice (some ⟨g, 0, none⟩) k cap) (l.take k) := by
  obtain ⟨g', cap', cur, hv, hB, hg, hc, hm, hs, ht⟩ := h.open hpos
  cases hv
  refine Own.mk hen (by simp; omega) hB hg (by omega) hm hs ?_
  have : l.flatMap enc = (l.take k).flatMap enc ++ (l.drop k).flatMap enc := by rw [← List.flatMap_append, List.take_append_drop]
  have hl : ((l.take k).flatMap enc).length = k * sz := by rw [flat_length hen, List.length_take, Nat.min_eq_left hk]
  have h1 : (cur.toList.take (l.length * sz)).take (k * sz) = cur.toList.take (k * sz) := by
    rw [List.take_take, Nat.min_eq_left (Nat.mul_le_mul_right _ hk)]
  rw [← h1, ht, this, ← hl, List.take_left]

theorem frozen_row {g i : Nat} {cur : Array Value} (hg : w.heap[g]? = some (.cells cur e (0, 0))) : w.frozen? ⟨g, i, none⟩ = false := by
  simp [World.frozen?, hg]
end

theorem flat_one {α : Type} (val : α → Value) (l : List α) : l.flatMap (fun x => [val x]) = l.map val := by
  induction l with
  | nil => rfl
  | cons x r ih => simp [ih]

/-- One element of one cell is written. -/
theorem Own.set1 {α : Type} {val : α → Value} {e : TypeId} {B : Nat} {w : World} {g n cap i : Nat} {l : List α} (hen : Enc (fun x => [val x]) 1) (h : Own (fun x => [val x]) e 1 B w (.slice (some ⟨g, 0, none⟩) n cap) l) (hi : i < l.length) (x : α) :
    Own (fun x => [val x]) e 1 B (w.setCell ⟨g, i, none⟩ (val x)) (.slice (some ⟨g, 0, none⟩) n cap) (l.set i x) := by
  obtain ⟨g', cap', cur, hv, hB, hg, hc, hm, hs, ht⟩ := h.open (by omega)
  cases hv
  have hlt : g < w.heap.size := (Array.getElem?_eq_some_iff.1 hg).1
  refine Own.mk (cur := cur.setIfInBounds i (val x)) hen (by simp) hB ?_ (by omega) hm (by simpa using hs) ?_
  · simp only [World.setCell, Array.getElem?_modify, hg]
    rfl
  · rw [flat_one] at ht ⊢
    simp only [Nat.mul_one] at ht ⊢
    rw [Array.toList_setIfInBounds, List.take_set, ht, List.map_set]

/-- The cells behind are cleared: what lies ahead stays. -/
theorem Own.setRow {α : Type} {enc : α → List Value} {e : TypeId} {sz B : Nat} {w : World} {g n cap k : Nat} {l : List α} {cs : Array Value} (hen : Enc enc sz) (h : Own enc e sz B w (.slice (some ⟨g, 0, none⟩) n cap) l) (hpos : 0 < l.length) (hk : k ≤ l.length) (hsz : cs.size = cap * sz)
    (ht : ∀ cur, w.heap[g]? = some (.cells cur e (0, 0)) → cs.toList.take (k * sz) = cur.toList.take (k * sz)) : Own enc e sz B (w.setRow g cs) (.slice (some ⟨g, 0, none⟩) k cap) (l.take k) := by
  have h' := h.cut (k := k) hen hk hpos
  obtain ⟨g', cap', cur, hv, hB, hg, hc, hm, hs, ht'⟩ := h.open hpos
  cases hv
  refine Own.mk (cur := cs) hen (by simp; omega) hB (setRow_heap w g cur cs e _ hg) (by omega) hm hsz ?_
  rw [ht cur hg]
  have : l.flatMap enc = (l.take k).flatMap enc ++ (l.drop k).flatMap enc := by rw [← List.flatMap_append, List.take_append_drop]
  have hl : ((l.take k).flatMap enc).length = k * sz := by rw [flat_length hen, List.length_take, Nat.min_eq_left hk]
  have h1 : (cur.toList.take (l.length * sz)).take (k * sz) = cur.toList.take (k * sz) := by
    rw [List.take_take, Nat.min_eq_left (Nat.mul_le_mul_right _ hk)]
  rw [← h1, ht', this, ← hl, List.take_left]
theorem Bset {B : Nat} {a w : World} (h : Below B a w) {g : Nat} (hg : B ≤ g) (cs : Array Value) : Below B a (w.setRow g cs) :=
  h.trans ⟨rfl, rfl, rfl, by simp [World.setRow], fun k hk => setRow_other w g k cs (by omega)⟩

/-- clear(s[k:]) of such a slice. -/
theorem run_clear_own {α : Type} {P : Program} {enc : α → List Value} {t e : TypeId} {sz bytes B : Nat} {w : World} {g n cap k : Nat} {l : List α} (hE : ElemInfo P t e sz bytes) (hen : Enc enc sz) (hz1 : ∀ z, (P.info? e).bind (·.zero) = some z → ∀ u ∈ z.cells.toList, u.oneCell' = true)
    (h : Own enc e sz B w (.slice (some ⟨g, 0, none⟩) n cap) l) (hk : k < l.length) (c : Nat) :
    ∃ cs : Array Value, (∀ ty, (Builtin.clear_ #[t] ty #[.slice (some ⟨g, k * sz, none⟩) (n - k) c]).run P w = .ok (.tuple #[]) (w.setRow g cs)) ∧ Own enc e sz B (w.setRow g cs) (.slice (some ⟨g, 0, none⟩) k cap) (l.take k) := by
  obtain ⟨i, z, ht, hi, hz, hsize, hby, hzs, hsz⟩ := hE
  obtain ⟨g', cap', cur, hv, hB, hg, hc, hm, hs, ht'⟩ := h.open (by omega)
  cases hv
  have hnz : (Builtin.zeroCells z.cells (l.length - k)).size = (l.length - k) * sz := by rw [size_zeroCells, hzs]
  have hone : ∀ u ∈ (Builtin.zeroCells z.cells (l.length - k)).toList, u.oneCell' = true := by
    intro u hu
    have hz' := hz1 z (by rw [hi]; exact hz)
    obtain ⟨j, hj, rfl⟩ := Array.getElem_of_mem (Array.mem_def.2 hu)
    simp only [Builtin.zeroCells, Array.getElem_map, Array.getElem_range]
    rw [getElem!_pos z.cells (j % z.cells.size) (Nat.mod_lt _ (by omega))]
    exact hz' _ (by simp)
  have hmul : k * sz + (l.length - k) * sz = l.length * sz := by rw [← Nat.add_mul]; congr 1; omega
  have hle : l.length * sz ≤ cap * sz := Nat.mul_le_mul_right _ hc
  have hrun := run_storeCells_at P g (k * sz) e (Builtin.zeroCells z.cells (l.length - k)).toList 0 cur w hg (by rw [Array.length_toList, hnz]; omega) hone
  simp only [Nat.add_zero] at hrun
  refine ⟨(cur.toList.take (k * sz) ++ (Builtin.zeroCells z.cells (l.length - k)).toList ++ cur.toList.drop (k * sz + (Builtin.zeroCells z.cells (l.length - k)).toList.length)).toArray, fun ty => ?_, h.setRow hen (by omega) (by omega) ?_ ?_⟩
  · obtain ⟨d, hd⟩ : ∃ d, l.length - k = d + 1 := ⟨l.length - k - 1, by omega⟩
    rw [hd] at hrun ⊢
    simp [Builtin.clear_, run_underlying ht, zeroValue, typeInfo, hi, hz, hrun]
  · simp [hnz, Array.length_toList]; omega
  · intro cur' hg'
    rw [hg] at hg'
    cases hg'
    simp only [List.append_assoc]
    rw [List.take_append_of_le_length (by simp; omega), List.take_take, Nat.min_self]
end Go.Proofs.YtpfohfihkmjnaaaGreatDoor
namespace Go.Proofs.YtpfohfihkmjnaaaGreatDoor
open Go.RowKit

/-- What abides turns of blocks from B on that hold no cells. -/
def From {β : Type} (B : Nat) (I : β → World → Prop) : Prop :=
  ∀ s W W' row, I s W → W.grownBy W' row → (∀ r, row = some r → B ≤ r ∧ ∃ o : Obj, W.heap[r]? = some o ∧ o.isCells = false) → I s W'
theorem From.turn {β : Type} {B : Nat} {I : β → World → Prop} (h : From B I) {s : β} {W : World} {l : Nat} {o : Obj} (o' : Obj) (hs : I s W) (hl : W.heap[l]? = some o) (ho : o.isCells = false) (hB : B ≤ l) : I s (W.putObj l o') :=
  h s W _ (some l) hs (grownBy_putObj' W l o') (fun r e => by cases e; exact ⟨hB, o, hl, ho⟩)
theorem From.new {β : Type} {B : Nat} {I : β → World → Prop} (h : From B I) {s : β} {W : World} (o : Obj) (hs : I s W) : I s (W.alloc o) :=
  h s W _ none hs (World.grownBy_alloc W o none) (fun r e => by cases e)

variable {F : Fence} {n : Nat} {P : Program}

theorem rangeAll {α : Type} {g : Operand} {ps : Array Tmp} {assign body : Code} {Q : Exit → Act → World → Prop} {a : Act} {w : World}
    (hro : F.round = none) (h1 : 1 ≤ n) {gf : Nat} {lb : Array Value} (hg : a.eval g = .func (.func gf) #[] lb) (hFg : F.fn gf) (eg : ∀ args w, (callFunc gf args).run P w = .ok (.enter gf args) w)
    {enc : α → Value} {G : List α → Prop} {N : Nat} {w0 : World} (hseq : SeqGives F (n - 1) P gf lb enc G N w0) (hb0 : Below w0.heap.size w0 w) (hps : ps.size = 1)
    (I : List α → World → Prop) (hI : From w.heap.size I) (h0 : I [] w) (M : List α × α × Act → World → Prop) (hM : From w.heap.size M)
    (hassign : ∀ (l : Nat) (pre : List α) (x : α) (W : World), I pre W → pre.length < N →
      assign.wpIn (F.inRound l) (n - 1 - 1) P (Exit.then (fun a₁ W₁ => KeepsOthers W W₁ ∧ M (pre, x, a₁) W₁) (fun _ _ _ => False)) { tmps := (ps.zip #[enc x]).foldl (fun t (p, v) => t.setIfInBounds p v) a.tmps, defers := [] } W)
    (hbody : ∀ (l : Nat) (pre : List α) (x : α) (a₁ : Act) (W : World), M (pre, x, a₁) W → body.wpIn (F.inRound l) (n - 1 - 1) P (fun e _ W' => e = .normal ∧ KeepsOthers W W' ∧ I (pre ++ [x]) W') a₁ W)
    (hdone : ∀ (D : Nat) (xs : List α) (W : World), G xs → I xs W → w.heap.size ≤ D → W.heap[D]? = some (.deferred (some [])) → Q .normal { a with defers := { target := .collected D, args := #[] } :: a.defers } W) :
    (Code.rangeFunc g ps assign body).wpIn F n P Q a w := by
  refine wpIn_rangeFunc fun fn hfn => ?_
  rw [hro]
  generalize hDs : w.heap.size = D at *
  obtain ⟨rec, hrec⟩ : ∃ rec : LoopState → Loop, rec = fun st => { state := st, pending := none, fn, tmps := a.tmps, params := ps, assign, body, defers := D } := ⟨_, rfl⟩
  have rst : ∀ st, (rec st).state = st := fun st => by rw [hrec]
  have rps : ∀ st, (rec st).params = ps := fun st => by rw [hrec]
  have rbusy : ∀ st st', { rec st with state := st' } = rec st' := fun st st' => by rw [hrec]
  obtain ⟨W1, hW1⟩ : ∃ W1, (w.alloc (.deferred (some []))).alloc (.loop (rec .ready)) = W1 := ⟨_, rfl⟩
  have hL1 : W1.heap[D + 1]? = some (.loop (rec .ready)) := by
    rw [← hW1, ← hDs]
    have h := World.alloc_heap_new (w.alloc (.deferred (some []))) (.loop (rec .ready))
    rwa [World.size_alloc] at h
  have hK1 : W1.heap[D]? = some (.deferred (some [])) := by
    rw [← hW1, ← hDs]
    exact (Below.heap_alloc _ _ _ (by simp)).trans (World.alloc_heap_new w _)
  have hb1 : Below w0.heap.size w0 W1 := by
    rw [← hW1]; exact (hb0.alloc hb0.size _).alloc (by have := hb0.size; simp; omega) _
  have hs1 : D ≤ W1.heap.size := by rw [← hW1]; simp; omega
  have hI1 : I [] W1 := by rw [← hW1]; exact hI.new _ (hI.new _ h0)
  refine ⟨D + 1, [{ target := .collected D, args := #[] }], W1, { target := .fn (.func gf) lb, args := #[.func (.yield (D + 1)) #[] #[]] }, W1, gf, #[.func (.yield (D + 1)) #[] #[]] ++ lb, W1, ?_, ?_, ?_, ?_, fun _ => h1, ?_⟩
  · rw [← hW1, hrec, ← hDs]
    exact run_enterLoop_outer _ _ _ _ _
  · simp only [resolve, hg]
    simp [go_sem]
  · intro f' hf'
    simp [Target.leads] at hf'
    subst hf'
    exact hFg
  · simp [invoke, go_sem, eg]
  refine (hseq (D + 1) (fun pre W => I pre W ∧ W.heap[D + 1]? = some (.loop (rec .ready)) ∧ W.heap[D]? = some (.deferred (some []))) W1 hb1 ?_ ?_ ⟨hI1, hL1, hK1⟩).mono ?_
  · rintro s A B row ⟨hi, hl, hk⟩ hg' hr
    refine ⟨hI s A B row hi hg' (fun r e => ?_), (grownBy_keeps hg' (fun r e => (hr r e).2) hl rfl).trans hl, (grownBy_keeps hg' (fun r e => (hr r e).2) hk rfl).trans hk⟩
    obtain ⟨h2, o, ho, hw⟩ := hr r e
    exact ⟨Nat.le_trans hs1 h2, o, ho, Obj.not_cells_of_walk hw⟩
  · rintro pre x W ⟨hi, hl, hk⟩ hlen
    refine ⟨fn, _, assign, body, ?_, roundIn_of_wpIn hfn (wpIn_mono (hassign (D + 1) pre x W hi hlen) ?_)⟩
    · have hy := run_yield (P := P) (args := #[enc x]) hl (by rw [rps, hps]; rfl)
      rw [hrec] at hy
      exact hy
    · intro e a1 W0 hp
      cases e with
      | normal =>
        obtain ⟨hk0, hm⟩ := hp
        have hl := hk0.same _ _ hl rfl
        have hk := hk0.same _ _ hk rfl
        have hlt : D + 1 < W0.heap.size := (Array.getElem?_eq_some_iff.1 hl).1
        refine ⟨_, run_beginRound hl (rst _), ?_⟩
        rw [rbusy]
        have hl2 : (W0.putObj (D + 1) (.loop (rec .busy))).heap[D + 1]? = some (.loop (rec .busy)) := World.putObj_heap_same hlt
        have hk2 : (W0.putObj (D + 1) (.loop (rec .busy))).heap[D]? = some (.deferred (some [])) := (World.putObj_heap_other (by omega)).trans hk
        have hw2 : KeepsWalks W0 (W0.putObj (D + 1) (.loop (rec .busy))) := KeepsWalks.putObj _ hl rfl
        refine wpIn_mono (hbody _ pre x a1 _ (hM.turn _ hm hl rfl (by omega))) ?_
        rintro e a3 W3 ⟨rfl, hk3, hi3⟩
        have hl3 := hk3.same _ _ hl2 rfl
        have hr := run_endRound (P := P) none hl3
        have hfin : { rec .busy with state := if (none : Option Code).isNone then LoopState.ready else .done, pending := none } = rec .ready := by rw [hrec]; rfl
        rw [hfin] at hr
        exact ⟨_, _, hr, rfl, ⟨hI.turn _ hi3 hl3 rfl (by omega), World.putObj_heap_same (Array.getElem?_eq_some_iff.1 hl3).1, (World.putObj_heap_other (by omega)).trans (hk3.same _ _ hk2 rfl)⟩, ((hk0.walks.trans hw2).trans hk3.walks).trans (KeepsWalks.putObj _ hl3 rfl)⟩
      | _ => exact hp.elim
  · rintro e W2 ⟨⟨v, rfl⟩, xs, hG, hi, hl, hk⟩
    have hend := run_endLoop (P := P) hl (by rw [rst]; simp)
    have hp : (rec .ready).pending = none := by rw [hrec]
    rw [hp] at hend
    exact ⟨none, _, hend, hdone D xs _ hG (hI.turn _ hi hl rfl (by omega)) (Nat.le_refl _) ((World.putObj_heap_other (by omega)).trans hk)⟩
end Go.Proofs.YtpfohfihkmjnaaaGreatDoor
namespace Go.Proofs.YtpfohfihkmjnaaaGreatDoor
open Go.RowKit Go.Maps

abbrev encO (o : Ob) : List Value := [S o.name, S o.text, .int .i64 o.day]
theorem encO_enc : Enc encO 3 := fun x => ⟨rfl, by simp [Value.oneCell']⟩
abbrev modCells (v : Value) (s : St) : Array Value := #[v, S s.head, .int .i64 s.day, .bool s.off, .int .i64 s.cut]

/-- The model s lies in block xb, its objects in a row of the call's own. -/
structure ModAt (w : World) (B xb : Nat) (v : Value) (s : St) : Prop where
  blk : w.heap[xb]? = some (.cells (modCells v s) 131 (0, 0))
  own : Own encO 153 3 B w v s.objs
  ok : s.Ok

section
variable {w w' : World} {B xb : Nat} {v : Value} {s : St}
theorem ModAt.lt (h : ModAt w B xb v s) : xb < w.heap.size := (Array.getElem?_eq_some_iff.1 h.blk).1
theorem ModAt.c0 (h : ModAt w B xb v s) : w.cell? ⟨xb, 0, none⟩ = some v := by simp [World.cell?, h.blk]
theorem ModAt.c1 (h : ModAt w B xb v s) : w.cell? ⟨xb, 1, none⟩ = some (S s.head) := by simp [World.cell?, h.blk]
theorem ModAt.c2 (h : ModAt w B xb v s) : w.cell? ⟨xb, 2, none⟩ = some (.int .i64 s.day) := by simp [World.cell?, h.blk]
theorem ModAt.c3 (h : ModAt w B xb v s) : w.cell? ⟨xb, 3, none⟩ = some (.bool s.off) := by simp [World.cell?, h.blk]
theorem ModAt.c4 (h : ModAt w B xb v s) : w.cell? ⟨xb, 4, none⟩ = some (.int .i64 s.cut) := by simp [World.cell?, h.blk]
theorem ModAt.fz (h : ModAt w B xb v s) (i : Nat) : w.frozen? ⟨xb, i, none⟩ = false := by simp [World.frozen?, h.blk]
theorem ModAt.below (h : ModAt w B xb v s) (hb : Below w.heap.size w w') : ModAt w' B xb v s := ⟨(hb.block _ h.lt).trans h.blk, h.own.below hb, h.ok⟩
theorem own_ne {α : Type} {enc : α → List Value} {e : TypeId} {sz B : Nat} {v : Value} {l : List α} (h : Own enc e sz B w v l) {k : Nat} {o : Obj} (hk : w.heap[k]? = some o) (ho : ∀ cs, o ≠ .cells cs e (0, 0)) : v.ownBlock ≠ some k := by
  obtain ⟨_, h2⟩ := h
  rcases h2 with ⟨rfl, _⟩ | ⟨g, cap, cur, rfl, _, hg, _⟩
  · simp [Value.ownBlock]
  · intro e1
    have : g = k := by simpa [Value.ownBlock] using e1
    subst this
    rw [hk] at hg
    cases hg
    exact ho _ rfl
theorem own_but {α : Type} {enc : α → List Value} {e : TypeId} {sz B a b : Nat} {v : Value} {l : List α} (h : Own enc e sz B w v l) (h1 : v.ownBlock ≠ some a) (h2 : v.ownBlock ≠ some b) (hb : But2 a b w w') : Own enc e sz B w' v l := by
  obtain ⟨h0, h3⟩ := h
  refine ⟨h0, ?_⟩
  rcases h3 with h4 | ⟨g, cap, cur, rfl, hB, hg, rest⟩
  · exact .inl h4
  · have hlt := (Array.getElem?_eq_some_iff.1 hg).1
    exact .inr ⟨g, cap, cur, rfl, hB, (hb.block g hlt (fun e1 => h1 (by rw [e1]; rfl)) (fun e1 => h2 (by rw [e1]; rfl))).trans hg, rest⟩
theorem ModAt.apart (h : ModAt w B xb v s) : v.ownBlock ≠ some xb := own_ne h.own h.blk (fun cs e => by cases e)
theorem ModAt.setBlk (h : ModAt w B xb v s) (i : Nat) (x : Value) : (w.setCell ⟨xb, i, none⟩ x).heap[xb]? = some (.cells ((modCells v s).setIfInBounds i x) 131 (0, 0)) := heap_setCell_same w xb i (modCells v s) 131 x h.blk
theorem ModAt.ownSet (h : ModAt w B xb v s) (i : Nat) (x : Value) : Own encO 153 3 B (w.setCell ⟨xb, i, none⟩ x) v s.objs := own_but h.own h.apart h.apart (But2.set (mb := xb) w i x)
theorem ModAt.setHead (h : ModAt w B xb v s) {x : Str} (hx : x.length ≤ 20000) : ModAt (w.setCell ⟨xb, 1, none⟩ (S x)) B xb v { s with head := x } :=
  ⟨h.setBlk 1 _, h.ownSet 1 _, { h.ok with hd := hx }⟩
theorem ModAt.setDay (h : ModAt w B xb v s) {x : Int} (h0 : 0 ≤ x) (h1 : x ≤ 100000) : ModAt (w.setCell ⟨xb, 2, none⟩ (.int .i64 x)) B xb v { s with day := x } :=
  ⟨h.setBlk 2 _, h.ownSet 2 _, { h.ok with day0 := h0, day1 := h1 }⟩
theorem ModAt.setOff (h : ModAt w B xb v s) (x : Bool) : ModAt (w.setCell ⟨xb, 3, none⟩ (.bool x)) B xb v { s with off := x } :=
  ⟨h.setBlk 3 _, h.ownSet 3 _, { h.ok with }⟩
theorem ModAt.setCut (h : ModAt w B xb v s) {x : Int} (h0 : -1 ≤ x) (h1 : x ≤ 9223372036854775807) : ModAt (w.setCell ⟨xb, 4, none⟩ (.int .i64 x)) B xb v { s with cut := x } :=
  ⟨h.setBlk 4 _, h.ownSet 4 _, { h.ok with cut0 := h0, cut1 := h1 }⟩
end

theorem newMod_any (w : World) :
    Calls Tryz.prog 31 #[] w fun e w' => ∃ xb, e = .returned (stP xb) ∧ w.heap.size ≤ xb ∧ ModAt w' w.heap.size xb (.slice none 0 0) St.new ∧ Below w.heap.size w w' := by
  go_enter Tryz.func31, Tryz.ntmps31
  go_wp2_with fail
  go_ret
  refine ⟨w.heap.size, rfl, Nat.le_refl _, ⟨?_, Own.nil encO _ 3 _ _, { ris := List.Pairwise.nil, day0 := Int.le_refl _, day1 := by decide, cut0 := Int.le_refl _, cut1 := by decide, txt := fun _ h => (by cases h), nam := fun _ h => (by cases h), num := Nat.zero_le _, hd := Nat.zero_le _ }⟩, (Below.refl _ _).alloc (Nat.le_refl _) _⟩
  exact heap_alloc_new w (.cells (modCells (.slice none 0 0) St.new) 131)

set_option maxRecDepth 20000 in
theorem written_any (B xb : Nat) (v : Value) (s : St) (n : Nat) (w : World) (h : ModAt w B xb v s) (hn : n ≤ 100000) :
    Calls Tryz.prog 88 #[stP xb, .int .i64 (n : Int)] w fun e w' => e = .returned (.int .i64 (wrote s n : Int)) ∧ ModAt w' B xb v (aft s n) ∧ But2 xb xb w w' := by
  have c3 := h.c3
  have c4 := h.c4
  have f3 := h.fz 3
  have f4 := h.fz 4
  have hc0 := h.ok.cut0
  have hc1 := h.ok.cut1
  unfold wrote aft
  by_cases h0 : s.cut < 0
  · simp only [h0, if_true]
    have H := Lib.hid h; clear h
    go_enter Tryz.func88, Tryz.ntmps88
    go_wp2_with fail
    go_ret
    exact ⟨rfl, H.out, .of (Below.refl _ _)⟩
  by_cases h1 : s.cut < n
  · simp only [h0, h1, if_true, if_false]
    have hk : ((s.cut.toNat : Nat) : Int) = s.cut := by omega
    have g0 : 0 ≤ s.cut := by omega
    rw [hk]
    have H := Lib.hid (h.setOff true)
    have hd : (w.setCell ⟨xb, 3, none⟩ (.bool true)).cell? ⟨xb, 4, none⟩ = some (.int .i64 s.cut) := H.out.c4
    clear h h0 hk
    go_enter Tryz.func88, Tryz.ntmps88
    go_wp2_with fail
    go_ret
    exact ⟨rfl, H.out, .set _ _ _⟩
  · simp only [h0, h1, if_false]
    have g0 : 0 ≤ s.cut := by omega
    have g1 : (n : Int) ≤ s.cut := by omega
    have H := Lib.hid (h.setCut (x := s.cut - n) (by omega) (by omega))
    clear h h0 h1
    go_enter Tryz.func88, Tryz.ntmps88
    go_wp2_with fail
    go_ret
    exact ⟨rfl, H.out, .set _ _ _⟩

end Go.Proofs.YtpfohfihkmjnaaaGreatDoor
namespace Go.Proofs.YtpfohfihkmjnaaaGreatDoor
open Go.RowKit Go.Maps

theorem szOb (w : World) : (sizeOf 153).run Tryz.prog w = .ok 3 w := by kernel_rfl

/-- Where a name is. -/
def FindR (l : List Ob) (n : Str) (r : Int) : Prop := (∃ (k : Nat) (o : Ob), r = k ∧ l[k]? = some o ∧ o.name = n) ∨ (r = -1 ∧ getO l n = none)
theorem FindR.got {l : List Ob} {n : Str} {r : Int} (h : FindR l n r) (hr : Rising l) : (∃ (k : Nat) (o : Ob), r = k ∧ k < l.length ∧ l[k]? = some o ∧ o.name = n ∧ getO l n = some o) ∨ (r = -1 ∧ getO l n = none) := by
  rcases h with ⟨k, o, h1, h2, h3⟩ | h
  · exact .inl ⟨k, o, h1, (List.getElem?_eq_some_iff.1 h2).1, h2, h3, h3 ▸ getO_of_mem hr (List.mem_of_getElem? h2)⟩
  · exact .inr h

set_option maxRecDepth 20000 in
theorem findM_any (B xb : Nat) (v : Value) (s : St) (n : Str) (w : World) (h : ModAt w B xb v s) :
    Calls Tryz.prog 87 #[stP xb, S n] w fun e w' => ∃ r, e = .returned (.int .i64 r) ∧ FindR s.objs n r ∧ Below w.heap.size w w' := by
  obtain ⟨a, c, b, o, rfl, ha, -, hm, hx⟩ := h.own.at encO_enc
  unfold maxLen at hm
  have hn := h.ok.num
  have c0 := h.c0
  have H := Lib.hid h; clear h
  go_enter Tryz.func87, Tryz.ntmps87
  go_wp2_with fail
  go_loopw [5] (fun i wr => ∃ k : Nat, k ≤ s.objs.length ∧ i = .int .i64 k ∧ Hid (∀ j < k, ∀ x, s.objs[j]? = some x → x.name ≠ n) ∧ Below w.heap.size w wr) (fun i _ => s.objs.length - (intOf i).toNat)
  case atStart => exact ⟨0, by omega, rfl, Lib.hid fun j hj => absurd hj (by omega), Below.refl _ _⟩
  case round =>
    obtain ⟨k, hk, rfl, hj, hb⟩ := hrel
    have c0 := (hb.cell (World.block_lt_of_cell? w _ c0)).trans c0
    by_cases hlt : k < s.objs.length
    case neg =>
      have f : decide ((k : Int) < (s.objs.length : Int)) = false := by simp; omega
      go_wp2_with fail
      go_ret
      refine ⟨_, rfl, .inr ⟨rfl, getO_none.2 fun x hx => ?_⟩, hb⟩
      obtain ⟨j, hj'⟩ := List.getElem?_of_mem hx
      exact hj.out j (by have := (List.getElem?_eq_some_iff.1 hj').1; omega) x hj'
    obtain ⟨x, hxk⟩ := get_ex hlt
    have q0 := hx k x hxk 0 _ rfl
    have q0 := (hb.cell (World.block_lt_of_cell? w _ q0)).trans q0
    have i1 := idx_at (c := c) 3 Tryz.underlying129 szOb ha k hlt
    have f : (k : Int) < (s.objs.length : Int) := by omega
    simp only [Nat.add_zero] at q0
    have Hx := Lib.hid hxk; clear hxk
    by_cases e : x.name = n
    case pos =>
      have g : (x.name == n) = true := by simpa using e
      have HE := Lib.hid e; clear e
      go_wp2_with fail
      go_ret
      exact ⟨_, rfl, .inl ⟨k, x, rfl, Hx.out, HE.out⟩, hb⟩
    have g : (x.name == n) = false := by simpa using e
    have HE := Lib.hid e; clear e
    go_wp2_with fail
    refine ⟨⟨k + 1, by omega, by go_num, Lib.hid fun j hj' y hy => ?_, hb⟩, by simp [intOf]; omega⟩
    rcases Nat.lt_or_ge j k with h | h
    · exact hj.out j h y hy
    · obtain rfl : j = k := by omega
      rw [Hx.out] at hy
      cases hy
      exact HE.out

set_option maxRecDepth 20000 in
theorem getM_any (B xb : Nat) (v : Value) (s : St) (n : Str) (w : World) (h : ModAt w B xb v s) :
    Calls Tryz.prog 113 #[stP xb, S n] w fun e w' => e = .returned (.tuple #[S (((getO s.objs n).map (·.text)).getD []), .int .i64 (if (getO s.objs n).isSome then 0 else 6)]) ∧ Below w.heap.size w w' := by
  have H := Lib.hid h
  obtain ⟨a, c, b, o, rfl, ha, -, hm, hx⟩ := h.own.at encO_enc
  have hnum := h.ok.num
  unfold maxLen at hm
  clear h
  cases hg : getO s.objs n with
  | some y =>
    simp only [Option.map_some, Option.getD_some, Option.isSome_some, if_true]
    go_enter Tryz.func113, Tryz.ntmps113
    go_wp2_with fail
    refine (findM_any B xb _ s n _ H.out).mono ?_
    rintro e w1 ⟨r, rfl, hr, hb⟩
    rcases hr.got H.out.ok.ris with ⟨k, x, rfl, hk, hxk, hnm, hg2⟩ | ⟨rfl, hg2⟩
    · rw [hg] at hg2
      cases hg2
      have q1 := hx k y hxk 1 _ rfl
      have q1 := (hb.cell (World.block_lt_of_cell? w _ q1)).trans q1
      have i1 := idx_at (c := c) 3 Tryz.underlying129 szOb ha k hk
      have c0 := (H.out.below hb).c0
      have f : (k : Int) < (s.objs.length : Int) := by omega
      clear hxk hg hr
      go_wp2_with fail
      go_ret2
      exact ⟨rfl, hb⟩
    · rw [hg] at hg2; cases hg2
  | none =>
    simp only [Option.map_none, Option.getD_none, Option.isSome_none, Bool.false_eq_true, if_false]
    go_enter Tryz.func113, Tryz.ntmps113
    go_wp2_with fail
    refine (findM_any B xb _ s n _ H.out).mono ?_
    rintro e w1 ⟨r, rfl, hr, hb⟩
    rcases hr.got H.out.ok.ris with ⟨k, x, rfl, hk, hxk, hnm, hg2⟩ | ⟨rfl, hg2⟩
    · rw [hg] at hg2; cases hg2
    · clear hg hr
      go_wp2_with fail
      go_ret2
      exact ⟨rfl, hb⟩
end Go.Proofs.YtpfohfihkmjnaaaGreatDoor
