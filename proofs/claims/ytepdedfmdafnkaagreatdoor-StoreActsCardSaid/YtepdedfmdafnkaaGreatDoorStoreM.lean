/- A store in memory; the methods that only read a field or write one. -/
import Derived.Test.YtepdedfmdafnkaaGreatDoorStoreP
import Derived.Test.YtepdedfmdafnkaaGreatDoorErV
import Derived.Test.YtepdedfmdafnkaaGreatDoorOwnInts
import Derived.Test.YtepdedfmdafnkaaGreatDoorOwnSt
import Derived.Maps.OwnOps
namespace Go.Proofs.YtepdedfmdafnkaaGreatDoor
open Go.RowKit Go.Maps

/-- What a store's map holds, as it reads. -/
def objElem (v : Value) : Option (DataW Unit × List MemPlace) :=
  match v with
  | .agg cs => match cs.toList with
    | [.string s, .int .i64 d] => if s.size ≤ maxLen then some (obT s.data.toList d, []) else none
    | _ => none
  | _ => none
theorem objElem_mk {t : Str} {d : Int} (h : t.length ≤ maxLen) : objElem (.agg #[S t, .int .i64 d]) = some (obT t d, []) := by
  have : (ByteArray.mk t.toArray).size ≤ maxLen := by simpa [ByteArray.size] using h
  simp [objElem, this]
theorem objElem_inv {v : Value} {t : Str} {d : Int} {ps : List MemPlace} (h : objElem v = some (obT t d, ps)) : v = .agg #[S t, .int .i64 d] := by
  unfold objElem at h
  split at h
  · rename_i cs
    split at h
    · rename_i s d' hcs
      split at h
      · simp only [Option.some.injEq, Prod.mk.injEq, obT, DataW.agg.injEq, List.cons.injEq, DataW.lit.injEq, Lit.string.injEq, Lit.int.injEq, and_true, true_and] at h
        obtain ⟨⟨h1, h2⟩, -⟩ := h
        have : cs = #[.string s, .int .i64 d'] := by rw [← hcs]
        rw [this, h2]
        have hs : S t = .string s := by rw [← h1]
        rw [hs]
      · cases h
    · cases h
  · cases h

/-- A store, in plain words. -/
structure St where
  objs : List Ob
  head : Str
  day : Int
  off : Bool
  cut : Int
  deriving DecidableEq

def St.new : St := ⟨[], [], 0, false, -1⟩

abbrev stCells (mb : Nat) (s : St) : Array Value := #[.map (some mb), S s.head, .int .i64 s.day, .bool s.off, .int .i64 s.cut]

/-- What holds of each store. -/
structure St.Ok (s : St) : Prop where
  ris : Rising s.objs
  day0 : 0 ≤ s.day
  day1 : s.day ≤ 100000
  cut0 : -1 ≤ s.cut
  cut1 : s.cut ≤ 9223372036854775807
  txt : ∀ o ∈ s.objs, o.text.length ≤ 20000
  nam : ∀ o ∈ s.objs, o.name.length ≤ 20000
  num : s.objs.length ≤ 200
  hd : s.head.length ≤ 20000

/-- The store s lies in block sb, its map in block mb. -/
structure StoreAt (w : World) (sb mb : Nat) (s : St) : Prop where
  blk : w.heap[sb]? = some (.cells (stCells mb s) 78 (0, 0))
  own : w.ownsMap Tryz.prog 9 objElem mb s.objs.length (mapD s.objs)
  ok : s.Ok

theorem StoreAt.lt {w : World} {sb mb : Nat} {s : St} (h : StoreAt w sb mb s) : sb < w.heap.size := (Array.getElem?_eq_some_iff.1 h.blk).1
theorem StoreAt.ltm {w : World} {sb mb : Nat} {s : St} (h : StoreAt w sb mb s) : mb < w.heap.size := h.own.lt
theorem StoreAt.ne {w : World} {sb mb : Nat} {s : St} (h : StoreAt w sb mb s) : sb ≠ mb := by
  rintro rfl
  obtain ⟨es, clock, hb, _⟩ := h.own
  rw [h.blk] at hb; cases hb
theorem StoreAt.below {w w' : World} {sb mb : Nat} {s : St} (h : StoreAt w sb mb s) (hb : Below w.heap.size w w') : StoreAt w' sb mb s :=
  ⟨(hb.block _ h.lt).trans h.blk, h.own.kept (row := none) ⟨hb.os, hb.tape, hb.output, hb.size, fun k hk _ => hb.block k hk⟩ (by simp), h.ok⟩

/-- Nothing that lay there has turned but what lies in these two blocks. -/
structure But2 (sb mb : Nat) (w w' : World) : Prop where
  os : w'.os = w.os
  tape : w'.tape = w.tape
  output : w'.output = w.output
  size : w.heap.size ≤ w'.heap.size
  block : ∀ k, k < w.heap.size → k ≠ sb → k ≠ mb → w'.heap[k]? = w.heap[k]?
theorem But2.of {sb mb : Nat} {w w' : World} (h : Below w.heap.size w w') : But2 sb mb w w' := ⟨h.os, h.tape, h.output, h.size, fun k hk _ _ => h.block k hk⟩
theorem But2.trans {sb mb : Nat} {a b c : World} (h : But2 sb mb a b) (k : But2 sb mb b c) : But2 sb mb a c :=
  ⟨k.os.trans h.os, k.tape.trans h.tape, k.output.trans h.output, Nat.le_trans h.size k.size, fun i hi h1 h2 => (k.block i (Nat.lt_of_lt_of_le hi h.size) h1 h2).trans (h.block i hi h1 h2)⟩
theorem But2.set {sb mb : Nat} (w : World) (i : Nat) (x : Value) : But2 sb mb w (w.setCell ⟨sb, i, none⟩ x) :=
  ⟨rfl, rfl, rfl, by simp [World.setCell], fun k _ h1 _ => (grown_set w sb i x).block k (by assumption) (fun e => h1 (Option.some.inj e))⟩
theorem But2.below {sb mb B : Nat} {a b c : World} (h : Below B a b) (k : But2 sb mb b c) (h1 : B ≤ sb) (h2 : B ≤ mb) (hB : B ≤ b.heap.size) : Below B a c :=
  h.trans ⟨k.os, k.tape, k.output, k.size, fun i hi => k.block i (by omega) (by omega) (by omega)⟩

section
variable {w : World} {sb mb : Nat} {s : St}
theorem StoreAt.c0 (h : StoreAt w sb mb s) : w.cell? ⟨sb, 0, none⟩ = some (.map (some mb)) := by simp [World.cell?, h.blk]
theorem StoreAt.c1 (h : StoreAt w sb mb s) : w.cell? ⟨sb, 1, none⟩ = some (S s.head) := by simp [World.cell?, h.blk]
theorem StoreAt.c2 (h : StoreAt w sb mb s) : w.cell? ⟨sb, 2, none⟩ = some (.int .i64 s.day) := by simp [World.cell?, h.blk]
theorem StoreAt.c3 (h : StoreAt w sb mb s) : w.cell? ⟨sb, 3, none⟩ = some (.bool s.off) := by simp [World.cell?, h.blk]
theorem StoreAt.c4 (h : StoreAt w sb mb s) : w.cell? ⟨sb, 4, none⟩ = some (.int .i64 s.cut) := by simp [World.cell?, h.blk]
theorem StoreAt.fz (h : StoreAt w sb mb s) (i : Nat) : w.frozen? ⟨sb, i, none⟩ = false := by simp [World.frozen?, h.blk]
theorem StoreAt.setBlk (h : StoreAt w sb mb s) (i : Nat) (x : Value) : (w.setCell ⟨sb, i, none⟩ x).heap[sb]? = some (.cells ((stCells mb s).setIfInBounds i x) 78 (0, 0)) := heap_setCell_same w sb i (stCells mb s) 78 x h.blk
theorem StoreAt.ownSet (h : StoreAt w sb mb s) (i : Nat) (x : Value) : (w.setCell ⟨sb, i, none⟩ x).ownsMap Tryz.prog 9 objElem mb s.objs.length (mapD s.objs) := h.own.setCell (by exact fun e => h.ne e.symm) x
theorem StoreAt.setHead (h : StoreAt w sb mb s) {x : Str} (hx : x.length ≤ 20000) : StoreAt (w.setCell ⟨sb, 1, none⟩ (S x)) sb mb { s with head := x } :=
  ⟨h.setBlk 1 _, h.ownSet 1 _, { h.ok with hd := hx }⟩
theorem StoreAt.setDay (h : StoreAt w sb mb s) {x : Int} (h0 : 0 ≤ x) (h1 : x ≤ 100000) : StoreAt (w.setCell ⟨sb, 2, none⟩ (.int .i64 x)) sb mb { s with day := x } :=
  ⟨h.setBlk 2 _, h.ownSet 2 _, { h.ok with day0 := h0, day1 := h1 }⟩
theorem StoreAt.setOff (h : StoreAt w sb mb s) (x : Bool) : StoreAt (w.setCell ⟨sb, 3, none⟩ (.bool x)) sb mb { s with off := x } :=
  ⟨h.setBlk 3 _, h.ownSet 3 _, { h.ok with }⟩
theorem StoreAt.setCut (h : StoreAt w sb mb s) {x : Int} (h0 : -1 ≤ x) (h1 : x ≤ 9223372036854775807) : StoreAt (w.setCell ⟨sb, 4, none⟩ (.int .i64 x)) sb mb { s with cut := x } :=
  ⟨h.setBlk 4 _, h.ownSet 4 _, { h.ok with cut0 := h0, cut1 := h1 }⟩
end

abbrev stP (sb : Nat) : Value := .pointer (some ⟨sb, 0, none⟩)

theorem head_any (sb mb : Nat) (s : St) (w : World) (h : StoreAt w sb mb s) :
    Calls Tryz.prog 15 #[stP sb] w fun e w' => e = .returned (S s.head) ∧ w = w' := by
  have c1 := h.c1
  go_enter Tryz.func15, Tryz.ntmps15
  go_wp2_with fail
  go_ret
  exact ⟨rfl, rfl⟩
theorem power_any (sb mb : Nat) (s : St) (w : World) (h : StoreAt w sb mb s) :
    Calls Tryz.prog 12 #[stP sb] w fun e w' => e = .returned (.bool !s.off) ∧ w = w' := by
  have c3 := h.c3
  go_enter Tryz.func12, Tryz.ntmps12
  go_wp2_with fail
  go_ret
  exact ⟨rfl, rfl⟩

theorem cutSt_any (E : Nat → Addr) (B : Nat) (sb mb : Nat) (s : St) (n : Int) (w : World) (hE : Errs [2, 12] E B w) (h : StoreAt w sb mb s) (hn : n ≤ 9223372036854775807) :
    Calls Tryz.prog 17 #[stP sb, .int .i64 n] w fun e w' => ∃ ev, e = .returned ev ∧
      ErV E w' ev (if n < 0 then .bare 2 else if s.off then .bare 12 else .nil) ∧ StoreAt w' sb mb (if n < 0 ∨ s.off then s else { s with cut := n }) ∧ But2 sb mb w w' := by
  have v2 := hE.var 2 (by decide)
  have v12 := hE.var 12 (by decide)
  simp only [errG] at v2 v12
  have c3 := h.c3
  have c4 := h.c4
  have f4 := h.fz 4
  by_cases h0 : n < 0
  · rw [if_pos h0, if_pos (.inl h0)]
    go_enter Tryz.func17, Tryz.ntmps17
    go_wp2_with fail
    go_ret
    exact ⟨_, rfl, ⟨by decide, rfl⟩, h, .of (Below.refl _ _)⟩
  rw [if_neg h0]
  have g0 : 0 ≤ n := by omega
  obtain ⟨objs, head, day, off, cut⟩ := s
  have H := Lib.hid h; clear h
  cases off with
  | true =>
    simp only [h0, false_or, if_true]
    simp only at c3 c4
    clear h0
    go_enter Tryz.func17, Tryz.ntmps17
    go_wp2_with fail
    go_ret
    exact ⟨_, rfl, ⟨by decide, rfl⟩, H.out, .of (Below.refl _ _)⟩
  | false =>
    simp only [h0, false_or, Bool.false_eq_true, if_false]
    simp only at c3 c4
    clear h0
    go_enter Tryz.func17, Tryz.ntmps17
    go_wp2_with fail
    go_ret
    exact ⟨_, rfl, rfl, H.out.setCut (by omega) hn, .set _ _ _⟩
theorem on_any (sb mb : Nat) (s : St) (w : World) (h : StoreAt w sb mb s) :
    Calls Tryz.prog 18 #[stP sb] w fun e w' => e = .returned (.tuple #[]) ∧ StoreAt w' sb mb { s with off := false, cut := -1 } ∧ But2 sb mb w w' := by
  have c3 := h.c3
  have c4 := h.c4
  have f3 := h.fz 3
  have f4 := h.fz 4
  have H := Lib.hid h; clear h
  go_enter Tryz.func18, Tryz.ntmps18
  go_wp2_with fail
  go_end0
  exact ⟨rfl, (H.out.setOff false).setCut (by decide) (by decide), (But2.set w 3 _).trans (But2.set _ 4 _)⟩
end Go.Proofs.YtepdedfmdafnkaaGreatDoor
