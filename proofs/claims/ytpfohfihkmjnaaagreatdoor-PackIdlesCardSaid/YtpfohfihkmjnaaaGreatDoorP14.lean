/- A store and its model, side by side; lists of wide structs stay where they lie. Pieces of a table in memory. Snaps in plain words. Of no program. The document's answer on lists: ListFault, ListText: the walks. The document's answer on files and lists: ReadFile, ReadList, AddOf, RemoveOf: the walks. The document's answer on lists: ReadList: the walk. The document's answer on lists: RemoveOf: the walk. The document's answer on lists: AddOf: the walk (printed by gen_addof.py). Changes in plain words. Of no program. Two changes, one behind the other: plain. What a snap has, in plain words. Of no program. -/
import Derived.Test.YtpfohfihkmjnaaaGreatDoorP5
import Derived.Test.YtpfohfihkmjnaaaGreatDoorP13
import Derived.Test.YtpfohfihkmjnaaaGreatDoorP9
import Derived.Test.YtpfohfihkmjnaaaGreatDoorP6
import Derived.Test.YtpfohfihkmjnaaaGreatDoorP11
import Derived.Deep.RegionHeld3
import Derived.RegionTactic
import Derived.Test.YtpfohfihkmjnaaaGreatDoorP1
namespace Go.Proofs.YtpfohfihkmjnaaaGreatDoor
open Go.RowKit Go.Maps

section
variable {w w' : World} {sb mb a b : Nat} {s : St} {e : TypeId}
theorem StoreAt.asideT (h : StoreAt w sb mb s) (hb : But2 a b w w') (h1 : sb ≠ a) (h2 : sb ≠ b) (h3 : mb ≠ a) (h4 : mb ≠ b) : StoreAt w' sb mb s :=
  ⟨(hb.block sb h.lt h1 h2).trans h.blk, by
    obtain ⟨es, clock, hx, F, hs, hD⟩ := h.own
    exact ⟨es, clock, (hb.block mb h.ltm h3 h4).trans hx, F, hs, hD⟩, h.ok⟩
theorem own_offT {α : Type} {enc : α → List Value} {sz B : Nat} {v : Value} {l : List α} (h : Own enc e sz B w v l) (hs : StoreAt w sb mb s) (he : e ≠ 128) : v.ownBlock ≠ some sb ∧ v.ownBlock ≠ some mb := by
  refine ⟨own_ne h hs.blk fun cs hc => ?_, ?_⟩
  · cases hc; exact he rfl
  · obtain ⟨es, clock, hx, _⟩ := hs.own
    exact own_ne h hx fun cs hc => by cases hc
end
/-- The store and the model of s, apart, made behind w0. -/
structure Twin (w0 : World) (sb mb xb : Nat) (v : Value) (s : St) (w : World) : Prop where
  sto : StoreAt w sb mb s
  mdl : ModAt w w0.heap.size xb v s
  bel : Below w0.heap.size w0 w
  h1 : w0.heap.size ≤ sb
  h2 : w0.heap.size ≤ mb
  h3 : w0.heap.size ≤ xb
  n1 : xb ≠ sb
  n2 : xb ≠ mb
section
variable {w0 w w' w2 : World} {sb mb xb : Nat} {v v' : Value} {s s' : St}
theorem Twin.below (h : Twin w0 sb mb xb v s w) (hb : Below w.heap.size w w') : Twin w0 sb mb xb v s w' :=
  { h with sto := h.sto.below hb, mdl := h.mdl.below hb, bel := h.bel.trans (hb.mono h.bel.size) }
/-- The model, when the store alone has turned. -/
theorem Twin.half (h : Twin w0 sb mb xb v s w) (hb : But2 sb mb w w') : ModAt w' w0.heap.size xb v s := by
  obtain ⟨k1, k2⟩ := own_offT h.mdl.own h.sto (by decide)
  exact ⟨(hb.block xb h.mdl.lt h.n1 h.n2).trans h.mdl.blk, own_but h.mdl.own k1 k2 hb, h.mdl.ok⟩
/-- Both are turned, one behind the other. -/
theorem Twin.turn (h : Twin w0 sb mb xb v s w) (hs : StoreAt w' sb mb s') (hb : But2 sb mb w w') (hm : ModAt w2 w0.heap.size xb v' s') (hb2 : But2 xb xb w' w2) : Twin w0 sb mb xb v' s' w2 :=
  { h with
    sto := hs.asideT hb2 h.n1.symm h.n1.symm h.n2.symm h.n2.symm
    mdl := hm
    bel := hb2.below (hb.below h.bel h.h1 h.h2 h.bel.size) h.h3 h.h3 (hb.below h.bel h.h1 h.h2 h.bel.size).size }
end
theorem cell_row {w : World} {b i : Nat} {u : Value} (h : w.cell? ⟨b, i, none⟩ = some u) : ∃ cs t fr, w.heap[b]? = some (.cells cs t fr) ∧ i < cs.size := by
  unfold World.cell? at h
  split at h
  · rename_i cs t fr hg
    exact ⟨cs, t, fr, hg, (Array.getElem?_eq_some_iff.1 (by simpa using h)).1⟩
  · cases h
/-- A list of wide structs stays, when only what is no such row has turned. -/
theorem at_turn {α : Type} {enc : α → List Value} {sz : Nat} {w w' : World} {v : Value} {l : List α} {a b : Nat} (h : At enc sz w v l) (he : ∀ x, (enc x).length = sz) (h6 : 6 ≤ sz) (hb : But2 a b w w')
    (ha : ∀ cs t fr, w.heap[a]? = some (.cells cs t fr) → cs.size ≤ 5) (hb' : ∀ cs t fr, w.heap[b]? = some (.cells cs t fr) → cs.size ≤ 5) : At enc sz w' v l := by
  obtain ⟨ad, c, bk, o, hv, h1, h2, h3, hx⟩ := h
  refine ⟨ad, c, bk, o, hv, h1, h2, h3, fun k x hk j u hu => ?_⟩
  have hc := hx k x hk j u hu
  obtain ⟨u5, hu5⟩ : ∃ u5, (enc x)[sz - 1]? = some u5 := ⟨_, List.getElem?_eq_getElem (by rw [he]; omega)⟩
  obtain ⟨cs, t, fr, hg, hi⟩ := cell_row (hx k x hk (sz - 1) u5 hu5)
  have na : bk ≠ a := by rintro rfl; have := ha cs t fr hg; omega
  have nb : bk ≠ b := by rintro rfl; have := hb' cs t fr hg; omega
  have hlt := (Array.getElem?_eq_some_iff.1 hg).1
  have := hb.block bk hlt na nb
  rw [← hc]
  unfold World.cell?
  simp only [this]
theorem StoreAt.thin {w : World} {sb mb : Nat} {s : St} (h : StoreAt w sb mb s) : (∀ cs t fr, w.heap[sb]? = some (.cells cs t fr) → cs.size ≤ 5) ∧ (∀ cs t fr, w.heap[mb]? = some (.cells cs t fr) → cs.size ≤ 5) := by
  refine ⟨fun cs t fr hg => ?_, fun cs t fr hg => ?_⟩
  · rw [h.blk] at hg
    cases hg
    exact Nat.le_refl _
  · obtain ⟨es, clock, hx, _⟩ := h.own
    rw [hx] at hg
    cases hg
theorem ModAt.thin {w : World} {B xb : Nat} {v : Value} {s : St} (h : ModAt w B xb v s) : ∀ cs t fr, w.heap[xb]? = some (.cells cs t fr) → cs.size ≤ 5 := fun cs t fr hg => by
  rw [h.blk] at hg
  cases hg
  exact Nat.le_refl _
end Go.Proofs.YtpfohfihkmjnaaaGreatDoor
namespace Go.Proofs.YtpfohfihkmjnaaaGreatDoor
open Go.RowKit

/-- A piece of a table: a file's rows (or its keys), by which Seq; another text in its place; and where its rows and keys lie. -/
structure Pc where
  path : Str
  part : Str
  spoil : Str
  rows : List Rw
  keys : List Int
  seq : Int
  va : Value
  vk : Value
abbrev encPc (p : Pc) : List Value := [S p.path, S p.part, S p.spoil, p.va, p.vk, .int .i64 p.seq]
/-- The rows and keys of each lie there. -/
def HeldPc (w : World) (l : List Pc) : Prop := ∀ x ∈ l, RowsAt w x.va x.rows ∧ IntsAt w x.vk x.keys
theorem HeldPc.below {w w' : World} {l : List Pc} (h : HeldPc w l) (hb : Below w.heap.size w w') : HeldPc w' l := fun x hx => ⟨(h x hx).1.below hb, (h x hx).2.below hb⟩
abbrev PiecesAt (w : World) (v : Value) (l : List Pc) : Prop := At encPc 6 w v l
theorem szPc (w : World) : (sizeOf 71).run Tryz.prog w = .ok 6 w := by kernel_rfl
/-- A round's cells. -/
theorem pcCells {w w' : World} {b o : Nat} {l : List Pc} {k : Nat} {x : Pc} (hx : ∀ (k : Nat) (x : Pc), l[k]? = some x → ∀ (j : Nat) (u : Value), (encPc x)[j]? = some u → w.cell? ⟨b, o + k * 6 + j, none⟩ = some u) (hb : Below w.heap.size w w') (hk : l[k]? = some x) :
    w'.cell? ⟨b, o + k * 6, none⟩ = some (S x.path) ∧ w'.cell? ⟨b, o + k * 6 + 1, none⟩ = some (S x.part) ∧ w'.cell? ⟨b, o + k * 6 + 2, none⟩ = some (S x.spoil) ∧ w'.cell? ⟨b, o + k * 6 + 3, none⟩ = some x.va ∧ w'.cell? ⟨b, o + k * 6 + 4, none⟩ = some x.vk ∧ w'.cell? ⟨b, o + k * 6 + 5, none⟩ = some (.int .i64 x.seq) := by
  have h := fun j u hu => by
    have := hx k x hk j u hu
    exact (hb.cell (World.block_lt_of_cell? w _ this)).trans this
  exact ⟨h 0 _ rfl, h 1 _ rfl, h 2 _ rfl, h 3 _ rfl, h 4 _ rfl, h 5 _ rfl⟩
end Go.Proofs.YtpfohfihkmjnaaaGreatDoor
namespace Go.Proofs.YtpfohfihkmjnaaaGreatDoor
open Go.RowKit

/-- A table at one time. -/
structure Sn where
  id : Int
  parent : Int
  seq : Int
  day : Int
  index : Int
  op : Str
  files : List Fl
  deriving DecidableEq

abbrev kStart : Str := [115, 116, 97, 114, 116]
abbrev kAppend : Str := [97, 112, 112, 101, 110, 100]
abbrev kDelete : Str := [100, 101, 108, 101, 116, 101]
abbrev kRewrite : Str := [114, 101, 119, 114, 105, 116, 101]
abbrev kSnap : Str := [115, 110, 97, 112]
def kOps : List Str := [kStart, kAppend, kDelete, kRewrite]
def zeroSn : Sn := ⟨0, 0, 0, 0, 0, [], []⟩

def inB (n lo hi : Int) : Bool := decide (lo ≤ n) && decide (n ≤ hi)
def snapBound (s : Sn) : Bool := !inB s.id 1 1073741824 || (decide (s.parent < 0) || (decide (s.id ≤ s.parent) || (!inB s.seq 0 1073741824 || (!inB s.day 0 100000 || !inB s.index 0 1073741824))))
def seqFault (s : Sn) (i : Nat) : Nat :=
  match s.files[i]? with
  | none => 0
  | some f => if s.seq < f.seq then 9 else 0
/-- A snap's fault. -/
def snapCheck (s : Sn) : Er :=
  if snapBound s = true then .bare 2 else if s.op ∉ kOps then .bare 4 else if listCheck s.files ≠ .nil then listCheck s.files else firstErr (seqFault s) s.files.length
structure RightSn (s : Sn) : Prop where
  bnd : snapBound s = false
  op : s.op ∈ kOps
  lst : RightL s.files
  sq : ∀ f ∈ s.files, f.seq ≤ s.seq
theorem snap_iff (s : Sn) : snapCheck s = .nil ↔ RightSn s := by
  unfold snapCheck
  constructor
  · intro h
    split at h
    · cases h
    · rename_i h1
      split at h
      · cases h
      · rename_i h2
        split at h
        · rename_i h3; exact absurd h h3
        · rename_i h3
          have hf := firstErr_nil h
          refine ⟨by simpa using h1, Decidable.not_not.1 h2, (right_iff _).1 (Decidable.not_not.1 h3), fun f hf' => ?_⟩
          obtain ⟨i, hi⟩ := List.getElem?_of_mem hf'
          have := hf i (List.getElem?_eq_some_iff.1 hi).1
          unfold seqFault at this
          rw [hi] at this
          simp only at this
          split at this
          · cases this
          · omega
  · intro h
    rw [if_neg (by rw [h.bnd]; simp), if_neg (fun h' => h' h.op), if_neg (fun h' => h' ((right_iff _).2 h.lst))]
    refine firstErr_all fun j hj => ?_
    unfold seqFault
    obtain ⟨f, hf⟩ : ∃ f, s.files[j]? = some f := ⟨s.files[j], List.getElem?_eq_getElem hj⟩
    rw [hf]
    simp only
    rw [if_neg]
    have := h.sq f (List.mem_of_getElem? hf)
    omega
theorem RightSn.nums {s : Sn} (h : RightSn s) : (1 ≤ s.id ∧ s.id ≤ 1073741824) ∧ (0 ≤ s.parent ∧ s.parent < s.id) ∧ (0 ≤ s.seq ∧ s.seq ≤ 1073741824) ∧ (0 ≤ s.day ∧ s.day ≤ 100000) ∧ (0 ≤ s.index ∧ s.index ≤ 1073741824) := by
  have := h.bnd
  unfold snapBound inB at this
  simp at this
  omega

def snapHead (s : Sn) (sum : Int) : Str := kSnap ++ (numsTail [s.id, s.parent, s.seq, s.day, s.index] ++ 32 :: (s.op ++ 32 :: Lib.itoa sum))
def snapText (s : Sn) : Str := snapHead s (sumOf (listText s.files)) ++ 10 :: listText s.files

/-- What a head says. -/
def headOf : List Str → Option (Sn × Int)
  | [t, a, b, c, d, e, op, g] =>
    if t = kSnap then
      match numsOf [a, b, c, d, e, g] with
      | some [n0, n1, n2, n3, n4, n5] => some (⟨n0, n1, n2, n3, n4, op, []⟩, n5)
      | _ => none
    else none
  | _ => none
def headAt (s : Str) : Option (Sn × Int) := if (Lib.cut s [10]).2.2 = true then headOf (cutAt 32 (Lib.cut s [10]).1) else none
def bodyRead (x : Sn) (sum : Int) (body : Str) : Sn × Er :=
  if sum ≠ sumOf body then (zeroSn, .bare 10)
  else if listReadE body ≠ .nil then (zeroSn, listReadE body)
  else if snapCheck { x with files := listReadL body } ≠ .nil then (zeroSn, snapCheck { x with files := listReadL body })
  else ({ x with files := listReadL body }, .nil)
/-- A snap's text, read. -/
def snapRead (s : Str) : Sn × Er :=
  if 20000 < s.length then (zeroSn, .bare 2) else
  match headAt s with
  | none => (zeroSn, .bare 1)
  | some (x, sum) => bodyRead x sum (Lib.cut s [10]).2.1

theorem op_sign {op : Str} (h : op ∈ kOps) : (∀ c ∈ op, 47 ≤ c.toNat) ∧ op.length ≤ 7 := by
  unfold kOps at h
  simp only [List.mem_cons, List.not_mem_nil, or_false] at h
  rcases h with rfl | rfl | rfl | rfl <;> decide
theorem not_itoa32 (n : Int) : (32 : UInt8) ∉ Lib.itoa n := not_mem_itoa' (by decide) (by decide)
theorem cut_head {s : Sn} (h : s.op ∈ kOps) (sum : Int) : cutAt 32 (snapHead s sum) = [kSnap, Lib.itoa s.id, Lib.itoa s.parent, Lib.itoa s.seq, Lib.itoa s.day, Lib.itoa s.index, s.op, Lib.itoa sum] := by
  have hop : (32 : UInt8) ∉ s.op := fun hm => by have := (op_sign h).1 _ hm; revert this; decide
  have e : snapHead s sum = kSnap ++ 32 :: (Lib.itoa s.id ++ 32 :: (Lib.itoa s.parent ++ 32 :: (Lib.itoa s.seq ++ 32 :: (Lib.itoa s.day ++ 32 :: (Lib.itoa s.index ++ 32 :: (s.op ++ 32 :: Lib.itoa sum)))))) := by
    unfold snapHead numsTail; simp
  rw [e, cutAt_app (by decide), cutAt_app (not_itoa32 _), cutAt_app (not_itoa32 _), cutAt_app (not_itoa32 _), cutAt_app (not_itoa32 _), cutAt_app (not_itoa32 _), cutAt_app hop, cutAt_none (not_itoa32 _)]
theorem head_none {s : Sn} (h : s.op ∈ kOps) (sum : Int) : (10 : UInt8) ∉ snapHead s sum := by
  unfold snapHead
  intro hm
  have hs : ∀ c : UInt8, (c = 32 ∨ c = 45 ∨ 47 ≤ c.toNat) → c ≠ 10 := fun c hc => by
    rintro rfl; rcases hc with hc | hc | hc <;> revert hc <;> decide
  have hi : ∀ n, ∀ c ∈ Lib.itoa n, c = 32 ∨ c = 45 ∨ 47 ≤ c.toNat := fun n c hc => by
    rcases itoa_sign n c hc with h | h
    · exact .inr (.inl h)
    · exact .inr (.inr (by omega))
  rcases List.mem_append.1 hm with hm | hm
  · revert hm; decide
  · rcases List.mem_append.1 hm with hm | hm
    · exact hs _ (nums_sign _ _ hm) rfl
    · rcases List.mem_cons.1 hm with hm | hm
      · revert hm; decide
      · rcases List.mem_append.1 hm with hm | hm
        · exact hs _ (.inr (.inr ((op_sign h).1 _ hm))) rfl
        · rcases List.mem_cons.1 hm with hm | hm
          · revert hm; decide
          · exact hs _ (hi _ _ hm) rfl
theorem headOf_text {s : Sn} (h : RightSn s) (sum : Int) (h0 : 0 ≤ sum) (h1 : sum < 4294967296) : headOf (cutAt 32 (snapHead s sum)) = some ({ s with files := [] }, sum) := by
  obtain ⟨a1, a2, a3, a4, a5⟩ := h.nums
  rw [cut_head h.op]
  have hn : numsOf ([s.id, s.parent, s.seq, s.day, s.index, sum].map Lib.itoa) = some [s.id, s.parent, s.seq, s.day, s.index, sum] := numsOf_map _ fun x hx => by
    simp only [List.mem_cons, List.not_mem_nil, or_false] at hx
    rcases hx with rfl | rfl | rfl | rfl | rfl | rfl <;> omega
  simp only [List.map_cons, List.map_nil] at hn
  unfold headOf
  simp only [if_true, hn]
theorem head_len {s : Sn} (h : RightSn s) (sum : Int) (h0 : 0 ≤ sum) (h1 : sum < 4294967296) : (snapHead s sum).length ≤ 200 := by
  obtain ⟨a1, a2, a3, a4, a5⟩ := h.nums
  have hl := fun n (h0 : (0 : Int) ≤ n) (h1 : n ≤ 4294967296) => itoa_len n (by omega) (by omega)
  have b1 := hl s.id (by omega) (by omega); have b2 := hl s.parent (by omega) (by omega); have b3 := hl s.seq (by omega) (by omega); have b4 := hl s.day (by omega) (by omega); have b5 := hl s.index (by omega) (by omega); have b6 := hl sum h0 (by omega)
  have b7 := (op_sign h.op).2
  unfold snapHead numsTail
  simp
  omega
theorem text_len {s : Sn} (h : RightSn s) : (listText s.files).length ≤ 9060 := by
  have := listText_len h.lst.ok
  have := h.lst.len
  omega
theorem snapText_len {s : Sn} (h : RightSn s) : (snapText s).length ≤ 9300 := by
  have h1 := head_len h (sumOf (listText s.files)) (by omega) (by have := sumOf_lt (listText s.files); omega)
  have h2 := text_len h
  unfold snapText
  rw [List.length_append, List.length_cons]
  omega
theorem snapRead_of {s : Sn} (h : RightSn s) (body : Str) (hb : body.length ≤ 9060) : snapRead (snapHead s (sumOf (listText s.files)) ++ 10 :: body) = bodyRead { s with files := [] } (sumOf (listText s.files)) body := by
  have hsl := sumOf_lt (listText s.files)
  have h1 := head_len h (sumOf (listText s.files)) (by omega) (by omega)
  have hc := cut_app1 (c := 10) (p := snapHead s (sumOf (listText s.files))) (q := body) (head_none h.op _)
  unfold snapRead headAt
  rw [if_neg (by rw [List.length_append, List.length_cons]; omega), hc]
  simp only [if_true]
  rw [headOf_text h _ (by omega) (by omega)]
theorem snapRead_text {s : Sn} (h : RightSn s) : snapRead (snapText s) = (s, .nil) := by
  unfold snapText
  rw [snapRead_of h _ (text_len h)]
  obtain ⟨r1, r2⟩ := listRead_text h.lst
  have hs : ({ ({ s with files := [] } : Sn) with files := listReadL (listText s.files) } : Sn) = s := by rw [r2]
  unfold bodyRead
  rw [if_neg (by simp), if_neg (by rw [r1]; simp), hs, if_neg (by rw [(snap_iff s).2 h]; simp)]
theorem snapRead_one {s : Sn} (h : RightSn s) {i : Nat} {x c : UInt8} (hx : (listText s.files)[i]? = some x) (hne : x ≠ c) :
    snapRead (snapHead s (sumOf (listText s.files)) ++ 10 :: (listText s.files).set i c) = (zeroSn, .bare 10) := by
  rw [snapRead_of h _ (by rw [List.length_set]; exact text_len h)]
  unfold bodyRead
  rw [if_pos]
  have := sumOf_set hx hne
  omega
end Go.Proofs.YtpfohfihkmjnaaaGreatDoor
namespace Go.Proofs.YtpfohfihkmjnaaaGreatDoor
open Go.RowKit

theorem fault_cell {fn : Func} {p : Tmp} (h : fn.results = #[.cell p 58]) {tmps : Array Value} {w : World} {g : Nat} {c q : Int} (hp : tmps.getD p undef = .pointer (some ⟨g, 0, none⟩)) (hg : w.heap[g]? = some (.cells #[.int .i64 c, .int .i64 q] 58 (0, 0))) :
    (results fn tmps).run Tryz.prog w = .ok (faultV c q) w :=
  results_cell_row h _ _ g 58 #[.int .i64 c, .int .i64 q] (0, 0) _ hp hg Tryz.underlying58 rfl (by kernel_rfl)
theorem listCheck_few {l : List Fl} (h : ¬ 60 < l.length) : listCheck l = firstErr (fileFault l) l.length := if_neg h
theorem fileFault_bad {l : List Fl} {k : Nat} {x : Fl} (hx : l[k]? = some x) (h : checkF x ≠ 0) : fileFault l k = checkF x := by unfold fileFault; rw [hx]; simp only; rw [if_pos h]
theorem fileFault_zero {l : List Fl} {x : Fl} (hx : l[0]? = some x) (h : checkF x = 0) : fileFault l 0 = 0 := by unfold fileFault; rw [hx]; simp only; rw [if_neg (by simpa using h), if_neg (by simp)]
theorem fileFault_ord {l : List Fl} {k : Nat} {x y : Fl} (hx : l[k]? = some x) (h : checkF x = 0) (h0 : 0 < k) (hy : l[k - 1]? = some y) (hc : cmpP x.path y.path ≤ 0) : fileFault l k = 9 := by
  unfold fileFault; rw [hx]; simp only; rw [if_neg (by simpa using h), if_pos ⟨h0, y, hy, hc⟩]
theorem fileFault_fine {l : List Fl} {k : Nat} {x y : Fl} (hx : l[k]? = some x) (h : checkF x = 0) (hy : l[k - 1]? = some y) (hc : ¬ cmpP x.path y.path ≤ 0) : fileFault l k = 0 := by
  unfold fileFault; rw [hx]; simp only; rw [if_neg (by simpa using h), if_neg]
  rintro ⟨_, g, hg, hle⟩
  rw [hy] at hg; cases hg; exact hc hle

set_option maxHeartbeats 2000000 in
set_option maxRecDepth 20000 in
theorem listFault_any (v : Value) (l : List Fl) (w : World) (hl : FilesAt w v l) (hs : ∀ x ∈ l, midF x) :
    Calls Tryz.prog 25 #[v] w fun e w' => e = .returned (faultOf (listCheck l)) ∧ Below w.heap.size w w' := by
  obtain ⟨a, c, b, o, rfl, ha, hc, hcm, hx⟩ := hl
  unfold maxLen at hcm
  have hba := (Below.refl w.heap.size w).alloc (Nat.le_refl _) (.cells #[.int .i64 0, .int .i64 0] 58)
  have hG := fun W (h : Below (w.alloc (.cells #[.int .i64 0, .int .i64 0] 58)).heap.size (w.alloc (.cells #[.int .i64 0, .int .i64 0] 58)) W) => ((h.block w.heap.size (by simp)).trans (heap_alloc_new w (.cells #[.int .i64 0, .int .i64 0] 58)) : W.heap[w.heap.size]? = some (.cells #[.int .i64 0, .int .i64 0] 58 (0, 0)))
  have HG := Lib.hid hG; clear hG
  have HS := Lib.hid hs; clear hs
  by_cases h60 : 60 < l.length
  · have g60 : (60 : Int) < (l.length : Int) := by omega
    have hsp : listCheck l = .bare 8 := if_pos h60
    have Hl := Lib.hid hsp; clear h60 hsp
    go_enter Tryz.func25, Tryz.ntmps25
    go_wp2_with fail
    refine (refBare_any 8 _).mono ?_
    rintro e w1 ⟨rfl, hb⟩
    have hg := HG.out _ hb
    have c0 : w1.cell? ⟨w.heap.size, 0, none⟩ = some (.int .i64 0) := by simp [World.cell?, hg]
    have c1 : w1.cell? ⟨w.heap.size, 1, none⟩ = some (.int .i64 0) := by simp [World.cell?, hg]
    have f0 : w1.frozen? ⟨w.heap.size, 0, none⟩ = false := by simp [World.frozen?, hg]
    have f1 : w1.frozen? ⟨w.heap.size, 1, none⟩ = false := by simp [World.frozen?, hg]
    have HGg := Lib.hid hg; clear hg
    unfold faultV
    go_wp2_with fail
    refine bodyPost_ret (fault_cell (g := w.heap.size) rfl rfl (set_two HGg.out _ _)) rfl ⟨by rw [Hl.out]; rfl, ?_⟩
    exact ((hba.trans (hb.mono hba.size)).setCell (by simp) _).setCell (by simp) _
  have g60 : decide ((60 : Int) < (l.length : Int)) = false := by simp; omega
  have hspec := listCheck_few h60
  have HF := Lib.hid hspec; clear hspec h60
  go_enter Tryz.func25, Tryz.ntmps25
  go_wp2_with fail
  generalize w.alloc (.cells #[.int .i64 0, .int .i64 0] 58) = w0 at *
  go_loopw [3] (fun i wr => ∃ k : Nat, k ≤ l.length ∧ i = .int .i64 k ∧ Hid (∀ j < k, fileFault l j = 0) ∧ Below w0.heap.size w0 wr) (fun i _ => l.length - (intOf i).toNat)
  case atStart => exact ⟨0, by omega, rfl, Lib.hid fun j hj => absurd hj (by omega), Below.refl _ _⟩
  case round =>
    obtain ⟨k, hk, rfl, hj, hb⟩ := hrel
    have hbw : Below w.heap.size w wr := hba.trans (hb.mono hba.size)
    by_cases hlt : k < l.length
    case neg =>
      obtain rfl : k = l.length := by omega
      have f : decide ((l.length : Int) < (l.length : Int)) = false := by simp
      go_wp2_with fail
      refine (refFine_any _).mono ?_
      rintro e w1 ⟨rfl, hb1⟩
      have hg := HG.out _ (hb.trans (hb1.mono hb.size))
      have c0 : w1.cell? ⟨w.heap.size, 0, none⟩ = some (.int .i64 0) := by simp [World.cell?, hg]
      have c1 : w1.cell? ⟨w.heap.size, 1, none⟩ = some (.int .i64 0) := by simp [World.cell?, hg]
      have f0 : w1.frozen? ⟨w.heap.size, 0, none⟩ = false := by simp [World.frozen?, hg]
      have f1 : w1.frozen? ⟨w.heap.size, 1, none⟩ = false := by simp [World.frozen?, hg]
      have HGg := Lib.hid hg; clear hg
      unfold faultV
      go_wp2_with fail
      refine bodyPost_ret (fault_cell (g := w.heap.size) rfl rfl (set_two HGg.out _ _)) rfl ⟨by rw [HF.out, firstErr_all hj.out]; rfl, ?_⟩
      exact ((hbw.trans (hb1.mono hbw.size)).setCell (by simp) _).setCell (by simp) _
    obtain ⟨x, hxk⟩ := get_ex hlt
    have CX := Lib.hid (fun W (h : Below w.heap.size w W) => flCells hx h hxk)
    obtain ⟨c0, c1, c2, c3, c4, c5⟩ := CX.out _ hbw
    have i1 := idx_at (c := c) 6 Tryz.underlying23 szFl ha k hlt
    have hk1 : (k : Int) < (l.length : Int) := by omega
    have hsx := HS.out x (List.mem_of_getElem? hxk)
    have hfe := fileError_any x wr hsx
    have HFe := Lib.hid hfe
    have Hx := Lib.hid hxk; clear hxk hfe
    by_cases hck : checkF x = 0
    case neg =>
      have hf := fileFault_bad Hx.out hck
      have HL : Hid (listCheck l = .loc (checkF x) k) := Lib.hid (HF.out.trans ((firstErr_hit hlt hj.out (by rw [hf]; exact hck)).trans (by rw [hf])))
      have g1 : (((checkF x : Nat) : Int) == 0) = false := by simpa using hck
      have g2 : (0 : Int) < ((checkF x : Nat) : Int) := by omega
      clear hf hck
      generalize checkF x = cx at *
      go_wp2_with fail
      refine HFe.out.mono ?_
      rintro e w1 ⟨rfl, hb1⟩
      have hg := HG.out _ (hb.trans (hb1.mono hb.size))
      clear c0 c1 c2 c3 c4 c5
      have c0 : w1.cell? ⟨w.heap.size, 0, none⟩ = some (.int .i64 0) := by simp [World.cell?, hg]
      have c1 : w1.cell? ⟨w.heap.size, 1, none⟩ = some (.int .i64 0) := by simp [World.cell?, hg]
      have f0 : w1.frozen? ⟨w.heap.size, 0, none⟩ = false := by simp [World.frozen?, hg]
      have f1 : w1.frozen? ⟨w.heap.size, 1, none⟩ = false := by simp [World.frozen?, hg]
      have HGg := Lib.hid hg; clear hg
      go_wp2_with fail
      refine bodyPost_ret (fault_cell (g := w.heap.size) rfl rfl (set_two HGg.out _ _)) rfl ⟨by rw [HL.out]; rfl, ?_⟩
      exact ((hbw.trans (hb1.mono hbw.size)).setCell (by simp) _).setCell (by simp) _
    have HK := Lib.hid hck
    rw [hck] at HFe
    clear hck
    by_cases h0 : k = 0
    · have gk : decide (0 < k) = false := by simp [h0]
      have Hf : Hid (fileFault l 0 = 0) := Lib.hid (fileFault_zero (h0 ▸ Hx.out) HK.out)
      have H0 := Lib.hid h0; clear h0
      go_wp2_with fail
      refine HFe.out.mono ?_
      rintro e w1 ⟨rfl, hb1⟩
      go_wp2_with fail
      go_roundw
      case rel => exact ⟨k + 1, by omega, by go_num, (Lib.hid fun j hj' => by
        obtain rfl : j = 0 := by have := H0.out; omega
        exact Hf.out), hb.trans (hb1.mono hb.size)⟩
      case measure => simp [intOf]; omega
    obtain ⟨y, hyk⟩ := get_ex (l := l) (k := k - 1) (by omega)
    have hsy := HS.out y (List.mem_of_getElem? hyk)
    have CY := Lib.hid (fun W (h : Below w.heap.size w W) => (flCells hx h hyk).1)
    have i2 := idx_at (c := c) 6 Tryz.underlying23 szFl ha (k - 1) (by omega)
    have hcast : ((k - 1 : Nat) : Int) = (k : Int) - 1 := by omega
    simp only [hcast] at i2
    have hk0 : 0 < k := by omega
    have gk : decide (0 < k) = true := decide_eq_true hk0
    have hk01 : (1 : Int) ≤ k := by omega
    have hk02 : (0 : Int) ≤ (k : Int) - 1 := by omega
    have hk03 : (k : Int) - 1 < l.length := by omega
    have hwk : IntKind.i64.wrap ((k : Int) - 1) = (k : Int) - 1 := by rw [IntKind.wrap_i64]; omega
    have hfo := fun h => fileFault_ord Hx.out HK.out hk0 hyk h
    have hff := fun h => fileFault_fine Hx.out HK.out hyk h
    have HOrd := Lib.hid hfo; have HFF := Lib.hid hff
    clear hfo hff hcast hyk h0
    have hC := fun W => isBehind_any x.path y.path W hsx.1 hsy.1
    obtain ⟨cv, hcv⟩ : ∃ cv, cmpP x.path y.path = cv := ⟨_, rfl⟩
    rw [hcv] at hC HOrd HFF
    clear hcv
    go_wp2_with fail
    refine HFe.out.mono ?_
    rintro e w1 ⟨rfl, hb1⟩
    have hb1' := hb.trans (hb1.mono hb.size)
    have hbw1 := hbw.trans (hb1.mono hbw.size)
    clear c0 c1 c2 c3 c4 c5
    have p0 := (CX.out _ hbw1.drew).1
    have d0 := CY.out _ hbw1.drew
    by_cases hle : cv ≤ 0
    · have hf := HOrd.out hle
      have HL : Hid (listCheck l = .loc 9 k) := Lib.hid (HF.out.trans ((firstErr_hit hlt hj.out (by rw [hf]; decide)).trans (by rw [hf])))
      have hcc : decide (0 < cv) = false := by simp; omega
      simp only [hcc] at hC
      have HC := Lib.hid hC
      clear hf hC hcc hle
      go_wp2_with fail
      go_region_held3 (fun w' => w'.cell? ⟨b, o + k * 6, none⟩ = some (S x.path) ∧ w'.cell? ⟨b, o + (k - 1) * 6, none⟩ = some (S y.path)) (exact ⟨p0, d0⟩) (first | (go_at_call 68; refine (HC.out _).mono ?_; rintro e w2 ⟨rfl, rfl⟩))
      have hg := HG.out _ hb1'
      have c0 : w1.cell? ⟨w.heap.size, 0, none⟩ = some (.int .i64 0) := by simp [World.cell?, hg]
      have c1 : w1.cell? ⟨w.heap.size, 1, none⟩ = some (.int .i64 0) := by simp [World.cell?, hg]
      have f0 : w1.frozen? ⟨w.heap.size, 0, none⟩ = false := by simp [World.frozen?, hg]
      have f1 : w1.frozen? ⟨w.heap.size, 1, none⟩ = false := by simp [World.frozen?, hg]
      have HGg := Lib.hid hg; clear hg
      go_wp2_with fail
      refine bodyPost_ret (fault_cell (g := w.heap.size) rfl rfl (set_two (w := w1.drew) HGg.out _ _)) rfl ⟨by rw [HL.out]; rfl, ?_⟩
      exact ((hbw1.drew).setCell (by simp) _).setCell (by simp) _
    · have hf := HFF.out (by omega)
      have Hf := Lib.hid hf; clear hf
      have hcc : decide (0 < cv) = true := by simp; omega
      simp only [hcc] at hC
      have HC := Lib.hid hC
      clear hC hcc hle
      go_wp2_with fail
      go_region_held3 (fun w' => w'.cell? ⟨b, o + k * 6, none⟩ = some (S x.path) ∧ w'.cell? ⟨b, o + (k - 1) * 6, none⟩ = some (S y.path)) (exact ⟨p0, d0⟩) (first | (go_at_call 68; refine (HC.out _).mono ?_; rintro e w2 ⟨rfl, rfl⟩))
      go_wp2_with fail
      go_roundw
      case rel => exact ⟨k + 1, by omega, by go_num, (Lib.hid fun j hj' => by
        rcases Nat.lt_or_ge j k with h | h
        · exact hj.out j h
        · obtain rfl : j = k := by omega
          exact Hf.out), hb1'.drew⟩
      case measure => simp [intOf]; omega

end Go.Proofs.YtpfohfihkmjnaaaGreatDoor
namespace Go.Proofs.YtpfohfihkmjnaaaGreatDoor
open Go.RowKit

theorem cut32_any (s : Str) (w : World) (hs : s.length ≤ 100000) :
    Calls Tryz.prog 158 #[S s, .int .u8 32] w fun e w' => ∃ v', e = .returned v' ∧ Own encS 9 1 w.heap.size w' v' (cutAt 32 s) ∧ Below w.heap.size w w' := refCut_any s 32 w hs
theorem cut10_any (s : Str) (w : World) (hs : s.length ≤ 100000) :
    Calls Tryz.prog 158 #[S s, .int .u8 10] w fun e w' => ∃ v', e = .returned v' ∧ Own encS 9 1 w.heap.size w' v' (cutAt 10 s) ∧ Below w.heap.size w w' := refCut_any s 10 w hs

end Go.Proofs.YtpfohfihkmjnaaaGreatDoor
namespace Go.Proofs.YtpfohfihkmjnaaaGreatDoor
open Go.RowKit

theorem Own.stays {α : Type} {enc : α → List Value} {sz : Nat} {w w' : World} {v : Value} {l : List α} {e : TypeId} {B : Nat} (hen : Enc enc sz) (h : Own enc e sz B w v l) (hw : ∀ p : Addr, B ≤ p.block → w'.cell? p = w.cell? p) : At enc sz w' v l := by
  rcases Nat.eq_zero_or_pos l.length with h0 | h0
  · obtain ⟨a, c, b, o, hv, ha, hc, hm, hx⟩ := h.at hen
    exact ⟨a, c, b, o, hv, ha, hc, hm, fun k x hk => absurd (List.getElem?_eq_some_iff.1 hk).1 (by omega)⟩
  · obtain ⟨g', cap, cur, rfl, hB, _, hc, hm, _, _⟩ := h.open h0
    refine ⟨_, cap, g', 0, rfl, fun _ => rfl, hc, hm, fun k x hk j u hu => ?_⟩
    have h1 := h.cells hen k x hk j u hu
    rw [Nat.zero_add]
    exact (hw ⟨g', k * sz + j, none⟩ hB).trans h1

theorem fault_tc {fn : Func} {u p : Tmp} (h : fn.results = #[.tmp u, .cell p 58]) {tmps : Array Value} {w : World} {g : Nat} {c q : Int} {v : Value} (hp : tmps.getD p undef = .pointer (some ⟨g, 0, none⟩)) (hg : w.heap[g]? = some (.cells #[.int .i64 c, .int .i64 q] 58 (0, 0))) (hv : tmps.getD u undef = v) :
    (results fn tmps).run Tryz.prog w = .ok (.tuple #[v, faultV c q]) w :=
  results_tmp_cell h tmps w g 58 #[.int .i64 c, .int .i64 q] (0, 0) _ hp hg Tryz.underlying58 rfl (by kernel_rfl) hv
end Go.Proofs.YtpfohfihkmjnaaaGreatDoor
namespace Go.Proofs.YtpfohfihkmjnaaaGreatDoor
open Go.RowKit

theorem listCheck_code {l : List Fl} (h : listCheck l ≠ .nil) : 0 < (listCheck l).code := by
  unfold listCheck at h ⊢
  split
  · decide
  · rename_i h0
    rw [if_neg h0] at h
    exact firstFrom_code h
theorem FilesAt.away {w : World} {v : Value} {l : List Fl} {g : Nat} {x y : Int} {t : TypeId} (h : FilesAt w v l) (hg : w.heap[g]? = some (.cells #[.int .i64 x, .int .i64 y] t (0, 0))) (a b : Value) : FilesAt ((w.setCell ⟨g, 0, none⟩ a).setCell ⟨g, 1, none⟩ b) v l := by
  obtain ⟨a', c, b', o, hv, ha, hc, hm, hx⟩ := h
  refine ⟨a', c, b', o, hv, ha, hc, hm, fun k z hk j u hu => ?_⟩
  have h0 := hx k z hk 0 _ rfl
  have h1 := hx k z hk j u hu
  have hne : b' ≠ g := by
    rintro rfl
    simp only [World.cell?, hg] at h0
    generalize o + k * 6 + 0 = i at h0
    match i with
    | 0 => simp at h0
    | 1 => simp at h0
    | n + 2 => simp at h0
  rw [World.cell?_setCell_other _ _ _ _ (fun e => hne (by have h := congrArg Addr.block e; first | exact h | exact h.symm)), World.cell?_setCell_other _ _ _ _ (fun e => hne (by have h := congrArg Addr.block e; first | exact h | exact h.symm))]
  exact h1
end Go.Proofs.YtpfohfihkmjnaaaGreatDoor
namespace Go.Proofs.YtpfohfihkmjnaaaGreatDoor
open Go.RowKit

theorem keyP_inj {p q : Str} (hp : pathF p ≠ none) (hq : pathF q ≠ none) (h : keyP p = keyP q) : p = q := by
  cases h1 : pathF p with
  | none => exact absurd h1 hp
  | some a =>
    cases h2 : pathF q with
    | none => exact absurd h2 hq
    | some b =>
      obtain ⟨k, n⟩ := a
      obtain ⟨k', n'⟩ := b
      obtain ⟨e1, k1, n1, m1⟩ := pathF_form h1
      obtain ⟨e2, k2, n2, m2⟩ := pathF_form h2
      have hg : ¬ kGone = kData := by decide
      unfold keyP at h
      rw [h1, h2] at h
      simp only at h
      rcases k1 with rfl | rfl <;> rcases k2 with rfl | rfl
      · rw [if_pos rfl, if_pos rfl] at h
        obtain rfl : n = n' := by omega
        rw [e1, e2]
      · rw [if_pos rfl, if_neg hg] at h; omega
      · rw [if_neg hg, if_pos rfl] at h; omega
      · rw [if_neg hg, if_neg hg] at h
        obtain rfl : n = n' := by omega
        rw [e1, e2]
theorem checkF_path {f : Fl} (h : checkF f = 0) : pathF f.path ≠ none := by
  obtain ⟨k, n, hp, -, -⟩ := checkF_zero h
  rw [hp]; exact fun e => by cases e
theorem there_find {l : List Fl} {f : Fl} (hR : RightL l) (hf : checkF f = 0) : thereF l f ↔ 0 ≤ findV l f.path := by
  rw [find_mem]
  constructor
  · rintro ⟨g, hg, hk⟩
    exact ⟨g, hg, keyP_inj (checkF_path (hR.ok g hg)) (checkF_path hf) hk⟩
  · rintro ⟨g, hg, hp⟩
    exact ⟨g, hg, by rw [hp]⟩
end Go.Proofs.YtpfohfihkmjnaaaGreatDoor
namespace Go.Proofs.YtpfohfihkmjnaaaGreatDoor
open Go.RowKit

/-- A change. -/
structure Tx where
  base : Sn
  adds : List Fl
  removes : List Str

def addTE (t : Tx) (f : Fl) : Nat := if checkF { f with seq := 1 } ≠ 0 then checkF { f with seq := 1 } else if 0 ≤ findV t.adds f.path then 7 else 0
def addT (t : Tx) (f : Fl) : Tx := if addTE t f = 0 then { t with adds := t.adds ++ [{ f with seq := 1 }] } else t
def remTE (t : Tx) (p : Str) : Nat := if findV t.base.files p < 0 then 6 else if p ∈ t.removes then 7 else 0
def remT (t : Tx) (p : Str) : Tx := if remTE t p = 0 then { t with removes := t.removes ++ [p] } else t
def goneT (t : Tx) (now : List Fl) : Bool := t.removes.any fun s => decide (findV now s < 0)
def thereT (t : Tx) (now : List Fl) : Bool := t.adds.any fun f => decide (0 ≤ findV now f.path)
def delT (t : Tx) : Bool := t.adds.any fun f => f.part == [45]
def opT (t : Tx) : Str := if t.removes ≠ [] then kRewrite else if delT t = true then kDelete else kAppend
def seqT (t : Tx) (op : Str) (seq : Int) (f : Fl) : Fl := { f with seq := if op = kRewrite ∧ f.part ≠ [45] then t.base.seq else seq }
def keptT (t : Tx) (now : List Fl) : List Fl := now.filter fun f => !decide (f.path ∈ t.removes)
def newT (t : Tx) (op : Str) (seq : Int) : List Fl := t.adds.map (seqT t op seq)
def placeAll (xs l : List Fl) : List Fl := xs.foldl (fun l x => placeF x l) l
def filesT (t : Tx) (now : List Fl) (op : Str) (seq : Int) : List Fl := placeAll (newT t op seq) (keptT t now)
def snapT (t : Tx) (now : Sn) (id day index : Int) : Sn := ⟨id, now.id, now.seq + 1, day, index, opT t, filesT t now.files (opT t) (now.seq + 1)⟩
def commitE (t : Tx) (now : Sn) (id day index : Int) : Er :=
  if snapCheck now ≠ .nil then snapCheck now else if goneT t now.files = true then .bare 11 else if thereT t now.files = true then .bare 7 else (snapCheck (snapT t now id day index)).noPlace
def commitS (t : Tx) (now : Sn) (id day index : Int) : Sn := if commitE t now id day index = .nil then snapT t now id day index else zeroSn

theorem findV_neg {l : List Fl} {p : Str} : findV l p < 0 ↔ ∀ f ∈ l, f.path ≠ p := by
  unfold findV idxVal
  cases h : l.findIdx? (fun f => f.path == p) with
  | none =>
    rw [List.findIdx?_eq_none_iff] at h
    simp only [beq_eq_false_iff_ne] at h
    exact ⟨fun _ => h, fun _ => by decide⟩
  | some i =>
    obtain ⟨h1, h2, -⟩ := List.findIdx?_eq_some_iff_getElem.1 h
    constructor
    · intro h3; simp only at h3; omega
    · intro h3; exact absurd (by simpa using h2) (h3 l[i] (List.getElem_mem h1))
theorem findV_pos {l : List Fl} {p : Str} : 0 ≤ findV l p ↔ ∃ f ∈ l, f.path = p := by
  constructor
  · intro h
    apply Classical.byContradiction
    intro hn
    have : findV l p < 0 := findV_neg.2 fun f hf e => hn ⟨f, hf, e⟩
    omega
  · rintro ⟨f, hf, e⟩
    apply Classical.byContradiction
    intro hn
    exact findV_neg.1 (by omega) f hf e

theorem placeF_perm (f : Fl) : ∀ l : List Fl, (placeF f l).Perm (f :: l)
  | [] => .refl _
  | g :: r => by
    unfold placeF
    split
    · exact .refl _
    · exact ((placeF_perm f r).cons g).trans (List.Perm.swap f g r)
theorem mem_placeF {f g : Fl} {l : List Fl} : g ∈ placeF f l ↔ g = f ∨ g ∈ l := by rw [(placeF_perm f l).mem_iff]; simp
theorem placeF_len (f : Fl) (l : List Fl) : (placeF f l).length = l.length + 1 := by rw [(placeF_perm f l).length_eq]; simp
abbrev UpF (l : List Fl) : Prop := l.Pairwise (fun a b => keyP a.path < keyP b.path)
theorem placeF_up {f : Fl} : ∀ {l : List Fl}, UpF l → (∀ g ∈ l, keyP g.path ≠ keyP f.path) → UpF (placeF f l)
  | [], _, _ => by simp [placeF, UpF]
  | g :: r, h, hn => by
    obtain ⟨h1, h2⟩ := List.pairwise_cons.1 h
    unfold placeF
    have hne := hn g (by simp)
    split
    · rename_i hle
      refine List.pairwise_cons.2 ⟨fun x hx => ?_, h⟩
      rcases List.mem_cons.1 hx with rfl | hx
      · omega
      · have := h1 x hx; omega
    · rename_i hle
      refine List.pairwise_cons.2 ⟨fun x hx => ?_, placeF_up h2 fun x hx => hn x (by simp [hx])⟩
      rcases mem_placeF.1 hx with rfl | hx
      · omega
      · exact h1 x hx
theorem placeAll_cons (x : Fl) (xs l : List Fl) : placeAll (x :: xs) l = placeAll xs (placeF x l) := rfl
theorem placeAll_snoc (x : Fl) (xs l : List Fl) : placeAll (xs ++ [x]) l = placeF x (placeAll xs l) := by unfold placeAll; rw [List.foldl_append]; rfl
theorem placeAll_perm : ∀ (xs l : List Fl), (placeAll xs l).Perm (l ++ xs)
  | [], l => by rw [List.append_nil]; exact .refl _
  | x :: xs, l => by
    rw [placeAll_cons]
    refine (placeAll_perm xs _).trans (((placeF_perm x l).append_right xs).trans ?_)
    exact (List.perm_middle (a := x) (l₁ := l) (l₂ := xs)).symm
theorem placeAll_up : ∀ {xs l : List Fl}, UpF l → xs.Pairwise (fun a b => keyP a.path ≠ keyP b.path) → (∀ x ∈ xs, ∀ g ∈ l, keyP g.path ≠ keyP x.path) → UpF (placeAll xs l)
  | [], _, h, _, _ => h
  | x :: xs, l, h, hp, hn => by
    obtain ⟨h1, h2⟩ := List.pairwise_cons.1 hp
    rw [placeAll_cons]
    refine placeAll_up (placeF_up h (hn x (by simp))) h2 fun y hy g hg => ?_
    rcases mem_placeF.1 hg with rfl | hg
    · exact h1 y hy
    · exact hn y (by simp [hy]) g hg
/-- What is in order, and rising, is one list. -/
theorem upF_unique : ∀ {m n : List Fl}, m.Perm n → m.Pairwise (fun a b => keyP a.path ≤ keyP b.path) → UpF n → m = n
  | [], n, hp, _, _ => hp.nil_eq.symm ▸ rfl
  | a :: m, [], hp, _, _ => absurd hp.length_eq (by simp)
  | a :: m, b :: n, hp, hm, hn => by
    obtain ⟨h1, h2⟩ := List.pairwise_cons.1 hm
    obtain ⟨h3, h4⟩ := List.pairwise_cons.1 hn
    have hb : b ∈ a :: m := hp.mem_iff.2 (by simp)
    have ha : a ∈ b :: n := hp.mem_iff.1 (by simp)
    have hab : a = b := by
      rcases List.mem_cons.1 ha with h | h
      · exact h
      · have := h3 a h
        rcases List.mem_cons.1 hb with h' | h'
        · exact h'.symm
        · have := h1 b h'; omega
    subst hab
    rw [upF_unique (List.Perm.cons_inv hp) h2 h4]

/-- A change that was begun, and its files and names. -/
structure TxOk (t : Tx) : Prop where
  base : RightSn t.base
  ok : ∀ f ∈ t.adds, checkF f = 0
  dif : t.adds.Pairwise (fun a b => a.path ≠ b.path)
  rem : ∀ p ∈ t.removes, 0 ≤ findV t.base.files p
  nod : t.removes.Nodup
def beginT (s : Sn) : Tx := ⟨s, [], []⟩
theorem beginT_ok {s : Sn} (h : RightSn s) : TxOk (beginT s) :=
  ⟨h, fun _ h => (by cases h), List.Pairwise.nil, fun _ h => (by cases h), List.nodup_nil⟩
theorem addTE_zero {t : Tx} {f : Fl} (h : addTE t f = 0) : checkF { f with seq := 1 } = 0 ∧ ∀ g ∈ t.adds, g.path ≠ f.path := by
  unfold addTE at h
  split at h
  · rename_i h1; exact absurd h h1
  · rename_i h1
    split at h
    · cases h
    · rename_i h2
      exact ⟨Decidable.not_not.1 h1, findV_neg.1 (by omega)⟩
theorem addT_ok {t : Tx} (h : TxOk t) (f : Fl) : TxOk (addT t f) := by
  unfold addT
  split
  · rename_i h0
    obtain ⟨h1, h2⟩ := addTE_zero h0
    refine ⟨h.base, fun g hg => ?_, ?_, h.rem, h.nod⟩
    · rcases List.mem_append.1 hg with hg | hg
      · exact h.ok g hg
      · rw [List.mem_singleton.1 hg]; exact h1
    · refine List.pairwise_append.2 ⟨h.dif, by simp, fun a ha b hb => ?_⟩
      rw [List.mem_singleton.1 hb]
      exact h2 a ha
  · exact h
theorem remTE_zero {t : Tx} {p : Str} (h : remTE t p = 0) : 0 ≤ findV t.base.files p ∧ p ∉ t.removes := by
  unfold remTE at h
  split at h
  · cases h
  · rename_i h1
    split at h
    · cases h
    · rename_i h2
      exact ⟨by omega, h2⟩
theorem remT_ok {t : Tx} (h : TxOk t) (p : Str) : TxOk (remT t p) := by
  unfold remT
  split
  · rename_i h0
    obtain ⟨h1, h2⟩ := remTE_zero h0
    refine ⟨h.base, h.ok, h.dif, fun q hq => ?_, ?_⟩
    · rcases List.mem_append.1 hq with hq | hq
      · exact h.rem q hq
      · rw [List.mem_singleton.1 hq]; exact h1
    · exact List.nodup_append.2 ⟨h.nod, by simp, fun a ha b hb e => by
        rw [List.mem_singleton.1 hb] at e
        exact h2 (e ▸ ha)⟩
  · exact h
theorem addT_base (t : Tx) (f : Fl) : (addT t f).base = t.base := by unfold addT; split <;> rfl
theorem remT_base (t : Tx) (p : Str) : (remT t p).base = t.base := by unfold remT; split <;> rfl

theorem thereT_false {t : Tx} {now : List Fl} (h : thereT t now = false) : ∀ f ∈ t.adds, ∀ g ∈ now, g.path ≠ f.path := fun f hf => by
  have := List.any_eq_false.1 h f hf
  simp only [decide_eq_true_eq] at this
  exact findV_neg.1 (by omega)
theorem goneT_false {t : Tx} {now : List Fl} (h : goneT t now = false) : ∀ p ∈ t.removes, ∃ g ∈ now, g.path = p := fun p hp => by
  have := List.any_eq_false.1 h p hp
  simp only [decide_eq_true_eq] at this
  exact findV_pos.1 (by omega)
theorem newT_paths (t : Tx) (op : Str) (seq : Int) : (newT t op seq).map (·.path) = t.adds.map (·.path) := by
  unfold newT; rw [List.map_map]; rfl
theorem keptT_up {t : Tx} {now : List Fl} (h : RightL now) : UpF (keptT t now) := h.ris.filter _
theorem newT_dif {t : Tx} (h : TxOk t) (op : Str) (seq : Int) : (newT t op seq).Pairwise (fun a b => keyP a.path ≠ keyP b.path) := by
  unfold newT
  rw [List.pairwise_map]
  refine h.dif.imp_of_mem fun {a b} ha hb hne e => hne ?_
  exact keyP_inj (checkF_path (h.ok a ha)) (checkF_path (h.ok b hb)) e
theorem newT_off {t : Tx} {now : List Fl} (h : TxOk t) (hr : RightL now) (hn : thereT t now = false) (op : Str) (seq : Int) : ∀ x ∈ newT t op seq, ∀ g ∈ keptT t now, keyP g.path ≠ keyP x.path := by
  intro x hx g hg e
  obtain ⟨f, hf, rfl⟩ := List.mem_map.1 hx
  have hg' := (List.mem_filter.1 hg).1
  exact thereT_false hn f hf g hg' (keyP_inj (checkF_path (hr.ok g hg')) (checkF_path (h.ok f hf)) e)
theorem filesT_up {t : Tx} {now : List Fl} (h : TxOk t) (hr : RightL now) (hn : thereT t now = false) (op : Str) (seq : Int) : UpF (filesT t now op seq) :=
  placeAll_up (keptT_up hr) (newT_dif h op seq) (newT_off h hr hn op seq)
theorem filesT_perm (t : Tx) (now : List Fl) (op : Str) (seq : Int) : (filesT t now op seq).Perm (keptT t now ++ newT t op seq) := placeAll_perm _ _
/-- What the program sorts is what the document places. -/
theorem filesT_sorted {t : Tx} {now m : List Fl} (h : TxOk t) (hr : RightL now) (hn : thereT t now = false) (op : Str) (seq : Int) (hp : m.Perm (keptT t now ++ newT t op seq)) (hm : m.Pairwise (fun a b => keyP a.path ≤ keyP b.path)) : m = filesT t now op seq :=
  upF_unique (hp.trans (filesT_perm t now op seq).symm) hm (filesT_up h hr hn op seq)
/-- What is dropped one by one. -/
theorem drops_kept : ∀ (ps : List Str) (l : List Fl), ps.foldl dropF l = l.filter (fun f => !decide (f.path ∈ ps))
  | [], l => (List.filter_eq_self.2 fun _ _ => by simp).symm
  | p :: ps, l => by
    rw [List.foldl_cons, drops_kept ps, dropF, List.filter_filter]
    refine List.filter_congr fun f _ => ?_
    by_cases h : f.path = p <;> simp [h]
end Go.Proofs.YtpfohfihkmjnaaaGreatDoor
namespace Go.Proofs.YtpfohfihkmjnaaaGreatDoor
open Go.RowKit

theorem noPlace_eq_nil {er : Er} : er.noPlace = .nil ↔ er = .nil := by cases er <;> simp [Er.noPlace]
/-- A commit that was done. -/
theorem commit_nil {t : Tx} {now : Sn} {id day index : Int} (h : commitE t now id day index = .nil) :
    RightSn now ∧ goneT t now.files = false ∧ thereT t now.files = false ∧ RightSn (snapT t now id day index) ∧ commitS t now id day index = snapT t now id day index := by
  have hS : commitS t now id day index = snapT t now id day index := if_pos h
  unfold commitE at h
  split at h
  · rename_i h1; exact absurd h h1
  rename_i h1
  split at h
  · cases h
  rename_i h2
  split at h
  · cases h
  rename_i h3
  exact ⟨(snap_iff _).1 (Decidable.not_not.1 h1), by simpa using h2, by simpa using h3, (snap_iff _).1 (noPlace_eq_nil.1 h), hS⟩

theorem UpF.paths {l : List Fl} (h : UpF l) : (l.map (·.path)).Nodup := by
  unfold List.Nodup
  rw [List.pairwise_map]
  exact h.imp fun hlt e => by rw [e] at hlt; omega
theorem path_one {l : List Fl} (h : UpF l) {f g : Fl} (hf : f ∈ l) (hg : g ∈ l) (e : f.path = g.path) : f = g := by
  obtain ⟨i, hi, rfl⟩ := List.getElem_of_mem hf
  obtain ⟨j, hj, rfl⟩ := List.getElem_of_mem hg
  rcases Nat.lt_trichotomy i j with h1 | rfl | h1
  · have := List.pairwise_iff_getElem.1 h i j hi hj h1
    rw [e] at this; omega
  · rfl
  · have := List.pairwise_iff_getElem.1 h j i hj hi h1
    rw [e] at this; omega
/-- What a name finds in a rising list. -/
theorem find_one {l : List Fl} (h : UpF l) {f : Fl} (hf : f ∈ l) : ∃ k : Nat, findV l f.path = k ∧ l[k]? = some f := by
  have h0 : 0 ≤ findV l f.path := findV_pos.2 ⟨f, hf, rfl⟩
  unfold findV idxVal at *
  cases hi : l.findIdx? (fun g => g.path == f.path) with
  | none => rw [hi] at h0; simp at h0
  | some i =>
    obtain ⟨h1, h2, -⟩ := List.findIdx?_eq_some_iff_getElem.1 hi
    refine ⟨i, rfl, ?_⟩
    rw [List.getElem?_eq_getElem h1, path_one h (List.getElem_mem h1) hf (by simpa using h2)]
theorem kept_len {l : List Fl} {ps : List Str} (h : UpF l) (hn : ps.Nodup) (hs : ∀ p ∈ ps, ∃ g ∈ l, g.path = p) : (l.filter fun f => !decide (f.path ∈ ps)).length + ps.length = l.length := by
  have h1 : ((l.filter fun f => decide (f.path ∈ ps)).map (·.path)).Perm ps := by
    refine (List.perm_ext_iff_of_nodup ?_ hn).2 fun p => ?_
    · exact ((UpF.paths h).sublist ((List.filter_sublist (l := l)).map _))
    · simp only [List.mem_map, List.mem_filter, decide_eq_true_eq]
      constructor
      · rintro ⟨f, ⟨-, h2⟩, rfl⟩; exact h2
      · intro hp
        obtain ⟨g, hg, rfl⟩ := hs p hp
        exact ⟨g, ⟨hg, hp⟩, rfl⟩
  have h2 := h1.length_eq
  rw [List.length_map] at h2
  have h3 := (List.filter_append_perm (fun f : Fl => decide (f.path ∈ ps)) l).length_eq
  rw [List.length_append] at h3
  omega

/-- A path added by a change, or taken by it. -/
def addedT (t : Tx) : List Str := t.adds.map (·.path)
theorem mem_filesT {t : Tx} {now : List Fl} {op : Str} {seq : Int} {g : Fl} : g ∈ filesT t now op seq ↔ (g ∈ now ∧ g.path ∉ t.removes) ∨ g ∈ newT t op seq := by
  rw [(filesT_perm t now op seq).mem_iff, List.mem_append]
  unfold keptT
  simp [List.mem_filter]
theorem mem_newT_path {t : Tx} {op : Str} {seq : Int} {g : Fl} (h : g ∈ newT t op seq) : g.path ∈ addedT t := by
  have : g.path ∈ (newT t op seq).map (·.path) := List.mem_map_of_mem h
  rwa [newT_paths] at this
theorem mem_addedT {t : Tx} {op : Str} {seq : Int} {p : Str} (h : p ∈ addedT t) : ∃ g ∈ newT t op seq, g.path = p := by
  have : p ∈ (newT t op seq).map (·.path) := by rw [newT_paths]; exact h
  obtain ⟨g, hg, e⟩ := List.mem_map.1 this
  exact ⟨g, hg, e⟩
theorem filesT_len {t : Tx} {now : List Fl} {op : Str} {seq : Int} (h : TxOk t) (hr : RightL now) (hg : goneT t now = false) : (filesT t now op seq).length + t.removes.length = now.length + t.adds.length := by
  have h1 := (filesT_perm t now op seq).length_eq
  have h2 := kept_len (ps := t.removes) hr.ris h.nod (goneT_false hg)
  rw [List.length_append] at h1
  unfold keptT newT at h1
  rw [List.length_map] at h1
  omega

/-- KUNG and ROBINSON: two changes of one base, one behind the other. -/
structure TwoDone (base s : Sn) (t u : Tx) (id : Int) : Prop where
  parent : s.parent = id
  seq : s.seq = base.seq + 2
  check : snapCheck s = .nil
  kept : ∀ f ∈ base.files, ¬ (f.path ∈ t.removes ++ u.removes ∧ f.path ∈ addedT t ++ addedT u) → (f.path ∈ t.removes ++ u.removes ↔ findV s.files f.path < 0) ∧ (∀ k : Nat, findV s.files f.path = k → s.files[k]? = some f)
  added : ∀ p ∈ addedT t ++ addedT u, 0 ≤ findV s.files p
  len : s.files.length + (t.removes ++ u.removes).length = base.files.length + (addedT t ++ addedT u).length
theorem two_done {base : Sn} {t u : Tx} {id id2 day index : Int} (ht : TxOk t) (hu : TxOk u) (hub : u.base = base) (h1 : commitE t base id day index = .nil) (h2 : commitE u (commitS t base id day index) id2 day index = .nil) :
    TwoDone base (commitS u (commitS t base id day index) id2 day index) t u id := by
  obtain ⟨r1, g1, e1, q1, s1⟩ := commit_nil h1
  rw [s1] at h2 ⊢
  obtain ⟨r2, g2, e2, q2, s2⟩ := commit_nil h2
  rw [s2]
  have hF1 : (snapT t base id day index).files = filesT t base.files (opT t) (base.seq + 1) := rfl
  have hF2 : (snapT u (snapT t base id day index) id2 day index).files = filesT u (filesT t base.files (opT t) (base.seq + 1)) (opT u) (base.seq + 1 + 1) := rfl
  rw [hF1] at g2 e2
  have hup := filesT_up hu (hF1 ▸ r2.lst) e2 (opT u) (base.seq + 1 + 1)
  refine ⟨rfl, by show base.seq + 1 + 1 = _; omega, (snap_iff _).2 q2, fun f hf hna => ?_, fun p hp => ?_, ?_⟩
  · rw [hF2]
    by_cases hg : f.path ∈ t.removes ++ u.removes
    · have hnp : f.path ∉ addedT t ++ addedT u := fun h => hna ⟨hg, h⟩
      have hneg : findV (filesT u (filesT t base.files (opT t) (base.seq + 1)) (opT u) (base.seq + 1 + 1)) f.path < 0 := by
        refine findV_neg.2 fun g hgm e => ?_
        rcases mem_filesT.1 hgm with ⟨h3, h4⟩ | h3
        · rcases mem_filesT.1 h3 with ⟨h5, h6⟩ | h5
          · rw [e] at h4 h6
            rcases List.mem_append.1 hg with h | h
            · exact h6 h
            · exact h4 h
          · exact hnp (List.mem_append_left _ (e ▸ mem_newT_path h5))
        · exact hnp (List.mem_append_right _ (e ▸ mem_newT_path h3))
      exact ⟨⟨fun _ => hneg, fun _ => hg⟩, fun k hk => by omega⟩
    · have hmem : f ∈ filesT u (filesT t base.files (opT t) (base.seq + 1)) (opT u) (base.seq + 1 + 1) :=
        mem_filesT.2 (.inl ⟨mem_filesT.2 (.inl ⟨hf, fun h => hg (List.mem_append_left _ h)⟩), fun h => hg (List.mem_append_right _ h)⟩)
      obtain ⟨k, hk, hk2⟩ := find_one hup hmem
      refine ⟨⟨fun h => absurd h hg, fun h => by omega⟩, fun j hj => ?_⟩
      obtain rfl : j = k := by omega
      exact hk2
  · rw [hF2]
    rcases List.mem_append.1 hp with hp | hp
    · obtain ⟨g, hg, rfl⟩ := mem_addedT (op := opT t) (seq := base.seq + 1) hp
      have hg1 : g ∈ filesT t base.files (opT t) (base.seq + 1) := mem_filesT.2 (.inr hg)
      refine findV_pos.2 ⟨g, mem_filesT.2 (.inl ⟨hg1, fun hr => ?_⟩), rfl⟩
      obtain ⟨b, hb, e⟩ := findV_pos.1 (hub ▸ hu.rem _ hr)
      obtain ⟨f, hf, rfl⟩ := List.mem_map.1 hg
      exact thereT_false e1 f hf b hb e
    · obtain ⟨g, hg, rfl⟩ := mem_addedT (op := opT u) (seq := base.seq + 1 + 1) hp
      exact findV_pos.2 ⟨g, mem_filesT.2 (.inr hg), rfl⟩
  · rw [hF2]
    have l1 := filesT_len (op := opT t) (seq := base.seq + 1) ht r1.lst g1
    have l2 := filesT_len (op := opT u) (seq := base.seq + 1 + 1) hu (hF1 ▸ r2.lst) g2
    unfold addedT
    rw [List.length_append, List.length_append, List.length_map, List.length_map]
    omega
end Go.Proofs.YtpfohfihkmjnaaaGreatDoor
namespace Go.Proofs.YtpfohfihkmjnaaaGreatDoor
open Go.RowKit

/-- A name's text among objects. -/
def textO (os : List Ob) (p : Str) : Str := ((getO os p).map (·.text)).getD []
/-- A file's error, by its number. -/
def fileE (os : List Ob) (f : Fl) : Nat :=
  if (getO os f.path).isNone then 6
  else if (ofText f.path f.part (textO os f.path) f.seq).2 ≠ 0 then (ofText f.path f.part (textO os f.path) f.seq).2
  else if (ofText f.path f.part (textO os f.path) f.seq).1 ≠ f then 3 else 0
def isG (f : Fl) : Bool := f.part == [45]
def rowsO (os : List Ob) (f : Fl) : List Rw := if isG f then [] else dataL (textO os f.path)
def keysO (os : List Ob) (f : Fl) : List Int := if isG f then goneL (textO os f.path) else []
def scanF (os : List Ob) (lo hi : Int) (files : List Fl) (i : Nat) : Nat :=
  match files[i]? with
  | none => 0
  | some f => if pruneP lo hi f then 0 else fileE os f
def rowsE (os : List Ob) (s : Sn) (lo hi : Int) : Er := if snapCheck s ≠ .nil then snapCheck s else firstErr (scanF os lo hi s.files) s.files.length
/-- Is a key of a file of that Seq gone? -/
def killed (os : List Ob) (l : List Fl) (q k : Int) : Bool := l.any fun g => decide (q < g.seq) && decide (k ∈ keysO os g)
def leftO (os : List Ob) (l : List Fl) (lo hi : Int) (f : Fl) : List Rw := (withinR (rowsO os f) lo hi).filter fun x => !killed os l f.seq x.key
def allO (os : List Ob) (l : List Fl) (lo hi : Int) : List Rw := l.flatMap (leftO os l lo hi)
def rowsL (os : List Ob) (s : Sn) (lo hi : Int) : List Rw := if rowsE os s lo hi = .nil then sortR (allO os (pruneL s.files lo hi) lo hi) else []

theorem ofText_inv {p pt s : Str} {sq : Int} (h : (ofText p pt s sq).2 = 0) : pathF p ≠ none ∧ (keysE (kindF p) s).code = 0 ∧ checkF (ofFile p pt s sq) = 0 ∧ (ofText p pt s sq).1 = ofFile p pt s sq := by
  unfold ofText at *
  split at h
  · cases h
  rename_i h1
  rw [if_neg h1] at *
  split at h
  · rename_i h2; exact absurd h h2
  rename_i h2
  rw [if_neg h2] at *
  split at h
  · rename_i h3; exact absurd h h3
  rename_i h3
  rw [if_neg h3]
  exact ⟨h1, Decidable.not_not.1 h2, Decidable.not_not.1 h3, rfl⟩
theorem fileE_zero {os : List Ob} {f : Fl} (h : fileE os f = 0) : (∃ o, getO os f.path = some o) ∧ ofText f.path f.part (textO os f.path) f.seq = (f, 0) := by
  unfold fileE at h
  split at h
  · cases h
  rename_i h1
  split at h
  · rename_i h2; exact absurd h h2
  rename_i h2
  split at h
  · cases h
  rename_i h3
  refine ⟨?_, Prod.ext (Decidable.not_not.1 h3) (Decidable.not_not.1 h2)⟩
  cases hg : getO os f.path with
  | none => rw [hg] at h1; simp at h1
  | some o => exact ⟨o, rfl⟩
theorem fileE_of {os : List Ob} {f : Fl} {o : Ob} (h : getO os f.path = some o) (h2 : ofText f.path f.part o.text f.seq = (f, 0)) : fileE os f = 0 := by
  have ht : textO os f.path = o.text := by unfold textO; rw [h]; rfl
  unfold fileE
  rw [ht, h2, h]
  simp
theorem isG_kind {f : Fl} (h : checkF f = 0) : (isG f = true ∧ kindF f.path = kGone) ∨ (isG f = false ∧ kindF f.path = kData) := by
  obtain ⟨k, n, hp, hpt, -⟩ := checkF_zero h
  have hk : kindF f.path = k := by unfold kindF; rw [hp]; rfl
  rw [hk]
  rcases (pathF_some hp).1 with rfl | rfl
  · refine .inr ⟨?_, rfl⟩
    unfold isG
    rw [beq_eq_false_iff_ne]
    intro e
    rw [e] at hpt
    exact absurd hpt (by decide)
  · refine .inl ⟨?_, rfl⟩
    unfold partOk at hpt
    rw [if_pos rfl] at hpt
    exact hpt
/-- A file that can be read: what is known of it is so. -/
theorem read_known {os : List Ob} {f : Fl} (h : fileE os f = 0) :
    checkF f = 0 ∧ (isG f = true → goneE (textO os f.path) = .nil ∧ keysO os f ≠ [] ∧ endsI (keysO os f) = (f.lo, f.hi)) ∧ (isG f = false → dataE (textO os f.path) = .nil ∧ keysR (rowsO os f) ≠ [] ∧ endsI (keysR (rowsO os f)) = (f.lo, f.hi)) := by
  obtain ⟨-, h1⟩ := fileE_zero h
  obtain ⟨hp, hk, hc, he⟩ := ofText_inv (by rw [h1])
  rw [h1] at he
  have he' : f = ofFile f.path f.part (textO os f.path) f.seq := he
  rw [← he'] at hc
  have hn : (f.n : Int) = ((keysL (kindF f.path) (textO os f.path)).length : Int) := congrArg Fl.n he'
  have hlo : f.lo = (endsI (keysL (kindF f.path) (textO os f.path))).1 := congrArg Fl.lo he'
  have hhi : f.hi = (endsI (keysL (kindF f.path) (textO os f.path))).2 := congrArg Fl.hi he'
  obtain ⟨k, n, -, -, hb⟩ := checkF_zero hc
  have hn1 : 1 ≤ f.n := by unfold boundF at hb; omega
  have hne : keysL (kindF f.path) (textO os f.path) ≠ [] := by intro e; rw [e] at hn; simp at hn; omega
  have hends : endsI (keysL (kindF f.path) (textO os f.path)) = (f.lo, f.hi) := by rw [hlo, hhi]
  refine ⟨hc, fun hg => ?_, fun hg => ?_⟩
  · rcases isG_kind hc with ⟨-, hkd⟩ | ⟨h', -⟩
    · rw [hkd] at hk hne hends
      have e1 : keysL kGone (textO os f.path) = keysO os f := by unfold keysL keysO; rw [if_pos rfl, if_pos hg]
      rw [e1] at hne hends
      refine ⟨?_, hne, hends⟩
      unfold keysE at hk
      rw [if_pos rfl] at hk
      unfold goneL at e1
      apply Classical.byContradiction
      intro hbad
      unfold keysO at hne
      rw [if_pos hg] at hne
      exact hne (if_neg hbad)
    · rw [hg] at h'; cases h'
  · rcases isG_kind hc with ⟨h', -⟩ | ⟨-, hkd⟩
    · rw [hg] at h'; cases h'
    · rw [hkd] at hk hne hends
      have e1 : keysL kData (textO os f.path) = keysR (rowsO os f) := by unfold keysL rowsO; rw [if_neg (by decide), if_neg (by rw [hg]; decide)]
      rw [e1] at hne hends
      refine ⟨?_, hne, hends⟩
      apply Classical.byContradiction
      intro hbad
      unfold rowsO at hne
      rw [if_neg (by rw [hg]; decide)] at hne
      exact hne (by rw [show dataL (textO os f.path) = [] from if_neg hbad]; rfl)
theorem rowsO_range {os : List Ob} {f : Fl} (h : fileE os f = 0) : ∀ r ∈ rowsO os f, f.lo ≤ r.key ∧ r.key ≤ f.hi := by
  intro r hr
  obtain ⟨-, -, h2⟩ := read_known h
  have hg : isG f = false := by
    cases hg : isG f with
    | false => rfl
    | true => unfold rowsO at hr; rw [if_pos hg] at hr; cases hr
  obtain ⟨-, hne, he⟩ := h2 hg
  obtain ⟨-, -, h3⟩ := ends_mem hne
  have := h3 r.key (List.mem_map_of_mem hr)
  rw [he] at this
  exact this
theorem keysO_range {os : List Ob} {f : Fl} (h : fileE os f = 0) : ∀ k ∈ keysO os f, f.lo ≤ k ∧ k ≤ f.hi := by
  intro k hk
  obtain ⟨-, h1, -⟩ := read_known h
  have hg : isG f = true := by
    cases hg : isG f with
    | true => rfl
    | false => unfold keysO at hk; rw [if_neg (by rw [hg]; decide)] at hk; cases hk
  obtain ⟨-, hne, he⟩ := h1 hg
  obtain ⟨-, -, h3⟩ := ends_mem hne
  have := h3 k hk
  rw [he] at this
  exact this
theorem check_near {f : Fl} (h : checkF f = 0) : (-1073741824 ≤ f.lo ∧ f.lo ≤ f.hi ∧ f.hi ≤ 1073741824) ∧ 1 ≤ f.seq ∧ f.seq ≤ 1073741824 ∧ 1 ≤ f.n ∧ f.n ≤ 40 := by
  obtain ⟨k, n, -, -, hb⟩ := checkF_zero h
  unfold boundF farN at hb
  omega

/-- The first file that cannot be read, where the pruned ones are left out. -/
theorem scan_hit {os : List Ob} {files : List Fl} {lo hi : Int} {k : Nat} {f : Fl} (hu : UpF files) (hk : (pruneL files lo hi)[k]? = some f) (hlow : ∀ j < k, ∀ g, (pruneL files lo hi)[j]? = some g → fileE os g = 0) (hf : fileE os f ≠ 0) :
    ∃ i : Nat, findV files f.path = i ∧ firstErr (scanF os lo hi files) files.length = .loc (fileE os f) i := by
  have hul : UpF (pruneL files lo hi) := hu.filter _
  obtain ⟨hk1, hk2⟩ := List.getElem?_eq_some_iff.1 hk
  have hmem : f ∈ pruneL files lo hi := List.mem_of_getElem? hk
  have hm := List.mem_filter.1 hmem
  obtain ⟨i, hi1, hi2⟩ := find_one hu hm.1
  obtain ⟨hi3, hi4⟩ := List.getElem?_eq_some_iff.1 hi2
  refine ⟨i, hi1, ?_⟩
  have hsf : scanF os lo hi files i = fileE os f := by
    unfold scanF
    rw [hi2]
    simp only
    rw [if_neg]
    have := hm.2
    simpa using this
  rw [← hsf]
  refine firstErr_hit hi3 (fun j hj => ?_) (by rw [hsf]; exact hf)
  unfold scanF
  have hj1 : j < files.length := by omega
  rw [List.getElem?_eq_getElem hj1]
  simp only
  split
  · rfl
  · rename_i hp
    have hin : files[j] ∈ pruneL files lo hi := List.mem_filter.2 ⟨List.getElem_mem hj1, by simpa using hp⟩
    obtain ⟨m, hm1, hm2⟩ := List.getElem_of_mem hin
    have hlt := List.pairwise_iff_getElem.1 hu j i hj1 hi3 hj
    rw [hi4] at hlt
    refine hlow m ?_ _ (by rw [List.getElem?_eq_getElem hm1, hm2])
    apply Classical.byContradiction
    intro hge
    rcases Nat.lt_or_eq_of_le (Nat.le_of_not_lt hge) with h' | h'
    · have := List.pairwise_iff_getElem.1 hul k m hk1 hm1 h'
      rw [hk2, hm2] at this
      omega
    · subst h'
      rw [hk2] at hm2
      rw [hm2] at hlt
      omega
theorem scan_fine {os : List Ob} {files : List Fl} {lo hi : Int} (h : ∀ g ∈ pruneL files lo hi, fileE os g = 0) : firstErr (scanF os lo hi files) files.length = .nil := by
  refine firstErr_all fun j hj => ?_
  unfold scanF
  rw [List.getElem?_eq_getElem hj]
  simp only
  split
  · rfl
  · rename_i hp
    exact h _ (List.mem_filter.2 ⟨List.getElem_mem hj, by simpa using hp⟩)
theorem scan_nil {os : List Ob} {files : List Fl} {lo hi : Int} (h : firstErr (scanF os lo hi files) files.length = .nil) : ∀ g ∈ pruneL files lo hi, fileE os g = 0 := by
  intro g hg
  obtain ⟨h1, h2⟩ := List.mem_filter.1 hg
  obtain ⟨i, hi, rfl⟩ := List.getElem_of_mem h1
  have := firstErr_nil h i hi
  unfold scanF at this
  rw [List.getElem?_eq_getElem hi] at this
  simp only at this
  rw [if_neg (by simpa using h2)] at this
  exact this
theorem rowsE_nil {os : List Ob} {s : Sn} {lo hi : Int} (h : rowsE os s lo hi = .nil) : RightSn s ∧ ∀ g ∈ pruneL s.files lo hi, fileE os g = 0 := by
  unfold rowsE at h
  split at h
  · rename_i h1; exact absurd h h1
  · rename_i h1
    exact ⟨(snap_iff s).1 (Decidable.not_not.1 h1), scan_nil h⟩
theorem rowsE_of {os : List Ob} {s : Sn} {lo hi : Int} (h : RightSn s) (h2 : ∀ g ∈ pruneL s.files lo hi, fileE os g = 0) : rowsE os s lo hi = .nil := by
  unfold rowsE
  rw [if_neg (by rw [(snap_iff s).2 h]; simp)]
  exact scan_fine h2

/-- The document's way: file by file, rows with their Seqs. -/
def stepO (os : List Ob) (lo hi : Int) (acc : List (Rw × Int)) (f : Fl) : List (Rw × Int) :=
  if pruneP lo hi f then acc
  else if isG f then acc.filter fun x => !(decide (x.1.key ∈ goneL (textO os f.path)) && decide (x.2 < f.seq))
  else acc ++ (withinR (dataL (textO os f.path)) lo hi).map fun r => (r, f.seq)
def goOn (os : List Ob) (lo hi : Int) (l : List Fl) (acc : List (Rw × Int)) : List (Rw × Int) := l.foldl (stepO os lo hi) acc
def tagO (os : List Ob) (l : List Fl) (lo hi : Int) (f : Fl) : List (Rw × Int) := (leftO os l lo hi f).map fun r => (r, f.seq)
theorem killed_cons (os : List Ob) (f : Fl) (l : List Fl) (q k : Int) : killed os (f :: l) q k = ((decide (q < f.seq) && decide (k ∈ keysO os f)) || killed os l q k) := rfl
theorem goOn_all {os : List Ob} {lo hi : Int} : ∀ (l : List Fl) (acc : List (Rw × Int)), l.Pairwise (fun a b => isG a = true → isG b = true) →
    goOn os lo hi l acc = (acc.filter fun x => !killed os (l.filter fun f => !pruneP lo hi f) x.2 x.1.key) ++ (l.filter fun f => !pruneP lo hi f).flatMap (tagO os (l.filter fun f => !pruneP lo hi f) lo hi)
  | [], acc, _ => by
    have : (acc.filter fun _ => true) = acc := List.filter_eq_self.2 fun _ _ => rfl
    simpa [goOn, killed] using this.symm
  | f :: l, acc, h => by
    obtain ⟨h1, h2⟩ := List.pairwise_cons.1 h
    have ih := goOn_all (os := os) (lo := lo) (hi := hi) l
    show goOn os lo hi l (stepO os lo hi acc f) = _
    rw [ih _ h2]
    unfold stepO
    by_cases hp : pruneP lo hi f = true
    · rw [if_pos hp, List.filter_cons_of_neg (by rw [hp]; decide)]
    have hp' : pruneP lo hi f = false := by simpa using hp
    rw [if_neg hp, List.filter_cons_of_pos (by rw [hp']; rfl)]
    generalize hL : (l.filter fun f => !pruneP lo hi f) = L at *
    have hLm : ∀ g ∈ L, g ∈ l := fun g hg => by rw [← hL] at hg; exact (List.mem_filter.1 hg).1
    by_cases hg : isG f = true
    · rw [if_pos hg]
      have hall : ∀ g ∈ L, isG g = true := fun g hg' => h1 g (hLm g hg') hg
      have hnil : ∀ M, ∀ K : List Fl, (∀ g ∈ K, isG g = true) → K.flatMap (tagO os M lo hi) = [] := by
        intro M K hK
        rw [List.flatMap_eq_nil_iff]
        intro g hg'
        unfold tagO leftO rowsO
        rw [if_pos (hK g hg')]
        rfl
      rw [hnil L L hall, hnil (f :: L) (f :: L) (fun g hg' => by
        rcases List.mem_cons.1 hg' with rfl | h'
        · exact hg
        · exact hall g h'), List.append_nil, List.append_nil, List.filter_filter]
      refine List.filter_congr fun x _ => ?_
      rw [killed_cons]
      unfold keysO
      rw [if_pos hg]
      cases decide (x.1.key ∈ goneL (textO os f.path)) <;> cases decide (x.2 < f.seq) <;> cases L.any (fun g => decide (x.2 < g.seq) && decide (x.1.key ∈ (if isG g = true then goneL (textO os g.path) else []))) <;> simp_all [killed, keysO]
    · have hg' : isG f = false := by simpa using hg
      rw [if_neg hg]
      have hk0 : ∀ q k, killed os (f :: L) q k = killed os L q k := fun q k => by
        rw [killed_cons]
        unfold keysO
        rw [if_neg hg]
        simp
      have ht : tagO os (f :: L) lo hi = tagO os L lo hi := by
        funext g
        unfold tagO leftO
        simp only [hk0]
      rw [List.filter_append, List.flatMap_cons, ht, List.append_assoc]
      congr 1
      · refine List.filter_congr fun x _ => by rw [hk0]
      · congr 1
        unfold tagO leftO rowsO
        rw [if_neg hg, List.filter_map]
        rfl
theorem right_order {l : List Fl} (h : RightL l) : l.Pairwise (fun a b => isG a = true → isG b = true) := by
  refine h.ris.imp_of_mem fun {a b} ha hb hlt hg => ?_
  rcases isG_kind (h.ok a ha) with ⟨-, ka⟩ | ⟨h', -⟩
  · rcases isG_kind (h.ok b hb) with ⟨h', -⟩ | ⟨-, kb⟩
    · exact h'
    · exfalso
      rcases path_ways a.path with ⟨-, e, -, -⟩ | ⟨n, -, -, e, -, -⟩ | ⟨n, n1, n2, e, -, ea⟩
      · rw [ka] at e; cases e
      · rw [ka] at e; exact absurd e (by decide)
      · rcases path_ways b.path with ⟨-, e', -, -⟩ | ⟨m, m1, m2, e', -, eb⟩ | ⟨m, -, -, e', -, -⟩
        · rw [kb] at e'; cases e'
        · rw [ea, eb] at hlt; omega
        · rw [kb] at e'; exact absurd e' (by decide)
  · rw [hg] at h'; cases h'
/-- The document's rows are the program's. -/
theorem goOn_rows {os : List Ob} {lo hi : Int} {l : List Fl} (h : RightL l) : (goOn os lo hi l []).map (·.1) = allO os (pruneL l lo hi) lo hi := by
  rw [goOn_all l [] (right_order h)]
  simp only [List.filter_nil, List.nil_append]
  unfold allO pruneL
  rw [List.map_flatMap]
  congr 1
  funext f
  unfold tagO
  rw [List.map_map]
  exact List.map_id'' (fun _ => rfl) _
end Go.Proofs.YtpfohfihkmjnaaaGreatDoor
