/- Snaps in plain words. Of no program. file.Bare: an error without its place. strings.Split by one byte; slices of slices. A slice that the call owns: opened, cut, written to, cleared behind. Of no program. strings.Trim to nothing, in plain words. Files in memory; a path's number; a part; a file's check. Lists of files: the statements' own helpers: OwnFiles, LongFile, LongFiles. file.Check; list.Compare; list.Check. cmp.Or at int; list.Compare. -/
import Derived.Test.YtmhchakjkgdpmaaGreatDoorTt3
import Derived.Test.YtmhchakjkgdpmaaGreatDoorTt1
import Derived.Stop.IfaceNil
import Derived.Outline
import Derived.Test.YtmhchakjkgdpmaaGreatDoorTt2
import Derived.Shelf.Strings.SlTrimAscii
namespace Go.Proofs.YtmhchakjkgdpmaaGreatDoor
open Go.RowKit

/-- A table at one time. -/
structure Sn where
  id : Int
  parent : Int
  seq : Int
  day : Int
  index : Int
  op : Str
  files : List Fl
  deriving DecidableEq

abbrev kStart : Str := [115, 116, 97, 114, 116]
abbrev kAppend : Str := [97, 112, 112, 101, 110, 100]
abbrev kDelete : Str := [100, 101, 108, 101, 116, 101]
abbrev kRewrite : Str := [114, 101, 119, 114, 105, 116, 101]
abbrev kSnap : Str := [115, 110, 97, 112]
def kOps : List Str := [kStart, kAppend, kDelete, kRewrite]
def zeroSn : Sn := ⟨0, 0, 0, 0, 0, [], []⟩

def inB (n lo hi : Int) : Bool := decide (lo ≤ n) && decide (n ≤ hi)
def snapBound (s : Sn) : Bool := !inB s.id 1 1073741824 || (decide (s.parent < 0) || (decide (s.id ≤ s.parent) || (!inB s.seq 0 1073741824 || (!inB s.day 0 100000 || !inB s.index 0 1073741824))))
def seqFault (s : Sn) (i : Nat) : Nat :=
  match s.files[i]? with
  | none => 0
  | some f => if s.seq < f.seq then 9 else 0
/-- A snap's fault. -/
def snapCheck (s : Sn) : Er :=
  if snapBound s = true then .bare 2 else if s.op ∉ kOps then .bare 4 else if listCheck s.files ≠ .nil then listCheck s.files else firstErr (seqFault s) s.files.length
structure RightSn (s : Sn) : Prop where
  bnd : snapBound s = false
  op : s.op ∈ kOps
  lst : RightL s.files
  sq : ∀ f ∈ s.files, f.seq ≤ s.seq
theorem snap_iff (s : Sn) : snapCheck s = .nil ↔ RightSn s := by
  unfold snapCheck
  constructor
  · intro h
    split at h
    · cases h
    · rename_i h1
      split at h
      · cases h
      · rename_i h2
        split at h
        · rename_i h3; exact absurd h h3
        · rename_i h3
          have hf := firstErr_nil h
          refine ⟨by simpa using h1, Decidable.not_not.1 h2, (right_iff _).1 (Decidable.not_not.1 h3), fun f hf' => ?_⟩
          obtain ⟨i, hi⟩ := List.getElem?_of_mem hf'
          have := hf i (List.getElem?_eq_some_iff.1 hi).1
          unfold seqFault at this
          rw [hi] at this
          simp only at this
          split at this
          · cases this
          · omega
  · intro h
    rw [if_neg (by rw [h.bnd]; simp), if_neg (fun h' => h' h.op), if_neg (fun h' => h' ((right_iff _).2 h.lst))]
    refine firstErr_all fun j hj => ?_
    unfold seqFault
    obtain ⟨f, hf⟩ : ∃ f, s.files[j]? = some f := ⟨s.files[j], List.getElem?_eq_getElem hj⟩
    rw [hf]
    simp only
    rw [if_neg]
    have := h.sq f (List.mem_of_getElem? hf)
    omega
theorem RightSn.nums {s : Sn} (h : RightSn s) : (1 ≤ s.id ∧ s.id ≤ 1073741824) ∧ (0 ≤ s.parent ∧ s.parent < s.id) ∧ (0 ≤ s.seq ∧ s.seq ≤ 1073741824) ∧ (0 ≤ s.day ∧ s.day ≤ 100000) ∧ (0 ≤ s.index ∧ s.index ≤ 1073741824) := by
  have := h.bnd
  unfold snapBound inB at this
  simp at this
  omega

def snapHead (s : Sn) (sum : Int) : Str := kSnap ++ (numsTail [s.id, s.parent, s.seq, s.day, s.index] ++ 32 :: (s.op ++ 32 :: Lib.itoa sum))
def snapText (s : Sn) : Str := snapHead s (sumOf (listText s.files)) ++ 10 :: listText s.files

/-- What a head says. -/
def headOf : List Str → Option (Sn × Int)
  | [t, a, b, c, d, e, op, g] =>
    if t = kSnap then
      match numsOf [a, b, c, d, e, g] with
      | some [n0, n1, n2, n3, n4, n5] => some (⟨n0, n1, n2, n3, n4, op, []⟩, n5)
      | _ => none
    else none
  | _ => none
def headAt (s : Str) : Option (Sn × Int) := if (Lib.cut s [10]).2.2 = true then headOf (cutAt 32 (Lib.cut s [10]).1) else none
def bodyRead (x : Sn) (sum : Int) (body : Str) : Sn × Er :=
  if sum ≠ sumOf body then (zeroSn, .bare 10)
  else if listReadE body ≠ .nil then (zeroSn, listReadE body)
  else if snapCheck { x with files := listReadL body } ≠ .nil then (zeroSn, snapCheck { x with files := listReadL body })
  else ({ x with files := listReadL body }, .nil)
/-- A snap's text, read. -/
def snapRead (s : Str) : Sn × Er :=
  if 20000 < s.length then (zeroSn, .bare 2) else
  match headAt s with
  | none => (zeroSn, .bare 1)
  | some (x, sum) => bodyRead x sum (Lib.cut s [10]).2.1

theorem op_sign {op : Str} (h : op ∈ kOps) : (∀ c ∈ op, 47 ≤ c.toNat) ∧ op.length ≤ 7 := by
  unfold kOps at h
  simp only [List.mem_cons, List.not_mem_nil, or_false] at h
  rcases h with rfl | rfl | rfl | rfl <;> decide
theorem not_itoa32 (n : Int) : (32 : UInt8) ∉ Lib.itoa n := not_mem_itoa' (by decide) (by decide)
theorem cut_head {s : Sn} (h : s.op ∈ kOps) (sum : Int) : cutAt 32 (snapHead s sum) = [kSnap, Lib.itoa s.id, Lib.itoa s.parent, Lib.itoa s.seq, Lib.itoa s.day, Lib.itoa s.index, s.op, Lib.itoa sum] := by
  have hop : (32 : UInt8) ∉ s.op := fun hm => by have := (op_sign h).1 _ hm; revert this; decide
  have e : snapHead s sum = kSnap ++ 32 :: (Lib.itoa s.id ++ 32 :: (Lib.itoa s.parent ++ 32 :: (Lib.itoa s.seq ++ 32 :: (Lib.itoa s.day ++ 32 :: (Lib.itoa s.index ++ 32 :: (s.op ++ 32 :: Lib.itoa sum)))))) := by
    unfold snapHead numsTail; simp
  rw [e, cutAt_app (by decide), cutAt_app (not_itoa32 _), cutAt_app (not_itoa32 _), cutAt_app (not_itoa32 _), cutAt_app (not_itoa32 _), cutAt_app (not_itoa32 _), cutAt_app hop, cutAt_none (not_itoa32 _)]
theorem head_none {s : Sn} (h : s.op ∈ kOps) (sum : Int) : (10 : UInt8) ∉ snapHead s sum := by
  unfold snapHead
  intro hm
  have hs : ∀ c : UInt8, (c = 32 ∨ c = 45 ∨ 47 ≤ c.toNat) → c ≠ 10 := fun c hc => by
    rintro rfl; rcases hc with hc | hc | hc <;> revert hc <;> decide
  have hi : ∀ n, ∀ c ∈ Lib.itoa n, c = 32 ∨ c = 45 ∨ 47 ≤ c.toNat := fun n c hc => by
    rcases itoa_sign n c hc with h | h
    · exact .inr (.inl h)
    · exact .inr (.inr (by omega))
  rcases List.mem_append.1 hm with hm | hm
  · revert hm; decide
  · rcases List.mem_append.1 hm with hm | hm
    · exact hs _ (nums_sign _ _ hm) rfl
    · rcases List.mem_cons.1 hm with hm | hm
      · revert hm; decide
      · rcases List.mem_append.1 hm with hm | hm
        · exact hs _ (.inr (.inr ((op_sign h).1 _ hm))) rfl
        · rcases List.mem_cons.1 hm with hm | hm
          · revert hm; decide
          · exact hs _ (hi _ _ hm) rfl
theorem headOf_text {s : Sn} (h : RightSn s) (sum : Int) (h0 : 0 ≤ sum) (h1 : sum < 4294967296) : headOf (cutAt 32 (snapHead s sum)) = some ({ s with files := [] }, sum) := by
  obtain ⟨a1, a2, a3, a4, a5⟩ := h.nums
  rw [cut_head h.op]
  have hn : numsOf ([s.id, s.parent, s.seq, s.day, s.index, sum].map Lib.itoa) = some [s.id, s.parent, s.seq, s.day, s.index, sum] := numsOf_map _ fun x hx => by
    simp only [List.mem_cons, List.not_mem_nil, or_false] at hx
    rcases hx with rfl | rfl | rfl | rfl | rfl | rfl <;> omega
  simp only [List.map_cons, List.map_nil] at hn
  unfold headOf
  simp only [if_true, hn]
theorem head_len {s : Sn} (h : RightSn s) (sum : Int) (h0 : 0 ≤ sum) (h1 : sum < 4294967296) : (snapHead s sum).length ≤ 200 := by
  obtain ⟨a1, a2, a3, a4, a5⟩ := h.nums
  have hl := fun n (h0 : (0 : Int) ≤ n) (h1 : n ≤ 4294967296) => itoa_len n (by omega) (by omega)
  have b1 := hl s.id (by omega) (by omega); have b2 := hl s.parent (by omega) (by omega); have b3 := hl s.seq (by omega) (by omega); have b4 := hl s.day (by omega) (by omega); have b5 := hl s.index (by omega) (by omega); have b6 := hl sum h0 (by omega)
  have b7 := (op_sign h.op).2
  unfold snapHead numsTail
  simp
  omega
theorem text_len {s : Sn} (h : RightSn s) : (listText s.files).length ≤ 9060 := by
  have := listText_len h.lst.ok
  have := h.lst.len
  omega
theorem snapText_len {s : Sn} (h : RightSn s) : (snapText s).length ≤ 9300 := by
  have h1 := head_len h (sumOf (listText s.files)) (by omega) (by have := sumOf_lt (listText s.files); omega)
  have h2 := text_len h
  unfold snapText
  rw [List.length_append, List.length_cons]
  omega
theorem snapRead_of {s : Sn} (h : RightSn s) (body : Str) (hb : body.length ≤ 9060) : snapRead (snapHead s (sumOf (listText s.files)) ++ 10 :: body) = bodyRead { s with files := [] } (sumOf (listText s.files)) body := by
  have hsl := sumOf_lt (listText s.files)
  have h1 := head_len h (sumOf (listText s.files)) (by omega) (by omega)
  have hc := cut_app1 (c := 10) (p := snapHead s (sumOf (listText s.files))) (q := body) (head_none h.op _)
  unfold snapRead headAt
  rw [if_neg (by rw [List.length_append, List.length_cons]; omega), hc]
  simp only [if_true]
  rw [headOf_text h _ (by omega) (by omega)]
theorem snapRead_text {s : Sn} (h : RightSn s) : snapRead (snapText s) = (s, .nil) := by
  unfold snapText
  rw [snapRead_of h _ (text_len h)]
  obtain ⟨r1, r2⟩ := listRead_text h.lst
  have hs : ({ ({ s with files := [] } : Sn) with files := listReadL (listText s.files) } : Sn) = s := by rw [r2]
  unfold bodyRead
  rw [if_neg (by simp), if_neg (by rw [r1]; simp), hs, if_neg (by rw [(snap_iff s).2 h]; simp)]
theorem snapRead_one {s : Sn} (h : RightSn s) {i : Nat} {x c : UInt8} (hx : (listText s.files)[i]? = some x) (hne : x ≠ c) :
    snapRead (snapHead s (sumOf (listText s.files)) ++ 10 :: (listText s.files).set i c) = (zeroSn, .bare 10) := by
  rw [snapRead_of h _ (by rw [List.length_set]; exact text_len h)]
  unfold bodyRead
  rw [if_pos]
  have := sumOf_set hx hne
  omega
end Go.Proofs.YtmhchakjkgdpmaaGreatDoor
namespace Go.Proofs.YtmhchakjkgdpmaaGreatDoor
open Go.RowKit

def Er.noPlace : Er → Er
  | .nil => .nil
  | .bare c => .bare c
  | .loc c _ => .bare c

theorem fileBare_any (E : Nat → Addr) (er : Er) (v : Value) (w : World) (hv : ErV E w v er) :
    Calls Tryz.prog 70 #[v] w fun e w' => ∃ v', e = .returned v' ∧ ErV E w' v' er.noPlace ∧ w = w' := by
  have hnil : ∀ (xT : TypeId) (w : World), (Instr.typeAssert .nilIface xT 126 true).run Tryz.prog w = .ok (.tuple #[.pointer none, .bool false]) w := fun _ _ => by kernel_rfl
  have hbare : ∀ (p : Value) (xT : TypeId) (w : World), (Instr.typeAssert (.iface 401 p) xT 126 true).run Tryz.prog w = .ok (.tuple #[.pointer none, .bool false]) w := fun _ _ _ => by kernel_rfl
  have hhit : ∀ (p : Value) (xT : TypeId) (w : World), (Instr.typeAssert (.iface 126 p) xT 126 true).run Tryz.prog w = .ok (.tuple #[p, .bool true]) w := fun _ _ _ => by kernel_rfl
  cases er with
  | nil =>
    obtain rfl : v = .nilIface := hv
    go_enter Tryz.func70, Tryz.ntmps70
    go_wp2
    go_ret
    exact ⟨.nilIface, rfl, rfl, rfl⟩
  | bare c =>
    obtain ⟨hc, rfl⟩ := hv
    go_enter Tryz.func70, Tryz.ntmps70
    go_wp2
    go_ret
    exact ⟨_, rfl, ⟨hc, rfl⟩, rfl⟩
  | loc c i =>
    obtain ⟨hc, fb, rfl, h0, h1⟩ := hv
    go_enter Tryz.func70, Tryz.ntmps70
    go_wp2
    go_ret
    exact ⟨_, rfl, ⟨hc, rfl⟩, rfl⟩
end Go.Proofs.YtmhchakjkgdpmaaGreatDoor
namespace Go.Proofs.YtmhchakjkgdpmaaGreatDoor
open Go.RowKit

/-- What the library's search reads: some number. -/
structure LMax (B : Nat) (w : World) : Prop where
  max : ∃ m, w.cell? ⟨13, 0, none⟩ = some (.int .i64 m)
  low : 21 ≤ B
  le : B ≤ w.heap.size
theorem LMax.below {B : Nat} {w w' : World} (h : LMax B w) (hb : Below B w w') : LMax B w' := by
  obtain ⟨m, hm⟩ := h.max
  have := h.low
  exact ⟨⟨m, (hb.cell (p := ⟨13, 0, none⟩) (by simp; omega)).trans hm⟩, h.low, Nat.le_trans h.le hb.size⟩
theorem LMax.below' {B B' : Nat} {w w' : World} (h : LMax B w) (hb : Below B' w w') (hB : B ≤ B') : LMax B w' := h.below (hb.mono hB)

theorem encS_map (l : List Str) : l.map S = l.flatMap encS := by
  induction l with
  | nil => rfl
  | cons x r ih => simp [ih]

/-- strings.Split(s, c), c one byte. -/
theorem split1_any (B : Nat) (s : Str) (c : UInt8) (w : World) (hM : LMax B w) (hs : s.length ≤ 100000) :
    Calls Tryz.prog 258 #[S s, .string ⟨#[c]⟩] w fun e w' => e = .returned (.slice (some ⟨w.heap.size, 0, none⟩) (cutAt c s).length (cutAt c s).length) ∧ Own encS 9 1 w.heap.size w' (.slice (some ⟨w.heap.size, 0, none⟩) (cutAt c s).length (cutAt c s).length) (cutAt c s) ∧ Below w.heap.size w w' := by
  obtain ⟨m, hm⟩ := hM.max
  refine (Tryz.strings_Split ⟨s.toArray⟩ ⟨#[c]⟩ m w (by show s.toArray.size < _; simp; omega) hm (Nat.le_refl 1)).mono ?_
  rintro e w' ⟨rfl, rfl⟩
  have hlen : Lib.countB ⟨s.toArray⟩ ⟨#[c]⟩ + 1 = (cutAt c s).length := by
    rw [cutAt_length]; unfold Lib.countB; simp [Lib.count_one]
  rw [hlen]
  refine ⟨rfl, ?_, (Below.refl _ _).alloc (Nat.le_refl _) _⟩
  have hc := splitB_cut c s
  refine ⟨by rw [← encS_map]; simp, .inr ⟨w.heap.size, _, _, rfl, Nat.le_refl _, heap_alloc_new w _, Nat.le_refl _, ?_, ?_, ?_⟩⟩
  · have := cutAt_length c s
    have h2 : s.count c ≤ s.length := List.count_le_length
    unfold maxLen; omega
  · have := congrArg List.length hc
    simp at this ⊢; omega
  · rw [← encS_map, ← hc]
    have := congrArg List.length hc
    simp only [List.length_map] at this
    rw [List.take_of_length_le (by simp; omega)]

/-- s[k:] of a slice. -/
theorem slice_from {α : Type} {P : Program} {t e : TypeId} {enc : α → List Value} {sz : Nat} {w : World} {a : Option Addr} {c b o : Nat} {l : List α} (ht : P.underlying t = some (.slice e)) (hsz : ∀ w, (sizeOf e).run P w = .ok sz w)
    (ha : 0 < l.length → a = some ⟨b, o, none⟩) (hc : l.length ≤ c) (hcm : c ≤ maxLen) (hx : ∀ k x, l[k]? = some x → ∀ j u, (enc x)[j]? = some u → w.cell? ⟨b, o + k * sz + j, none⟩ = some u) (k : Nat) (hk : k ≤ l.length) (hk0 : 0 < l.length) :
    ∃ b' o' c', (∀ W, (Instr.slice t (.slice a l.length c) (some (.int .i64 (k : Int))) none none).run P W = .ok (.slice (some ⟨b', o', none⟩) (l.length - k) c') W) ∧ At enc sz w (.slice (some ⟨b', o', none⟩) (l.length - k) c') (l.drop k) := by
  obtain rfl := ha hk0
  have hu : P.elem t = e := by simp [Program.elem, ht]
  have hadd : (⟨b, o, none⟩ : Addr).add (k * sz) = ⟨b, o + k * sz, none⟩ := by unfold Addr.add; split <;> simp_all
  by_cases h : c = k
  · refine ⟨b, o, c - k, fun W => ?_, ?_⟩
    · have hk' : (k : Int) ≤ l.length := by omega
      simp [Instr.slice, Instr.sliceBounds, run_underlying ht, hsz, hk, h, go_sem]
    · have hl : l.length = k := by omega
      refine ⟨_, c - k, b, o, by rw [List.length_drop], fun _ => rfl, by simp; omega, by omega, fun i x hi j u hu => ?_⟩
      rw [List.drop_of_length_le (by omega)] at hi; simp at hi
  · refine ⟨b, o + k * sz, c - k, fun W => ?_, ?_⟩
    · have hk' : (k : Int) ≤ l.length := by omega
      simp [Instr.slice, Instr.sliceBounds, run_underlying ht, hsz, hk, h, go_sem]
    · refine ⟨_, c - k, b, o + k * sz, by rw [List.length_drop], fun _ => rfl, by simp; omega, by omega, fun i x hi j u hu => ?_⟩
      rw [List.getElem?_drop] at hi
      have := hx (k + i) x hi j u hu
      rwa [show o + k * sz + i * sz + j = o + (k + i) * sz + j by rw [Nat.add_mul]; omega]
end Go.Proofs.YtmhchakjkgdpmaaGreatDoor
namespace Go.Proofs.YtmhchakjkgdpmaaGreatDoor
open Go.RowKit

section
variable {α : Type} {enc : α → List Value} {e : TypeId} {sz B : Nat} {w : World} {v : Value} {l : List α}

theorem Own.open (h : Own enc e sz B w v l) (hpos : 0 < l.length) : ∃ g cap cur, v = .slice (some ⟨g, 0, none⟩) l.length cap ∧ B ≤ g ∧ w.heap[g]? = some (.cells cur e (0, 0)) ∧ l.length ≤ cap ∧ cap ≤ maxLen ∧ cur.size = cap * sz ∧ cur.toList.take (l.length * sz) = l.flatMap enc := by
  obtain ⟨_, h2⟩ := h
  rcases h2 with ⟨_, h0⟩ | ⟨g, cap, cur, h⟩
  · omega
  · exact ⟨g, cap, cur, h⟩
theorem Own.mk {g cap n : Nat} {cur : Array Value} (hen : Enc enc sz) (hn : l.length = n) (hB : B ≤ g) (hg : w.heap[g]? = some (.cells cur e (0, 0))) (hc : n ≤ cap) (hm : cap ≤ maxLen) (hs : cur.size = cap * sz) (ht : cur.toList.take (n * sz) = l.flatMap enc) : Own enc e sz B w (.slice (some ⟨g, 0, none⟩) n cap) l := by
  subst hn
  exact ⟨flat_length hen l, .inr ⟨g, cap, cur, rfl, hB, hg, hc, hm, hs, ht⟩⟩

/-- s[:k] of such a slice. -/
theorem Own.cut {g n cap k : Nat} (hen : Enc enc sz) (h : Own enc e sz B w (.slice (some ⟨g, 0, none⟩) n cap) l) (hk : k ≤ l.length) (hpos : 0 < l.length) : Own enc e sz B w (.slice (some ⟨g, 0, none⟩) k cap) (l.take k) := by
  obtain ⟨g', cap', cur, hv, hB, hg, hc, hm, hs, ht⟩ := h.open hpos
  cases hv
  refine Own.mk hen (by simp; omega) hB hg (by omega) hm hs ?_
  have : l.flatMap enc = (l.take k).flatMap enc ++ (l.drop k).flatMap enc := by rw [← List.flatMap_append, List.take_append_drop]
  have hl : ((l.take k).flatMap enc).length = k * sz := by rw [flat_length hen, List.length_take, Nat.min_eq_left hk]
  have h1 : (cur.toList.take (l.length * sz)).take (k * sz) = cur.toList.take (k * sz) := by
    rw [List.take_take, Nat.min_eq_left (Nat.mul_le_mul_right _ hk)]
  rw [← h1, ht, this, ← hl, List.take_left]

theorem frozen_row {g i : Nat} {cur : Array Value} (hg : w.heap[g]? = some (.cells cur e (0, 0))) : w.frozen? ⟨g, i, none⟩ = false := by
  simp [World.frozen?, hg]
end

theorem flat_one {α : Type} (val : α → Value) (l : List α) : l.flatMap (fun x => [val x]) = l.map val := by
  induction l with
  | nil => rfl
  | cons x r ih => simp [ih]

/-- One element of one cell is written. -/
theorem Own.set1 {α : Type} {val : α → Value} {e : TypeId} {B : Nat} {w : World} {g n cap i : Nat} {l : List α} (hen : Enc (fun x => [val x]) 1) (h : Own (fun x => [val x]) e 1 B w (.slice (some ⟨g, 0, none⟩) n cap) l) (hi : i < l.length) (x : α) :
    Own (fun x => [val x]) e 1 B (w.setCell ⟨g, i, none⟩ (val x)) (.slice (some ⟨g, 0, none⟩) n cap) (l.set i x) := by
  obtain ⟨g', cap', cur, hv, hB, hg, hc, hm, hs, ht⟩ := h.open (by omega)
  cases hv
  have hlt : g < w.heap.size := (Array.getElem?_eq_some_iff.1 hg).1
  refine Own.mk (cur := cur.setIfInBounds i (val x)) hen (by simp) hB ?_ (by omega) hm (by simpa using hs) ?_
  · simp only [World.setCell, Array.getElem?_modify, hg]
    rfl
  · rw [flat_one] at ht ⊢
    simp only [Nat.mul_one] at ht ⊢
    rw [Array.toList_setIfInBounds, List.take_set, ht, List.map_set]

/-- The cells behind are cleared: what lies ahead stays. -/
theorem Own.setRow {α : Type} {enc : α → List Value} {e : TypeId} {sz B : Nat} {w : World} {g n cap k : Nat} {l : List α} {cs : Array Value} (hen : Enc enc sz) (h : Own enc e sz B w (.slice (some ⟨g, 0, none⟩) n cap) l) (hpos : 0 < l.length) (hk : k ≤ l.length) (hsz : cs.size = cap * sz)
    (ht : ∀ cur, w.heap[g]? = some (.cells cur e (0, 0)) → cs.toList.take (k * sz) = cur.toList.take (k * sz)) : Own enc e sz B (w.setRow g cs) (.slice (some ⟨g, 0, none⟩) k cap) (l.take k) := by
  have h' := h.cut (k := k) hen hk hpos
  obtain ⟨g', cap', cur, hv, hB, hg, hc, hm, hs, ht'⟩ := h.open hpos
  cases hv
  refine Own.mk (cur := cs) hen (by simp; omega) hB (setRow_heap w g cur cs e _ hg) (by omega) hm hsz ?_
  rw [ht cur hg]
  have : l.flatMap enc = (l.take k).flatMap enc ++ (l.drop k).flatMap enc := by rw [← List.flatMap_append, List.take_append_drop]
  have hl : ((l.take k).flatMap enc).length = k * sz := by rw [flat_length hen, List.length_take, Nat.min_eq_left hk]
  have h1 : (cur.toList.take (l.length * sz)).take (k * sz) = cur.toList.take (k * sz) := by
    rw [List.take_take, Nat.min_eq_left (Nat.mul_le_mul_right _ hk)]
  rw [← h1, ht', this, ← hl, List.take_left]
theorem Bset {B : Nat} {a w : World} (h : Below B a w) {g : Nat} (hg : B ≤ g) (cs : Array Value) : Below B a (w.setRow g cs) :=
  h.trans ⟨rfl, rfl, rfl, by simp [World.setRow], fun k hk => setRow_other w g k cs (by omega)⟩

/-- clear(s[k:]) of such a slice. -/
theorem run_clear_own {α : Type} {P : Program} {enc : α → List Value} {t e : TypeId} {sz bytes B : Nat} {w : World} {g n cap k : Nat} {l : List α} (hE : ElemInfo P t e sz bytes) (hen : Enc enc sz) (hz1 : ∀ z, (P.info? e).bind (·.zero) = some z → ∀ u ∈ z.cells.toList, u.oneCell' = true)
    (h : Own enc e sz B w (.slice (some ⟨g, 0, none⟩) n cap) l) (hk : k < l.length) (c : Nat) :
    ∃ cs : Array Value, (∀ ty, (Builtin.clear_ #[t] ty #[.slice (some ⟨g, k * sz, none⟩) (n - k) c]).run P w = .ok (.tuple #[]) (w.setRow g cs)) ∧ Own enc e sz B (w.setRow g cs) (.slice (some ⟨g, 0, none⟩) k cap) (l.take k) := by
  obtain ⟨i, z, ht, hi, hz, hsize, hby, hzs, hsz⟩ := hE
  obtain ⟨g', cap', cur, hv, hB, hg, hc, hm, hs, ht'⟩ := h.open (by omega)
  cases hv
  have hnz : (Builtin.zeroCells z.cells (l.length - k)).size = (l.length - k) * sz := by rw [size_zeroCells, hzs]
  have hone : ∀ u ∈ (Builtin.zeroCells z.cells (l.length - k)).toList, u.oneCell' = true := by
    intro u hu
    have hz' := hz1 z (by rw [hi]; exact hz)
    obtain ⟨j, hj, rfl⟩ := Array.getElem_of_mem (Array.mem_def.2 hu)
    simp only [Builtin.zeroCells, Array.getElem_map, Array.getElem_range]
    rw [getElem!_pos z.cells (j % z.cells.size) (Nat.mod_lt _ (by omega))]
    exact hz' _ (by simp)
  have hmul : k * sz + (l.length - k) * sz = l.length * sz := by rw [← Nat.add_mul]; congr 1; omega
  have hle : l.length * sz ≤ cap * sz := Nat.mul_le_mul_right _ hc
  have hrun := run_storeCells_at P g (k * sz) e (Builtin.zeroCells z.cells (l.length - k)).toList 0 cur w hg (by rw [Array.length_toList, hnz]; omega) hone
  simp only [Nat.add_zero] at hrun
  refine ⟨(cur.toList.take (k * sz) ++ (Builtin.zeroCells z.cells (l.length - k)).toList ++ cur.toList.drop (k * sz + (Builtin.zeroCells z.cells (l.length - k)).toList.length)).toArray, fun ty => ?_, h.setRow hen (by omega) (by omega) ?_ ?_⟩
  · obtain ⟨d, hd⟩ : ∃ d, l.length - k = d + 1 := ⟨l.length - k - 1, by omega⟩
    rw [hd] at hrun ⊢
    simp [Builtin.clear_, run_underlying ht, zeroValue, typeInfo, hi, hz, hrun]
  · simp [hnz, Array.length_toList]; omega
  · intro cur' hg'
    rw [hg] at hg'
    cases hg'
    simp only [List.append_assoc]
    rw [List.take_append_of_le_length (by simp; omega), List.take_take, Nat.min_self]
end Go.Proofs.YtmhchakjkgdpmaaGreatDoor
namespace Go.Proofs.YtmhchakjkgdpmaaGreatDoor
open Go.RowKit

theorem dropWhile_nilP {α : Type} {p : α → Bool} : ∀ {l : List α}, l.dropWhile p = [] ↔ l.all p = true
  | [] => by simp
  | a :: r => by
    rw [List.dropWhile_cons, List.all_cons]
    cases h : p a with
    | true => simp [dropWhile_nilP (l := r)]
    | false => simp
theorem trimS_nilP (l cs : Str) : Lib.trimS l cs = [] ↔ l.all (fun b => cs.contains b) = true := by
  have hr : Lib.trimRightS l cs = [] ↔ l.all (fun b => cs.contains b) = true := by
    unfold Lib.trimRightS
    rw [List.reverse_eq_nil_iff, dropWhile_nilP, List.all_reverse]
  unfold Lib.trimS
  constructor
  · intro h
    refine hr.1 ?_
    unfold Lib.trimLeftS at h
    rw [dropWhile_nilP] at h
    cases hd : l.reverse.dropWhile (fun b => cs.contains b) with
    | nil => unfold Lib.trimRightS; rw [hd]; rfl
    | cons a r =>
      have ha : cs.contains a = false := by
        have := List.head?_dropWhile_not (fun b => cs.contains b) l.reverse
        rw [hd] at this
        simpa using this
      have hm : a ∈ Lib.trimRightS l cs := by unfold Lib.trimRightS; rw [hd]; simp
      have := List.all_eq_true.1 h a hm
      rw [ha] at this; cases this
  · intro h
    rw [hr.2 h]; rfl
end Go.Proofs.YtmhchakjkgdpmaaGreatDoor
namespace Go.Proofs.YtmhchakjkgdpmaaGreatDoor
open Go.RowKit

abbrev encF (f : Fl) : List Value := [S f.path, S f.part, .int .i64 f.n, .int .i64 f.lo, .int .i64 f.hi, .int .i64 f.seq]
theorem encF_enc : Enc encF 6 := fun x => ⟨rfl, by simp [Value.oneCell']⟩
abbrev FilesAt (w : World) (v : Value) (l : List Fl) : Prop := At encF 6 w v l
theorem szFl (w : World) : (sizeOf 37).run Tryz.prog w = .ok 6 w := by kernel_rfl
theorem elFl : ElemInfo Tryz.prog 22 37 6 64 := elemInfo_of Tryz.underlying22 (z := .agg #[.string ByteArray.empty, .string ByteArray.empty, .int .i64 0, .int .i64 0, .int .i64 0, .int .i64 0]) (by kernel_rfl) rfl (by decide)
abbrev fileV (f : Fl) : Value := .agg #[S f.path, S f.part, .int .i64 f.n, .int .i64 f.lo, .int .i64 f.hi, .int .i64 f.seq]
abbrev fileO (f : Fl) : Obj := .cells #[S f.path, S f.part, .int .i64 f.n, .int .i64 f.lo, .int .i64 f.hi, .int .i64 f.seq] 37

theorem cutSl_any (B : Nat) (s : Str) (w : World) (hM : LMax B w) (hs : s.length ≤ 100000) :
    Calls Tryz.prog 182 #[S s, .string ⟨#[47]⟩] w fun e w' => e = .returned (.tuple #[S (Lib.cut s [47]).1, S (Lib.cut s [47]).2.1, .bool (Lib.cut s [47]).2.2]) ∧ Below w.heap.size w w' := by
  obtain ⟨m, hm⟩ := hM.max
  refine (Tryz.strings_Cut ⟨s.toArray⟩ ⟨#[47]⟩ m w (by show s.toArray.size < _; simp; omega) hm).mono ?_
  rintro e w' ⟨rfl, n, rfl⟩
  exact ⟨rfl, Bdn (Below.refl _ _) n⟩
theorem cut_len (s sep : Str) : (Lib.cut s sep).1.length ≤ s.length ∧ (Lib.cut s sep).2.1.length ≤ s.length := by
  unfold Lib.cut
  split
  · simp; omega
  · simp

set_option maxRecDepth 20000 in
theorem fileNumber_any (E : Nat → Addr) (B : Nat) (p : Str) (w : World) (hE : Errs [5] E B w) (hT : LNum B w) (hM : LMax B w) (hs : p.length ≤ 100000) :
    Calls Tryz.prog 126 #[S p] w fun e w' => ∃ ev, e = .returned (.tuple #[S (kindF p), .int .i64 (numF p), ev]) ∧ ErV E w' ev (if (pathF p).isSome then .nil else .bare 5) ∧ Below w.heap.size w w' := by
  have hcl := (cut_len p [47]).2
  have hpf : pathF p = if (Lib.cut p [47]).2.2 = true ∧ ((Lib.cut p [47]).1 = kData ∨ (Lib.cut p [47]).1 = kGone) then
    (numOf (Lib.cut p [47]).2.1).bind fun n => if n < 1 ∨ 1073741824 < n then none else some ((Lib.cut p [47]).1, n) else none := rfl
  have hk : kindF p = ((pathF p).getD ([], 0)).1 := rfl
  have hn : numF p = ((pathF p).getD ([], 0)).2 := rfl
  have hcut := cutSl_any B p w hM hs
  generalize (Lib.cut p [47]).1 = k at *
  generalize (Lib.cut p [47]).2.1 = d at *
  generalize (Lib.cut p [47]).2.2 = is at *
  generalize pathF p = pf at *
  have hE1 := fun w1 (hb : Below w.heap.size w w1) => (hE.below' hb hE.le).var 5 (by decide)
  simp only [errG] at hE1
  have HE1 := Lib.hid hE1
  clear hE1
  have HK := Lib.hid hk; have HN := Lib.hid hn; have HP := Lib.hid hpf; have HC := Lib.hid hcut
  clear hk hn hpf hcut
  go_enter Tryz.func126, Tryz.ntmps126
  go_wp2_with fail
  refine HC.out.mono ?_
  rintro e w1 ⟨rfl, hb1⟩
  go_wp2_with fail
  refine (number_any B d _ (hT.below' hb1 hT.le) (by omega)).mono ?_
  rintro e w2 ⟨rfl, hb2⟩
  have hb2' := hb1.trans (hb2.mono hb1.size)
  have v5 := HE1.out _ hb2'
  obtain ⟨m, hm⟩ : ∃ m, atoiN d = m := ⟨_, rfl⟩
  obtain ⟨o, ho⟩ : ∃ o, numOf d = o := ⟨_, rfl⟩
  have hom : ∀ n, o = some n → m = n := fun n h => by rw [← hm, ← numOf_atoiN (ho.trans h)]
  rw [hm, ho]
  have HO := Lib.hid ho
  clear hm ho hb1 hb2
  cases is with
  | false =>
    have hp : pf = none := by rw [HP.out]; simp
    subst hp
    have HK' := Lib.hid (HK.out.trans rfl); have HN' := Lib.hid (HN.out.trans rfl)
    clear hom
    go_wp2_with fail
    go_quiet (fail)
    go_wp2_with fail
    go_ret3
    exact ⟨_, by rw [HK'.out, HN'.out]; rfl, ⟨by decide, rfl⟩, Bdn hb2' _⟩
  | true =>
    by_cases hk1 : k = kData ∨ k = kGone
    case neg =>
      have g1 : (k == kData) = false := by simp only [beq_eq_false_iff_ne]; exact fun e => hk1 (.inl e)
      have g2 : (k == kGone) = false := by simp only [beq_eq_false_iff_ne]; exact fun e => hk1 (.inr e)
      have hp : pf = none := by rw [HP.out, if_neg (fun h => hk1 h.2)]
      subst hp
      clear hom hk1
      have HK' := Lib.hid (HK.out.trans rfl); have HN' := Lib.hid (HN.out.trans rfl)
      go_wp2_with fail
      go_quiet (fail)
      go_wp2_with fail
      go_ret3
      exact ⟨_, by rw [HK'.out, HN'.out]; rfl, ⟨by decide, rfl⟩, Bdn hb2' _⟩
    have hp0 : pf = o.bind fun n => if n < 1 ∨ 1073741824 < n then none else some (k, n) := by rw [HP.out, if_pos ⟨rfl, hk1⟩, HO.out]
    have HP0 := Lib.hid hp0
    have hkk : k.length ≤ 4 := by rcases hk1 with rfl | rfl <;> decide
    rcases hk1 with rfl | rfl
    all_goals
      clear hp0
      cases o with
      | none =>
        have hp : pf = none := by rw [HP0.out]; rfl
        subst hp
        clear hom
        have HK' := Lib.hid (HK.out.trans rfl); have HN' := Lib.hid (HN.out.trans rfl)
        go_wp2_with fail
        go_quiet (fail)
        go_wp2_with fail
        go_ret3
        exact ⟨_, by rw [HK'.out, HN'.out]; rfl, ⟨by decide, rfl⟩, Bdn hb2' _⟩
      | some n =>
        obtain rfl : m = n := hom n rfl
        clear hom
        by_cases h1 : m < 1
        case pos =>
          have hp : pf = none := by rw [HP0.out, Option.bind_some, if_pos (.inl h1)]
          subst hp
          have HK' := Lib.hid (HK.out.trans rfl); have HN' := Lib.hid (HN.out.trans rfl)
          go_wp2_with fail
          go_quiet (fail)
          go_wp2_with fail
          go_ret3
          exact ⟨_, by rw [HK'.out, HN'.out]; rfl, ⟨by decide, rfl⟩, Bdn hb2' _⟩
        by_cases h2 : 1073741824 < m
        case pos =>
          have hp : pf = none := by rw [HP0.out, Option.bind_some, if_pos (.inr h2)]
          subst hp
          have g1 : decide (m < 1) = false := by simpa using h1
          have HK' := Lib.hid (HK.out.trans rfl); have HN' := Lib.hid (HN.out.trans rfl)
          go_wp2_with fail
          go_quiet (fail)
          go_wp2_with fail
          go_ret3
          exact ⟨_, by rw [HK'.out, HN'.out]; rfl, ⟨by decide, rfl⟩, Bdn hb2' _⟩
        have hp := HP0.out
        rw [Option.bind_some, if_neg (by omega)] at hp
        subst hp
        have g1 : decide (m < 1) = false := by simpa using h1
        have g2 : decide (1073741824 < m) = false := by simpa using h2
        have HK' := Lib.hid (HK.out.trans rfl); have HN' := Lib.hid (HN.out.trans rfl)
        go_wp2_with fail
        go_ret3
        exact ⟨_, by rw [HK'.out, HN'.out]; rfl, rfl, hb2'⟩

theorem trimPart_any (s : Str) (w : World) (hs : s.length ≤ 100000) :
    Calls Tryz.prog 184 #[S s, .string ⟨#[97, 98, 99, 100, 101, 102, 103, 104, 105, 106, 107, 108, 109, 110, 111, 112, 113, 114, 115, 116, 117, 118, 119, 120, 121, 122, 48, 49, 50, 51, 52, 53, 54, 55, 56, 57]⟩] w
      fun e w' => e = .returned (S (Lib.trimS s partSigns)) ∧ Below w.heap.size w w' := by
  have h := Any.strings_Trim_laid Tryz.lays160 (by kernel_rfl) ⟨s.toArray⟩ ⟨partSigns.toArray⟩ w (by simp [ByteArray.size]; omega) (by decide) (ascii_of_all (by decide))
  exact h
set_option maxRecDepth 20000 in
theorem part_any (k s : Str) (w : World) (hs : s.length ≤ 100000) :
    Calls Tryz.prog 127 #[S k, S s] w fun e w' => e = .returned (.bool (partOk k s)) ∧ Below w.heap.size w w' := by
  unfold partOk
  by_cases hk : k = kGone
  · subst hk
    rw [if_pos rfl]
    go_enter Tryz.func127, Tryz.ntmps127
    go_wp2_with fail
    go_ret
    exact ⟨rfl, Below.refl _ _⟩
  rw [if_neg hk]
  have gk : (k == kGone) = false := by simpa using hk
  by_cases h0 : s = []
  · subst h0
    go_enter Tryz.func127, Tryz.ntmps127
    go_wp2_with fail
    go_ret
    exact ⟨rfl, Below.refl _ _⟩
  have g0 : (!s.isEmpty) = true := by simpa using h0
  have e0 : decide (s ≠ []) = true := by simpa using h0
  rw [e0, Bool.true_and]
  by_cases h1 : s.length ≤ 12
  · have g1 : decide ((s.length : Int) ≤ 12) = true := by simp; omega
    have g2 : (s.length : Int) ≤ 12 := by omega
    have e1 : decide (s.length ≤ 12) = true := by simpa using h1
    rw [e1, Bool.true_and]
    go_enter Tryz.func127, Tryz.ntmps127
    go_wp2_with fail
    refine (trimPart_any s _ hs).mono ?_
    rintro e w1 ⟨rfl, hb1⟩
    have hT : (Lib.trimS s partSigns).isEmpty = s.all (fun b => partSigns.contains b) := by
      rw [Bool.eq_iff_iff, List.isEmpty_iff, trimS_nilP]
    have HT := Lib.hid hT; clear hT
    generalize Lib.trimS s partSigns = T at *
    go_wp2_with fail
    go_ret
    exact ⟨ret_bool (by first | exact HT.out | (rw [← HT.out]; cases T <;> rfl)), hb1⟩
  · have g1 : decide ((s.length : Int) ≤ 12) = false := by simp; omega
    have e1 : decide (s.length ≤ 12) = false := by simpa using h1
    rw [e1, Bool.false_and]
    go_enter Tryz.func127, Tryz.ntmps127
    go_wp2_with fail
    go_ret
    exact ⟨rfl, Below.refl _ _⟩
theorem far_any (n : Int) (w : World) :
    Calls Tryz.prog 108 #[.int .i64 n] w fun e w' => e = .returned (.bool (decide (farN n))) ∧ w = w' := by
  by_cases h1 : n < -1073741824
  · have g : decide (farN n) = true := decide_eq_true (.inl h1)
    rw [g]
    clear g
    go_enter Tryz.func108, Tryz.ntmps108
    go_wp2_with fail
    go_ret
    exact ⟨rfl, rfl⟩
  · have g1 : decide (n < -1073741824) = false := by simpa using h1
    by_cases h2 : 1073741824 < n
    · have g : decide (farN n) = true := decide_eq_true (.inr h2)
      rw [g]
      clear g h1
      go_enter Tryz.func108, Tryz.ntmps108
      go_wp2_with fail
      go_ret
      exact ⟨rfl, rfl⟩
    · have g : decide (farN n) = false := decide_eq_false (fun h => h.elim h1 h2)
      have g2 : decide (1073741824 < n) = false := by simpa using h2
      rw [g]
      clear g h1 h2
      go_enter Tryz.func108, Tryz.ntmps108
      go_wp2_with fail
      go_ret
      exact ⟨rfl, rfl⟩
end Go.Proofs.YtmhchakjkgdpmaaGreatDoor
namespace Go.Proofs.YtmhchakjkgdpmaaGreatDoor
open Go.RowKit

theorem ownFiles_any (v : Value) (l : List Fl) (w : World) (hl : FilesAt w v l) (hn : l.length ≤ 100000) :
    Calls Tryz.prog 33 #[v] w fun e w' => ∃ v', e = .returned v' ∧ Own encF 37 6 w.heap.size w' v' l ∧ Below w.heap.size w w' := by
  have hs := hl.src encF_enc (by decide)
  go_enter Tryz.func33, Tryz.ntmps33
  go_wp2_with (at_builtin; refine wpList_app rfl _ _ _ rfl w.heap.size elFl (.slice none 0 0) 0 [] rfl (Own.nil encF _ 6 _ _) _ _ _ rfl hs (by unfold maxLen; omega) (by omega) (Nat.le_refl _) ?_; intro v' w1 hown hg _)
  go_ret
  exact ⟨_, rfl, by simpa [Own] using hown, (Below.refl _ _).grown hg (Nat.le_refl _) (fun k hk => by cases hk)⟩

def shortF (f : Fl) : Prop := f.path.length ≤ 30 ∧ f.part.length ≤ 30
instance (f : Fl) : Decidable (shortF f) := inferInstanceAs (Decidable (_ ∧ _))
def midF (f : Fl) : Prop := f.path.length ≤ 100000 ∧ f.part.length ≤ 100000
instance (f : Fl) : Decidable (midF f) := inferInstanceAs (Decidable (_ ∧ _))
theorem shortF.mid {f : Fl} (h : shortF f) : midF f := ⟨by have := h.1; omega, by have := h.2; omega⟩
set_option maxRecDepth 20000 in
theorem longFile_any (f : Fl) (w : World) :
    Calls Tryz.prog 60 #[fileV f] w fun e w' => e = .returned (.int .i64 (if shortF f then 0 else 1)) ∧ Below w.heap.size w w' := by
  have hb : Below w.heap.size w (w.alloc (fileO f)) := (Below.refl _ _).alloc (Nat.le_refl _) _
  by_cases h1 : f.path.length ≤ 30
  · have g1 : decide ((30 : Int) < (f.path.length : Int)) = false := by simp; omega
    by_cases h2 : f.part.length ≤ 30
    · rw [if_pos (show shortF f from ⟨h1, h2⟩)]
      have g2 : decide ((30 : Int) < (f.part.length : Int)) = false := by simp; omega
      go_enter Tryz.func60, Tryz.ntmps60
      go_wp2_with fail
      go_ret
      exact ⟨rfl, by first | exact hb | exact Below.refl _ _⟩
    · rw [if_neg (fun h : shortF f => h2 h.2)]
      have g2 : (30 : Int) < (f.part.length : Int) := by omega
      go_enter Tryz.func60, Tryz.ntmps60
      go_wp2_with fail
      go_ret
      exact ⟨rfl, by first | exact hb | exact Below.refl _ _⟩
  · rw [if_neg (fun h : shortF f => h1 h.1)]
    have g1 : (30 : Int) < (f.path.length : Int) := by omega
    go_enter Tryz.func60, Tryz.ntmps60
    go_wp2_with fail
    go_ret
    exact ⟨rfl, by first | exact hb | exact Below.refl _ _⟩

set_option maxRecDepth 20000 in
theorem longFiles_any (v : Value) (l : List Fl) (w : World) (hl : FilesAt w v l) :
    Calls Tryz.prog 40 #[v] w fun e w' => (e = .returned (.int .i64 1) ∨ (e = .returned (.int .i64 0) ∧ l.length ≤ 61 ∧ ∀ f ∈ l, shortF f)) ∧ Below w.heap.size w w' := by
  obtain ⟨a, c, b, o, rfl, ha, hc, hcm, hx⟩ := hl
  unfold maxLen at hcm
  by_cases h61 : l.length ≤ 40 ∨ l.length = 60 ∨ l.length = 61
  case neg =>
    have g1 : (40 : Int) < (l.length : Int) := by omega
    have g2 : ((l.length : Int) != 60) = true := by simp; omega
    have g3 : ((l.length : Int) != 61) = true := by simp; omega
    go_enter Tryz.func40, Tryz.ntmps40
    go_wp2_with fail
    go_ret
    exact ⟨.inl rfl, Below.refl _ _⟩
  have h61' : l.length ≤ 61 := by omega
  have hg : decide ((40 : Int) < (l.length : Int)) = false ∨ (decide ((40 : Int) < (l.length : Int)) = true ∧ (((l.length : Int) != 60) = false ∨ (((l.length : Int) != 60) = true ∧ ((l.length : Int) != 61) = false))) := by
    rcases h61 with h | h | h
    · exact .inl (by simp; omega)
    · exact .inr ⟨by simp; omega, .inl (by simp; omega)⟩
    · exact .inr ⟨by simp; omega, .inr ⟨by simp; omega, by simp; omega⟩⟩
  clear h61
  go_enter Tryz.func40, Tryz.ntmps40
  rcases hg with g1 | ⟨g1, g2 | ⟨g2, g3⟩⟩
  all_goals
    go_wp2_with fail
    go_loopw [3] (fun i wr => ∃ k : Nat, k ≤ l.length ∧ i = .int .i64 k ∧ Hid (∀ j < k, ∀ x, l[j]? = some x → shortF x) ∧ Below w.heap.size w wr) (fun i _ => l.length - (intOf i).toNat)
    case atStart => exact ⟨0, by omega, rfl, Lib.hid fun j hj => absurd hj (by omega), Below.refl _ _⟩
    case round =>
      obtain ⟨k, hk, rfl, hj, hb⟩ := hrel
      clear g1
      by_cases hlt : k < l.length
      case neg =>
        have f : decide ((k : Int) < (l.length : Int)) = false := by simp; omega
        go_wp2_with fail
        go_ret
        exact ⟨.inr ⟨rfl, h61', fun x hx => by
          obtain ⟨j, hj'⟩ := List.getElem?_of_mem hx
          exact hj.out j (by have := (List.getElem?_eq_some_iff.1 hj').1; omega) x hj'⟩, hb⟩
      obtain ⟨x, hxk⟩ := get_ex hlt
      have c0 := hx k x hxk 0 _ rfl
      have c1 := hx k x hxk 1 _ rfl
      have c2 := hx k x hxk 2 _ rfl
      have c3 := hx k x hxk 3 _ rfl
      have c4 := hx k x hxk 4 _ rfl
      have c5 := hx k x hxk 5 _ rfl
      have c0 := (hb.cell (World.block_lt_of_cell? w _ c0)).trans c0
      have c1 := (hb.cell (World.block_lt_of_cell? w _ c1)).trans c1
      have c2 := (hb.cell (World.block_lt_of_cell? w _ c2)).trans c2
      have c3 := (hb.cell (World.block_lt_of_cell? w _ c3)).trans c3
      have c4 := (hb.cell (World.block_lt_of_cell? w _ c4)).trans c4
      have c5 := (hb.cell (World.block_lt_of_cell? w _ c5)).trans c5
      have i1 := idx_at (c := c) 6 Tryz.underlying22 szFl ha k hlt
      have f : (k : Int) < (l.length : Int) := by omega
      simp only [Nat.add_zero] at c0
      have Hx := Lib.hid hxk; clear hxk
      go_wp2_with fail
      refine (longFile_any x _).mono ?_
      rintro e w1 ⟨rfl, hb1⟩
      have hb' := hb.trans (hb1.mono hb.size)
      by_cases e1 : shortF x
      · rw [if_pos e1]
        have K1 := Lib.hid e1; clear e1
        go_wp2_with fail
        refine ⟨⟨k + 1, by omega, by go_num, Lib.hid fun j hj' y hy => by
          rcases Nat.lt_or_ge j k with h | h
          · exact hj.out j h y hy
          · obtain rfl : j = k := by omega
            rw [Hx.out] at hy
            cases hy
            exact K1.out, hb'⟩, ?_⟩
        simp [intOf]; omega
      · rw [if_neg e1]
        clear e1
        go_wp2_with fail
        go_ret
        exact ⟨.inl rfl, hb'⟩
end Go.Proofs.YtmhchakjkgdpmaaGreatDoor
namespace Go.Proofs.YtmhchakjkgdpmaaGreatDoor
open Go.RowKit

theorem fileCells {w w1 w6 : World} {f : Fl} (hw : w1 = w.alloc (fileO f)) (h6 : Below w1.heap.size w1 w6) :
    w6.cell? ⟨w.heap.size, 0, none⟩ = some (S f.path) ∧ w6.cell? ⟨w.heap.size, 1, none⟩ = some (S f.part) ∧ w6.cell? ⟨w.heap.size, 2, none⟩ = some (.int .i64 f.n) ∧ w6.cell? ⟨w.heap.size, 3, none⟩ = some (.int .i64 f.lo) ∧ w6.cell? ⟨w.heap.size, 4, none⟩ = some (.int .i64 f.hi) ∧ w6.cell? ⟨w.heap.size, 5, none⟩ = some (.int .i64 f.seq) := by
  subst hw
  have h := heap_alloc_new w (.cells #[S f.path, S f.part, .int .i64 f.n, .int .i64 f.lo, .int .i64 f.hi, .int .i64 f.seq] 37)
  have h' := (h6.block w.heap.size (by simp)).trans h
  refine ⟨?_, ?_, ?_, ?_, ?_, ?_⟩ <;> (rw [cell_of_row w6 _ _ _ _ (0, 0) h']; rfl)

/-- A file's error. -/
def fileEr (f : Fl) : Er := if checkF f = 0 then .nil else .bare (checkF f)
theorem fileEr_nil {f : Fl} (h : checkF f = 0) : fileEr f = .nil := if_pos h
theorem fileEr_bad {f : Fl} {c : Nat} (h : checkF f = c) (h0 : c ≠ 0) : fileEr f = .bare c := by unfold fileEr; rw [if_neg (by omega), h]
theorem fileEr_iff {f : Fl} : fileEr f = .nil ↔ checkF f = 0 := by
  unfold fileEr; split
  · simp [*]
  · simp [*]
theorem checkF_none {f : Fl} (h : pathF f.path = none) : checkF f = 5 := by unfold checkF; rw [if_pos h]
theorem checkF_part {f : Fl} {kn} (h : pathF f.path = some kn) (h2 : partOk (kindF f.path) f.part = false) : checkF f = 4 := by unfold checkF; rw [if_neg (by rw [h]; simp), if_pos h2]
theorem checkF_bound {f : Fl} {kn} (h : pathF f.path = some kn) (h2 : partOk (kindF f.path) f.part = true) (h3 : boundF f) : checkF f = 2 := by unfold checkF; rw [if_neg (by rw [h]; simp), if_neg (by rw [h2]; decide), if_pos h3]
theorem checkF_right {f : Fl} {kn} (h : pathF f.path = some kn) (h2 : partOk (kindF f.path) f.part = true) (h3 : ¬ boundF f) : checkF f = 0 := by unfold checkF; rw [if_neg (by rw [h]; simp), if_neg (by rw [h2]; decide), if_neg h3]

set_option maxHeartbeats 2000000 in
set_option maxRecDepth 20000 in
theorem fileCheck_any (E : Nat → Addr) (B : Nat) (f : Fl) (w : World) (hE : Errs [2, 4, 5] E B w) (hT : LNum B w) (hM : LMax B w) (hs : midF f) :
    Calls Tryz.prog 62 #[fileV f] w fun e w' => ∃ ev, e = .returned ev ∧ ErV E w' ev (fileEr f) ∧ Below w.heap.size w w' := by
  have hBw := hE.le
  obtain ⟨hs1, hs2⟩ := hs
  have hb0 : Below w.heap.size w (w.alloc (.cells #[S f.path, S f.part, .int .i64 f.n, .int .i64 f.lo, .int .i64 f.hi, .int .i64 f.seq] 37)) := (Below.refl _ _).alloc (Nat.le_refl _) _
  have Cs := Lib.hid (fun w6 (h : Below (w.alloc (.cells #[S f.path, S f.part, .int .i64 f.n, .int .i64 f.lo, .int .i64 f.hi, .int .i64 f.seq] 37)).heap.size (w.alloc (.cells #[S f.path, S f.part, .int .i64 f.n, .int .i64 f.lo, .int .i64 f.hi, .int .i64 f.seq] 37)) w6) => fileCells rfl h)
  have hE1 := hE.below' hb0 hE.le; have hT1 := hT.below' hb0 hE.le; have hM1 := hM.below' hb0 hE.le
  have V0 := fun w6 (h : Below (w.alloc (.cells #[S f.path, S f.part, .int .i64 f.n, .int .i64 f.lo, .int .i64 f.hi, .int .i64 f.seq] 37)).heap.size (w.alloc (.cells #[S f.path, S f.part, .int .i64 f.n, .int .i64 f.lo, .int .i64 f.hi, .int .i64 f.seq] 37)) w6) => (⟨(hE1.below' h hE1.le).var 2 (by decide), (hE1.below' h hE1.le).var 4 (by decide)⟩ : _ ∧ _)
  simp only [errG] at V0
  have V := Lib.hid V0
  clear V0
  obtain ⟨c0, c1, c2, c3, c4, c5⟩ := Cs.out _ (Below.refl _ _)
  go_enter Tryz.func62, Tryz.ntmps62
  go_wp2_with fail
  generalize w.alloc (.cells #[S f.path, S f.part, .int .i64 f.n, .int .i64 f.lo, .int .i64 f.hi, .int .i64 f.seq] 37) = w1 at *
  refine (fileNumber_any E B f.path _ (hE1.sub (by decide)) hT1 hM1 (by omega)).mono ?_
  rintro e w2 ⟨ev, rfl, hev, hb2⟩
  clear c0 c1 c2 c3 c4 c5
  obtain ⟨c0, c1, c2, c3, c4, c5⟩ := Cs.out w2 hb2
  have hb2' := hb0.trans (hb2.mono hb0.size)
  cases hpf : pathF f.path with
  | none =>
    rw [hpf] at hev
    obtain ⟨-, rfl⟩ := hev
    have HF := Lib.hid (fileEr_bad (checkF_none hpf) (by decide))
    clear hpf
    go_wp2_with fail
    go_ret
    exact ⟨_, rfl, by rw [HF.out]; exact ⟨by decide, rfl⟩, hb2'⟩
  | some kn =>
    rw [hpf] at hev
    obtain rfl : ev = .nilIface := hev
    have HP := Lib.hid hpf
    clear hpf
    go_wp2_with fail
    refine (part_any (kindF f.path) f.part _ (by omega)).mono ?_
    rintro e w3 ⟨rfl, hb3⟩
    have hb3' := hb2.trans (hb3.mono hb2.size)
    have hb3w := hb2'.trans (hb3.mono hb2'.size)
    clear c0 c1 c2 c3 c4 c5
    obtain ⟨c0, c1, c2, c3, c4, c5⟩ := Cs.out w3 hb3'
    obtain ⟨v2, v4⟩ := V.out w3 hb3'
    generalize hpk : partOk (kindF f.path) f.part = pk
    have HK := Lib.hid hpk
    clear hpk hb2 hb3 hb2' hb3'
    cases pk with
    | false =>
      have HF := Lib.hid (fileEr_bad (checkF_part HP.out HK.out) (by decide))
      go_wp2_with fail
      go_ret
      exact ⟨_, rfl, by rw [HF.out]; exact ⟨by decide, rfl⟩, hb3w⟩
    | true =>
      by_cases b1 : f.n < 1
      · have HF := Lib.hid (fileEr_bad (checkF_bound HP.out HK.out (.inl b1)) (by decide))
        go_wp2_with fail
        go_ret
        exact ⟨_, rfl, by rw [HF.out]; exact ⟨by decide, rfl⟩, hb3w⟩
      have g1 : decide (f.n < 1) = false := by simpa using b1
      by_cases b2 : 40 < f.n
      · have HF := Lib.hid (fileEr_bad (checkF_bound HP.out HK.out (.inr (.inl b2))) (by decide))
        clear b1
        go_wp2_with fail
        go_ret
        exact ⟨_, rfl, by rw [HF.out]; exact ⟨by decide, rfl⟩, hb3w⟩
      have g2 : decide (40 < f.n) = false := by simpa using b2
      have B12 := Lib.hid (⟨b1, b2⟩ : _ ∧ _)
      clear b1 b2
      go_wp2_with fail
      refine (far_any f.lo _).mono ?_
      rintro e w4 ⟨rfl, rfl⟩
      by_cases b3 : farN f.lo
      · have HF := Lib.hid (fileEr_bad (checkF_bound HP.out HK.out (.inr (.inr (.inl b3)))) (by decide))
        rw [decide_eq_true b3]
        clear b3
        go_wp2_with fail
        go_ret
        exact ⟨_, rfl, by rw [HF.out]; exact ⟨by decide, rfl⟩, hb3w⟩
      rw [decide_eq_false b3]
      have B3 := Lib.hid b3
      clear b3
      go_wp2_with fail
      refine (far_any f.hi _).mono ?_
      rintro e w4 ⟨rfl, rfl⟩
      by_cases b4 : farN f.hi
      · have HF := Lib.hid (fileEr_bad (checkF_bound HP.out HK.out (.inr (.inr (.inr (.inl b4))))) (by decide))
        rw [decide_eq_true b4]
        clear b4
        go_wp2_with fail
        go_ret
        exact ⟨_, rfl, by rw [HF.out]; exact ⟨by decide, rfl⟩, hb3w⟩
      rw [decide_eq_false b4]
      have B4 := Lib.hid b4
      clear b4
      by_cases b5 : f.hi < f.lo
      · have HF := Lib.hid (fileEr_bad (checkF_bound HP.out HK.out (.inr (.inr (.inr (.inr (.inl b5)))))) (by decide))
        go_wp2_with fail
        go_ret
        exact ⟨_, rfl, by rw [HF.out]; exact ⟨by decide, rfl⟩, hb3w⟩
      have g5 : decide (f.hi < f.lo) = false := by simpa using b5
      by_cases b6 : f.seq < 1
      · have HF := Lib.hid (fileEr_bad (checkF_bound HP.out HK.out (.inr (.inr (.inr (.inr (.inr (.inl b6))))))) (by decide))
        clear b5
        go_wp2_with fail
        go_ret
        exact ⟨_, rfl, by rw [HF.out]; exact ⟨by decide, rfl⟩, hb3w⟩
      have g6 : decide (f.seq < 1) = false := by simpa using b6
      by_cases b7 : 1073741824 < f.seq
      · have HF := Lib.hid (fileEr_bad (checkF_bound HP.out HK.out (.inr (.inr (.inr (.inr (.inr (.inr b7))))))) (by decide))
        clear b5 b6
        go_wp2_with fail
        go_ret
        exact ⟨_, rfl, by rw [HF.out]; exact ⟨by decide, rfl⟩, hb3w⟩
      have g7 : decide (1073741824 < f.seq) = false := by simpa using b7
      have HF := Lib.hid (fileEr_nil (checkF_right HP.out HK.out (by
        rintro (h | h | h | h | h | h | h)
        · have := B12.out.1; omega
        · have := B12.out.2; omega
        · exact B3.out h
        · exact B4.out h
        · exact b5 h
        · exact b6 h
        · exact b7 h)))
      clear b5 b6 b7
      go_wp2_with fail
      go_ret
      exact ⟨_, rfl, by rw [HF.out]; rfl, hb3w⟩
end Go.Proofs.YtmhchakjkgdpmaaGreatDoor
namespace Go.Proofs.YtmhchakjkgdpmaaGreatDoor
open Go.RowKit

/-- A slice of numbers written out in a new block. -/
theorem ints_new (l : List Int) (w : World) (t : TypeId) (H n : Nat) (cs : Array Value) (hH : w.heap.size = H) (hcs : cs = (l.map (Value.int .i64)).toArray) (hn : l.length = n) (hm : n ≤ 100000) : IntsAt (w.alloc (.cells cs t)) (.slice (some ⟨H, 0, none⟩) n n) l := by
  subst hH hcs hn
  refine ⟨_, _, w.heap.size, 0, rfl, fun _ => rfl, Nat.le_refl _, by unfold maxLen; omega, fun k z hk j u hu => ?_⟩
  obtain rfl : j = 0 := by
    rcases Nat.eq_zero_or_pos j with h | h
    · exact h
    · rw [List.getElem?_eq_none (by simp; omega)] at hu; cases hu
  obtain rfl : .int .i64 z = u := by simpa using hu
  rw [cell_of_row (w.alloc _) w.heap.size _ _ t (0, 0) (heap_alloc_new w _)]
  simp [hk]

/-- The first number that is not 0. -/
def orOf (l : List Int) : Int := (l.find? (fun x => x != 0)).getD 0
theorem orOf_hit {l : List Int} {k : Nat} {x : Int} (hk : l[k]? = some x) (hx : x ≠ 0) (h : ∀ (j : Nat), j < k → ∀ y, l[j]? = some y → y = 0) : orOf l = x := by
  unfold orOf
  obtain ⟨h1, h2⟩ := List.getElem?_eq_some_iff.1 hk
  have : l.find? (fun x => x != 0) = some x := by
    rw [List.find?_eq_some_iff_getElem]
    refine ⟨by simpa using hx, k, h1, h2, fun j hj => ?_⟩
    have := h j hj l[j] (by simp)
    simp [this]
  rw [this]; rfl
theorem orOf_none {l : List Int} (h : ∀ (j : Nat) (y : Int), l[j]? = some y → y = 0) : orOf l = 0 := by
  unfold orOf
  have : l.find? (fun x => x != 0) = none := List.find?_eq_none.2 fun x hx => by
    obtain ⟨j, hj⟩ := List.getElem?_of_mem hx
    simp [h j x hj]
  rw [this]; rfl

theorem cmpOr_any (v : Value) (l : List Int) (w : World) (hl : IntsAt w v l) :
    Calls Tryz.prog 186 #[v] w fun e w' => e = .returned (.int .i64 (orOf l)) ∧ w = w' := by
  obtain ⟨a, c, b, o, rfl, ha, hc, hcm, hx⟩ := hl
  unfold maxLen at hcm
  go_enter Tryz.func186, Tryz.ntmps186
  go_wp2_with fail
  go_loop [8] (fun i => ∃ k : Nat, k ≤ l.length ∧ i = .int .i64 k ∧ Hid (∀ (j : Nat), j < k → ∀ y, l[j]? = some y → y = 0)) (fun i => l.length - (intOf i).toNat)
  case atStart => exact ⟨0, by omega, rfl, Lib.hid fun j hj => absurd hj (by omega)⟩
  case round =>
    obtain ⟨k, hk, rfl, hj⟩ := hrel
    by_cases hlt : k < l.length
    · obtain ⟨x, hxk⟩ := get_ex hlt
      have c1 := hx k x hxk 0 _ rfl
      have i1 := idx_at (c := c) 1 Tryz.underlying92 szInt ha k hlt
      have hk1 : (k : Int) < (l.length : Int) := by omega
      simp only [Nat.mul_one, Nat.add_zero] at c1 i1
      have Hx := Lib.hid hxk; clear hxk
      by_cases h0 : x = 0
      · subst h0
        go_wp2_with fail
        go_round
        case rel => exact ⟨k + 1, by omega, by go_num, Lib.hid fun j hj' y hy => by
          rcases Nat.lt_or_ge j k with h | h
          · exact hj.out j h y hy
          · obtain rfl : j = k := by omega
            rw [Hx.out] at hy
            exact (Option.some.inj hy).symm⟩
        case measure => simp [intOf]; omega
      · have g : (x != 0) = true := by simpa using h0
        have H := Lib.hid (orOf_hit Hx.out h0 hj.out)
        clear h0
        go_wp2_with fail
        go_ret
        exact ⟨by rw [H.out]; rfl, rfl⟩
    · obtain rfl : k = l.length := by omega
      go_wp2_with fail
      go_ret
      exact ⟨by rw [orOf_none fun j y hy => hj.out j (List.getElem?_eq_some_iff.1 hy).1 y hy]; rfl, rfl⟩

theorem strCompare_any (a b : Str) (w : World) : Calls Tryz.prog 91 #[S a, S b] w fun e w' => e = .returned (.int .i64 (Lib.compareBytes a b)) ∧ w = w' :=
  (Tryz.strings_Compare ⟨a.toArray⟩ ⟨b.toArray⟩ w).mono fun _ _ ⟨h1, h2⟩ => ⟨by simpa using h1, h2.symm⟩
theorem orOf_two (x y : Int) : orOf [x, y] = if x ≠ 0 then x else y := by
  unfold orOf
  by_cases h : x = 0
  · subst h
    by_cases h2 : y = 0
    · subst h2; decide
    · rw [if_neg (by simp)]
      simp [h2]
  · rw [if_pos h]
    simp [h]
theorem numF_bound (p : Str) : 0 ≤ numF p ∧ numF p ≤ 1073741824 := by
  rcases path_ways p with ⟨-, -, h, -⟩ | ⟨n, h1, h2, -, h, -⟩ | ⟨n, h1, h2, -, h, -⟩ <;> rw [h] <;> omega
set_option maxRecDepth 20000 in
theorem listCompare_any (E : Nat → Addr) (B : Nat) (a b : Str) (w : World) (hE : Errs [5] E B w) (hT : LNum B w) (hM : LMax B w) (ha : a.length ≤ 100000) (hb : b.length ≤ 100000) :
    Calls Tryz.prog 134 #[S a, S b] w fun e w' => e = .returned (.int .i64 (cmpP a b)) ∧ Below w.heap.size w w' := by
  obtain ⟨n1, n2⟩ := numF_bound a
  obtain ⟨m1, m2⟩ := numF_bound b
  have hc : cmpP a b = orOf [Lib.compareBytes (kindF a) (kindF b), numF a - numF b] := by rw [orOf_two]; rfl
  have HC := Lib.hid hc
  clear hc
  go_enter Tryz.func134, Tryz.ntmps134
  go_wp2_with fail
  refine (fileNumber_any E B a _ hE hT hM ha).mono ?_
  rintro e w1 ⟨ev1, rfl, -, hb1⟩
  go_wp2_with fail
  refine (fileNumber_any E B b _ (hE.below' hb1 hE.le) (hT.below' hb1 hT.le) (hM.below' hb1 hM.le) hb).mono ?_
  rintro e w2 ⟨ev2, rfl, -, hb2⟩
  have hb2' := hb1.trans (hb2.mono hb1.size)
  clear hb1 hb2
  generalize hk1 : kindF a = k1
  generalize hk2 : kindF b = k2
  generalize hn1 : numF a = x1 at n1 n2 ⊢
  generalize hn2 : numF b = x2 at m1 m2 ⊢
  rw [hk1, hk2, hn1, hn2] at HC
  clear hk1 hk2 hn1 hn2
  go_wp2_with fail
  refine (strCompare_any k1 k2 _).mono ?_
  rintro e w3 ⟨rfl, rfl⟩
  generalize Lib.compareBytes k1 k2 = c at HC ⊢
  go_wp2_with fail
  refine (cmpOr_any _ [c, x1 - x2] _ (ints_new _ w2 _ _ 2 _ rfl rfl rfl (by decide))).mono ?_
  rintro e w4 ⟨rfl, rfl⟩
  go_wp2_with fail
  go_ret
  exact ⟨by rw [HC.out]; rfl, hb2'.alloc hb2'.size _⟩
end Go.Proofs.YtmhchakjkgdpmaaGreatDoor
