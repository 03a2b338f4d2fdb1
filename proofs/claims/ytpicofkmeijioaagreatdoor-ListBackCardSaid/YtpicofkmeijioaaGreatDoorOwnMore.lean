/- A slice that the call owns: opened, cut, written to, cleared behind. Of no program. -/
import Derived.Test.YtpicofkmeijioaaGreatDoorApp
namespace Go.Proofs.YtpicofkmeijioaaGreatDoor
open Go.RowKit

section
variable {α : Type} {enc : α → List Value} {e : TypeId} {sz B : Nat} {w : World} {v : Value} {l : List α}

theorem Own.open (h : Own enc e sz B w v l) (hpos : 0 < l.length) : ∃ g cap cur, v = .slice (some ⟨g, 0, none⟩) l.length cap ∧ B ≤ g ∧ w.heap[g]? = some (.cells cur e (0, 0)) ∧ l.length ≤ cap ∧ cap ≤ maxLen ∧ cur.size = cap * sz ∧ cur.toList.take (l.length * sz) = l.flatMap enc := by
  obtain ⟨_, h2⟩ := h
  rcases h2 with ⟨_, h0⟩ | ⟨g, cap, cur, h⟩
  · omega
  · exact ⟨g, cap, cur, h⟩
theorem Own.mk {g cap n : Nat} {cur : Array Value} (hen : Enc enc sz) (hn : l.length = n) (hB : B ≤ g) (hg : w.heap[g]? = some (.cells cur e (0, 0))) (hc : n ≤ cap) (hm : cap ≤ maxLen) (hs : cur.size = cap * sz) (ht : cur.toList.take (n * sz) = l.flatMap enc) : Own enc e sz B w (.slice (some ⟨g, 0, none⟩) n cap) l := by
  subst hn
  exact ⟨flat_length hen l, .inr ⟨g, cap, cur, rfl, hB, hg, hc, hm, hs, ht⟩⟩

/-- s[:k] of such a slice. -/
theorem Own.cut {g n cap k : Nat} (hen : Enc enc sz) (h : Own enc e sz B w (.slice (some ⟨g, 0, none⟩) n cap) l) (hk : k ≤ l.length) (hpos : 0 < l.length) : Own enc e sz B w (.slice (some ⟨g, 0, none⟩) k cap) (l.take k) := by
  obtain ⟨g', cap', cur, hv, hB, hg, hc, hm, hs, ht⟩ := h.open hpos
  cases hv
  refine Own.mk hen (by simp; omega) hB hg (by omega) hm hs ?_
  have : l.flatMap enc = (l.take k).flatMap enc ++ (l.drop k).flatMap enc := by rw [← List.flatMap_append, List.take_append_drop]
  have hl : ((l.take k).flatMap enc).length = k * sz := by rw [flat_length hen, List.length_take, Nat.min_eq_left hk]
  have h1 : (cur.toList.take (l.length * sz)).take (k * sz) = cur.toList.take (k * sz) := by
    rw [List.take_take, Nat.min_eq_left (Nat.mul_le_mul_right _ hk)]
  rw [← h1, ht, this, ← hl, List.take_left]

theorem frozen_row {g i : Nat} {cur : Array Value} (hg : w.heap[g]? = some (.cells cur e (0, 0))) : w.frozen? ⟨g, i, none⟩ = false := by
  simp [World.frozen?, hg]
end

theorem flat_one {α : Type} (val : α → Value) (l : List α) : l.flatMap (fun x => [val x]) = l.map val := by
  induction l with
  | nil => rfl
  | cons x r ih => simp [ih]

/-- One element of one cell is written. -/
theorem Own.set1 {α : Type} {val : α → Value} {e : TypeId} {B : Nat} {w : World} {g n cap i : Nat} {l : List α} (hen : Enc (fun x => [val x]) 1) (h : Own (fun x => [val x]) e 1 B w (.slice (some ⟨g, 0, none⟩) n cap) l) (hi : i < l.length) (x : α) :
    Own (fun x => [val x]) e 1 B (w.setCell ⟨g, i, none⟩ (val x)) (.slice (some ⟨g, 0, none⟩) n cap) (l.set i x) := by
  obtain ⟨g', cap', cur, hv, hB, hg, hc, hm, hs, ht⟩ := h.open (by omega)
  cases hv
  have hlt : g < w.heap.size := (Array.getElem?_eq_some_iff.1 hg).1
  refine Own.mk (cur := cur.setIfInBounds i (val x)) hen (by simp) hB ?_ (by omega) hm (by simpa using hs) ?_
  · simp only [World.setCell, Array.getElem?_modify, hg]
    rfl
  · rw [flat_one] at ht ⊢
    simp only [Nat.mul_one] at ht ⊢
    rw [Array.toList_setIfInBounds, List.take_set, ht, List.map_set]

/-- The cells behind are cleared: what lies ahead stays. -/
theorem Own.setRow {α : Type} {enc : α → List Value} {e : TypeId} {sz B : Nat} {w : World} {g n cap k : Nat} {l : List α} {cs : Array Value} (hen : Enc enc sz) (h : Own enc e sz B w (.slice (some ⟨g, 0, none⟩) n cap) l) (hpos : 0 < l.length) (hk : k ≤ l.length) (hsz : cs.size = cap * sz)
    (ht : ∀ cur, w.heap[g]? = some (.cells cur e (0, 0)) → cs.toList.take (k * sz) = cur.toList.take (k * sz)) : Own enc e sz B (w.setRow g cs) (.slice (some ⟨g, 0, none⟩) k cap) (l.take k) := by
  have h' := h.cut (k := k) hen hk hpos
  obtain ⟨g', cap', cur, hv, hB, hg, hc, hm, hs, ht'⟩ := h.open hpos
  cases hv
  refine Own.mk (cur := cs) hen (by simp; omega) hB (setRow_heap w g cur cs e _ hg) (by omega) hm hsz ?_
  rw [ht cur hg]
  have : l.flatMap enc = (l.take k).flatMap enc ++ (l.drop k).flatMap enc := by rw [← List.flatMap_append, List.take_append_drop]
  have hl : ((l.take k).flatMap enc).length = k * sz := by rw [flat_length hen, List.length_take, Nat.min_eq_left hk]
  have h1 : (cur.toList.take (l.length * sz)).take (k * sz) = cur.toList.take (k * sz) := by
    rw [List.take_take, Nat.min_eq_left (Nat.mul_le_mul_right _ hk)]
  rw [← h1, ht', this, ← hl, List.take_left]
theorem Bset {B : Nat} {a w : World} (h : Below B a w) {g : Nat} (hg : B ≤ g) (cs : Array Value) : Below B a (w.setRow g cs) :=
  h.trans ⟨rfl, rfl, rfl, by simp [World.setRow], fun k hk => setRow_other w g k cs (by omega)⟩

/-- clear(s[k:]) of such a slice. -/
theorem run_clear_own {α : Type} {P : Program} {enc : α → List Value} {t e : TypeId} {sz bytes B : Nat} {w : World} {g n cap k : Nat} {l : List α} (hE : ElemInfo P t e sz bytes) (hen : Enc enc sz) (hz1 : ∀ z, (P.info? e).bind (·.zero) = some z → ∀ u ∈ z.cells.toList, u.oneCell' = true)
    (h : Own enc e sz B w (.slice (some ⟨g, 0, none⟩) n cap) l) (hk : k < l.length) (c : Nat) :
    ∃ cs : Array Value, (∀ ty, (Builtin.clear_ #[t] ty #[.slice (some ⟨g, k * sz, none⟩) (n - k) c]).run P w = .ok (.tuple #[]) (w.setRow g cs)) ∧ Own enc e sz B (w.setRow g cs) (.slice (some ⟨g, 0, none⟩) k cap) (l.take k) := by
  obtain ⟨i, z, ht, hi, hz, hsize, hby, hzs, hsz⟩ := hE
  obtain ⟨g', cap', cur, hv, hB, hg, hc, hm, hs, ht'⟩ := h.open (by omega)
  cases hv
  have hnz : (Builtin.zeroCells z.cells (l.length - k)).size = (l.length - k) * sz := by rw [size_zeroCells, hzs]
  have hone : ∀ u ∈ (Builtin.zeroCells z.cells (l.length - k)).toList, u.oneCell' = true := by
    intro u hu
    have hz' := hz1 z (by rw [hi]; exact hz)
    obtain ⟨j, hj, rfl⟩ := Array.getElem_of_mem (Array.mem_def.2 hu)
    simp only [Builtin.zeroCells, Array.getElem_map, Array.getElem_range]
    rw [getElem!_pos z.cells (j % z.cells.size) (Nat.mod_lt _ (by omega))]
    exact hz' _ (by simp)
  have hmul : k * sz + (l.length - k) * sz = l.length * sz := by rw [← Nat.add_mul]; congr 1; omega
  have hle : l.length * sz ≤ cap * sz := Nat.mul_le_mul_right _ hc
  have hrun := run_storeCells_at P g (k * sz) e (Builtin.zeroCells z.cells (l.length - k)).toList 0 cur w hg (by rw [Array.length_toList, hnz]; omega) hone
  simp only [Nat.add_zero] at hrun
  refine ⟨(cur.toList.take (k * sz) ++ (Builtin.zeroCells z.cells (l.length - k)).toList ++ cur.toList.drop (k * sz + (Builtin.zeroCells z.cells (l.length - k)).toList.length)).toArray, fun ty => ?_, h.setRow hen (by omega) (by omega) ?_ ?_⟩
  · obtain ⟨d, hd⟩ : ∃ d, l.length - k = d + 1 := ⟨l.length - k - 1, by omega⟩
    rw [hd] at hrun ⊢
    simp [Builtin.clear_, run_underlying ht, zeroValue, typeInfo, hi, hz, hrun]
  · simp [hnz, Array.length_toList]; omega
  · intro cur' hg'
    rw [hg] at hg'
    cases hg'
    simp only [List.append_assoc]
    rw [List.take_append_of_le_length (by simp; omega), List.take_take, Nat.min_self]
end Go.Proofs.YtpicofkmeijioaaGreatDoor
