/- slices.DeleteFunc, in plain words. Of no program. -/
import Derived.Test.YtpicofkmeijioaaGreatDoorPred
namespace Go.Proofs.YtpicofkmeijioaaGreatDoor

/-- How far the list is, and what it holds by then. -/
def DelRel {α : Type} (p : α → Bool) (l : List α) (i j : Nat) (ys : List α) : Prop :=
  i < j ∧ j ≤ l.length ∧ ys.length = l.length ∧ ys.take i = (l.take j).filter (fun x => !p x) ∧ ys.drop j = l.drop j

theorem filter_take_none {α : Type} {p : α → Bool} {l : List α} {k : Nat} (h : ∀ (j : Nat) (y : α), j < k → l[j]? = some y → p y = false) : (l.take k).filter (fun x => !p x) = l.take k := by
  refine List.filter_eq_self.2 fun x hx => ?_
  obtain ⟨j, hj, he⟩ := List.getElem_of_mem hx
  rw [List.length_take] at hj
  have : l[j]? = some x := by rw [List.getElem_take] at he; simp [he, show j < l.length by omega]
  simp [h j x (by omega) this]
theorem DelRel.start {α : Type} {p : α → Bool} {l : List α} {k : Nat} {x : α} (hk : l[k]? = some x) (hp : p x = true) (h : ∀ (j : Nat) (y : α), j < k → l[j]? = some y → p y = false) : DelRel p l k (k + 1) l := by
  have hlt : k < l.length := by
    rcases Nat.lt_or_ge k l.length with h' | h'
    · exact h'
    · rw [List.getElem?_eq_none h'] at hk; cases hk
  refine ⟨by omega, by omega, rfl, ?_, rfl⟩
  rw [List.take_add_one, hk, List.filter_append, filter_take_none h]
  simp [hp]
theorem DelRel.skip {α : Type} {p : α → Bool} {l ys : List α} {i j : Nat} {x : α} (h : DelRel p l i j ys) (hx : l[j]? = some x) (hp : p x = true) : DelRel p l i (j + 1) ys := by
  obtain ⟨h1, h2, h3, h4, h5⟩ := h
  have hlt : j < l.length := by
    rcases Nat.lt_or_ge j l.length with h' | h'
    · exact h'
    · rw [List.getElem?_eq_none h'] at hx; cases hx
  refine ⟨by omega, by omega, h3, ?_, ?_⟩
  · rw [h4, List.take_add_one, hx, List.filter_append]; simp [hp]
  · rw [← List.drop_drop, h5, List.drop_drop]
theorem DelRel.keep {α : Type} {p : α → Bool} {l ys : List α} {i j : Nat} {x : α} (h : DelRel p l i j ys) (hx : l[j]? = some x) (hp : p x = false) : DelRel p l (i + 1) (j + 1) (ys.set i x) := by
  obtain ⟨h1, h2, h3, h4, h5⟩ := h
  have hlt : j < l.length := by
    rcases Nat.lt_or_ge j l.length with h' | h'
    · exact h'
    · rw [List.getElem?_eq_none h'] at hx; cases hx
  refine ⟨by omega, by omega, by simpa using h3, ?_, ?_⟩
  · rw [List.take_add_one (l := l), hx, List.filter_append, ← h4, List.take_add_one, List.take_set_of_le (Nat.le_refl _), List.getElem?_set_self (by omega)]
    simp [hp]
  · rw [List.drop_set_of_lt (by omega), ← List.drop_drop, h5, List.drop_drop]
theorem DelRel.next {α : Type} {p : α → Bool} {l ys : List α} {i j : Nat} {x : α} (h : DelRel p l i j ys) (hx : l[j]? = some x) : ys[j]? = some x := by
  have : (ys.drop j)[0]? = (l.drop j)[0]? := by rw [h.2.2.2.2]
  simpa [hx] using this
theorem DelRel.done {α : Type} {p : α → Bool} {l ys : List α} {i : Nat} (h : DelRel p l i l.length ys) : ys.take i = l.filter (fun x => !p x) := by
  have := h.2.2.2.1; rwa [List.take_length] at this

end Go.Proofs.YtpicofkmeijioaaGreatDoor
