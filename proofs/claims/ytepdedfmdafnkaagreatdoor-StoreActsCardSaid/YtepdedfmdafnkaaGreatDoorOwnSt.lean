/- A slice that the call owns, and a store into another block. Of no program. -/
import Derived.Test.YtepdedfmdafnkaaGreatDoorApp
namespace Go.Proofs.YtepdedfmdafnkaaGreatDoor
open Go.RowKit

theorem grown_set (w : World) (g i : Nat) (x : Value) : w.grownBy (w.setCell ⟨g, i, none⟩ x) (some g) := by
  refine ⟨rfl, rfl, rfl, by simp [World.setCell], fun k _ hne => ?_⟩
  have : g ≠ k := fun e => hne (by rw [e])
  simp [World.setCell, Array.getElem?_modify, this]
theorem Own.store {α : Type} {enc : α → List Value} {e : TypeId} {sz B : Nat} {w : World} {v : Value} {l : List α} (h : Own enc e sz B w v l) {g : Nat} (hg : g < B) (i : Nat) (x : Value) : Own enc e sz B (w.setCell ⟨g, i, none⟩ x) v l := by
  refine World.ownsRow.kept h (grown_set w g i x) ?_
  cases hv : v.ownBlock with
  | none => exact .inl rfl
  | some k =>
    refine .inr fun e => ?_
    cases e
    have := (World.ownsRow.lt h g hv).1
    omega
end Go.Proofs.YtepdedfmdafnkaaGreatDoor
