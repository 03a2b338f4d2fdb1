/- slices.Clone and slices.Contains at []int, as the walks use them. -/
import Derived.Test.YtepdedfmdafnkaaGreatDoorDelInt2
import Derived.Test.YtepdedfmdafnkaaGreatDoorShelf
namespace Go.Proofs.YtepdedfmdafnkaaGreatDoor
open Go.RowKit

theorem cloneI_any (v : Value) (l : List Int) (w : World) (hl : IntsAt w v l) (hn : l.length ≤ 100000) :
    Calls Tryz.prog 68 #[v] w fun e w' => ∃ v', e = .returned v' ∧ Own encI 3 1 w.heap.size w' v' l ∧ Below w.heap.size w w' := by
  obtain ⟨a, c, b, o, rfl, ha, hc, hcm, hx⟩ := hl
  by_cases h0 : 0 < l.length
  · obtain rfl := ha h0
    refine (Tryz.slices_Clone_int b o l.length c l w (Nat.le_refl _) (by omega) (fun j hj => ?_)).mono ?_
    · have := hx j l[j] (by simp [hj]) 0 _ rfl
      simpa [List.getD, hj] using this
    · rintro e w' ⟨v', rfl, hown, _, hb⟩
      refine ⟨v', rfl, ?_, hb⟩
      unfold Own
      rw [flat_one]
      rwa [List.take_length] at hown
  · have : l = [] := List.eq_nil_of_length_eq_zero (by omega)
    subst this
    cases a with
    | none =>
      refine (Tryz.slices_Clone_int_nil 0 c w).mono ?_
      rintro e w' ⟨rfl, rfl⟩
      exact ⟨_, rfl, Own.nil _ _ _ _ _, Below.refl _ _⟩
    | some ad =>
      refine (Tryz.slices_Clone_int_zero ad c w).mono ?_
      rintro e w' ⟨v', rfl, hown, _, hb⟩
      exact ⟨v', rfl, hown, hb⟩

theorem containsI_any (v : Value) (l : List Int) (x : Int) (w : World) (hl : IntsAt w v l) (hn : l.length ≤ 100000) :
    Calls Tryz.prog 72 #[v, .int .i64 x] w fun e w' => e = .returned (.bool (decide (x ∈ l))) ∧ w = w' := by
  obtain ⟨a, c, b, o, rfl, ha, hc, hcm, hx⟩ := hl
  by_cases h0 : 0 < l.length
  · obtain rfl := ha h0
    refine (Tryz.slices_Contains_int b o l.length c l x w (Nat.le_refl _) (by omega) (fun j hj => ?_)).mono ?_
    · have := hx j l[j] (by simp [hj]) 0 _ rfl
      simpa [List.getD, hj] using this
    · rintro e w' ⟨rfl, rfl⟩
      exact ⟨ret_bool (by rw [List.take_length]; simp [List.contains_eq_mem]), rfl⟩
  · have : l = [] := List.eq_nil_of_length_eq_zero (by omega)
    subst this
    refine (Tryz.slices_Contains_int_empty a c x w).mono ?_
    rintro e w' ⟨rfl, rfl⟩
    exact ⟨ret_bool (by simp), rfl⟩
end Go.Proofs.YtepdedfmdafnkaaGreatDoor
