/- The plain law of StoreOnce: one act. -/
import Derived.Test.YtepdedfmdafnkaaGreatDoorCutsP
namespace Go.Proofs.YtepdedfmdafnkaaGreatDoor
open Go.RowKit Go.Maps

theorem aft_take {s : St} {k : Nat} (t : Str) (hk : t.length = k) : ∃ m, m ≤ t.length ∧ t.take (wrote s k) = t.take m := ⟨wrote s k, hk ▸ wrote_le s k, rfl⟩
/-- A put, seen from outside. -/
theorem put_ways (st : St) (n t : Str) (hr : Rising st.objs) :
    (putS st n t = st ∧ putE st n t ≠ .nil) ∨
    (getO st.objs n = none ∧ ∃ m, m ≤ t.length ∧ (getO (putS st n t).objs n).map (·.text) = some (t.take m) ∧ ((putE st n t = .nil ∧ m = t.length) ∨ (putE st n t ≠ .nil ∧ (putS st n t).off = true)) ∧ (putS st n t).day = st.day ∧ (putS st n t).objs.length = st.objs.length + 1) := by
  by_cases he : putE st n t = .nil
  · right
    obtain ⟨_, _, h0, hg, _, ha, hs⟩ := put_nil he
    refine ⟨hg, t.length, Nat.le_refl _, ?_, .inl ⟨he, rfl⟩, ?_, ?_⟩
    · rw [hs, wrote_all h0 ha, List.take_length]
      rw [getO_put_same (x := ⟨n, t, st.day⟩) hr hg]; rfl
    · rw [hs]; exact aft_day _ _
    · rw [hs]; exact putO_length _ _
  · rcases put_bad he with hs | ⟨_, hg, ha, hs⟩
    · exact .inl ⟨hs, he⟩
    · right
      refine ⟨hg, wrote st t.length, wrote_le _ _, ?_, .inr ⟨he, ?_⟩, ?_, ?_⟩
      · rw [hs]
        rw [getO_put_same (x := ⟨n, t.take (wrote st t.length), st.day⟩) hr hg]; rfl
      · rw [hs]; exact ha
      · rw [hs]; exact aft_day _ _
      · rw [hs]; exact putO_length _ _
theorem swapS_day (s : St) (o x : Str) : (swapS s o x).day = s.day := by unfold swapS; split <;> (try split) <;> simp [aft_day]
/-- A swap, seen from outside. -/
theorem swap_ways (st : St) (o x : Str) : (swapE st o x = .nil ∧ st.head = o ∧ (swapS st o x).head = x) ∨ (swapE st o x ≠ .nil ∧ (swapS st o x).head = st.head) := by
  unfold swapE swapS
  by_cases h1 : 20000 < x.length
  · simp [h1]
  by_cases h2 : st.off = true
  · simp [h1, h2]
  by_cases h3 : st.head = o
  · by_cases h4 : wrote st x.length < x.length
    · simp [h1, h2, h3, h4, aft_head]
    · simp [h1, h2, h3, h4]
  · simp [h1, h2, h3]
/-- A drop, seen from outside. -/
theorem drop_ways (st : St) (n : Str) : (dropE st n = .nil ∧ getO (dropS st n).objs n = none ∧ (dropS st n).day = st.day ∧ (dropS st n).objs.length ≤ st.objs.length) ∨ (dropE st n ≠ .nil ∧ dropS st n = st) := by
  unfold dropE dropS
  by_cases h1 : st.off = true
  · simp [h1]
  by_cases h2 : getO st.objs n = none
  · simp [h1, h2]
  · left
    simp only [h1, h2, if_false, or_false, Bool.false_eq_true]
    exact ⟨trivial, getO_drop_same _ _, trivial, List.length_filter_le _ _⟩
end Go.Proofs.YtepdedfmdafnkaaGreatDoor
