/- Slices of texts that came in. -/
import Derived.Test.YtepdedfmdafnkaaDoorBuild
import Derived.SliceStrings
namespace Go.Proofs.YtepdedfmdafnkaaDoor
open Go.ChangeShapes Go.WideShapes Go.ChangeAt Go.RowKit


set_option maxRecDepth 100000 in
/-- A slice of texts that came in. -/
theorem strs_came {H : Type} {enc : TypeId × Value → H} {W : World} {base : Nat} {sp : Nat → Bool} {v : Value} {d : DataW H} {p : List MemPlace} (hv : Value.okWide Tryd.prog W .any base 45 v)
    (h : DataW.Trod enc Tryd.prog W 0 sp true 45 v d p) : ∃ l, StrsAt W v l ∧ ∀ x ∈ l, x.length ≤ maxLen := by
  obtain ⟨a0, len, cap, rfl⟩ := okWide_slice Tryd.underlying45 hv
  obtain ⟨fuel, hf⟩ := h
  rcases open_strings Tryd.underlying45 Tryd.underlying9 cellsStr hf with ⟨hcs, hx⟩ | ⟨a, len', cap', zs, hcs, _, hl, hm, hz, hx, hcell, hwz⟩
  · simp [Value.cells] at hcs
    obtain ⟨rfl, rfl, rfl⟩ := hcs
    exact ⟨[], At.nil _ _ _, fun _ h => by cases h⟩
  · simp [Value.cells] at hcs
    obtain ⟨rfl, rfl, rfl⟩ := hcs
    have hzl : len ≤ zs.length := by split at hz <;> omega
    have hlen : ((zs.take len).map (·.data.toList)).length = len := by rw [List.length_map, List.length_take]; omega
    refine ⟨(zs.take len).map (·.data.toList), ⟨some a, cap, a.block, a.off, by rw [hlen], fun h0 => ?_, by rw [hlen]; exact hl, hm, fun k x hk j u hu => ?_⟩, fun x hx => ?_⟩
    · obtain ⟨b, off, spot⟩ := a
      have hs : spot = none := by simpa [Addr.add] using World.cell?_spot (hcell 0 (by omega))
      subst hs; rfl
    · obtain rfl : j = 0 := by
        rcases Nat.eq_zero_or_pos j with h | h
        · exact h
        · rw [List.getElem?_eq_none (by simp; omega)] at hu; cases hu
      obtain rfl : S x = u := by simpa using hu
      have hk' : k < len := by
        rcases Nat.lt_or_ge k len with h | h
        · exact h
        · rw [List.getElem?_eq_none (by omega)] at hk; cases hk
      have hc := hcell k (by omega)
      have hx : S x = .string (zs.getD k ByteArray.empty) := by
        rw [List.getElem?_map, List.getElem?_take_of_lt hk'] at hk
        obtain ⟨y, hy, rfl⟩ := Option.map_eq_some_iff.1 hk
        have : zs.getD k ByteArray.empty = y := by simp [List.getD, hy]
        rw [this]
      rw [← hx] at hc
      obtain ⟨b, off, spot⟩ := a
      have hs : spot = none := by simpa [Addr.add] using World.cell?_spot (hcell 0 (by omega))
      subst hs
      have hadd : (⟨b, off, none⟩ : Addr).add k = ⟨b, off + k, none⟩ := by
        unfold Addr.add; split <;> simp_all
      rw [hadd] at hc
      simpa using hc
    · obtain ⟨y, hy, rfl⟩ := List.mem_map.1 hx
      have := hwz y (List.mem_of_mem_take hy)
      rw [Array.length_toList]
      exact this
end Go.Proofs.YtepdedfmdafnkaaDoor
