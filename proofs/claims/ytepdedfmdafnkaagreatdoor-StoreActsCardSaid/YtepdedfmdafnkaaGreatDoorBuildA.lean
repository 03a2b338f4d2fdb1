/- A slice of acts that came in. -/
import Derived.Test.YtepdedfmdafnkaaGreatDoorBuild
import Derived.Test.YtepdedfmdafnkaaGreatDoorActs
namespace Go.Proofs.YtepdedfmdafnkaaGreatDoor
open Go.ChangeShapes Go.WideShapes Go.ChangeAt Go.RowKit

theorem cellsAct : Tryz.prog.cellsOf 28 = 4 := by kernel_rfl
theorem four_of {α : Type} : ∀ {l : List α}, l.length = 4 → ∃ a b c d, l = [a, b, c, d]
  | [a, b, c, d], _ => ⟨a, b, c, d, rfl⟩
theorem some_at {α : Type} {l : List α} {n k : Nat} (h : l.length = n) (hk : k < n) : ∃ x, l[k]? = some x := ⟨l[k]'(by omega), by simp [h, hk]⟩

/-- One act, read. -/
theorem act_of_trod {H : Type} {enc : TypeId × Value → H} {W : World} {base fuel : Nat} {sp : Nat → Bool} {held : Bool} {cs : List Value} {y : DataW H × List MemPlace} (h : DataW.trod enc Tryz.prog W base sp held fuel 28 cs = some y) :
    ∃ x : Ac, cs = encA x ∧ x.n ≤ 9223372036854775807 := by
  obtain ⟨xs, n, _, _, hl, hxs, hf⟩ := DataW.trod_struct Tryz.underlying28 h
  rw [cellsAct] at hl
  obtain ⟨c0, c1, c2, c3, rfl⟩ := four_of hl
  have f0 := hf 0 _ rfl
  have f1 := hf 1 _ rfl
  have f2 := hf 2 _ rfl
  have f3 := hf 3 _ rfl
  obtain ⟨x0, e0⟩ := some_at hxs (k := 0) (by decide)
  obtain ⟨x1, e1⟩ := some_at hxs (k := 1) (by decide)
  obtain ⟨x2, e2⟩ := some_at hxs (k := 2) (by decide)
  obtain ⟨x3, e3⟩ := some_at hxs (k := 3) (by decide)
  rw [e0] at f0; rw [e1] at f1; rw [e2] at f2; rw [e3] at f3
  obtain ⟨s0, h0, _, _⟩ := DataW.trod_string Tryz.underlying9 f0
  obtain ⟨s1, h1, _, _⟩ := DataW.trod_string Tryz.underlying9 f1
  obtain ⟨s2, h2, _, _⟩ := DataW.trod_string Tryz.underlying9 f2
  obtain ⟨m, h3, _, hw⟩ := DataW.trod_int Tryz.underlying3 f3
  simp [cellsStr, cellsInt] at h0 h1 h2 h3
  subst h0 h1 h2 h3
  exact ⟨⟨s0.data.toList, s1.data.toList, s2.data.toList, m⟩, by simp, (bounds_i64 hw).2⟩

set_option maxRecDepth 100000 in
/-- A slice of acts that came in. -/
theorem acts_came {H : Type} {enc : TypeId × Value → H} {W : World} {base : Nat} {sp : Nat → Bool} {v : Value} {d : DataW H} {p : List MemPlace} (hv : Value.okWide Tryz.prog W .any base 22 v)
    (h : DataW.Trod enc Tryz.prog W 0 sp true 22 v d p) : ∃ l, ActsAt W v l ∧ ∀ x ∈ l, x.n ≤ 9223372036854775807 := by
  obtain ⟨a0, len, cap, rfl⟩ := okWide_slice Tryz.underlying22 hv
  obtain ⟨fuel, hf⟩ := h
  rcases DataW.trod_slice Tryz.underlying22 hf with ⟨hcs, hx⟩ | ⟨a, len', cap', elems, rest, n, _, hcs, _, _, hl, hm, hlen, hel, _, _⟩
  · simp [Value.cells] at hcs
    obtain ⟨rfl, rfl, rfl⟩ := hcs
    exact ⟨[], At.nil _ _ _, fun _ h => by cases h⟩
  · simp [Value.cells] at hcs
    obtain ⟨rfl, rfl, rfl⟩ := hcs
    rcases Nat.eq_zero_or_pos len with rfl | hpos
    · exact ⟨[], ⟨some a, cap, 0, 0, rfl, fun h => absurd h (by simp), by simp, hm, fun k x h => by simp at h⟩, fun _ h => by cases h⟩
    obtain ⟨b, off, spot⟩ := a
    have hsp : spot = none := by
      have h1 := hel 0 hpos
      obtain ⟨y, hy⟩ := some_at hlen hpos
      rw [hy, cellsAct, Option.bind_eq_some_iff] at h1
      obtain ⟨cs, hc, ht⟩ := h1
      obtain ⟨x, rfl, _⟩ := act_of_trod ht
      obtain ⟨_, _, hc⟩ := World.cells?_some hc
      have := World.cell?_spot (hc 0 (by decide))
      simpa [Addr.add] using this
    subst hsp
    have each : ∀ i, i < len → ∃ x : Ac, (∀ j u, (encA x)[j]? = some u → W.cell? ((⟨b, off, none⟩ : Addr).add (i * 4 + j)) = some u) ∧ x.n ≤ 9223372036854775807 := by
      intro i hi
      have h1 := hel i hi
      obtain ⟨y, hy⟩ := some_at hlen hi
      rw [hy, cellsAct, Option.bind_eq_some_iff] at h1
      obtain ⟨cs, hc, ht⟩ := h1
      obtain ⟨x, rfl, hn⟩ := act_of_trod ht
      obtain ⟨_, _, hc⟩ := World.cells?_some hc
      refine ⟨x, fun j u hu => ?_, hn⟩
      have hj : j < 4 := by
        rcases Nat.lt_or_ge j 4 with h | h
        · exact h
        · rw [List.getElem?_eq_none (by simpa using h)] at hu; cases hu
      have := hc j hj
      rw [hu] at this
      rw [add_lit] at this
      rw [add_lit] at this
      rw [add_lit, ← Nat.add_assoc]
      exact this
    have build : ∀ m, m ≤ len → ∃ l : List Ac, l.length = m ∧ (∀ k x, l[k]? = some x → ∀ j u, (encA x)[j]? = some u → W.cell? ((⟨b, off, none⟩ : Addr).add (k * 4 + j)) = some u) ∧ ∀ x ∈ l, x.n ≤ 9223372036854775807 := by
      intro m
      induction m with
      | zero => exact fun _ => ⟨[], rfl, fun k x h => by simp at h, fun _ h => by cases h⟩
      | succ m ih =>
        intro hm
        obtain ⟨l, h1, h2, h3⟩ := ih (by omega)
        obtain ⟨x, hx, hn⟩ := each m (by omega)
        refine ⟨l ++ [x], by simp [h1], fun k z hk j u hu => ?_, fun z hz => ?_⟩
        · rcases Nat.lt_or_ge k l.length with h | h
          · rw [List.getElem?_append_left h] at hk
            exact h2 k z hk j u hu
          · have hk' := (List.getElem?_eq_some_iff.1 hk).1
            rw [List.length_append, List.length_singleton] at hk'
            obtain rfl : k = l.length := by omega
            rw [List.getElem?_append_right (Nat.le_refl _), Nat.sub_self] at hk
            simp at hk
            subst hk
            rw [h1]
            exact hx j u hu
        · rcases List.mem_append.1 hz with h | h
          · exact h3 z h
          · simp at h; subst h; exact hn
    obtain ⟨l, h1, h2, h3⟩ := build len (Nat.le_refl _)
    refine ⟨l, ⟨_, cap, b, off, by rw [h1], fun _ => rfl, by rw [h1]; exact hl, hm, fun k x hk j u hu => ?_⟩, h3⟩
    have := h2 k x hk j u hu
    rw [add_lit, ← Nat.add_assoc] at this
    exact this
end Go.Proofs.YtepdedfmdafnkaaGreatDoor
