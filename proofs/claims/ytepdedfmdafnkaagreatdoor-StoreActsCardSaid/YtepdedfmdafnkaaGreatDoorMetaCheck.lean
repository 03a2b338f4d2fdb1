/- meta.Check, meta.Now: the walks. -/
import Derived.Test.YtepdedfmdafnkaaGreatDoorOwnInts
import Derived.Test.YtepdedfmdafnkaaGreatDoorMetaSpec
namespace Go.Proofs.YtepdedfmdafnkaaGreatDoor
open Go.RowKit

theorem metaNow_any (v : Value) (l : List Int) (w : World) (hl : IntsAt w v l) :
    Calls Tryz.prog 37 #[v] w fun e w' => e = .returned (.int .i64 (metaNow l)) ∧ w = w' := by
  obtain ⟨a, c, b, o, rfl, ha, hc, hcm, hx⟩ := hl
  unfold maxLen at hcm
  by_cases h0 : l.length = 0
  · have h0' : ((l.length : Int) == 0) = true := by simp [h0]
    have : l = [] := List.eq_nil_of_length_eq_zero h0
    have Hl := Lib.hid this; clear this h0
    go_enter Tryz.func37, Tryz.ntmps37
    go_wp2
    go_ret
    exact ⟨by rw [Hl.out]; rfl, rfl⟩
  · have h0' : ((l.length : Int) == 0) = false := by simpa using h0
    obtain ⟨x, hxk⟩ := get_ex (l := l) (k := l.length - 1) (by omega)
    have c1 := hx _ x hxk 0 _ rfl
    have i1 := idx_at (c := c) 1 Tryz.underlying55 szInt ha (l.length - 1) (by omega)
    have hcast : ((l.length - 1 : Nat) : Int) = (l.length : Int) - 1 := by omega
    simp only [Nat.mul_one, Nat.add_zero, hcast] at c1 i1
    clear hcast
    have hpos : 1 ≤ (l.length : Int) := by omega
    have hfin : metaNow l = x := by unfold metaNow; rw [List.getLast?_eq_getElem?, hxk]; rfl
    have Hf := Lib.hid hfin; clear hfin hxk
    go_enter Tryz.func37, Tryz.ntmps37
    go_wp2
    go_ret
    exact ⟨by rw [Hf.out]; rfl, rfl⟩

/-- meta.Check. -/
theorem metaCheck_any (E : Nat → Addr) (B : Nat) (v : Value) (l : List Int) (w : World) (hE : Errs [2, 6, 8, 9] E B w) (hl : IntsAt w v l) :
    Calls Tryz.prog 32 #[v] w fun e w' => ∃ ev, e = .returned ev ∧ ErV E w' ev (metaCheck l) ∧ Below w.heap.size w w' := by
  obtain ⟨a, c, b, o, rfl, ha, hc, hcm, hx⟩ := hl
  unfold maxLen at hcm
  have v2 := hE.var 2 (by decide)
  have v6 := hE.var 6 (by decide)
  have v8 := hE.var 8 (by decide)
  have v9 := hE.var 9 (by decide)
  simp only [errG] at v2 v6 v8 v9
  by_cases h0 : l.length = 0
  · have h0' : ((l.length : Int) == 0) = true := by simp [h0]
    have Hl := Lib.hid h0; clear h0
    go_enter Tryz.func32, Tryz.ntmps32
    go_wp2
    go_ret
    exact ⟨_, rfl, by unfold metaCheck; rw [if_pos Hl.out]; exact ⟨by decide, rfl⟩, Below.refl _ _⟩
  have h0' : ((l.length : Int) == 0) = false := by simpa using h0
  by_cases h40 : 40 < l.length
  · have h40' : (40 : Int) < (l.length : Int) := by omega
    go_enter Tryz.func32, Tryz.ntmps32
    go_wp2
    go_ret
    exact ⟨_, rfl, by unfold metaCheck; rw [if_neg h0, if_pos h40]; exact ⟨by decide, rfl⟩, Below.refl _ _⟩
  have h40' : (l.length : Int) ≤ 40 := by omega
  have hspec : metaCheck l = firstErr (idFault l) l.length := by unfold metaCheck; rw [if_neg h0, if_neg h40]
  have Hs := Lib.hid hspec; clear hspec
  go_enter Tryz.func32, Tryz.ntmps32
  go_wp2
  go_loop [17] (fun i => ∃ k : Nat, k ≤ l.length ∧ i = .int .i64 k ∧ Hid (∀ j < k, idFault l j = 0)) (fun i => l.length - (intOf i).toNat)
  case atStart => exact ⟨0, by omega, rfl, fun j hj => absurd hj (by omega)⟩
  case round =>
    obtain ⟨k, hk, rfl, hj⟩ := hrel
    by_cases hlt : k < l.length
    · obtain ⟨x, hxk⟩ := get_ex hlt
      have c1 := hx k x hxk 0 _ rfl
      have i1 := idx_at (c := c) 1 Tryz.underlying55 szInt ha k hlt
      have hk1 : (k : Int) < (l.length : Int) := by omega
      simp only [Nat.mul_one, Nat.add_zero] at c1 i1
      have Hx := Lib.hid hxk; clear hxk
      by_cases hA : x < 1
      · have hf : idFault l k = 2 := by unfold idFault; rw [Hx.out]; simp only; rw [if_pos (.inl hA)]
        have Hf := Lib.hid hf; clear hf
        go_wp2
        go_ret
        refine ⟨_, rfl, ?_, (Below.refl _ _).alloc (Nat.le_refl _) _⟩
        rw [Hs.out, firstErr_hit hlt hj.out (by rw [Hf.out]; decide), Hf.out]
        exact ⟨by decide, w.heap.size, rfl, by simp, by simp⟩
      · by_cases hB : 1073741824 < x
        · have hf : idFault l k = 2 := by unfold idFault; rw [Hx.out]; simp only; rw [if_pos (.inr hB)]
          have Hf := Lib.hid hf; clear hf
          go_wp2
          go_ret
          refine ⟨_, rfl, ?_, (Below.refl _ _).alloc (Nat.le_refl _) _⟩
          rw [Hs.out, firstErr_hit hlt hj.out (by rw [Hf.out]; decide), Hf.out]
          exact ⟨by decide, w.heap.size, rfl, by simp, by simp⟩
        · by_cases hC : k = 0
          · subst hC
            simp only [Nat.add_zero, Int.ofNat_zero] at c1 i1
            have hf : idFault l 0 = 0 := by unfold idFault; rw [Hx.out]; simp only; rw [if_neg (by omega), if_neg (by simp)]
            have Hf := Lib.hid hf; clear hf
            go_wp2
            go_round
            case rel => exact ⟨0 + 1, by omega, by go_num, fun j hj' => by obtain rfl : j = 0 := by omega
                                                                           exact Hf.out⟩
            case measure => simp [intOf]; omega
          · obtain ⟨y, hyk⟩ := get_ex (l := l) (k := k - 1) (by omega)
            have c2 := hx _ y hyk 0 _ rfl
            have i2 := idx_at (c := c) 1 Tryz.underlying55 szInt ha (k - 1) (by omega)
            have hcast : ((k - 1 : Nat) : Int) = (k : Int) - 1 := by omega
            simp only [Nat.mul_one, Nat.add_zero, hcast] at c2 i2
            clear hcast
            have Hy := Lib.hid hyk; clear hyk
            have hk2 : 1 ≤ (k : Int) := by omega
            by_cases hD : x ≤ y
            · have hf : idFault l k = 9 := by unfold idFault; rw [Hx.out]; simp only; rw [if_neg (by omega), if_pos ⟨by omega, y, Hy.out, hD⟩]
              have Hf := Lib.hid hf; clear hf
              go_wp2
              go_ret
              refine ⟨_, rfl, ?_, (Below.refl _ _).alloc (Nat.le_refl _) _⟩
              rw [Hs.out, firstErr_hit hlt hj.out (by rw [Hf.out]; decide), Hf.out]
              exact ⟨by decide, w.heap.size, rfl, by simp, by simp⟩
            · have hf : idFault l k = 0 := by
                unfold idFault; rw [Hx.out]; simp only; rw [if_neg (by omega), if_neg]
                rintro ⟨_, m, hm, hle⟩
                rw [Hy.out] at hm
                obtain rfl := Option.some.inj hm
                exact hD hle
              have Hf := Lib.hid hf; clear hf
              have hD' : y < x := by omega
              go_wp2
              go_round
              case rel => exact ⟨k + 1, by omega, by go_num, fun j hj' => by
                rcases Nat.lt_or_ge j k with h | h
                · exact hj.out j h
                · obtain rfl : j = k := by omega
                  exact Hf.out⟩
              case measure => simp [intOf]; omega
    · obtain rfl : k = l.length := by omega
      go_wp2
      go_ret
      exact ⟨_, rfl, by rw [Hs.out, firstErr_all hj.out]; rfl, Below.refl _ _⟩
end Go.Proofs.YtepdedfmdafnkaaGreatDoor
