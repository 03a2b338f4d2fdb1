/- deedboxlaw2.noted: the walk. -/
import Derived.Test.YtepdedfmdafnkaaGreatDoorMetaPlain
namespace Go.Proofs.YtepdedfmdafnkaaGreatDoor
open Go.RowKit

theorem two_at (w : World) (t : TypeId) (H : Nat) (hH : w.heap.size = H) (x y : Int) : IntsAt (w.alloc (.cells #[.int .i64 x, .int .i64 y] t)) (.slice (some ⟨H, 0, none⟩) 2 2) [x, y] := by
  subst hH
  refine ⟨_, _, w.heap.size, 0, rfl, fun _ => rfl, Nat.le_refl 2, (by decide : 2 ≤ maxLen), fun k z hk j u hu => ?_⟩
  obtain rfl : j = 0 := by
    rcases Nat.eq_zero_or_pos j with h | h
    · exact h
    · rw [List.getElem?_eq_none (by simp; omega)] at hu; cases hu
  obtain rfl : .int .i64 z = u := by simpa using hu
  have hk' : k < 2 := by
    rcases Nat.lt_or_ge k 2 with h | h
    · exact h
    · rw [List.getElem?_eq_none (by simp; omega)] at hk; cases hk
  have : k = 0 ∨ k = 1 := by omega
  rcases this with rfl | rfl <;> (simp at hk; subst hk; simp)

theorem check15 : metaCheck [1, 5] = .nil := by decide
theorem text15 : metaText [1, 5] = [109, 101, 116, 97, 32, 49, 32, 53, 10] := by
  have h1 : Lib.itoa 1 = [49] := (Lib.itoa_nonneg 1).trans (Lib.decDigits_one (by decide))
  have h5 : Lib.itoa 5 = [53] := (Lib.itoa_nonneg 5).trans (Lib.decDigits_one (by decide))
  simp [metaText, idsTail, h1, h5]

set_option maxRecDepth 20000 in
theorem noted_any (E : Nat → Addr) (B : Nat) (w : World) (hE : Errs [2, 6, 8, 9] E B w) (hT : LNum B w) :
    Calls Tryz.prog 27 #[] w fun e w' => e = .returned (.bool true) ∧ Below w.heap.size w w' := by
  have hif := isIfaceE
  have hts : metaTextR [1, 5] = [109, 101, 116, 97, 32, 49, 32, 53, 10] := (if_pos check15).trans text15
  have Hts := Lib.hid hts; clear hts
  go_enter Tryz.func27, Tryz.ntmps27
  go_wp2_with fail
  have hba := (Below.refl w.heap.size w).alloc (Nat.le_refl _) (.cells #[.int .i64 1, .int .i64 5] 3)
  refine (metaText_any E B _ [1, 5] _ (hE.below' hba hE.le) (hT.below' hba hT.le) (two_at w 3 _ rfl 1 5)).mono ?_
  rintro e w1 ⟨ev, rfl, hev, hb1⟩
  rw [check15] at hev
  obtain rfl : ev = .nilIface := hev
  rw [Hts.out]
  have hb1' : Below w.heap.size w w1 := hba.trans (hb1.mono hba.size)
  clear hba hb1
  go_wp2_with fail
  refine (metaNow_any _ [1, 5] _ (two_at w1 3 _ rfl 1 5)).mono ?_
  rintro e w' ⟨rfl, rfl⟩
  have hn : metaNow [1, 5] = 5 := rfl
  rw [hn]
  go_wp2_with fail
  go_ret
  exact ⟨rfl, hb1'.alloc hb1'.size _⟩

end Go.Proofs.YtepdedfmdafnkaaGreatDoor
