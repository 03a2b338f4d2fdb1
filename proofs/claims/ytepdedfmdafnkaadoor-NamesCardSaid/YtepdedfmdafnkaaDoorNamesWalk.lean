/- deedboxlaw1.Names: the walk. -/
import Derived.Test.YtepdedfmdafnkaaDoorCoded
namespace Go.Proofs.YtepdedfmdafnkaaDoor
open Go.RowKit

theorem errorsNew_any (s : Str) (w : World) : Calls Tryd.prog 9 #[S s] w fun e w' => e = .returned (.iface 58 (.pointer (some ⟨w.heap.size, 0, none⟩))) ∧ w.alloc (.cells #[S s] 60) = w' := by
  go_enter Tryd.func9, Tryd.ntmps9
  go_wp2
  go_ret
  exact ⟨rfl, rfl⟩

def namesL : List Int := [1073741824, 8, 40, 60, 40, 20000, 200, 262144, 100000, 80, 16]
theorem names_at (w : World) (t : TypeId) (H : Nat) (hH : w.heap.size = H) : IntsAt (w.alloc (.cells #[.int .i64 1073741824, .int .i64 8, .int .i64 40, .int .i64 60, .int .i64 40, .int .i64 20000, .int .i64 200, .int .i64 262144, .int .i64 100000, .int .i64 80, .int .i64 16] t)) (.slice (some ⟨H, 0, none⟩) 11 11) namesL := by
  subst hH
  refine ⟨_, _, w.heap.size, 0, rfl, fun _ => rfl, by decide, by decide, fun k x hk j u hu => ?_⟩
  obtain rfl : j = 0 := by
    rcases Nat.eq_zero_or_pos j with h | h
    · exact h
    · rw [List.getElem?_eq_none (by simp; omega)] at hu; cases hu
  obtain rfl : .int .i64 x = u := by simpa using hu
  have hk' : k < 11 := by
    rcases Nat.lt_or_ge k 11 with h | h
    · exact h
    · rw [List.getElem?_eq_none (by simp [namesL]; omega)] at hk; cases hk
  have : k = 0 ∨ k = 1 ∨ k = 2 ∨ k = 3 ∨ k = 4 ∨ k = 5 ∨ k = 6 ∨ k = 7 ∨ k = 8 ∨ k = 9 ∨ k = 10 := by omega
  rcases this with rfl | rfl | rfl | rfl | rfl | rfl | rfl | rfl | rfl | rfl | rfl <;> (simp [namesL] at hk; subst hk; simp)

set_option maxRecDepth 100000 in
set_option maxHeartbeats 2000000 in
theorem names_any (E : Nat → Addr) (B : Nat) (w : World) (hE : Errs allE E B w) (hA : AsVar w) (hgB : 12 < B) :
    Calls Tryd.prog 3 #[] w fun e w' => e = .returned (.bool true) ∧ Below w.heap.size w w' := by
  have hif := isIfaceE
  go_enter Tryd.func3, Tryd.ntmps3
  go_wp2_with fail
  refine (sameInts_any _ _ namesL namesL _ ((names_at w 3 _ rfl).below ((Below.refl _ _).alloc (Nat.le_refl _) _)) (names_at _ 3 _ (by simp))).mono ?_
  rintro e w1 ⟨rfl, hb⟩
  have hb1 : Below w.heap.size w w1 := (((Below.refl _ _).alloc (Nat.le_refl _) _).alloc (by simp) _).trans (hb.mono (by simp; omega))
  clear hb
  have ht : decide (namesL = namesL) = true := decide_eq_true rfl
  have hE1 := hE.below' hb1 hE.le
  have v1 := hE1.var 1 (by decide)
  have v2 := hE1.var 2 (by decide)
  have v3 := hE1.var 3 (by decide)
  have v4 := hE1.var 4 (by decide)
  have v5 := hE1.var 5 (by decide)
  have v6 := hE1.var 6 (by decide)
  have v7 := hE1.var 7 (by decide)
  have v8 := hE1.var 8 (by decide)
  have v9 := hE1.var 9 (by decide)
  have v10 := hE1.var 10 (by decide)
  have v11 := hE1.var 11 (by decide)
  have v12 := hE1.var 12 (by decide)
  simp only [errG] at v1 v2 v3 v4 v5 v6 v7 v8 v9 v10 v11 v12
  go_wp2_with fail
  have hcell := fun k hk => sent_cells E k hk w1 25
  have hb2 : Below w.heap.size w (w1.alloc _) := hb1.alloc hb1.size (.cells #[.iface 58 (.pointer (some (E 1))), .iface 58 (.pointer (some (E 2))), .iface 58 (.pointer (some (E 3))), .iface 58 (.pointer (some (E 4))), .iface 58 (.pointer (some (E 5))), .iface 58 (.pointer (some (E 6))), .iface 58 (.pointer (some (E 7))), .iface 58 (.pointer (some (E 8))), .iface 58 (.pointer (some (E 9))), .iface 58 (.pointer (some (E 10))), .iface 58 (.pointer (some (E 11))), .iface 58 (.pointer (some (E 12)))] 25)
  clear v1 v2 v3 v4 v5 v6 v7 v8 v9 v10 v11 v12
  generalize hW2 : w1.alloc (.cells _ _) = W2 at hcell hb2 ⊢
  clear hW2 hE1 ht
  have hBw : B ≤ w.heap.size := hE.le
  go_loopw [4] (fun i wr => ∃ k : Nat, k ≤ 12 ∧ i = .int .i64 k ∧ Below W2.heap.size W2 wr) (fun i _ => 12 - (intOf i).toNat)
  case atStart => exact ⟨0, by omega, rfl, Below.refl _ _⟩
  case round =>
    obtain ⟨k, hk, rfl, hbr⟩ := hrel
    have hbw : Below w.heap.size w wr := hb2.trans (hbr.mono hb2.size)
    by_cases hlt : k < 12
    · have c0 := hcell k hlt
      have c1 := (hbr.cell (World.block_lt_of_cell? W2 _ c0)).trans c0
      have hk1 : (k : Int) < 12 := by omega
      clear hcell c0
      go_wp2_with fail
      refine (code_fault E B (k + 1) (by omega) (by omega) 7 wr.heap.size _ (hE.below' (hbw.alloc hbw.size _) hE.le) (hA.below (hbw.alloc hbw.size _) (by omega)) (by simp) (by simp)).mono ?_
      rintro e w3 ⟨rfl, hb3⟩
      have hr3 : Below W2.heap.size W2 w3 := (hbr.alloc hbr.size _).trans (hb3.mono (by simp; have := hbr.size; omega))
      have hw3 : Below w.heap.size w w3 := hb2.trans (hr3.mono hb2.size)
      have c3 := (hb3.cell (p := ⟨w1.heap.size, k, none⟩) (by have := World.block_lt_of_cell? wr _ c1; simp at this ⊢; omega)).trans ((World.cell?_alloc_lt _ _ _ (World.block_lt_of_cell? wr _ c1)).trans c1)
      clear c1 hb3
      go_wp2_with fail
      refine (coded1_any E B (.bare (k + 1)) _ _ _ (hE.below' hw3 hE.le) (hA.below hw3 (by omega)) ⟨⟨by omega, by omega⟩, rfl⟩).mono ?_
      rintro e w4 ⟨rfl, hb4⟩
      have hr4 : Below W2.heap.size W2 w4 := hr3.trans (hb4.mono hr3.size)
      have hcb : codedB (.bare (k + 1)) (↑k + 1) = true := by simp [codedB, Er.code, Er.place]
      go_wp2_with fail
      go_roundw
      case rel => exact ⟨k + 1, by omega, by go_num, hr4⟩
      case measure => simp [intOf]; omega
    · obtain rfl : k = 12 := by omega
      clear hcell
      go_wp2_with (go_at_call 9; refine (errorsNew_any [97, 110, 111, 116, 104, 101, 114, 32, 111, 110, 101] _).mono ?_; rintro e w3 ⟨rfl, rfl⟩)
      refine (code_else E B ⟨wr.heap.size, 0, none⟩ _ _ _ (hE.below' (hbw.alloc hbw.size _) hE.le) (hA.below (hbw.alloc hbw.size _) (by omega)) (heap_alloc_new wr _) (by have := hbw.size; simp; omega)).mono ?_
      rintro e w3 ⟨rfl, hb3⟩
      have hw3 : Below w.heap.size w w3 := (hbw.alloc hbw.size _).trans (hb3.mono (by simp; have := hbw.size; omega))
      have hcb : codedB .nil 0 = true := by simp [codedB, Er.code, Er.place]
      go_wp2_with (go_at_call 8; refine (coded1_any E B .nil _ _ _ (hE.below' hw3 hE.le) (hA.below hw3 (by omega)) rfl).mono ?_; rintro e w4 ⟨rfl, hb4⟩)
      go_ret
      exact ⟨rfl, hw3.trans (hb4.mono hw3.size)⟩
end Go.Proofs.YtepdedfmdafnkaaDoor
