/- deedboxref1's faults: Bare, Fine; faulted; deedboxref2.IDsFault. -/
import Derived.Test.YtepdedfmdafnkaaGreatDoorMetaCheck
import Derived.Laws.Rows
import Derived.Laws.NewBlocks
namespace Go.Proofs.YtepdedfmdafnkaaGreatDoor
open Go.RowKit

/-- An error as the document's answer holds it. -/
def faultV (c p : Int) : Value := .agg #[.int .i64 c, .int .i64 p]

theorem refBare_any (c : Int) (w : World) : Calls Tryz.prog 39 #[.int .i64 c] w fun e w' => e = .returned (faultV c (-1)) ∧ Below w.heap.size w w' := by
  go_enter Tryz.func39, Tryz.ntmps39
  go_wp2
  refine bodyPost_ret (results_cell_row rfl _ _ w.heap.size 57 #[.int .i64 c, .int .i64 (-1)] (0, 0) _ rfl (heap_alloc_new _ _) Tryz.underlying57 rfl (by kernel_rfl)) rfl ?_
  exact ⟨rfl, (Below.refl _ _).alloc (Nat.le_refl _) _⟩
theorem refFine_any (w : World) : Calls Tryz.prog 59 #[] w fun e w' => e = .returned (faultV 0 (-1)) ∧ Below w.heap.size w w' := by
  go_enter Tryz.func59, Tryz.ntmps59
  go_wp2
  refine bodyPost_ret (results_cell_row rfl _ _ w.heap.size 57 #[.int .i64 0, .int .i64 (-1)] (0, 0) _ rfl (heap_alloc_new _ _) Tryz.underlying57 rfl (by kernel_rfl)) rfl ?_
  exact ⟨rfl, (Below.refl _ _).alloc (Nat.le_refl _) _⟩

def toldB (er : Er) (c p : Int) : Bool := decide ((er.code : Int) = c) && (decide (er.code = 0) || decide (er.place = p))

set_option maxRecDepth 20000 in
theorem faulted_any (E : Nat → Addr) (B : Nat) (er : Er) (v : Value) (c p : Int) (w : World) (hE : Errs allE E B w) (hA : AsVar w) (hgB : 12 < B) (hv : ErV E w v er) :
    Calls Tryz.prog 31 #[v, faultV c p] w fun e w' => e = .returned (.bool (toldB er c p)) ∧ Below w.heap.size w w' := by
  unfold faultV
  by_cases hc : (er.code : Int) = c
  · have hsp : toldB er c p = (decide (er.code = 0) || decide (er.place = p)) := by simp [toldB, hc]
    have g1 : ((er.code : Int) == c) = true := by simpa using hc
    by_cases h0 : er.code = 0
    · have g2 : ((er.code : Int) == 0) = true := by simp [h0]
      rw [hsp]
      have hsp2 : (decide (er.code = 0) || decide (er.place = p)) = true := by simp [h0]
      rw [hsp2]
      clear hsp hsp2 hc h0
      go_enter Tryz.func31, Tryz.ntmps31
      go_wp2_with fail
      have hba := (Below.refl w.heap.size w).alloc (Nat.le_refl _) (.cells #[.int .i64 c, .int .i64 p] 57)
      refine (code_any E B er v _ (hE.below' hba hE.le) (hA.below (B := w.heap.size) hba (by have := hE.le; omega)) (hv.below hba)).mono ?_
      rintro e w1 ⟨rfl, hb1⟩
      have hb1' : Below w.heap.size w w1 := hba.trans (hb1.mono hba.size)
      have c0 : w1.cell? ⟨w.heap.size, 0, none⟩ = some (.int .i64 c) := (hb1.cell (p := ⟨w.heap.size, 0, none⟩) (by simp)).trans (by simp)
      go_wp2_with fail
      go_ret
      exact ⟨rfl, hb1'⟩
    · have g2 : ((er.code : Int) == 0) = false := by simp; omega
      have hsp2 : toldB er c p = decide (er.place = p) := by rw [hsp]; simp [h0]
      rw [hsp2]
      clear hsp hsp2 hc h0
      go_enter Tryz.func31, Tryz.ntmps31
      go_wp2_with fail
      have hba := (Below.refl w.heap.size w).alloc (Nat.le_refl _) (.cells #[.int .i64 c, .int .i64 p] 57)
      refine (code_any E B er v _ (hE.below' hba hE.le) (hA.below (B := w.heap.size) hba (by have := hE.le; omega)) (hv.below hba)).mono ?_
      rintro e w1 ⟨rfl, hb1⟩
      have hb1' : Below w.heap.size w w1 := hba.trans (hb1.mono hba.size)
      have c0 : w1.cell? ⟨w.heap.size, 0, none⟩ = some (.int .i64 c) := (hb1.cell (p := ⟨w.heap.size, 0, none⟩) (by simp)).trans (by simp)
      have c1 : w1.cell? ⟨w.heap.size, 1, none⟩ = some (.int .i64 p) := (hb1.cell (p := ⟨w.heap.size, 1, none⟩) (by simp)).trans (by simp)
      go_wp2_with fail
      go_ret
      exact ⟨ret_bool (by simp [Bool.beq_eq_decide_eq]), hb1'⟩
  · have hsp : toldB er c p = false := by simp [toldB, hc]
    have g1 : ((er.code : Int) == c) = false := by simpa using hc
    rw [hsp]
    clear hsp hc
    go_enter Tryz.func31, Tryz.ntmps31
    go_wp2_with fail
    have hba := (Below.refl w.heap.size w).alloc (Nat.le_refl _) (.cells #[.int .i64 c, .int .i64 p] 57)
    refine (code_any E B er v _ (hE.below' hba hE.le) (hA.below (B := w.heap.size) hba (by have := hE.le; omega)) (hv.below hba)).mono ?_
    rintro e w1 ⟨rfl, hb1⟩
    have hb1' : Below w.heap.size w w1 := hba.trans (hb1.mono hba.size)
    have c0 : w1.cell? ⟨w.heap.size, 0, none⟩ = some (.int .i64 c) := (hb1.cell (p := ⟨w.heap.size, 0, none⟩) (by simp)).trans (by simp)
    go_wp2_with fail
    go_ret
    exact ⟨rfl, hb1'⟩
end Go.Proofs.YtepdedfmdafnkaaGreatDoor
