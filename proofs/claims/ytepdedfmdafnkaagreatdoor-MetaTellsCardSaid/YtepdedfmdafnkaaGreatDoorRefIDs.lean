/- deedboxref2.IDsFault: the walk. -/
import Derived.Test.YtepdedfmdafnkaaGreatDoorRefFault
import Derived.Laws.Rows
import Derived.Laws.Tables
namespace Go.Proofs.YtepdedfmdafnkaaGreatDoor
open Go.RowKit

def faultOf (er : Er) : Value := faultV er.code er.place

theorem fault_out {tmps : Array Value} {w : World} {g : Nat} {c p : Int} (hp : tmps.getD 2 undef = .pointer (some ⟨g, 0, none⟩)) (hg : w.heap[g]? = some (.cells #[.int .i64 c, .int .i64 p] 57 (0, 0))) :
    (results Tryz.f28 tmps).run Tryz.prog w = .ok (faultV c p) w :=
  results_cell_row rfl _ _ g 57 #[.int .i64 c, .int .i64 p] (0, 0) _ hp hg Tryz.underlying57 rfl (by kernel_rfl)

theorem set_two {w : World} {g : Nat} {a b : Value} {t : TypeId} (hg : w.heap[g]? = some (.cells #[a, b] t (0, 0))) (x y : Value) : ((w.setCell ⟨g, 0, none⟩ x).setCell ⟨g, 1, none⟩ y).heap[g]? = some (.cells #[x, y] t (0, 0)) := by
  have h1 := heap_setCell_same w g 0 #[a, b] t x hg
  have h2 := heap_setCell_same _ g 1 _ t y h1
  simpa using h2

set_option maxRecDepth 20000 in
theorem idsFault_any (v : Value) (l : List Int) (w : World) (hl : IntsAt w v l) :
    Calls Tryz.prog 28 #[v] w fun e w' => e = .returned (faultOf (metaCheck l)) ∧ Below w.heap.size w w' := by
  obtain ⟨a, c, b, o, rfl, ha, hc, hcm, hx⟩ := hl
  unfold maxLen at hcm
  have hba := (Below.refl w.heap.size w).alloc (Nat.le_refl _) (.cells #[.int .i64 0, .int .i64 0] 57)
  by_cases h0 : l.length = 0
  · have h0' : ((l.length : Int) == 0) = true := by simp [h0]
    have hsp : metaCheck l = .bare 6 := if_pos h0
    have Hl := Lib.hid hsp; clear h0 hsp
    go_enter Tryz.func28, Tryz.ntmps28
    go_wp2_with fail
    refine (refBare_any 6 _).mono ?_
    rintro e w1 ⟨rfl, hb⟩
    have hg : w1.heap[w.heap.size]? = some (.cells #[.int .i64 0, .int .i64 0] 57 (0, 0)) := (hb.block _ (by simp)).trans (heap_alloc_new _ _)
    have c0 : w1.cell? ⟨w.heap.size, 0, none⟩ = some (.int .i64 0) := by simp [World.cell?, hg]
    have c1 : w1.cell? ⟨w.heap.size, 1, none⟩ = some (.int .i64 0) := by simp [World.cell?, hg]
    have f0 : w1.frozen? ⟨w.heap.size, 0, none⟩ = false := by simp [World.frozen?, hg]
    have f1 : w1.frozen? ⟨w.heap.size, 1, none⟩ = false := by simp [World.frozen?, hg]
    unfold faultV
    go_wp2_with fail
    refine bodyPost_ret (fault_out (g := w.heap.size) rfl (set_two hg _ _)) rfl ⟨by rw [Hl.out]; rfl, ?_⟩
    exact ((hba.trans (hb.mono hba.size)).setCell (by simp) _).setCell (by simp) _
  have h0' : ((l.length : Int) == 0) = false := by simpa using h0
  by_cases h40 : 40 < l.length
  · have h40' : (40 : Int) < (l.length : Int) := by omega
    have hsp : metaCheck l = .bare 8 := by unfold metaCheck; rw [if_neg h0, if_pos h40]
    have Hl := Lib.hid hsp; clear h0 hsp
    go_enter Tryz.func28, Tryz.ntmps28
    go_wp2_with fail
    refine (refBare_any 8 _).mono ?_
    rintro e w1 ⟨rfl, hb⟩
    have hg : w1.heap[w.heap.size]? = some (.cells #[.int .i64 0, .int .i64 0] 57 (0, 0)) := (hb.block _ (by simp)).trans (heap_alloc_new _ _)
    have c0 : w1.cell? ⟨w.heap.size, 0, none⟩ = some (.int .i64 0) := by simp [World.cell?, hg]
    have c1 : w1.cell? ⟨w.heap.size, 1, none⟩ = some (.int .i64 0) := by simp [World.cell?, hg]
    have f0 : w1.frozen? ⟨w.heap.size, 0, none⟩ = false := by simp [World.frozen?, hg]
    have f1 : w1.frozen? ⟨w.heap.size, 1, none⟩ = false := by simp [World.frozen?, hg]
    unfold faultV
    go_wp2_with fail
    refine bodyPost_ret (fault_out (g := w.heap.size) rfl (set_two hg _ _)) rfl ⟨by rw [Hl.out]; rfl, ?_⟩
    exact ((hba.trans (hb.mono hba.size)).setCell (by simp) _).setCell (by simp) _
  have h40' : (l.length : Int) ≤ 40 := by omega
  have hspec : metaCheck l = firstErr (idFault l) l.length := by unfold metaCheck; rw [if_neg h0, if_neg h40]
  have Hs := Lib.hid hspec; clear hspec h0 h40
  go_enter Tryz.func28, Tryz.ntmps28
  go_wp2_with fail
  go_loopw [3] (fun i wr => ∃ k : Nat, k ≤ l.length ∧ i = .int .i64 k ∧ Hid (∀ j < k, idFault l j = 0) ∧ Below (w.alloc (.cells #[.int .i64 0, .int .i64 0] 57)).heap.size (w.alloc (.cells #[.int .i64 0, .int .i64 0] 57)) wr) (fun i _ => l.length - (intOf i).toNat)
  case atStart => exact ⟨0, by omega, rfl, fun j hj => absurd hj (by omega), Below.refl _ _⟩
  case round =>
    obtain ⟨k, hk, rfl, hj, hb⟩ := hrel
    have hbw : Below w.heap.size w wr := hba.trans (hb.mono hba.size)
    have hg : wr.heap[w.heap.size]? = some (.cells #[.int .i64 0, .int .i64 0] 57 (0, 0)) := (hb.block _ (by simp)).trans (heap_alloc_new _ _)
    have d0 : wr.cell? ⟨w.heap.size, 0, none⟩ = some (.int .i64 0) := by simp [World.cell?, hg]
    have d1 : wr.cell? ⟨w.heap.size, 1, none⟩ = some (.int .i64 0) := by simp [World.cell?, hg]
    have f0 : wr.frozen? ⟨w.heap.size, 0, none⟩ = false := by simp [World.frozen?, hg]
    have f1 : wr.frozen? ⟨w.heap.size, 1, none⟩ = false := by simp [World.frozen?, hg]
    by_cases hlt : k < l.length
    · obtain ⟨x, hxk⟩ := get_ex hlt
      have c1 := hx k x hxk 0 _ rfl
      have c1 := (hbw.cell (World.block_lt_of_cell? w _ c1)).trans c1
      have i1 := idx_at (c := c) 1 Tryz.underlying55 szInt ha k hlt
      have hk1 : (k : Int) < (l.length : Int) := by omega
      simp only [Nat.mul_one, Nat.add_zero] at c1 i1
      have Hx := Lib.hid hxk; clear hxk
      by_cases hA : x < 1
      · have hf : idFault l k = 2 := by unfold idFault; rw [Hx.out]; simp only; rw [if_pos (.inl hA)]
        have Hf := Lib.hid hf; clear hf
        go_wp2_with fail
        refine bodyPost_ret (fault_out (g := w.heap.size) rfl (set_two hg _ _)) rfl ⟨?_, ?_⟩
        · rw [Hs.out, firstErr_hit hlt hj.out (by rw [Hf.out]; decide), Hf.out]; rfl
        · exact ((hbw).setCell (by simp) _).setCell (by simp) _
      · by_cases hB : 1073741824 < x
        · have hf : idFault l k = 2 := by unfold idFault; rw [Hx.out]; simp only; rw [if_pos (.inr hB)]
          have Hf := Lib.hid hf; clear hf
          go_wp2_with fail
          refine bodyPost_ret (fault_out (g := w.heap.size) rfl (set_two hg _ _)) rfl ⟨?_, ?_⟩
          · rw [Hs.out, firstErr_hit hlt hj.out (by rw [Hf.out]; decide), Hf.out]; rfl
          · exact ((hbw).setCell (by simp) _).setCell (by simp) _
        · by_cases hC : k = 0
          · subst hC
            simp only [Nat.add_zero, Int.ofNat_zero] at c1 i1
            have hf : idFault l 0 = 0 := by unfold idFault; rw [Hx.out]; simp only; rw [if_neg (by omega), if_neg (by simp)]
            have Hf := Lib.hid hf; clear hf
            go_wp2_with fail
            go_roundw
            case rel => exact ⟨0 + 1, by omega, by go_num, (fun j hj' => by
              obtain rfl : j = 0 := by omega
              exact Hf.out), hb⟩
            case measure => simp [intOf]; omega
          · obtain ⟨y, hyk⟩ := get_ex (l := l) (k := k - 1) (by omega)
            have c2 := hx _ y hyk 0 _ rfl
            have c2 := (hbw.cell (World.block_lt_of_cell? w _ c2)).trans c2
            have i2 := idx_at (c := c) 1 Tryz.underlying55 szInt ha (k - 1) (by omega)
            have hcast : ((k - 1 : Nat) : Int) = (k : Int) - 1 := by omega
            simp only [Nat.mul_one, Nat.add_zero, hcast] at c2 i2
            clear hcast
            have Hy := Lib.hid hyk; clear hyk
            have hk2 : 1 ≤ (k : Int) := by omega
            by_cases hD : x ≤ y
            · have hf : idFault l k = 9 := by unfold idFault; rw [Hx.out]; simp only; rw [if_neg (by omega), if_pos ⟨by omega, y, Hy.out, hD⟩]
              have Hf := Lib.hid hf; clear hf
              go_wp2_with fail
              go_quiet (fail)
              go_wp2_with fail
              refine bodyPost_ret (fault_out (g := w.heap.size) rfl (set_two (w := wr.drewN _) hg _ _)) rfl ⟨?_, ?_⟩
              · rw [Hs.out, firstErr_hit hlt hj.out (by rw [Hf.out]; decide), Hf.out]; rfl
              · exact ((Bdn hbw _).setCell (by simp) _).setCell (by simp) _
            · have hf : idFault l k = 0 := by
                unfold idFault; rw [Hx.out]; simp only; rw [if_neg (by omega), if_neg]
                rintro ⟨_, m, hm, hle⟩
                rw [Hy.out] at hm
                obtain rfl := Option.some.inj hm
                exact hD hle
              have Hf := Lib.hid hf; clear hf
              have hD' : y < x := by omega
              go_wp2_with fail
              go_quiet (fail)
              go_wp2_with fail
              go_roundw
              case rel => exact ⟨k + 1, by omega, by go_num, (fun j hj' => by
                rcases Nat.lt_or_ge j k with h | h
                · exact hj.out j h
                · obtain rfl : j = k := by omega
                  exact Hf.out), Bdn hb _⟩
              case measure => simp [intOf]; omega
    · obtain rfl : k = l.length := by omega
      go_wp2_with fail
      refine (refFine_any _).mono ?_
      rintro e w1 ⟨rfl, hb1⟩
      have hg1 : w1.heap[w.heap.size]? = some (.cells #[.int .i64 0, .int .i64 0] 57 (0, 0)) := (hb1.block _ (Array.getElem?_eq_some_iff.1 hg).1).trans hg
      have e0 : w1.cell? ⟨w.heap.size, 0, none⟩ = some (.int .i64 0) := by simp [World.cell?, hg1]
      have e1 : w1.cell? ⟨w.heap.size, 1, none⟩ = some (.int .i64 0) := by simp [World.cell?, hg1]
      have h0 : w1.frozen? ⟨w.heap.size, 0, none⟩ = false := by simp [World.frozen?, hg1]
      have h1 : w1.frozen? ⟨w.heap.size, 1, none⟩ = false := by simp [World.frozen?, hg1]
      unfold faultV
      go_wp2_with fail
      refine bodyPost_ret (fault_out (g := w.heap.size) rfl (set_two hg1 _ _)) rfl ⟨?_, ?_⟩
      · rw [Hs.out, firstErr_all hj.out]; rfl
      · exact ((hbw.trans (hb1.mono hbw.size)).setCell (by simp) _).setCell (by simp) _
end Go.Proofs.YtepdedfmdafnkaaGreatDoor
