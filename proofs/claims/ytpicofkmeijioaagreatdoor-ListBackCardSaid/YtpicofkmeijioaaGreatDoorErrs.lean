/- The program's sentinel errors in memory, and the contract of plain.Code: the number and the place of nil, of a sentinel, of a Fault around a sentinel, and of another error of errors.New's make. -/
import Derived.Test.YtpicofkmeijioaaGreatDoorErrIs
import Derived.WalkKit
import Derived.WalkSpells
import Derived.LoopTactic
import Derived.Stop.IfaceNil
import Derived.Outline
import Derived.Lib.Hide
namespace Go.Proofs.YtpicofkmeijioaaGreatDoor
open Go.RowKit

theorem isIfaceE : Tryz.prog.isIface 59 = true := by kernel_rfl

/-- The global's number of an error's number. -/
def errG : Nat → Nat
  | 1 => 1 | 2 => 5 | 3 => 11 | 4 => 10 | 5 => 7 | 6 => 4
  | 7 => 3 | 8 => 0 | 9 => 2 | 10 => 6 | 11 => 9 | _ => 8

/-- The sentinels of the numbers D lie in the world w below block B, each behind the address E says. -/
structure Errs (D : List Nat) (E : Nat → Addr) (B : Nat) (w : World) : Prop where
  var : ∀ c ∈ D, w.cell? ⟨errG c, 0, none⟩ = some (.iface 290 (.pointer (some (E c))))
  row : ∀ c ∈ D, ∃ cs t, w.heap[(E c).block]? = some (.cells cs t (0, 0))
  lt : ∀ c ∈ D, (E c).block < B ∧ errG c < B
  inj : ∀ c ∈ D, ∀ d ∈ D, E c = E d → c = d
  le : B ≤ w.heap.size

theorem Errs.sub {D D' : List Nat} {E B w} (h : Errs D E B w) (hs : ∀ c ∈ D', c ∈ D) : Errs D' E B w :=
  ⟨fun c hc => h.var c (hs c hc), fun c hc => h.row c (hs c hc), fun c hc => h.lt c (hs c hc), fun c hc d hd => h.inj c (hs c hc) d (hs d hd), h.le⟩
theorem Errs.below {D : List Nat} {E B w w'} (h : Errs D E B w) (hb : Below B w w') : Errs D E B w' :=
  ⟨fun c hc => (hb.cell (p := ⟨errG c, 0, none⟩) (h.lt c hc).2).trans (h.var c hc), fun c hc => let ⟨cs, t, e⟩ := h.row c hc; ⟨cs, t, (hb.block _ (h.lt c hc).1).trans e⟩, h.lt, h.inj, Nat.le_trans h.le hb.size⟩
theorem Errs.below' {D : List Nat} {E B w w' B'} (h : Errs D E B w) (hb : Below B' w w') (hB : B ≤ B') : Errs D E B w' := h.below (hb.mono hB)

/-- The numbers of all errors. -/
abbrev allE : List Nat := [1, 2, 3, 4, 5, 6, 7, 8, 9, 10, 11, 12]
theorem mem_allE {c : Nat} : c ∈ allE ↔ 1 ≤ c ∧ c ≤ 12 := by
  simp only [allE, List.mem_cons, List.mem_nil_iff, or_false]; omega

/-- What errors.As reads. -/
def AsVar (w : World) : Prop := w.cell? ⟨12, 0, none⟩ = some (.iface 246 (.agg #[.pointer (some ⟨21, 59, none⟩)]))
theorem AsVar.below {B w w'} (h : AsVar w) (hb : Below B w w') (hB : 12 < B) : AsVar w' := (hb.cell (p := ⟨12, 0, none⟩) hB).trans h

theorem code_nil (w : World) : Calls Tryz.prog 103 #[.nilIface] w fun e w' => e = .returned (.tuple #[.int .i64 0, .int .i64 (-1)]) ∧ w = w' := by
  have hn : (binOp .eql 59 .nilIface .nilIface).run Tryz.prog w = .ok (.bool true) w := by kernel_rfl
  go_enter Tryz.func103, Tryz.ntmps103
  go_wp2
  go_ret2
  exact ⟨rfl, rfl⟩

/-- The slice of all sentinels, cell by cell. -/
theorem sent_cells (E : Nat → Addr) (k : Nat) (hk : k < 12) (w : World) (t : TypeId) :
    (w.alloc (.cells #[.iface 290 (.pointer (some (E 1))), .iface 290 (.pointer (some (E 2))), .iface 290 (.pointer (some (E 3))), .iface 290 (.pointer (some (E 4))), .iface 290 (.pointer (some (E 5))), .iface 290 (.pointer (some (E 6))), .iface 290 (.pointer (some (E 7))), .iface 290 (.pointer (some (E 8))), .iface 290 (.pointer (some (E 9))), .iface 290 (.pointer (some (E 10))), .iface 290 (.pointer (some (E 11))), .iface 290 (.pointer (some (E 12)))] t)).cell? ⟨w.heap.size, k, none⟩
      = some (.iface 290 (.pointer (some (E (k + 1))))) := by
  have : k = 0 ∨ k = 1 ∨ k = 2 ∨ k = 3 ∨ k = 4 ∨ k = 5 ∨ k = 6 ∨ k = 7 ∨ k = 8 ∨ k = 9 ∨ k = 10 ∨ k = 11 := by omega
  rcases this with rfl | rfl | rfl | rfl | rfl | rfl | rfl | rfl | rfl | rfl | rfl | rfl <;> simp

set_option maxHeartbeats 1000000 in
theorem code_sent (E : Nat → Addr) (B : Nat) (c : Nat) (h1 : 1 ≤ c) (h12 : c ≤ 12) (w : World) (hE : Errs allE E B w) (hA : AsVar w) :
    Calls Tryz.prog 103 #[.iface 290 (.pointer (some (E c)))] w fun e w' => e = .returned (.tuple #[.int .i64 c, .int .i64 (-1)]) ∧ Below w.heap.size w w' := by
  have hif := isIfaceE
  have hA1 : ∀ o, AsVar (w.alloc o) := fun o => hA.below (B := w.heap.size) ((Below.refl _ _).alloc (Nat.le_refl _) _) (World.block_lt_of_cell? w ⟨12, 0, none⟩ hA)
  go_enter Tryz.func103, Tryz.ntmps103
  go_wp2_with fail
  refine (as_miss _ _ _ (hA1 _)).mono ?_
  rintro e w1 ⟨rfl, hb⟩
  have hb1 : Below w.heap.size w w1 := ((Below.refl _ _).alloc (Nat.le_refl _) _).trans (hb.mono (by simp))
  have hE1 := hE.below' hb1 hE.le
  have v1 := hE1.var 1 (by decide)
  have v2 := hE1.var 2 (by decide)
  have v3 := hE1.var 3 (by decide)
  have v4 := hE1.var 4 (by decide)
  have v5 := hE1.var 5 (by decide)
  have v6 := hE1.var 6 (by decide)
  have v7 := hE1.var 7 (by decide)
  have v8 := hE1.var 8 (by decide)
  have v9 := hE1.var 9 (by decide)
  have v10 := hE1.var 10 (by decide)
  have v11 := hE1.var 11 (by decide)
  have v12 := hE1.var 12 (by decide)
  simp only [errG] at v1 v2 v3 v4 v5 v6 v7 v8 v9 v10 v11 v12
  go_wp2_with fail
  have hcell := fun k hk => sent_cells E k hk w1 59
  have hb2 : Below w.heap.size w (w1.alloc _) := hb1.alloc hb1.size (.cells #[.iface 290 (.pointer (some (E 1))), .iface 290 (.pointer (some (E 2))), .iface 290 (.pointer (some (E 3))), .iface 290 (.pointer (some (E 4))), .iface 290 (.pointer (some (E 5))), .iface 290 (.pointer (some (E 6))), .iface 290 (.pointer (some (E 7))), .iface 290 (.pointer (some (E 8))), .iface 290 (.pointer (some (E 9))), .iface 290 (.pointer (some (E 10))), .iface 290 (.pointer (some (E 11))), .iface 290 (.pointer (some (E 12)))] 59)
  clear v1 v2 v3 v4 v5 v6 v7 v8 v9 v10 v11 v12
  generalize hW2 : w1.alloc (.cells _ _) = W2 at hcell hb2 ⊢
  clear hW2
  have hE2 := hE.below' hb2 hE.le
  go_loop [3, 30] (fun a i => ∃ k : Nat, k < c ∧ i = .int .i64 k ∧ a = .int .i64 (-1)) (fun _ i => 12 - (intOf i).toNat)
  case atStart => exact ⟨0, by omega, rfl, rfl⟩
  case round =>
    obtain ⟨k, hk, rfl, rfl⟩ := hrel
    have hc := hcell k (by omega)
    have hlt : (k : Int) < 12 := by omega
    clear hcell
    obtain ⟨ca, ta', ha⟩ := hE2.row c (mem_allE.2 ⟨h1, h12⟩)
    obtain ⟨cb, tb', hb'⟩ := hE2.row (k + 1) (mem_allE.2 ⟨by omega, by omega⟩)
    have H2 := Lib.hid ha; clear ha
    have H3 := Lib.hid hb'; clear hb'
    by_cases he : k + 1 = c
    · subst he
      go_wp2_with (go_at_call 142; refine (is_same _ _).mono ?_; rintro e w' ⟨rfl, rfl⟩)
      go_ret2
      exact ⟨by simp, hb2⟩
    · have hne : E c ≠ E (k + 1) := fun h => he (hE2.inj _ (mem_allE.2 ⟨h1, h12⟩) _ (mem_allE.2 ⟨by omega, by omega⟩) h).symm
      go_wp2_with (go_at_call 142; refine (is_other _ _ _ _ _ _ _ hne H2.out H3.out).mono ?_; rintro e w' ⟨rfl, rfl⟩)
      go_round
      case rel => exact ⟨k + 1, by omega, by go_num, rfl⟩
      case measure => simp [intOf]; omega

set_option maxHeartbeats 1000000 in
/-- Another error of errors.New's make. -/
theorem code_else (E : Nat → Addr) (B : Nat) (a : Addr) (ca : Array Value) (ta : TypeId) (w : World) (hE : Errs allE E B w) (hA : AsVar w) (ha : w.heap[a.block]? = some (.cells ca ta (0, 0))) (hlt : B ≤ a.block) :
    Calls Tryz.prog 103 #[.iface 290 (.pointer (some a))] w fun e w' => e = .returned (.tuple #[.int .i64 (-1), .int .i64 (-1)]) ∧ Below w.heap.size w w' := by
  have hif := isIfaceE
  have hA1 : ∀ o, AsVar (w.alloc o) := fun o => hA.below (B := w.heap.size) ((Below.refl _ _).alloc (Nat.le_refl _) _) (World.block_lt_of_cell? w ⟨12, 0, none⟩ hA)
  have hal : a.block < w.heap.size := by
    rcases Nat.lt_or_ge a.block w.heap.size with h | h
    · exact h
    · simp [Array.getElem?_eq_none h] at ha
  have Ha := Lib.hid ha; clear ha
  go_enter Tryz.func103, Tryz.ntmps103
  go_wp2_with fail
  refine (as_miss _ _ _ (hA1 _)).mono ?_
  rintro e w1 ⟨rfl, hb⟩
  have hb1 : Below w.heap.size w w1 := ((Below.refl _ _).alloc (Nat.le_refl _) _).trans (hb.mono (by simp))
  have hE1 := hE.below' hb1 hE.le
  have v1 := hE1.var 1 (by decide)
  have v2 := hE1.var 2 (by decide)
  have v3 := hE1.var 3 (by decide)
  have v4 := hE1.var 4 (by decide)
  have v5 := hE1.var 5 (by decide)
  have v6 := hE1.var 6 (by decide)
  have v7 := hE1.var 7 (by decide)
  have v8 := hE1.var 8 (by decide)
  have v9 := hE1.var 9 (by decide)
  have v10 := hE1.var 10 (by decide)
  have v11 := hE1.var 11 (by decide)
  have v12 := hE1.var 12 (by decide)
  simp only [errG] at v1 v2 v3 v4 v5 v6 v7 v8 v9 v10 v11 v12
  go_wp2_with fail
  have hcell := fun k hk => sent_cells E k hk w1 59
  have hb2 : Below w.heap.size w (w1.alloc _) := hb1.alloc hb1.size (.cells #[.iface 290 (.pointer (some (E 1))), .iface 290 (.pointer (some (E 2))), .iface 290 (.pointer (some (E 3))), .iface 290 (.pointer (some (E 4))), .iface 290 (.pointer (some (E 5))), .iface 290 (.pointer (some (E 6))), .iface 290 (.pointer (some (E 7))), .iface 290 (.pointer (some (E 8))), .iface 290 (.pointer (some (E 9))), .iface 290 (.pointer (some (E 10))), .iface 290 (.pointer (some (E 11))), .iface 290 (.pointer (some (E 12)))] 59)
  clear v1 v2 v3 v4 v5 v6 v7 v8 v9 v10 v11 v12
  generalize hW2 : w1.alloc (.cells _ _) = W2 at hcell hb2 ⊢
  clear hW2
  have hE2 := hE.below' hb2 hE.le
  have Ha2 : Hid (W2.heap[a.block]? = some (.cells ca ta (0, 0))) := (hb2.block _ hal).trans Ha.out
  go_loop [3, 30] (fun a i => ∃ k : Nat, k ≤ 12 ∧ i = .int .i64 k ∧ a = .int .i64 (-1)) (fun _ i => 12 - (intOf i).toNat)
  case atStart => exact ⟨0, by omega, rfl, rfl⟩
  case round =>
    obtain ⟨k, hk, rfl, rfl⟩ := hrel
    by_cases hlt' : k < 12
    · have hc := hcell k (by omega)
      have hlt2 : (k : Int) < 12 := by omega
      clear hcell
      obtain ⟨cb, tb', hb'⟩ := hE2.row (k + 1) (mem_allE.2 ⟨by omega, by omega⟩)
      have H3 := Lib.hid hb'; clear hb'
      have hne : a ≠ E (k + 1) := fun h => by have := (hE2.lt (k + 1) (mem_allE.2 ⟨by omega, by omega⟩)).1; rw [← h] at this; omega
      go_wp2_with (go_at_call 142; refine (is_other _ _ _ _ _ _ _ hne Ha2.out H3.out).mono ?_; rintro e w' ⟨rfl, rfl⟩)
      go_round
      case rel => exact ⟨k + 1, by omega, by go_num, rfl⟩
      case measure => simp [intOf]; omega
    · obtain rfl : k = 12 := by omega
      clear hcell
      go_wp2
      go_ret2
      exact ⟨rfl, hb2⟩

set_option maxHeartbeats 1000000 in
/-- A Fault around a sentinel. -/
theorem code_fault (E : Nat → Addr) (B : Nat) (c : Nat) (h1 : 1 ≤ c) (h12 : c ≤ 12) (at_ : Int) (fb : Nat) (w : World) (hE : Errs allE E B w) (hA : AsVar w) (hat : w.cell? ⟨fb, 0, none⟩ = some (.int .i64 at_)) (her : w.cell? ⟨fb, 1, none⟩ = some (.iface 290 (.pointer (some (E c))))) :
    Calls Tryz.prog 103 #[.iface 134 (.pointer (some ⟨fb, 0, none⟩))] w fun e w' => e = .returned (.tuple #[.int .i64 c, .int .i64 at_]) ∧ Below w.heap.size w w' := by
  have hif := isIfaceE
  have hA1 : ∀ o, AsVar (w.alloc o) := fun o => hA.below (B := w.heap.size) ((Below.refl _ _).alloc (Nat.le_refl _) _) (World.block_lt_of_cell? w ⟨12, 0, none⟩ hA)
  have hfb : fb < w.heap.size := World.block_lt_of_cell? w ⟨fb, 0, none⟩ hat
  go_enter Tryz.func103, Tryz.ntmps103
  go_wp2_with fail
  refine (as_hit _ _ (.pointer none) _ (hA1 _) (by simp) (by simp)).mono ?_
  rintro e w1 ⟨rfl, hg, hf⟩
  have hb1 : Below w.heap.size w w1 := ((Below.refl _ _).alloc (Nat.le_refl _) _).grown hg (by simp) (fun k hk => by cases hk; exact Nat.le_refl _)
  have hf : w1.cell? ⟨w.heap.size, 0, none⟩ = some (.pointer (some ⟨fb, 0, none⟩)) := hf
  have hat1 := (hb1.cell (p := ⟨fb, 0, none⟩) hfb).trans hat
  have her1 := (hb1.cell (p := ⟨fb, 1, none⟩) hfb).trans her
  have hE1 := hE.below' hb1 hE.le
  have v1 := hE1.var 1 (by decide)
  have v2 := hE1.var 2 (by decide)
  have v3 := hE1.var 3 (by decide)
  have v4 := hE1.var 4 (by decide)
  have v5 := hE1.var 5 (by decide)
  have v6 := hE1.var 6 (by decide)
  have v7 := hE1.var 7 (by decide)
  have v8 := hE1.var 8 (by decide)
  have v9 := hE1.var 9 (by decide)
  have v10 := hE1.var 10 (by decide)
  have v11 := hE1.var 11 (by decide)
  have v12 := hE1.var 12 (by decide)
  simp only [errG] at v1 v2 v3 v4 v5 v6 v7 v8 v9 v10 v11 v12
  go_wp2_with fail
  have hcell := fun k hk => sent_cells E k hk w1 59
  have hb2 : Below w.heap.size w (w1.alloc _) := hb1.alloc hb1.size (.cells #[.iface 290 (.pointer (some (E 1))), .iface 290 (.pointer (some (E 2))), .iface 290 (.pointer (some (E 3))), .iface 290 (.pointer (some (E 4))), .iface 290 (.pointer (some (E 5))), .iface 290 (.pointer (some (E 6))), .iface 290 (.pointer (some (E 7))), .iface 290 (.pointer (some (E 8))), .iface 290 (.pointer (some (E 9))), .iface 290 (.pointer (some (E 10))), .iface 290 (.pointer (some (E 11))), .iface 290 (.pointer (some (E 12)))] 59)
  clear v1 v2 v3 v4 v5 v6 v7 v8 v9 v10 v11 v12 hat1 hf
  generalize hW2 : w1.alloc (.cells _ _) = W2 at hcell hb2 ⊢
  clear hW2
  have hE2 := hE.below' hb2 hE.le
  have her2 := (hb2.cell (p := ⟨fb, 1, none⟩) hfb).trans her
  have H4 := Lib.hid her2; clear her2 her her1 hat
  go_loop [3, 30] (fun a i => ∃ k : Nat, k < c ∧ i = .int .i64 k ∧ a = .int .i64 at_) (fun _ i => 12 - (intOf i).toNat)
  case atStart => exact ⟨0, by omega, rfl, rfl⟩
  case round =>
    obtain ⟨k, hk, rfl, rfl⟩ := hrel
    have hc := hcell k (by omega)
    have hlt : (k : Int) < 12 := by omega
    clear hcell
    obtain ⟨ca, ta', ha⟩ := hE2.row c (mem_allE.2 ⟨h1, h12⟩)
    obtain ⟨cb, tb', hb'⟩ := hE2.row (k + 1) (mem_allE.2 ⟨by omega, by omega⟩)
    have H2 := Lib.hid ha; clear ha
    have H3 := Lib.hid hb'; clear hb'
    by_cases he : k + 1 = c
    · subst he
      go_wp2_with (go_at_call 142; refine (is_wrap_same _ _ _ _ H4.out).mono ?_; rintro e w' ⟨rfl, rfl⟩)
      go_ret2
      exact ⟨by simp, hb2⟩
    · have hne : E c ≠ E (k + 1) := fun h => he (hE2.inj _ (mem_allE.2 ⟨h1, h12⟩) _ (mem_allE.2 ⟨by omega, by omega⟩) h).symm
      go_wp2_with (go_at_call 142; refine (is_wrap_other _ _ _ _ _ _ _ _ _ H4.out hne H2.out H3.out).mono ?_; rintro e w' ⟨rfl, rfl⟩)
      go_round
      case rel => exact ⟨k + 1, by omega, by go_num, rfl⟩
      case measure => simp [intOf]; omega
end Go.Proofs.YtpicofkmeijioaaGreatDoor
