/- deedboxref2.SnapFault: the walk. deedboxref1.SumOf: the walk: the sum, bit by bit. The document's answer on files and lists: ReadFile, ReadList, AddOf, RemoveOf: the walks. -/
import Derived.Test.YtcdcfolhnjgigaaGreatDoorBx12
import Derived.Test.YtcdcfolhnjgigaaGreatDoorBx13
import Derived.Test.YtcdcfolhnjgigaaGreatDoorBx11
import Derived.Test.YtcdcfolhnjgigaaGreatDoorBx3
import Derived.Laws.BitsAll
import Derived.Outline
import Derived.Test.YtcdcfolhnjgigaaGreatDoorBx9
namespace Go.Proofs.YtcdcfolhnjgigaaGreatDoor
open Go.RowKit

theorem listCheck_code' {l : List Fl} (h : listCheck l ≠ .nil) : 0 < (listCheck l).code := by
  unfold listCheck at h ⊢
  split
  · decide
  · rename_i h0
    rw [if_neg h0] at h
    exact firstFrom_code h
theorem fault_ways (s : Sn) : (snapBound s = true ∧ (s.id < 1 ∨ (decide (s.id < 1) = false ∧ (1073741824 < s.id ∨ (decide (1073741824 < s.id) = false ∧ (s.parent < 0 ∨ (decide (s.parent < 0) = false ∧ (s.id ≤ s.parent ∨ (decide (s.id ≤ s.parent) = false ∧ (s.seq < 0 ∨ (decide (s.seq < 0) = false ∧ (1073741824 < s.seq ∨ (decide (1073741824 < s.seq) = false ∧ (s.day < 0 ∨ (decide (s.day < 0) = false ∧ (100000 < s.day ∨ (decide (100000 < s.day) = false ∧ (s.index < 0 ∨ (decide (s.index < 0) = false ∧ 1073741824 < s.index))))))))))))))))))) ∨ (snapBound s = false ∧ decide (s.id < 1) = false ∧ decide (1073741824 < s.id) = false ∧ decide (s.parent < 0) = false ∧ decide (s.id ≤ s.parent) = false ∧ decide (s.seq < 0) = false ∧ decide (1073741824 < s.seq) = false ∧ decide (s.day < 0) = false ∧ decide (100000 < s.day) = false ∧ decide (s.index < 0) = false ∧ decide (1073741824 < s.index) = false) := by
  unfold snapBound inB
  simp only [Bool.or_eq_true, Bool.or_eq_false_iff, Bool.not_eq_true', Bool.not_eq_false', Bool.and_eq_true, Bool.and_eq_false_iff, decide_eq_true_eq, decide_eq_false_iff_not]
  omega

set_option maxHeartbeats 2000000 in
set_option maxRecDepth 20000 in
theorem snapFault_any (s : Sn) (v : Value) (w : World) (hl : FilesAt w v s.files) (hs : ∀ x ∈ s.files, midF x) :
    Calls Tryz.prog 34 #[snapV s v] w fun e w' => e = .returned (faultOf (snapCheck s)) ∧ Below w.heap.size w w' := by
  have hSC : snapCheck s = if snapBound s = true then .bare 2 else if s.op ∉ kOps then .bare 4 else if listCheck s.files ≠ .nil then listCheck s.files else firstErr (seqFault s) s.files.length := rfl
  have HSC := Lib.hid hSC; clear hSC
  have Hs := Lib.hid hs; clear hs
  obtain ⟨w0, hw0⟩ : ∃ w0, w0 = w.alloc (.cells #[.int .i64 s.id, .int .i64 s.parent, .int .i64 s.seq, .int .i64 s.day, .int .i64 s.index, S s.op, v] 58) := ⟨_, rfl⟩
  obtain ⟨w1, hw1⟩ : ∃ w1, w1 = w0.alloc (.cells #[.int .i64 0, .int .i64 0] 62) := ⟨_, rfl⟩
  have hz0 : w0.heap.size = w.heap.size + 1 := by rw [hw0]; simp
  have hz1 : w1.heap.size = w.heap.size + 2 := by rw [hw1]; simp [hz0]
  have hb01 : Below w0.heap.size w0 w1 := hw1 ▸ (Below.refl _ _).alloc (Nat.le_refl _) _
  have hb0 : Below w.heap.size w w0 := hw0 ▸ (Below.refl _ _).alloc (Nat.le_refl _) _
  have hb1 := hb0.trans (hb01.mono hb0.size)
  have CS := Lib.hid (fun w6 (h : Below w1.heap.size w1 w6) => snapCells (s := s) (v := v) (t := 58) (w := w) (w6 := w6) (by rw [← hw0]; exact hb01.trans (h.mono hb01.size)))
  have hG := fun W (h : Below w1.heap.size w1 W) => ((h.block (w.heap.size + 1) (by omega)).trans (by rw [hw1, ← hz0]; exact heap_alloc_new w0 _) : W.heap[w.heap.size + 1]? = some (.cells #[.int .i64 0, .int .i64 0] 62 (0, 0)))
  have HG := Lib.hid hG; clear hG
  have HZ := Lib.hid hz1
  have HW : Hid (w1 = (w.alloc (.cells #[.int .i64 s.id, .int .i64 s.parent, .int .i64 s.seq, .int .i64 s.day, .int .i64 s.index, S s.op, v] 58)).alloc (.cells #[.int .i64 0, .int .i64 0] 62)) := Lib.hid (by rw [hw1, hw0])
  clear hz0 hz1 hw1 hw0 hb0 hb01
  obtain ⟨c0, c1, c2, c3, c4, c5, c6⟩ := CS.out _ (Below.refl _ _)
  obtain ⟨a, c, rfl, -, -⟩ := At.form' hl
  go_enter Tryz.func34, Tryz.ntmps34
  go_upto_region 1 with fail
  rw [← HW.out]
  rcases fault_ways s with ⟨hbd, g1 | ⟨g1, g2 | ⟨g2, g3 | ⟨g3, g4 | ⟨g4, g5 | ⟨g5, g6 | ⟨g6, g7 | ⟨g7, g8 | ⟨g8, g9 | ⟨g9, g10⟩⟩⟩⟩⟩⟩⟩⟩⟩⟩ | ⟨hbd, g1, g2, g3, g4, g5, g6, g7, g8, g9, g10⟩
  · have HC : Hid (snapCheck s = .bare 2) := Lib.hid (by rw [HSC.out, if_pos hbd])
    clear hbd
    go_wp2_with fail
    refine (refBare_any 2 _).mono ?_
    rintro e w2 ⟨rfl, hb⟩
    have hg := HG.out _ hb
    have z0 : w2.cell? ⟨w.heap.size + 1, 0, none⟩ = some (.int .i64 0) := by simp [World.cell?, hg]
    have z1 : w2.cell? ⟨w.heap.size + 1, 1, none⟩ = some (.int .i64 0) := by simp [World.cell?, hg]
    have f0 : w2.frozen? ⟨w.heap.size + 1, 0, none⟩ = false := by simp [World.frozen?, hg]
    have f1 : w2.frozen? ⟨w.heap.size + 1, 1, none⟩ = false := by simp [World.frozen?, hg]
    have HGg := Lib.hid hg; clear hg
    unfold faultV
    go_wp2_with fail
    refine bodyPost_ret (fault_cell (g := w.heap.size + 1) rfl rfl (set_two HGg.out _ _)) rfl ⟨by rw [HC.out]; rfl, ?_⟩
    exact ((hb1.trans (hb.mono hb1.size)).setCell (by simp; try omega) _).setCell (by simp; try omega) _
  · have HC : Hid (snapCheck s = .bare 2) := Lib.hid (by rw [HSC.out, if_pos hbd])
    clear hbd
    go_wp2_with fail
    refine (refBare_any 2 _).mono ?_
    rintro e w2 ⟨rfl, hb⟩
    have hg := HG.out _ hb
    have z0 : w2.cell? ⟨w.heap.size + 1, 0, none⟩ = some (.int .i64 0) := by simp [World.cell?, hg]
    have z1 : w2.cell? ⟨w.heap.size + 1, 1, none⟩ = some (.int .i64 0) := by simp [World.cell?, hg]
    have f0 : w2.frozen? ⟨w.heap.size + 1, 0, none⟩ = false := by simp [World.frozen?, hg]
    have f1 : w2.frozen? ⟨w.heap.size + 1, 1, none⟩ = false := by simp [World.frozen?, hg]
    have HGg := Lib.hid hg; clear hg
    unfold faultV
    go_wp2_with fail
    refine bodyPost_ret (fault_cell (g := w.heap.size + 1) rfl rfl (set_two HGg.out _ _)) rfl ⟨by rw [HC.out]; rfl, ?_⟩
    exact ((hb1.trans (hb.mono hb1.size)).setCell (by simp; try omega) _).setCell (by simp; try omega) _
  · have HC : Hid (snapCheck s = .bare 2) := Lib.hid (by rw [HSC.out, if_pos hbd])
    clear hbd
    go_wp2_with fail
    refine (refBare_any 2 _).mono ?_
    rintro e w2 ⟨rfl, hb⟩
    have hg := HG.out _ hb
    have z0 : w2.cell? ⟨w.heap.size + 1, 0, none⟩ = some (.int .i64 0) := by simp [World.cell?, hg]
    have z1 : w2.cell? ⟨w.heap.size + 1, 1, none⟩ = some (.int .i64 0) := by simp [World.cell?, hg]
    have f0 : w2.frozen? ⟨w.heap.size + 1, 0, none⟩ = false := by simp [World.frozen?, hg]
    have f1 : w2.frozen? ⟨w.heap.size + 1, 1, none⟩ = false := by simp [World.frozen?, hg]
    have HGg := Lib.hid hg; clear hg
    unfold faultV
    go_wp2_with fail
    refine bodyPost_ret (fault_cell (g := w.heap.size + 1) rfl rfl (set_two HGg.out _ _)) rfl ⟨by rw [HC.out]; rfl, ?_⟩
    exact ((hb1.trans (hb.mono hb1.size)).setCell (by simp; try omega) _).setCell (by simp; try omega) _
  · have HC : Hid (snapCheck s = .bare 2) := Lib.hid (by rw [HSC.out, if_pos hbd])
    clear hbd
    go_wp2_with fail
    refine (refBare_any 2 _).mono ?_
    rintro e w2 ⟨rfl, hb⟩
    have hg := HG.out _ hb
    have z0 : w2.cell? ⟨w.heap.size + 1, 0, none⟩ = some (.int .i64 0) := by simp [World.cell?, hg]
    have z1 : w2.cell? ⟨w.heap.size + 1, 1, none⟩ = some (.int .i64 0) := by simp [World.cell?, hg]
    have f0 : w2.frozen? ⟨w.heap.size + 1, 0, none⟩ = false := by simp [World.frozen?, hg]
    have f1 : w2.frozen? ⟨w.heap.size + 1, 1, none⟩ = false := by simp [World.frozen?, hg]
    have HGg := Lib.hid hg; clear hg
    unfold faultV
    go_wp2_with fail
    refine bodyPost_ret (fault_cell (g := w.heap.size + 1) rfl rfl (set_two HGg.out _ _)) rfl ⟨by rw [HC.out]; rfl, ?_⟩
    exact ((hb1.trans (hb.mono hb1.size)).setCell (by simp; try omega) _).setCell (by simp; try omega) _
  · have HC : Hid (snapCheck s = .bare 2) := Lib.hid (by rw [HSC.out, if_pos hbd])
    clear hbd
    go_wp2_with fail
    refine (refBare_any 2 _).mono ?_
    rintro e w2 ⟨rfl, hb⟩
    have hg := HG.out _ hb
    have z0 : w2.cell? ⟨w.heap.size + 1, 0, none⟩ = some (.int .i64 0) := by simp [World.cell?, hg]
    have z1 : w2.cell? ⟨w.heap.size + 1, 1, none⟩ = some (.int .i64 0) := by simp [World.cell?, hg]
    have f0 : w2.frozen? ⟨w.heap.size + 1, 0, none⟩ = false := by simp [World.frozen?, hg]
    have f1 : w2.frozen? ⟨w.heap.size + 1, 1, none⟩ = false := by simp [World.frozen?, hg]
    have HGg := Lib.hid hg; clear hg
    unfold faultV
    go_wp2_with fail
    refine bodyPost_ret (fault_cell (g := w.heap.size + 1) rfl rfl (set_two HGg.out _ _)) rfl ⟨by rw [HC.out]; rfl, ?_⟩
    exact ((hb1.trans (hb.mono hb1.size)).setCell (by simp; try omega) _).setCell (by simp; try omega) _
  · have HC : Hid (snapCheck s = .bare 2) := Lib.hid (by rw [HSC.out, if_pos hbd])
    clear hbd
    go_wp2_with fail
    refine (refBare_any 2 _).mono ?_
    rintro e w2 ⟨rfl, hb⟩
    have hg := HG.out _ hb
    have z0 : w2.cell? ⟨w.heap.size + 1, 0, none⟩ = some (.int .i64 0) := by simp [World.cell?, hg]
    have z1 : w2.cell? ⟨w.heap.size + 1, 1, none⟩ = some (.int .i64 0) := by simp [World.cell?, hg]
    have f0 : w2.frozen? ⟨w.heap.size + 1, 0, none⟩ = false := by simp [World.frozen?, hg]
    have f1 : w2.frozen? ⟨w.heap.size + 1, 1, none⟩ = false := by simp [World.frozen?, hg]
    have HGg := Lib.hid hg; clear hg
    unfold faultV
    go_wp2_with fail
    refine bodyPost_ret (fault_cell (g := w.heap.size + 1) rfl rfl (set_two HGg.out _ _)) rfl ⟨by rw [HC.out]; rfl, ?_⟩
    exact ((hb1.trans (hb.mono hb1.size)).setCell (by simp; try omega) _).setCell (by simp; try omega) _
  · have HC : Hid (snapCheck s = .bare 2) := Lib.hid (by rw [HSC.out, if_pos hbd])
    clear hbd
    go_wp2_with fail
    refine (refBare_any 2 _).mono ?_
    rintro e w2 ⟨rfl, hb⟩
    have hg := HG.out _ hb
    have z0 : w2.cell? ⟨w.heap.size + 1, 0, none⟩ = some (.int .i64 0) := by simp [World.cell?, hg]
    have z1 : w2.cell? ⟨w.heap.size + 1, 1, none⟩ = some (.int .i64 0) := by simp [World.cell?, hg]
    have f0 : w2.frozen? ⟨w.heap.size + 1, 0, none⟩ = false := by simp [World.frozen?, hg]
    have f1 : w2.frozen? ⟨w.heap.size + 1, 1, none⟩ = false := by simp [World.frozen?, hg]
    have HGg := Lib.hid hg; clear hg
    unfold faultV
    go_wp2_with fail
    refine bodyPost_ret (fault_cell (g := w.heap.size + 1) rfl rfl (set_two HGg.out _ _)) rfl ⟨by rw [HC.out]; rfl, ?_⟩
    exact ((hb1.trans (hb.mono hb1.size)).setCell (by simp; try omega) _).setCell (by simp; try omega) _
  · have HC : Hid (snapCheck s = .bare 2) := Lib.hid (by rw [HSC.out, if_pos hbd])
    clear hbd
    go_wp2_with fail
    refine (refBare_any 2 _).mono ?_
    rintro e w2 ⟨rfl, hb⟩
    have hg := HG.out _ hb
    have z0 : w2.cell? ⟨w.heap.size + 1, 0, none⟩ = some (.int .i64 0) := by simp [World.cell?, hg]
    have z1 : w2.cell? ⟨w.heap.size + 1, 1, none⟩ = some (.int .i64 0) := by simp [World.cell?, hg]
    have f0 : w2.frozen? ⟨w.heap.size + 1, 0, none⟩ = false := by simp [World.frozen?, hg]
    have f1 : w2.frozen? ⟨w.heap.size + 1, 1, none⟩ = false := by simp [World.frozen?, hg]
    have HGg := Lib.hid hg; clear hg
    unfold faultV
    go_wp2_with fail
    refine bodyPost_ret (fault_cell (g := w.heap.size + 1) rfl rfl (set_two HGg.out _ _)) rfl ⟨by rw [HC.out]; rfl, ?_⟩
    exact ((hb1.trans (hb.mono hb1.size)).setCell (by simp; try omega) _).setCell (by simp; try omega) _
  · have HC : Hid (snapCheck s = .bare 2) := Lib.hid (by rw [HSC.out, if_pos hbd])
    clear hbd
    go_wp2_with fail
    refine (refBare_any 2 _).mono ?_
    rintro e w2 ⟨rfl, hb⟩
    have hg := HG.out _ hb
    have z0 : w2.cell? ⟨w.heap.size + 1, 0, none⟩ = some (.int .i64 0) := by simp [World.cell?, hg]
    have z1 : w2.cell? ⟨w.heap.size + 1, 1, none⟩ = some (.int .i64 0) := by simp [World.cell?, hg]
    have f0 : w2.frozen? ⟨w.heap.size + 1, 0, none⟩ = false := by simp [World.frozen?, hg]
    have f1 : w2.frozen? ⟨w.heap.size + 1, 1, none⟩ = false := by simp [World.frozen?, hg]
    have HGg := Lib.hid hg; clear hg
    unfold faultV
    go_wp2_with fail
    refine bodyPost_ret (fault_cell (g := w.heap.size + 1) rfl rfl (set_two HGg.out _ _)) rfl ⟨by rw [HC.out]; rfl, ?_⟩
    exact ((hb1.trans (hb.mono hb1.size)).setCell (by simp; try omega) _).setCell (by simp; try omega) _
  · have HC : Hid (snapCheck s = .bare 2) := Lib.hid (by rw [HSC.out, if_pos hbd])
    clear hbd
    go_wp2_with fail
    refine (refBare_any 2 _).mono ?_
    rintro e w2 ⟨rfl, hb⟩
    have hg := HG.out _ hb
    have z0 : w2.cell? ⟨w.heap.size + 1, 0, none⟩ = some (.int .i64 0) := by simp [World.cell?, hg]
    have z1 : w2.cell? ⟨w.heap.size + 1, 1, none⟩ = some (.int .i64 0) := by simp [World.cell?, hg]
    have f0 : w2.frozen? ⟨w.heap.size + 1, 0, none⟩ = false := by simp [World.frozen?, hg]
    have f1 : w2.frozen? ⟨w.heap.size + 1, 1, none⟩ = false := by simp [World.frozen?, hg]
    have HGg := Lib.hid hg; clear hg
    unfold faultV
    go_wp2_with fail
    refine bodyPost_ret (fault_cell (g := w.heap.size + 1) rfl rfl (set_two HGg.out _ _)) rfl ⟨by rw [HC.out]; rfl, ?_⟩
    exact ((hb1.trans (hb.mono hb1.size)).setCell (by simp; try omega) _).setCell (by simp; try omega) _
  have hba : Below w1.heap.size w1 (w1.alloc (.cells #[S kStart, S kAppend, S kDelete, S kRewrite] 9)) := (Below.refl _ _).alloc (Nat.le_refl _) _
  have hops : StrsAt (w1.alloc (.cells #[S kStart, S kAppend, S kDelete, S kRewrite] 9)) (.slice (some ⟨w1.heap.size, 0, none⟩) 4 4) kOps := strs_new kOps w1 9 _ 4 _ rfl rfl rfl (by decide)
  have HOps := Lib.hid hops
  have HBd := Lib.hid hbd
  clear hbd hops
  go_wp2_with fail
  refine (inTexts_any s.op _ kOps _ HOps.out).mono ?_
  rintro e w2 ⟨rfl, hb2⟩
  have hb12 := hba.trans (hb2.mono hba.size)
  clear c0 c1 c2 c3 c4 c5 c6 g1 g2 g3 g4 g5 g6 g7 g8 g9 g10 hba hb2
  by_cases hop : s.op ∈ kOps
  case neg =>
    rw [decide_eq_false hop]
    have HC : Hid (snapCheck s = .bare 4) := Lib.hid (by rw [HSC.out, if_neg (by rw [HBd.out]; simp), if_pos hop])
    clear hop
    go_wp2_with fail
    refine (refBare_any 4 _).mono ?_
    rintro e w3 ⟨rfl, hb⟩
    have hb13 := hb12.trans (hb.mono hb12.size)
    have hg := HG.out _ hb13
    have z0 : w3.cell? ⟨w.heap.size + 1, 0, none⟩ = some (.int .i64 0) := by simp [World.cell?, hg]
    have z1 : w3.cell? ⟨w.heap.size + 1, 1, none⟩ = some (.int .i64 0) := by simp [World.cell?, hg]
    have f0 : w3.frozen? ⟨w.heap.size + 1, 0, none⟩ = false := by simp [World.frozen?, hg]
    have f1 : w3.frozen? ⟨w.heap.size + 1, 1, none⟩ = false := by simp [World.frozen?, hg]
    have HGg := Lib.hid hg; clear hg
    unfold faultV
    go_wp2_with fail
    refine bodyPost_ret (fault_cell (g := w.heap.size + 1) rfl rfl (set_two HGg.out _ _)) rfl ⟨by rw [HC.out]; rfl, ?_⟩
    exact ((hb1.trans (hb13.mono hb1.size)).setCell (by simp; try omega) _).setCell (by simp; try omega) _
  rw [decide_eq_true hop]
  have HC : Hid (snapCheck s = if listCheck s.files ≠ .nil then listCheck s.files else firstErr (seqFault s) s.files.length) := Lib.hid (by rw [HSC.out, if_neg (by rw [HBd.out]; simp), if_neg (fun h => h hop)])
  clear hop HSC HBd
  have k6 := (CS.out _ hb12).2.2.2.2.2.2
  have hbw2 := hb1.trans (hb12.mono hb1.size)
  go_wp2_with fail
  refine (listFault_any _ s.files w2 (hl.below hbw2) Hs.out).mono ?_
  rintro e w3 ⟨rfl, hb3⟩
  have hb13 := hb12.trans (hb3.mono hb12.size)
  have hbw3 := hb1.trans (hb13.mono hb1.size)
  clear k6 hb3 hb12 hbw2
  obtain ⟨cf, hcf⟩ : ∃ cf : Int, (listCheck s.files).code = cf := ⟨_, rfl⟩
  obtain ⟨pf, hpf⟩ : ∃ pf : Int, (listCheck s.files).place = pf := ⟨_, rfl⟩
  unfold faultOf
  rw [hcf, hpf]
  have hbF : Below w3.heap.size w3 (w3.alloc (.cells #[.int .i64 cf, .int .i64 pf] 62)) := (Below.refl _ _).alloc (Nat.le_refl _) _
  have hb14 := hb13.trans (hbF.mono hb13.size)
  have hbw4 := hb1.trans (hb14.mono hb1.size)
  have d0 : (w3.alloc (.cells #[.int .i64 cf, .int .i64 pf] 62)).cell? ⟨w3.heap.size, 0, none⟩ = some (.int .i64 cf) := newCell (Below.refl _ _) 0 rfl
  have d1 : (w3.alloc (.cells #[.int .i64 cf, .int .i64 pf] 62)).cell? ⟨w3.heap.size, 1, none⟩ = some (.int .i64 pf) := newCell (Below.refl _ _) 1 rfl
  obtain ⟨H3, hH3⟩ : ∃ H3, w3.heap.size = H3 := ⟨_, rfl⟩
  rw [hH3] at d0 d1
  unfold faultV
  go_upto_region 11 with fail
  try rw [hH3]
  generalize w3.alloc (.cells #[.int .i64 cf, .int .i64 pf] 62) = w4 at *
  by_cases hck : listCheck s.files = .nil
  case neg =>
    have hpos : (0 : Int) < cf := by have := listCheck_code' hck; omega
    have HC' : Hid (snapCheck s = listCheck s.files) := Lib.hid (by rw [HC.out, if_pos hck])
    have HCf := Lib.hid hcf; have HPf := Lib.hid hpf
    have hg := HG.out _ hb14
    have z0 : w4.cell? ⟨w.heap.size + 1, 0, none⟩ = some (.int .i64 0) := by simp [World.cell?, hg]
    have z1 : w4.cell? ⟨w.heap.size + 1, 1, none⟩ = some (.int .i64 0) := by simp [World.cell?, hg]
    have f0 : w4.frozen? ⟨w.heap.size + 1, 0, none⟩ = false := by simp [World.frozen?, hg]
    have f1 : w4.frozen? ⟨w.heap.size + 1, 1, none⟩ = false := by simp [World.frozen?, hg]
    have HGg := Lib.hid hg; clear hg hck hcf hpf
    go_wp2_with fail
    refine bodyPost_ret (fault_cell (g := w.heap.size + 1) rfl rfl (set_two HGg.out _ _)) rfl ⟨by rw [HC'.out]; unfold faultOf faultV; rw [HCf.out, HPf.out], ?_⟩
    exact (hbw4.setCell (by simp; try omega) _).setCell (by simp; try omega) _
  have hcf0 : cf = 0 := by rw [← hcf, hck]; rfl
  subst hcf0
  have HF : Hid (snapCheck s = firstErr (seqFault s) s.files.length) := Lib.hid (by rw [HC.out, if_neg (fun h => h hck)])
  clear hcf hpf hck HC
  obtain ⟨a', c', b, o, hv, ha, hc, hcm, hx⟩ := hl
  cases hv
  unfold maxLen at hcm
  obtain ⟨fl, hfl⟩ : ∃ fl, s.files = fl := ⟨_, rfl⟩
  rw [hfl] at hx ha hc HF ⊢
  have HFl := Lib.hid hfl
  have CS' := Lib.hid (fun w6 (h : Below w4.heap.size w4 w6) => (⟨(CS.out _ (hb14.trans (h.mono hb14.size))).2.2.1, by have := (CS.out _ (hb14.trans (h.mono hb14.size))).2.2.2.2.2.2; rwa [hfl] at this⟩ : w6.cell? ⟨w.heap.size, 2, none⟩ = some (.int .i64 s.seq) ∧ w6.cell? ⟨w.heap.size, 6, none⟩ = some (.slice a fl.length c)))
  clear hfl CS
  go_wp2_with fail
  clear d0 d1
  go_loopw [5] (fun i wr => ∃ k : Nat, k ≤ fl.length ∧ i = .int .i64 k ∧ Hid (∀ j < k, seqFault s j = 0) ∧ Below w4.heap.size w4 wr) (fun i _ => fl.length - (intOf i).toNat)
  case atStart => exact ⟨0, by omega, rfl, Lib.hid fun j hj => absurd hj (by omega), Below.refl _ _⟩
  case round =>
    obtain ⟨k, hk, rfl, hj, hb⟩ := hrel
    have hb1r := hb14.trans (hb.mono hb14.size)
    have hbr := hbw4.trans (hb.mono hbw4.size)
    obtain ⟨k2, k6⟩ := CS'.out _ hb
    by_cases hlt : k < fl.length
    case neg =>
      obtain rfl : k = fl.length := by omega
      have f : decide ((fl.length : Int) < (fl.length : Int)) = false := by simp
      go_wp2_with fail
      refine (refFine_any _).mono ?_
      rintro e w5 ⟨rfl, hb5⟩
      have hb15 := hb1r.trans (hb5.mono hb1r.size)
      clear k2 k6
      have hg := HG.out _ hb15
      have z0 : w5.cell? ⟨w.heap.size + 1, 0, none⟩ = some (.int .i64 0) := by simp [World.cell?, hg]
      have z1 : w5.cell? ⟨w.heap.size + 1, 1, none⟩ = some (.int .i64 0) := by simp [World.cell?, hg]
      have f0 : w5.frozen? ⟨w.heap.size + 1, 0, none⟩ = false := by simp [World.frozen?, hg]
      have f1 : w5.frozen? ⟨w.heap.size + 1, 1, none⟩ = false := by simp [World.frozen?, hg]
      have HGg := Lib.hid hg; clear hg
      unfold faultV
      go_wp2_with fail
      refine bodyPost_ret (fault_cell (g := w.heap.size + 1) rfl rfl (set_two HGg.out _ _)) rfl ⟨by rw [HF.out, firstErr_all hj.out]; rfl, ?_⟩
      exact ((hb1.trans (hb15.mono hb1.size)).setCell (by simp; try omega) _).setCell (by simp; try omega) _
    obtain ⟨x, hxk⟩ := get_ex hlt
    have hbrD : Below w.heap.size w wr.drew := Bdn hbr 1
    obtain ⟨-, -, -, -, -, q5⟩ := flCells hx hbr hxk
    have i1 := idx_at (c := c) 6 Tryz.underlying56 szFl ha k hlt
    have f : (k : Int) < (fl.length : Int) := by omega
    by_cases hsq : s.seq < x.seq
    · have hf : seqFault s k = 9 := by unfold seqFault; rw [HFl.out, hxk]; simp only; rw [if_pos hsq]
      have HL : Hid (snapCheck s = .loc 9 k) := Lib.hid (HF.out.trans ((firstErr_hit hlt hj.out (by rw [hf]; decide)).trans (by rw [hf])))
      clear hf hxk
      go_wp2_with fail
      go_quiet (fail)
      have hb1q : Below w1.heap.size w1 (wr.drewN nq) := Bdn hb1r nq
      have hg := HG.out _ hb1r
      have z0 : (wr.drewN nq).cell? ⟨w.heap.size + 1, 0, none⟩ = some (.int .i64 0) := by simp [World.cell?, hg]
      have z1 : (wr.drewN nq).cell? ⟨w.heap.size + 1, 1, none⟩ = some (.int .i64 0) := by simp [World.cell?, hg]
      have f0 : (wr.drewN nq).frozen? ⟨w.heap.size + 1, 0, none⟩ = false := by simp [World.frozen?, hg]
      have f1 : (wr.drewN nq).frozen? ⟨w.heap.size + 1, 1, none⟩ = false := by simp [World.frozen?, hg]
      have HGg := Lib.hid (HG.out _ hb1q); clear hg
      have hbq : Below w.heap.size w (wr.drewN nq) := Bdn hbr nq
      generalize wr.drewN nq = wq at *
      go_wp2_with fail
      refine bodyPost_ret (fault_cell (g := w.heap.size + 1) rfl rfl (set_two HGg.out _ _)) rfl ⟨by rw [HL.out]; rfl, ?_⟩
      exact (hbq.setCell (by simp; try omega) _).setCell (by simp; try omega) _
    · have hsq' : decide (s.seq < x.seq) = false := decide_eq_false hsq
      have hf : seqFault s k = 0 := by unfold seqFault; rw [HFl.out, hxk]; simp only; rw [if_neg hsq]
      have HF0 := Lib.hid hf
      clear hf hxk hsq
      go_wp2_with fail
      go_quiet (fail)
      go_wp2_with fail
      go_roundw
      case rel => exact ⟨k + 1, by omega, by go_num, (Lib.hid fun j hj' => by
        rcases Nat.lt_or_ge j k with h | h
        · exact hj.out j h
        · obtain rfl : j = k := by omega
          exact HF0.out), Bdn hb _⟩
      case measure => simp [intOf]; omega
end Go.Proofs.YtcdcfolhnjgigaaGreatDoor
namespace Go.Proofs.YtcdcfolhnjgigaaGreatDoor
open Go.RowKit

theorem i64_xor_nat (a b : Nat) (ha : a < 4294967296) (hb : b < 4294967296) : bits .xor .i64 (a : Int) (b : Int) = ((a ^^^ b : Nat) : Int) := by
  have hx : a ^^^ b < 2 ^ 32 := Nat.xor_lt_two_pow (by omega) (by omega)
  show IntKind.i64.wrap ((BitVec.ofInt 64 (a : Int) ^^^ BitVec.ofInt 64 (b : Int)).toNat : Int) = _
  rw [BitVec.toNat_xor, ofInt_u64 a (by omega), ofInt_u64 b (by omega), IntKind.wrap_i64]
  omega
set_option maxRecDepth 400000 in
set_option maxHeartbeats 1000000 in
theorem refSum_any (s : Str) (w : World) (hs : s.length ≤ 100000) :
    Calls Tryz.prog 105 #[S s] w fun e w' => e = .returned (.int .i64 (sumOf s : Nat)) ∧ w = w' := by
  go_enter Tryz.func105, Tryz.ntmps105
  go_wp2_with fail
  go_loop [3, 4] (fun c i => ∃ k : Nat, k ≤ s.length ∧ i = .int .i64 k ∧ c = .int .i64 (crcFold 4294967295 (s.take k) : Nat)) (fun _ i => s.length - (intOf i).toNat)
  case atStart => exact ⟨0, by omega, rfl, rfl⟩
  case round =>
    obtain ⟨k, hk, rfl, rfl⟩ := hrel
    have hc : crcFold 4294967295 (s.take k) < 4294967296 := crcFold_lt _ (by omega)
    by_cases hlt : k < s.length
    case neg =>
      obtain rfl : k = s.length := by omega
      have f : decide ((s.length : Int) < (s.length : Int)) = false := by simp
      have hf := i64_xor_nat _ 4294967295 hc (by omega)
      rw [List.take_length] at hf hc ⊢
      have HF : Hid (bits .xor .i64 ((crcFold 4294967295 s : Nat) : Int) 4294967295 = (sumOf s : Nat)) := Lib.hid hf
      generalize crcFold 4294967295 s = c at *
      clear hf hc
      go_wp2_with fail
      go_ret
      exact ⟨show Ending.returned (.int .i64 (bits .xor .i64 (c : Int) 4294967295)) = _ by rw [HF.out], rfl⟩
    have hk1 : (k : Int) < s.length := by omega
    have hsn : crcFold 4294967295 (s.take (k + 1)) = crcStep (crcFold 4294967295 (s.take k)) s[k] := by
      rw [take_snoc' (x := s[k]) (by simp [hlt]), crcFold_snoc]
    have HSn := Lib.hid hsn; clear hsn
    generalize crcFold 4294967295 (s.take k) = c at *
    have hbk : (({ data := s.toArray } : ByteArray)[k]'(by simpa [ByteArray.size] using hlt)) = s[k] := rfl
    have hr1 := i64_xor_nat c s[k].toNat hc (by have := byte_lt s[k]; omega)
    have hx := xor_byte hc s[k]
    have hy0 : (0 : Int) ≤ (s[k].toNat : Int) := by omega
    have hy1 : (s[k].toNat : Int) < 256 := by have := byte_lt s[k]; omega
    have hst : crcStep c s[k] = crcIter 8 (c ^^^ s[k].toNat) := rfl
    rw [hst] at HSn
    clear hst
    have HSl := Lib.hid hlt
    generalize c ^^^ s[k].toNat = x at *
    go_wp2_with fail
    go_loop [3, 5] (fun d j => ∃ m : Nat, m ≤ 8 ∧ j = .int .i64 m ∧ d = .int .i64 (crcIter m x : Nat)) (fun _ j => 8 - (intOf j).toNat)
    case atStart => exact ⟨0, by omega, rfl, rfl⟩
    case round =>
      obtain ⟨m, hm, rfl, rfl⟩ := hrel
      by_cases hm8 : m < 8
      case neg =>
        obtain rfl : m = 8 := by omega
        go_wp2_with fail
        refine ⟨⟨k + 1, by omega, by go_num, by rw [HSn.out]⟩, ?_⟩
        simp [intOf]; omega
      have hm8' : (m : Int) < 8 := by omega
      have hd : crcIter m x < 4294967296 := crcIter_lt m hx
      have hsu : crcIter (m + 1) x = crcBit (crcIter m x) := crcIter_succ m x
      have HSu := Lib.hid hsu; clear hsu
      generalize crcIter m x = d at *
      have h1 : (0 : Int) ≤ d := by omega
      have h2 : (d : Int) < 4294967296 := by omega
      rcases Nat.mod_two_eq_zero_or_one d with hp | hp
      · have t1 : ((d : Int) % 2 == 1) = false := beq_eq_false_iff_ne.2 (by omega)
        have t2 : ((d : Int).tmod 2 == 1) = false := by rw [Int.tmod_eq_emod_of_nonneg h1]; exact t1
        have q0 : ((crcBit d : Nat) : Int) = (d : Int) / 2 := by unfold crcBit; rw [if_neg (by omega)]; omega
        have Q0 := Lib.hid q0
        clear hd hp q0
        go_wp2_with fail
        refine ⟨⟨m + 1, by omega, by go_num, by rw [HSu.out, Q0.out]⟩, ?_⟩
        simp [intOf]; omega
      · have t1 : ((d : Int) % 2 == 1) = true := by rw [beq_iff_eq]; omega
        have t2 : ((d : Int).tmod 2 == 1) = true := by rw [Int.tmod_eq_emod_of_nonneg h1]; exact t1
        have q1 : bits .xor .i64 ((d : Int) / 2) 3988292384 = ((crcBit d : Nat) : Int) := by
          have := i64_xor_nat (d / 2) 3988292384 (by omega) (by omega)
          rw [show ((d / 2 : Nat) : Int) = (d : Int) / 2 by omega] at this
          unfold crcBit crcP
          rw [if_pos hp]
          exact this
        have q2 : bits .xor .i64 ((d : Int).tdiv 2) 3988292384 = ((crcBit d : Nat) : Int) := by rw [Int.tdiv_eq_ediv_of_nonneg h1]; exact q1
        clear hd hp
        go_wp2_with fail
        refine ⟨⟨m + 1, by omega, by go_num, by rw [HSu.out]⟩, ?_⟩
        simp [intOf]; omega
end Go.Proofs.YtcdcfolhnjgigaaGreatDoor
namespace Go.Proofs.YtcdcfolhnjgigaaGreatDoor
open Go.RowKit

theorem cut32_any (s : Str) (w : World) (hs : s.length ≤ 100000) :
    Calls Tryz.prog 109 #[S s, .int .u8 32] w fun e w' => ∃ v', e = .returned v' ∧ Own encS 9 1 w.heap.size w' v' (cutAt 32 s) ∧ Below w.heap.size w w' := refCut_any s 32 w hs
theorem cut10_any (s : Str) (w : World) (hs : s.length ≤ 100000) :
    Calls Tryz.prog 109 #[S s, .int .u8 10] w fun e w' => ∃ v', e = .returned v' ∧ Own encS 9 1 w.heap.size w' v' (cutAt 10 s) ∧ Below w.heap.size w w' := refCut_any s 10 w hs

abbrev z6 : Array Value := #[S [], S [], .int .i64 0, .int .i64 0, .int .i64 0, .int .i64 0]
set_option maxHeartbeats 1000000 in
set_option maxRecDepth 20000 in
theorem refReadFile_any (s : Str) (w : World) (hs : s.length ≤ 10000) :
    Calls Tryz.prog 162 #[S s] w fun e w' => e = .returned (.tuple #[fileV (fileRead s).1, .int .i64 ((fileRead s).2 : Nat)]) ∧ Below w.heap.size w w' := by
  have hwl : (cutAt 32 s).length ≤ 10001 := by
    have := cutAt_length 32 s
    have h2 : s.count 32 ≤ s.length := List.count_le_length
    omega
  have hwp : 0 < (cutAt 32 s).length := by rw [cutAt_length]; omega
  have hws : ∀ p ∈ cutAt 32 s, p.length ≤ 10000 := fun p hp => by
    have := cutAt_mem_len (c := 32) hp; omega
  have hba : Below w.heap.size w (w.alloc (.cells #[S [], S [], .int .i64 0, .int .i64 0, .int .i64 0, .int .i64 0] 69)) := (Below.refl _ _).alloc (Nat.le_refl _) _
  have hsp := cut32_any s (w.alloc (.cells #[S [], S [], .int .i64 0, .int .i64 0, .int .i64 0, .int .i64 0] 69)) (by omega)
  have hcs := fun w6 (h : Below (w.alloc (.cells #[S [], S [], .int .i64 0, .int .i64 0, .int .i64 0, .int .i64 0] 69)).heap.size (w.alloc (.cells #[S [], S [], .int .i64 0, .int .i64 0, .int .i64 0, .int .i64 0] 69)) w6) => fileCells (f := zeroF) rfl h
  have CZ := Lib.hid hcs; clear hcs
  have hhg := fun w6 (h : Below (w.alloc (.cells #[S [], S [], .int .i64 0, .int .i64 0, .int .i64 0, .int .i64 0] 69)).heap.size (w.alloc (.cells #[S [], S [], .int .i64 0, .int .i64 0, .int .i64 0, .int .i64 0] 69)) w6) => (h.block w.heap.size (by simp)).trans (heap_alloc_new w (.cells #[S [], S [], .int .i64 0, .int .i64 0, .int .i64 0, .int .i64 0] 69))
  have HG := Lib.hid hhg; clear hhg
  by_cases h6 : (cutAt 32 s).length = 6
  case neg =>
    have HF := Lib.hid (fileRead_none (fileOf_len h6))
    have g6 : (((cutAt 32 s).length : Int) != 6) = true := by simp; omega
    clear hws
    go_enter Tryz.func162, Tryz.ntmps162
    go_wp2_with fail
    generalize w.alloc (.cells #[S [], S [], .int .i64 0, .int .i64 0, .int .i64 0, .int .i64 0] 69) = w1 at *
    refine hsp.mono ?_
    rintro e w2 ⟨v', rfl, hown, hb2⟩
    have hb2' := hba.trans (hb2.mono hba.size)
    obtain ⟨g', cap, cur, rfl, -⟩ := hown.open hwp
    obtain ⟨c0, c1, c2, c3, c4, c5⟩ := CZ.out _ hb2
    have hg2 := HG.out _ hb2
    have fz : ∀ j, w2.frozen? ⟨w.heap.size, j, none⟩ = false := fun j => frozen_row hg2
    have f0 := fz 0; have f1 := fz 1; have f2 := fz 2; have f3 := fz 3; have f4 := fz 4; have f5 := fz 5
    have HGz := Lib.hid hg2
    clear fz hg2 hown
    generalize cutAt 32 s = W at *
    go_wp2_with fail
    refine bodyPost_ret (ret_row rfl _ _ w.heap.size 69 z6 (0, 0) _ rfl (six_new HGz.out _ _ _ _ _ _) Tryz.underlying69 rfl (by kernel_rfl)) rfl ⟨?_, six_below hb2' (Nat.le_refl _) _ _ _ _ _ _⟩
    rw [HF.out]; rfl
  obtain ⟨p, q, n1, n2, n3, n4, hW⟩ := six_strs h6
  rw [hW] at hsp hws
  have hfo : fileOf (cutAt 32 s) = match numsOf [n1, n2, n3, n4] with | some [n, lo, hi, seq] => some ⟨p, q, n, lo, hi, seq⟩ | _ => none := by rw [hW]; rfl
  have HFO := Lib.hid hfo; have HWS := Lib.hid hws
  clear hfo hws hW h6 hwl hwp
  go_enter Tryz.func162, Tryz.ntmps162
  go_wp2_with fail
  generalize w.alloc (.cells #[S [], S [], .int .i64 0, .int .i64 0, .int .i64 0, .int .i64 0] 69) = w1 at *
  refine hsp.mono ?_
  rintro e w2 ⟨v', rfl, hown, hb2⟩
  have hb2' := hba.trans (hb2.mono hba.size)
  obtain ⟨a', c', b', o', hv', ha', hc', hcm', hx'⟩ := hown.at encS_enc
  subst hv'
  obtain rfl := ha' (by simp)
  obtain ⟨b3, o3, c3, hrun, hat3⟩ := slice_from (enc := encS) (sz := 1) Tryz.underlying115 szStr ha' hc' hcm' hx' 2 (by simp) (by simp)
  have x0 := hx' 0 _ rfl 0 _ rfl
  have x1 := hx' 1 _ rfl 0 _ rfl
  simp only [List.length_cons, List.length_nil, Nat.zero_add, Nat.reduceAdd, Nat.reduceSub, Nat.mul_one, Nat.add_zero, List.drop_succ_cons, List.drop_zero] at hrun hat3 x0 x1
  have e2 : ((2 : Nat) : Int) = 2 := rfl
  rw [e2] at hrun
  clear ha' hx' hown hcm' e2 hsp
  have hl6 : [p, q, n1, n2, n3, n4].length = 6 := rfl
  rw [hl6] at hc' ⊢
  go_wp2_with fail
  refine (numbersOf_any _ [n1, n2, n3, n4] _ hat3 (by simp) (fun x hx => by have := HWS.out x (by simp at hx ⊢; rcases hx with h | h | h | h <;> simp [h]); omega)).mono ?_
  rintro e w3 ⟨v', rfl, hv1, hv2, hb3⟩
  have hb31 := hb2.trans (hb3.mono hb2.size)
  have hb3' := hb2'.trans (hb3.mono hb2'.size)
  have y0 := (hb3.cell (World.block_lt_of_cell? w2 _ x0)).trans x0
  have y1 := (hb3.cell (World.block_lt_of_cell? w2 _ x1)).trans x1
  clear hrun hat3 x0 x1 hl6
  cases hn : numsOf [n1, n2, n3, n4] with
  | none =>
    rw [hn] at hv2
    obtain rfl := hv2 rfl
    have HF := Lib.hid (fileRead_none (s := s) (by rw [HFO.out, hn]))
    clear hn hv1 hv2
    simp only [Option.isSome_none]
    obtain ⟨c0, c1, c2, c3, c4, c5⟩ := CZ.out _ hb31
    have hg2 := HG.out _ hb31
    have fz : ∀ j, w3.frozen? ⟨w.heap.size, j, none⟩ = false := fun j => frozen_row hg2
    have f0 := fz 0; have f1 := fz 1; have f2 := fz 2; have f3 := fz 3; have f4 := fz 4; have f5 := fz 5
    have HGz := Lib.hid hg2
    clear fz hg2
    go_wp2_with fail
    refine bodyPost_ret (ret_row rfl _ _ w.heap.size 69 z6 (0, 0) _ rfl (six_new HGz.out _ _ _ _ _ _) Tryz.underlying69 rfl (by kernel_rfl)) rfl ⟨?_, six_below hb3' (Nat.le_refl _) _ _ _ _ _ _⟩
    rw [HF.out]; rfl
  | some ns =>
    have hown := hv1 ns hn
    have hnl := mapM_len _ hn
    obtain ⟨m1, m2, m3, m4, rfl⟩ := four_ints (l := ns) (by simpa using hnl)
    have HF := Lib.hid (fileRead_some (s := s) (f := ⟨p, q, m1, m2, m3, m4⟩) (by rw [HFO.out, hn]))
    clear hn hv1 hv2 hnl
    simp only [Option.isSome_some]
    obtain ⟨a4, c4, b4, o4, hv4, ha4, hc4, hcm4, hx4⟩ := hown.at encI_enc
    subst hv4
    obtain rfl := ha4 (by simp)
    have z0 := hx4 0 _ rfl 0 _ rfl
    have z1 := hx4 1 _ rfl 0 _ rfl
    have z2 := hx4 2 _ rfl 0 _ rfl
    have z3 := hx4 3 _ rfl 0 _ rfl
    simp only [Nat.mul_one, Nat.add_zero] at z0 z1 z2 z3
    have hl4 : [m1, m2, m3, m4].length = 4 := rfl
    rw [hl4]
    clear hx4 hown ha4 hc4 hcm4 hl4
    have hks := fun w6 (h : Below w3.heap.size w3 w6) => (⟨(h.cell (World.block_lt_of_cell? w3 _ y0)).trans y0, (h.cell (World.block_lt_of_cell? w3 _ y1)).trans y1, (h.cell (World.block_lt_of_cell? w3 _ z0)).trans z0, (h.cell (World.block_lt_of_cell? w3 _ z1)).trans z1, (h.cell (World.block_lt_of_cell? w3 _ z2)).trans z2, (h.cell (World.block_lt_of_cell? w3 _ z3)).trans z3⟩ : _ ∧ _ ∧ _ ∧ _ ∧ _ ∧ _)
    have KS := Lib.hid hks; clear hks
    go_wp2_with fail
    go_region_held3 (fun w' => w'.cell? ⟨b', o', none⟩ = some (S p) ∧ w'.cell? ⟨b', o' + 1, none⟩ = some (S q) ∧ w'.cell? ⟨b4, o4, none⟩ = some (.int .i64 m1) ∧ w'.cell? ⟨b4, o4 + 1, none⟩ = some (.int .i64 m2) ∧ w'.cell? ⟨b4, o4 + 2, none⟩ = some (.int .i64 m3) ∧ w'.cell? ⟨b4, o4 + 3, none⟩ = some (.int .i64 m4)) (first | exact ⟨y0, y1, z0, z1, z2, z3⟩ | exact KS.out _ (((Below.refl _ _).alloc (Nat.le_refl _) _).drew) | exact KS.out _ ((Below.refl _ _).drew.alloc (Nat.le_refl _) _)) (fail)
    have hb4 : Below w3.heap.size w3 (w3.alloc (.cells #[S p, S q, .int .i64 m1, .int .i64 m2, .int .i64 m3, .int .i64 m4] 69)).drew := ((Below.refl _ _).alloc (Nat.le_refl _) _).drew
    have CF := Lib.hid (fun w6 (h : Below (w3.alloc (.cells #[S p, S q, .int .i64 m1, .int .i64 m2, .int .i64 m3, .int .i64 m4] 69)).heap.size (w3.alloc (.cells #[S p, S q, .int .i64 m1, .int .i64 m2, .int .i64 m3, .int .i64 m4] 69)).drew w6) => fileCells (f := ⟨p, q, m1, m2, m3, m4⟩) rfl (((Below.refl _ _).drew).trans h))
    have hsz : (w3.alloc (.cells #[S p, S q, .int .i64 m1, .int .i64 m2, .int .i64 m3, .int .i64 m4] 69)).heap.size = (w3.alloc (.cells #[S p, S q, .int .i64 m1, .int .i64 m2, .int .i64 m3, .int .i64 m4] 69)).drew.heap.size := rfl
    rw [hsz] at CF
    generalize (w3.alloc (.cells #[S p, S q, .int .i64 m1, .int .i64 m2, .int .i64 m3, .int .i64 m4] 69)).drew = w4 at *
    have hb4' := hb3'.trans (hb4.mono hb3'.size)
    have hb41 := hb31.trans (hb4.mono hb31.size)
    obtain ⟨c0, c1, c2, c3, c4, c5⟩ := CF.out w4 (Below.refl _ _)
    clear y0 y1 z0 z1 z2 z3 hsz
    go_wp2_with fail
    refine (fileError_any ⟨p, q, m1, m2, m3, m4⟩ _ ⟨by have := HWS.out p (by simp); show p.length ≤ _; omega, by have := HWS.out q (by simp); show q.length ≤ _; omega⟩).mono ?_
    rintro e w5 ⟨rfl, hb5⟩
    have hb5' := hb4'.trans (hb5.mono hb4'.size)
    have hb51 := hb41.trans (hb5.mono hb41.size)
    have hg2 := HG.out _ hb51
    have fz : ∀ j, w5.frozen? ⟨w.heap.size, j, none⟩ = false := fun j => frozen_row hg2
    have f0 := fz 0; have f1 := fz 1; have f2 := fz 2; have f3 := fz 3; have f4 := fz 4; have f5 := fz 5
    have HGz := Lib.hid hg2
    obtain ⟨d0, d1, d2, d3, d4, d5⟩ := CZ.out _ hb51
    clear c0 c1 c2 c3 c4 c5 fz hg2
    obtain ⟨c0, c1, c2, c3, c4, c5⟩ := CF.out w5 hb5
    by_cases hck : checkF ⟨p, q, m1, m2, m3, m4⟩ = 0
    case neg =>
      have HR : Hid (fileRead s = (zeroF, checkF ⟨p, q, m1, m2, m3, m4⟩)) := Lib.hid (by rw [HF.out, if_neg hck])
      have g1 : (0 : Int) < ((checkF ⟨p, q, m1, m2, m3, m4⟩ : Nat) : Int) := by omega
      clear hck
      generalize checkF ⟨p, q, m1, m2, m3, m4⟩ = ce at *
      go_wp2_with fail
      refine bodyPost_ret (ret_row rfl _ _ w.heap.size 69 z6 (0, 0) _ rfl (six_new HGz.out _ _ _ _ _ _) Tryz.underlying69 rfl (by kernel_rfl)) rfl ⟨?_, six_below hb5' (Nat.le_refl _) _ _ _ _ _ _⟩
      rw [HR.out]; rfl
    have HR : Hid (fileRead s = (⟨p, q, m1, m2, m3, m4⟩, 0)) := Lib.hid (by rw [HF.out, if_pos hck])
    rw [hck]
    clear hck
    go_wp2_with fail
    refine bodyPost_ret (ret_row rfl _ _ w.heap.size 69 #[S p, S q, .int .i64 m1, .int .i64 m2, .int .i64 m3, .int .i64 m4] (0, 0) _ rfl (six_new HGz.out _ _ _ _ _ _) Tryz.underlying69 rfl (by kernel_rfl)) rfl ⟨?_, six_below hb5' (Nat.le_refl _) _ _ _ _ _ _⟩
    rw [HR.out]; rfl
end Go.Proofs.YtcdcfolhnjgigaaGreatDoor
