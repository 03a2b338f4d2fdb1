/- The document's answer on lists: AddOf: the walk (printed by gen_addof.py). deedboxlaw2.ListTells: the walk (printed by gen_listtells.py). From the row's condition on the listed variables to what the walks ask: the sentinels, and what errors.As reads. -/
import Derived.Test.YtikboodjfanjkaaGreatDoorP10
import Derived.Test.YtikboodjfanjkaaGreatDoorP6
import Derived.Test.YtikboodjfanjkaaGreatDoorP7
import Derived.Test.YtikboodjfanjkaaGreatDoorP8
import Derived.Deep.RegionWith
import Derived.Deep.RegionHeld3
import Derived.Deep.DeepCutAuto
import Derived.Test.YtikboodjfanjkaaGreatDoorP1
import Derived.LaidLaws
import Derived.LaidHandle
import Derived.Stop.LaidErr
namespace Go.Proofs.YtikboodjfanjkaaGreatDoor
open Go.RowKit

theorem keyP_inj {p q : Str} (hp : pathF p ≠ none) (hq : pathF q ≠ none) (h : keyP p = keyP q) : p = q := by
  cases h1 : pathF p with
  | none => exact absurd h1 hp
  | some a =>
    cases h2 : pathF q with
    | none => exact absurd h2 hq
    | some b =>
      obtain ⟨k, n⟩ := a
      obtain ⟨k', n'⟩ := b
      obtain ⟨e1, k1, n1, m1⟩ := pathF_form h1
      obtain ⟨e2, k2, n2, m2⟩ := pathF_form h2
      have hg : ¬ kGone = kData := by decide
      unfold keyP at h
      rw [h1, h2] at h
      simp only at h
      rcases k1 with rfl | rfl <;> rcases k2 with rfl | rfl
      · rw [if_pos rfl, if_pos rfl] at h
        obtain rfl : n = n' := by omega
        rw [e1, e2]
      · rw [if_pos rfl, if_neg hg] at h; omega
      · rw [if_neg hg, if_pos rfl] at h; omega
      · rw [if_neg hg, if_neg hg] at h
        obtain rfl : n = n' := by omega
        rw [e1, e2]
theorem checkF_path {f : Fl} (h : checkF f = 0) : pathF f.path ≠ none := by
  obtain ⟨k, n, hp, -, -⟩ := checkF_zero h
  rw [hp]; exact fun e => by cases e
theorem there_find {l : List Fl} {f : Fl} (hR : RightL l) (hf : checkF f = 0) : thereF l f ↔ 0 ≤ findV l f.path := by
  rw [find_mem]
  constructor
  · rintro ⟨g, hg, hk⟩
    exact ⟨g, hg, keyP_inj (checkF_path (hR.ok g hg)) (checkF_path hf) hk⟩
  · rintro ⟨g, hg, hp⟩
    exact ⟨g, hg, by rw [hp]⟩
set_option maxHeartbeats 2000000 in
set_option maxRecDepth 20000 in
theorem refAddOf_any (v : Value) (l : List Fl) (f : Fl) (w : World) (hl : FilesAt w v l) (hs : ∀ x ∈ l, midF x) (hf : midF f) (hn : l.length ≤ 10000) :
    Calls Tryz.prog 40 #[v, fileV f] w fun e w' => ∃ u, e = .returned (.tuple #[u, faultOf (addE l f)]) ∧ FilesAt w' u (addL l f) ∧ Below w.heap.size w w' := by
  have hb0 : Below w.heap.size w (w.alloc (.cells #[S f.path, S f.part, .int .i64 f.n, .int .i64 f.lo, .int .i64 f.hi, .int .i64 f.seq] 50)) := (Below.refl w.heap.size w).alloc (Nat.le_refl _) _
  have hba : Below w.heap.size w ((w.alloc (.cells #[S f.path, S f.part, .int .i64 f.n, .int .i64 f.lo, .int .i64 f.hi, .int .i64 f.seq] 50)).alloc (.cells #[.int .i64 0, .int .i64 0] 59)) := hb0.alloc hb0.size _
  have hG := fun W (h : Below ((w.alloc (.cells #[S f.path, S f.part, .int .i64 f.n, .int .i64 f.lo, .int .i64 f.hi, .int .i64 f.seq] 50)).alloc (.cells #[.int .i64 0, .int .i64 0] 59)).heap.size ((w.alloc (.cells #[S f.path, S f.part, .int .i64 f.n, .int .i64 f.lo, .int .i64 f.hi, .int .i64 f.seq] 50)).alloc (.cells #[.int .i64 0, .int .i64 0] 59)) W) => ((h.block (w.alloc (.cells #[S f.path, S f.part, .int .i64 f.n, .int .i64 f.lo, .int .i64 f.hi, .int .i64 f.seq] 50)).heap.size (by simp)).trans (heap_alloc_new (w.alloc (.cells #[S f.path, S f.part, .int .i64 f.n, .int .i64 f.lo, .int .i64 f.hi, .int .i64 f.seq] 50)) (.cells #[.int .i64 0, .int .i64 0] 59)) : W.heap[(w.alloc (.cells #[S f.path, S f.part, .int .i64 f.n, .int .i64 f.lo, .int .i64 f.hi, .int .i64 f.seq] 50)).heap.size]? = some (.cells #[.int .i64 0, .int .i64 0] 59 (0, 0)))
  have hC := fun W (h : Below ((w.alloc (.cells #[S f.path, S f.part, .int .i64 f.n, .int .i64 f.lo, .int .i64 f.hi, .int .i64 f.seq] 50)).alloc (.cells #[.int .i64 0, .int .i64 0] 59)).heap.size ((w.alloc (.cells #[S f.path, S f.part, .int .i64 f.n, .int .i64 f.lo, .int .i64 f.hi, .int .i64 f.seq] 50)).alloc (.cells #[.int .i64 0, .int .i64 0] 59)) W) => fileCells (f := f) (w := w) rfl (((Below.refl (w.alloc (.cells #[S f.path, S f.part, .int .i64 f.n, .int .i64 f.lo, .int .i64 f.hi, .int .i64 f.seq] 50)).heap.size (w.alloc (.cells #[S f.path, S f.part, .int .i64 f.n, .int .i64 f.lo, .int .i64 f.hi, .int .i64 f.seq] 50))).alloc (Nat.le_refl _) (.cells #[.int .i64 0, .int .i64 0] 59)).trans (h.mono (by simp)))
  have hsz : (w.alloc (.cells #[S f.path, S f.part, .int .i64 f.n, .int .i64 f.lo, .int .i64 f.hi, .int .i64 f.seq] 50)).heap.size = w.heap.size + 1 := by simp
  rw [hsz] at hG
  have Hgr : Hid (w.heap.size ≤ w.heap.size + 1) := Lib.hid (by omega)
  have hbox : w.heap.size < ((w.alloc (.cells #[S f.path, S f.part, .int .i64 f.n, .int .i64 f.lo, .int .i64 f.hi, .int .i64 f.seq] 50)).alloc (.cells #[.int .i64 0, .int .i64 0] 59)).heap.size := by simp; omega
  have HBox := Lib.hid hbox
  have HG := Lib.hid hG; have HC := Lib.hid hC; clear hG hC hsz hb0 hbox
  have hl1 := hl.below hba
  obtain ⟨a, c, rfl, -, -⟩ := hl.form'
  have HS := Lib.hid hs; have HN := Lib.hid hn; have HMF := Lib.hid hf
  clear hs hn hl hf
  go_enter Tryz.func40, Tryz.ntmps40
  go_wp2_with fail
  generalize ((w.alloc (.cells #[S f.path, S f.part, .int .i64 f.n, .int .i64 f.lo, .int .i64 f.hi, .int .i64 f.seq] 50)).alloc (.cells #[.int .i64 0, .int .i64 0] 59)) = w0 at *
  generalize w.heap.size + 1 = gr at *
  refine (listFault_any _ l w0 hl1 HS.out).mono ?_
  rintro e w1 ⟨rfl, hb1⟩
  have hbw1 := hba.trans (hb1.mono hba.size)
  have hl2 := hl1.below hb1
  clear hl1
  by_cases hck : listCheck l = .nil
  case neg =>
    have HA := Lib.hid (addE_bad (f := f) hck)
    have HL : Hid (addL l f = []) := Lib.hid (addL_bad (by rw [HA.out]; exact hck))
    have hpos : (0 : Int) < ((listCheck l).code : Int) := by have := listCheck_code hck; omega
    have hne : (((listCheck l).code : Int) == 0) = false := by simp; have := listCheck_code hck; omega
    have HF : Hid (faultOf (addE l f) = .agg #[.int .i64 ((listCheck l).code : Int), .int .i64 (listCheck l).place]) := Lib.hid (by rw [HA.out]; rfl)
    rw [show faultOf (listCheck l) = .agg #[.int .i64 ((listCheck l).code : Int), .int .i64 (listCheck l).place] from rfl]
    clear HA hck hl2
    generalize ((listCheck l).code : Int) = cc at *
    generalize (listCheck l).place = pp at *
    go_wp2_with fail
    have hbX := hb1.alloc hb1.size (.cells #[.int .i64 cc, .int .i64 pp] 59)
    have hbY := hbw1.alloc hbw1.size (.cells #[.int .i64 cc, .int .i64 pp] 59)
    have d0 : (w1.alloc (.cells #[.int .i64 cc, .int .i64 pp] 59)).cell? ⟨w1.heap.size, 0, none⟩ = some (.int .i64 cc) := by simp
    have d1 : (w1.alloc (.cells #[.int .i64 cc, .int .i64 pp] 59)).cell? ⟨w1.heap.size, 1, none⟩ = some (.int .i64 pp) := by simp
    generalize (w1.alloc (.cells #[.int .i64 cc, .int .i64 pp] 59)) = W at *
    have hg := HG.out _ hbX
    have c0 : W.cell? ⟨gr, 0, none⟩ = some (.int .i64 0) := by simp [World.cell?, hg]
    have c1 : W.cell? ⟨gr, 1, none⟩ = some (.int .i64 0) := by simp [World.cell?, hg]
    have f0 : W.frozen? ⟨gr, 0, none⟩ = false := by simp [World.frozen?, hg]
    have f1 : W.frozen? ⟨gr, 1, none⟩ = false := by simp [World.frozen?, hg]
    have HGg := Lib.hid hg; clear hg
    go_region
    all_goals
      go_wp2_with fail
      refine bodyPost_ret (fault_tc (g := gr) rfl rfl (set_two HGg.out _ _) rfl) rfl ⟨_, by rw [HF.out]; rfl, by rw [HL.out]; exact At.nil _ _ _, ?_⟩
      exact Bdn ((hbY.setCell Hgr.out _).setCell Hgr.out _) 1
  have hcf0 : faultOf (listCheck l) = .agg #[.int .i64 0, .int .i64 (-1)] := by rw [hck]; rfl
  rw [hcf0]
  have HCk := Lib.hid hck
  have HR := Lib.hid ((right_iff l).1 hck)
  clear hcf0 hck
  have hbX := hb1.alloc hb1.size (.cells #[.int .i64 0, .int .i64 (-1)] 59)
  have hbY := hbw1.alloc hbw1.size (.cells #[.int .i64 0, .int .i64 (-1)] 59)
  have hl3 := hl2.below ((Below.refl w1.heap.size w1).alloc (Nat.le_refl _) (.cells #[.int .i64 0, .int .i64 (-1)] 59))
  have hgX := heap_alloc_new w1 (.cells #[.int .i64 0, .int .i64 (-1)] 59)
  obtain ⟨b0, b1, b2, b3, b4, b5⟩ := HC.out _ hbX
  have HgX := Lib.hid hgX
  clear hl2 hgX
  have hfe := fun W => fileError_any f W HMF.out
  obtain ⟨cf, hcf⟩ : ∃ cf, checkF f = cf := ⟨_, rfl⟩
  simp only [hcf] at hfe
  have HCf := Lib.hid hcf; clear hcf
  have hFE := Lib.hid hfe; clear hfe
  go_wp2_with fail
  generalize (w1.alloc (.cells #[.int .i64 0, .int .i64 (-1)] 59)) = w2 at *
  refine (hFE.out _).mono ?_
  rintro e w3 ⟨rfl, hb3⟩
  have hg3 := (hb3.block _ (Array.getElem?_eq_some_iff.1 HgX.out).1).trans HgX.out
  have Hg3 := Lib.hid hg3; clear hg3
  have hl4 := hl3.below hb3
  have hbX3 := hbX.trans (hb3.mono hbX.size)
  have hbY3 := hbY.trans (hb3.mono hbY.size)
  clear hbX hbY b0 b1 b2 b3 b4 b5 HgX hl3 hFE
  go_wp2_with fail
  refine (refBare_any _ _).mono ?_
  rintro e w4 ⟨rfl, hb4⟩
  have hg4 := (hb4.block _ (Array.getElem?_eq_some_iff.1 Hg3.out).1).trans Hg3.out
  have hl5 := hl4.below hb4
  have hbX4 := hbX3.trans (hb4.mono hbX3.size)
  have hbY4 := hbY3.trans (hb4.mono hbY3.size)
  have d0 : w4.cell? ⟨w1.heap.size, 0, none⟩ = some (.int .i64 0) := by simp [World.cell?, hg4]
  have d1 : w4.cell? ⟨w1.heap.size, 1, none⟩ = some (.int .i64 (-1)) := by simp [World.cell?, hg4]
  have e0 : w4.frozen? ⟨w1.heap.size, 0, none⟩ = false := by simp [World.frozen?, hg4]
  have e1 : w4.frozen? ⟨w1.heap.size, 1, none⟩ = false := by simp [World.frozen?, hg4]
  have Hg4 := Lib.hid hg4; clear hg4
  clear hbX3 hbY3 hl4 Hg3
  unfold faultV
  by_cases hcz : cf = 0
  case neg =>
    have HA := Lib.hid (addE_file (f := f) HCk.out (by rw [HCf.out]; exact hcz))
    have HL : Hid (addL l f = []) := Lib.hid (addL_bad (by rw [HA.out]; exact fun h => by cases h))
    have HF : Hid (faultOf (addE l f) = .agg #[.int .i64 (cf : Int), .int .i64 (-1)]) := Lib.hid (by rw [HA.out, HCf.out]; rfl)
    have hpos : (0 : Int) < (cf : Int) := by omega
    have hne : ((cf : Int) == 0) = false := by simpa using hcz
    clear hcz
    generalize (cf : Int) = cc at *
    go_wp2_with fail
    have hbZ' := (hbX4.setCell (p := ⟨w1.heap.size, 0, none⟩) hb1.size (.int .i64 cc)).setCell (p := ⟨w1.heap.size, 1, none⟩) hb1.size (.int .i64 (-1))
    have hbV' := (hbY4.setCell (p := ⟨w1.heap.size, 0, none⟩) hbw1.size (.int .i64 cc)).setCell (p := ⟨w1.heap.size, 1, none⟩) hbw1.size (.int .i64 (-1))
    have hg4 := set_two Hg4.out (.int .i64 cc) (.int .i64 (-1))
    clear d0 d1 e0 e1
    have hg := HG.out _ hbZ'
    generalize ((w4.setCell ⟨w1.heap.size, 0, none⟩ (.int .i64 cc)).setCell ⟨w1.heap.size, 1, none⟩ (.int .i64 (-1))) = W at *
    have d0 : W.cell? ⟨w1.heap.size, 0, none⟩ = some (.int .i64 cc) := by simp [World.cell?, hg4]
    have d1 : W.cell? ⟨w1.heap.size, 1, none⟩ = some (.int .i64 (-1)) := by simp [World.cell?, hg4]
    have c0 : W.cell? ⟨gr, 0, none⟩ = some (.int .i64 0) := by simp [World.cell?, hg]
    have c1 : W.cell? ⟨gr, 1, none⟩ = some (.int .i64 0) := by simp [World.cell?, hg]
    have f0 : W.frozen? ⟨gr, 0, none⟩ = false := by simp [World.frozen?, hg]
    have f1 : W.frozen? ⟨gr, 1, none⟩ = false := by simp [World.frozen?, hg]
    clear hg4
    have HGg := Lib.hid hg; clear hg
    go_region
    all_goals
      go_wp2_with fail
      refine bodyPost_ret (fault_tc (g := gr) rfl rfl (set_two HGg.out _ _) rfl) rfl ⟨_, by rw [HF.out]; rfl, by rw [HL.out]; exact At.nil _ _ _, ?_⟩
      exact Bdn ((hbV'.setCell Hgr.out _).setCell Hgr.out _) 1
  subst hcz
  have hthf := there_find HR.out HCf.out
  have hbX5 := (hbX4.setCell (p := ⟨w1.heap.size, 0, none⟩) hb1.size (.int .i64 0)).setCell (p := ⟨w1.heap.size, 1, none⟩) hb1.size (.int .i64 (-1))
  have hbY5 := (hbY4.setCell (p := ⟨w1.heap.size, 0, none⟩) hbw1.size (.int .i64 0)).setCell (p := ⟨w1.heap.size, 1, none⟩) hbw1.size (.int .i64 (-1))
  have hg5 := set_two Hg4.out (.int .i64 0) (.int .i64 (-1))
  have hl6 := FilesAt.away hl5 Hg4.out (.int .i64 0) (.int .i64 (-1))
  obtain ⟨b0, -, -, -, -, -⟩ := HC.out _ hbX5
  have k0 : ((w4.setCell ⟨w1.heap.size, 0, none⟩ (.int .i64 0)).setCell ⟨w1.heap.size, 1, none⟩ (.int .i64 (-1))).cell? ⟨w1.heap.size, 0, none⟩ = some (.int .i64 0) := by simp [World.cell?, hg5]
  have hne1 : ¬ w.heap.size = w1.heap.size := by have h1 := HBox.out; have h2 := hb1.size; omega
  have hne2 : ¬ w1.heap.size = w.heap.size := fun h => hne1 h.symm
  have Hg5 := Lib.hid hg5
  clear hg5 hl5
  have b0' : w4.cell? ⟨w.heap.size, 0, none⟩ = some (S f.path) := (HC.out _ hbX4).1
  have HFo := Lib.hid (findOf_any _ l f.path _ hl6)
  go_wp2_with fail
  generalize ((w4.setCell ⟨w1.heap.size, 0, none⟩ (.int .i64 0)).setCell ⟨w1.heap.size, 1, none⟩ (.int .i64 (-1))) = w5 at *
  clear d0 d1 e0 e1 b0' hne1 hne2
  generalize findV l f.path = fv at *
  have d1 : w5.cell? ⟨w1.heap.size, 1, none⟩ = some (.int .i64 (-1)) := by simp [World.cell?, Hg5.out]
  by_cases hth : thereF l f
  case pos =>
    have HA := Lib.hid (addE_there HCk.out HCf.out hth)
    have HL : Hid (addL l f = []) := Lib.hid (addL_bad (by rw [HA.out]; exact fun h => by cases h))
    have hfv : 0 ≤ fv := hthf.1 hth
    clear hth hthf
    refine HFo.out.mono ?_
    rintro e w6 ⟨rfl, rfl⟩
    go_wp2_with fail
    refine (refBare_any 7 _).mono ?_
    rintro e wb ⟨rfl, hbb⟩
    have hgb := (hbb.block _ (Array.getElem?_eq_some_iff.1 Hg5.out).1).trans Hg5.out
    have hbZ := hbX5.trans (hbb.mono hbX5.size)
    have hbV := hbY5.trans (hbb.mono hbY5.size)
    have d0 : wb.cell? ⟨w1.heap.size, 0, none⟩ = some (.int .i64 0) := by simp [World.cell?, hgb]
    have d1 : wb.cell? ⟨w1.heap.size, 1, none⟩ = some (.int .i64 (-1)) := by simp [World.cell?, hgb]
    have e0 : wb.frozen? ⟨w1.heap.size, 0, none⟩ = false := by simp [World.frozen?, hgb]
    have e1 : wb.frozen? ⟨w1.heap.size, 1, none⟩ = false := by simp [World.frozen?, hgb]
    have Hgb := Lib.hid hgb; clear hgb
    unfold faultV
    go_wp2_with fail
    have hbZ' := (hbZ.setCell (p := ⟨w1.heap.size, 0, none⟩) hb1.size (.int .i64 7)).setCell (p := ⟨w1.heap.size, 1, none⟩) hb1.size (.int .i64 (-1))
    have hbV' := (hbV.setCell (p := ⟨w1.heap.size, 0, none⟩) hbw1.size (.int .i64 7)).setCell (p := ⟨w1.heap.size, 1, none⟩) hbw1.size (.int .i64 (-1))
    have hg4 := set_two Hgb.out (.int .i64 7) (.int .i64 (-1))
    clear d0 d1 e0 e1
    have hg := HG.out _ hbZ'
    generalize ((wb.setCell ⟨w1.heap.size, 0, none⟩ (.int .i64 7)).setCell ⟨w1.heap.size, 1, none⟩ (.int .i64 (-1))) = W at *
    have d0 : W.cell? ⟨w1.heap.size, 0, none⟩ = some (.int .i64 7) := by simp [World.cell?, hg4]
    have d1 : W.cell? ⟨w1.heap.size, 1, none⟩ = some (.int .i64 (-1)) := by simp [World.cell?, hg4]
    have c0 : W.cell? ⟨gr, 0, none⟩ = some (.int .i64 0) := by simp [World.cell?, hg]
    have c1 : W.cell? ⟨gr, 1, none⟩ = some (.int .i64 0) := by simp [World.cell?, hg]
    have f0 : W.frozen? ⟨gr, 0, none⟩ = false := by simp [World.frozen?, hg]
    have f1 : W.frozen? ⟨gr, 1, none⟩ = false := by simp [World.frozen?, hg]
    clear hg4
    have HGg := Lib.hid hg; clear hg
    go_region
    all_goals
      go_wp2_with fail
      refine bodyPost_ret (fault_tc (g := gr) rfl rfl (set_two HGg.out _ _) rfl) rfl ⟨_, by rw [HA.out]; rfl, by rw [HL.out]; exact At.nil _ _ _, ?_⟩
      exact Bdn ((hbV'.setCell Hgr.out _).setCell Hgr.out _) 1
  have hfv : decide (0 ≤ fv) = false := by
    have := mt hthf.2 hth
    simpa using this
  clear hthf
  by_cases h60 : 60 ≤ l.length
  case pos =>
    have HA := Lib.hid (addE_full HCk.out HCf.out hth h60)
    have HL : Hid (addL l f = []) := Lib.hid (addL_bad (by rw [HA.out]; exact fun h => by cases h))
    have g60 : (60 : Int) ≤ (l.length : Int) := by omega
    clear hth
    refine HFo.out.mono ?_
    rintro e w6 ⟨rfl, rfl⟩
    go_wp2_with fail
    refine (refBare_any 8 _).mono ?_
    rintro e wb ⟨rfl, hbb⟩
    have hgb := (hbb.block _ (Array.getElem?_eq_some_iff.1 Hg5.out).1).trans Hg5.out
    have hbZ := hbX5.trans (hbb.mono hbX5.size)
    have hbV := hbY5.trans (hbb.mono hbY5.size)
    have d0 : wb.cell? ⟨w1.heap.size, 0, none⟩ = some (.int .i64 0) := by simp [World.cell?, hgb]
    have d1 : wb.cell? ⟨w1.heap.size, 1, none⟩ = some (.int .i64 (-1)) := by simp [World.cell?, hgb]
    have e0 : wb.frozen? ⟨w1.heap.size, 0, none⟩ = false := by simp [World.frozen?, hgb]
    have e1 : wb.frozen? ⟨w1.heap.size, 1, none⟩ = false := by simp [World.frozen?, hgb]
    have Hgb := Lib.hid hgb; clear hgb
    unfold faultV
    go_wp2_with fail
    have hbZ' := (hbZ.setCell (p := ⟨w1.heap.size, 0, none⟩) hb1.size (.int .i64 8)).setCell (p := ⟨w1.heap.size, 1, none⟩) hb1.size (.int .i64 (-1))
    have hbV' := (hbV.setCell (p := ⟨w1.heap.size, 0, none⟩) hbw1.size (.int .i64 8)).setCell (p := ⟨w1.heap.size, 1, none⟩) hbw1.size (.int .i64 (-1))
    have hg4 := set_two Hgb.out (.int .i64 8) (.int .i64 (-1))
    clear d0 d1 e0 e1
    have hg := HG.out _ hbZ'
    generalize ((wb.setCell ⟨w1.heap.size, 0, none⟩ (.int .i64 8)).setCell ⟨w1.heap.size, 1, none⟩ (.int .i64 (-1))) = W at *
    have d0 : W.cell? ⟨w1.heap.size, 0, none⟩ = some (.int .i64 8) := by simp [World.cell?, hg4]
    have d1 : W.cell? ⟨w1.heap.size, 1, none⟩ = some (.int .i64 (-1)) := by simp [World.cell?, hg4]
    have c0 : W.cell? ⟨gr, 0, none⟩ = some (.int .i64 0) := by simp [World.cell?, hg]
    have c1 : W.cell? ⟨gr, 1, none⟩ = some (.int .i64 0) := by simp [World.cell?, hg]
    have f0 : W.frozen? ⟨gr, 0, none⟩ = false := by simp [World.frozen?, hg]
    have f1 : W.frozen? ⟨gr, 1, none⟩ = false := by simp [World.frozen?, hg]
    clear hg4
    have HGg := Lib.hid hg; clear hg
    go_region
    all_goals
      go_wp2_with fail
      refine bodyPost_ret (fault_tc (g := gr) rfl rfl (set_two HGg.out _ _) rfl) rfl ⟨_, by rw [HA.out]; rfl, by rw [HL.out]; exact At.nil _ _ _, ?_⟩
      exact Bdn ((hbV'.setCell Hgr.out _).setCell Hgr.out _) 1
  have HA := Lib.hid (addE_nil HCk.out HCf.out hth h60)
  have HL : Hid (addL l f = placeF f l) := Lib.hid (by unfold addL; rw [if_pos HA.out])
  have g60 : decide ((60 : Int) ≤ (l.length : Int)) = false := by simp; omega
  have g60' : decide (60 ≤ l.length) = false := by simp; omega
  obtain ⟨b0, b1, b2, b3, b4, b5⟩ := HC.out _ hbX5
  have HPl := Lib.hid (placed_any _ l f _ hl6 HN.out HS.out HMF.out)
  clear hth h60
  refine HFo.out.mono ?_
  rintro e w6 ⟨rfl, rfl⟩
  go_wp2_with fail
  refine HPl.out.mono ?_
  rintro e w7 ⟨v7, rfl, hv7, hb7⟩
  obtain ⟨a7, c7, rfl, -, -⟩ := hv7.form'
  have hbX7 := hbX5.trans (hb7.mono hbX5.size)
  have hbY7 := hbY5.trans (hb7.mono hbY5.size)
  go_wp2_with fail
  refine (refFine_any _).mono ?_
  rintro e w8 ⟨rfl, hb8⟩
  have hbX8 := hbX7.trans (hb8.mono hbX7.size)
  have hbY8 := hbY7.trans (hb8.mono hbY7.size)
  have hv8 := hv7.below hb8
  have hg := HG.out _ hbX8
  have c0 : w8.cell? ⟨gr, 0, none⟩ = some (.int .i64 0) := by simp [World.cell?, hg]
  have c1 : w8.cell? ⟨gr, 1, none⟩ = some (.int .i64 0) := by simp [World.cell?, hg]
  have f0 : w8.frozen? ⟨gr, 0, none⟩ = false := by simp [World.frozen?, hg]
  have f1 : w8.frozen? ⟨gr, 1, none⟩ = false := by simp [World.frozen?, hg]
  have HGg := Lib.hid hg; clear hg
  unfold faultV
  go_wp2_with fail
  refine bodyPost_ret (fault_tc (g := gr) rfl rfl (set_two HGg.out _ _) rfl) rfl ⟨_, by rw [HA.out]; rfl, by rw [HL.out]; exact FilesAt.away hv8 HGg.out _ _, ?_⟩
  exact (hbY8.setCell Hgr.out _).setCell Hgr.out _
end Go.Proofs.YtikboodjfanjkaaGreatDoor
namespace Go.Proofs.YtikboodjfanjkaaGreatDoor
open Go.RowKit

theorem toldB_true (er : Er) : toldB er er.code er.place = true := by simp [toldB]
theorem told_any (E : Nat → Addr) (B : Nat) (er : Er) (v : Value) (c p : Int) (w : World) (hE : Errs allE E B w) (hA : AsVar w) (hgB : 12 < B) (hv : ErV E w v er) (hc : ((er.code : Nat) : Int) = c) (hp : er.place = p) :
    Calls Tryz.prog 33 #[v, .agg #[.int .i64 c, .int .i64 p]] w fun e w' => e = .returned (.bool true) ∧ Below w.heap.size w w' := by
  subst hc hp
  have h := faulted_any E B er v er.code er.place w hE hA hgB hv
  rwa [toldB_true] at h
theorem keep {a b : World} {g : Nat} {o : Obj} (hb : Below a.heap.size a b) (h : a.heap[g]? = some o) : b.heap[g]? = some o := (hb.block _ (Array.getElem?_eq_some_iff.1 h).1).trans h
theorem two0 {w : World} {g : Nat} {x y : Value} {t : TypeId} (h : w.heap[g]? = some (.cells #[x, y] t (0, 0))) : w.cell? ⟨g, 0, none⟩ = some x := by simp [World.cell?, h]
theorem two1 {w : World} {g : Nat} {x y : Value} {t : TypeId} (h : w.heap[g]? = some (.cells #[x, y] t (0, 0))) : w.cell? ⟨g, 1, none⟩ = some y := by simp [World.cell?, h]
theorem unfr {w : World} {g i : Nat} {cs : Array Value} {t : TypeId} (h : w.heap[g]? = some (.cells cs t (0, 0))) : w.frozen? ⟨g, i, none⟩ = false := by simp [World.frozen?, h]

theorem ErV.store {E : Nat → Addr} {w : World} {v : Value} {er : Er} {g i : Nat} {x : Int} {y : Value} (h : ErV E w v er) (h1 : w.cell? ⟨g, 1, none⟩ = some (.int .i64 x)) : ErV E (w.setCell ⟨g, i, none⟩ y) v er := by
  cases er with
  | nil => exact h
  | bare c => exact h
  | loc c k =>
    obtain ⟨hc, fb, hv, h2, h3⟩ := h
    have hne : g ≠ fb := fun e => by rw [e, h3] at h1; cases h1
    refine ⟨hc, fb, hv, (World.cell?_setCell_other _ _ _ _ ?_).trans h2, (World.cell?_setCell_other _ _ _ _ ?_).trans h3⟩
    · exact fun e => hne (congrArg Addr.block e)
    · exact fun e => hne (congrArg Addr.block e)
theorem ErV.store2 {E : Nat → Addr} {w : World} {v : Value} {er : Er} {g : Nat} {a b : Int} {t : TypeId} (h : ErV E w v er) (hg : w.heap[g]? = some (.cells #[.int .i64 a, .int .i64 b] t (0, 0))) (x y : Value) : ErV E ((w.setCell ⟨g, 0, none⟩ x).setCell ⟨g, 1, none⟩ y) v er :=
  (h.store (two1 hg)).store ((World.cell?_setCell_other _ _ _ _ (by simp)).trans (two1 hg))
theorem field0 (a b : Value) (W : World) : (Instr.field 59 (.agg #[a, b]) 0).run Tryz.prog W = .ok a W := by kernel_rfl
theorem Bd {B : Nat} {a w : World} (h : Below B a w) : Below B a w.drew := Bdn h 1

theorem faultOf_agg (er : Er) : faultOf er = .agg #[.int .i64 (er.code : Int), .int .i64 er.place] := rfl
set_option maxHeartbeats 16000000 in
set_option maxRecDepth 20000 in
theorem listTells_any (E : Nat → Addr) (B : Nat) (v : Value) (l : List Fl) (f : Fl) (s : Str) (lo hi : Int) (w : World) (hE : Errs allE E B w) (hA : AsVar w) (hgB : 12 < B) (hT : LNum B w) (hM : LMax B w) (hl : FilesAt w v l) (hsl : (s.length : Int) ≤ 9223372036854775807) :
    Calls Tryz.prog 5 #[v, fileV f, S s, .int .i64 lo, .int .i64 hi] w fun e w' => e = .returned (.bool true) ∧ Below w.heap.size w w' := by
  have hBw := hE.le
  have hif := isIfaceE
  obtain ⟨a, c, b, o, rfl, ha, hc, hcm, hx⟩ := hl
  have hl : FilesAt w (.slice a l.length c) l := ⟨a, c, b, o, rfl, ha, hc, hcm, hx⟩
  unfold maxLen at hcm
  have hb0 : Below w.heap.size w (w.alloc (.cells #[S f.path, S f.part, .int .i64 f.n, .int .i64 f.lo, .int .i64 f.hi, .int .i64 f.seq] 50)) := (Below.refl _ _).alloc (Nat.le_refl _) _
  have CF := Lib.hid (fun w6 (h : Below (w.alloc (.cells #[S f.path, S f.part, .int .i64 f.n, .int .i64 f.lo, .int .i64 f.hi, .int .i64 f.seq] 50)).heap.size (w.alloc (.cells #[S f.path, S f.part, .int .i64 f.n, .int .i64 f.lo, .int .i64 f.hi, .int .i64 f.seq] 50)) w6) => fileCells (f := f) rfl h)
  go_enter Tryz.func5, Tryz.ntmps5
  go_wp2_with fail
  generalize w.alloc (.cells #[S f.path, S f.part, .int .i64 f.n, .int .i64 f.lo, .int .i64 f.hi, .int .i64 f.seq] 50) = w0 at *
  have X := Lib.hid (fun w6 (h : Below w0.heap.size w0 w6) => (⟨hE.below' (hb0.trans (h.mono hb0.size)) hBw, hT.below' (hb0.trans (h.mono hb0.size)) hBw, hM.below' (hb0.trans (h.mono hb0.size)) hBw, hl.below (hb0.trans (h.mono hb0.size)), hb0.trans (h.mono hb0.size)⟩ : Errs allE E B w6 ∧ LNum B w6 ∧ LMax B w6 ∧ FilesAt w6 (.slice a l.length c) l ∧ Below w.heap.size w w6))
  obtain ⟨x1, x2, x3, x4, x5⟩ := X.out w0 (Below.refl _ _)
  refine (listed_any E B w0 (x1.sub (by decide)) x2 x3).mono ?_
  rintro e w1 ⟨rfl, hb1⟩
  clear x1 x2 x3 x4 x5
  obtain ⟨x1, x2, x3, x4, x5⟩ := X.out w1 hb1
  have hlong := longFiles_any _ l w1 x4
  have HLong := Lib.hid hlong; clear hlong
  go_wp2_with fail
  refine HLong.out.mono ?_
  rintro e w2 ⟨he, hb2⟩
  have hb2' := hb1.trans (hb2.mono hb1.size)
  clear x1 x2 x3 x4 x5
  obtain ⟨x1, x2, x3, x4, x5⟩ := X.out w2 hb2'
  obtain ⟨c0, c1, c2, c3, c4, c5⟩ := CF.out _ hb2'
  rcases he with rfl | ⟨rfl, hlen, hsh⟩
  · go_wp2_with fail
    go_ret
    exact ⟨rfl, x5⟩
  have hLF := longFile_any f w2
  have HLF := Lib.hid hLF; clear hLF
  go_wp2_with fail
  refine HLF.out.mono ?_
  rintro e w3 ⟨rfl, hb3⟩
  have hb3' := hb2'.trans (hb3.mono hb2'.size)
  clear x1 x2 x3 x4 x5 c0 c1 c2 c3 c4 c5 HLong HLF
  obtain ⟨x1, x2, x3, x4, x5⟩ := X.out w3 hb3'
  by_cases hsf : shortF f
  case neg =>
    rw [if_neg hsf]
    clear hsf
    go_wp2_with fail
    go_ret
    exact ⟨rfl, x5⟩
  rw [if_pos hsf]
  have hmf := hsf.mid
  clear hsf
  have hsm := fun g hg => (hsh g hg).mid
  have HS := Lib.hid hsm; clear hsh hsm
  have HMF := Lib.hid hmf; clear hmf
  by_cases hs2 : s.length ≤ 2000
  case neg =>
    have g1 : (2000 : Int) < (s.length : Int) := by omega
    clear hs2
    go_wp2_with fail
    go_ret
    exact ⟨rfl, x5⟩
  have g1 : decide ((2000 : Int) < (s.length : Int)) = false := by simp; omega
  have HLn := Lib.hid hlen; clear hlen
  go_wp2_with fail
  refine (ownFiles_any _ l _ x4 (by have := HLn.out; omega)).mono ?_
  rintro e w4 ⟨v4, rfl, hown, hb4⟩
  have hb4' := hb3'.trans (hb4.mono hb3'.size)
  have ho4 := hown.at encF_enc
  clear hown x1 x2 x3 x4 x5
  obtain ⟨x1, x2, x3, x4, x5⟩ := X.out w4 hb4'
  have hYc := fun (W : World) (h : Below w4.heap.size w4 W) => CF.out W (hb4'.trans (h.mono hb4'.size))
  have hYx := fun (W : World) (h : Below w4.heap.size w4 W) => X.out W (hb4'.trans (h.mono hb4'.size))
  have hYo := fun (W : World) (h : Below w4.heap.size w4 W) => ho4.below h
  have hYa := fun (W : World) (h : Below w4.heap.size w4 W) => hA.below (hYx W h).2.2.2.2 (by have := hE.le; omega)
  have Yc := Lib.hid hYc; have Yx := Lib.hid hYx; have O := Lib.hid hYo; have Ya := Lib.hid hYa
  clear hYc hYx hYo hYa ho4 hb4 hb4' x1 x2 x3 x4 x5 g1 X CF
  go_wp2_with fail
  refine (listFault_any _ l _ (Yx.out _ (Below.refl _ _)).2.2.2.1 HS.out).mono ?_
  rintro e w5 ⟨rfl, hb5⟩
  rw [faultOf_agg]
  obtain ⟨cc, hcc⟩ : ∃ cc : Int, ((listCheck l).code : Int) = cc := ⟨_, rfl⟩
  obtain ⟨pp, hpp⟩ : ∃ pp : Int, (listCheck l).place = pp := ⟨_, rfl⟩
  rw [hcc, hpp]
  have hdis : Hid ((listCheck l = .nil ∧ cc = 0) ∨ (listCheck l ≠ .nil ∧ 0 < cc ∧ listTextR l = [])) := Lib.hid (by
    by_cases hc : listCheck l = .nil
    · exact .inl ⟨hc, by rw [← hcc, hc]; rfl⟩
    · exact .inr ⟨hc, by rw [← hcc]; have := listCheck_code hc; omega, if_neg hc⟩)
  have Hcc := Lib.hid hcc; have Hpp := Lib.hid hpp
  clear hcc hpp
  go_wp2_with fail
  obtain ⟨G, hG⟩ : ∃ G, w5.heap.size = G := ⟨_, rfl⟩
  have hgG := heap_alloc_new w5 (.cells #[.int .i64 cc, .int .i64 pp] 59)
  have hb6 := hb5.alloc hb5.size (.cells #[.int .i64 cc, .int .i64 pp] 59)
  have hwG : w4.heap.size ≤ G := by rw [← hG]; exact hb5.size
  rw [hG] at hgG ⊢
  generalize hW : w5.alloc (.cells #[.int .i64 cc, .int .i64 pp] 59) = w6 at hgG hb6 ⊢
  have HgG6 := Lib.hid hgG
  clear hW hgG hG hb5
  refine (listText_any E B _ l _ ((Yx.out _ hb6).1.sub (by decide)) (Yx.out _ hb6).2.1 (Yx.out _ hb6).2.2.1 (O.out _ hb6) HS.out).mono ?_
  rintro e w7 ⟨ev, rfl, hev, hb7⟩
  obtain ⟨tx, htx⟩ : ∃ tx, listTextR l = tx := ⟨_, rfl⟩
  rw [htx]
  have Htx := Lib.hid htx
  clear htx
  have hb7' := hb6.trans (hb7.mono hb6.size)
  have HgG7 := Lib.hid (keep hb7 HgG6.out)
  have Hev := Lib.hid hev
  clear hb7 hev HgG6 hb6
  go_upto_region 7 with fail
  go_cut [65] (fun c wx => c = .bool false ∧ Below w4.heap.size w4 wx ∧ wx.heap[G]? = some (.cells #[.int .i64 cc, .int .i64 pp] 59 (0, 0)))
  case first =>
    have c0 := two0 HgG7.out
    have c1 := two1 HgG7.out
    have hbd := Bd hb7'
    have hd2 : decide ((0 : Int) < cc) = false ∨ (decide ((0 : Int) < cc) = true ∧ listTextR l = []) := by
      rcases hdis.out with ⟨_, h⟩ | ⟨_, h, h'⟩
      · exact .inl (by rw [h]; rfl)
      · exact .inr ⟨by simpa using h, h'⟩
    rcases hd2 with gA | ⟨gA, hsp⟩
    · first
      | go_region_with (first
          | (go_at_call 34; (with_reducible refine (listCheck_any E B _ l _ ((Yx.out _ hbd).1.sub (by decide)) (Yx.out _ hbd).2.1 (Yx.out _ hbd).2.2.1 (O.out _ hbd) HS.out).mono ?_); rintro e w8 ⟨ev8, rfl, hev8, hb8⟩; have hb8' := hbd.trans (hb8.mono hbd.size); have HgG8 := Lib.hid (keep hb8 HgG7.out); have Hx8 := Lib.hid hev8; have Hev8 := Lib.hid (ErV.below (w := w7.drew) Hev.out hb8); clear c0 c1; have c0 := two0 HgG8.out; have c1 := two1 HgG8.out; clear hb8 hev8 hbd Hev HgG7)
          | (go_at_call 33; have _t := Hx8; refine (told_any E B (listCheck l) _ _ _ _ (Yx.out _ hb8').1 (Ya.out _ hb8') hgB Hx8.out Hcc.out Hpp.out).mono ?_; rintro e w9 ⟨rfl, hb9⟩; have hb9' := hb8'.trans (hb9.mono hb8'.size); have HgG9 := Lib.hid (keep hb9 HgG8.out); have Hev9 := Lib.hid (Hev8.out.below hb9); clear c0 c1; have c0 := two0 HgG9.out; have c1 := two1 HgG9.out; clear _t hb9 Hx8 hb8' Hev8 HgG8)
          | (go_at_call 33; have _t := Hev9; refine (told_any E B (listCheck l) _ _ _ _ (Yx.out _ hb9').1 (Ya.out _ hb9') hgB Hev9.out Hcc.out Hpp.out).mono ?_; rintro e w10 ⟨rfl, hb10⟩; have hb10' := hb9'.trans (hb10.mono hb9'.size); have HgG10 := Lib.hid (keep hb10 HgG9.out); clear c0 c1; have c0 := two0 HgG10.out; have c1 := two1 HgG10.out; clear _t hb10 Hev9 hb9' HgG9))
      | fail
      all_goals
        go_wp2_with fail
        go_meet
        exact ⟨rfl, hb10', HgG10.out⟩
    · obtain rfl : tx = [] := by rw [← Htx.out, hsp]
      first
      | go_region_held3 (fun w' => w'.cell? ⟨G, 0, none⟩ = some (.int .i64 cc) ∧ w'.cell? ⟨G, 1, none⟩ = some (.int .i64 pp)) (exact ⟨c0, c1⟩) (first
          | (go_at_call 34; (with_reducible refine (listCheck_any E B _ l _ ((Yx.out _ hbd).1.sub (by decide)) (Yx.out _ hbd).2.1 (Yx.out _ hbd).2.2.1 (O.out _ hbd) HS.out).mono ?_); rintro e w8 ⟨ev8, rfl, hev8, hb8⟩; have hb8' := hbd.trans (hb8.mono hbd.size); have HgG8 := Lib.hid (keep hb8 HgG7.out); have Hx8 := Lib.hid hev8; have Hev8 := Lib.hid (ErV.below (w := w7.drew) Hev.out hb8); clear c0 c1; have c0 := two0 HgG8.out; have c1 := two1 HgG8.out; clear hb8 hev8 hbd Hev HgG7)
          | (go_at_call 33; have _t := Hx8; refine (told_any E B (listCheck l) _ _ _ _ (Yx.out _ hb8').1 (Ya.out _ hb8') hgB Hx8.out Hcc.out Hpp.out).mono ?_; rintro e w9 ⟨rfl, hb9⟩; have hb9' := hb8'.trans (hb9.mono hb8'.size); have HgG9 := Lib.hid (keep hb9 HgG8.out); have Hev9 := Lib.hid (Hev8.out.below hb9); clear c0 c1; have c0 := two0 HgG9.out; have c1 := two1 HgG9.out; clear _t hb9 Hx8 hb8' Hev8 HgG8)
          | (go_at_call 33; have _t := Hev9; refine (told_any E B (listCheck l) _ _ _ _ (Yx.out _ hb9').1 (Ya.out _ hb9') hgB Hev9.out Hcc.out Hpp.out).mono ?_; rintro e w10 ⟨rfl, hb10⟩; have hb10' := hb9'.trans (hb10.mono hb9'.size); have HgG10 := Lib.hid (keep hb10 HgG9.out); clear c0 c1; have c0 := two0 HgG10.out; have c1 := two1 HgG10.out; clear _t hb10 Hev9 hb9' HgG9))
      | fail
      all_goals
        go_wp2_with fail
        go_meet
        exact ⟨rfl, hb10', HgG10.out⟩
  case rest =>
    obtain ⟨rfl, hb9, hgG⟩ := hcut
    have HgG9 := Lib.hid hgG
    have c0 := two0 hgG
    clear hgG HgG7 Hev hb7'
    have hd3 : (tx = listText l ∧ cc = 0 ∧ Hid (RightL l)) ∨ (cc == 0) = false := by
      rcases hdis.out with ⟨hc, h⟩ | ⟨_, h, _⟩
      · exact .inl ⟨by rw [← Htx.out]; exact if_pos hc, h, Lib.hid ((right_iff l).1 hc)⟩
      · exact .inr (by simp; omega)
    clear hdis Htx
    rcases hd3 with ⟨rfl, rfl, HR⟩ | g0
    case' inl =>
      go_wp2_with fail
      refine (refListText_any _ l _ (Yx.out _ hb9).2.2.2.1 HR.out).mono ?_
      rintro e w10 ⟨rfl, hb10⟩
      have hb10' := hb9.trans (hb10.mono hb9.size)
      have HgG10 := Lib.hid (keep hb10 HgG9.out)
      clear hb10 HgG9 c0 hb9 HR Hcc Hpp
      generalize (0 : Int) = cc at HgG10
      generalize listText l = tx at *
    case' inr =>
      have hb10' := hb9
      have HgG10 := HgG9
      clear hb9 HgG9 Hcc Hpp
    all_goals
      go_wp2_with fail
      refine (listRead_any E B s _ ((Yx.out _ hb10').1.sub (by decide)) (Yx.out _ hb10').2.1 (Yx.out _ hb10').2.2.1 (by omega)).mono ?_
      rintro e w11 ⟨u11, ev11, rfl, hu11, hev11, hb11⟩
      have hb11' := hb10'.trans (hb11.mono hb10'.size)
      have HgG11 := Lib.hid (keep hb11 HgG10.out)
      have Hu11 := Lib.hid (hu11.at encF_enc)
      have Hev11 := Lib.hid hev11
      clear hb11 HgG10 hu11 hev11 hb10'
      go_wp2_with fail
      refine (refReadList_any s _ (by omega)).mono ?_
      rintro e w12 ⟨v12, rfl, hv12, hb12⟩
      rw [faultOf_agg]
      have hb12' := hb11'.trans (hb12.mono hb11'.size)
      have HgG12 := Lib.hid (keep hb12 HgG11.out)
      have Hu12 := Lib.hid (Hu11.out.below hb12)
      have Hev12 := Lib.hid (Hev11.out.below hb12)
      have Hv12 := Lib.hid hv12
      obtain ⟨kc12, hkc⟩ : ∃ kc : Int, ((listReadE s).code : Int) = kc := ⟨_, rfl⟩
      obtain ⟨kp12, hkp⟩ : ∃ kp : Int, (listReadE s).place = kp := ⟨_, rfl⟩
      rw [hkc, hkp]
      have Hkc := Lib.hid hkc; have Hkp := Lib.hid hkp
      clear hkc hkp hb12 hv12 HgG11 Hu11 Hev11 hb11'
      have d0 := two0 HgG12.out
      have d1 := two1 HgG12.out
      have e0 : w12.frozen? ⟨G, 0, none⟩ = false := unfr HgG12.out
      have e1 : w12.frozen? ⟨G, 1, none⟩ = false := unfr HgG12.out
      go_wp2_with fail
      have hs12 := (hb12'.setCell (p := ⟨G, 0, none⟩) hwG (.int .i64 kc12)).setCell (p := ⟨G, 1, none⟩) hwG (.int .i64 kp12)
      have hev := ErV.store2 Hev12.out HgG12.out (.int .i64 kc12) (.int .i64 kp12)
      have hu := FilesAt.away Hu12.out HgG12.out (.int .i64 kc12) (.int .i64 kp12)
      have hv := FilesAt.away Hv12.out HgG12.out (.int .i64 kc12) (.int .i64 kp12)
      have hg := set_two HgG12.out (.int .i64 kc12) (.int .i64 kp12)
      clear d0 d1 e0 e1
      generalize ((w12.setCell ⟨G, 0, none⟩ (.int .i64 kc12)).setCell ⟨G, 1, none⟩ (.int .i64 kp12)) = w12s at *
      have HgS := Lib.hid hg
      clear HgG12 Hu12 Hv12 Hev12 hg
      refine (told_any E B (listReadE s) _ _ _ _ (Yx.out _ hs12).1 (Ya.out _ hs12) hgB hev Hkc.out Hkp.out).mono ?_
      rintro e w12t ⟨rfl, hbt⟩
      have hbt' := hs12.trans (hbt.mono hs12.size)
      have HgT := Lib.hid (keep hbt HgS.out)
      have hsm := sameFiles_any _ _ (listReadL s) (listReadL s) _ (hu.below hbt) (hv.below hbt)
      rw [decide_eq_true rfl] at hsm
      have HSm := Lib.hid hsm
      clear hsm hev hu hv hbt HgS Hkc Hkp hs12
      go_wp2_with fail
      refine HSm.out.mono ?_
      rintro e w12u ⟨rfl, hbu⟩
      have hb12u := hbt'.trans (hbu.mono hbt'.size)
      have HgG12u := Lib.hid (keep hbu HgT.out)
      clear hbu hbt' HgT HSm
      obtain ⟨c0, c1, c2, c3, c4, c5⟩ := Yc.out _ hb12u
      go_wp2_with fail
      refine (listAdd_any E B _ l f _ ((Yx.out _ hb12u).1.sub (by decide)) (Yx.out _ hb12u).2.1 (Yx.out _ hb12u).2.2.1 (O.out _ hb12u) HS.out HMF.out (by have := HLn.out; omega)).mono ?_
      rintro e w13 ⟨u13, ev13, rfl, hu13, hev13, hb13⟩
      have hb13' := hb12u.trans (hb13.mono hb12u.size)
      have HgG13 := Lib.hid (keep hb13 HgG12u.out)
      have Hu13 := Lib.hid hu13
      have Hev13 := Lib.hid hev13
      clear hb13 HgG12u hu13 hev13 c0 c1 c2 c3 c4 c5 hb12u
      obtain ⟨c0, c1, c2, c3, c4, c5⟩ := Yc.out _ hb13'
      go_wp2_with fail
      clear c0 c1 c2 c3 c4 c5
      refine (refAddOf_any _ l f _ (Yx.out _ hb13').2.2.2.1 HS.out HMF.out (by have := HLn.out; omega)).mono ?_
      rintro e w14 ⟨v14, rfl, hv14, hb14⟩
      rw [faultOf_agg]
      have hb14' := hb13'.trans (hb14.mono hb13'.size)
      have HgG14 := Lib.hid (keep hb14 HgG13.out)
      have Hu14 := Lib.hid (Hu13.out.below hb14)
      have Hev14 := Lib.hid (Hev13.out.below hb14)
      have Hv14 := Lib.hid hv14
      obtain ⟨kc14, hkc⟩ : ∃ kc : Int, ((addE l f).code : Int) = kc := ⟨_, rfl⟩
      obtain ⟨kp14, hkp⟩ : ∃ kp : Int, (addE l f).place = kp := ⟨_, rfl⟩
      rw [hkc, hkp]
      have Hkc := Lib.hid hkc; have Hkp := Lib.hid hkp
      clear hkc hkp hb14 hv14 HgG13 Hu13 Hev13 hb13'
      have d0 := two0 HgG14.out
      have d1 := two1 HgG14.out
      have e0 : w14.frozen? ⟨G, 0, none⟩ = false := unfr HgG14.out
      have e1 : w14.frozen? ⟨G, 1, none⟩ = false := unfr HgG14.out
      go_wp2_with fail
      have hs14 := (hb14'.setCell (p := ⟨G, 0, none⟩) hwG (.int .i64 kc14)).setCell (p := ⟨G, 1, none⟩) hwG (.int .i64 kp14)
      have hev := ErV.store2 Hev14.out HgG14.out (.int .i64 kc14) (.int .i64 kp14)
      have hu := FilesAt.away Hu14.out HgG14.out (.int .i64 kc14) (.int .i64 kp14)
      have hv := FilesAt.away Hv14.out HgG14.out (.int .i64 kc14) (.int .i64 kp14)
      have hg := set_two HgG14.out (.int .i64 kc14) (.int .i64 kp14)
      clear d0 d1 e0 e1
      generalize ((w14.setCell ⟨G, 0, none⟩ (.int .i64 kc14)).setCell ⟨G, 1, none⟩ (.int .i64 kp14)) = w14s at *
      have HgS := Lib.hid hg
      clear HgG14 Hu14 Hv14 Hev14 hg
      refine (told_any E B (addE l f) _ _ _ _ (Yx.out _ hs14).1 (Ya.out _ hs14) hgB hev Hkc.out Hkp.out).mono ?_
      rintro e w14t ⟨rfl, hbt⟩
      have hbt' := hs14.trans (hbt.mono hs14.size)
      have HgT := Lib.hid (keep hbt HgS.out)
      have hsm := sameFiles_any _ _ (addL l f) (addL l f) _ (hu.below hbt) (hv.below hbt)
      rw [decide_eq_true rfl] at hsm
      have HSm := Lib.hid hsm
      clear hsm hev hu hv hbt HgS Hkc Hkp hs14
      go_wp2_with fail
      refine HSm.out.mono ?_
      rintro e w14u ⟨rfl, hbu⟩
      have hb14u := hbt'.trans (hbu.mono hbt'.size)
      have HgG14u := Lib.hid (keep hbu HgT.out)
      clear hbu hbt' HgT HSm
      obtain ⟨c0, c1, c2, c3, c4, c5⟩ := Yc.out _ hb14u
      go_wp2_with fail
      refine (listRemove_any E B _ l f.path _ ((Yx.out _ hb14u).1.sub (by decide)) (Yx.out _ hb14u).2.1 (Yx.out _ hb14u).2.2.1 (O.out _ hb14u) HS.out).mono ?_
      rintro e w15 ⟨u15, ev15, rfl, hu15, hev15, hb15⟩
      have hb15' := hb14u.trans (hb15.mono hb14u.size)
      have HgG15 := Lib.hid (keep hb15 HgG14u.out)
      have Hu15 := Lib.hid hu15
      have Hev15 := Lib.hid hev15
      clear hb15 HgG14u hu15 hev15 c0 c1 c2 c3 c4 c5 hb14u
      obtain ⟨c0, c1, c2, c3, c4, c5⟩ := Yc.out _ hb15'
      go_wp2_with fail
      clear c0 c1 c2 c3 c4 c5
      refine (refRemoveOf_any _ l f.path _ (Yx.out _ hb15').2.2.2.1 HS.out (by have := HLn.out; omega)).mono ?_
      rintro e w16 ⟨v16, rfl, hv16, hb16⟩
      rw [faultOf_agg]
      have hb16' := hb15'.trans (hb16.mono hb15'.size)
      have HgG16 := Lib.hid (keep hb16 HgG15.out)
      have Hu16 := Lib.hid (Hu15.out.below hb16)
      have Hev16 := Lib.hid (Hev15.out.below hb16)
      have Hv16 := Lib.hid hv16
      obtain ⟨kc16, hkc⟩ : ∃ kc : Int, ((removeE l f.path).code : Int) = kc := ⟨_, rfl⟩
      obtain ⟨kp16, hkp⟩ : ∃ kp : Int, (removeE l f.path).place = kp := ⟨_, rfl⟩
      rw [hkc, hkp]
      have Hkc := Lib.hid hkc; have Hkp := Lib.hid hkp
      clear hkc hkp hb16 hv16 HgG15 Hu15 Hev15 hb15'
      have d0 := two0 HgG16.out
      have d1 := two1 HgG16.out
      have e0 : w16.frozen? ⟨G, 0, none⟩ = false := unfr HgG16.out
      have e1 : w16.frozen? ⟨G, 1, none⟩ = false := unfr HgG16.out
      go_wp2_with fail
      have hs16 := (hb16'.setCell (p := ⟨G, 0, none⟩) hwG (.int .i64 kc16)).setCell (p := ⟨G, 1, none⟩) hwG (.int .i64 kp16)
      have hev := ErV.store2 Hev16.out HgG16.out (.int .i64 kc16) (.int .i64 kp16)
      have hu := FilesAt.away Hu16.out HgG16.out (.int .i64 kc16) (.int .i64 kp16)
      have hv := FilesAt.away Hv16.out HgG16.out (.int .i64 kc16) (.int .i64 kp16)
      have hg := set_two HgG16.out (.int .i64 kc16) (.int .i64 kp16)
      clear d0 d1 e0 e1
      generalize ((w16.setCell ⟨G, 0, none⟩ (.int .i64 kc16)).setCell ⟨G, 1, none⟩ (.int .i64 kp16)) = w16s at *
      have HgS := Lib.hid hg
      clear HgG16 Hu16 Hv16 Hev16 hg
      refine (told_any E B (removeE l f.path) _ _ _ _ (Yx.out _ hs16).1 (Ya.out _ hs16) hgB hev Hkc.out Hkp.out).mono ?_
      rintro e w16t ⟨rfl, hbt⟩
      have hbt' := hs16.trans (hbt.mono hs16.size)
      have HgT := Lib.hid (keep hbt HgS.out)
      have hsm := sameFiles_any _ _ (removeL l f.path) (removeL l f.path) _ (hu.below hbt) (hv.below hbt)
      rw [decide_eq_true rfl] at hsm
      have HSm := Lib.hid hsm
      clear hsm hev hu hv hbt HgS Hkc Hkp hs16
      go_wp2_with fail
      refine HSm.out.mono ?_
      rintro e w16u ⟨rfl, hbu⟩
      have hb16u := hbt'.trans (hbu.mono hbt'.size)
      have HgG16u := Lib.hid (keep hbu HgT.out)
      clear hbu hbt' HgT HSm
      have hbd := Bd hb16u
      have c0 := (Yc.out _ hb16u).1
      clear HgG16u
      go_wp2_with fail
      go_region_held3 (fun w' => w'.cell? ⟨w.heap.size, 0, none⟩ = some (S f.path)) (exact c0) (first
        | (go_at_call 43; (with_reducible refine (listFind_any _ l f.path _ (O.out _ hbd)).mono ?_); rintro e w17 ⟨rfl, hb17⟩; have hb17' := hbd.trans (hb17.mono hbd.size); clear c0; have c0 := (Yc.out _ hb17').1; clear hb17 hbd)
        | (go_at_call 44; (with_reducible refine (findOf_any _ l f.path _ (Yx.out _ hb17').2.2.2.1).mono ?_); rintro e w18 ⟨rfl, rfl⟩)
        | (go_at_call 45; (with_reducible refine (listPrune_any _ l lo hi _ (O.out _ hb17') (by have := HLn.out; omega)).mono ?_); rintro e w19 ⟨v19, rfl, hv19, hb19⟩; have hb19' := hb17'.trans (hb19.mono hb17'.size); clear c0; have c0 := (Yc.out _ hb19').1; clear hb19)
        | (go_at_call 46; (with_reducible refine (pruneOf_any _ l lo hi _ (Yx.out _ hb19').2.2.2.1 (by have := HLn.out; omega)).mono ?_); rintro e w20 ⟨v20, rfl, hv20, hb20⟩; have hb20' := hb19'.trans (hb20.mono hb19'.size); have hv19 := hv19.below hb20; clear c0; have c0 := (Yc.out _ hb20').1; clear hb20)
        | (go_at_call 38; have hsm := sameFiles_any _ _ (pruneL l lo hi) (pruneL l lo hi) _ hv19 hv20; rw [decide_eq_true rfl] at hsm; refine hsm.mono ?_; rintro e w21 ⟨rfl, hb21⟩; have hb21' := hb20'.trans (hb21.mono hb20'.size); clear c0; have c0 := (Yc.out _ hb21').1; clear hb21 hsm hv20)
        | (go_at_call 38; have hsm := sameFiles_any _ _ l l _ (O.out _ hb21') (Yx.out _ hb21').2.2.2.1; rw [decide_eq_true rfl] at hsm; refine hsm.mono ?_; rintro e w22 ⟨rfl, hb22⟩; have hb22' := hb21'.trans (hb22.mono hb21'.size); clear c0; have c0 := (Yc.out _ hb22').1; clear hb22 hsm))
      all_goals
        go_wp2_with fail
        go_ret
        exact ⟨rfl, (Yx.out _ hb22').2.2.2.2⟩
end Go.Proofs.YtikboodjfanjkaaGreatDoor
namespace Go.Proofs.YtikboodjfanjkaaGreatDoor
open Go.RowKit Go.ChangeShapes Go.WideShapes

def errName : Nat → String
  | 1 => "deedbox/api.ErrText" | 2 => "deedbox/api.ErrBound" | 3 => "deedbox/api.ErrShape" | 4 => "deedbox/api.ErrKind" | 5 => "deedbox/api.ErrName" | 6 => "deedbox/api.ErrNone"
  | 7 => "deedbox/api.ErrExist" | 8 => "deedbox/api.ErrFull" | 9 => "deedbox/api.ErrOrder" | 10 => "deedbox/api.ErrSum" | 11 => "deedbox/api.ErrStale" | _ => "deedbox/api.ErrOff"
theorem errName_inj : ∀ c ∈ allE, ∀ d ∈ allE, errName c = errName d → c = d := by decide

theorem laidVars_get {P : Program} {w : World} : ∀ {L : List (String × DataW Unit)} {ps : List MemPlace} {i : Nat} {n : String} {d : DataW Unit}, DataW.LaidVars P w L ps → L[i]? = some (n, d) →
    ∃ g t cs fuel p, P.globalNamed n = some g ∧ (P.globals[g]?).map (·.type) = some t ∧ w.var? P n = some cs ∧ DataW.trod (fun _ => ()) P w 0 (fun _ => true) false fuel t cs.toList = some (d, p) ∧ ∀ x ∈ MemPlace.row ⟨g, 0, none⟩ cs.size ++ p, x ∈ ps
  | [], _, i, n, d, _, hi => by simp at hi
  | (n0, d0) :: r, ps, 0, n, d, h, hi => by
    obtain ⟨g, t, cs, fuel, p, q, h1, h2, h3, h4, _, rfl⟩ := h
    simp only [List.getElem?_cons_zero, Option.some.injEq, Prod.mk.injEq] at hi
    obtain ⟨rfl, rfl⟩ := hi
    exact ⟨g, t, cs, fuel, p, h1, h2, h3, h4, fun x hx => List.mem_append_left _ hx⟩
  | (n0, d0) :: r, ps, i + 1, n, d, h, hi => by
    obtain ⟨g, t, cs, fuel, p, q, _, _, _, _, h5, rfl⟩ := h
    obtain ⟨g', t', cs', fuel', p', h1, h2, h3, h4, h6⟩ := laidVars_get h5 (by simpa using hi)
    exact ⟨g', t', cs', fuel', p', h1, h2, h3, h4, fun x hx => List.mem_append_right _ (h6 x hx)⟩

theorem laidVars_apart {P : Program} {w : World} : ∀ {L : List (String × DataW Unit)} {ps : List MemPlace} {i j : Nat} {n m : String} {d e : DataW Unit}, DataW.LaidVars P w L ps → ps.Nodup → i < j → L[i]? = some (n, d) → L[j]? = some (m, e) →
    ∃ (g : Nat) (t : TypeId) (cs : Array Value) (fuel : Nat) (p : List MemPlace) (g' : Nat) (t' : TypeId) (cs' : Array Value) (fuel' : Nat) (p' : List MemPlace), P.globalNamed n = some g ∧ (P.globals[g]?).map (·.type) = some t ∧ w.var? P n = some cs ∧ DataW.trod (fun _ => ()) P w 0 (fun _ => true) false fuel t cs.toList = some (d, p) ∧
      P.globalNamed m = some g' ∧ (P.globals[g']?).map (·.type) = some t' ∧ w.var? P m = some cs' ∧ DataW.trod (fun _ => ()) P w 0 (fun _ => true) false fuel' t' cs'.toList = some (e, p') ∧ ∀ x ∈ p, x ∉ p'
  | [], _, i, j, n, m, d, e, _, _, _, hi, _ => by simp at hi
  | (n0, d0) :: r, ps, 0, j + 1, n, m, d, e, h, hnd, _, hi, hj => by
    obtain ⟨g, t, cs, fuel, p, q, h1, h2, h3, h4, h5, rfl⟩ := h
    simp only [List.getElem?_cons_zero, Option.some.injEq, Prod.mk.injEq] at hi
    obtain ⟨rfl, rfl⟩ := hi
    obtain ⟨g', t', cs', fuel', p', h1', h2', h3', h4', h6⟩ := laidVars_get h5 (by simpa using hj)
    refine ⟨g, t, cs, fuel, p, g', t', cs', fuel', p', h1, h2, h3, h4, h1', h2', h3', h4', fun x hx hx' => ?_⟩
    have hd := (List.nodup_append.1 hnd).2.2
    exact hd x (List.mem_append_right _ hx) x (h6 x (List.mem_append_right _ hx')) rfl
  | (n0, d0) :: r, ps, i + 1, j + 1, n, m, d, e, h, hnd, hij, hi, hj => by
    obtain ⟨g, t, cs, fuel, p, q, _, _, _, _, h5, rfl⟩ := h
    exact laidVars_apart (i := i) (j := j) h5 (List.nodup_append.1 hnd).2.1 (by omega) (by simpa using hi) (by simpa using hj)
  | _ :: _, _, _, 0, _, _, _, _, _, _, hij, _, _ => by omega

/-- Behind what address a variable's error lies. -/
noncomputable def addrOf (W : World) (c : Nat) : Addr :=
  match W.var? Tryz.prog (errName c) with
  | some #[.iface _ (.pointer (some a))] => a
  | _ => ⟨0, 0, none⟩

theorem gn1 : Tryz.prog.globalNamed (errName 1) = some (errG 1) := by kernel_rfl
theorem gn2 : Tryz.prog.globalNamed (errName 2) = some (errG 2) := by kernel_rfl
theorem gn3 : Tryz.prog.globalNamed (errName 3) = some (errG 3) := by kernel_rfl
theorem gn4 : Tryz.prog.globalNamed (errName 4) = some (errG 4) := by kernel_rfl
theorem gn5 : Tryz.prog.globalNamed (errName 5) = some (errG 5) := by kernel_rfl
theorem gn6 : Tryz.prog.globalNamed (errName 6) = some (errG 6) := by kernel_rfl
theorem gn7 : Tryz.prog.globalNamed (errName 7) = some (errG 7) := by kernel_rfl
theorem gn8 : Tryz.prog.globalNamed (errName 8) = some (errG 8) := by kernel_rfl
theorem gn9 : Tryz.prog.globalNamed (errName 9) = some (errG 9) := by kernel_rfl
theorem gn10 : Tryz.prog.globalNamed (errName 10) = some (errG 10) := by kernel_rfl
theorem gn11 : Tryz.prog.globalNamed (errName 11) = some (errG 11) := by kernel_rfl
theorem gn12 : Tryz.prog.globalNamed (errName 12) = some (errG 12) := by kernel_rfl
theorem gt1 : (Tryz.prog.globals[errG 1]?).map (·.type) = some 62 := by kernel_rfl
theorem gt2 : (Tryz.prog.globals[errG 2]?).map (·.type) = some 62 := by kernel_rfl
theorem gt3 : (Tryz.prog.globals[errG 3]?).map (·.type) = some 62 := by kernel_rfl
theorem gt4 : (Tryz.prog.globals[errG 4]?).map (·.type) = some 62 := by kernel_rfl
theorem gt5 : (Tryz.prog.globals[errG 5]?).map (·.type) = some 62 := by kernel_rfl
theorem gt6 : (Tryz.prog.globals[errG 6]?).map (·.type) = some 62 := by kernel_rfl
theorem gt7 : (Tryz.prog.globals[errG 7]?).map (·.type) = some 62 := by kernel_rfl
theorem gt8 : (Tryz.prog.globals[errG 8]?).map (·.type) = some 62 := by kernel_rfl
theorem gt9 : (Tryz.prog.globals[errG 9]?).map (·.type) = some 62 := by kernel_rfl
theorem gt10 : (Tryz.prog.globals[errG 10]?).map (·.type) = some 62 := by kernel_rfl
theorem gt11 : (Tryz.prog.globals[errG 11]?).map (·.type) = some 62 := by kernel_rfl
theorem gt12 : (Tryz.prog.globals[errG 12]?).map (·.type) = some 62 := by kernel_rfl
theorem starE : "*" ++ "errors.errorString" = "*errors.errorString" := by decide
theorem rowE (u : TypeId) (h : Tryz.prog.typeName? 3 u = some "*errors.errorString") : u = 294 :=
  typeName_ptr_named (nm := "errors.errorString") (by rw [starE]; kernel_rfl) (by kernel_rfl) (by decide) u (by rw [starE]; exact h)
theorem cellsErrStr : Tryz.prog.cellsOf 296 = 1 := by kernel_rfl
theorem cellsStr : Tryz.prog.cellsOf 9 = 1 := by kernel_rfl

set_option maxRecDepth 100000 in
/-- WHAT THE CONDITION GIVES THE WALKS: the sentinels of the numbers D, where the list L bears each at the place idx says. -/
theorem errs_of_laid {L : List (String × DataW Unit)} {W : World} (h : laidMet Tryz.prog L W) (D : List Nat) (idx : Nat → Nat) (hD : ∀ c ∈ D, c ∈ allE)
    (hg : ∀ c ∈ D, Tryz.prog.globalNamed (errName c) = some (errG c)) (ht : ∀ c ∈ D, (Tryz.prog.globals[errG c]?).map (·.type) = some 62)
    (hL : ∀ c ∈ D, ∃ text, L[idx c]? = some (errName c, .iface "*errors.errorString" (.ptr (.agg [.lit (.string text)])))) :
    Errs D (addrOf W) W.heap.size W := by
  obtain ⟨ps, hv, hnd, hrows⟩ := h
  have key : ∀ c ∈ D, ∀ {g t cs fuel p text}, Tryz.prog.globalNamed (errName c) = some g → (Tryz.prog.globals[g]?).map (·.type) = some t → W.var? Tryz.prog (errName c) = some cs →
      DataW.trod (fun _ => ()) Tryz.prog W 0 (fun _ => true) false fuel t cs.toList = some (.iface "*errors.errorString" (.ptr (.agg [.lit (.string text)])), p) → (∀ x ∈ MemPlace.row ⟨g, 0, none⟩ cs.size, x ∈ ps) →
      W.cell? ⟨errG c, 0, none⟩ = some (.iface 294 (.pointer (some (addrOf W c)))) ∧ (∃ s, W.cell? (addrOf W c) = some (.string s)) ∧ p = MemPlace.row (addrOf W c) 1 := by
    intro c hc g t cs fuel p text h1 h2 h3 h4 h5
    obtain rfl := Option.some.inj ((hg c hc).symm.trans h1)
    obtain rfl := Option.some.inj ((ht c hc).symm.trans h2)
    obtain ⟨l0⟩ := cs
    have ok0 : ∀ u v, l0 = [.iface u v] → Value.okWide Tryz.prog W .any 0 u v := fun u v e => by
      subst e
      exact (hrows (errG c) 0 (h5 _ (by simp [MemPlace.row]))).2 u v (by simpa using World.var?_cell h1 h3 0)
    obtain ⟨a0, s0, rfl, hc0, hs0, hz0, rfl⟩ := errorString_of_trod Tryz.underlying62 rowE Tryz.underlying294 Tryz.underlying296 rfl rfl Tryz.underlying9 cellsErrStr cellsStr h4 ok0
    have ea : addrOf W c = a0 := by
      unfold addrOf
      rw [h3]
      exact rfl
    refine ⟨?_, ⟨s0, by rw [ea]; exact hc0⟩, by rw [ea]⟩
    rw [ea]
    simpa using World.var?_cell h1 h3 0
  have get : ∀ c ∈ D, W.cell? ⟨errG c, 0, none⟩ = some (.iface 294 (.pointer (some (addrOf W c)))) ∧ (∃ s, W.cell? (addrOf W c) = some (.string s)) ∧ MemPlace.cell (addrOf W c).block (addrOf W c).off ∈ ps := by
    intro c hc
    obtain ⟨text, hl⟩ := hL c hc
    obtain ⟨g, t, cs, fuel, p, h1, h2, h3, h4, h5⟩ := laidVars_get hv hl
    obtain ⟨k1, k2, rfl⟩ := key c hc h1 h2 h3 h4 (fun x hx => h5 x (List.mem_append_left _ hx))
    exact ⟨k1, k2, h5 _ (List.mem_append_right _ (by simp [MemPlace.row]))⟩
  have apart : ∀ c ∈ D, ∀ d ∈ D, idx c < idx d → addrOf W c ≠ addrOf W d := by
    intro c hc d hd hlt he
    obtain ⟨t1, hl1⟩ := hL c hc
    obtain ⟨t2, hl2⟩ := hL d hd
    obtain ⟨g, t, cs, fuel, p, g', t', cs', fuel', p', a1, a2, a3, a4, b1, b2, b3, b4, hap⟩ := laidVars_apart hv hnd hlt hl1 hl2
    obtain ⟨g0, t0, cs0, f0, p0, u1, u2, u3, u4, u5⟩ := laidVars_get hv hl1
    obtain ⟨g0', t0', cs0', f0', p0', v1, v2, v3, v4, v5⟩ := laidVars_get hv hl2
    obtain rfl := Option.some.inj (a1.symm.trans u1)
    obtain rfl := Option.some.inj (a3.symm.trans u3)
    obtain rfl := Option.some.inj (b1.symm.trans v1)
    obtain rfl := Option.some.inj (b3.symm.trans v3)
    obtain ⟨_, _, rfl⟩ := key c hc a1 a2 a3 a4 (fun x hx => u5 x (List.mem_append_left _ hx))
    obtain ⟨_, _, rfl⟩ := key d hd b1 b2 b3 b4 (fun x hx => v5 x (List.mem_append_left _ hx))
    rw [he] at hap
    exact hap (.cell (addrOf W d).block (addrOf W d).off) (by simp [MemPlace.row]) (by simp [MemPlace.row])
  refine ⟨fun c hc => (get c hc).1, fun c hc => (hrows _ _ (get c hc).2.2).1, fun c hc => ?_, fun c hc d hd he => ?_, Nat.le_refl _⟩
  · obtain ⟨k1, ⟨s, k2⟩, _⟩ := get c hc
    exact ⟨World.block_lt_of_cell? W _ k2, World.block_lt_of_cell? W ⟨errG c, 0, none⟩ k1⟩
  · rcases Nat.lt_trichotomy (idx c) (idx d) with h | h | h
    · exact absurd he (apart c hc d hd h)
    · obtain ⟨t1, hl1⟩ := hL c hc
      obtain ⟨t2, hl2⟩ := hL d hd
      rw [h, hl2] at hl1
      have : errName d = errName c := by simpa using congrArg (fun x => x.1) (Option.some.inj hl1)
      exact errName_inj c (hD c hc) d (hD d hd) this.symm
    · exact absurd he.symm (apart d hd c hc h)

theorem etG : Tryz.prog.globalNamed "errors.errorType" = some 12 := by kernel_rfl
theorem rtT : (Tryz.prog.cutTypes.find? (·.1 == "internal/reflectlite.rtype")).map (·.2) = some 246 := by kernel_rfl
theorem oneRowE : ((List.range 323).filter fun t => Tryz.prog.rowNamed t [101, 114, 114, 111, 114]) = [62] := by kernel_rfl
theorem typesSize : Tryz.prog.types.size = 323 := by kernel_rfl
theorem asVar_of_laid {L : List (String × DataW Unit)} {W : World} (h : handlesMet Tryz.prog L W) (hm : ("errors.errorType", .iface "internal/reflectlite.rtype" (.agg [.ptr (.lit (.string [101, 114, 114, 111, 114]))])) ∈ L) : AsVar W := by
  obtain ⟨name, u, ty, e1, e2, e3, e4, e5⟩ := h _ hm
  have en : name = [101, 114, 114, 111, 114] := (Option.some.inj e1).symm
  subst en
  obtain rfl := Option.some.inj (rtT.symm.trans e2)
  have hm : ty ∈ (List.range 323).filter fun t => Tryz.prog.rowNamed t [101, 114, 114, 111, 114] := List.mem_filter.2 ⟨List.mem_range.2 (by rw [← typesSize]; exact e3), e4⟩
  rw [oneRowE] at hm
  obtain rfl := List.mem_singleton.1 hm
  have hh : typeHandle Tryz.prog 62 = .pointer (some ⟨21, 62, none⟩) := by kernel_rfl
  rw [hh] at e5
  have := World.var?_cell etG e5 0
  unfold AsVar
  simpa using this
end Go.Proofs.YtikboodjfanjkaaGreatDoor
