/- deedboxref1.OfText: the walk. coded and faulted of the packages of statements. deedboxlaw1.faulted at the fault's own numbers. coded and faulted answer true at the error's own numbers. A file's cells, by its block. A witness's world that has both: all listed data laid by the function, and the handle that errors.As reads. -/
import Derived.Test.YtpiflhhppigdfaaGreatDoorBx16
import Derived.Test.YtpiflhhppigdfaaGreatDoorBx20
import Derived.Test.YtpiflhhppigdfaaGreatDoorBx17
import Derived.Test.YtpiflhhppigdfaaGreatDoorBx2
import Derived.Deep.RegionWith
import Derived.Test.YtpiflhhppigdfaaGreatDoorBx11
import Derived.Test.YtpiflhhppigdfaaGreatDoorBx15
import Derived.Test.YtpiflhhppigdfaaGreatDoorBx8
import Derived.Test.YtpiflhhppigdfaaGreatDoorBx7
import Derived.Test.YtpiflhhppigdfaaGreatDoorBx6
import Derived.Lay
import Derived.LaidMore
import Derived.LaidHandle
import Derived.ProofKit
namespace Go.Proofs.YtpiflhhppigdfaaGreatDoor
open Go.RowKit

def RofPost (p pt s : Str) (sq : Int) (w : World) (e : Ending) (w' : World) : Prop := e = .returned (.tuple #[fileV (ofText p pt s sq).1, .int .i64 ((ofText p pt s sq).2 : Nat)]) ∧ Below w.heap.size w w'
theorem rof_end {p pt s : Str} {sq : Int} {w W : World} {tmps : Array Value} {x : Fl} {c : Nat} (hp : tmps.getD 8 undef = .pointer (some ⟨w.heap.size, 0, none⟩)) (hv : tmps.getD 9 undef = .int .i64 (c : Nat)) (hr : ofText p pt s sq = (x, c))
    (hF : W.heap[w.heap.size]? = some (.cells #[S [], S [], .int .i64 0, .int .i64 0, .int .i64 0, .int .i64 0] 23 (0, 0))) (hb : Below w.heap.size w W) :
    bodyPost Tryz.prog Tryz.f25 (RofPost p pt s sq w) .ret ⟨tmps, []⟩ (six W w.heap.size 0 (S x.path) (S x.part) (.int .i64 x.n) (.int .i64 x.lo) (.int .i64 x.hi) (.int .i64 x.seq)) := by
  refine bodyPost_ret (ret_row rfl tmps _ w.heap.size 23 #[S x.path, S x.part, .int .i64 x.n, .int .i64 x.lo, .int .i64 x.hi, .int .i64 x.seq] (0, 0) _ hp (six_new hF _ _ _ _ _ _) Tryz.underlying23 rfl (by kernel_rfl)) rfl ⟨?_, six_below hb (Nat.le_refl _) _ _ _ _ _ _⟩
  rw [hr, hv]
theorem rof_zero {p pt s : Str} {sq : Int} {w W : World} {tmps : Array Value} {c : Nat} (hp : tmps.getD 8 undef = .pointer (some ⟨w.heap.size, 0, none⟩)) (hv : tmps.getD 9 undef = .int .i64 (c : Nat)) (hr : ofText p pt s sq = (zeroF, c))
    (hF : W.heap[w.heap.size]? = some (.cells #[S [], S [], .int .i64 0, .int .i64 0, .int .i64 0, .int .i64 0] 23 (0, 0))) (hb : Below w.heap.size w W) :
    bodyPost Tryz.prog Tryz.f25 (RofPost p pt s sq w) .ret ⟨tmps, []⟩ (six W w.heap.size 0 (.string ⟨#[]⟩) (.string ⟨#[]⟩) (.int .i64 0) (.int .i64 0) (.int .i64 0) (.int .i64 0)) := by
  refine bodyPost_ret (ret_row rfl tmps _ w.heap.size 23 #[.string ⟨#[]⟩, .string ⟨#[]⟩, .int .i64 0, .int .i64 0, .int .i64 0, .int .i64 0] (0, 0) _ hp (six_new hF _ _ _ _ _ _) Tryz.underlying23 rfl (by kernel_rfl)) rfl ⟨?_, six_below hb (Nat.le_refl _) _ _ _ _ _ _⟩
  rw [hr, hv]; rfl
theorem rof_zero_drew {p pt s : Str} {sq : Int} {w W : World} {tmps : Array Value} {c : Nat} (hp : tmps.getD 8 undef = .pointer (some ⟨w.heap.size, 0, none⟩)) (hv : tmps.getD 9 undef = .int .i64 (c : Nat)) (hr : ofText p pt s sq = (zeroF, c))
    (hF : W.heap[w.heap.size]? = some (.cells #[S [], S [], .int .i64 0, .int .i64 0, .int .i64 0, .int .i64 0] 23 (0, 0))) (hb : Below w.heap.size w W) :
    bodyPost Tryz.prog Tryz.f25 (RofPost p pt s sq w) .ret ⟨tmps, []⟩ (six W w.heap.size 0 (.string ⟨#[]⟩) (.string ⟨#[]⟩) (.int .i64 0) (.int .i64 0) (.int .i64 0) (.int .i64 0)).drew := by
  refine bodyPost_ret (ret_row rfl tmps _ w.heap.size 23 #[.string ⟨#[]⟩, .string ⟨#[]⟩, .int .i64 0, .int .i64 0, .int .i64 0, .int .i64 0] (0, 0) _ hp (by rw [World.heap_drew]; exact six_new hF _ _ _ _ _ _) Tryz.underlying23 rfl (by kernel_rfl)) rfl ⟨?_, Bdn (six_below hb (Nat.le_refl _) (.string ⟨#[]⟩) (.string ⟨#[]⟩) (.int .i64 0) (.int .i64 0) (.int .i64 0) (.int .i64 0)) 1⟩
  rw [hr, hv]; rfl
theorem pathE_none {p : Str} (h : pathF p = none) : pathE p = 5 := by unfold pathE; rw [h]; rfl
theorem pathE_some {p : Str} {kn} (h : pathF p = some kn) : pathE p = 0 := by unfold pathE; rw [h]; rfl
theorem kindF_some {p k : Str} {n : Int} (h : pathF p = some (k, n)) : kindF p = k := by unfold kindF; rw [h]; rfl
theorem noPlace_code (e : Er) : e.noPlace.code = e.code := by cases e <;> rfl
set_option maxHeartbeats 4000000 in
set_option maxRecDepth 20000 in
theorem refOfText_any (p pt s : Str) (sq : Int) (w : World) (hps : p.length ≤ 100000) (hts : pt.length ≤ 100000) (hs : s.length ≤ 10000 ∨ 20000 < s.length) (hs2 : s.length ≤ 50000) :
    Calls Tryz.prog 25 #[S p, S pt, S s, .int .i64 sq] w (RofPost p pt s sq w) := by
  have hba : Below w.heap.size w (w.alloc (.cells #[S [], S [], .int .i64 0, .int .i64 0, .int .i64 0, .int .i64 0] 23)) := (Below.refl w.heap.size w).alloc (Nat.le_refl _) _
  have CZ := Lib.hid (fun w6 (h : Below (w.alloc (.cells #[S [], S [], .int .i64 0, .int .i64 0, .int .i64 0, .int .i64 0] 23)).heap.size (w.alloc (.cells #[S [], S [], .int .i64 0, .int .i64 0, .int .i64 0, .int .i64 0] 23)) w6) => fileCells (f := zeroF) rfl h)
  have HG := Lib.hid (fun w6 (h : Below (w.alloc (.cells #[S [], S [], .int .i64 0, .int .i64 0, .int .i64 0, .int .i64 0] 23)).heap.size (w.alloc (.cells #[S [], S [], .int .i64 0, .int .i64 0, .int .i64 0, .int .i64 0] 23)) w6) => (h.block w.heap.size (by simp)).trans (heap_alloc_new w (.cells #[S [], S [], .int .i64 0, .int .i64 0, .int .i64 0, .int .i64 0] 23)))
  have HSz : Hid (w.heap.size < (w.alloc (.cells #[S [], S [], .int .i64 0, .int .i64 0, .int .i64 0, .int .i64 0] 23)).heap.size) := Lib.hid (by simp)
  have HPo := Lib.hid (fun W => pathOf_any p W hps)
  have HRd := Lib.hid (fun W => readData_any s W hs hs2)
  have HRg := Lib.hid (fun W => readGone_any s W hs2)
  have HNone := Lib.hid (@ofText_none p pt s sq)
  have HKeys := Lib.hid (@ofText_keys p pt s sq)
  have HBad := Lib.hid (@ofText_bad p pt s sq)
  have HFine := Lib.hid (@ofText_fine p pt s sq)
  have hql := keysL_len (kindF p) s
  have HMid : Hid (p.length ≤ 100000 ∧ pt.length ≤ 100000) := Lib.hid ⟨hps, hts⟩
  have hsl : s.length ≤ 50000 := hs2
  clear hps hts hs
  go_enter Tryz.func25, Tryz.ntmps25
  go_upto_region 1 with fail
  generalize w.alloc (.cells #[S [], S [], .int .i64 0, .int .i64 0, .int .i64 0, .int .i64 0] 23) = w0 at *
  go_wp2_with fail
  refine (HPo.out _).mono ?_
  rintro e w1 ⟨rfl, rfl⟩
  cases hpf : pathF p with
  | none =>
    rw [pathE_none hpf]
    have HR := Lib.hid (HNone.out hpf)
    clear hpf
    have hgz := HG.out _ (Below.refl _ _)
    have fz : ∀ j, w0.frozen? ⟨w.heap.size, j, none⟩ = false := fun j => frozen_row hgz
    have f0 := fz 0; have f1 := fz 1; have f2 := fz 2; have f3 := fz 3; have f4 := fz 4; have f5 := fz 5
    obtain ⟨d0, d1, d2, d3, d4, d5⟩ := CZ.out _ (Below.refl _ _)
    have HGz := Lib.hid hgz
    clear fz hgz
    go_wp2_with fail
    exact rof_zero rfl rfl HR.out HGz.out hba
  | some kn =>
  obtain ⟨k0, kn⟩ := kn
  rw [pathE_some hpf]
  have HPn : Hid (pathF p ≠ none) := Lib.hid (by rw [hpf]; simp)
  have hkk : kindF p = kData ∨ kindF p = kGone := by rw [kindF_some hpf]; exact (pathF_some hpf).1
  have HO : Hid (∀ q, keysL (kindF p) s = q → ofFile p pt s sq = ⟨p, pt, q.length, (endsI q).1, (endsI q).2, sq⟩) := Lib.hid fun q hq => by unfold ofFile; rw [hq]
  have HNo : Hid ((keysE (kindF p) s).code ≠ 0 → keysL (kindF p) s = []) := Lib.hid fun h => by
    unfold keysE at h
    unfold keysL
    split
    · rename_i hk
      rw [if_pos hk, noPlace_code] at h
      exact if_neg fun e => h (by rw [e]; rfl)
    · rename_i hk
      rw [if_neg hk, noPlace_code] at h
      rw [show dataL s = [] from if_neg fun e => h (by rw [e]; rfl)]; rfl
  clear hpf HNone HPo
  generalize numF p = nm at *
  go_upto_if 32 with fail
  go_cut [13] (fun u wx => IntsAt wx u (keysL (kindF p) s) ∧ Hid ((keysE (kindF p) s).code = 0) ∧ Below w0.heap.size w0 wx)
  case first =>
    rcases hkk with hk | hk
    · have hKE : Hid ((keysE (kindF p) s).code = (dataE s).code) := Lib.hid (by rw [hk]; unfold keysE; rw [if_neg (by decide), noPlace_code])
      have hKL : Hid (keysL (kindF p) s = keysR (dataL s)) := Lib.hid (by rw [hk]; exact if_neg (by decide))
      have g : (kindF p == [100, 97, 116, 97]) = true := by rw [hk]; rfl
      rw [g]
      clear hk g
      go_wp2_with fail
      refine (HRd.out _).mono ?_
      rintro e w2 ⟨u, rfl, hu, hb2⟩
      have hbw2 := hba.trans (hb2.mono hba.size)
      rw [show faultOf (dataE s) = .agg #[.int .i64 ((dataE s).code : Nat), .int .i64 (dataE s).place] from rfl]
      have hu' := hu.here
      obtain ⟨a, c, rfl, -, -⟩ := hu'.form'
      have HU := Lib.hid hu'
      clear hu hu'
      obtain ⟨cc, hcc⟩ : ∃ cc : Nat, (dataE s).code = cc := ⟨_, rfl⟩
      obtain ⟨pp, hpp⟩ : ∃ pp : Int, (dataE s).place = pp := ⟨_, rfl⟩
      rw [hcc] at hKE ⊢
      rw [hpp]
      have hb3 : Below w2.heap.size w2 (w2.alloc (.cells #[.int .i64 (cc : Nat), .int .i64 pp] 71)) := (Below.refl _ _).alloc (Nat.le_refl _) _
      have hg3 := heap_alloc_new w2 (.cells #[.int .i64 (cc : Nat), .int .i64 pp] 71)
      have hb03 := hb2.trans (hb3.mono hb2.size)
      have hbw3 := hba.trans (hb03.mono hba.size)
      have HU3 := Lib.hid (HU.out.below hb3)
      have hql2 : (dataL s).length ≤ 50001 := by have := dataL_len s; omega
      generalize dataL s = q at *
      clear hcc hpp
      go_upto_region 7 with fail
      generalize w2.alloc (.cells #[.int .i64 (cc : Nat), .int .i64 pp] 71) = w3 at *
      obtain ⟨G, hG⟩ : ∃ G, w2.heap.size = G := ⟨_, rfl⟩
      rw [hG] at hg3 ⊢
      have e0 : w3.cell? ⟨G, 0, none⟩ = some (.int .i64 (cc : Nat)) := by rw [cell_of_row w3 _ _ _ _ (0, 0) hg3]; rfl
      have hGn : ¬ G = w.heap.size := by have := hbw2.size; have := hba.size; have := HSz.out; have := hb2.size; omega
      have hGn' : ¬ w.heap.size = G := fun e => hGn e.symm
      clear hG
      by_cases hc0 : cc = 0
      case neg =>
        have HR : Hid (ofText p pt s sq = (zeroF, cc)) := Lib.hid (by rw [HKeys.out HPn.out (by rw [hKE.out]; exact hc0), hKE.out])
        have g1 : (0 : Int) < (cc : Int) := by omega
        have g2 : 0 < cc := by omega
        have hgz := HG.out _ hb03
        have fz : ∀ j, w3.frozen? ⟨w.heap.size, j, none⟩ = false := fun j => frozen_row hgz
        have f0 := fz 0; have f1 := fz 1; have f2 := fz 2; have f3 := fz 3; have f4 := fz 4; have f5 := fz 5
        obtain ⟨d0, d1, d2, d3, d4, d5⟩ := CZ.out _ hb03
        have HGz := Lib.hid hgz
        clear fz hgz hc0 hg3
        go_wp2_with fail
        go_region
        go_wp2_with fail
        first
          | exact rof_zero_drew rfl rfl HR.out HGz.out hbw3
          | exact rof_zero rfl rfl HR.out HGz.out hbw3
      have HK0 : Hid ((keysE (kindF p) s).code = 0) := Lib.hid (by rw [hKE.out, hc0])
      have g1 : decide ((0 : Int) < (cc : Int)) = false := by simp [hc0]
      have g2 : decide (0 < cc) = false := by simp [hc0]
      clear hc0 hg3
      go_wp2_with fail
      refine (refKeys_any _ q w3 HU3.out (by omega)).mono ?_
      rintro e w4 ⟨v4, rfl, hown, hb4⟩
      go_wp2_with fail
      go_meet
      exact ⟨by rw [hKL.out]; exact hown.at encI_enc, HK0, hb03.trans (hb4.mono hb03.size)⟩
    · have hKE : Hid ((keysE (kindF p) s).code = (goneE s).code) := Lib.hid (by rw [hk]; unfold keysE; rw [if_pos rfl, noPlace_code])
      have hKL : Hid (keysL (kindF p) s = goneL s) := Lib.hid (by rw [hk]; exact if_pos rfl)
      have g : (kindF p == [100, 97, 116, 97]) = false := by rw [hk]; rfl
      rw [g]
      clear hk g
      go_wp2_with fail
      refine (HRg.out _).mono ?_
      rintro e w2 ⟨u, rfl, hu, hb2⟩
      have hbw2 := hba.trans (hb2.mono hba.size)
      rw [show faultOf (goneE s) = .agg #[.int .i64 ((goneE s).code : Nat), .int .i64 (goneE s).place] from rfl]
      have hu' := hu.here
      obtain ⟨a, c, rfl, -, -⟩ := hu'.form'
      have HU := Lib.hid hu'
      clear hu hu'
      obtain ⟨cc, hcc⟩ : ∃ cc : Nat, (goneE s).code = cc := ⟨_, rfl⟩
      obtain ⟨pp, hpp⟩ : ∃ pp : Int, (goneE s).place = pp := ⟨_, rfl⟩
      rw [hcc] at hKE ⊢
      rw [hpp]
      have hb3 : Below w2.heap.size w2 (w2.alloc (.cells #[.int .i64 (cc : Nat), .int .i64 pp] 71)) := (Below.refl _ _).alloc (Nat.le_refl _) _
      have hg3 := heap_alloc_new w2 (.cells #[.int .i64 (cc : Nat), .int .i64 pp] 71)
      have hb03 := hb2.trans (hb3.mono hb2.size)
      have hbw3 := hba.trans (hb03.mono hba.size)
      have HU3 := Lib.hid (HU.out.below hb3)
      have hql2 : (goneL s).length ≤ 50001 := by have h1 := hql; rw [hKL.out] at h1; omega
      generalize goneL s = q at *
      clear hcc hpp
      go_upto_region 11 with fail
      generalize w2.alloc (.cells #[.int .i64 (cc : Nat), .int .i64 pp] 71) = w3 at *
      obtain ⟨G, hG⟩ : ∃ G, w2.heap.size = G := ⟨_, rfl⟩
      rw [hG] at hg3 ⊢
      have e0 : w3.cell? ⟨G, 0, none⟩ = some (.int .i64 (cc : Nat)) := by rw [cell_of_row w3 _ _ _ _ (0, 0) hg3]; rfl
      have hGn : ¬ G = w.heap.size := by have := hbw2.size; have := hba.size; have := HSz.out; have := hb2.size; omega
      have hGn' : ¬ w.heap.size = G := fun e => hGn e.symm
      clear hG
      by_cases hc0 : cc = 0
      case neg =>
        have HR : Hid (ofText p pt s sq = (zeroF, cc)) := Lib.hid (by rw [HKeys.out HPn.out (by rw [hKE.out]; exact hc0), hKE.out])
        have g1 : (0 : Int) < (cc : Int) := by omega
        have g2 : 0 < cc := by omega
        have hgz := HG.out _ hb03
        have fz : ∀ j, w3.frozen? ⟨w.heap.size, j, none⟩ = false := fun j => frozen_row hgz
        have f0 := fz 0; have f1 := fz 1; have f2 := fz 2; have f3 := fz 3; have f4 := fz 4; have f5 := fz 5
        obtain ⟨d0, d1, d2, d3, d4, d5⟩ := CZ.out _ hb03
        have HGz := Lib.hid hgz
        clear fz hgz hc0 hg3
        go_wp2_with fail
        go_region
        go_wp2_with fail
        first
          | exact rof_zero_drew rfl rfl HR.out HGz.out hbw3
          | exact rof_zero rfl rfl HR.out HGz.out hbw3
      have HK0 : Hid ((keysE (kindF p) s).code = 0) := Lib.hid (by rw [hKE.out, hc0])
      have g1 : decide ((0 : Int) < (cc : Int)) = false := by simp [hc0]
      have g2 : decide (0 < cc) = false := by simp [hc0]
      clear hc0 hg3
      go_wp2_with fail
      go_meet
      exact ⟨by rw [hKL.out]; exact HU3.out, HK0, hb03⟩
  case rest =>
    obtain ⟨hu, HK0, hb1⟩ := hcut
    obtain ⟨w1, rfl⟩ : ∃ w1, w1 = wc := ⟨wc, rfl⟩
    obtain ⟨q, hq⟩ : ∃ q, keysL (kindF p) s = q := ⟨_, rfl⟩
    have HO2 := Lib.hid (HO.out q hq)
    rw [hq] at hu hql
    have hbw1 := hba.trans (hb1.mono hba.size)
    obtain ⟨a, c, rfl, -, -⟩ := hu.form'
    have HU := Lib.hid hu
    clear hu hq HNo HO hkk
    obtain ⟨lo, hlo⟩ : ∃ lo, (endsI q).1 = lo := ⟨_, rfl⟩
    obtain ⟨hi, hhi⟩ : ∃ hi, (endsI q).2 = hi := ⟨_, rfl⟩
    have HE := Lib.hid (refEnds_any _ q w1 HU.out)
    rw [hlo, hhi] at HE HO2
    clear hlo hhi
    go_wp2_with fail
    refine HE.out.mono ?_
    rintro e wx ⟨rfl, rfl⟩
    have hbaY : Below w1.heap.size w1 (w1.alloc (.cells #[S p, S pt, .int .i64 q.length, .int .i64 lo, .int .i64 hi, .int .i64 sq] 23)) := (Below.refl _ _).alloc (Nat.le_refl _) _
    have CY := Lib.hid (fun W (h : Below (w1.alloc (.cells #[S p, S pt, .int .i64 q.length, .int .i64 lo, .int .i64 hi, .int .i64 sq] 23)).heap.size (w1.alloc (.cells #[S p, S pt, .int .i64 q.length, .int .i64 lo, .int .i64 hi, .int .i64 sq] 23)) W) => fileCells (f := ⟨p, pt, q.length, lo, hi, sq⟩) (w := w1) rfl h)
    have hb02 := hb1.trans (hbaY.mono hb1.size)
    have hbw2 := hba.trans (hb02.mono hba.size)
    have hfl : ofFile p pt s sq = ⟨p, pt, q.length, lo, hi, sq⟩ := HO2.out
    go_upto_region 16 with fail
    generalize w1.alloc (.cells #[S p, S pt, .int .i64 q.length, .int .i64 lo, .int .i64 hi, .int .i64 sq] 23) = w2 at *
    obtain ⟨T, hT⟩ : ∃ T, w1.heap.size = T := ⟨_, rfl⟩
    rw [hT] at CY ⊢
    obtain ⟨c0, c1, c2, c3, c4, c5⟩ := CY.out _ (Below.refl _ _)
    have HCk := Lib.hid (fileError_any ⟨p, pt, q.length, lo, hi, sq⟩ w2 ⟨HMid.out.1, HMid.out.2⟩)
    have hbad := HBad.out HPn.out (by rw [HK0.out]; simp)
    have hfine := HFine.out HPn.out (by rw [HK0.out]; simp)
    rw [hfl] at hbad hfine
    have HBa := Lib.hid hbad; have HFi := Lib.hid hfine
    clear hbad hfine hfl hT HBad HFine HKeys
    obtain ⟨ce, hce⟩ : ∃ ce, checkF ⟨p, pt, (q.length : Int), lo, hi, sq⟩ = ce := ⟨_, rfl⟩
    rw [hce] at HCk HBa HFi
    clear hce
    go_wp2_with fail
    refine HCk.out.mono ?_
    rintro e w3 ⟨rfl, hb3⟩
    have hb03 := hb02.trans (hb3.mono hb02.size)
    have hbw3 := hbw2.trans (hb3.mono hbw2.size)
    clear c0 c1 c2 c3 c4 c5
    obtain ⟨c0, c1, c2, c3, c4, c5⟩ := CY.out _ hb3
    have hgz := HG.out _ hb03
    have fz : ∀ j, w3.frozen? ⟨w.heap.size, j, none⟩ = false := fun j => frozen_row hgz
    have f0 := fz 0; have f1 := fz 1; have f2 := fz 2; have f3 := fz 3; have f4 := fz 4; have f5 := fz 5
    obtain ⟨d0, d1, d2, d3, d4, d5⟩ := CZ.out _ hb03
    have HGz := Lib.hid hgz
    clear fz hgz
    by_cases hc0 : ce = 0
    case neg =>
      have HR : Hid (ofText p pt s sq = (zeroF, ce)) := Lib.hid (HBa.out hc0)
      have g1 : (0 : Int) < (ce : Int) := by omega
      have g2 : 0 < ce := by omega
      clear hc0
      go_wp2_with fail
      exact rof_zero rfl rfl HR.out HGz.out hbw3
    have HR : Hid (ofText p pt s sq = (⟨p, pt, q.length, lo, hi, sq⟩, 0)) := Lib.hid (HFi.out hc0)
    have g1 : decide ((0 : Int) < (ce : Int)) = false := by simp [hc0]
    have g2 : decide (0 < ce) = false := by simp [hc0]
    clear hc0
    go_wp2_with fail
    exact rof_end (x := ⟨p, pt, q.length, lo, hi, sq⟩) rfl rfl HR.out HGz.out hbw3
end Go.Proofs.YtpiflhhppigdfaaGreatDoor
namespace Go.Proofs.YtpiflhhppigdfaaGreatDoor
open Go.RowKit

def codedB (er : Er) (k : Int) : Bool := decide ((er.code : Int) = k) && decide (er.place = -1)
def faultedB (er : Er) (c p : Int) : Bool := decide ((er.code : Int) = c) && (decide (c = 0) || decide (er.place = p))

theorem coded1_any (E : Nat → Addr) (B : Nat) (er : Er) (v : Value) (k : Int) (w : World) (hE : Errs allE E B w) (hA : AsVar w) (hv : ErV E w v er) :
    Calls Tryz.prog 17 #[v, .int .i64 k] w fun e w' => e = .returned (.bool (codedB er k)) ∧ Below w.heap.size w w' := by
  unfold codedB
  by_cases h1 : (er.code : Int) = k
  · have g1 : ((er.code : Int) == k) = true := by simpa using h1
    have H1 := Lib.hid h1; clear h1
    by_cases h2 : er.place = -1
    · have g2 : (er.place == -1) = true := by simpa using h2
      have H2 := Lib.hid h2; clear h2
      go_enter Tryz.func17, Tryz.ntmps17
      go_wp2_with (go_at_call 79; refine (code_any E B er _ _ hE hA hv).mono ?_; rintro e w1 ⟨rfl, hb⟩)
      go_ret
      exact ⟨ret_bool (by simp [H1.out, H2.out]), hb⟩
    · have g2 : (er.place == -1) = false := by simpa using h2
      go_enter Tryz.func17, Tryz.ntmps17
      go_wp2_with (go_at_call 79; refine (code_any E B er _ _ hE hA hv).mono ?_; rintro e w1 ⟨rfl, hb⟩)
      go_ret
      exact ⟨ret_bool (by simp [H1.out, h2]), hb⟩
  · have g1 : ((er.code : Int) == k) = false := by simpa using h1
    go_enter Tryz.func17, Tryz.ntmps17
    go_wp2_with (go_at_call 79; refine (code_any E B er _ _ hE hA hv).mono ?_; rintro e w1 ⟨rfl, hb⟩)
    go_ret
    exact ⟨ret_bool (by simp [h1]), hb⟩


theorem coded3_any (E : Nat → Addr) (B : Nat) (er : Er) (v : Value) (k : Int) (w : World) (hE : Errs allE E B w) (hA : AsVar w) (hv : ErV E w v er) :
    Calls Tryz.prog 42 #[v, .int .i64 k] w fun e w' => e = .returned (.bool (codedB er k)) ∧ Below w.heap.size w w' := by
  unfold codedB
  by_cases h1 : (er.code : Int) = k
  · have g1 : ((er.code : Int) == k) = true := by simpa using h1
    have H1 := Lib.hid h1; clear h1
    by_cases h2 : er.place = -1
    · have g2 : (er.place == -1) = true := by simpa using h2
      have H2 := Lib.hid h2; clear h2
      go_enter Tryz.func42, Tryz.ntmps42
      go_wp2_with (go_at_call 79; refine (code_any E B er _ _ hE hA hv).mono ?_; rintro e w1 ⟨rfl, hb⟩)
      go_ret
      exact ⟨ret_bool (by simp [H1.out, H2.out]), hb⟩
    · have g2 : (er.place == -1) = false := by simpa using h2
      go_enter Tryz.func42, Tryz.ntmps42
      go_wp2_with (go_at_call 79; refine (code_any E B er _ _ hE hA hv).mono ?_; rintro e w1 ⟨rfl, hb⟩)
      go_ret
      exact ⟨ret_bool (by simp [H1.out, h2]), hb⟩
  · have g1 : ((er.code : Int) == k) = false := by simpa using h1
    go_enter Tryz.func42, Tryz.ntmps42
    go_wp2_with (go_at_call 79; refine (code_any E B er _ _ hE hA hv).mono ?_; rintro e w1 ⟨rfl, hb⟩)
    go_ret
    exact ⟨ret_bool (by simp [h1]), hb⟩

end Go.Proofs.YtpiflhhppigdfaaGreatDoor
namespace Go.Proofs.YtpiflhhppigdfaaGreatDoor
open Go.RowKit

theorem ErV.apart {E : Nat → Addr} {w w' : World} {v : Value} {er : Er} {g : Nat} {m : Int} (h : ErV E w v er) (hc : w.cell? ⟨g, 1, none⟩ = some (.int .i64 m)) (hw : ∀ p : Addr, p.block ≠ g → w'.cell? p = w.cell? p) : ErV E w' v er := by
  cases er with
  | nil => exact h
  | bare c => exact h
  | loc c i =>
    obtain ⟨hc', fb, hv, h0, h1⟩ := h
    have hne : fb ≠ g := by rintro rfl; rw [hc] at h1; cases h1
    exact ⟨hc', fb, hv, (hw ⟨fb, 0, none⟩ hne).trans h0, (hw ⟨fb, 1, none⟩ hne).trans h1⟩
theorem two_apart {W : World} {g : Nat} (x y : Value) : ∀ p : Addr, p.block ≠ g → ((W.setCell ⟨g, 0, none⟩ x).setCell ⟨g, 1, none⟩ y).cell? p = W.cell? p := fun p hne => by
  rw [World.cell?_setCell_other _ _ _ _ (fun e => hne (by rw [← e])), World.cell?_setCell_other _ _ _ _ (fun e => hne (by rw [← e]))]
theorem told_self (er : Er) : toldB er er.code er.place = true := by simp [toldB]
theorem faultedAt3_any (E : Nat → Addr) (B : Nat) (er : Er) (v : Value) (w : World) (hE : Errs allE E B w) (hA : AsVar w) (hgB : 12 < B) (hv : ErV E w v er) :
    Calls Tryz.prog 41 #[v, .agg #[.int .i64 (er.code : Nat), .int .i64 er.place]] w fun e w' => e = .returned (.bool true) ∧ Below w.heap.size w w' := by
  have h := faulted3_any E B er v er.code er.place w hE hA hgB hv
  rwa [told_self] at h
end Go.Proofs.YtpiflhhppigdfaaGreatDoor
namespace Go.Proofs.YtpiflhhppigdfaaGreatDoor
open Go.RowKit

theorem codedB_erOf (c : Nat) : codedB (erOf c) c = true := by
  unfold codedB erOf
  split
  · rename_i h; subst h; simp [Er.code, Er.place]
  · simp [Er.code, Er.place]
theorem codedB_noPlace (er : Er) : codedB er.noPlace er.code = true := by cases er <;> simp [codedB, Er.noPlace, Er.code, Er.place]
theorem codedT1_any (E : Nat → Addr) (B : Nat) (c : Nat) (v : Value) (w : World) (hE : Errs allE E B w) (hA : AsVar w) (hv : ErV E w v (erOf c)) :
    Calls Tryz.prog 17 #[v, .int .i64 (c : Int)] w fun e w' => e = .returned (.bool true) ∧ Below w.heap.size w w' := by
  have h := coded1_any E B (erOf c) v c w hE hA hv
  rwa [codedB_erOf] at h
theorem codedT3_any (E : Nat → Addr) (B : Nat) (c : Nat) (v : Value) (w : World) (hE : Errs allE E B w) (hA : AsVar w) (hv : ErV E w v (erOf c)) :
    Calls Tryz.prog 42 #[v, .int .i64 (c : Int)] w fun e w' => e = .returned (.bool true) ∧ Below w.heap.size w w' := by
  have h := coded3_any E B (erOf c) v c w hE hA hv
  rwa [codedB_erOf] at h
end Go.Proofs.YtpiflhhppigdfaaGreatDoor
namespace Go.Proofs.YtpiflhhppigdfaaGreatDoor
open Go.RowKit

theorem rowF6 {W : World} {g : Nat} {f : Fl} {t : TypeId} (h : W.heap[g]? = some (.cells #[S f.path, S f.part, .int .i64 f.n, .int .i64 f.lo, .int .i64 f.hi, .int .i64 f.seq] t (0, 0))) :
    W.cell? ⟨g, 0, none⟩ = some (S f.path) ∧ W.cell? ⟨g, 1, none⟩ = some (S f.part) ∧ W.cell? ⟨g, 2, none⟩ = some (.int .i64 f.n) ∧ W.cell? ⟨g, 3, none⟩ = some (.int .i64 f.lo) ∧ W.cell? ⟨g, 4, none⟩ = some (.int .i64 f.hi) ∧ W.cell? ⟨g, 5, none⟩ = some (.int .i64 f.seq) := by
  refine ⟨?_, ?_, ?_, ?_, ?_, ?_⟩ <;> (rw [cell_of_row W _ _ _ _ (0, 0) h]; rfl)
/-- A block that was there, later. -/
theorem rowKept {W W' : World} {g : Nat} {o : Obj} (h : W.heap[g]? = some o) (hb : Below W.heap.size W W') : W'.heap[g]? = some o := (hb.block g (Array.getElem?_eq_some_iff.1 h).1).trans h
theorem set_other {w : World} {g k i : Nat} (h : g ≠ k) (v : Value) : (w.setCell ⟨g, i, none⟩ v).heap[k]? = w.heap[k]? := by simp [World.setCell, Array.getElem?_modify, h]
theorem six_other (w : World) {g k o : Nat} (h : g ≠ k) (b0 b1 b2 b3 b4 b5 : Value) : (six w g o b0 b1 b2 b3 b4 b5).heap[k]? = w.heap[k]? := by
  rw [set_other h, set_other h, set_other h, set_other h, set_other h, set_other h]
end Go.Proofs.YtpiflhhppigdfaaGreatDoor
namespace Go.Proofs.YtpiflhhppigdfaaGreatDoor
open Go.ChangeShapes Go.WideShapes Go.ChangeAt Go.RowKit

theorem laidMet_layVars_all {P : Program} {w0 w' : World} {l : List (String × DataW Unit)} (hh : w'.heap = (w0.layVars P l).heap) (hf : w0.layFits P l [] = true) (hi : w0.layIfaces P l w' = true) : laidMet P l w' := by
  have e1 : (l.filter fun x => (l.map (·.1)).contains x.1) = l := List.filter_eq_self.2 fun x hx => List.contains_iff_mem.2 (List.mem_map.2 ⟨x, hx, rfl⟩)
  have e2 : (l.filter fun x => !(l.map (·.1)).contains x.1) = [] := List.filter_eq_nil_iff.2 fun x hx => by rw [List.contains_iff_mem.2 (List.mem_map.2 ⟨x, hx, rfl⟩)]; simp
  exact laidMet_layVars (w0 := w0) (l.map (·.1)) [] (by rw [e1]; exact hh) (by rw [e1]; exact hf) (by rw [e1]; exact hi) (by rw [e2]; exact LaidIn.none)

/-- The world at the beginning, the handle laid. -/
noncomputable def handleW (os : Os) : World := (World.holding Tryz.prog os ⟨#[], #[], []⟩).setCell ⟨12, 0, none⟩ (.iface 332 (.agg #[.pointer (some ⟨21, 27, none⟩)]))
noncomputable def witW (os : Os) (l : List (String × DataW Unit)) : World := (handleW os).layVars Tryz.prog (l.filter fun x => x.2.handleName?.isNone)
theorem witW_os (os : Os) (l : List (String × DataW Unit)) : (witW os l).os = os := World.layVars_os _ _ _
theorem witW_met (os : Os) (l : List (String × DataW Unit)) (args : Array Value) (hf : (handleW os).layFits Tryz.prog (l.filter fun x => x.2.handleName?.isNone) [] = true) (hi : (handleW os).layIfaces Tryz.prog (l.filter fun x => x.2.handleName?.isNone) (witW os l) = true)
    (hh : (l.filter fun x => x.2.handleName?.isSome).all (handleAtB Tryz.prog ((witW os l).forCall (fun _ _ => 0) ⟨#[], args, []⟩).memory) = true) :
    laidMetH Tryz.prog l ((witW os l).forCall (fun _ _ => 0) ⟨#[], args, []⟩).memory := by
  have h : laidMet Tryz.prog (l.filter fun x => x.2.handleName?.isNone) (witW os l) := laidMet_layVars_all (w0 := handleW os) rfl hf hi
  exact laidMetH_of_parts (h.of_heap (by simp [World.memory, World.forCall, Input.heap])) hh
end Go.Proofs.YtpiflhhppigdfaaGreatDoor
