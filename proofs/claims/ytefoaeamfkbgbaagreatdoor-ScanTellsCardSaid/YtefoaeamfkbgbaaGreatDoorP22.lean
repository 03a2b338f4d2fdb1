/- deedboxref1.OfText: the walk. deedboxlaw3.table: the walk. A closed fact of a table: plain. Of no program. Lists of named things, rising by name; rows split in groups: in plain words. -/
import Derived.Test.YtefoaeamfkbgbaaGreatDoorP16
import Derived.Test.YtefoaeamfkbgbaaGreatDoorP21
import Derived.Test.YtefoaeamfkbgbaaGreatDoorP18
import Derived.Test.YtefoaeamfkbgbaaGreatDoorP19
import Derived.Test.YtefoaeamfkbgbaaGreatDoorP12
import Derived.Test.YtefoaeamfkbgbaaGreatDoorP4
import Derived.OwnWalk
import Derived.Test.YtefoaeamfkbgbaaGreatDoorP1
import Derived.Test.YtefoaeamfkbgbaaGreatDoorP7
namespace Go.Proofs.YtefoaeamfkbgbaaGreatDoor
open Go.RowKit

def RofPost (p pt s : Str) (sq : Int) (w : World) (e : Ending) (w' : World) : Prop := e = .returned (.tuple #[fileV (ofText p pt s sq).1, .int .i64 ((ofText p pt s sq).2 : Nat)]) ∧ Below w.heap.size w w'
theorem rof_end {p pt s : Str} {sq : Int} {w W : World} {tmps : Array Value} {x : Fl} {c : Nat} (hp : tmps.getD 8 undef = .pointer (some ⟨w.heap.size, 0, none⟩)) (hv : tmps.getD 9 undef = .int .i64 (c : Nat)) (hr : ofText p pt s sq = (x, c))
    (hF : W.heap[w.heap.size]? = some (.cells #[S [], S [], .int .i64 0, .int .i64 0, .int .i64 0, .int .i64 0] 44 (0, 0))) (hb : Below w.heap.size w W) :
    bodyPost Tryz.prog Tryz.f35 (RofPost p pt s sq w) .ret ⟨tmps, []⟩ (six W w.heap.size 0 (S x.path) (S x.part) (.int .i64 x.n) (.int .i64 x.lo) (.int .i64 x.hi) (.int .i64 x.seq)) := by
  refine bodyPost_ret (ret_row rfl tmps _ w.heap.size 44 #[S x.path, S x.part, .int .i64 x.n, .int .i64 x.lo, .int .i64 x.hi, .int .i64 x.seq] (0, 0) _ hp (six_new hF _ _ _ _ _ _) Tryz.underlying44 rfl (by kernel_rfl)) rfl ⟨?_, six_below hb (Nat.le_refl _) _ _ _ _ _ _⟩
  rw [hr, hv]
theorem rof_zero {p pt s : Str} {sq : Int} {w W : World} {tmps : Array Value} {c : Nat} (hp : tmps.getD 8 undef = .pointer (some ⟨w.heap.size, 0, none⟩)) (hv : tmps.getD 9 undef = .int .i64 (c : Nat)) (hr : ofText p pt s sq = (zeroF, c))
    (hF : W.heap[w.heap.size]? = some (.cells #[S [], S [], .int .i64 0, .int .i64 0, .int .i64 0, .int .i64 0] 44 (0, 0))) (hb : Below w.heap.size w W) :
    bodyPost Tryz.prog Tryz.f35 (RofPost p pt s sq w) .ret ⟨tmps, []⟩ (six W w.heap.size 0 (.string ⟨#[]⟩) (.string ⟨#[]⟩) (.int .i64 0) (.int .i64 0) (.int .i64 0) (.int .i64 0)) := by
  refine bodyPost_ret (ret_row rfl tmps _ w.heap.size 44 #[.string ⟨#[]⟩, .string ⟨#[]⟩, .int .i64 0, .int .i64 0, .int .i64 0, .int .i64 0] (0, 0) _ hp (six_new hF _ _ _ _ _ _) Tryz.underlying44 rfl (by kernel_rfl)) rfl ⟨?_, six_below hb (Nat.le_refl _) _ _ _ _ _ _⟩
  rw [hr, hv]; rfl
theorem rof_zero_drew {p pt s : Str} {sq : Int} {w W : World} {tmps : Array Value} {c : Nat} (hp : tmps.getD 8 undef = .pointer (some ⟨w.heap.size, 0, none⟩)) (hv : tmps.getD 9 undef = .int .i64 (c : Nat)) (hr : ofText p pt s sq = (zeroF, c))
    (hF : W.heap[w.heap.size]? = some (.cells #[S [], S [], .int .i64 0, .int .i64 0, .int .i64 0, .int .i64 0] 44 (0, 0))) (hb : Below w.heap.size w W) :
    bodyPost Tryz.prog Tryz.f35 (RofPost p pt s sq w) .ret ⟨tmps, []⟩ (six W w.heap.size 0 (.string ⟨#[]⟩) (.string ⟨#[]⟩) (.int .i64 0) (.int .i64 0) (.int .i64 0) (.int .i64 0)).drew := by
  refine bodyPost_ret (ret_row rfl tmps _ w.heap.size 44 #[.string ⟨#[]⟩, .string ⟨#[]⟩, .int .i64 0, .int .i64 0, .int .i64 0, .int .i64 0] (0, 0) _ hp (by rw [World.heap_drew]; exact six_new hF _ _ _ _ _ _) Tryz.underlying44 rfl (by kernel_rfl)) rfl ⟨?_, Bdn (six_below hb (Nat.le_refl _) (.string ⟨#[]⟩) (.string ⟨#[]⟩) (.int .i64 0) (.int .i64 0) (.int .i64 0) (.int .i64 0)) 1⟩
  rw [hr, hv]; rfl
theorem pathE_none {p : Str} (h : pathF p = none) : pathE p = 5 := by unfold pathE; rw [h]; rfl
theorem pathE_some {p : Str} {kn} (h : pathF p = some kn) : pathE p = 0 := by unfold pathE; rw [h]; rfl
theorem kindF_some {p k : Str} {n : Int} (h : pathF p = some (k, n)) : kindF p = k := by unfold kindF; rw [h]; rfl
theorem noPlace_code (e : Er) : e.noPlace.code = e.code := by cases e <;> rfl
set_option maxHeartbeats 4000000 in
set_option maxRecDepth 20000 in
theorem refOfText_any (p pt s : Str) (sq : Int) (w : World) (hps : p.length ≤ 100000) (hts : pt.length ≤ 100000) (hs : s.length ≤ 10000 ∨ 20000 < s.length) (hs2 : s.length ≤ 50000) :
    Calls Tryz.prog 35 #[S p, S pt, S s, .int .i64 sq] w (RofPost p pt s sq w) := by
  have hba : Below w.heap.size w (w.alloc (.cells #[S [], S [], .int .i64 0, .int .i64 0, .int .i64 0, .int .i64 0] 44)) := (Below.refl w.heap.size w).alloc (Nat.le_refl _) _
  have CZ := Lib.hid (fun w6 (h : Below (w.alloc (.cells #[S [], S [], .int .i64 0, .int .i64 0, .int .i64 0, .int .i64 0] 44)).heap.size (w.alloc (.cells #[S [], S [], .int .i64 0, .int .i64 0, .int .i64 0, .int .i64 0] 44)) w6) => fileCells (f := zeroF) rfl h)
  have HG := Lib.hid (fun w6 (h : Below (w.alloc (.cells #[S [], S [], .int .i64 0, .int .i64 0, .int .i64 0, .int .i64 0] 44)).heap.size (w.alloc (.cells #[S [], S [], .int .i64 0, .int .i64 0, .int .i64 0, .int .i64 0] 44)) w6) => (h.block w.heap.size (by simp)).trans (heap_alloc_new w (.cells #[S [], S [], .int .i64 0, .int .i64 0, .int .i64 0, .int .i64 0] 44)))
  have HSz : Hid (w.heap.size < (w.alloc (.cells #[S [], S [], .int .i64 0, .int .i64 0, .int .i64 0, .int .i64 0] 44)).heap.size) := Lib.hid (by simp)
  have HPo := Lib.hid (fun W => pathOf_any p W hps)
  have HRd := Lib.hid (fun W => readData_any s W hs hs2)
  have HRg := Lib.hid (fun W => readGone_any s W hs2)
  have HNone := Lib.hid (@ofText_none p pt s sq)
  have HKeys := Lib.hid (@ofText_keys p pt s sq)
  have HBad := Lib.hid (@ofText_bad p pt s sq)
  have HFine := Lib.hid (@ofText_fine p pt s sq)
  have hql := keysL_len (kindF p) s
  have HMid : Hid (p.length ≤ 100000 ∧ pt.length ≤ 100000) := Lib.hid ⟨hps, hts⟩
  have hsl : s.length ≤ 50000 := hs2
  clear hps hts hs
  go_enter Tryz.func35, Tryz.ntmps35
  go_upto_region 1 with fail
  generalize w.alloc (.cells #[S [], S [], .int .i64 0, .int .i64 0, .int .i64 0, .int .i64 0] 44) = w0 at *
  go_wp2_with fail
  refine (HPo.out _).mono ?_
  rintro e w1 ⟨rfl, rfl⟩
  cases hpf : pathF p with
  | none =>
    rw [pathE_none hpf]
    have HR := Lib.hid (HNone.out hpf)
    clear hpf
    have hgz := HG.out _ (Below.refl _ _)
    have fz : ∀ j, w0.frozen? ⟨w.heap.size, j, none⟩ = false := fun j => frozen_row hgz
    have f0 := fz 0; have f1 := fz 1; have f2 := fz 2; have f3 := fz 3; have f4 := fz 4; have f5 := fz 5
    obtain ⟨d0, d1, d2, d3, d4, d5⟩ := CZ.out _ (Below.refl _ _)
    have HGz := Lib.hid hgz
    clear fz hgz
    go_wp2_with fail
    exact rof_zero rfl rfl HR.out HGz.out hba
  | some kn =>
  obtain ⟨k0, kn⟩ := kn
  rw [pathE_some hpf]
  have HPn : Hid (pathF p ≠ none) := Lib.hid (by rw [hpf]; simp)
  have hkk : kindF p = kData ∨ kindF p = kGone := by rw [kindF_some hpf]; exact (pathF_some hpf).1
  have HO : Hid (∀ q, keysL (kindF p) s = q → ofFile p pt s sq = ⟨p, pt, q.length, (endsI q).1, (endsI q).2, sq⟩) := Lib.hid fun q hq => by unfold ofFile; rw [hq]
  have HNo : Hid ((keysE (kindF p) s).code ≠ 0 → keysL (kindF p) s = []) := Lib.hid fun h => by
    unfold keysE at h
    unfold keysL
    split
    · rename_i hk
      rw [if_pos hk, noPlace_code] at h
      exact if_neg fun e => h (by rw [e]; rfl)
    · rename_i hk
      rw [if_neg hk, noPlace_code] at h
      rw [show dataL s = [] from if_neg fun e => h (by rw [e]; rfl)]; rfl
  clear hpf HNone HPo
  generalize numF p = nm at *
  go_upto_if 32 with fail
  go_cut [13] (fun u wx => IntsAt wx u (keysL (kindF p) s) ∧ Hid ((keysE (kindF p) s).code = 0) ∧ Below w0.heap.size w0 wx)
  case first =>
    rcases hkk with hk | hk
    · have hKE : Hid ((keysE (kindF p) s).code = (dataE s).code) := Lib.hid (by rw [hk]; unfold keysE; rw [if_neg (by decide), noPlace_code])
      have hKL : Hid (keysL (kindF p) s = keysR (dataL s)) := Lib.hid (by rw [hk]; exact if_neg (by decide))
      have g : (kindF p == [100, 97, 116, 97]) = true := by rw [hk]; rfl
      rw [g]
      clear hk g
      go_wp2_with fail
      refine (HRd.out _).mono ?_
      rintro e w2 ⟨u, rfl, hu, hb2⟩
      have hbw2 := hba.trans (hb2.mono hba.size)
      rw [show faultOf (dataE s) = .agg #[.int .i64 ((dataE s).code : Nat), .int .i64 (dataE s).place] from rfl]
      have hu' := hu.here
      obtain ⟨a, c, rfl, -, -⟩ := hu'.form'
      have HU := Lib.hid hu'
      clear hu hu'
      obtain ⟨cc, hcc⟩ : ∃ cc : Nat, (dataE s).code = cc := ⟨_, rfl⟩
      obtain ⟨pp, hpp⟩ : ∃ pp : Int, (dataE s).place = pp := ⟨_, rfl⟩
      rw [hcc] at hKE ⊢
      rw [hpp]
      have hb3 : Below w2.heap.size w2 (w2.alloc (.cells #[.int .i64 (cc : Nat), .int .i64 pp] 58)) := (Below.refl _ _).alloc (Nat.le_refl _) _
      have hg3 := heap_alloc_new w2 (.cells #[.int .i64 (cc : Nat), .int .i64 pp] 58)
      have hb03 := hb2.trans (hb3.mono hb2.size)
      have hbw3 := hba.trans (hb03.mono hba.size)
      have HU3 := Lib.hid (HU.out.below hb3)
      have hql2 : (dataL s).length ≤ 50001 := by have := dataL_len s; omega
      generalize dataL s = q at *
      clear hcc hpp
      go_upto_region 7 with fail
      generalize w2.alloc (.cells #[.int .i64 (cc : Nat), .int .i64 pp] 58) = w3 at *
      obtain ⟨G, hG⟩ : ∃ G, w2.heap.size = G := ⟨_, rfl⟩
      rw [hG] at hg3 ⊢
      have e0 : w3.cell? ⟨G, 0, none⟩ = some (.int .i64 (cc : Nat)) := by rw [cell_of_row w3 _ _ _ _ (0, 0) hg3]; rfl
      have hGn : ¬ G = w.heap.size := by have := hbw2.size; have := hba.size; have := HSz.out; have := hb2.size; omega
      have hGn' : ¬ w.heap.size = G := fun e => hGn e.symm
      clear hG
      by_cases hc0 : cc = 0
      case neg =>
        have HR : Hid (ofText p pt s sq = (zeroF, cc)) := Lib.hid (by rw [HKeys.out HPn.out (by rw [hKE.out]; exact hc0), hKE.out])
        have g1 : (0 : Int) < (cc : Int) := by omega
        have g2 : 0 < cc := by omega
        have hgz := HG.out _ hb03
        have fz : ∀ j, w3.frozen? ⟨w.heap.size, j, none⟩ = false := fun j => frozen_row hgz
        have f0 := fz 0; have f1 := fz 1; have f2 := fz 2; have f3 := fz 3; have f4 := fz 4; have f5 := fz 5
        obtain ⟨d0, d1, d2, d3, d4, d5⟩ := CZ.out _ hb03
        have HGz := Lib.hid hgz
        clear fz hgz hc0 hg3
        go_wp2_with fail
        go_region
        go_wp2_with fail
        first
          | exact rof_zero_drew rfl rfl HR.out HGz.out hbw3
          | exact rof_zero rfl rfl HR.out HGz.out hbw3
      have HK0 : Hid ((keysE (kindF p) s).code = 0) := Lib.hid (by rw [hKE.out, hc0])
      have g1 : decide ((0 : Int) < (cc : Int)) = false := by simp [hc0]
      have g2 : decide (0 < cc) = false := by simp [hc0]
      clear hc0 hg3
      go_wp2_with fail
      refine (refKeys_any _ q w3 HU3.out (by omega)).mono ?_
      rintro e w4 ⟨v4, rfl, hown, hb4⟩
      go_wp2_with fail
      go_meet
      exact ⟨by rw [hKL.out]; exact hown.at encI_enc, HK0, hb03.trans (hb4.mono hb03.size)⟩
    · have hKE : Hid ((keysE (kindF p) s).code = (goneE s).code) := Lib.hid (by rw [hk]; unfold keysE; rw [if_pos rfl, noPlace_code])
      have hKL : Hid (keysL (kindF p) s = goneL s) := Lib.hid (by rw [hk]; exact if_pos rfl)
      have g : (kindF p == [100, 97, 116, 97]) = false := by rw [hk]; rfl
      rw [g]
      clear hk g
      go_wp2_with fail
      refine (HRg.out _).mono ?_
      rintro e w2 ⟨u, rfl, hu, hb2⟩
      have hbw2 := hba.trans (hb2.mono hba.size)
      rw [show faultOf (goneE s) = .agg #[.int .i64 ((goneE s).code : Nat), .int .i64 (goneE s).place] from rfl]
      have hu' := hu.here
      obtain ⟨a, c, rfl, -, -⟩ := hu'.form'
      have HU := Lib.hid hu'
      clear hu hu'
      obtain ⟨cc, hcc⟩ : ∃ cc : Nat, (goneE s).code = cc := ⟨_, rfl⟩
      obtain ⟨pp, hpp⟩ : ∃ pp : Int, (goneE s).place = pp := ⟨_, rfl⟩
      rw [hcc] at hKE ⊢
      rw [hpp]
      have hb3 : Below w2.heap.size w2 (w2.alloc (.cells #[.int .i64 (cc : Nat), .int .i64 pp] 58)) := (Below.refl _ _).alloc (Nat.le_refl _) _
      have hg3 := heap_alloc_new w2 (.cells #[.int .i64 (cc : Nat), .int .i64 pp] 58)
      have hb03 := hb2.trans (hb3.mono hb2.size)
      have hbw3 := hba.trans (hb03.mono hba.size)
      have HU3 := Lib.hid (HU.out.below hb3)
      have hql2 : (goneL s).length ≤ 50001 := by have h1 := hql; rw [hKL.out] at h1; omega
      generalize goneL s = q at *
      clear hcc hpp
      go_upto_region 11 with fail
      generalize w2.alloc (.cells #[.int .i64 (cc : Nat), .int .i64 pp] 58) = w3 at *
      obtain ⟨G, hG⟩ : ∃ G, w2.heap.size = G := ⟨_, rfl⟩
      rw [hG] at hg3 ⊢
      have e0 : w3.cell? ⟨G, 0, none⟩ = some (.int .i64 (cc : Nat)) := by rw [cell_of_row w3 _ _ _ _ (0, 0) hg3]; rfl
      have hGn : ¬ G = w.heap.size := by have := hbw2.size; have := hba.size; have := HSz.out; have := hb2.size; omega
      have hGn' : ¬ w.heap.size = G := fun e => hGn e.symm
      clear hG
      by_cases hc0 : cc = 0
      case neg =>
        have HR : Hid (ofText p pt s sq = (zeroF, cc)) := Lib.hid (by rw [HKeys.out HPn.out (by rw [hKE.out]; exact hc0), hKE.out])
        have g1 : (0 : Int) < (cc : Int) := by omega
        have g2 : 0 < cc := by omega
        have hgz := HG.out _ hb03
        have fz : ∀ j, w3.frozen? ⟨w.heap.size, j, none⟩ = false := fun j => frozen_row hgz
        have f0 := fz 0; have f1 := fz 1; have f2 := fz 2; have f3 := fz 3; have f4 := fz 4; have f5 := fz 5
        obtain ⟨d0, d1, d2, d3, d4, d5⟩ := CZ.out _ hb03
        have HGz := Lib.hid hgz
        clear fz hgz hc0 hg3
        go_wp2_with fail
        go_region
        go_wp2_with fail
        first
          | exact rof_zero_drew rfl rfl HR.out HGz.out hbw3
          | exact rof_zero rfl rfl HR.out HGz.out hbw3
      have HK0 : Hid ((keysE (kindF p) s).code = 0) := Lib.hid (by rw [hKE.out, hc0])
      have g1 : decide ((0 : Int) < (cc : Int)) = false := by simp [hc0]
      have g2 : decide (0 < cc) = false := by simp [hc0]
      clear hc0 hg3
      go_wp2_with fail
      go_meet
      exact ⟨by rw [hKL.out]; exact HU3.out, HK0, hb03⟩
  case rest =>
    obtain ⟨hu, HK0, hb1⟩ := hcut
    obtain ⟨w1, rfl⟩ : ∃ w1, w1 = wc := ⟨wc, rfl⟩
    obtain ⟨q, hq⟩ : ∃ q, keysL (kindF p) s = q := ⟨_, rfl⟩
    have HO2 := Lib.hid (HO.out q hq)
    rw [hq] at hu hql
    have hbw1 := hba.trans (hb1.mono hba.size)
    obtain ⟨a, c, rfl, -, -⟩ := hu.form'
    have HU := Lib.hid hu
    clear hu hq HNo HO hkk
    obtain ⟨lo, hlo⟩ : ∃ lo, (endsI q).1 = lo := ⟨_, rfl⟩
    obtain ⟨hi, hhi⟩ : ∃ hi, (endsI q).2 = hi := ⟨_, rfl⟩
    have HE := Lib.hid (refEnds_any _ q w1 HU.out)
    rw [hlo, hhi] at HE HO2
    clear hlo hhi
    go_wp2_with fail
    refine HE.out.mono ?_
    rintro e wx ⟨rfl, rfl⟩
    have hbaY : Below w1.heap.size w1 (w1.alloc (.cells #[S p, S pt, .int .i64 q.length, .int .i64 lo, .int .i64 hi, .int .i64 sq] 44)) := (Below.refl _ _).alloc (Nat.le_refl _) _
    have CY := Lib.hid (fun W (h : Below (w1.alloc (.cells #[S p, S pt, .int .i64 q.length, .int .i64 lo, .int .i64 hi, .int .i64 sq] 44)).heap.size (w1.alloc (.cells #[S p, S pt, .int .i64 q.length, .int .i64 lo, .int .i64 hi, .int .i64 sq] 44)) W) => fileCells (f := ⟨p, pt, q.length, lo, hi, sq⟩) (w := w1) rfl h)
    have hb02 := hb1.trans (hbaY.mono hb1.size)
    have hbw2 := hba.trans (hb02.mono hba.size)
    have hfl : ofFile p pt s sq = ⟨p, pt, q.length, lo, hi, sq⟩ := HO2.out
    go_upto_region 16 with fail
    generalize w1.alloc (.cells #[S p, S pt, .int .i64 q.length, .int .i64 lo, .int .i64 hi, .int .i64 sq] 44) = w2 at *
    obtain ⟨T, hT⟩ : ∃ T, w1.heap.size = T := ⟨_, rfl⟩
    rw [hT] at CY ⊢
    obtain ⟨c0, c1, c2, c3, c4, c5⟩ := CY.out _ (Below.refl _ _)
    have HCk := Lib.hid (fileError_any ⟨p, pt, q.length, lo, hi, sq⟩ w2 ⟨HMid.out.1, HMid.out.2⟩)
    have hbad := HBad.out HPn.out (by rw [HK0.out]; simp)
    have hfine := HFine.out HPn.out (by rw [HK0.out]; simp)
    rw [hfl] at hbad hfine
    have HBa := Lib.hid hbad; have HFi := Lib.hid hfine
    clear hbad hfine hfl hT HBad HFine HKeys
    obtain ⟨ce, hce⟩ : ∃ ce, checkF ⟨p, pt, (q.length : Int), lo, hi, sq⟩ = ce := ⟨_, rfl⟩
    rw [hce] at HCk HBa HFi
    clear hce
    go_wp2_with fail
    refine HCk.out.mono ?_
    rintro e w3 ⟨rfl, hb3⟩
    have hb03 := hb02.trans (hb3.mono hb02.size)
    have hbw3 := hbw2.trans (hb3.mono hbw2.size)
    clear c0 c1 c2 c3 c4 c5
    obtain ⟨c0, c1, c2, c3, c4, c5⟩ := CY.out _ hb3
    have hgz := HG.out _ hb03
    have fz : ∀ j, w3.frozen? ⟨w.heap.size, j, none⟩ = false := fun j => frozen_row hgz
    have f0 := fz 0; have f1 := fz 1; have f2 := fz 2; have f3 := fz 3; have f4 := fz 4; have f5 := fz 5
    obtain ⟨d0, d1, d2, d3, d4, d5⟩ := CZ.out _ hb03
    have HGz := Lib.hid hgz
    clear fz hgz
    by_cases hc0 : ce = 0
    case neg =>
      have HR : Hid (ofText p pt s sq = (zeroF, ce)) := Lib.hid (HBa.out hc0)
      have g1 : (0 : Int) < (ce : Int) := by omega
      have g2 : 0 < ce := by omega
      clear hc0
      go_wp2_with fail
      exact rof_zero rfl rfl HR.out HGz.out hbw3
    have HR : Hid (ofText p pt s sq = (⟨p, pt, q.length, lo, hi, sq⟩, 0)) := Lib.hid (HFi.out hc0)
    have g1 : decide ((0 : Int) < (ce : Int)) = false := by simp [hc0]
    have g2 : decide (0 < ce) = false := by simp [hc0]
    clear hc0
    go_wp2_with fail
    exact rof_end (x := ⟨p, pt, q.length, lo, hi, sq⟩) rfl rfl HR.out HGz.out hbw3
end Go.Proofs.YtefoaeamfkbgbaaGreatDoor
namespace Go.Proofs.YtefoaeamfkbgbaaGreatDoor
open Go.RowKit Go.Maps

theorem textPc_gone {p : Pc} (h : p.part = [45]) : textPc p = madeT p.keys := if_pos h
theorem textPc_data {p : Pc} (h : p.part ≠ [45]) : textPc p = makeT p.rows := if_neg h
set_option maxHeartbeats 4000000 in
set_option maxRecDepth 20000 in
theorem tableL_any (E : Nat → Addr) (B : Nat) (v : Value) (l : List Pc) (w : World) (hE : Errs [2, 5, 7, 8, 12] E B w) (hl : PiecesAt w v l) (hh : HeldPc w l) (hs : shortPcs l) :
    Calls Tryz.prog 9 #[v] w fun e w' => ∃ sb mb xb vm u, e = .returned (.tuple #[stP sb, stP xb, u]) ∧ Twin w sb mb xb vm (tableTb l).1 w' ∧ FilesAt w' u (tableTb l).2 := by
  have hBw := hE.le
  have hT0 := TbOk.of (l := l) (fun p hp => (hs.2 p hp).2.2.1) (by have := hs.1; omega)
  have HTk := Lib.hid (fun k => TbOk.of (l := l.take k) (fun p hp => (hs.2 p (List.mem_of_mem_take hp)).2.2.1) (by rw [List.length_take]; have := hs.1; omega))
  have HE := Lib.hid hE
  have HSh := Lib.hid hs
  have HHe := Lib.hid hh
  obtain ⟨a, c, b, o, rfl, ha, hc, hcm, hx⟩ := hl
  unfold maxLen at hcm
  have HX := Lib.hid hx
  clear hE hs hx hT0 hh
  go_enter Tryz.func9, Tryz.ntmps9
  go_wp2_with fail
  refine (new_any w).mono ?_
  rintro e w1 ⟨sb, mb, rfl, hst, hsb, hmb, hb1⟩
  go_wp2_with fail
  refine (newMod_any w1).mono ?_
  rintro e w2 ⟨xb, rfl, hxb, hmd, hb2⟩
  have htw : Twin w sb mb xb (.slice none 0 0) St.new w2 := ⟨hst.below hb2, ⟨hmd.blk, Own.nil _ _ _ _ _, hmd.ok⟩, hb1.trans (hb2.mono hb1.size), hsb, hmb, Nat.le_trans hb1.size hxb, by have := hst.lt; omega, by have := hst.ltm; omega⟩
  have HTw := Lib.hid htw
  clear hst hsb hmb hxb hmd hb1 hb2 htw
  go_wp2_with fail
  go_loopw [7, 8] (fun u i wr => ∃ (k : Nat) (vm : Value), k ≤ l.length ∧ i = .int .i64 k ∧ Hid (Twin w sb mb xb vm (tableTb (l.take k)).1 wr) ∧ Hid (FilesAt wr u (tableTb (l.take k)).2)) (fun _ i _ => l.length - (intOf i).toNat)
  case atStart => exact ⟨0, _, by omega, rfl, Lib.hid (by rw [List.take_zero]; exact HTw.out), Lib.hid (by rw [List.take_zero]; exact At.nil _ _ _)⟩
  case round =>
    obtain ⟨k, vm, hk, rfl, htw, hfl⟩ := hrel
    rename_i uf _
    obtain ⟨wo, rfl⟩ : ∃ wo, wo = wr := ⟨wr, rfl⟩
    by_cases hlt : k < l.length
    case neg =>
      obtain rfl : k = l.length := by omega
      have f1 : decide ((l.length : Int) < (l.length : Int)) = false := by simp
      have h1 := htw.out
      have h2 := hfl.out
      rw [List.take_length] at h1 h2
      have H1 := Lib.hid h1
      have H2 := Lib.hid h2
      clear h1 h2
      go_wp2_with fail
      go_ret3
      exact ⟨_, _, _, _, _, rfl, H1.out, H2.out⟩
    have f1 : (k : Int) < (l.length : Int) := by omega
    obtain ⟨x, hxk⟩ := get_ex hlt
    obtain ⟨c0, c1, c2, c3, c4, c5⟩ := pcCells HX.out htw.out.bel hxk
    have i1 := idx_at (c := c) 6 Tryz.underlying22 szPc ha k hlt
    obtain ⟨hrw, hks⟩ := HHe.out x (List.mem_of_getElem? hxk)
    have hsx := HSh.out.2 x (List.mem_of_getElem? hxk)
    have hsn := tableTb_snoc (l.take k) x
    rw [← take_snoc' hxk] at hsn
    have HSn := Lib.hid hsn
    have HTb := Lib.hid (HTk.out k)
    obtain ⟨ar, cr, hvr, -, -⟩ := At.form' hrw
    obtain ⟨ak, ck, hvk, -, -⟩ := At.form' hks
    rw [hvr] at c3 hrw
    rw [hvk] at c4 hks
    have hA : Below wo.heap.size wo (wo.alloc (.cells #[S x.path, S x.part, S x.spoil, .slice ar x.rows.length cr, .slice ak x.keys.length ck, .int .i64 x.seq] 72)) := (Below.refl _ _).alloc (Nat.le_refl _) _
    have hgA := heap_alloc_new wo (.cells #[S x.path, S x.part, S x.spoil, .slice ar x.rows.length cr, .slice ak x.keys.length ck, .int .i64 x.seq] 72)
    have HTA := Lib.hid (htw.out.below hA)
    have HFA := Lib.hid (hfl.out.below hA)
    have HRA := Lib.hid (hrw.below (htw.out.bel.trans (hA.mono htw.out.bel.size)))
    have HKA := Lib.hid (hks.below (htw.out.bel.trans (hA.mono htw.out.bel.size)))
    have HL : Hid (sb < wo.heap.size ∧ mb < wo.heap.size ∧ xb < wo.heap.size) := Lib.hid ⟨htw.out.sto.lt, htw.out.sto.ltm, htw.out.mdl.lt⟩
    have HSx := Lib.hid hsx
    clear hxk hrw hks hsx hsn htw hfl hvr hvk
    go_upto_region 8 with fail
    clear c0 c1 c2 c3 c4 c5 i1
    generalize wo.alloc (.cells #[S x.path, S x.part, S x.spoil, .slice ar x.rows.length cr, .slice ak x.keys.length ck, .int .i64 x.seq] 72) = wA at *
    obtain ⟨P, hP⟩ : ∃ P, wo.heap.size = P := ⟨_, rfl⟩
    rw [hP] at hgA HL ⊢
    clear hP hA
    have HC := Lib.hid (fun W (h : Below wA.heap.size wA W) => by
      have hg := (h.block P (Array.getElem?_eq_some_iff.1 hgA).1).trans hgA
      have c0 : W.cell? ⟨P, 0, none⟩ = some (S x.path) := by rw [cell_of_row W _ _ _ _ (0, 0) hg]; rfl
      have c1 : W.cell? ⟨P, 1, none⟩ = some (S x.part) := by rw [cell_of_row W _ _ _ _ (0, 0) hg]; rfl
      have c2 : W.cell? ⟨P, 2, none⟩ = some (S x.spoil) := by rw [cell_of_row W _ _ _ _ (0, 0) hg]; rfl
      have c3 : W.cell? ⟨P, 3, none⟩ = some (.slice ar x.rows.length cr) := by rw [cell_of_row W _ _ _ _ (0, 0) hg]; rfl
      have c4 : W.cell? ⟨P, 4, none⟩ = some (.slice ak x.keys.length ck) := by rw [cell_of_row W _ _ _ _ (0, 0) hg]; rfl
      have c5 : W.cell? ⟨P, 5, none⟩ = some (.int .i64 x.seq) := by rw [cell_of_row W _ _ _ _ (0, 0) hg]; rfl
      exact (⟨c0, c1, c2, c3, c4, c5⟩ : _ ∧ _ ∧ _ ∧ _ ∧ _ ∧ _))
    have HPA := Lib.hid (Array.getElem?_eq_some_iff.1 hgA).1
    clear hgA
    have HD := Lib.hid (dataOf_any _ x.rows wA HRA.out (by have := HSx.out.2.2.2.1.1; omega) (fun r hr => by have := HSx.out.2.2.2.1.2 r hr; omega))
    obtain ⟨q0, q1, q2, q3, q4, q5⟩ := HC.out wA (Below.refl _ _)
    have hfo : ∃ fc fp : Int, faultOf (makeE x.rows) = .agg #[.int .i64 fc, .int .i64 fp] := ⟨_, _, rfl⟩
    obtain ⟨fc, fp, hfo⟩ := hfo
    rw [hfo] at HD
    clear hfo
    go_wp2_with fail
    refine HD.out.mono ?_
    rintro e w3 ⟨rfl, hb3⟩
    have hb4 := hb3.alloc hb3.size (.cells #[.int .i64 fc, .int .i64 fp] 58)
    clear q0 q1 q2 q3 q4 q5
    go_upto_region 9 with fail
    generalize w3.alloc (.cells #[.int .i64 fc, .int .i64 fp] 58) = w4 at *
    have HL4 := Lib.hid hb4
    clear hb3 HD
    rcases Decidable.em (x.part = [45]) with hpt | hpt
    case' inl =>
      have g : (x.part == [45]) = true := by rw [hpt]; rfl
      have HTx := Lib.hid (textPc_gone hpt)
      have HGo := Lib.hid (goneOf_any (.slice ak x.keys.length ck) x.keys w4 (HKA.out.below HL4.out) (by have := HSx.out.2.2.2.2; omega))
      obtain ⟨gc, gp, hfo⟩ : ∃ fc fp : Int, faultOf (madeE x.keys) = .agg #[.int .i64 fc, .int .i64 fp] := ⟨_, _, rfl⟩
      rw [hfo] at HGo
      obtain ⟨q0, q1, q2, q3, q4, q5⟩ := HC.out w4 HL4.out
      clear hpt hfo
      go_wp2_with fail
      refine HGo.out.mono ?_
      rintro e w5 ⟨rfl, hb5⟩
      have HL5 := Lib.hid (HL4.out.trans (hb5.mono HL4.out.size))
      clear q0 q1 q2 q3 q4 q5 g HGo hb5 hb4
      go_upto_region 11 with fail
    case' inr =>
      have g : (x.part == [45]) = false := by rw [beq_eq_false_iff_ne]; exact hpt
      have HTx := Lib.hid (textPc_data hpt)
      obtain ⟨q0, q1, q2, q3, q4, q5⟩ := HC.out w4 HL4.out
      clear hpt
      go_upto_region 11 with fail
      clear q0 q1 q2 q3 q4 q5 g hb4
      have HL5 := HL4
      obtain ⟨w5, rfl⟩ : ∃ w5, w5 = w4 := ⟨w4, rfl⟩
    all_goals
      rw [← HTx.out]
      clear HTx
      have htl := textPc_len x
      obtain ⟨T, hT⟩ : ∃ T, textPc x = T := ⟨_, rfl⟩
      rw [hT] at htl ⊢
      have HT := Lib.hid hT
      have HTl := Lib.hid htl
      have hOf := refOfText_any x.path x.part T x.seq w5 (by have := HSx.out.1; omega) (by have := HSx.out.2.1; omega) (.inl (by omega)) (by omega)
      unfold RofPost at hOf
      obtain ⟨f, cc, hfc⟩ : ∃ f cc, ofText x.path x.part T x.seq = (f, cc) := ⟨(ofText x.path x.part T x.seq).1, (ofText x.path x.part T x.seq).2, rfl⟩
      rw [hfc] at hOf
      have HOf := Lib.hid hOf
      have HFc := Lib.hid hfc
      obtain ⟨q0, q1, q2, q3, q4, q5⟩ := HC.out w5 HL5.out
      clear hT htl hfc hOf
      go_wp2_with fail
      refine HOf.out.mono ?_
      rintro e w6 ⟨rfl, hb6⟩
      clear q0 q1 q2 q3 q4 q5
      unfold fileV
      have hb7 := hb6.alloc hb6.size (.cells #[S f.path, S f.part, .int .i64 f.n, .int .i64 f.lo, .int .i64 f.hi, .int .i64 f.seq] 44)
      have hg7 := heap_alloc_new w6 (.cells #[S f.path, S f.part, .int .i64 f.n, .int .i64 f.lo, .int .i64 f.hi, .int .i64 f.seq] 44)
      go_upto_region 12 with fail
      generalize w6.alloc (.cells #[S f.path, S f.part, .int .i64 f.n, .int .i64 f.lo, .int .i64 f.hi, .int .i64 f.seq] 44) = w7 at *
      obtain ⟨F, hF⟩ : ∃ F, w6.heap.size = F := ⟨_, rfl⟩
      rw [hF] at hg7 ⊢
      have HL7 := Lib.hid (HL5.out.trans (hb7.mono HL5.out.size))
      have HTA7 := Lib.hid (HTA.out.below HL7.out)
      have HFA7 := Lib.hid (HFA.out.below HL7.out)
      have hfi := findOf_any _ _ x.path w7 HFA7.out
      obtain ⟨ix, hix⟩ : ∃ ix, findV (tableTb (l.take k)).2 x.path = ix := ⟨_, rfl⟩
      rw [hix] at hfi
      have HFi := Lib.hid hfi
      have hgo : goesPc (tableTb (l.take k)).2 x = (decide (cc = 0) && decide (ix < 0)) := by unfold goesPc; rw [HT.out, HFc.out, hix]
      have HStay : Hid (¬ (cc = 0 ∧ ix < 0) → tableTb (l.take (k + 1)) = tableTb (l.take k)) := Lib.hid fun h => by
        rw [HSn.out]; unfold stepTb; rw [if_neg (by rw [hgo]; simpa using h)]
      have HGo : Hid (cc = 0 ∧ ix < 0 → tableTb (l.take (k + 1)) = (putS (tableTb (l.take k)).1 x.path (putPc x), placeF f (tableTb (l.take k)).2)) := Lib.hid fun h => by
        rw [HSn.out]; unfold stepTb; rw [if_pos (by rw [hgo]; simpa using h), HT.out, HFc.out]
      have HG7 := Lib.hid hg7
      obtain ⟨q0, q1, q2, q3, q4, q5⟩ := HC.out w7 HL7.out
      clear hgo hix hfi hg7 hb6 hb7 hF
      by_cases hcc : cc = 0
      case neg =>
        have g1 : (0 : Int) < (cc : Int) := by omega
        have g2 : 0 < cc := by omega
        have HS := Lib.hid (HStay.out (fun h => hcc h.1))
        clear hcc
        go_wp2_with fail
        go_roundw
        case rel => exact ⟨k + 1, vm, by omega, by go_num, Lib.hid (by rw [HS.out]; exact HTA7.out), Lib.hid (by rw [HS.out]; exact HFA7.out)⟩
        case measure => simp [intOf]; omega
      have g1 : decide ((0 : Int) < (cc : Int)) = false := by simp [hcc]
      have g2 : decide (0 < cc) = false := by simp [hcc]
      by_cases hi : ix < 0
      case neg =>
        have g3 : (0 : Int) ≤ ix := by omega
        have HS := Lib.hid (HStay.out (fun h => hi h.2))
        clear hcc hi
        go_wp2_with fail
        refine HFi.out.mono ?_
        rintro e w8 ⟨rfl, rfl⟩
        go_wp2_with fail
        go_roundw
        case rel => exact ⟨k + 1, vm, by omega, by go_num, Lib.hid (by rw [HS.out]; exact HTA7.out), Lib.hid (by rw [HS.out]; exact HFA7.out)⟩
        case measure => simp [intOf]; omega
      have g3 : decide ((0 : Int) ≤ ix) = false := by simp; omega
      have HS := Lib.hid (HGo.out ⟨hcc, hi⟩)
      clear hcc hi
      go_wp2_with fail
      refine HFi.out.mono ?_
      rintro e w8 ⟨rfl, rfl⟩
      clear q0 q1 q3 q4 q5
      go_upto_region 13 with fail
      have HMid := Lib.hid ((HTk.out (k + 1)).mid f (by rw [HS.out]; exact mem_placeF.2 (.inl rfl)))
      by_cases hsp : x.spoil = []
      case' pos =>
        have g : x.spoil.isEmpty = true := by rw [hsp]; rfl
        have gb : (x.spoil != []) = false := by rw [hsp]; rfl
        have HPc : Hid (putPc x = T) := Lib.hid (by unfold putPc; rw [if_pos hsp, HT.out])
        clear hsp
        go_upto_region 15 with fail
      case' neg =>
        have g : x.spoil.isEmpty = false := by cases hx : x.spoil with
          | nil => exact absurd hx hsp
          | cons _ _ => rfl
        have gb : (x.spoil != []) = true := by simpa using hsp
        have HPc : Hid (putPc x = x.spoil) := Lib.hid (by unfold putPc; rw [if_neg hsp])
        clear hsp
        go_upto_region 15 with fail
      all_goals
        clear q2 g gb
        have hpl := putPc_len (p := x) HSx.out.2.2.1
        rw [← HPc.out]
        clear HPc
        obtain ⟨U, hU⟩ : ∃ U, putPc x = U := ⟨_, rfl⟩
        rw [hU] at hpl HS ⊢
        have HUl := Lib.hid hpl
        obtain ⟨e0, e1, e2, e3, e4, e5⟩ := rowF6 HG7.out
        have HPl := Lib.hid (placed_any _ _ f w7 HFA7.out (by have h1 := (HTk.out k).len; have h2 := HSh.out.1; rw [List.length_take] at h1; omega) (HTk.out k).mid HMid.out)
        clear hU hpl
        go_wp2_with fail
        refine HPl.out.mono ?_
        rintro e w8 ⟨u8, rfl, hf8, hb8⟩
        have HT8 := Lib.hid (HTA7.out.below hb8)
        have HL8 := Lib.hid (HL7.out.trans (hb8.mono HL7.out.size))
        have HF8 := Lib.hid hf8
        have HPu := Lib.hid (put_any E B sb mb (tableTb (l.take k)).1 x.path U w8 (HE.out.below' HT8.out.bel hBw) HT8.out.sto (by have := HSx.out.1; omega) (by have := HUl.out; omega) (Nat.le_trans hBw HT8.out.h1) (Nat.le_trans hBw HT8.out.h2))
        obtain ⟨q0, -, -, -, -, -⟩ := HC.out w8 HL8.out
        clear e0 e1 e2 e3 e4 e5 hf8 hb8
        go_wp2_with fail
        refine HPu.out.mono ?_
        rintro e w9 ⟨ev, rfl, -, hst9, hb9⟩
        have HM9 := Lib.hid (HT8.out.half hb9)
        have HS9 := Lib.hid hst9
        have HB9 := Lib.hid hb9
        have q0' : w9.cell? ⟨P, 0, none⟩ = some (S x.path) := by
          rw [← q0]
          unfold World.cell?
          have := hb9.block P (Nat.lt_of_lt_of_le HPA.out HL8.out.size) (by have := HL.out; omega) (by have := HL.out; omega)
          simp only [this]
        have HPm := Lib.hid (putM_any w.heap.size xb vm (tableTb (l.take k)).1 x.path U w9 HM9.out (by have := HSx.out.1; omega) (by have := HUl.out; omega) (Nat.le_trans HT8.out.bel.size hb9.size))
        clear q0 hst9 hb9
        go_wp2_with fail
        refine HPm.out.mono ?_
        rintro e w10 ⟨vm', rfl, hm10, hb10⟩
        have HT10 := Lib.hid (HT8.out.turn HS9.out HB9.out hm10 hb10)
        have HF10 := Lib.hid (at_turn (at_turn HF8.out (fun _ => rfl) (by decide) HB9.out HT8.out.sto.thin.1 HT8.out.sto.thin.2) (fun _ => rfl) (by decide) hb10 HM9.out.thin HM9.out.thin)
        clear q0' hm10 hb10
        go_wp2_with fail
        go_roundw
        case rel => exact ⟨k + 1, vm', by omega, by go_num, Lib.hid (by rw [HS.out]; exact HT10.out), Lib.hid (by rw [HS.out]; exact HF10.out)⟩
        case measure => simp [intOf]; omega
end Go.Proofs.YtefoaeamfkbgbaaGreatDoor
namespace Go.Proofs.YtefoaeamfkbgbaaGreatDoor
open Go.RowKit

abbrev rsQ : List Rw := [⟨[97], 1, 5⟩, ⟨[97], 2, 6⟩]
abbrev pQ1 : Str := [100, 97, 116, 97, 47, 49]
abbrev pQ2 : Str := [103, 111, 110, 101, 47, 50]
abbrev fD1 : Fl := ⟨pQ1, [97], 2, 1, 2, 1⟩
abbrev fG2 : Fl := ⟨pQ2, [45], 1, 2, 2, 2⟩
theorem all_rsQ : ∀ r ∈ rsQ, rowCheck r = 0 := fun r hr => by
  simp only [List.mem_cons, List.mem_nil_iff, or_false] at hr
  rcases hr with rfl | rfl <;> decide
theorem sort_rsQ : sortR rsQ = rsQ := by decide
theorem made_rsQ : makeE rsQ = .nil := by
  refine makeE_fine (by decide) fun j hj => ?_
  unfold rowF
  rw [List.getElem?_eq_getElem hj]
  exact all_rsQ _ (List.getElem_mem hj)
theorem text_rsQ : makeT rsQ = dataText rsQ := by rw [make_text made_rsQ, sort_rsQ]
theorem up_rsQ : upR rsQ := by have := sort_up rsQ; rwa [sort_rsQ] at this
theorem read_rsQ : dataE (dataText rsQ) = .nil ∧ dataL (dataText rsQ) = rsQ := dataRead_text up_rsQ all_rsQ (by decide)
theorem near_two : ∀ n ∈ [(2 : Int)], ¬ farN n := fun n hn => by
  rw [List.mem_singleton.1 hn]; unfold farN; omega
theorem made_two1 : madeE [2] = .nil := by
  unfold madeE
  rw [show risOf [2] = [2] by decide, if_neg (by decide)]
  refine firstErr_all fun j hj => ?_
  unfold farF
  rw [List.getElem?_eq_getElem hj]
  simp only
  rw [if_neg (near_two _ (List.getElem_mem hj))]
theorem text_two1 : madeT [2] = goneText [2] := by unfold madeT; rw [if_pos made_two1, show risOf [2] = [2] by decide]
theorem read_two1 : goneE (goneText [2]) = .nil ∧ goneL (goneText [2]) = [2] := goneRead_text (by unfold upI; simp) near_two (by decide)
theorem itoa_1 : Lib.itoa 1 = [49] := (Lib.itoa_nonneg 1).trans (Lib.decDigits_one (by decide))
theorem path_d1 : pathF pQ1 = some (kData, 1) := by
  have hc : Lib.cut pQ1 [47] = (kData, [49], true) := cut_app1 (p := kData) (q := [49]) (by decide)
  have hn : numOf [49] = some 1 := (numOf_iff _ 1).2 ⟨by decide, itoa_1⟩
  unfold pathF
  rw [hc, if_pos ⟨rfl, .inl rfl⟩]
  show (numOf [49]).bind _ = _
  rw [hn]
  rfl
theorem path_g2 : pathF pQ2 = some (kGone, 2) := by
  have hc : Lib.cut pQ2 [47] = (kGone, [50], true) := cut_app1 (p := kGone) (q := [50]) (by decide)
  have hn : numOf [50] = some 2 := (numOf_iff _ 2).2 ⟨by decide, itoa_2⟩
  unfold pathF
  rw [hc, if_pos ⟨rfl, .inr rfl⟩]
  show (numOf [50]).bind _ = _
  rw [hn]
  rfl
theorem kind_d1 : kindF pQ1 = kData := by unfold kindF; rw [path_d1]; rfl
theorem kind_g2 : kindF pQ2 = kGone := by unfold kindF; rw [path_g2]; rfl
theorem check_d1 : checkF fD1 = 0 := checkF_right (f := fD1) path_d1 (by rw [kind_d1]; decide) (by unfold boundF farN; decide)
theorem check_g2 : checkF fG2 = 0 := checkF_right (f := fG2) path_g2 (by rw [kind_g2]; decide) (by unfold boundF farN; decide)
theorem of_d1 : ofText pQ1 [97] (dataText rsQ) 1 = (fD1, 0) := by
  have hE : keysE kData (dataText rsQ) = .nil := by unfold keysE; rw [if_neg (by decide), read_rsQ.1]; rfl
  have hL : keysL kData (dataText rsQ) = [1, 2] := by unfold keysL; rw [if_neg (by decide), read_rsQ.2]; rfl
  have hf : ofFile pQ1 [97] (dataText rsQ) 1 = fD1 := by
    unfold ofFile
    rw [kind_d1, hL]
    rfl
  rw [ofText_fine (by rw [path_d1]; simp) (by rw [kind_d1, hE]; simp [Er.code]) (by rw [hf]; exact check_d1), hf]
theorem of_g2 : ofText pQ2 [45] (goneText [2]) 2 = (fG2, 0) := by
  have hE : keysE kGone (goneText [2]) = .nil := by unfold keysE; rw [if_pos rfl, read_two1.1]; rfl
  have hL : keysL kGone (goneText [2]) = [2] := by unfold keysL; rw [if_pos rfl, read_two1.2]
  have hf : ofFile pQ2 [45] (goneText [2]) 2 = fG2 := by
    unfold ofFile
    rw [kind_g2, hL]
    rfl
  rw [ofText_fine (by rw [path_g2]; simp) (by rw [kind_g2, hE]; simp [Er.code]) (by rw [hf]; exact check_g2), hf]
def st1Q : St := { St.new with objs := putO ⟨pQ1, dataText rsQ, 0⟩ [] }
def st2Q : St := { st1Q with objs := putO ⟨pQ2, goneText [2], 0⟩ st1Q.objs }
theorem len_d1 : (dataText rsQ).length ≤ 2700 := by have := dataText_len all_rsQ (by decide); omega
theorem len_g2 : (goneText [2]).length ≤ 1100 := by have := goneText_len near_two (by decide); omega
theorem put_d1 : putE St.new pQ1 (dataText rsQ) = .nil ∧ putS St.new pQ1 (dataText rsQ) = st1Q :=
  put_fine (path_name path_d1) (by have := len_d1; omega) rfl rfl rfl (by decide) (by have := len_d1; show 0 + _ ≤ _; omega)
theorem put_g2 : putE st1Q pQ2 (goneText [2]) = .nil ∧ putS st1Q pQ2 (goneText [2]) = st2Q := by
  refine put_fine (path_name path_g2) (by have := len_g2; omega) rfl rfl ?_ ?_ ?_
  · show getO (putO ⟨pQ1, dataText rsQ, 0⟩ []) pQ2 = none
    rw [getO_put_other List.Pairwise.nil (x := ⟨pQ1, dataText rsQ, 0⟩) rfl (by decide)]
    rfl
  · show (putO ⟨pQ1, dataText rsQ, 0⟩ []).length < 200
    rw [putO_length]; decide
  · show total (putO ⟨pQ1, dataText rsQ, 0⟩ []) + _ ≤ _
    rw [total_putO]
    have h1 := len_d1
    have h2 := len_g2
    show (0 + (dataText rsQ).length) + _ ≤ _ 
    omega
theorem st2Q_objs : getO st2Q.objs pQ1 = some ⟨pQ1, dataText rsQ, 0⟩ ∧ getO st2Q.objs pQ2 = some ⟨pQ2, goneText [2], 0⟩ := by
  have hr : Rising st1Q.objs := putO_rising List.Pairwise.nil rfl
  have hn : getO st1Q.objs pQ2 = none := by
    show getO (putO ⟨pQ1, dataText rsQ, 0⟩ []) pQ2 = none
    rw [getO_put_other List.Pairwise.nil (x := ⟨pQ1, dataText rsQ, 0⟩) rfl (by decide)]
    rfl
  refine ⟨?_, getO_put_same hr (x := ⟨pQ2, goneText [2], 0⟩) hn⟩
  show getO (putO ⟨pQ2, goneText [2], 0⟩ st1Q.objs) pQ1 = _
  rw [getO_put_other hr (x := ⟨pQ2, goneText [2], 0⟩) hn (by decide)]
  exact getO_put_same List.Pairwise.nil (x := ⟨pQ1, dataText rsQ, 0⟩) rfl
theorem st2Q_txt : ∀ o ∈ st2Q.objs, o.text.length ≤ 2700 := fun o ho => by
  rcases mem_putO.1 ho with rfl | ho
  · have := len_g2; show (goneText [2]).length ≤ _; omega
  rcases mem_putO.1 ho with rfl | ho
  · exact len_d1
  · cases ho
abbrev snQ : Sn := ⟨3, 0, 2, 0, 0, kAppend, [fD1, fG2]⟩
theorem fileE_d1 : fileE st2Q.objs fD1 = 0 := fileE_of (f := fD1) st2Q_objs.1 of_d1
theorem fileE_g2 : fileE st2Q.objs fG2 = 0 := fileE_of (f := fG2) st2Q_objs.2 of_g2
theorem right_snQ : RightSn snQ := by
  refine ⟨by decide, by decide, ⟨by decide, fun f hf => ?_, ?_⟩, fun f hf => ?_⟩
  · simp only [List.mem_cons, List.mem_nil_iff, or_false] at hf
    rcases hf with rfl | rfl
    · exact check_d1
    · exact check_g2
  · refine List.Pairwise.cons (fun f hf => ?_) (List.pairwise_singleton _ _)
    rw [List.mem_singleton.1 hf]
    show keyP pQ1 < keyP pQ2
    have e1 : keyP pQ1 = 2147483649 := by unfold keyP; rw [path_d1]; rfl
    have e2 : keyP pQ2 = 4294967298 := by unfold keyP; rw [path_g2]; rfl
    rw [e1, e2]; decide
  · simp only [List.mem_cons, List.mem_nil_iff, or_false] at hf
    rcases hf with rfl | rfl <;> decide
theorem rows_full : rowsE st2Q.objs snQ iMin iMax = .nil := rowsE_full.2 ⟨right_snQ, fun f hf => by
  simp only [List.mem_cons, List.mem_nil_iff, or_false] at hf
  rcases hf with rfl | rfl
  · exact fileE_d1
  · exact fileE_g2⟩
theorem rows_all : rowsL st2Q.objs snQ iMin iMax = [⟨[97], 1, 5⟩] := by
  have t1 : textO st2Q.objs pQ1 = dataText rsQ := by unfold textO; rw [st2Q_objs.1]; rfl
  have t2 : textO st2Q.objs pQ2 = goneText [2] := by unfold textO; rw [st2Q_objs.2]; rfl
  have r1 : rowsO st2Q.objs fD1 = rsQ := by unfold rowsO; rw [if_neg (by decide)]; show dataL (textO st2Q.objs pQ1) = _; rw [t1]; exact read_rsQ.2
  have r2 : rowsO st2Q.objs fG2 = [] := rowsO_gone (by decide)
  have k1 : keysO st2Q.objs fD1 = [] := keysO_data (by decide)
  have k2 : keysO st2Q.objs fG2 = [2] := by unfold keysO; rw [if_pos (by decide)]; show goneL (textO st2Q.objs pQ2) = _; rw [t2]; exact read_two1.2
  rw [rowsL_full rows_full]
  simp only [List.flatMap_cons, List.flatMap_nil, r1, r2, killed, List.any_cons, List.any_nil, k1, k2]
  decide
theorem rows_09 : rowsE st2Q.objs snQ 0 9 = .nil ∧ rowsL st2Q.objs snQ 0 9 = [⟨[97], 1, 5⟩] := by
  obtain ⟨h1, h2⟩ := rows_prune 0 9 rows_full
  exact ⟨h1, by rw [h2, rows_all]; decide⟩
end Go.Proofs.YtefoaeamfkbgbaaGreatDoor
namespace Go.Proofs.YtefoaeamfkbgbaaGreatDoor
open Go.RowKit Go.Maps

variable {α β : Type}
def insP (k : Str) (x : α) : List (Str × α) → List (Str × α)
  | [] => [(k, x)]
  | a :: r => if bef k a.1 then (k, x) :: a :: r else a :: insP k x r
def dropP (k : Str) (l : List (Str × α)) : List (Str × α) := l.filter (fun a => !(a.1 == k))
def putP (k : Str) (x : α) (l : List (Str × α)) : List (Str × α) := insP k x (dropP k l)
def getP (k : Str) (l : List (Str × α)) : Option α := (l.find? (fun a => a.1 == k)).map (·.2)
def RisP (l : List (Str × α)) : Prop := l.Pairwise (fun a b => bef a.1 b.1 = true)

theorem insP_perm (k : Str) (x : α) : ∀ l : List (Str × α), (insP k x l).Perm ((k, x) :: l)
  | [] => .refl _
  | a :: r => by
    unfold insP
    split
    · exact .refl _
    · exact ((insP_perm k x r).cons a).trans (.swap _ _ _)
theorem mem_putP {k : Str} {x : α} {l : List (Str × α)} {a : Str × α} : a ∈ putP k x l ↔ a = (k, x) ∨ (a ∈ l ∧ a.1 ≠ k) := by
  unfold putP
  rw [(insP_perm k x _).mem_iff, List.mem_cons]
  unfold dropP
  simp [List.mem_filter]
theorem insP_rising {k : Str} {x : α} : ∀ {l : List (Str × α)}, RisP l → (∀ a ∈ l, a.1 ≠ k) → RisP (insP k x l)
  | [], _, _ => by simp [insP, RisP]
  | a :: r, h, hn => by
    have hr : RisP r := (List.pairwise_cons.1 h).2
    have ha := (List.pairwise_cons.1 h).1
    unfold insP
    split
    · rename_i hb
      refine List.pairwise_cons.2 ⟨fun o ho => ?_, h⟩
      rcases List.mem_cons.1 ho with rfl | ho
      · exact hb
      · exact bef_trans hb (ha o ho)
    · rename_i hb
      have hba : bef a.1 k = true := bef_tri (fun e => hn a (by simp) e.symm) (by simpa using hb)
      refine List.pairwise_cons.2 ⟨fun o ho => ?_, insP_rising hr (fun o ho => hn o (List.mem_cons_of_mem _ ho))⟩
      rcases List.mem_cons.1 ((insP_perm k x r).mem_iff.1 ho) with rfl | ho
      · exact hba
      · exact ha o ho
theorem putP_rising {k : Str} {x : α} {l : List (Str × α)} (h : RisP l) : RisP (putP k x l) :=
  insP_rising (h.filter _) (fun a ha => by simpa using (List.mem_filter.1 ha).2)
theorem RisP.apart {l : List (Str × α)} (h : RisP l) : l.Pairwise (fun a b => a.1 ≠ b.1) := h.imp fun {a b} hb e => by rw [e, bef_irr] at hb; cases hb
theorem getP_none {k : Str} {l : List (Str × α)} : getP k l = none ↔ ∀ a ∈ l, a.1 ≠ k := by
  unfold getP; rw [Option.map_eq_none_iff, List.find?_eq_none]; simp
theorem getP_mem {k : Str} {x : α} {l : List (Str × α)} (h : getP k l = some x) : (k, x) ∈ l := by
  unfold getP at h
  obtain ⟨a, ha, rfl⟩ := Option.map_eq_some_iff.1 h
  have h1 := List.mem_of_find?_eq_some ha
  have h2 := List.find?_some ha
  have : a.1 = k := by simpa using h2
  rw [← this]; exact h1
theorem getP_of_mem {k : Str} {x : α} : ∀ {l : List (Str × α)}, RisP l → (k, x) ∈ l → getP k l = some x
  | a :: r, h, hm => by
    unfold getP
    rw [List.find?_cons]
    rcases List.mem_cons.1 hm with rfl | hm
    · simp
    · have hne : a.1 ≠ k := (List.pairwise_cons.1 h.apart).1 _ hm
      have : (a.1 == k) = false := by simpa using hne
      rw [this]
      exact getP_of_mem (List.pairwise_cons.1 h).2 hm
theorem getP_iff {k : Str} {x : α} {l : List (Str × α)} (h : RisP l) : getP k l = some x ↔ (k, x) ∈ l := ⟨getP_mem, getP_of_mem h⟩
theorem getP_put_same {k : Str} {x : α} {l : List (Str × α)} (h : RisP l) : getP k (putP k x l) = some x := getP_of_mem (putP_rising h) (mem_putP.2 (.inl rfl))
theorem getP_put_other {k j : Str} {x : α} {l : List (Str × α)} (h : RisP l) (hne : j ≠ k) : getP j (putP k x l) = getP j l := by
  apply Option.ext
  intro y
  rw [getP_iff (putP_rising h), getP_iff h, mem_putP]
  constructor
  · rintro (e | e)
    · exact absurd (congrArg Prod.fst e) hne
    · exact e.1
  · exact fun e => .inr ⟨e, hne⟩
theorem insP_keys (k : Str) (x : α) (y : β) : ∀ {l : List (Str × α)} {m : List (Str × β)}, l.map (·.1) = m.map (·.1) → (insP k x l).map (·.1) = (insP k y m).map (·.1)
  | [], [], _ => rfl
  | a :: r, b :: s, h => by
    simp only [List.map_cons, List.cons.injEq] at h
    unfold insP
    rw [h.1]
    split
    · simp [h.1, h.2]
    · simp only [List.map_cons, List.cons.injEq]; exact ⟨h.1, insP_keys k x y h.2⟩
theorem dropP_keys (k : Str) : ∀ {l : List (Str × α)} {m : List (Str × β)}, l.map (·.1) = m.map (·.1) → (dropP k l).map (·.1) = (dropP k m).map (·.1)
  | [], [], _ => rfl
  | a :: r, b :: s, h => by
    simp only [List.map_cons, List.cons.injEq] at h
    have ih := dropP_keys k h.2
    unfold dropP at ih ⊢
    rw [List.filter_cons, List.filter_cons, h.1]
    split
    · simp [h.1, ih]
    · exact ih
theorem putP_keys (k : Str) (x : α) (y : β) {l : List (Str × α)} {m : List (Str × β)} (h : l.map (·.1) = m.map (·.1)) : (putP k x l).map (·.1) = (putP k y m).map (·.1) :=
  insP_keys k x y (dropP_keys k h)
theorem getP_keys {k : Str} : ∀ {l : List (Str × α)} {m : List (Str × β)}, l.map (·.1) = m.map (·.1) → (getP k l = none ↔ getP k m = none) := fun {l m} h => by
  rw [getP_none, getP_none]
  have e : ∀ {γ : Type} (q : List (Str × γ)), (∀ a ∈ q, a.1 ≠ k) ↔ k ∉ q.map (·.1) := fun q => by
    simp only [List.mem_map, not_exists, not_and]
  rw [e, e, h]
theorem dropP_none {k : Str} {l : List (Str × α)} (h : getP k l = none) : dropP k l = l := by
  unfold dropP; rw [List.filter_eq_self]
  intro a ha
  simpa using getP_none.1 h a ha
theorem perm_drop {k : Str} {x : α} : ∀ {l : List (Str × α)}, RisP l → (k, x) ∈ l → l.Perm ((k, x) :: dropP k l)
  | a :: r, h, hm => by
    have hr : RisP r := (List.pairwise_cons.1 h).2
    unfold dropP
    rw [List.filter_cons]
    by_cases hk : a.1 = k
    · have hd : dropP k r = r := dropP_none (getP_none.2 fun b hb e => (List.pairwise_cons.1 h.apart).1 b hb (hk.trans e.symm))
      have hax : a = (k, x) := by
        rcases List.mem_cons.1 hm with e | e
        · exact e.symm
        · exact absurd hk ((List.pairwise_cons.1 h.apart).1 _ e)
      have : (!(a.1 == k)) = false := by simpa using hk
      rw [this]
      simp only [Bool.false_eq_true, if_false]
      unfold dropP at hd
      rw [hd, hax]
    · have : (!(a.1 == k)) = true := by simpa using hk
      rw [this, if_pos rfl]
      have hm' : (k, x) ∈ r := by
        rcases List.mem_cons.1 hm with e | e
        · exact absurd (congrArg Prod.fst e).symm hk
        · exact e
      exact ((perm_drop hr hm').cons a).trans (.swap _ _ _)

/-- Rows split by the names of their groups. -/
def splitG (f : Rw → Str) (l : List Rw) : List (Str × List Rw) := l.foldl (fun gs r => putP (f r) ((getP (f r) gs).getD [] ++ [r]) gs) []
theorem splitG_snoc (f : Rw → Str) (l : List Rw) (r : Rw) : splitG f (l ++ [r]) = putP (f r) ((getP (f r) (splitG f l)).getD [] ++ [r]) (splitG f l) := by
  unfold splitG; rw [List.foldl_append]; rfl
theorem snoc_ind {p : List Rw → Prop} (h0 : p []) (h1 : ∀ l r, p l → p (l ++ [r])) (l : List Rw) : p l := by
  rw [← List.reverse_reverse l]
  induction l.reverse with
  | nil => exact h0
  | cons a r ih => rw [List.reverse_cons]; exact h1 _ _ ih
theorem splitG_rising (f : Rw → Str) (l : List Rw) : RisP (splitG f l) :=
  snoc_ind (p := fun l => RisP (splitG f l)) List.Pairwise.nil (fun l r ih => by rw [splitG_snoc]; exact putP_rising ih) l
theorem splitG_mem (f : Rw → Str) (l : List Rw) : ∀ a ∈ splitG f l, a.2 ≠ [] ∧ ∀ r ∈ a.2, f r = a.1 := by
  refine snoc_ind (p := fun l => ∀ a ∈ splitG f l, a.2 ≠ [] ∧ ∀ r ∈ a.2, f r = a.1) (fun a h => by cases h) (fun l r ih a ha => ?_) l
  rw [splitG_snoc] at ha
  rcases mem_putP.1 ha with rfl | ⟨ha, -⟩
  · refine ⟨by simp, fun q hq => ?_⟩
    rcases List.mem_append.1 hq with hq | hq
    · cases hg : getP (f r) (splitG f l) with
      | none => rw [hg] at hq; cases hq
      | some m => rw [hg] at hq; exact (ih _ (getP_mem hg)).2 q hq
    · rw [List.mem_singleton.1 hq]
  · exact ih a ha
theorem splitG_perm (f : Rw → Str) (l : List Rw) : ((splitG f l).flatMap (·.2)).Perm l := by
  refine snoc_ind (p := fun l => ((splitG f l).flatMap (·.2)).Perm l) .nil (fun l r ih => ?_) l
  rw [splitG_snoc]
  have h1 : (putP (f r) ((getP (f r) (splitG f l)).getD [] ++ [r]) (splitG f l)).Perm ((f r, (getP (f r) (splitG f l)).getD [] ++ [r]) :: dropP (f r) (splitG f l)) := insP_perm _ _ _
  refine (h1.flatMap_right _).trans ?_
  rw [List.flatMap_cons]
  cases hg : getP (f r) (splitG f l) with
  | none =>
    rw [dropP_none hg]
    exact (List.perm_append_comm).trans (ih.append_right [r])
  | some m =>
    have h2 := (perm_drop (splitG_rising f l) (getP_mem hg)).flatMap_right (fun a : Str × List Rw => a.2)
    rw [List.flatMap_cons] at h2
    have h3 := h2.symm.trans ih
    show ((m ++ [r]) ++ (dropP (f r) (splitG f l)).flatMap (·.2)).Perm (l ++ [r])
    rw [List.append_assoc]
    refine (List.Perm.append_left m List.perm_append_comm).trans ?_
    rw [← List.append_assoc]
    exact h3.append_right [r]
theorem splitG_len (f : Rw → Str) (l : List Rw) : (splitG f l).length ≤ l.length ∧ ∀ a ∈ splitG f l, a.2.length ≤ l.length := by
  have h1 := (splitG_perm f l).length_eq
  rw [List.length_flatMap] at h1
  constructor
  · rw [← h1]
    have : ∀ q : List (Str × List Rw), (∀ a ∈ q, a.2 ≠ []) → q.length ≤ (q.map fun a => a.2.length).sum := fun q => by
      induction q with
      | nil => intro _; simp
      | cons a r ih =>
        intro h
        have h0 := h a (by simp)
        have := ih fun b hb => h b (List.mem_cons_of_mem _ hb)
        have h2 : 0 < a.2.length := List.length_pos_iff.2 h0
        simp only [List.length_cons, List.map_cons, List.sum_cons]
        omega
    exact this _ fun a ha => (splitG_mem f l a ha).1
  · intro a ha
    rw [← h1]
    have : ∀ q : List (Str × List Rw), a ∈ q → a.2.length ≤ (q.map fun a => a.2.length).sum := fun q => by
      induction q with
      | nil => intro h; cases h
      | cons b r ih =>
        intro h
        simp only [List.map_cons, List.sum_cons]
        rcases List.mem_cons.1 h with rfl | h
        · omega
        · have := ih h; omega
    exact this _ ha

/-- What a map of values reads as. -/
def heldR (v : Value) : Option (DataW Value × List MemPlace) := some (.held v, [])
def mapV (xs : List (Str × Value)) : DataW Value := .map (xs.map fun a => (.string a.1, .held a.2))
theorem insert_mapV (k : Str) (v : Value) : ∀ xs : List (Str × Value), DataW.insert (.string k, .held v) (xs.map fun a => (Lit.string a.1, DataW.held a.2)) = (insP k v xs).map fun a => (Lit.string a.1, DataW.held a.2)
  | [] => rfl
  | a :: r => by
    rw [List.map_cons, DataW.insert, insP]
    have : (Lit.string k).before (Lit.string a.1) = bef k a.1 := rfl
    rw [this]
    cases bef k a.1 with
    | true => rfl
    | false => simp only [Bool.false_eq_true, if_false, List.map_cons]; rw [insert_mapV k v r]
theorem put_mapV (k : Str) (v : Value) (xs : List (Str × Value)) : (mapV xs).put (.string k) (.held v) = mapV (putP k v xs) := by
  unfold mapV DataW.put putP
  simp only
  rw [← insert_mapV, List.filter_map]
  rfl
theorem at_mapV (k : Str) (z : Value) (xs : List (Str × Value)) : (mapV xs).atKey (.string k) (.held z) = .held ((getP k xs).getD z) := by
  unfold mapV DataW.atKey getP
  simp only
  rw [List.find?_map]
  have : ((fun p : Lit × DataW Value => p.1.sameKey (.string k)) ∘ fun a : Str × Value => (Lit.string a.1, DataW.held a.2)) = fun a : Str × Value => a.1 == k := by
    funext a; rfl
  rw [this]
  cases xs.find? (fun a => a.1 == k) <;> rfl
theorem size_mapV (xs : List (Str × Value)) : size (mapV xs) = xs.length := by unfold mapV; rw [size_eq, List.length_map]
theorem keys_mapV (xs : List (Str × Value)) : strKeys (mapV xs) = xs.map (·.1) := by
  unfold mapV strKeys
  simp [strOf]
end Go.Proofs.YtefoaeamfkbgbaaGreatDoor
