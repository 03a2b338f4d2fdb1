/- deedboxref1.OfText: the walk. deedboxlaw3.table: the walk. A closed fact of a table: plain. Of no program. Lists of named things, rising by name; rows split in groups: in plain words. A scan's reader in memory: rows, and keys that are gone, by paths. A change in memory; what turns only some blocks. (*scan.reader).read: the walk. slices.IndexFunc and ContainsFunc at []string and at []api.File, at whatever function value that answers by a plain predicate. -/
import Derived.Test.YtpfohfihkmjnaaaGreatDoorPk10
import Derived.Test.YtpfohfihkmjnaaaGreatDoorPk13
import Derived.Test.YtpfohfihkmjnaaaGreatDoorPk11
import Derived.Test.YtpfohfihkmjnaaaGreatDoorPk12
import Derived.Test.YtpfohfihkmjnaaaGreatDoorPk8
import Derived.Test.YtpfohfihkmjnaaaGreatDoorPk3
import Derived.OwnWalk
import Derived.Test.YtpfohfihkmjnaaaGreatDoorPk1
import Derived.Test.YtpfohfihkmjnaaaGreatDoorPk5
import Derived.Test.YtpfohfihkmjnaaaGreatDoorPk9
import Derived.Maps.OwnOps
import Derived.Deep.RegionWith
import Derived.Deep.DrawnRows
import Derived.Deep.RegionLaw
import Derived.Test.YtpfohfihkmjnaaaGreatDoorPk6
namespace Go.Proofs.YtpfohfihkmjnaaaGreatDoor
open Go.RowKit
def RofPost (p pt s : Str) (sq : Int) (w : World) (e : Ending) (w' : World) : Prop := e = .returned (.tuple #[fileV (ofText p pt s sq).1, .int .i64 ((ofText p pt s sq).2 : Nat)]) ∧ Below w.heap.size w w'
theorem rof_end {p pt s : Str} {sq : Int} {w W : World} {tmps : Array Value} {x : Fl} {c : Nat} (hp : tmps.getD 8 undef = .pointer (some ⟨w.heap.size, 0, none⟩)) (hv : tmps.getD 9 undef = .int .i64 (c : Nat)) (hr : ofText p pt s sq = (x, c))
    (hF : W.heap[w.heap.size]? = some (.cells #[S [], S [], .int .i64 0, .int .i64 0, .int .i64 0, .int .i64 0] 43 (0, 0))) (hb : Below w.heap.size w W) :
    bodyPost Tryz.prog Tryz.f34 (RofPost p pt s sq w) .ret ⟨tmps, []⟩ (six W w.heap.size 0 (S x.path) (S x.part) (.int .i64 x.n) (.int .i64 x.lo) (.int .i64 x.hi) (.int .i64 x.seq)) := by
  refine bodyPost_ret (ret_row rfl tmps _ w.heap.size 43 #[S x.path, S x.part, .int .i64 x.n, .int .i64 x.lo, .int .i64 x.hi, .int .i64 x.seq] (0, 0) _ hp (six_new hF _ _ _ _ _ _) Tryz.underlying43 rfl (by kernel_rfl)) rfl ⟨?_, six_below hb (Nat.le_refl _) _ _ _ _ _ _⟩
  rw [hr, hv]
theorem rof_zero {p pt s : Str} {sq : Int} {w W : World} {tmps : Array Value} {c : Nat} (hp : tmps.getD 8 undef = .pointer (some ⟨w.heap.size, 0, none⟩)) (hv : tmps.getD 9 undef = .int .i64 (c : Nat)) (hr : ofText p pt s sq = (zeroF, c))
    (hF : W.heap[w.heap.size]? = some (.cells #[S [], S [], .int .i64 0, .int .i64 0, .int .i64 0, .int .i64 0] 43 (0, 0))) (hb : Below w.heap.size w W) :
    bodyPost Tryz.prog Tryz.f34 (RofPost p pt s sq w) .ret ⟨tmps, []⟩ (six W w.heap.size 0 (.string ⟨#[]⟩) (.string ⟨#[]⟩) (.int .i64 0) (.int .i64 0) (.int .i64 0) (.int .i64 0)) := by
  refine bodyPost_ret (ret_row rfl tmps _ w.heap.size 43 #[.string ⟨#[]⟩, .string ⟨#[]⟩, .int .i64 0, .int .i64 0, .int .i64 0, .int .i64 0] (0, 0) _ hp (six_new hF _ _ _ _ _ _) Tryz.underlying43 rfl (by kernel_rfl)) rfl ⟨?_, six_below hb (Nat.le_refl _) _ _ _ _ _ _⟩
  rw [hr, hv]; rfl
theorem rof_zero_drew {p pt s : Str} {sq : Int} {w W : World} {tmps : Array Value} {c : Nat} (hp : tmps.getD 8 undef = .pointer (some ⟨w.heap.size, 0, none⟩)) (hv : tmps.getD 9 undef = .int .i64 (c : Nat)) (hr : ofText p pt s sq = (zeroF, c))
    (hF : W.heap[w.heap.size]? = some (.cells #[S [], S [], .int .i64 0, .int .i64 0, .int .i64 0, .int .i64 0] 43 (0, 0))) (hb : Below w.heap.size w W) :
    bodyPost Tryz.prog Tryz.f34 (RofPost p pt s sq w) .ret ⟨tmps, []⟩ (six W w.heap.size 0 (.string ⟨#[]⟩) (.string ⟨#[]⟩) (.int .i64 0) (.int .i64 0) (.int .i64 0) (.int .i64 0)).drew := by
  refine bodyPost_ret (ret_row rfl tmps _ w.heap.size 43 #[.string ⟨#[]⟩, .string ⟨#[]⟩, .int .i64 0, .int .i64 0, .int .i64 0, .int .i64 0] (0, 0) _ hp (by rw [World.heap_drew]; exact six_new hF _ _ _ _ _ _) Tryz.underlying43 rfl (by kernel_rfl)) rfl ⟨?_, Bdn (six_below hb (Nat.le_refl _) (.string ⟨#[]⟩) (.string ⟨#[]⟩) (.int .i64 0) (.int .i64 0) (.int .i64 0) (.int .i64 0)) 1⟩
  rw [hr, hv]; rfl
theorem pathE_none {p : Str} (h : pathF p = none) : pathE p = 5 := by unfold pathE; rw [h]; rfl
theorem pathE_some {p : Str} {kn} (h : pathF p = some kn) : pathE p = 0 := by unfold pathE; rw [h]; rfl
theorem kindF_some {p k : Str} {n : Int} (h : pathF p = some (k, n)) : kindF p = k := by unfold kindF; rw [h]; rfl
theorem noPlace_code (e : Er) : e.noPlace.code = e.code := by cases e <;> rfl
set_option maxHeartbeats 4000000 in
set_option maxRecDepth 20000 in
theorem refOfText_any (p pt s : Str) (sq : Int) (w : World) (hps : p.length ≤ 100000) (hts : pt.length ≤ 100000) (hs : s.length ≤ 10000 ∨ 20000 < s.length) (hs2 : s.length ≤ 50000) :
    Calls Tryz.prog 34 #[S p, S pt, S s, .int .i64 sq] w (RofPost p pt s sq w) := by
  have hba : Below w.heap.size w (w.alloc (.cells #[S [], S [], .int .i64 0, .int .i64 0, .int .i64 0, .int .i64 0] 43)) := (Below.refl w.heap.size w).alloc (Nat.le_refl _) _
  have CZ := Lib.hid (fun w6 (h : Below (w.alloc (.cells #[S [], S [], .int .i64 0, .int .i64 0, .int .i64 0, .int .i64 0] 43)).heap.size (w.alloc (.cells #[S [], S [], .int .i64 0, .int .i64 0, .int .i64 0, .int .i64 0] 43)) w6) => fileCells (f := zeroF) rfl h)
  have HG := Lib.hid (fun w6 (h : Below (w.alloc (.cells #[S [], S [], .int .i64 0, .int .i64 0, .int .i64 0, .int .i64 0] 43)).heap.size (w.alloc (.cells #[S [], S [], .int .i64 0, .int .i64 0, .int .i64 0, .int .i64 0] 43)) w6) => (h.block w.heap.size (by simp)).trans (heap_alloc_new w (.cells #[S [], S [], .int .i64 0, .int .i64 0, .int .i64 0, .int .i64 0] 43)))
  have HSz : Hid (w.heap.size < (w.alloc (.cells #[S [], S [], .int .i64 0, .int .i64 0, .int .i64 0, .int .i64 0] 43)).heap.size) := Lib.hid (by simp)
  have HPo := Lib.hid (fun W => pathOf_any p W hps)
  have HRd := Lib.hid (fun W => readData_any s W hs hs2)
  have HRg := Lib.hid (fun W => readGone_any s W hs2)
  have HNone := Lib.hid (@ofText_none p pt s sq)
  have HKeys := Lib.hid (@ofText_keys p pt s sq)
  have HBad := Lib.hid (@ofText_bad p pt s sq)
  have HFine := Lib.hid (@ofText_fine p pt s sq)
  have hql := keysL_len (kindF p) s
  have HMid : Hid (p.length ≤ 100000 ∧ pt.length ≤ 100000) := Lib.hid ⟨hps, hts⟩
  have hsl : s.length ≤ 50000 := hs2
  clear hps hts hs
  go_enter Tryz.func34, Tryz.ntmps34
  go_upto_region 1 with fail
  generalize w.alloc (.cells #[S [], S [], .int .i64 0, .int .i64 0, .int .i64 0, .int .i64 0] 43) = w0 at *
  go_wp2_with fail
  refine (HPo.out _).mono ?_
  rintro e w1 ⟨rfl, rfl⟩
  cases hpf : pathF p with
  | none =>
    rw [pathE_none hpf]
    have HR := Lib.hid (HNone.out hpf)
    clear hpf
    have hgz := HG.out _ (Below.refl _ _)
    have fz : ∀ j, w0.frozen? ⟨w.heap.size, j, none⟩ = false := fun j => frozen_row hgz
    have f0 := fz 0; have f1 := fz 1; have f2 := fz 2; have f3 := fz 3; have f4 := fz 4; have f5 := fz 5
    obtain ⟨d0, d1, d2, d3, d4, d5⟩ := CZ.out _ (Below.refl _ _)
    have HGz := Lib.hid hgz
    clear fz hgz
    go_wp2_with fail
    exact rof_zero rfl rfl HR.out HGz.out hba
  | some kn =>
  obtain ⟨k0, kn⟩ := kn
  rw [pathE_some hpf]
  have HPn : Hid (pathF p ≠ none) := Lib.hid (by rw [hpf]; simp)
  have hkk : kindF p = kData ∨ kindF p = kGone := by rw [kindF_some hpf]; exact (pathF_some hpf).1
  have HO : Hid (∀ q, keysL (kindF p) s = q → ofFile p pt s sq = ⟨p, pt, q.length, (endsI q).1, (endsI q).2, sq⟩) := Lib.hid fun q hq => by unfold ofFile; rw [hq]
  have HNo : Hid ((keysE (kindF p) s).code ≠ 0 → keysL (kindF p) s = []) := Lib.hid fun h => by
    unfold keysE at h
    unfold keysL
    split
    · rename_i hk
      rw [if_pos hk, noPlace_code] at h
      exact if_neg fun e => h (by rw [e]; rfl)
    · rename_i hk
      rw [if_neg hk, noPlace_code] at h
      rw [show dataL s = [] from if_neg fun e => h (by rw [e]; rfl)]; rfl
  clear hpf HNone HPo
  generalize numF p = nm at *
  go_upto_if 32 with fail
  go_cut [13] (fun u wx => IntsAt wx u (keysL (kindF p) s) ∧ Hid ((keysE (kindF p) s).code = 0) ∧ Below w0.heap.size w0 wx)
  case first =>
    rcases hkk with hk | hk
    · have hKE : Hid ((keysE (kindF p) s).code = (dataE s).code) := Lib.hid (by rw [hk]; unfold keysE; rw [if_neg (by decide), noPlace_code])
      have hKL : Hid (keysL (kindF p) s = keysR (dataL s)) := Lib.hid (by rw [hk]; exact if_neg (by decide))
      have g : (kindF p == [100, 97, 116, 97]) = true := by rw [hk]; rfl
      rw [g]
      clear hk g
      go_wp2_with fail
      refine (HRd.out _).mono ?_
      rintro e w2 ⟨u, rfl, hu, hb2⟩
      have hbw2 := hba.trans (hb2.mono hba.size)
      rw [show faultOf (dataE s) = .agg #[.int .i64 ((dataE s).code : Nat), .int .i64 (dataE s).place] from rfl]
      have hu' := hu.here
      obtain ⟨a, c, rfl, -, -⟩ := hu'.form'
      have HU := Lib.hid hu'
      clear hu hu'
      obtain ⟨cc, hcc⟩ : ∃ cc : Nat, (dataE s).code = cc := ⟨_, rfl⟩
      obtain ⟨pp, hpp⟩ : ∃ pp : Int, (dataE s).place = pp := ⟨_, rfl⟩
      rw [hcc] at hKE ⊢
      rw [hpp]
      have hb3 : Below w2.heap.size w2 (w2.alloc (.cells #[.int .i64 (cc : Nat), .int .i64 pp] 58)) := (Below.refl _ _).alloc (Nat.le_refl _) _
      have hg3 := heap_alloc_new w2 (.cells #[.int .i64 (cc : Nat), .int .i64 pp] 58)
      have hb03 := hb2.trans (hb3.mono hb2.size)
      have hbw3 := hba.trans (hb03.mono hba.size)
      have HU3 := Lib.hid (HU.out.below hb3)
      have hql2 : (dataL s).length ≤ 50001 := by have := dataL_len s; omega
      generalize dataL s = q at *
      clear hcc hpp
      go_upto_region 7 with fail
      generalize w2.alloc (.cells #[.int .i64 (cc : Nat), .int .i64 pp] 58) = w3 at *
      obtain ⟨G, hG⟩ : ∃ G, w2.heap.size = G := ⟨_, rfl⟩
      rw [hG] at hg3 ⊢
      have e0 : w3.cell? ⟨G, 0, none⟩ = some (.int .i64 (cc : Nat)) := by rw [cell_of_row w3 _ _ _ _ (0, 0) hg3]; rfl
      have hGn : ¬ G = w.heap.size := by have := hbw2.size; have := hba.size; have := HSz.out; have := hb2.size; omega
      have hGn' : ¬ w.heap.size = G := fun e => hGn e.symm
      clear hG
      by_cases hc0 : cc = 0
      case neg =>
        have HR : Hid (ofText p pt s sq = (zeroF, cc)) := Lib.hid (by rw [HKeys.out HPn.out (by rw [hKE.out]; exact hc0), hKE.out])
        have g1 : (0 : Int) < (cc : Int) := by omega
        have g2 : 0 < cc := by omega
        have hgz := HG.out _ hb03
        have fz : ∀ j, w3.frozen? ⟨w.heap.size, j, none⟩ = false := fun j => frozen_row hgz
        have f0 := fz 0; have f1 := fz 1; have f2 := fz 2; have f3 := fz 3; have f4 := fz 4; have f5 := fz 5
        obtain ⟨d0, d1, d2, d3, d4, d5⟩ := CZ.out _ hb03
        have HGz := Lib.hid hgz
        clear fz hgz hc0 hg3
        go_wp2_with fail
        go_region
        go_wp2_with fail
        first
          | exact rof_zero_drew rfl rfl HR.out HGz.out hbw3
          | exact rof_zero rfl rfl HR.out HGz.out hbw3
      have HK0 : Hid ((keysE (kindF p) s).code = 0) := Lib.hid (by rw [hKE.out, hc0])
      have g1 : decide ((0 : Int) < (cc : Int)) = false := by simp [hc0]
      have g2 : decide (0 < cc) = false := by simp [hc0]
      clear hc0 hg3
      go_wp2_with fail
      refine (refKeys_any _ q w3 HU3.out (by omega)).mono ?_
      rintro e w4 ⟨v4, rfl, hown, hb4⟩
      go_wp2_with fail
      go_meet
      exact ⟨by rw [hKL.out]; exact hown.at encI_enc, HK0, hb03.trans (hb4.mono hb03.size)⟩
    · have hKE : Hid ((keysE (kindF p) s).code = (goneE s).code) := Lib.hid (by rw [hk]; unfold keysE; rw [if_pos rfl, noPlace_code])
      have hKL : Hid (keysL (kindF p) s = goneL s) := Lib.hid (by rw [hk]; exact if_pos rfl)
      have g : (kindF p == [100, 97, 116, 97]) = false := by rw [hk]; rfl
      rw [g]
      clear hk g
      go_wp2_with fail
      refine (HRg.out _).mono ?_
      rintro e w2 ⟨u, rfl, hu, hb2⟩
      have hbw2 := hba.trans (hb2.mono hba.size)
      rw [show faultOf (goneE s) = .agg #[.int .i64 ((goneE s).code : Nat), .int .i64 (goneE s).place] from rfl]
      have hu' := hu.here
      obtain ⟨a, c, rfl, -, -⟩ := hu'.form'
      have HU := Lib.hid hu'
      clear hu hu'
      obtain ⟨cc, hcc⟩ : ∃ cc : Nat, (goneE s).code = cc := ⟨_, rfl⟩
      obtain ⟨pp, hpp⟩ : ∃ pp : Int, (goneE s).place = pp := ⟨_, rfl⟩
      rw [hcc] at hKE ⊢
      rw [hpp]
      have hb3 : Below w2.heap.size w2 (w2.alloc (.cells #[.int .i64 (cc : Nat), .int .i64 pp] 58)) := (Below.refl _ _).alloc (Nat.le_refl _) _
      have hg3 := heap_alloc_new w2 (.cells #[.int .i64 (cc : Nat), .int .i64 pp] 58)
      have hb03 := hb2.trans (hb3.mono hb2.size)
      have hbw3 := hba.trans (hb03.mono hba.size)
      have HU3 := Lib.hid (HU.out.below hb3)
      have hql2 : (goneL s).length ≤ 50001 := by have h1 := hql; rw [hKL.out] at h1; omega
      generalize goneL s = q at *
      clear hcc hpp
      go_upto_region 11 with fail
      generalize w2.alloc (.cells #[.int .i64 (cc : Nat), .int .i64 pp] 58) = w3 at *
      obtain ⟨G, hG⟩ : ∃ G, w2.heap.size = G := ⟨_, rfl⟩
      rw [hG] at hg3 ⊢
      have e0 : w3.cell? ⟨G, 0, none⟩ = some (.int .i64 (cc : Nat)) := by rw [cell_of_row w3 _ _ _ _ (0, 0) hg3]; rfl
      have hGn : ¬ G = w.heap.size := by have := hbw2.size; have := hba.size; have := HSz.out; have := hb2.size; omega
      have hGn' : ¬ w.heap.size = G := fun e => hGn e.symm
      clear hG
      by_cases hc0 : cc = 0
      case neg =>
        have HR : Hid (ofText p pt s sq = (zeroF, cc)) := Lib.hid (by rw [HKeys.out HPn.out (by rw [hKE.out]; exact hc0), hKE.out])
        have g1 : (0 : Int) < (cc : Int) := by omega
        have g2 : 0 < cc := by omega
        have hgz := HG.out _ hb03
        have fz : ∀ j, w3.frozen? ⟨w.heap.size, j, none⟩ = false := fun j => frozen_row hgz
        have f0 := fz 0; have f1 := fz 1; have f2 := fz 2; have f3 := fz 3; have f4 := fz 4; have f5 := fz 5
        obtain ⟨d0, d1, d2, d3, d4, d5⟩ := CZ.out _ hb03
        have HGz := Lib.hid hgz
        clear fz hgz hc0 hg3
        go_wp2_with fail
        go_region
        go_wp2_with fail
        first
          | exact rof_zero_drew rfl rfl HR.out HGz.out hbw3
          | exact rof_zero rfl rfl HR.out HGz.out hbw3
      have HK0 : Hid ((keysE (kindF p) s).code = 0) := Lib.hid (by rw [hKE.out, hc0])
      have g1 : decide ((0 : Int) < (cc : Int)) = false := by simp [hc0]
      have g2 : decide (0 < cc) = false := by simp [hc0]
      clear hc0 hg3
      go_wp2_with fail
      go_meet
      exact ⟨by rw [hKL.out]; exact HU3.out, HK0, hb03⟩
  case rest =>
    obtain ⟨hu, HK0, hb1⟩ := hcut
    obtain ⟨w1, rfl⟩ : ∃ w1, w1 = wc := ⟨wc, rfl⟩
    obtain ⟨q, hq⟩ : ∃ q, keysL (kindF p) s = q := ⟨_, rfl⟩
    have HO2 := Lib.hid (HO.out q hq)
    rw [hq] at hu hql
    have hbw1 := hba.trans (hb1.mono hba.size)
    obtain ⟨a, c, rfl, -, -⟩ := hu.form'
    have HU := Lib.hid hu
    clear hu hq HNo HO hkk
    obtain ⟨lo, hlo⟩ : ∃ lo, (endsI q).1 = lo := ⟨_, rfl⟩
    obtain ⟨hi, hhi⟩ : ∃ hi, (endsI q).2 = hi := ⟨_, rfl⟩
    have HE := Lib.hid (refEnds_any _ q w1 HU.out)
    rw [hlo, hhi] at HE HO2
    clear hlo hhi
    go_wp2_with fail
    refine HE.out.mono ?_
    rintro e wx ⟨rfl, rfl⟩
    have hbaY : Below w1.heap.size w1 (w1.alloc (.cells #[S p, S pt, .int .i64 q.length, .int .i64 lo, .int .i64 hi, .int .i64 sq] 43)) := (Below.refl _ _).alloc (Nat.le_refl _) _
    have CY := Lib.hid (fun W (h : Below (w1.alloc (.cells #[S p, S pt, .int .i64 q.length, .int .i64 lo, .int .i64 hi, .int .i64 sq] 43)).heap.size (w1.alloc (.cells #[S p, S pt, .int .i64 q.length, .int .i64 lo, .int .i64 hi, .int .i64 sq] 43)) W) => fileCells (f := ⟨p, pt, q.length, lo, hi, sq⟩) (w := w1) rfl h)
    have hb02 := hb1.trans (hbaY.mono hb1.size)
    have hbw2 := hba.trans (hb02.mono hba.size)
    have hfl : ofFile p pt s sq = ⟨p, pt, q.length, lo, hi, sq⟩ := HO2.out
    go_upto_region 16 with fail
    generalize w1.alloc (.cells #[S p, S pt, .int .i64 q.length, .int .i64 lo, .int .i64 hi, .int .i64 sq] 43) = w2 at *
    obtain ⟨T, hT⟩ : ∃ T, w1.heap.size = T := ⟨_, rfl⟩
    rw [hT] at CY ⊢
    obtain ⟨c0, c1, c2, c3, c4, c5⟩ := CY.out _ (Below.refl _ _)
    have HCk := Lib.hid (fileError_any ⟨p, pt, q.length, lo, hi, sq⟩ w2 ⟨HMid.out.1, HMid.out.2⟩)
    have hbad := HBad.out HPn.out (by rw [HK0.out]; simp)
    have hfine := HFine.out HPn.out (by rw [HK0.out]; simp)
    rw [hfl] at hbad hfine
    have HBa := Lib.hid hbad; have HFi := Lib.hid hfine
    clear hbad hfine hfl hT HBad HFine HKeys
    obtain ⟨ce, hce⟩ : ∃ ce, checkF ⟨p, pt, (q.length : Int), lo, hi, sq⟩ = ce := ⟨_, rfl⟩
    rw [hce] at HCk HBa HFi
    clear hce
    go_wp2_with fail
    refine HCk.out.mono ?_
    rintro e w3 ⟨rfl, hb3⟩
    have hb03 := hb02.trans (hb3.mono hb02.size)
    have hbw3 := hbw2.trans (hb3.mono hbw2.size)
    clear c0 c1 c2 c3 c4 c5
    obtain ⟨c0, c1, c2, c3, c4, c5⟩ := CY.out _ hb3
    have hgz := HG.out _ hb03
    have fz : ∀ j, w3.frozen? ⟨w.heap.size, j, none⟩ = false := fun j => frozen_row hgz
    have f0 := fz 0; have f1 := fz 1; have f2 := fz 2; have f3 := fz 3; have f4 := fz 4; have f5 := fz 5
    obtain ⟨d0, d1, d2, d3, d4, d5⟩ := CZ.out _ hb03
    have HGz := Lib.hid hgz
    clear fz hgz
    by_cases hc0 : ce = 0
    case neg =>
      have HR : Hid (ofText p pt s sq = (zeroF, ce)) := Lib.hid (HBa.out hc0)
      have g1 : (0 : Int) < (ce : Int) := by omega
      have g2 : 0 < ce := by omega
      clear hc0
      go_wp2_with fail
      exact rof_zero rfl rfl HR.out HGz.out hbw3
    have HR : Hid (ofText p pt s sq = (⟨p, pt, q.length, lo, hi, sq⟩, 0)) := Lib.hid (HFi.out hc0)
    have g1 : decide ((0 : Int) < (ce : Int)) = false := by simp [hc0]
    have g2 : decide (0 < ce) = false := by simp [hc0]
    clear hc0
    go_wp2_with fail
    exact rof_end (x := ⟨p, pt, q.length, lo, hi, sq⟩) rfl rfl HR.out HGz.out hbw3
end Go.Proofs.YtpfohfihkmjnaaaGreatDoor
namespace Go.Proofs.YtpfohfihkmjnaaaGreatDoor
open Go.RowKit Go.Maps
theorem textPc_gone {p : Pc} (h : p.part = [45]) : textPc p = madeT p.keys := if_pos h
theorem textPc_data {p : Pc} (h : p.part ≠ [45]) : textPc p = makeT p.rows := if_neg h
set_option maxHeartbeats 4000000 in
set_option maxRecDepth 20000 in
theorem tableL_any (E : Nat → Addr) (B : Nat) (v : Value) (l : List Pc) (w : World) (hE : Errs [2, 5, 7, 8, 12] E B w) (hl : PiecesAt w v l) (hh : HeldPc w l) (hs : shortPcs l) :
    Calls Tryz.prog 9 #[v] w fun e w' => ∃ sb mb xb vm u, e = .returned (.tuple #[stP sb, stP xb, u]) ∧ Twin w sb mb xb vm (tableTb l).1 w' ∧ FilesAt w' u (tableTb l).2 := by
  have hBw := hE.le
  have hT0 := TbOk.of (l := l) (fun p hp => (hs.2 p hp).2.2.1) (by have := hs.1; omega)
  have HTk := Lib.hid (fun k => TbOk.of (l := l.take k) (fun p hp => (hs.2 p (List.mem_of_mem_take hp)).2.2.1) (by rw [List.length_take]; have := hs.1; omega))
  have HE := Lib.hid hE
  have HSh := Lib.hid hs
  have HHe := Lib.hid hh
  obtain ⟨a, c, b, o, rfl, ha, hc, hcm, hx⟩ := hl
  unfold maxLen at hcm
  have HX := Lib.hid hx
  clear hE hs hx hT0 hh
  go_enter Tryz.func9, Tryz.ntmps9
  go_wp2_with fail
  refine (new_any w).mono ?_
  rintro e w1 ⟨sb, mb, rfl, hst, hsb, hmb, hb1⟩
  go_wp2_with fail
  refine (newMod_any w1).mono ?_
  rintro e w2 ⟨xb, rfl, hxb, hmd, hb2⟩
  have htw : Twin w sb mb xb (.slice none 0 0) St.new w2 := ⟨hst.below hb2, ⟨hmd.blk, Own.nil _ _ _ _ _, hmd.ok⟩, hb1.trans (hb2.mono hb1.size), hsb, hmb, Nat.le_trans hb1.size hxb, by have := hst.lt; omega, by have := hst.ltm; omega⟩
  have HTw := Lib.hid htw
  clear hst hsb hmb hxb hmd hb1 hb2 htw
  go_wp2_with fail
  go_loopw [7, 8] (fun u i wr => ∃ (k : Nat) (vm : Value), k ≤ l.length ∧ i = .int .i64 k ∧ Hid (Twin w sb mb xb vm (tableTb (l.take k)).1 wr) ∧ Hid (FilesAt wr u (tableTb (l.take k)).2)) (fun _ i _ => l.length - (intOf i).toNat)
  case atStart => exact ⟨0, _, by omega, rfl, Lib.hid (by rw [List.take_zero]; exact HTw.out), Lib.hid (by rw [List.take_zero]; exact At.nil _ _ _)⟩
  case round =>
    obtain ⟨k, vm, hk, rfl, htw, hfl⟩ := hrel
    rename_i uf _
    obtain ⟨wo, rfl⟩ : ∃ wo, wo = wr := ⟨wr, rfl⟩
    by_cases hlt : k < l.length
    case neg =>
      obtain rfl : k = l.length := by omega
      have f1 : decide ((l.length : Int) < (l.length : Int)) = false := by simp
      have h1 := htw.out
      have h2 := hfl.out
      rw [List.take_length] at h1 h2
      have H1 := Lib.hid h1
      have H2 := Lib.hid h2
      clear h1 h2
      go_wp2_with fail
      go_ret3
      exact ⟨_, _, _, _, _, rfl, H1.out, H2.out⟩
    have f1 : (k : Int) < (l.length : Int) := by omega
    obtain ⟨x, hxk⟩ := get_ex hlt
    obtain ⟨c0, c1, c2, c3, c4, c5⟩ := pcCells HX.out htw.out.bel hxk
    have i1 := idx_at (c := c) 6 Tryz.underlying22 szPc ha k hlt
    obtain ⟨hrw, hks⟩ := HHe.out x (List.mem_of_getElem? hxk)
    have hsx := HSh.out.2 x (List.mem_of_getElem? hxk)
    have hsn := tableTb_snoc (l.take k) x
    rw [← take_snoc' hxk] at hsn
    have HSn := Lib.hid hsn
    have HTb := Lib.hid (HTk.out k)
    obtain ⟨ar, cr, hvr, -, -⟩ := At.form' hrw
    obtain ⟨ak, ck, hvk, -, -⟩ := At.form' hks
    rw [hvr] at c3 hrw
    rw [hvk] at c4 hks
    have hA : Below wo.heap.size wo (wo.alloc (.cells #[S x.path, S x.part, S x.spoil, .slice ar x.rows.length cr, .slice ak x.keys.length ck, .int .i64 x.seq] 71)) := (Below.refl _ _).alloc (Nat.le_refl _) _
    have hgA := heap_alloc_new wo (.cells #[S x.path, S x.part, S x.spoil, .slice ar x.rows.length cr, .slice ak x.keys.length ck, .int .i64 x.seq] 71)
    have HTA := Lib.hid (htw.out.below hA)
    have HFA := Lib.hid (hfl.out.below hA)
    have HRA := Lib.hid (hrw.below (htw.out.bel.trans (hA.mono htw.out.bel.size)))
    have HKA := Lib.hid (hks.below (htw.out.bel.trans (hA.mono htw.out.bel.size)))
    have HL : Hid (sb < wo.heap.size ∧ mb < wo.heap.size ∧ xb < wo.heap.size) := Lib.hid ⟨htw.out.sto.lt, htw.out.sto.ltm, htw.out.mdl.lt⟩
    have HSx := Lib.hid hsx
    clear hxk hrw hks hsx hsn htw hfl hvr hvk
    go_upto_region 8 with fail
    clear c0 c1 c2 c3 c4 c5 i1
    generalize wo.alloc (.cells #[S x.path, S x.part, S x.spoil, .slice ar x.rows.length cr, .slice ak x.keys.length ck, .int .i64 x.seq] 71) = wA at *
    obtain ⟨P, hP⟩ : ∃ P, wo.heap.size = P := ⟨_, rfl⟩
    rw [hP] at hgA HL ⊢
    clear hP hA
    have HC := Lib.hid (fun W (h : Below wA.heap.size wA W) => by
      have hg := (h.block P (Array.getElem?_eq_some_iff.1 hgA).1).trans hgA
      have c0 : W.cell? ⟨P, 0, none⟩ = some (S x.path) := by rw [cell_of_row W _ _ _ _ (0, 0) hg]; rfl
      have c1 : W.cell? ⟨P, 1, none⟩ = some (S x.part) := by rw [cell_of_row W _ _ _ _ (0, 0) hg]; rfl
      have c2 : W.cell? ⟨P, 2, none⟩ = some (S x.spoil) := by rw [cell_of_row W _ _ _ _ (0, 0) hg]; rfl
      have c3 : W.cell? ⟨P, 3, none⟩ = some (.slice ar x.rows.length cr) := by rw [cell_of_row W _ _ _ _ (0, 0) hg]; rfl
      have c4 : W.cell? ⟨P, 4, none⟩ = some (.slice ak x.keys.length ck) := by rw [cell_of_row W _ _ _ _ (0, 0) hg]; rfl
      have c5 : W.cell? ⟨P, 5, none⟩ = some (.int .i64 x.seq) := by rw [cell_of_row W _ _ _ _ (0, 0) hg]; rfl
      exact (⟨c0, c1, c2, c3, c4, c5⟩ : _ ∧ _ ∧ _ ∧ _ ∧ _ ∧ _))
    have HPA := Lib.hid (Array.getElem?_eq_some_iff.1 hgA).1
    clear hgA
    have HD := Lib.hid (dataOf_any _ x.rows wA HRA.out (by have := HSx.out.2.2.2.1.1; omega) (fun r hr => by have := HSx.out.2.2.2.1.2 r hr; omega))
    obtain ⟨q0, q1, q2, q3, q4, q5⟩ := HC.out wA (Below.refl _ _)
    have hfo : ∃ fc fp : Int, faultOf (makeE x.rows) = .agg #[.int .i64 fc, .int .i64 fp] := ⟨_, _, rfl⟩
    obtain ⟨fc, fp, hfo⟩ := hfo
    rw [hfo] at HD
    clear hfo
    go_wp2_with fail
    refine HD.out.mono ?_
    rintro e w3 ⟨rfl, hb3⟩
    have hb4 := hb3.alloc hb3.size (.cells #[.int .i64 fc, .int .i64 fp] 58)
    clear q0 q1 q2 q3 q4 q5
    go_upto_region 9 with fail
    generalize w3.alloc (.cells #[.int .i64 fc, .int .i64 fp] 58) = w4 at *
    have HL4 := Lib.hid hb4
    clear hb3 HD
    rcases Decidable.em (x.part = [45]) with hpt | hpt
    case' inl =>
      have g : (x.part == [45]) = true := by rw [hpt]; rfl
      have HTx := Lib.hid (textPc_gone hpt)
      have HGo := Lib.hid (goneOf_any (.slice ak x.keys.length ck) x.keys w4 (HKA.out.below HL4.out) (by have := HSx.out.2.2.2.2; omega))
      obtain ⟨gc, gp, hfo⟩ : ∃ fc fp : Int, faultOf (madeE x.keys) = .agg #[.int .i64 fc, .int .i64 fp] := ⟨_, _, rfl⟩
      rw [hfo] at HGo
      obtain ⟨q0, q1, q2, q3, q4, q5⟩ := HC.out w4 HL4.out
      clear hpt hfo
      go_wp2_with fail
      refine HGo.out.mono ?_
      rintro e w5 ⟨rfl, hb5⟩
      have HL5 := Lib.hid (HL4.out.trans (hb5.mono HL4.out.size))
      clear q0 q1 q2 q3 q4 q5 g HGo hb5 hb4
      go_upto_region 11 with fail
    case' inr =>
      have g : (x.part == [45]) = false := by rw [beq_eq_false_iff_ne]; exact hpt
      have HTx := Lib.hid (textPc_data hpt)
      obtain ⟨q0, q1, q2, q3, q4, q5⟩ := HC.out w4 HL4.out
      clear hpt
      go_upto_region 11 with fail
      clear q0 q1 q2 q3 q4 q5 g hb4
      have HL5 := HL4
      obtain ⟨w5, rfl⟩ : ∃ w5, w5 = w4 := ⟨w4, rfl⟩
    all_goals
      rw [← HTx.out]
      clear HTx
      have htl := textPc_len x
      obtain ⟨T, hT⟩ : ∃ T, textPc x = T := ⟨_, rfl⟩
      rw [hT] at htl ⊢
      have HT := Lib.hid hT
      have HTl := Lib.hid htl
      have hOf := refOfText_any x.path x.part T x.seq w5 (by have := HSx.out.1; omega) (by have := HSx.out.2.1; omega) (.inl (by omega)) (by omega)
      unfold RofPost at hOf
      obtain ⟨f, cc, hfc⟩ : ∃ f cc, ofText x.path x.part T x.seq = (f, cc) := ⟨(ofText x.path x.part T x.seq).1, (ofText x.path x.part T x.seq).2, rfl⟩
      rw [hfc] at hOf
      have HOf := Lib.hid hOf
      have HFc := Lib.hid hfc
      obtain ⟨q0, q1, q2, q3, q4, q5⟩ := HC.out w5 HL5.out
      clear hT htl hfc hOf
      go_wp2_with fail
      refine HOf.out.mono ?_
      rintro e w6 ⟨rfl, hb6⟩
      clear q0 q1 q2 q3 q4 q5
      unfold fileV
      have hb7 := hb6.alloc hb6.size (.cells #[S f.path, S f.part, .int .i64 f.n, .int .i64 f.lo, .int .i64 f.hi, .int .i64 f.seq] 43)
      have hg7 := heap_alloc_new w6 (.cells #[S f.path, S f.part, .int .i64 f.n, .int .i64 f.lo, .int .i64 f.hi, .int .i64 f.seq] 43)
      go_upto_region 12 with fail
      generalize w6.alloc (.cells #[S f.path, S f.part, .int .i64 f.n, .int .i64 f.lo, .int .i64 f.hi, .int .i64 f.seq] 43) = w7 at *
      obtain ⟨F, hF⟩ : ∃ F, w6.heap.size = F := ⟨_, rfl⟩
      rw [hF] at hg7 ⊢
      have HL7 := Lib.hid (HL5.out.trans (hb7.mono HL5.out.size))
      have HTA7 := Lib.hid (HTA.out.below HL7.out)
      have HFA7 := Lib.hid (HFA.out.below HL7.out)
      have hfi := findOf_any _ _ x.path w7 HFA7.out
      obtain ⟨ix, hix⟩ : ∃ ix, findV (tableTb (l.take k)).2 x.path = ix := ⟨_, rfl⟩
      rw [hix] at hfi
      have HFi := Lib.hid hfi
      have hgo : goesPc (tableTb (l.take k)).2 x = (decide (cc = 0) && decide (ix < 0)) := by unfold goesPc; rw [HT.out, HFc.out, hix]
      have HStay : Hid (¬ (cc = 0 ∧ ix < 0) → tableTb (l.take (k + 1)) = tableTb (l.take k)) := Lib.hid fun h => by
        rw [HSn.out]; unfold stepTb; rw [if_neg (by rw [hgo]; simpa using h)]
      have HGo : Hid (cc = 0 ∧ ix < 0 → tableTb (l.take (k + 1)) = (putS (tableTb (l.take k)).1 x.path (putPc x), placeF f (tableTb (l.take k)).2)) := Lib.hid fun h => by
        rw [HSn.out]; unfold stepTb; rw [if_pos (by rw [hgo]; simpa using h), HT.out, HFc.out]
      have HG7 := Lib.hid hg7
      obtain ⟨q0, q1, q2, q3, q4, q5⟩ := HC.out w7 HL7.out
      clear hgo hix hfi hg7 hb6 hb7 hF
      by_cases hcc : cc = 0
      case neg =>
        have g1 : (0 : Int) < (cc : Int) := by omega
        have g2 : 0 < cc := by omega
        have HS := Lib.hid (HStay.out (fun h => hcc h.1))
        clear hcc
        go_wp2_with fail
        go_roundw
        case rel => exact ⟨k + 1, vm, by omega, by go_num, Lib.hid (by rw [HS.out]; exact HTA7.out), Lib.hid (by rw [HS.out]; exact HFA7.out)⟩
        case measure => simp [intOf]; omega
      have g1 : decide ((0 : Int) < (cc : Int)) = false := by simp [hcc]
      have g2 : decide (0 < cc) = false := by simp [hcc]
      by_cases hi : ix < 0
      case neg =>
        have g3 : (0 : Int) ≤ ix := by omega
        have HS := Lib.hid (HStay.out (fun h => hi h.2))
        clear hcc hi
        go_wp2_with fail
        refine HFi.out.mono ?_
        rintro e w8 ⟨rfl, rfl⟩
        go_wp2_with fail
        go_roundw
        case rel => exact ⟨k + 1, vm, by omega, by go_num, Lib.hid (by rw [HS.out]; exact HTA7.out), Lib.hid (by rw [HS.out]; exact HFA7.out)⟩
        case measure => simp [intOf]; omega
      have g3 : decide ((0 : Int) ≤ ix) = false := by simp; omega
      have HS := Lib.hid (HGo.out ⟨hcc, hi⟩)
      clear hcc hi
      go_wp2_with fail
      refine HFi.out.mono ?_
      rintro e w8 ⟨rfl, rfl⟩
      clear q0 q1 q3 q4 q5
      go_upto_region 13 with fail
      have HMid := Lib.hid ((HTk.out (k + 1)).mid f (by rw [HS.out]; exact mem_placeF.2 (.inl rfl)))
      by_cases hsp : x.spoil = []
      case' pos =>
        have g : x.spoil.isEmpty = true := by rw [hsp]; rfl
        have gb : (x.spoil != []) = false := by rw [hsp]; rfl
        have HPc : Hid (putPc x = T) := Lib.hid (by unfold putPc; rw [if_pos hsp, HT.out])
        clear hsp
        go_upto_region 15 with fail
      case' neg =>
        have g : x.spoil.isEmpty = false := by cases hx : x.spoil with
          | nil => exact absurd hx hsp
          | cons _ _ => rfl
        have gb : (x.spoil != []) = true := by simpa using hsp
        have HPc : Hid (putPc x = x.spoil) := Lib.hid (by unfold putPc; rw [if_neg hsp])
        clear hsp
        go_upto_region 15 with fail
      all_goals
        clear q2 g gb
        have hpl := putPc_len (p := x) HSx.out.2.2.1
        rw [← HPc.out]
        clear HPc
        obtain ⟨U, hU⟩ : ∃ U, putPc x = U := ⟨_, rfl⟩
        rw [hU] at hpl HS ⊢
        have HUl := Lib.hid hpl
        obtain ⟨e0, e1, e2, e3, e4, e5⟩ := rowF6 HG7.out
        have HPl := Lib.hid (placed_any _ _ f w7 HFA7.out (by have h1 := (HTk.out k).len; have h2 := HSh.out.1; rw [List.length_take] at h1; omega) (HTk.out k).mid HMid.out)
        clear hU hpl
        go_wp2_with fail
        refine HPl.out.mono ?_
        rintro e w8 ⟨u8, rfl, hf8, hb8⟩
        have HT8 := Lib.hid (HTA7.out.below hb8)
        have HL8 := Lib.hid (HL7.out.trans (hb8.mono HL7.out.size))
        have HF8 := Lib.hid hf8
        have HPu := Lib.hid (put_any E B sb mb (tableTb (l.take k)).1 x.path U w8 (HE.out.below' HT8.out.bel hBw) HT8.out.sto (by have := HSx.out.1; omega) (by have := HUl.out; omega) (Nat.le_trans hBw HT8.out.h1) (Nat.le_trans hBw HT8.out.h2))
        obtain ⟨q0, -, -, -, -, -⟩ := HC.out w8 HL8.out
        clear e0 e1 e2 e3 e4 e5 hf8 hb8
        go_wp2_with fail
        refine HPu.out.mono ?_
        rintro e w9 ⟨ev, rfl, -, hst9, hb9⟩
        have HM9 := Lib.hid (HT8.out.half hb9)
        have HS9 := Lib.hid hst9
        have HB9 := Lib.hid hb9
        have q0' : w9.cell? ⟨P, 0, none⟩ = some (S x.path) := by
          rw [← q0]
          unfold World.cell?
          have := hb9.block P (Nat.lt_of_lt_of_le HPA.out HL8.out.size) (by have := HL.out; omega) (by have := HL.out; omega)
          simp only [this]
        have HPm := Lib.hid (putM_any w.heap.size xb vm (tableTb (l.take k)).1 x.path U w9 HM9.out (by have := HSx.out.1; omega) (by have := HUl.out; omega) (Nat.le_trans HT8.out.bel.size hb9.size))
        clear q0 hst9 hb9
        go_wp2_with fail
        refine HPm.out.mono ?_
        rintro e w10 ⟨vm', rfl, hm10, hb10⟩
        have HT10 := Lib.hid (HT8.out.turn HS9.out HB9.out hm10 hb10)
        have HF10 := Lib.hid (at_turn (at_turn HF8.out (fun _ => rfl) (by decide) HB9.out HT8.out.sto.thin.1 HT8.out.sto.thin.2) (fun _ => rfl) (by decide) hb10 HM9.out.thin HM9.out.thin)
        clear q0' hm10 hb10
        go_wp2_with fail
        go_roundw
        case rel => exact ⟨k + 1, vm', by omega, by go_num, Lib.hid (by rw [HS.out]; exact HT10.out), Lib.hid (by rw [HS.out]; exact HF10.out)⟩
        case measure => simp [intOf]; omega
end Go.Proofs.YtpfohfihkmjnaaaGreatDoor
namespace Go.Proofs.YtpfohfihkmjnaaaGreatDoor
open Go.RowKit
end Go.Proofs.YtpfohfihkmjnaaaGreatDoor
namespace Go.Proofs.YtpfohfihkmjnaaaGreatDoor
open Go.RowKit Go.Maps
variable {α β : Type}
def insP (k : Str) (x : α) : List (Str × α) → List (Str × α)
  | [] => [(k, x)]
  | a :: r => if bef k a.1 then (k, x) :: a :: r else a :: insP k x r
def dropP (k : Str) (l : List (Str × α)) : List (Str × α) := l.filter (fun a => !(a.1 == k))
def putP (k : Str) (x : α) (l : List (Str × α)) : List (Str × α) := insP k x (dropP k l)
def getP (k : Str) (l : List (Str × α)) : Option α := (l.find? (fun a => a.1 == k)).map (·.2)
def RisP (l : List (Str × α)) : Prop := l.Pairwise (fun a b => bef a.1 b.1 = true)
theorem insP_perm (k : Str) (x : α) : ∀ l : List (Str × α), (insP k x l).Perm ((k, x) :: l)
  | [] => .refl _
  | a :: r => by
    unfold insP
    split
    · exact .refl _
    · exact ((insP_perm k x r).cons a).trans (.swap _ _ _)
theorem mem_putP {k : Str} {x : α} {l : List (Str × α)} {a : Str × α} : a ∈ putP k x l ↔ a = (k, x) ∨ (a ∈ l ∧ a.1 ≠ k) := by
  unfold putP
  rw [(insP_perm k x _).mem_iff, List.mem_cons]
  unfold dropP
  simp [List.mem_filter]
theorem insP_rising {k : Str} {x : α} : ∀ {l : List (Str × α)}, RisP l → (∀ a ∈ l, a.1 ≠ k) → RisP (insP k x l)
  | [], _, _ => by simp [insP, RisP]
  | a :: r, h, hn => by
    have hr : RisP r := (List.pairwise_cons.1 h).2
    have ha := (List.pairwise_cons.1 h).1
    unfold insP
    split
    · rename_i hb
      refine List.pairwise_cons.2 ⟨fun o ho => ?_, h⟩
      rcases List.mem_cons.1 ho with rfl | ho
      · exact hb
      · exact bef_trans hb (ha o ho)
    · rename_i hb
      have hba : bef a.1 k = true := bef_tri (fun e => hn a (by simp) e.symm) (by simpa using hb)
      refine List.pairwise_cons.2 ⟨fun o ho => ?_, insP_rising hr (fun o ho => hn o (List.mem_cons_of_mem _ ho))⟩
      rcases List.mem_cons.1 ((insP_perm k x r).mem_iff.1 ho) with rfl | ho
      · exact hba
      · exact ha o ho
theorem putP_rising {k : Str} {x : α} {l : List (Str × α)} (h : RisP l) : RisP (putP k x l) :=
  insP_rising (h.filter _) (fun a ha => by simpa using (List.mem_filter.1 ha).2)
theorem RisP.apart {l : List (Str × α)} (h : RisP l) : l.Pairwise (fun a b => a.1 ≠ b.1) := h.imp fun {a b} hb e => by rw [e, bef_irr] at hb; cases hb
theorem getP_mem {k : Str} {x : α} {l : List (Str × α)} (h : getP k l = some x) : (k, x) ∈ l := by
  unfold getP at h
  obtain ⟨a, ha, rfl⟩ := Option.map_eq_some_iff.1 h
  have h1 := List.mem_of_find?_eq_some ha
  have h2 := List.find?_some ha
  have : a.1 = k := by simpa using h2
  rw [← this]; exact h1
theorem getP_of_mem {k : Str} {x : α} : ∀ {l : List (Str × α)}, RisP l → (k, x) ∈ l → getP k l = some x
  | a :: r, h, hm => by
    unfold getP
    rw [List.find?_cons]
    rcases List.mem_cons.1 hm with rfl | hm
    · simp
    · have hne : a.1 ≠ k := (List.pairwise_cons.1 h.apart).1 _ hm
      have : (a.1 == k) = false := by simpa using hne
      rw [this]
      exact getP_of_mem (List.pairwise_cons.1 h).2 hm
theorem getP_iff {k : Str} {x : α} {l : List (Str × α)} (h : RisP l) : getP k l = some x ↔ (k, x) ∈ l := ⟨getP_mem, getP_of_mem h⟩
theorem getP_put_same {k : Str} {x : α} {l : List (Str × α)} (h : RisP l) : getP k (putP k x l) = some x := getP_of_mem (putP_rising h) (mem_putP.2 (.inl rfl))
theorem getP_put_other {k j : Str} {x : α} {l : List (Str × α)} (h : RisP l) (hne : j ≠ k) : getP j (putP k x l) = getP j l := by
  apply Option.ext
  intro y
  rw [getP_iff (putP_rising h), getP_iff h, mem_putP]
  constructor
  · rintro (e | e)
    · exact absurd (congrArg Prod.fst e) hne
    · exact e.1
  · exact fun e => .inr ⟨e, hne⟩
/-- What a map of values reads as. -/
def heldR (v : Value) : Option (DataW Value × List MemPlace) := some (.held v, [])
def mapV (xs : List (Str × Value)) : DataW Value := .map (xs.map fun a => (.string a.1, .held a.2))
theorem insert_mapV (k : Str) (v : Value) : ∀ xs : List (Str × Value), DataW.insert (.string k, .held v) (xs.map fun a => (Lit.string a.1, DataW.held a.2)) = (insP k v xs).map fun a => (Lit.string a.1, DataW.held a.2)
  | [] => rfl
  | a :: r => by
    rw [List.map_cons, DataW.insert, insP]
    have : (Lit.string k).before (Lit.string a.1) = bef k a.1 := rfl
    rw [this]
    cases bef k a.1 with
    | true => rfl
    | false => simp only [Bool.false_eq_true, if_false, List.map_cons]; rw [insert_mapV k v r]
theorem put_mapV (k : Str) (v : Value) (xs : List (Str × Value)) : (mapV xs).put (.string k) (.held v) = mapV (putP k v xs) := by
  unfold mapV DataW.put putP
  simp only
  rw [← insert_mapV, List.filter_map]
  rfl
theorem at_mapV (k : Str) (z : Value) (xs : List (Str × Value)) : (mapV xs).atKey (.string k) (.held z) = .held ((getP k xs).getD z) := by
  unfold mapV DataW.atKey getP
  simp only
  rw [List.find?_map]
  have : ((fun p : Lit × DataW Value => p.1.sameKey (.string k)) ∘ fun a : Str × Value => (Lit.string a.1, DataW.held a.2)) = fun a : Str × Value => a.1 == k := by
    funext a; rfl
  rw [this]
  cases xs.find? (fun a => a.1 == k) <;> rfl
end Go.Proofs.YtpfohfihkmjnaaaGreatDoor
namespace Go.Proofs.YtpfohfihkmjnaaaGreatDoor
open Go.RowKit Go.Maps
theorem keySr {k : Str} (h : k.length ≤ 100000) : keyOf Tryz.prog 9 (S k) = some (.string k) := by
  have : (ByteArray.mk k.toArray).size ≤ maxLen := by simp [ByteArray.size]; unfold maxLen; omega
  unfold keyOf mapKey
  rw [Tryz.underlying9]
  simp [this]
theorem lookSR {w : World} {b n : Nat} {xs : List (Str × Value)} (h : w.ownsMap Tryz.prog 9 heldR b n (mapV xs)) (k : Str) (hk : k.length ≤ 100000) :
    (Instr.lookup 95 (.map (some b)) (S k) false).run Tryz.prog w = .ok ((getP k xs).getD (.slice none 0 0)) w := by
  have hz : (zeroValue 44).run Tryz.prog w = .ok (.slice none 0 0) w := by kernel_rfl
  obtain ⟨v, ps, h1, h2⟩ := h.lookup (string_keyed Tryz.underlying9) Tryz.underlying95 hz (zd := .held (.slice none 0 0)) (zp := []) rfl (keySr hk)
  rw [at_mapV] at h2
  simp only [heldR, Option.some.injEq, Prod.mk.injEq, DataW.held.injEq] at h2
  rw [h1, h2.1]
theorem updSR {w : World} {b n : Nat} {xs : List (Str × Value)} (h : w.ownsMap Tryz.prog 9 heldR b n (mapV xs)) (k : Str) (hk : k.length ≤ 100000) (hn : n < maxLen) (v : Value) :
    ∃ w', (Instr.mapUpdate 95 (.map (some b)) (S k) v).run Tryz.prog w = .ok () w' ∧ w'.ownsMap Tryz.prog 9 heldR b (n + 1) (mapV (putP k v xs)) ∧ w.grownBy w' (some b) := by
  obtain ⟨w', h1, h2, h3⟩ := h.update (string_keyed Tryz.underlying9) Tryz.underlying95 hn (keySr hk) (d := .held v) (ps := []) rfl
  rw [put_mapV] at h2
  exact ⟨w', h1, h2, h3⟩
theorem lookSI {w : World} {b n : Nat} {xs : List (Str × Value)} (h : w.ownsMap Tryz.prog 9 heldR b n (mapV xs)) (k : Str) (hk : k.length ≤ 100000) :
    (Instr.lookup 96 (.map (some b)) (S k) false).run Tryz.prog w = .ok ((getP k xs).getD (.slice none 0 0)) w := by
  have hz : (zeroValue 69).run Tryz.prog w = .ok (.slice none 0 0) w := by kernel_rfl
  obtain ⟨v, ps, h1, h2⟩ := h.lookup (string_keyed Tryz.underlying9) Tryz.underlying96 hz (zd := .held (.slice none 0 0)) (zp := []) rfl (keySr hk)
  rw [at_mapV] at h2
  simp only [heldR, Option.some.injEq, Prod.mk.injEq, DataW.held.injEq] at h2
  rw [h1, h2.1]
theorem updSI {w : World} {b n : Nat} {xs : List (Str × Value)} (h : w.ownsMap Tryz.prog 9 heldR b n (mapV xs)) (k : Str) (hk : k.length ≤ 100000) (hn : n < maxLen) (v : Value) :
    ∃ w', (Instr.mapUpdate 96 (.map (some b)) (S k) v).run Tryz.prog w = .ok () w' ∧ w'.ownsMap Tryz.prog 9 heldR b (n + 1) (mapV (putP k v xs)) ∧ w.grownBy w' (some b) := by
  obtain ⟨w', h1, h2, h3⟩ := h.update (string_keyed Tryz.underlying9) Tryz.underlying96 hn (keySr hk) (d := .held v) (ps := []) rfl
  rw [put_mapV] at h2
  exact ⟨w', h1, h2, h3⟩
/-- What lies under the paths: each file's rows, or its keys. -/
structure Stock (os : List Ob) (W : World) (fs : List Fl) (xr xk : List (Str × Value)) : Prop where
  risr : RisP xr
  risk : RisP xk
  rows : ∀ f ∈ fs, isG f = false → ∃ v, getP f.path xr = some v ∧ RowsAt W v (rowsO os f)
  keys : ∀ f ∈ fs, isG f = true → ∃ v, getP f.path xk = some v ∧ IntsAt W v (keysO os f)
  onlyr : ∀ p v, getP p xr = some v → ∃ f ∈ fs, f.path = p ∧ isG f = false
  onlyk : ∀ p v, getP p xk = some v → ∃ f ∈ fs, f.path = p ∧ isG f = true
theorem Stock.nil (os : List Ob) (W : World) : Stock os W [] [] [] :=
  ⟨List.Pairwise.nil, List.Pairwise.nil, fun _ h => (by cases h), fun _ h => (by cases h), fun _ _ h => (by cases h), fun _ _ h => (by cases h)⟩
theorem Stock.below {os : List Ob} {W W' : World} {fs : List Fl} {xr xk : List (Str × Value)} (h : Stock os W fs xr xk) (hb : Below W.heap.size W W') : Stock os W' fs xr xk :=
  ⟨h.risr, h.risk, fun f hf hg => by obtain ⟨v, h1, h2⟩ := h.rows f hf hg; exact ⟨v, h1, h2.below hb⟩, fun f hf hg => by obtain ⟨v, h1, h2⟩ := h.keys f hf hg; exact ⟨v, h1, h2.below hb⟩, h.onlyr, h.onlyk⟩
/-- The slices under the paths, where only blocks turn in which none of them lies. -/
theorem Stock.moved {os : List Ob} {W W' : World} {fs : List Fl} {xr xk : List (Str × Value)} (h : Stock os W fs xr xk) (hr : ∀ v l, RowsAt W v l → RowsAt W' v l) (hk : ∀ v l, IntsAt W v l → IntsAt W' v l) : Stock os W' fs xr xk :=
  ⟨h.risr, h.risk, fun f hf hg => by obtain ⟨v, h1, h2⟩ := h.rows f hf hg; exact ⟨v, h1, hr _ _ h2⟩, fun f hf hg => by obtain ⟨v, h1, h2⟩ := h.keys f hf hg; exact ⟨v, h1, hk _ _ h2⟩, h.onlyr, h.onlyk⟩
theorem Stock.putRows {os : List Ob} {W : World} {fs : List Fl} {xr xk : List (Str × Value)} (h : Stock os W fs xr xk) {f : Fl} {v : Value} (hg : isG f = false) (hv : RowsAt W v (rowsO os f)) (hd : ∀ g ∈ fs, g.path ≠ f.path) : Stock os W (fs ++ [f]) (putP f.path v xr) xk :=
  ⟨putP_rising h.risr, h.risk, fun g hm hgg => by
    rcases List.mem_append.1 hm with hm | hm
    · obtain ⟨u, h1, h2⟩ := h.rows g hm hgg
      exact ⟨u, by rw [getP_put_other h.risr (hd g hm)]; exact h1, h2⟩
    · obtain rfl := List.mem_singleton.1 hm
      exact ⟨v, getP_put_same h.risr, hv⟩, fun g hm hgg => by
    rcases List.mem_append.1 hm with hm | hm
    · exact h.keys g hm hgg
    · obtain rfl := List.mem_singleton.1 hm
      exact absurd (hg.symm.trans hgg) (by decide), fun p u hp => by
    by_cases e : p = f.path
    · exact ⟨f, List.mem_append_right _ (List.mem_singleton.2 rfl), e.symm, hg⟩
    · rw [getP_put_other h.risr e] at hp
      obtain ⟨g, hm, h1⟩ := h.onlyr p u hp
      exact ⟨g, List.mem_append_left _ hm, h1⟩, fun p u hp => by
    obtain ⟨g, hm, h1⟩ := h.onlyk p u hp
    exact ⟨g, List.mem_append_left _ hm, h1⟩⟩
theorem Stock.putKeys {os : List Ob} {W : World} {fs : List Fl} {xr xk : List (Str × Value)} (h : Stock os W fs xr xk) {f : Fl} {v : Value} (hg : isG f = true) (hv : IntsAt W v (keysO os f)) (hd : ∀ g ∈ fs, g.path ≠ f.path) : Stock os W (fs ++ [f]) xr (putP f.path v xk) :=
  ⟨h.risr, putP_rising h.risk, fun g hm hgg => by
    rcases List.mem_append.1 hm with hm | hm
    · exact h.rows g hm hgg
    · obtain rfl := List.mem_singleton.1 hm
      exact absurd (hg.symm.trans hgg) (by decide), fun g hm hgg => by
    rcases List.mem_append.1 hm with hm | hm
    · obtain ⟨u, h1, h2⟩ := h.keys g hm hgg
      exact ⟨u, by rw [getP_put_other h.risk (hd g hm)]; exact h1, h2⟩
    · obtain rfl := List.mem_singleton.1 hm
      exact ⟨v, getP_put_same h.risk, hv⟩, fun p u hp => by
    obtain ⟨g, hm, h1⟩ := h.onlyr p u hp
    exact ⟨g, List.mem_append_left _ hm, h1⟩, fun p u hp => by
    by_cases e : p = f.path
    · exact ⟨f, List.mem_append_right _ (List.mem_singleton.2 rfl), e.symm, hg⟩
    · rw [getP_put_other h.risk e] at hp
      obtain ⟨g, hm, h1⟩ := h.onlyk p u hp
      exact ⟨g, List.mem_append_left _ hm, h1⟩⟩
/-- The keys that lie under a file's path: those of a file of keys, or none. -/
theorem Stock.keysAt {os : List Ob} {W : World} {fs : List Fl} {xr xk : List (Str × Value)} (h : Stock os W fs xr xk) (hup : UpF fs) {g : Fl} (hm : g ∈ fs) : IntsAt W ((getP g.path xk).getD (.slice none 0 0)) (keysO os g) := by
  cases hg : isG g with
  | true =>
    obtain ⟨v, h1, h2⟩ := h.keys g hm hg
    rw [h1]; exact h2
  | false =>
    have : getP g.path xk = none := by
      cases hp : getP g.path xk with
      | none => rfl
      | some v =>
        obtain ⟨f, hf, he, hgf⟩ := h.onlyk _ _ hp
        rw [path_one hup hf hm he, hg] at hgf
        cases hgf
    rw [this, keysO_data hg]
    exact At.nil _ _ _
theorem Stock.rowsAt {os : List Ob} {W : World} {fs : List Fl} {xr xk : List (Str × Value)} (h : Stock os W fs xr xk) (hup : UpF fs) {g : Fl} (hm : g ∈ fs) : RowsAt W ((getP g.path xr).getD (.slice none 0 0)) (rowsO os g) := by
  cases hg : isG g with
  | false =>
    obtain ⟨v, h1, h2⟩ := h.rows g hm hg
    rw [h1]; exact h2
  | true =>
    have : getP g.path xr = none := by
      cases hp : getP g.path xr with
      | none => rfl
      | some v =>
        obtain ⟨f, hf, he, hgf⟩ := h.onlyr _ _ hp
        rw [path_one hup hf hm he, hg] at hgf
        cases hgf
    rw [this, rowsO_gone hg]
    exact At.nil _ _ _
end Go.Proofs.YtpfohfihkmjnaaaGreatDoor
namespace Go.Proofs.YtpfohfihkmjnaaaGreatDoor
open Go.RowKit
/-- All that was there is as it was, but some blocks. -/
structure ButD (D : Nat → Prop) (w w' : World) : Prop where
  os : w'.os = w.os
  tape : w'.tape = w.tape
  output : w'.output = w.output
  size : w.heap.size ≤ w'.heap.size
  block : ∀ k, k < w.heap.size → ¬ D k → w'.heap[k]? = w.heap[k]?
theorem ButD.of {D : Nat → Prop} {w w' : World} (h : Below w.heap.size w w') : ButD D w w' := ⟨h.os, h.tape, h.output, h.size, fun k hk _ => h.block k hk⟩
theorem ButD.trans {D D' : Nat → Prop} {a b c : World} (h : ButD D a b) (k : ButD D' b c) (hD : ∀ k, D' k → D k ∨ a.heap.size ≤ k) : ButD D a c :=
  ⟨k.os.trans h.os, k.tape.trans h.tape, k.output.trans h.output, Nat.le_trans h.size k.size, fun j hj hn => (k.block j (Nat.lt_of_lt_of_le hj h.size) (fun hd => by
    rcases hD j hd with h1 | h1
    · exact hn h1
    · omega)).trans (h.block j hj hn)⟩
theorem ButD.below {D : Nat → Prop} {B : Nat} {a b : World} (h : ButD D a b) (hD : ∀ k, D k → B ≤ k) (hB : B ≤ a.heap.size) : Below B a b :=
  ⟨h.os, h.tape, h.output, h.size, fun k hk => h.block k (Nat.lt_of_lt_of_le hk hB) (fun hd => by have := hD k hd; omega)⟩
theorem ButD.mono {D D' : Nat → Prop} {a b : World} (h : ButD D a b) (hD : ∀ k, D k → D' k) : ButD D' a b := ⟨h.os, h.tape, h.output, h.size, fun k hk hn => h.block k hk (fun hd => hn (hD k hd))⟩
/-- A row that the call owns, where its block is as it was. -/
theorem Own.blocked {α : Type} {enc : α → List Value} {e : TypeId} {sz B : Nat} {w w' : World} {v : Value} {l : List α} (h : Own enc e sz B w v l) (hk : ∀ g, v.ownBlock = some g → w'.heap[g]? = w.heap[g]?) : Own enc e sz B w' v l := by
  refine ⟨h.1, h.2.imp id ?_⟩
  rintro ⟨g, cap, cur, rfl, hb, hg, h3⟩
  exact ⟨g, cap, cur, rfl, hb, (hk g rfl).trans hg, h3⟩
theorem Own.far {α : Type} {enc : α → List Value} {e : TypeId} {sz B : Nat} {w : World} {v : Value} {l : List α} (hen : Enc enc sz) (h : Own enc e sz B w v l) (W : World) (hk : ∀ g, v.ownBlock = some g → W.heap[g]? = w.heap[g]?) : At enc sz W v l := (h.blocked hk).at hen
/-- What stands in a slice hangs on one block. -/
theorem At.far {α : Type} {enc : α → List Value} {sz B : Nat} {w : World} {v : Value} {l : List α} (h : At enc sz w v l) (hB : w.heap.size ≤ B) (W : World) (hk : ∀ k, k < B → W.heap[k]? = w.heap[k]?) : At enc sz W v l := by
  obtain ⟨a, c, b, o, hv, ha, hc, hm, hx⟩ := h
  refine ⟨a, c, b, o, hv, ha, hc, hm, fun k x hxk j u hu => ?_⟩
  have h1 := hx k x hxk j u hu
  have h2 : b < w.heap.size := World.block_lt_of_cell? w _ h1
  exact (World.cell?_of_block (w := w) (w' := W) (a := ⟨b, o + k * sz + j, none⟩) (hk b (by omega))).trans h1
abbrev txCells (t : Tx) (vf va vr : Value) : Array Value := #[.int .i64 t.base.id, .int .i64 t.base.parent, .int .i64 t.base.seq, .int .i64 t.base.day, .int .i64 t.base.index, S t.base.op, vf, va, vr]
/-- A change of type ty in block tb: D are its blocks, all at B or behind it; what it was begun with lies in blocks K. -/
structure TxAt (ty : TypeId) (B : Nat) (w : World) (D K : Nat → Prop) (tb : Nat) (t : Tx) (vf va vr : Value) : Prop where
  blk : w.heap[tb]? = some (.cells (txCells t vf va vr) ty (0, 0))
  files : ∀ W : World, (∀ k, K k → W.heap[k]? = w.heap[k]?) → FilesAt W vf t.base.files
  adds : Own encF 43 6 B w va t.adds
  rems : Own encS 9 1 B w vr t.removes
  dt : D tb
  da : ∀ k, va.ownBlock = some k → D k ∧ k ≠ tb
  dr : ∀ k, vr.ownBlock = some k → D k ∧ k ≠ tb
  dar : ∀ k, va.ownBlock = some k → vr.ownBlock ≠ some k
  low : ∀ k, D k → B ≤ k ∧ k < w.heap.size
  kdis : ∀ k, K k → ¬ D k
  klt : ∀ k, K k → k < w.heap.size
variable {ty : TypeId} {B : Nat} {w : World} {D K : Nat → Prop} {tb : Nat} {t : Tx} {vf va vr : Value}
theorem TxAt.kept (h : TxAt ty B w D K tb t vf va vr) {D2 : Nat → Prop} {w' : World} (hb : ButD D2 w w') (hd : ∀ k, D2 k → ¬ D k ∧ ¬ K k) : TxAt ty B w' D K tb t vf va vr := by
  have hD : ∀ k, D k → w'.heap[k]? = w.heap[k]? := fun k hk => hb.block k (h.low k hk).2 (fun h2 => (hd k h2).1 hk)
  exact ⟨(hD tb h.dt).trans h.blk, fun W hW => h.files W fun k hk => (hW k hk).trans (hb.block k (h.klt k hk) (fun h2 => (hd k h2).2 hk)),
    h.adds.blocked fun g hg => hD g (h.da g hg).1, h.rems.blocked fun g hg => hD g (h.dr g hg).1, h.dt, h.da, h.dr, h.dar, fun k hk => ⟨(h.low k hk).1, Nat.lt_of_lt_of_le (h.low k hk).2 hb.size⟩, h.kdis, fun k hk => Nat.lt_of_lt_of_le (h.klt k hk) hb.size⟩
theorem TxAt.below (h : TxAt ty B w D K tb t vf va vr) {w' : World} (hb : Below w.heap.size w w') : TxAt ty B w' D K tb t vf va vr :=
  h.kept (D2 := fun _ => False) (ButD.of hb) (fun _ h => h.elim)
theorem TxAt.lt (h : TxAt ty B w D K tb t vf va vr) : tb < w.heap.size := (h.low tb h.dt).2
theorem TxAt.c0 (h : TxAt ty B w D K tb t vf va vr) : w.cell? ⟨tb, 0, none⟩ = some (.int .i64 t.base.id) := by rw [cell_of_row w _ _ _ _ (0, 0) h.blk]; rfl
theorem TxAt.c2 (h : TxAt ty B w D K tb t vf va vr) : w.cell? ⟨tb, 2, none⟩ = some (.int .i64 t.base.seq) := by rw [cell_of_row w _ _ _ _ (0, 0) h.blk]; rfl
theorem TxAt.c6 (h : TxAt ty B w D K tb t vf va vr) : w.cell? ⟨tb, 6, none⟩ = some vf := by rw [cell_of_row w _ _ _ _ (0, 0) h.blk]; rfl
theorem TxAt.c7 (h : TxAt ty B w D K tb t vf va vr) : w.cell? ⟨tb, 7, none⟩ = some va := by rw [cell_of_row w _ _ _ _ (0, 0) h.blk]; rfl
theorem TxAt.c8 (h : TxAt ty B w D K tb t vf va vr) : w.cell? ⟨tb, 8, none⟩ = some vr := by rw [cell_of_row w _ _ _ _ (0, 0) h.blk]; rfl
theorem TxAt.fz (h : TxAt ty B w D K tb t vf va vr) (i : Nat) : w.frozen? ⟨tb, i, none⟩ = false := frozen_row h.blk
end Go.Proofs.YtpfohfihkmjnaaaGreatDoor
namespace Go.Proofs.YtpfohfihkmjnaaaGreatDoor
open Go.RowKit Go.Maps
/-- A row stays where only blocks turn that hold no cells. -/
theorem At.turned {α : Type} {enc : α → List Value} {sz : Nat} {w w' : World} {v : Value} {l : List α} (h : At enc sz w v l) (hw : ∀ k, k < w.heap.size → (∀ o, w.cell? ⟨k, o, none⟩ = none) ∨ w'.heap[k]? = w.heap[k]?) : At enc sz w' v l := by
  obtain ⟨a, c, b, o, hv, ha, hc, hm, hx⟩ := h
  refine ⟨a, c, b, o, hv, ha, hc, hm, fun k x hk j u hu => ?_⟩
  have h1 := hx k x hk j u hu
  have h2 : b < w.heap.size := World.block_lt_of_cell? w _ h1
  rcases hw b h2 with h3 | h3
  · rw [h3] at h1; cases h1
  · exact (World.cell?_of_block (w := w) (w' := w') (a := ⟨b, o + k * sz + j, none⟩) h3).trans h1
theorem map_cell {w : World} {b n : Nat} {xs : List (Str × Value)} (h : w.ownsMap Tryz.prog 9 heldR b n (mapV xs)) (o : Nat) : w.cell? ⟨b, o, none⟩ = none := by
  obtain ⟨es, clock, hb, -⟩ := h
  simp [World.cell?, hb]
/-- A reader in block rb, its maps in mr and mk, behind the files fs; all of it at B or behind it. -/
structure ReadAt (os : List Ob) (W : World) (B rb mr mk : Nat) (fs : List Fl) : Prop where
  blk : W.heap[rb]? = some (.cells #[.map (some mr), .map (some mk)] 98 (0, 0))
  low : B ≤ rb ∧ B ≤ mr ∧ B ≤ mk
  ne : mr ≠ mk ∧ rb ≠ mr ∧ rb ≠ mk
  maps : ∃ xr xk nr nk, nr ≤ fs.length ∧ nk ≤ fs.length ∧ W.ownsMap Tryz.prog 9 heldR mr nr (mapV xr) ∧ W.ownsMap Tryz.prog 9 heldR mk nk (mapV xk) ∧ Stock os W fs xr xk
section
variable {os : List Ob} {W W' : World} {B rb mr mk : Nat} {fs : List Fl}
theorem ReadAt.lt (h : ReadAt os W B rb mr mk fs) : rb < W.heap.size := (Array.getElem?_eq_some_iff.1 h.blk).1
theorem ReadAt.below (h : ReadAt os W B rb mr mk fs) (hb : Below W.heap.size W W') : ReadAt os W' B rb mr mk fs := by
  obtain ⟨xr, xk, nr, nk, h1, h2, h3, h4, h5⟩ := h.maps
  have hg : W.grownBy W' none := ⟨hb.os, hb.tape, hb.output, hb.size, fun k hk _ => hb.block k hk⟩
  exact ⟨(hb.block rb h.lt).trans h.blk, h.low, h.ne, xr, xk, nr, nk, h1, h2, h3.kept hg (by simp), h4.kept hg (by simp), h5.below hb⟩
theorem ReadAt.c0 (h : ReadAt os W B rb mr mk fs) : W.cell? ⟨rb, 0, none⟩ = some (.map (some mr)) := by rw [cell_of_row W _ _ _ _ (0, 0) h.blk]; rfl
theorem ReadAt.c1 (h : ReadAt os W B rb mr mk fs) : W.cell? ⟨rb, 1, none⟩ = some (.map (some mk)) := by rw [cell_of_row W _ _ _ _ (0, 0) h.blk]; rfl
theorem ReadAt.putRows (h : ReadAt os W B rb mr mk fs) {f : Fl} {v : Value} (hg : isG f = false) (hv : RowsAt W v (rowsO os f)) (hd : ∀ g ∈ fs, g.path ≠ f.path) (hp : f.path.length ≤ 100000) (hn : fs.length ≤ 100000) :
    ∃ w', (Instr.mapUpdate 95 (.map (some mr)) (S f.path) v).run Tryz.prog W = .ok () w' ∧ ReadAt os w' B rb mr mk (fs ++ [f]) ∧ W.grownBy w' (some mr) := by
  obtain ⟨xr, xk, nr, nk, h1, h2, h3, h4, h5⟩ := h.maps
  obtain ⟨w', k1, k2, k3⟩ := updSR h3 f.path hp (by unfold maxLen; omega) v
  have ht : ∀ k, k < W.heap.size → (∀ o, W.cell? ⟨k, o, none⟩ = none) ∨ w'.heap[k]? = W.heap[k]? := fun k hk => by
    by_cases e : k = mr
    · subst e; exact .inl (map_cell h3)
    · exact .inr (k3.block k hk (fun h' => e (Option.some.inj h')))
  refine ⟨w', k1, ⟨(k3.block rb h.lt (fun h' => h.ne.2.1 (Option.some.inj h'))).trans h.blk, h.low, h.ne, _, _, nr + 1, nk, by simp; omega, by simp; omega, k2, h4.kept k3 (fun h' => h.ne.1 (Option.some.inj h').symm), ?_⟩, k3⟩
  exact (h5.putRows hg hv hd).moved (fun v l h' => h'.turned ht) (fun v l h' => h'.turned ht)
theorem ReadAt.putKeys (h : ReadAt os W B rb mr mk fs) {f : Fl} {v : Value} (hg : isG f = true) (hv : IntsAt W v (keysO os f)) (hd : ∀ g ∈ fs, g.path ≠ f.path) (hp : f.path.length ≤ 100000) (hn : fs.length ≤ 100000) :
    ∃ w', (Instr.mapUpdate 96 (.map (some mk)) (S f.path) v).run Tryz.prog W = .ok () w' ∧ ReadAt os w' B rb mr mk (fs ++ [f]) ∧ W.grownBy w' (some mk) := by
  obtain ⟨xr, xk, nr, nk, h1, h2, h3, h4, h5⟩ := h.maps
  obtain ⟨w', k1, k2, k3⟩ := updSI h4 f.path hp (by unfold maxLen; omega) v
  have ht : ∀ k, k < W.heap.size → (∀ o, W.cell? ⟨k, o, none⟩ = none) ∨ w'.heap[k]? = W.heap[k]? := fun k hk => by
    by_cases e : k = mk
    · subst e; exact .inl (map_cell h4)
    · exact .inr (k3.block k hk (fun h' => e (Option.some.inj h')))
  refine ⟨w', k1, ⟨(k3.block rb h.lt (fun h' => h.ne.2.2 (Option.some.inj h'))).trans h.blk, h.low, h.ne, _, _, nr, nk + 1, by simp; omega, by simp; omega, h3.kept k3 (fun h' => h.ne.1 (Option.some.inj h')), k2, ?_⟩, k3⟩
  exact (h5.putKeys hg hv hd).moved (fun v l h' => h'.turned ht) (fun v l h' => h'.turned ht)
end
theorem erOf_pos' {c : Nat} (h : c ≠ 0) : erOf c = .bare c := if_neg h
theorem fileE_none {os : List Ob} {f : Fl} (h : getO os f.path = none) : fileE os f = 6 := by unfold fileE; rw [h]; rfl
theorem fileE_some {os : List Ob} {f y : Fl} {o : Ob} {c : Nat} (h : getO os f.path = some o) (h2 : ofText f.path f.part o.text f.seq = (y, c)) : fileE os f = if c ≠ 0 then c else if y ≠ f then 3 else 0 := by
  have ht : textO os f.path = o.text := by unfold textO; rw [h]; rfl
  unfold fileE
  rw [ht, h2, h]
  simp
theorem turnD {w w3 w4 : World} {D : Nat → Prop} {m : Nat} (hb : Below w.heap.size w w3) (hg : w3.grownBy w4 (some m)) (hD : D m) : ButD D w w4 :=
  ⟨hg.os.trans hb.os, hg.tape.trans hb.tape, hg.output.trans hb.output, Nat.le_trans hb.size hg.size, fun k hk hn => (hg.block k (Nat.lt_of_lt_of_le hk hb.size) (fun e => hn (by rw [Option.some.inj e]; exact hD))).trans (hb.block k hk)⟩
attribute [local go_sem ↓] Go.wp_at_zero Go.wp_at_succ in
set_option maxHeartbeats 4000000 in
set_option maxRecDepth 20000 in
theorem srRead_any (E : Nat → Addr) (B : Nat) (sb mb : Nat) (st : St) (B0 rb mr mk : Nat) (fs : List Fl) (f : Fl) (w : World) (hE : Errs [1, 2, 3, 4, 5, 6, 8, 9, 10] E B w) (hT : LNum B w) (hM : LMax B w) (h : StoreAt w sb mb st) (hx : ∀ o ∈ st.objs, o.text.length ≤ 10000)
    (hr : ReadAt st.objs w B0 rb mr mk fs) (hd : ∀ g ∈ fs, g.path ≠ f.path) (hn : fs.length ≤ 1000) (hf : midF f) :
    Calls Tryz.prog 46 #[.pointer (some ⟨rb, 0, none⟩), stP sb, fileV f] w fun e w' => ∃ ev, e = .returned ev ∧ ErV E w' ev (erOf (fileE st.objs f)) ∧ (fileE st.objs f = 0 → ReadAt st.objs w' B0 rb mr mk (fs ++ [f])) ∧ ButD (fun k => k = mr ∨ k = mk) w w' := by
  have hBw := hE.le
  have hif := isIfaceE
  have X := Lib.hid (fun W (hb : Below w.heap.size w W) => (⟨hE.below' hb hBw, hT.below' hb hBw, hM.below' hb hBw, h.below hb, hr.below hb⟩ : Errs [1, 2, 3, 4, 5, 6, 8, 9, 10] E B W ∧ LNum B W ∧ LMax B W ∧ StoreAt W sb mb st ∧ ReadAt st.objs W B0 rb mr mk fs))
  have V3 := Lib.hid (fun W (hb : Below w.heap.size w W) => (hE.below' hb hBw).var 3 (by decide))
  have hba : Below w.heap.size w (w.alloc (fileO f)) := (Below.refl _ _).alloc (Nat.le_refl _) _
  have CF := Lib.hid (fun W (h : Below (w.alloc (fileO f)).heap.size (w.alloc (fileO f)) W) => fileCells (f := f) (w := w) rfl h)
  have HX := Lib.hid hx; have HD := Lib.hid hd; have HN := Lib.hid hn; have HF := Lib.hid hf
  clear hE hT hM h hx hr hd hn hf
  go_enter Tryz.func46, Tryz.ntmps46
  go_upto_region 1 with fail
  generalize w.alloc (fileO f) = w0 at *
  obtain ⟨c0, c1, c2, c3, c4, c5⟩ := CF.out _ (Below.refl _ _)
  have HGt := Lib.hid (get_any E B sb mb st f.path w0 ((X.out _ hba).1.sub (by decide)) (X.out _ hba).2.2.2.1 HF.out.1)
  cases ho : getO st.objs f.path with
  | none =>
    have HE6 := Lib.hid (fileE_none ho)
    rw [ho] at HGt
    clear ho
    go_wp2_with fail
    refine HGt.out.mono ?_
    rintro e w1 ⟨ev, rfl, hev, hb1⟩
    have hbw1 := hba.trans (hb1.mono hba.size)
    have HEv := Lib.hid hev
    obtain ⟨t1, x1, rfl⟩ := hev.iface (by simp)
    clear hev c0 c1 c2 c3 c4 c5
    go_wp2_with fail
    go_ret
    refine ⟨_, rfl, ?_, ?_, ButD.of hbw1⟩
    · rw [HE6.out]; exact HEv.out
    · rw [HE6.out]; intro h0; cases h0
  | some o =>
    obtain ⟨y, c, hyc⟩ : ∃ y c, ofText f.path f.part o.text f.seq = (y, c) := ⟨_, _, rfl⟩
    have HEc := Lib.hid (fileE_some ho hyc)
    have HTx : Hid (textO st.objs f.path = o.text) := Lib.hid (by unfold textO; rw [ho]; rfl)
    have HLo := Lib.hid (HX.out o (getO_mem ho).1)
    rw [ho] at HGt
    have HYc := Lib.hid hyc
    clear ho hyc
    go_wp2_with fail
    refine HGt.out.mono ?_
    rintro e w1 ⟨ev, rfl, hev, hb1⟩
    obtain rfl : ev = .nilIface := hev
    have hbw1 := hba.trans (hb1.mono hba.size)
    have HOf := Lib.hid (fileOf_any E B f.path f.part o.text f.seq w1 ((X.out _ hbw1).1.sub (by decide)) (X.out _ hbw1).2.1 (X.out _ hbw1).2.2.1 HF.out.1 HF.out.2 (.inl HLo.out) (by have := HLo.out; omega))
    unfold OfPost at HOf
    rw [HYc.out] at HOf
    clear c0 c1 c2 c3 c4 c5 HGt
    obtain ⟨c0, c1, c2, c3, c4, c5⟩ := CF.out _ hb1
    go_wp2_with fail
    refine HOf.out.mono ?_
    rintro e w2 ⟨ev, rfl, hev, hb2⟩
    have hb02 := hb1.trans (hb2.mono hb1.size)
    have hbw2 := hbw1.trans (hb2.mono hbw1.size)
    have hb23 : Below w2.heap.size w2 (w2.alloc (fileO y)) := (Below.refl _ _).alloc (Nat.le_refl _) _
    have hb03 := hb02.trans (hb23.mono hb02.size)
    have hbw3 := hbw2.trans (hb23.mono hbw2.size)
    have HEv := Lib.hid (hev.below hb23)
    have CY := Lib.hid (fun W (h : Below (w2.alloc (fileO y)).heap.size (w2.alloc (fileO y)) W) => fileCells (f := y) (w := w2) rfl h)
    clear c0 c1 c2 c3 c4 c5 HOf
    by_cases hc : c = 0
    case neg =>
      obtain ⟨t1, x1, rfl⟩ := hev.iface (by rw [erOf_pos' hc]; simp)
      have HEc2 : Hid (fileE st.objs f = c) := Lib.hid (by rw [HEc.out, if_pos hc])
      have HC := Lib.hid hc
      clear hev hc
      go_wp2_with fail
      go_ret
      refine ⟨_, rfl, ?_, ?_, ButD.of hbw3⟩
      · rw [HEc2.out]; exact HEv.out
      · rw [HEc2.out]; exact fun h0 => absurd h0 HC.out
    subst hc
    obtain rfl : ev = .nilIface := hev
    go_upto_region 5 with fail
    generalize w2.alloc (fileO y) = w3 at *
    obtain ⟨c0, c1, c2, c3, c4, c5⟩ := CF.out _ hb03
    obtain ⟨y0, y1, y2, y3, y4, y5⟩ := CY.out _ (Below.refl _ _)
    have hnq := fl_neq y f
    have hgd := fl_guard
    by_cases hy : y = f
    case neg =>
      have HEc2 : Hid (fileE st.objs f = 3) := Lib.hid (by rw [HEc.out, if_neg (by simp), if_pos hy])
      rw [decide_eq_false hy, Bool.not_false] at hnq
      have v3 := V3.out _ hbw3
      simp only [errG] at v3
      clear hy
      go_wp2_with fail
      go_ret
      refine ⟨_, rfl, ?_, ?_, ButD.of hbw3⟩
      · rw [HEc2.out]; exact ⟨by decide, rfl⟩
      · rw [HEc2.out]; intro h0; cases h0
    rw [decide_eq_true hy, Bool.not_true] at hnq
    have HE0 : Hid (fileE st.objs f = 0) := Lib.hid (by rw [HEc.out, if_neg (by simp), if_neg (by simp [hy])])
    have HRk := Lib.hid (read_known HE0.out)
    have HPt := Lib.hid (show (f.part == [45]) = isG f from rfl)
    clear hy HEc
    cases hgf : isG f with
    | true =>
      have hp : (f.part == [45]) = true := hgf
      have hK : keysO st.objs f = goneL o.text := by unfold keysO; rw [if_pos hgf, HTx.out]
      have hE := (HRk.out.2.1 hgf).1
      rw [HTx.out] at hE
      have HK := Lib.hid hK; have HGE := Lib.hid hE; have HGf := Lib.hid hgf
      clear hK hE hgf
      have hd3 : Below w3.heap.size w3 w3.drew := (Below.refl _ _).drew
      have hbwd := hbw3.trans (hd3.mono hbw3.size)
      have hb0d := hb03.trans (hd3.mono hb03.size)
      have HGr := Lib.hid (goneRead_any E B o.text w3.drew ((X.out _ hbwd).1.sub (by decide)) (X.out _ hbwd).2.1 (X.out _ hbwd).2.2.1 (by have := HLo.out; omega))
      go_upto_region 10 with fail
      clear y0 y1 y2 y3 y4 y5 hnq hgd c0 c1 c2 c3 c4 c5
      obtain ⟨c0, -, -, -, -, -⟩ := CF.out _ hb0d
      have r1 := (X.out _ hbwd).2.2.2.2.c1
      go_region_with ((go_at_call 97; refine HGr.out.mono ?_; rintro e w4 ⟨u, ev, rfl, hev, hu, hb4⟩; rw [HGE.out] at hev; obtain rfl : ev = .nilIface := hev; have hbw4 := hbwd.trans (hb4.mono hbwd.size); have hb04 := hb0d.trans (hb4.mono hb0d.size); have R4 := Lib.hid (X.out _ hbw4).2.2.2.2; rw [← HK.out] at hu; obtain ⟨w5, hup, hr5, hg5⟩ := R4.out.putKeys HGf.out hu HD.out HF.out.1 (by have := HN.out; omega); have HR5 := Lib.hid hr5; have HG5 := Lib.hid hg5; clear c0 r1 hu hr5 hg5; obtain ⟨c0, -, -, -, -, -⟩ := CF.out _ hb04; have r1 := R4.out.c1))
      all_goals
        go_wp2_with fail
        go_ret
        exact ⟨_, rfl, by rw [HE0.out]; rfl, fun _ => HR5.out, turnD hbw4 HG5.out (.inr rfl)⟩
    | false =>
      have hp : (f.part == [45]) = false := hgf
      have hK : rowsO st.objs f = dataL o.text := by unfold rowsO; rw [if_neg (by rw [hgf]; decide), HTx.out]
      have hE := (HRk.out.2.2 hgf).1
      rw [HTx.out] at hE
      have HK := Lib.hid hK; have HGE := Lib.hid hE; have HGf := Lib.hid hgf
      clear hK hE hgf
      have hd3 : Below w3.heap.size w3 w3.drew := (Below.refl _ _).drew
      have hbwd := hbw3.trans (hd3.mono hbw3.size)
      have hb0d := hb03.trans (hd3.mono hb03.size)
      have HGr := Lib.hid (dataRead_any E B o.text w3.drew ((X.out _ hbwd).1.sub (by decide)) (X.out _ hbwd).2.1 (X.out _ hbwd).2.2.1 (.inl HLo.out) (by have := HLo.out; omega))
      go_upto_region 11 with fail
      clear y0 y1 y2 y3 y4 y5 hnq hgd c0 c1 c2 c3 c4 c5
      obtain ⟨c0, -, -, -, -, -⟩ := CF.out _ hb0d
      have r1 := (X.out _ hbwd).2.2.2.2.c0
      go_region_with ((go_at_call 98; refine HGr.out.mono ?_; rintro e w4 ⟨u, ev, rfl, hev, hu, hb4⟩; rw [HGE.out] at hev; obtain rfl : ev = .nilIface := hev; have hbw4 := hbwd.trans (hb4.mono hbwd.size); have hb04 := hb0d.trans (hb4.mono hb0d.size); have R4 := Lib.hid (X.out _ hbw4).2.2.2.2; rw [← HK.out] at hu; obtain ⟨w5, hup, hr5, hg5⟩ := R4.out.putRows HGf.out hu HD.out HF.out.1 (by have := HN.out; omega); have HR5 := Lib.hid hr5; have HG5 := Lib.hid hg5; clear c0 r1 hu hr5 hg5; obtain ⟨c0, -, -, -, -, -⟩ := CF.out _ hb04; have r1 := R4.out.c0))
      all_goals
        go_wp2_with fail
        go_ret
        exact ⟨_, rfl, by rw [HE0.out]; rfl, fun _ => HR5.out, turnD hbw4 HG5.out (.inl rfl)⟩
end Go.Proofs.YtpfohfihkmjnaaaGreatDoor
namespace Go.Proofs.YtpfohfihkmjnaaaGreatDoor
open Go.RowKit
theorem idx_any {α : Type} {p : α → Bool} {l : List α} : decide (0 ≤ idxVal p l) = l.any p := by
  unfold idxVal
  cases h : l.findIdx? p with
  | none =>
    have : l.any p = false := List.any_eq_false.2 fun x hx => by simpa using List.findIdx?_eq_none_iff.1 h x hx
    rw [this]; rfl
  | some i =>
    obtain ⟨h1, h2, -⟩ := List.findIdx?_eq_some_iff_getElem.1 h
    have : l.any p = true := List.any_eq_true.2 ⟨l[i], List.getElem_mem h1, h2⟩
    rw [this]
    simp
theorem idx_ways {α : Type} (p : α → Bool) (l : List α) : (l.any p = true ∧ 0 ≤ idxVal p l) ∨ (l.any p = false ∧ decide (0 ≤ idxVal p l) = false) := by
  have := idx_any (p := p) (l := l)
  cases h : l.any p with
  | true => rw [h] at this; exact .inl ⟨rfl, by simpa using this⟩
  | false => rw [h] at this; exact .inr ⟨rfl, this⟩
theorem containsFuncF_any (f : FuncId) (caps : Array Value) (p : Fl → Bool) (base : Nat) (w0 : World) (v : Value) (l : List Fl) (w : World) (hf : Clo Tryz.prog f) (hp : PredOn Tryz.prog f caps fileV l p base w0)
    (hl : FilesAt w v l) (hw : Below base w0 w) (hB : base ≤ w.heap.size) :
    Calls Tryz.prog 52 #[v, .func (.func f) #[] caps] w fun e w' => e = .returned (.bool (l.any p)) ∧ Below w.heap.size w w' := by
  have HI := Lib.hid (indexFuncF_any f caps p base w0 v l w hf hp hl hw hB)
  obtain ⟨a, c, rfl, -, -⟩ := At.form' hl
  rcases idx_ways p l with ⟨h1, h2⟩ | ⟨h1, h2⟩
  all_goals
    rw [h1]
    clear h1
    generalize idxVal p l = i at *
    go_enter Tryz.func52, Tryz.ntmps52
    go_wp2_with fail
    refine HI.out.mono ?_
    rintro e w1 ⟨rfl, hb1⟩
    go_wp2_with fail
    go_ret
    exact ⟨rfl, hb1⟩
end Go.Proofs.YtpfohfihkmjnaaaGreatDoor
