/- file.Of: the walk. Printed by gen_fileof.py. A file's cells, by its block. deedboxlaw3.put: the walk. A store and its model, side by side; lists of wide structs stay where they lie. Pieces of a table in memory. Snaps in plain words. Of no program. The document's answer on lists: ListFault, ListText: the walks. The document's answer on files and lists: ReadFile, ReadList, AddOf, RemoveOf: the walks. The document's answer on lists: ReadList: the walk. -/
import Derived.Test.YtefoaeamfkbgbaaGreatDoorP15
import Derived.Test.YtefoaeamfkbgbaaGreatDoorP9
import Derived.Test.YtefoaeamfkbgbaaGreatDoorP8
import Derived.Test.YtefoaeamfkbgbaaGreatDoorP5
import Derived.Test.YtefoaeamfkbgbaaGreatDoorP10
import Derived.Test.YtefoaeamfkbgbaaGreatDoorP6
import Derived.Test.YtefoaeamfkbgbaaGreatDoorP12
import Derived.Deep.RegionHeld3
namespace Go.Proofs.YtefoaeamfkbgbaaGreatDoor
open Go.RowKit

theorem ofText_none {p pt s : Str} {sq : Int} (h : pathF p = none) : ofText p pt s sq = (zeroF, 5) := if_pos h
theorem ofText_keys {p pt s : Str} {sq : Int} (h : pathF p ≠ none) (h2 : (keysE (kindF p) s).code ≠ 0) : ofText p pt s sq = (zeroF, (keysE (kindF p) s).code) := by
  unfold ofText; rw [if_neg h, if_pos h2]
theorem ofText_bad {p pt s : Str} {sq : Int} (h : pathF p ≠ none) (h2 : ¬ (keysE (kindF p) s).code ≠ 0) (h3 : checkF (ofFile p pt s sq) ≠ 0) : ofText p pt s sq = (zeroF, checkF (ofFile p pt s sq)) := by
  unfold ofText; rw [if_neg h, if_neg h2, if_pos h3]
theorem ofText_fine {p pt s : Str} {sq : Int} (h : pathF p ≠ none) (h2 : ¬ (keysE (kindF p) s).code ≠ 0) (h3 : checkF (ofFile p pt s sq) = 0) : ofText p pt s sq = (ofFile p pt s sq, 0) := by
  unfold ofText; rw [if_neg h, if_neg h2, if_neg (fun h => h h3)]
theorem erOf_any {E : Nat → Addr} {w w' : World} {v : Value} {c : Nat} (h : ErV E w v (erOf c)) : ErV E w' v (erOf c) := by
  unfold erOf at *
  split at h
  · rename_i h0; rw [if_pos h0]; exact h
  · rename_i h0; rw [if_neg h0]; exact h
theorem noPlace_of {E : Nat → Addr} {w : World} {v : Value} {er : Er} (h : ErV E w v er.noPlace) : ErV E w v (erOf er.noPlace.code) := by
  cases er with
  | nil => exact h
  | bare c =>
    have hc : c ≠ 0 := by have := h.1.1; omega
    show ErV E w v (erOf c)
    unfold erOf; rw [if_neg hc]; exact h
  | loc c i =>
    have hc : c ≠ 0 := by have := h.1.1; omega
    show ErV E w v (erOf c)
    unfold erOf; rw [if_neg hc]; exact h
theorem keysE_place (kind s : Str) : ∃ er : Er, keysE kind s = er.noPlace := by
  unfold keysE
  split
  · exact ⟨_, rfl⟩
  · exact ⟨_, rfl⟩
theorem keysL_len (kind s : Str) : (keysL kind s).length ≤ s.length + 1 := by
  unfold keysL
  split
  · unfold goneL
    split
    · rw [List.length_map, List.length_dropLast]
      have := (splitL_len (s := s) (Nat.le_refl _)).1
      omega
    · simp
  · have := dataL_len s
    simpa [keysR] using this
def OfPost (E : Nat → Addr) (p pt s : Str) (sq : Int) (w : World) (e : Ending) (w' : World) : Prop := ∃ ev, e = .returned (.tuple #[fileV (ofText p pt s sq).1, ev]) ∧ ErV E w' ev (erOf (ofText p pt s sq).2) ∧ Below w.heap.size w w'
theorem of_end {E : Nat → Addr} {p pt s : Str} {sq : Int} {w W : World} {tmps : Array Value} {ev : Value} {x : Fl} {c : Nat} (hp : tmps.getD 8 undef = .pointer (some ⟨w.heap.size, 0, none⟩)) (hv : tmps.getD 9 undef = ev) (hr : ofText p pt s sq = (x, c)) (hev : ErV E W ev (erOf c))
    (hF : W.heap[w.heap.size]? = some (.cells #[S [], S [], .int .i64 0, .int .i64 0, .int .i64 0, .int .i64 0] 44 (0, 0))) (hb : Below w.heap.size w W) :
    bodyPost Tryz.prog Tryz.f56 (OfPost E p pt s sq w) .ret ⟨tmps, []⟩ (six W w.heap.size 0 (S x.path) (S x.part) (.int .i64 x.n) (.int .i64 x.lo) (.int .i64 x.hi) (.int .i64 x.seq)) := by
  subst hv
  refine bodyPost_ret (ret_row rfl tmps _ w.heap.size 44 #[S x.path, S x.part, .int .i64 x.n, .int .i64 x.lo, .int .i64 x.hi, .int .i64 x.seq] (0, 0) _ hp (six_new hF _ _ _ _ _ _) Tryz.underlying44 rfl (by kernel_rfl)) rfl ⟨tmps.getD 9 undef, ?_, ?_, six_below hb (Nat.le_refl _) _ _ _ _ _ _⟩
  · rw [hr]
  · rw [hr]; exact erOf_any hev
theorem of_zero {E : Nat → Addr} {p pt s : Str} {sq : Int} {w W : World} {tmps : Array Value} {ev : Value} {c : Nat} (hp : tmps.getD 8 undef = .pointer (some ⟨w.heap.size, 0, none⟩)) (hv : tmps.getD 9 undef = ev) (hr : ofText p pt s sq = (zeroF, c)) (hev : ErV E W ev (erOf c))
    (hF : W.heap[w.heap.size]? = some (.cells #[S [], S [], .int .i64 0, .int .i64 0, .int .i64 0, .int .i64 0] 44 (0, 0))) (hb : Below w.heap.size w W) :
    bodyPost Tryz.prog Tryz.f56 (OfPost E p pt s sq w) .ret ⟨tmps, []⟩ (six W w.heap.size 0 (.string ⟨#[]⟩) (.string ⟨#[]⟩) (.int .i64 0) (.int .i64 0) (.int .i64 0) (.int .i64 0)) := by
  subst hv
  refine bodyPost_ret (ret_row rfl tmps _ w.heap.size 44 #[.string ⟨#[]⟩, .string ⟨#[]⟩, .int .i64 0, .int .i64 0, .int .i64 0, .int .i64 0] (0, 0) _ hp (six_new hF _ _ _ _ _ _) Tryz.underlying44 rfl (by kernel_rfl)) rfl ⟨tmps.getD 9 undef, ?_, ?_, six_below hb (Nat.le_refl _) _ _ _ _ _ _⟩
  · rw [hr]; rfl
  · rw [hr]; exact erOf_any hev
set_option maxHeartbeats 1000000 in
set_option maxRecDepth 20000 in
theorem fileOf_any (E : Nat → Addr) (B : Nat) (p pt s : Str) (sq : Int) (w : World) (hE : Errs [1, 2, 3, 4, 5, 8, 9, 10] E B w) (hT : LNum B w) (hM : LMax B w) (hps : p.length ≤ 100000) (hts : pt.length ≤ 100000) (hs : s.length ≤ 10000 ∨ 20000 < s.length) (hs2 : s.length ≤ 50000) :
    Calls Tryz.prog 56 #[S p, S pt, S s, .int .i64 sq] w (OfPost E p pt s sq w) := by
  have hBw := hE.le
  have hif := isIfaceE
  have X := Lib.hid (fun W (h : Below w.heap.size w W) => (⟨hE.below' h hBw, hT.below' h hBw, hM.below' h hBw⟩ : Errs [1, 2, 3, 4, 5, 8, 9, 10] E B W ∧ LNum B W ∧ LMax B W))
  have hba : Below w.heap.size w (w.alloc (.cells #[S [], S [], .int .i64 0, .int .i64 0, .int .i64 0, .int .i64 0] 44)) := (Below.refl w.heap.size w).alloc (Nat.le_refl _) _
  have CZ := Lib.hid (fun w6 (h : Below (w.alloc (.cells #[S [], S [], .int .i64 0, .int .i64 0, .int .i64 0, .int .i64 0] 44)).heap.size (w.alloc (.cells #[S [], S [], .int .i64 0, .int .i64 0, .int .i64 0, .int .i64 0] 44)) w6) => fileCells (f := zeroF) rfl h)
  have HG := Lib.hid (fun w6 (h : Below (w.alloc (.cells #[S [], S [], .int .i64 0, .int .i64 0, .int .i64 0, .int .i64 0] 44)).heap.size (w.alloc (.cells #[S [], S [], .int .i64 0, .int .i64 0, .int .i64 0, .int .i64 0] 44)) w6) => (h.block w.heap.size (by simp)).trans (heap_alloc_new w (.cells #[S [], S [], .int .i64 0, .int .i64 0, .int .i64 0, .int .i64 0] 44)))
  have HSz : Hid ((w.alloc (.cells #[S [], S [], .int .i64 0, .int .i64 0, .int .i64 0, .int .i64 0] 44)).heap.size = w.heap.size + 1) := Lib.hid (by simp)
  have HNm := Lib.hid (fileNumber_any E B p (w.alloc (.cells #[S [], S [], .int .i64 0, .int .i64 0, .int .i64 0, .int .i64 0] 44)) ((X.out _ hba).1.sub (by decide)) (X.out _ hba).2.1 (X.out _ hba).2.2 hps)
  have HKy := Lib.hid (fun W (h : Below w.heap.size w W) => fileKeys_any E B (kindF p) s W ((X.out _ h).1.sub (by decide)) (X.out _ h).2.1 (X.out _ h).2.2 hs hs2)
  have hof : ofFile p pt s sq = ⟨p, pt, (keysL (kindF p) s).length, (endsI (keysL (kindF p) s)).1, (endsI (keysL (kindF p) s)).2, sq⟩ := rfl
  have HBad := Lib.hid (fun h h2 => @ofText_keys p pt s sq h h2)
  have HPl := Lib.hid (keysE_place (kindF p) s)
  have hql := keysL_len (kindF p) s
  have HKc : Hid (∀ e, keysE (kindF p) s = e → (keysE (kindF p) s).code = e.code) := Lib.hid fun e h => by rw [h]
  go_enter Tryz.func56, Tryz.ntmps56
  go_upto_region 1 with fail
  generalize w.alloc (.cells #[S [], S [], .int .i64 0, .int .i64 0, .int .i64 0, .int .i64 0] 44) = w0 at *
  go_wp2_with fail
  refine HNm.out.mono ?_
  rintro e w1 ⟨ev, rfl, hev, hb1⟩
  have hbw1 := hba.trans (hb1.mono hba.size)
  cases hpf : pathF p with
  | none =>
    rw [hpf] at hev
    have HR := Lib.hid (@ofText_none p pt s sq hpf)
    have HEv : Hid (ErV E w1 ev (erOf 5)) := Lib.hid hev
    obtain ⟨t1, x1, rfl⟩ := hev.iface (by simp)
    clear hev hpf hof
    have hgz := HG.out _ (hb1)
    have fz : ∀ j, w1.frozen? ⟨w.heap.size, j, none⟩ = false := fun j => frozen_row hgz
    have f0 := fz 0; have f1 := fz 1; have f2 := fz 2; have f3 := fz 3; have f4 := fz 4; have f5 := fz 5
    obtain ⟨d0, d1, d2, d3, d4, d5⟩ := CZ.out _ (hb1)
    have HGz := Lib.hid hgz
    clear fz hgz
    go_wp2_with fail
    exact of_zero rfl rfl HR.out HEv.out HGz.out hbw1
  | some kn =>
  rw [hpf] at hev
  obtain rfl : ev = .nilIface := hev
  have HPf : Hid (pathF p ≠ none) := Lib.hid (by rw [hpf]; simp)
  obtain ⟨ke, hke⟩ : ∃ ke, keysE (kindF p) s = ke := ⟨_, rfl⟩
  have HKe := Lib.hid hke
  obtain ⟨q, hq⟩ : ∃ q, keysL (kindF p) s = q := ⟨_, rfl⟩
  rw [hke] at HKy HBad HPl
  rw [hq] at HKy hql hof
  have HOf := Lib.hid hof
  clear hpf hof hke hq HNm HKc
  generalize numF p = nm at *
  go_wp2_with fail
  refine (HKy.out _ hbw1).mono ?_
  rintro e w2 ⟨u, ev, rfl, hev, hu, hb2⟩
  have hb02 := hb1.trans (hb2.mono hb1.size)
  have hbw2 := hba.trans (hb02.mono hba.size)
  by_cases hke : ke = .nil
  case neg =>
    obtain ⟨er, her⟩ := HPl.out
    have hcd : ke.code ≠ 0 := by
      rw [her] at hev hke ⊢
      cases er with
      | nil => exact absurd rfl hke
      | bare c => have := hev.1.1; show c ≠ 0; omega
      | loc c i => have := hev.1.1; show c ≠ 0; omega
    have HR := Lib.hid (HBad.out HPf.out hcd)
    have HEv : Hid (ErV E w2 ev (erOf ke.code)) := Lib.hid (by rw [her] at hev ⊢; exact noPlace_of hev)
    obtain ⟨t1, x1, rfl⟩ := hev.iface hke
    obtain ⟨a, c, rfl, -, -⟩ := hu.form'
    clear hev hke hcd her hu
    have hgz := HG.out _ (hb02)
    have fz : ∀ j, w2.frozen? ⟨w.heap.size, j, none⟩ = false := fun j => frozen_row hgz
    have f0 := fz 0; have f1 := fz 1; have f2 := fz 2; have f3 := fz 3; have f4 := fz 4; have f5 := fz 5
    obtain ⟨d0, d1, d2, d3, d4, d5⟩ := CZ.out _ (hb02)
    have HGz := Lib.hid hgz
    clear fz hgz
    go_wp2_with fail
    exact of_zero rfl rfl HR.out HEv.out HGz.out hbw2
  subst hke
  obtain rfl : ev = .nilIface := hev
  have HK0 : Hid (¬ (keysE (kindF p) s).code ≠ 0) := Lib.hid (by rw [HKe.out]; simp [Er.code])
  have HU := Lib.hid (fun W (h : Below w2.heap.size w2 W) => hu.below h)
  obtain ⟨a, c, rfl, -, -⟩ := hu.form'
  have hbF : Below w2.heap.size w2 (w2.alloc (.cells #[S p, S pt, .int .i64 q.length, .int .i64 0, .int .i64 0, .int .i64 sq] 44)) := (Below.refl _ _).alloc (Nat.le_refl _) _
  have hgT := heap_alloc_new w2 (.cells #[S p, S pt, .int .i64 q.length, .int .i64 0, .int .i64 0, .int .i64 sq] 44)
  have h0z := HSz.out
  have h02 := hb02.size
  obtain ⟨T, hTx⟩ : ∃ T, w2.heap.size = T := ⟨_, rfl⟩
  rw [hTx] at hgT h02
  clear hu
  go_upto_region 8 with fail
  generalize w2.alloc (.cells #[S p, S pt, .int .i64 q.length, .int .i64 0, .int .i64 0, .int .i64 sq] 44) = w4 at *
  have hb04 := hb02.trans (hbF.mono hb02.size)
  have hnT : ¬ (T = w.heap.size) := by omega
  have hnT2 : ¬ (w.heap.size = T) := by omega
  have c0 : w4.cell? ⟨T, 0, none⟩ = some (S p) := by rw [cell_of_row w4 _ _ _ _ (0, 0) hgT]; rfl
  have c1 : w4.cell? ⟨T, 1, none⟩ = some (S pt) := by rw [cell_of_row w4 _ _ _ _ (0, 0) hgT]; rfl
  have c2 : w4.cell? ⟨T, 2, none⟩ = some (.int .i64 q.length) := by rw [cell_of_row w4 _ _ _ _ (0, 0) hgT]; rfl
  have c3 : w4.cell? ⟨T, 3, none⟩ = some (.int .i64 0) := by rw [cell_of_row w4 _ _ _ _ (0, 0) hgT]; rfl
  have c4 : w4.cell? ⟨T, 4, none⟩ = some (.int .i64 0) := by rw [cell_of_row w4 _ _ _ _ (0, 0) hgT]; rfl
  have c5 : w4.cell? ⟨T, 5, none⟩ = some (.int .i64 sq) := by rw [cell_of_row w4 _ _ _ _ (0, 0) hgT]; rfl
  by_cases h0 : q = []
  case pos =>
    have hen : endsI q = (0, 0) := by rw [h0]; rfl
    rw [hen] at HOf
    have hq0 : q.length = 0 := by rw [h0]; rfl
    have g : decide ((0 : Int) < (q.length : Int)) = false := by simp; omega
    have g' : decide (0 < q.length) = false := by simp; omega
    clear h0 hen hq0
    obtain ⟨n, hn⟩ : ∃ n : Int, (q.length : Int) = n := ⟨_, rfl⟩
    rw [hn] at c2 g hgT HOf ⊢
    have HCk := Lib.hid (fileCheck_any E B ⟨p, pt, n, 0, 0, sq⟩ w4 ((X.out _ (hba.trans (hb04.mono hba.size))).1.sub (by decide)) (X.out _ (hba.trans (hb04.mono hba.size))).2.1 (X.out _ (hba.trans (hb04.mono hba.size))).2.2 ⟨hps, hts⟩)
    go_wp2_with fail
    refine HCk.out.mono ?_
    rintro e w6 ⟨ev, rfl, hev, hb6⟩
    have hb06 := hb04.trans (hb6.mono hb04.size)
    have hbw6 := hba.trans (hb06.mono hba.size)
    clear c0 c1 c2 c3 c4 c5 HCk
    have hgT6 := (hb6.block T (Array.getElem?_eq_some_iff.1 hgT).1).trans hgT
    have c0 : w6.cell? ⟨T, 0, none⟩ = some (S p) := by rw [cell_of_row w6 _ _ _ _ (0, 0) hgT6]; rfl
    have c1 : w6.cell? ⟨T, 1, none⟩ = some (S pt) := by rw [cell_of_row w6 _ _ _ _ (0, 0) hgT6]; rfl
    have c2 : w6.cell? ⟨T, 2, none⟩ = some (.int .i64 n) := by rw [cell_of_row w6 _ _ _ _ (0, 0) hgT6]; rfl
    have c3 : w6.cell? ⟨T, 3, none⟩ = some (.int .i64 0) := by rw [cell_of_row w6 _ _ _ _ (0, 0) hgT6]; rfl
    have c4 : w6.cell? ⟨T, 4, none⟩ = some (.int .i64 0) := by rw [cell_of_row w6 _ _ _ _ (0, 0) hgT6]; rfl
    have c5 : w6.cell? ⟨T, 5, none⟩ = some (.int .i64 sq) := by rw [cell_of_row w6 _ _ _ _ (0, 0) hgT6]; rfl
    clear hgT hgT6
    have hgz := HG.out _ (hb06)
    have fz : ∀ j, w6.frozen? ⟨w.heap.size, j, none⟩ = false := fun j => frozen_row hgz
    have f0 := fz 0; have f1 := fz 1; have f2 := fz 2; have f3 := fz 3; have f4 := fz 4; have f5 := fz 5
    obtain ⟨d0, d1, d2, d3, d4, d5⟩ := CZ.out _ (hb06)
    have HGz := Lib.hid hgz
    clear fz hgz
    have hfl : checkF ⟨p, pt, n, 0, 0, sq⟩ = checkF (ofFile p pt s sq) := by rw [HOf.out]
    unfold fileEr at hev
    rw [hfl] at hev
    by_cases hck : checkF (ofFile p pt s sq) = 0
    case neg =>
      have HR : Hid (ofText p pt s sq = (zeroF, checkF (ofFile p pt s sq))) := Lib.hid (ofText_bad HPf.out HK0.out hck)
      rw [if_neg hck] at hev
      have HEv : Hid (ErV E w6 ev (erOf (checkF (ofFile p pt s sq)))) := Lib.hid (by unfold erOf; rw [if_neg hck]; exact hev)
      obtain ⟨t1, x1, rfl⟩ := hev.iface (by simp)
      clear hev hck hfl
      go_wp2_with fail
      exact of_zero rfl rfl HR.out HEv.out HGz.out hbw6
    rw [if_pos hck] at hev
    obtain rfl : ev = .nilIface := hev
    have HR : Hid (ofText p pt s sq = (⟨p, pt, n, 0, 0, sq⟩, 0)) := Lib.hid (by rw [ofText_fine HPf.out HK0.out hck, HOf.out])
    have HEv : Hid (ErV E w6 .nilIface (erOf 0)) := Lib.hid rfl
    clear hck hfl
    go_wp2_with fail
    exact of_end (x := ⟨p, pt, n, 0, 0, sq⟩) rfl rfl HR.out HEv.out HGz.out hbw6
  have HMin := Lib.hid (fun W (h : Below w2.heap.size w2 W) => minI_any _ q W (HU.out W h) h0 (by omega))
  have HMax := Lib.hid (fun W (h : Below w2.heap.size w2 W) => maxI_any _ q W (HU.out W h) h0 (by omega))
  have hpos : 0 < q.length := List.length_pos_iff.2 h0
  have g : (0 : Int) < (q.length : Int) := by omega
  have g' : decide (0 < q.length) = true := by simpa using hpos
  have p3 : w4.frozen? ⟨T, 3, none⟩ = false := frozen_row hgT
  have p4 : w4.frozen? ⟨T, 4, none⟩ = false := frozen_row hgT
  obtain ⟨lo, hlo⟩ : ∃ lo, (endsI q).1 = lo := ⟨_, rfl⟩
  obtain ⟨hi, hhi⟩ : ∃ hi, (endsI q).2 = hi := ⟨_, rfl⟩
  rw [hlo, hhi] at HOf
  simp only [hlo] at HMin
  simp only [hhi] at HMax
  clear h0 hlo hhi
  obtain ⟨n, hn⟩ : ∃ n : Int, (q.length : Int) = n := ⟨_, rfl⟩
  go_wp2_with fail
  refine (HMin.out _ hbF).mono ?_
  rintro e wx ⟨rfl, rfl⟩
  go_wp2_with fail
  refine (HMax.out _ hbF).mono ?_
  rintro e wx ⟨rfl, rfl⟩
  go_upto_region 10 with fail
  have hg5 : ((w4.setCell ⟨T, 3, none⟩ (.int .i64 lo)).setCell ⟨T, 4, none⟩ (.int .i64 hi)).heap[T]? = some (.cells #[S p, S pt, .int .i64 q.length, .int .i64 lo, .int .i64 hi, .int .i64 sq] 44 (0, 0)) := row_setCell (row_setCell hgT _) _
  have hb05 : Below w0.heap.size w0 ((w4.setCell ⟨T, 3, none⟩ (.int .i64 lo)).setCell ⟨T, 4, none⟩ (.int .i64 hi)) := (hb04.setCell (p := ⟨T, 3, none⟩) h02 _).setCell (p := ⟨T, 4, none⟩) h02 _
  clear c0 c1 c2 c3 c4 c5 p3 p4 hgT
  generalize (w4.setCell ⟨T, 3, none⟩ (.int .i64 lo)).setCell ⟨T, 4, none⟩ (.int .i64 hi) = w5 at *
  have hgT := hg5
  have c0 : w5.cell? ⟨T, 0, none⟩ = some (S p) := by rw [cell_of_row w5 _ _ _ _ (0, 0) hgT]; rfl
  have c1 : w5.cell? ⟨T, 1, none⟩ = some (S pt) := by rw [cell_of_row w5 _ _ _ _ (0, 0) hgT]; rfl
  have c2 : w5.cell? ⟨T, 2, none⟩ = some (.int .i64 q.length) := by rw [cell_of_row w5 _ _ _ _ (0, 0) hgT]; rfl
  have c3 : w5.cell? ⟨T, 3, none⟩ = some (.int .i64 lo) := by rw [cell_of_row w5 _ _ _ _ (0, 0) hgT]; rfl
  have c4 : w5.cell? ⟨T, 4, none⟩ = some (.int .i64 hi) := by rw [cell_of_row w5 _ _ _ _ (0, 0) hgT]; rfl
  have c5 : w5.cell? ⟨T, 5, none⟩ = some (.int .i64 sq) := by rw [cell_of_row w5 _ _ _ _ (0, 0) hgT]; rfl
  rw [hn] at c2 hgT HOf
  try rw [hn]
  clear hg5
  have HCk := Lib.hid (fileCheck_any E B ⟨p, pt, n, lo, hi, sq⟩ w5 ((X.out _ (hba.trans (hb05.mono hba.size))).1.sub (by decide)) (X.out _ (hba.trans (hb05.mono hba.size))).2.1 (X.out _ (hba.trans (hb05.mono hba.size))).2.2 ⟨hps, hts⟩)
  go_wp2_with fail
  refine HCk.out.mono ?_
  rintro e w6 ⟨ev, rfl, hev, hb6⟩
  have hb06 := hb05.trans (hb6.mono hb05.size)
  have hbw6 := hba.trans (hb06.mono hba.size)
  clear c0 c1 c2 c3 c4 c5 HCk
  have hgT6 := (hb6.block T (Array.getElem?_eq_some_iff.1 hgT).1).trans hgT
  have c0 : w6.cell? ⟨T, 0, none⟩ = some (S p) := by rw [cell_of_row w6 _ _ _ _ (0, 0) hgT6]; rfl
  have c1 : w6.cell? ⟨T, 1, none⟩ = some (S pt) := by rw [cell_of_row w6 _ _ _ _ (0, 0) hgT6]; rfl
  have c2 : w6.cell? ⟨T, 2, none⟩ = some (.int .i64 n) := by rw [cell_of_row w6 _ _ _ _ (0, 0) hgT6]; rfl
  have c3 : w6.cell? ⟨T, 3, none⟩ = some (.int .i64 lo) := by rw [cell_of_row w6 _ _ _ _ (0, 0) hgT6]; rfl
  have c4 : w6.cell? ⟨T, 4, none⟩ = some (.int .i64 hi) := by rw [cell_of_row w6 _ _ _ _ (0, 0) hgT6]; rfl
  have c5 : w6.cell? ⟨T, 5, none⟩ = some (.int .i64 sq) := by rw [cell_of_row w6 _ _ _ _ (0, 0) hgT6]; rfl
  clear hgT hgT6
  have hgz := HG.out _ (hb06)
  have fz : ∀ j, w6.frozen? ⟨w.heap.size, j, none⟩ = false := fun j => frozen_row hgz
  have f0 := fz 0; have f1 := fz 1; have f2 := fz 2; have f3 := fz 3; have f4 := fz 4; have f5 := fz 5
  obtain ⟨d0, d1, d2, d3, d4, d5⟩ := CZ.out _ (hb06)
  have HGz := Lib.hid hgz
  clear fz hgz
  have hfl : checkF ⟨p, pt, n, lo, hi, sq⟩ = checkF (ofFile p pt s sq) := by rw [HOf.out]
  unfold fileEr at hev
  rw [hfl] at hev
  by_cases hck : checkF (ofFile p pt s sq) = 0
  case neg =>
    have HR : Hid (ofText p pt s sq = (zeroF, checkF (ofFile p pt s sq))) := Lib.hid (ofText_bad HPf.out HK0.out hck)
    rw [if_neg hck] at hev
    have HEv : Hid (ErV E w6 ev (erOf (checkF (ofFile p pt s sq)))) := Lib.hid (by unfold erOf; rw [if_neg hck]; exact hev)
    obtain ⟨t1, x1, rfl⟩ := hev.iface (by simp)
    clear hev hck hfl
    go_wp2_with fail
    exact of_zero rfl rfl HR.out HEv.out HGz.out hbw6
  rw [if_pos hck] at hev
  obtain rfl : ev = .nilIface := hev
  have HR : Hid (ofText p pt s sq = (⟨p, pt, n, lo, hi, sq⟩, 0)) := Lib.hid (by rw [ofText_fine HPf.out HK0.out hck, HOf.out])
  have HEv : Hid (ErV E w6 .nilIface (erOf 0)) := Lib.hid rfl
  clear hck hfl
  go_wp2_with fail
  exact of_end (x := ⟨p, pt, n, lo, hi, sq⟩) rfl rfl HR.out HEv.out HGz.out hbw6
end Go.Proofs.YtefoaeamfkbgbaaGreatDoor
namespace Go.Proofs.YtefoaeamfkbgbaaGreatDoor
open Go.RowKit

theorem rowF6 {W : World} {g : Nat} {f : Fl} {t : TypeId} (h : W.heap[g]? = some (.cells #[S f.path, S f.part, .int .i64 f.n, .int .i64 f.lo, .int .i64 f.hi, .int .i64 f.seq] t (0, 0))) :
    W.cell? ⟨g, 0, none⟩ = some (S f.path) ∧ W.cell? ⟨g, 1, none⟩ = some (S f.part) ∧ W.cell? ⟨g, 2, none⟩ = some (.int .i64 f.n) ∧ W.cell? ⟨g, 3, none⟩ = some (.int .i64 f.lo) ∧ W.cell? ⟨g, 4, none⟩ = some (.int .i64 f.hi) ∧ W.cell? ⟨g, 5, none⟩ = some (.int .i64 f.seq) := by
  refine ⟨?_, ?_, ?_, ?_, ?_, ?_⟩ <;> (rw [cell_of_row W _ _ _ _ (0, 0) h]; rfl)
/-- A block that was there, later. -/
theorem rowKept {W W' : World} {g : Nat} {o : Obj} (h : W.heap[g]? = some o) (hb : Below W.heap.size W W') : W'.heap[g]? = some o := (hb.block g (Array.getElem?_eq_some_iff.1 h).1).trans h
theorem set_other {w : World} {g k i : Nat} (h : g ≠ k) (v : Value) : (w.setCell ⟨g, i, none⟩ v).heap[k]? = w.heap[k]? := by simp [World.setCell, Array.getElem?_modify, h]
theorem six_other (w : World) {g k o : Nat} (h : g ≠ k) (b0 b1 b2 b3 b4 b5 : Value) : (six w g o b0 b1 b2 b3 b4 b5).heap[k]? = w.heap[k]? := by
  rw [set_other h, set_other h, set_other h, set_other h, set_other h, set_other h]
end Go.Proofs.YtefoaeamfkbgbaaGreatDoor
namespace Go.Proofs.YtefoaeamfkbgbaaGreatDoor
open Go.RowKit Go.Maps

theorem StoreAt.away {w : World} {sb mb g i : Nat} {s : St} (h : StoreAt w sb mb s) (h1 : g ≠ sb) (h2 : g ≠ mb) (x : Value) : StoreAt (w.setCell ⟨g, i, none⟩ x) sb mb s :=
  ⟨(set_other h1 x).trans h.blk, h.own.setCell (by exact fun e => h2 e.symm) x, h.ok⟩
theorem StoreAt.six {w : World} {sb mb g o : Nat} {s : St} (h : StoreAt w sb mb s) (h1 : g ≠ sb) (h2 : g ≠ mb) (b0 b1 b2 b3 b4 b5 : Value) : StoreAt (six w g o b0 b1 b2 b3 b4 b5) sb mb s :=
  (((((h.away h1 h2 _).away h1 h2 _).away h1 h2 _).away h1 h2 _).away h1 h2 _).away h1 h2 _
theorem But2.away {w0 w : World} {sb mb g i : Nat} (h : But2 sb mb w0 w) (hg : w0.heap.size ≤ g) (x : Value) : But2 sb mb w0 (w.setCell ⟨g, i, none⟩ x) :=
  ⟨h.os, h.tape, h.output, by simpa [World.setCell] using h.size, fun k hk h1 h2 => (set_other (show g ≠ k by omega) x).trans (h.block k hk h1 h2)⟩
theorem But2.six {w0 w : World} {sb mb g o : Nat} (h : But2 sb mb w0 w) (hg : w0.heap.size ≤ g) (b0 b1 b2 b3 b4 b5 : Value) : But2 sb mb w0 (six w g o b0 b1 b2 b3 b4 b5) :=
  (((((h.away hg _).away hg _).away hg _).away hg _).away hg _).away hg _
theorem But2.drew {sb mb : Nat} {w0 w : World} (h : But2 sb mb w0 w) : But2 sb mb w0 w.drew := h.trans (But2.of (Bdn (Below.refl _ _) 1))
def putL (s : St) (p pt t : Str) (sq : Int) : Fl × Bool := if putE s p t = .nil then ((ofText p pt t sq).1, decide ((ofText p pt t sq).2 = 0)) else (zeroF, false)
def PutPost (sb mb : Nat) (s : St) (p pt t : Str) (sq : Int) (w : World) (e : Ending) (w' : World) : Prop := e = .returned (.tuple #[fileV (putL s p pt t sq).1, .bool (putL s p pt t sq).2]) ∧ StoreAt w' sb mb (putS s p t) ∧ But2 sb mb w w'
theorem put_end {sb mb : Nat} {s : St} {p pt t : Str} {sq : Int} {w W : World} {tmps : Array Value} {x : Fl} {b : Bool} (hp : tmps.getD 10 undef = .pointer (some ⟨w.heap.size, 0, none⟩)) (hv : tmps.getD 11 undef = .bool b) (hr : putL s p pt t sq = (x, b))
    (hF : W.heap[w.heap.size]? = some (.cells #[S [], S [], .int .i64 0, .int .i64 0, .int .i64 0, .int .i64 0] 44 (0, 0))) (h1 : sb < w.heap.size) (h2 : mb < w.heap.size) (hs : StoreAt W sb mb (putS s p t)) (hb : But2 sb mb w W) :
    bodyPost Tryz.prog Tryz.f14 (PutPost sb mb s p pt t sq w) .ret ⟨tmps, []⟩ (six W w.heap.size 0 (S x.path) (S x.part) (.int .i64 x.n) (.int .i64 x.lo) (.int .i64 x.hi) (.int .i64 x.seq)) := by
  refine bodyPost_ret (ret_row rfl tmps _ w.heap.size 44 #[S x.path, S x.part, .int .i64 x.n, .int .i64 x.lo, .int .i64 x.hi, .int .i64 x.seq] (0, 0) _ hp (six_new hF _ _ _ _ _ _) Tryz.underlying44 rfl (by kernel_rfl)) rfl ⟨?_, hs.six (by omega) (by omega) _ _ _ _ _ _, hb.six (Nat.le_refl _) _ _ _ _ _ _⟩
  rw [hr, hv]
theorem put_end_drew {sb mb : Nat} {s : St} {p pt t : Str} {sq : Int} {w W : World} {tmps : Array Value} {x : Fl} {b : Bool} (hp : tmps.getD 10 undef = .pointer (some ⟨w.heap.size, 0, none⟩)) (hv : tmps.getD 11 undef = .bool b) (hr : putL s p pt t sq = (x, b))
    (hF : W.heap[w.heap.size]? = some (.cells #[S [], S [], .int .i64 0, .int .i64 0, .int .i64 0, .int .i64 0] 44 (0, 0))) (h1 : sb < w.heap.size) (h2 : mb < w.heap.size) (hs : StoreAt W sb mb (putS s p t)) (hb : But2 sb mb w W) :
    bodyPost Tryz.prog Tryz.f14 (PutPost sb mb s p pt t sq w) .ret ⟨tmps, []⟩ (six W w.heap.size 0 (S x.path) (S x.part) (.int .i64 x.n) (.int .i64 x.lo) (.int .i64 x.hi) (.int .i64 x.seq)).drew := by
  have hs' := hs.six (g := w.heap.size) (o := 0) (by omega) (by omega) (S x.path) (S x.part) (.int .i64 x.n) (.int .i64 x.lo) (.int .i64 x.hi) (.int .i64 x.seq)
  refine bodyPost_ret (ret_row rfl tmps _ w.heap.size 44 #[S x.path, S x.part, .int .i64 x.n, .int .i64 x.lo, .int .i64 x.hi, .int .i64 x.seq] (0, 0) _ hp (by rw [World.heap_drew]; exact six_new hF _ _ _ _ _ _) Tryz.underlying44 rfl (by kernel_rfl)) rfl ⟨?_, hs'.below (Bdn (Below.refl _ _) 1), (hb.six (Nat.le_refl _) _ _ _ _ _ _).drew⟩
  rw [hr, hv]
set_option maxHeartbeats 1000000 in
set_option maxRecDepth 20000 in
theorem putL_any (E : Nat → Addr) (B : Nat) (sb mb : Nat) (s : St) (p pt t : Str) (sq : Int) (w : World) (hE : Errs [1, 2, 3, 4, 5, 7, 8, 9, 10, 12] E B w) (hT : LNum B w) (hM : LMax B w) (h : StoreAt w sb mb s) (hps : p.length ≤ 100000) (hts : pt.length ≤ 100000) (hs : t.length ≤ 10000) (hB : B ≤ sb) (hB2 : B ≤ mb) :
    Calls Tryz.prog 14 #[stP sb, S p, S pt, S t, .int .i64 sq] w (PutPost sb mb s p pt t sq w) := by
  have hBw := hE.le
  have hif := isIfaceE
  have HL1 := Lib.hid h.lt
  have HL2 := Lib.hid h.ltm
  have hba : Below w.heap.size w (w.alloc (.cells #[S [], S [], .int .i64 0, .int .i64 0, .int .i64 0, .int .i64 0] 44)) := (Below.refl w.heap.size w).alloc (Nat.le_refl _) _
  have X := Lib.hid (fun W (hb : But2 sb mb w W) => by
    have hb' := But2.below (Below.refl B w) hb hB hB2 hBw
    exact (⟨hE.below hb', hT.below hb', hM.below hb'⟩ : Errs [1, 2, 3, 4, 5, 7, 8, 9, 10, 12] E B W ∧ LNum B W ∧ LMax B W))
  have HG := Lib.hid (fun W (hb : But2 sb mb (w.alloc (.cells #[S [], S [], .int .i64 0, .int .i64 0, .int .i64 0, .int .i64 0] 44)) W) => (hb.block w.heap.size (by simp) (by have := h.lt; omega) (by have := h.ltm; omega)).trans (heap_alloc_new w (.cells #[S [], S [], .int .i64 0, .int .i64 0, .int .i64 0, .int .i64 0] 44)))
  have HPu := Lib.hid (put_any E B sb mb s p t (w.alloc (.cells #[S [], S [], .int .i64 0, .int .i64 0, .int .i64 0, .int .i64 0] 44)) ((X.out _ (But2.of hba)).1.sub (by decide)) (h.below hba) hps (by omega) hB hB2)
  have HSz : Hid (w.heap.size < (w.alloc (.cells #[S [], S [], .int .i64 0, .int .i64 0, .int .i64 0, .int .i64 0] 44)).heap.size) := Lib.hid (by simp)
  have HFo := Lib.hid (fun W (hb : But2 sb mb w W) => fileOf_any E B p pt t sq W ((X.out _ hb).1.sub (by decide)) (X.out _ hb).2.1 (X.out _ hb).2.2 hps hts (.inl hs) (by omega))
  have HAns : Hid (putL s p pt t sq = if putE s p t = .nil then ((ofText p pt t sq).1, decide ((ofText p pt t sq).2 = 0)) else (zeroF, false)) := Lib.hid rfl
  obtain ⟨x, c, hxc⟩ : ∃ x c, ofText p pt t sq = (x, c) := ⟨(ofText p pt t sq).1, (ofText p pt t sq).2, rfl⟩
  rw [hxc] at HAns
  have HXc := Lib.hid hxc
  clear hxc
  go_enter Tryz.func14, Tryz.ntmps14
  go_upto_region 1 with fail
  have hb0 := But2.of (sb := sb) (mb := mb) hba
  clear hE hT hM h
  generalize w.alloc (.cells #[S [], S [], .int .i64 0, .int .i64 0, .int .i64 0, .int .i64 0] 44) = w0 at *
  go_wp2_with fail
  refine HPu.out.mono ?_
  rintro e w1 ⟨ev, rfl, hev, hst, hb1⟩
  have hbw1 := hb0.trans hb1
  have hgz := HG.out _ hb1
  have HSt := Lib.hid hst
  clear hst
  by_cases hp : putE s p t = .nil
  case neg =>
    have HR : Hid (putL s p pt t sq = (zeroF, false)) := Lib.hid (by rw [HAns.out, if_neg hp])
    obtain ⟨t1, x1, rfl⟩ := hev.iface hp
    have fz : ∀ j, w1.frozen? ⟨w.heap.size, j, none⟩ = false := fun j => frozen_row hgz
    have f0 := fz 0; have f1 := fz 1; have f2 := fz 2; have f3 := fz 3; have f4 := fz 4; have f5 := fz 5
    obtain ⟨d0, d1, d2, d3, d4, d5⟩ := rowF6 (f := zeroF) hgz
    have HGz := Lib.hid hgz
    clear fz hgz hev hp
    go_wp2_with fail
    exact put_end (x := zeroF) rfl rfl HR.out HGz.out HL1.out HL2.out HSt.out hbw1
  rw [hp] at hev
  obtain rfl : ev = .nilIface := hev
  have HAn2 : Hid (putL s p pt t sq = (x, decide (c = 0))) := Lib.hid (by rw [HAns.out, if_pos hp])
  clear hp hgz
  go_wp2_with fail
  refine (HFo.out w1 hbw1).mono ?_
  unfold OfPost
  rw [HXc.out]
  rintro e w2 ⟨ev, rfl, hev, hb2⟩
  have hbw2 := hbw1.trans (But2.of hb2)
  have hb02 := hb1.trans (But2.of hb2)
  have HSt2 := Lib.hid (HSt.out.below hb2)
  have hb3 : Below w2.heap.size w2 (w2.alloc (.cells #[S x.path, S x.part, .int .i64 x.n, .int .i64 x.lo, .int .i64 x.hi, .int .i64 x.seq] 44)) := (Below.refl _ _).alloc (Nat.le_refl _) _
  have hg3 := heap_alloc_new w2 (.cells #[S x.path, S x.part, .int .i64 x.n, .int .i64 x.lo, .int .i64 x.hi, .int .i64 x.seq] 44)
  have hbw3 := hbw2.trans (But2.of hb3)
  have hb03 := hb02.trans (But2.of hb3)
  have HSt3 := Lib.hid (HSt2.out.below hb3)
  have hgz := HG.out _ hb03
  unfold fileV
  have hE2 : (ev = .nilIface ∧ c = 0) ∨ (∃ t1 x1, ev = .iface t1 x1 ∧ c ≠ 0) := by
    unfold erOf at hev
    by_cases hc : c = 0
    · rw [if_pos hc] at hev
      exact .inl ⟨hev, hc⟩
    · rw [if_neg hc] at hev
      obtain ⟨t1, x1, rfl⟩ := hev.iface (by simp)
      exact .inr ⟨t1, x1, rfl, hc⟩
  clear hev hb2 hb3
  go_upto_region 4 with fail
  generalize w2.alloc (.cells #[S x.path, S x.part, .int .i64 x.n, .int .i64 x.lo, .int .i64 x.hi, .int .i64 x.seq] 44) = w3 at *
  obtain ⟨G, hG⟩ : ∃ G, w2.heap.size = G := ⟨_, rfl⟩
  have hGn : ¬ G = w.heap.size := by have := hb02.size; have := HSz.out; omega
  have hGn' : ¬ w.heap.size = G := fun e => hGn e.symm
  rw [hG] at hg3 ⊢
  obtain ⟨e0, e1, e2, e3, e4, e5⟩ := rowF6 hg3
  have fz : ∀ j, w3.frozen? ⟨w.heap.size, j, none⟩ = false := fun j => frozen_row hgz
  have f0 := fz 0; have f1 := fz 1; have f2 := fz 2; have f3 := fz 3; have f4 := fz 4; have f5 := fz 5
  obtain ⟨d0, d1, d2, d3, d4, d5⟩ := rowF6 (f := zeroF) hgz
  have HGz := Lib.hid hgz
  clear fz hgz hg3 hG
  rcases hE2 with ⟨rfl, hc⟩ | ⟨t1, x1, rfl, hc⟩
  · have HR : Hid (putL s p pt t sq = (x, true)) := Lib.hid (by rw [HAn2.out, hc]; rfl)
    clear hc
    go_region
    go_wp2_with fail
    first
      | exact put_end_drew rfl rfl HR.out HGz.out HL1.out HL2.out HSt3.out hbw3
      | exact put_end rfl rfl HR.out HGz.out HL1.out HL2.out HSt3.out hbw3
  · have HR : Hid (putL s p pt t sq = (x, false)) := Lib.hid (by rw [HAn2.out, decide_eq_false hc])
    clear hc
    go_region
    go_wp2_with fail
    first
      | exact put_end_drew rfl rfl HR.out HGz.out HL1.out HL2.out HSt3.out hbw3
      | exact put_end rfl rfl HR.out HGz.out HL1.out HL2.out HSt3.out hbw3
end Go.Proofs.YtefoaeamfkbgbaaGreatDoor
namespace Go.Proofs.YtefoaeamfkbgbaaGreatDoor
open Go.RowKit Go.Maps

section
variable {w w' : World} {sb mb a b : Nat} {s : St} {e : TypeId}
theorem StoreAt.asideT (h : StoreAt w sb mb s) (hb : But2 a b w w') (h1 : sb ≠ a) (h2 : sb ≠ b) (h3 : mb ≠ a) (h4 : mb ≠ b) : StoreAt w' sb mb s :=
  ⟨(hb.block sb h.lt h1 h2).trans h.blk, by
    obtain ⟨es, clock, hx, F, hs, hD⟩ := h.own
    exact ⟨es, clock, (hb.block mb h.ltm h3 h4).trans hx, F, hs, hD⟩, h.ok⟩
theorem own_offT {α : Type} {enc : α → List Value} {sz B : Nat} {v : Value} {l : List α} (h : Own enc e sz B w v l) (hs : StoreAt w sb mb s) (he : e ≠ 126) : v.ownBlock ≠ some sb ∧ v.ownBlock ≠ some mb := by
  refine ⟨own_ne h hs.blk fun cs hc => ?_, ?_⟩
  · cases hc; exact he rfl
  · obtain ⟨es, clock, hx, _⟩ := hs.own
    exact own_ne h hx fun cs hc => by cases hc
end
/-- The store and the model of s, apart, made behind w0. -/
structure Twin (w0 : World) (sb mb xb : Nat) (v : Value) (s : St) (w : World) : Prop where
  sto : StoreAt w sb mb s
  mdl : ModAt w w0.heap.size xb v s
  bel : Below w0.heap.size w0 w
  h1 : w0.heap.size ≤ sb
  h2 : w0.heap.size ≤ mb
  h3 : w0.heap.size ≤ xb
  n1 : xb ≠ sb
  n2 : xb ≠ mb
section
variable {w0 w w' w2 : World} {sb mb xb : Nat} {v v' : Value} {s s' : St}
theorem Twin.below (h : Twin w0 sb mb xb v s w) (hb : Below w.heap.size w w') : Twin w0 sb mb xb v s w' :=
  { h with sto := h.sto.below hb, mdl := h.mdl.below hb, bel := h.bel.trans (hb.mono h.bel.size) }
/-- The model, when the store alone has turned. -/
theorem Twin.half (h : Twin w0 sb mb xb v s w) (hb : But2 sb mb w w') : ModAt w' w0.heap.size xb v s := by
  obtain ⟨k1, k2⟩ := own_offT h.mdl.own h.sto (by decide)
  exact ⟨(hb.block xb h.mdl.lt h.n1 h.n2).trans h.mdl.blk, own_but h.mdl.own k1 k2 hb, h.mdl.ok⟩
/-- Both are turned, one behind the other. -/
theorem Twin.turn (h : Twin w0 sb mb xb v s w) (hs : StoreAt w' sb mb s') (hb : But2 sb mb w w') (hm : ModAt w2 w0.heap.size xb v' s') (hb2 : But2 xb xb w' w2) : Twin w0 sb mb xb v' s' w2 :=
  { h with
    sto := hs.asideT hb2 h.n1.symm h.n1.symm h.n2.symm h.n2.symm
    mdl := hm
    bel := hb2.below (hb.below h.bel h.h1 h.h2 h.bel.size) h.h3 h.h3 (hb.below h.bel h.h1 h.h2 h.bel.size).size }
end
theorem cell_row {w : World} {b i : Nat} {u : Value} (h : w.cell? ⟨b, i, none⟩ = some u) : ∃ cs t fr, w.heap[b]? = some (.cells cs t fr) ∧ i < cs.size := by
  unfold World.cell? at h
  split at h
  · rename_i cs t fr hg
    exact ⟨cs, t, fr, hg, (Array.getElem?_eq_some_iff.1 (by simpa using h)).1⟩
  · cases h
/-- A list of wide structs stays, when only what is no such row has turned. -/
theorem at_turn {α : Type} {enc : α → List Value} {sz : Nat} {w w' : World} {v : Value} {l : List α} {a b : Nat} (h : At enc sz w v l) (he : ∀ x, (enc x).length = sz) (h6 : 6 ≤ sz) (hb : But2 a b w w')
    (ha : ∀ cs t fr, w.heap[a]? = some (.cells cs t fr) → cs.size ≤ 5) (hb' : ∀ cs t fr, w.heap[b]? = some (.cells cs t fr) → cs.size ≤ 5) : At enc sz w' v l := by
  obtain ⟨ad, c, bk, o, hv, h1, h2, h3, hx⟩ := h
  refine ⟨ad, c, bk, o, hv, h1, h2, h3, fun k x hk j u hu => ?_⟩
  have hc := hx k x hk j u hu
  obtain ⟨u5, hu5⟩ : ∃ u5, (enc x)[sz - 1]? = some u5 := ⟨_, List.getElem?_eq_getElem (by rw [he]; omega)⟩
  obtain ⟨cs, t, fr, hg, hi⟩ := cell_row (hx k x hk (sz - 1) u5 hu5)
  have na : bk ≠ a := by rintro rfl; have := ha cs t fr hg; omega
  have nb : bk ≠ b := by rintro rfl; have := hb' cs t fr hg; omega
  have hlt := (Array.getElem?_eq_some_iff.1 hg).1
  have := hb.block bk hlt na nb
  rw [← hc]
  unfold World.cell?
  simp only [this]
theorem StoreAt.thin {w : World} {sb mb : Nat} {s : St} (h : StoreAt w sb mb s) : (∀ cs t fr, w.heap[sb]? = some (.cells cs t fr) → cs.size ≤ 5) ∧ (∀ cs t fr, w.heap[mb]? = some (.cells cs t fr) → cs.size ≤ 5) := by
  refine ⟨fun cs t fr hg => ?_, fun cs t fr hg => ?_⟩
  · rw [h.blk] at hg
    cases hg
    exact Nat.le_refl _
  · obtain ⟨es, clock, hx, _⟩ := h.own
    rw [hx] at hg
    cases hg
theorem ModAt.thin {w : World} {B xb : Nat} {v : Value} {s : St} (h : ModAt w B xb v s) : ∀ cs t fr, w.heap[xb]? = some (.cells cs t fr) → cs.size ≤ 5 := fun cs t fr hg => by
  rw [h.blk] at hg
  cases hg
  exact Nat.le_refl _
end Go.Proofs.YtefoaeamfkbgbaaGreatDoor
namespace Go.Proofs.YtefoaeamfkbgbaaGreatDoor
open Go.RowKit

/-- A piece of a table: a file's rows (or its keys), by which Seq; another text in its place; and where its rows and keys lie. -/
structure Pc where
  path : Str
  part : Str
  spoil : Str
  rows : List Rw
  keys : List Int
  seq : Int
  va : Value
  vk : Value
abbrev encPc (p : Pc) : List Value := [S p.path, S p.part, S p.spoil, p.va, p.vk, .int .i64 p.seq]
/-- The rows and keys of each lie there. -/
def HeldPc (w : World) (l : List Pc) : Prop := ∀ x ∈ l, RowsAt w x.va x.rows ∧ IntsAt w x.vk x.keys
theorem HeldPc.below {w w' : World} {l : List Pc} (h : HeldPc w l) (hb : Below w.heap.size w w') : HeldPc w' l := fun x hx => ⟨(h x hx).1.below hb, (h x hx).2.below hb⟩
abbrev PiecesAt (w : World) (v : Value) (l : List Pc) : Prop := At encPc 6 w v l
theorem szPc (w : World) : (sizeOf 72).run Tryz.prog w = .ok 6 w := by kernel_rfl
/-- A round's cells. -/
theorem pcCells {w w' : World} {b o : Nat} {l : List Pc} {k : Nat} {x : Pc} (hx : ∀ (k : Nat) (x : Pc), l[k]? = some x → ∀ (j : Nat) (u : Value), (encPc x)[j]? = some u → w.cell? ⟨b, o + k * 6 + j, none⟩ = some u) (hb : Below w.heap.size w w') (hk : l[k]? = some x) :
    w'.cell? ⟨b, o + k * 6, none⟩ = some (S x.path) ∧ w'.cell? ⟨b, o + k * 6 + 1, none⟩ = some (S x.part) ∧ w'.cell? ⟨b, o + k * 6 + 2, none⟩ = some (S x.spoil) ∧ w'.cell? ⟨b, o + k * 6 + 3, none⟩ = some x.va ∧ w'.cell? ⟨b, o + k * 6 + 4, none⟩ = some x.vk ∧ w'.cell? ⟨b, o + k * 6 + 5, none⟩ = some (.int .i64 x.seq) := by
  have h := fun j u hu => by
    have := hx k x hk j u hu
    exact (hb.cell (World.block_lt_of_cell? w _ this)).trans this
  exact ⟨h 0 _ rfl, h 1 _ rfl, h 2 _ rfl, h 3 _ rfl, h 4 _ rfl, h 5 _ rfl⟩
end Go.Proofs.YtefoaeamfkbgbaaGreatDoor
namespace Go.Proofs.YtefoaeamfkbgbaaGreatDoor
open Go.RowKit

/-- A table at one time. -/
structure Sn where
  id : Int
  parent : Int
  seq : Int
  day : Int
  index : Int
  op : Str
  files : List Fl
  deriving DecidableEq

abbrev kStart : Str := [115, 116, 97, 114, 116]
abbrev kAppend : Str := [97, 112, 112, 101, 110, 100]
abbrev kDelete : Str := [100, 101, 108, 101, 116, 101]
abbrev kRewrite : Str := [114, 101, 119, 114, 105, 116, 101]
abbrev kSnap : Str := [115, 110, 97, 112]
def kOps : List Str := [kStart, kAppend, kDelete, kRewrite]
def zeroSn : Sn := ⟨0, 0, 0, 0, 0, [], []⟩

def inB (n lo hi : Int) : Bool := decide (lo ≤ n) && decide (n ≤ hi)
def snapBound (s : Sn) : Bool := !inB s.id 1 1073741824 || (decide (s.parent < 0) || (decide (s.id ≤ s.parent) || (!inB s.seq 0 1073741824 || (!inB s.day 0 100000 || !inB s.index 0 1073741824))))
def seqFault (s : Sn) (i : Nat) : Nat :=
  match s.files[i]? with
  | none => 0
  | some f => if s.seq < f.seq then 9 else 0
/-- A snap's fault. -/
def snapCheck (s : Sn) : Er :=
  if snapBound s = true then .bare 2 else if s.op ∉ kOps then .bare 4 else if listCheck s.files ≠ .nil then listCheck s.files else firstErr (seqFault s) s.files.length
structure RightSn (s : Sn) : Prop where
  bnd : snapBound s = false
  op : s.op ∈ kOps
  lst : RightL s.files
  sq : ∀ f ∈ s.files, f.seq ≤ s.seq
theorem snap_iff (s : Sn) : snapCheck s = .nil ↔ RightSn s := by
  unfold snapCheck
  constructor
  · intro h
    split at h
    · cases h
    · rename_i h1
      split at h
      · cases h
      · rename_i h2
        split at h
        · rename_i h3; exact absurd h h3
        · rename_i h3
          have hf := firstErr_nil h
          refine ⟨by simpa using h1, Decidable.not_not.1 h2, (right_iff _).1 (Decidable.not_not.1 h3), fun f hf' => ?_⟩
          obtain ⟨i, hi⟩ := List.getElem?_of_mem hf'
          have := hf i (List.getElem?_eq_some_iff.1 hi).1
          unfold seqFault at this
          rw [hi] at this
          simp only at this
          split at this
          · cases this
          · omega
  · intro h
    rw [if_neg (by rw [h.bnd]; simp), if_neg (fun h' => h' h.op), if_neg (fun h' => h' ((right_iff _).2 h.lst))]
    refine firstErr_all fun j hj => ?_
    unfold seqFault
    obtain ⟨f, hf⟩ : ∃ f, s.files[j]? = some f := ⟨s.files[j], List.getElem?_eq_getElem hj⟩
    rw [hf]
    simp only
    rw [if_neg]
    have := h.sq f (List.mem_of_getElem? hf)
    omega
theorem RightSn.nums {s : Sn} (h : RightSn s) : (1 ≤ s.id ∧ s.id ≤ 1073741824) ∧ (0 ≤ s.parent ∧ s.parent < s.id) ∧ (0 ≤ s.seq ∧ s.seq ≤ 1073741824) ∧ (0 ≤ s.day ∧ s.day ≤ 100000) ∧ (0 ≤ s.index ∧ s.index ≤ 1073741824) := by
  have := h.bnd
  unfold snapBound inB at this
  simp at this
  omega

def snapHead (s : Sn) (sum : Int) : Str := kSnap ++ (numsTail [s.id, s.parent, s.seq, s.day, s.index] ++ 32 :: (s.op ++ 32 :: Lib.itoa sum))
def snapText (s : Sn) : Str := snapHead s (sumOf (listText s.files)) ++ 10 :: listText s.files

/-- What a head says. -/
def headOf : List Str → Option (Sn × Int)
  | [t, a, b, c, d, e, op, g] =>
    if t = kSnap then
      match numsOf [a, b, c, d, e, g] with
      | some [n0, n1, n2, n3, n4, n5] => some (⟨n0, n1, n2, n3, n4, op, []⟩, n5)
      | _ => none
    else none
  | _ => none
def headAt (s : Str) : Option (Sn × Int) := if (Lib.cut s [10]).2.2 = true then headOf (cutAt 32 (Lib.cut s [10]).1) else none
def bodyRead (x : Sn) (sum : Int) (body : Str) : Sn × Er :=
  if sum ≠ sumOf body then (zeroSn, .bare 10)
  else if listReadE body ≠ .nil then (zeroSn, listReadE body)
  else if snapCheck { x with files := listReadL body } ≠ .nil then (zeroSn, snapCheck { x with files := listReadL body })
  else ({ x with files := listReadL body }, .nil)
/-- A snap's text, read. -/
def snapRead (s : Str) : Sn × Er :=
  if 20000 < s.length then (zeroSn, .bare 2) else
  match headAt s with
  | none => (zeroSn, .bare 1)
  | some (x, sum) => bodyRead x sum (Lib.cut s [10]).2.1

theorem op_sign {op : Str} (h : op ∈ kOps) : (∀ c ∈ op, 47 ≤ c.toNat) ∧ op.length ≤ 7 := by
  unfold kOps at h
  simp only [List.mem_cons, List.not_mem_nil, or_false] at h
  rcases h with rfl | rfl | rfl | rfl <;> decide
theorem not_itoa32 (n : Int) : (32 : UInt8) ∉ Lib.itoa n := not_mem_itoa' (by decide) (by decide)
theorem cut_head {s : Sn} (h : s.op ∈ kOps) (sum : Int) : cutAt 32 (snapHead s sum) = [kSnap, Lib.itoa s.id, Lib.itoa s.parent, Lib.itoa s.seq, Lib.itoa s.day, Lib.itoa s.index, s.op, Lib.itoa sum] := by
  have hop : (32 : UInt8) ∉ s.op := fun hm => by have := (op_sign h).1 _ hm; revert this; decide
  have e : snapHead s sum = kSnap ++ 32 :: (Lib.itoa s.id ++ 32 :: (Lib.itoa s.parent ++ 32 :: (Lib.itoa s.seq ++ 32 :: (Lib.itoa s.day ++ 32 :: (Lib.itoa s.index ++ 32 :: (s.op ++ 32 :: Lib.itoa sum)))))) := by
    unfold snapHead numsTail; simp
  rw [e, cutAt_app (by decide), cutAt_app (not_itoa32 _), cutAt_app (not_itoa32 _), cutAt_app (not_itoa32 _), cutAt_app (not_itoa32 _), cutAt_app (not_itoa32 _), cutAt_app hop, cutAt_none (not_itoa32 _)]
theorem head_none {s : Sn} (h : s.op ∈ kOps) (sum : Int) : (10 : UInt8) ∉ snapHead s sum := by
  unfold snapHead
  intro hm
  have hs : ∀ c : UInt8, (c = 32 ∨ c = 45 ∨ 47 ≤ c.toNat) → c ≠ 10 := fun c hc => by
    rintro rfl; rcases hc with hc | hc | hc <;> revert hc <;> decide
  have hi : ∀ n, ∀ c ∈ Lib.itoa n, c = 32 ∨ c = 45 ∨ 47 ≤ c.toNat := fun n c hc => by
    rcases itoa_sign n c hc with h | h
    · exact .inr (.inl h)
    · exact .inr (.inr (by omega))
  rcases List.mem_append.1 hm with hm | hm
  · revert hm; decide
  · rcases List.mem_append.1 hm with hm | hm
    · exact hs _ (nums_sign _ _ hm) rfl
    · rcases List.mem_cons.1 hm with hm | hm
      · revert hm; decide
      · rcases List.mem_append.1 hm with hm | hm
        · exact hs _ (.inr (.inr ((op_sign h).1 _ hm))) rfl
        · rcases List.mem_cons.1 hm with hm | hm
          · revert hm; decide
          · exact hs _ (hi _ _ hm) rfl
theorem headOf_text {s : Sn} (h : RightSn s) (sum : Int) (h0 : 0 ≤ sum) (h1 : sum < 4294967296) : headOf (cutAt 32 (snapHead s sum)) = some ({ s with files := [] }, sum) := by
  obtain ⟨a1, a2, a3, a4, a5⟩ := h.nums
  rw [cut_head h.op]
  have hn : numsOf ([s.id, s.parent, s.seq, s.day, s.index, sum].map Lib.itoa) = some [s.id, s.parent, s.seq, s.day, s.index, sum] := numsOf_map _ fun x hx => by
    simp only [List.mem_cons, List.not_mem_nil, or_false] at hx
    rcases hx with rfl | rfl | rfl | rfl | rfl | rfl <;> omega
  simp only [List.map_cons, List.map_nil] at hn
  unfold headOf
  simp only [if_true, hn]
theorem head_len {s : Sn} (h : RightSn s) (sum : Int) (h0 : 0 ≤ sum) (h1 : sum < 4294967296) : (snapHead s sum).length ≤ 200 := by
  obtain ⟨a1, a2, a3, a4, a5⟩ := h.nums
  have hl := fun n (h0 : (0 : Int) ≤ n) (h1 : n ≤ 4294967296) => itoa_len n (by omega) (by omega)
  have b1 := hl s.id (by omega) (by omega); have b2 := hl s.parent (by omega) (by omega); have b3 := hl s.seq (by omega) (by omega); have b4 := hl s.day (by omega) (by omega); have b5 := hl s.index (by omega) (by omega); have b6 := hl sum h0 (by omega)
  have b7 := (op_sign h.op).2
  unfold snapHead numsTail
  simp
  omega
theorem text_len {s : Sn} (h : RightSn s) : (listText s.files).length ≤ 9060 := by
  have := listText_len h.lst.ok
  have := h.lst.len
  omega
theorem snapText_len {s : Sn} (h : RightSn s) : (snapText s).length ≤ 9300 := by
  have h1 := head_len h (sumOf (listText s.files)) (by omega) (by have := sumOf_lt (listText s.files); omega)
  have h2 := text_len h
  unfold snapText
  rw [List.length_append, List.length_cons]
  omega
theorem snapRead_of {s : Sn} (h : RightSn s) (body : Str) (hb : body.length ≤ 9060) : snapRead (snapHead s (sumOf (listText s.files)) ++ 10 :: body) = bodyRead { s with files := [] } (sumOf (listText s.files)) body := by
  have hsl := sumOf_lt (listText s.files)
  have h1 := head_len h (sumOf (listText s.files)) (by omega) (by omega)
  have hc := cut_app1 (c := 10) (p := snapHead s (sumOf (listText s.files))) (q := body) (head_none h.op _)
  unfold snapRead headAt
  rw [if_neg (by rw [List.length_append, List.length_cons]; omega), hc]
  simp only [if_true]
  rw [headOf_text h _ (by omega) (by omega)]
theorem snapRead_text {s : Sn} (h : RightSn s) : snapRead (snapText s) = (s, .nil) := by
  unfold snapText
  rw [snapRead_of h _ (text_len h)]
  obtain ⟨r1, r2⟩ := listRead_text h.lst
  have hs : ({ ({ s with files := [] } : Sn) with files := listReadL (listText s.files) } : Sn) = s := by rw [r2]
  unfold bodyRead
  rw [if_neg (by simp), if_neg (by rw [r1]; simp), hs, if_neg (by rw [(snap_iff s).2 h]; simp)]
theorem snapRead_one {s : Sn} (h : RightSn s) {i : Nat} {x c : UInt8} (hx : (listText s.files)[i]? = some x) (hne : x ≠ c) :
    snapRead (snapHead s (sumOf (listText s.files)) ++ 10 :: (listText s.files).set i c) = (zeroSn, .bare 10) := by
  rw [snapRead_of h _ (by rw [List.length_set]; exact text_len h)]
  unfold bodyRead
  rw [if_pos]
  have := sumOf_set hx hne
  omega
end Go.Proofs.YtefoaeamfkbgbaaGreatDoor
namespace Go.Proofs.YtefoaeamfkbgbaaGreatDoor
open Go.RowKit

theorem fault_cell {fn : Func} {p : Tmp} (h : fn.results = #[.cell p 58]) {tmps : Array Value} {w : World} {g : Nat} {c q : Int} (hp : tmps.getD p undef = .pointer (some ⟨g, 0, none⟩)) (hg : w.heap[g]? = some (.cells #[.int .i64 c, .int .i64 q] 58 (0, 0))) :
    (results fn tmps).run Tryz.prog w = .ok (faultV c q) w :=
  results_cell_row h _ _ g 58 #[.int .i64 c, .int .i64 q] (0, 0) _ hp hg Tryz.underlying58 rfl (by kernel_rfl)
theorem listCheck_few {l : List Fl} (h : ¬ 60 < l.length) : listCheck l = firstErr (fileFault l) l.length := if_neg h
theorem fileFault_bad {l : List Fl} {k : Nat} {x : Fl} (hx : l[k]? = some x) (h : checkF x ≠ 0) : fileFault l k = checkF x := by unfold fileFault; rw [hx]; simp only; rw [if_pos h]
theorem fileFault_zero {l : List Fl} {x : Fl} (hx : l[0]? = some x) (h : checkF x = 0) : fileFault l 0 = 0 := by unfold fileFault; rw [hx]; simp only; rw [if_neg (by simpa using h), if_neg (by simp)]
theorem fileFault_ord {l : List Fl} {k : Nat} {x y : Fl} (hx : l[k]? = some x) (h : checkF x = 0) (h0 : 0 < k) (hy : l[k - 1]? = some y) (hc : cmpP x.path y.path ≤ 0) : fileFault l k = 9 := by
  unfold fileFault; rw [hx]; simp only; rw [if_neg (by simpa using h), if_pos ⟨h0, y, hy, hc⟩]
theorem fileFault_fine {l : List Fl} {k : Nat} {x y : Fl} (hx : l[k]? = some x) (h : checkF x = 0) (hy : l[k - 1]? = some y) (hc : ¬ cmpP x.path y.path ≤ 0) : fileFault l k = 0 := by
  unfold fileFault; rw [hx]; simp only; rw [if_neg (by simpa using h), if_neg]
  rintro ⟨_, g, hg, hle⟩
  rw [hy] at hg; cases hg; exact hc hle

set_option maxHeartbeats 2000000 in
set_option maxRecDepth 20000 in
theorem listFault_any (v : Value) (l : List Fl) (w : World) (hl : FilesAt w v l) (hs : ∀ x ∈ l, midF x) :
    Calls Tryz.prog 121 #[v] w fun e w' => e = .returned (faultOf (listCheck l)) ∧ Below w.heap.size w w' := by
  obtain ⟨a, c, b, o, rfl, ha, hc, hcm, hx⟩ := hl
  unfold maxLen at hcm
  have hba := (Below.refl w.heap.size w).alloc (Nat.le_refl _) (.cells #[.int .i64 0, .int .i64 0] 58)
  have hG := fun W (h : Below (w.alloc (.cells #[.int .i64 0, .int .i64 0] 58)).heap.size (w.alloc (.cells #[.int .i64 0, .int .i64 0] 58)) W) => ((h.block w.heap.size (by simp)).trans (heap_alloc_new w (.cells #[.int .i64 0, .int .i64 0] 58)) : W.heap[w.heap.size]? = some (.cells #[.int .i64 0, .int .i64 0] 58 (0, 0)))
  have HG := Lib.hid hG; clear hG
  have HS := Lib.hid hs; clear hs
  by_cases h60 : 60 < l.length
  · have g60 : (60 : Int) < (l.length : Int) := by omega
    have hsp : listCheck l = .bare 8 := if_pos h60
    have Hl := Lib.hid hsp; clear h60 hsp
    go_enter Tryz.func121, Tryz.ntmps121
    go_wp2_with fail
    refine (refBare_any 8 _).mono ?_
    rintro e w1 ⟨rfl, hb⟩
    have hg := HG.out _ hb
    have c0 : w1.cell? ⟨w.heap.size, 0, none⟩ = some (.int .i64 0) := by simp [World.cell?, hg]
    have c1 : w1.cell? ⟨w.heap.size, 1, none⟩ = some (.int .i64 0) := by simp [World.cell?, hg]
    have f0 : w1.frozen? ⟨w.heap.size, 0, none⟩ = false := by simp [World.frozen?, hg]
    have f1 : w1.frozen? ⟨w.heap.size, 1, none⟩ = false := by simp [World.frozen?, hg]
    have HGg := Lib.hid hg; clear hg
    unfold faultV
    go_wp2_with fail
    refine bodyPost_ret (fault_cell (g := w.heap.size) rfl rfl (set_two HGg.out _ _)) rfl ⟨by rw [Hl.out]; rfl, ?_⟩
    exact ((hba.trans (hb.mono hba.size)).setCell (by simp) _).setCell (by simp) _
  have g60 : decide ((60 : Int) < (l.length : Int)) = false := by simp; omega
  have hspec := listCheck_few h60
  have HF := Lib.hid hspec; clear hspec h60
  go_enter Tryz.func121, Tryz.ntmps121
  go_wp2_with fail
  generalize w.alloc (.cells #[.int .i64 0, .int .i64 0] 58) = w0 at *
  go_loopw [3] (fun i wr => ∃ k : Nat, k ≤ l.length ∧ i = .int .i64 k ∧ Hid (∀ j < k, fileFault l j = 0) ∧ Below w0.heap.size w0 wr) (fun i _ => l.length - (intOf i).toNat)
  case atStart => exact ⟨0, by omega, rfl, Lib.hid fun j hj => absurd hj (by omega), Below.refl _ _⟩
  case round =>
    obtain ⟨k, hk, rfl, hj, hb⟩ := hrel
    have hbw : Below w.heap.size w wr := hba.trans (hb.mono hba.size)
    by_cases hlt : k < l.length
    case neg =>
      obtain rfl : k = l.length := by omega
      have f : decide ((l.length : Int) < (l.length : Int)) = false := by simp
      go_wp2_with fail
      refine (refFine_any _).mono ?_
      rintro e w1 ⟨rfl, hb1⟩
      have hg := HG.out _ (hb.trans (hb1.mono hb.size))
      have c0 : w1.cell? ⟨w.heap.size, 0, none⟩ = some (.int .i64 0) := by simp [World.cell?, hg]
      have c1 : w1.cell? ⟨w.heap.size, 1, none⟩ = some (.int .i64 0) := by simp [World.cell?, hg]
      have f0 : w1.frozen? ⟨w.heap.size, 0, none⟩ = false := by simp [World.frozen?, hg]
      have f1 : w1.frozen? ⟨w.heap.size, 1, none⟩ = false := by simp [World.frozen?, hg]
      have HGg := Lib.hid hg; clear hg
      unfold faultV
      go_wp2_with fail
      refine bodyPost_ret (fault_cell (g := w.heap.size) rfl rfl (set_two HGg.out _ _)) rfl ⟨by rw [HF.out, firstErr_all hj.out]; rfl, ?_⟩
      exact ((hbw.trans (hb1.mono hbw.size)).setCell (by simp) _).setCell (by simp) _
    obtain ⟨x, hxk⟩ := get_ex hlt
    have CX := Lib.hid (fun W (h : Below w.heap.size w W) => flCells hx h hxk)
    obtain ⟨c0, c1, c2, c3, c4, c5⟩ := CX.out _ hbw
    have i1 := idx_at (c := c) 6 Tryz.underlying23 szFl ha k hlt
    have hk1 : (k : Int) < (l.length : Int) := by omega
    have hsx := HS.out x (List.mem_of_getElem? hxk)
    have hfe := fileError_any x wr hsx
    have HFe := Lib.hid hfe
    have Hx := Lib.hid hxk; clear hxk hfe
    by_cases hck : checkF x = 0
    case neg =>
      have hf := fileFault_bad Hx.out hck
      have HL : Hid (listCheck l = .loc (checkF x) k) := Lib.hid (HF.out.trans ((firstErr_hit hlt hj.out (by rw [hf]; exact hck)).trans (by rw [hf])))
      have g1 : (((checkF x : Nat) : Int) == 0) = false := by simpa using hck
      have g2 : (0 : Int) < ((checkF x : Nat) : Int) := by omega
      clear hf hck
      generalize checkF x = cx at *
      go_wp2_with fail
      refine HFe.out.mono ?_
      rintro e w1 ⟨rfl, hb1⟩
      have hg := HG.out _ (hb.trans (hb1.mono hb.size))
      clear c0 c1 c2 c3 c4 c5
      have c0 : w1.cell? ⟨w.heap.size, 0, none⟩ = some (.int .i64 0) := by simp [World.cell?, hg]
      have c1 : w1.cell? ⟨w.heap.size, 1, none⟩ = some (.int .i64 0) := by simp [World.cell?, hg]
      have f0 : w1.frozen? ⟨w.heap.size, 0, none⟩ = false := by simp [World.frozen?, hg]
      have f1 : w1.frozen? ⟨w.heap.size, 1, none⟩ = false := by simp [World.frozen?, hg]
      have HGg := Lib.hid hg; clear hg
      go_wp2_with fail
      refine bodyPost_ret (fault_cell (g := w.heap.size) rfl rfl (set_two HGg.out _ _)) rfl ⟨by rw [HL.out]; rfl, ?_⟩
      exact ((hbw.trans (hb1.mono hbw.size)).setCell (by simp) _).setCell (by simp) _
    have HK := Lib.hid hck
    rw [hck] at HFe
    clear hck
    by_cases h0 : k = 0
    · have gk : decide (0 < k) = false := by simp [h0]
      have Hf : Hid (fileFault l 0 = 0) := Lib.hid (fileFault_zero (h0 ▸ Hx.out) HK.out)
      have H0 := Lib.hid h0; clear h0
      go_wp2_with fail
      refine HFe.out.mono ?_
      rintro e w1 ⟨rfl, hb1⟩
      go_wp2_with fail
      go_roundw
      case rel => exact ⟨k + 1, by omega, by go_num, (Lib.hid fun j hj' => by
        obtain rfl : j = 0 := by have := H0.out; omega
        exact Hf.out), hb.trans (hb1.mono hb.size)⟩
      case measure => simp [intOf]; omega
    obtain ⟨y, hyk⟩ := get_ex (l := l) (k := k - 1) (by omega)
    have hsy := HS.out y (List.mem_of_getElem? hyk)
    have CY := Lib.hid (fun W (h : Below w.heap.size w W) => (flCells hx h hyk).1)
    have i2 := idx_at (c := c) 6 Tryz.underlying23 szFl ha (k - 1) (by omega)
    have hcast : ((k - 1 : Nat) : Int) = (k : Int) - 1 := by omega
    simp only [hcast] at i2
    have hk0 : 0 < k := by omega
    have gk : decide (0 < k) = true := decide_eq_true hk0
    have hk01 : (1 : Int) ≤ k := by omega
    have hk02 : (0 : Int) ≤ (k : Int) - 1 := by omega
    have hk03 : (k : Int) - 1 < l.length := by omega
    have hwk : IntKind.i64.wrap ((k : Int) - 1) = (k : Int) - 1 := by rw [IntKind.wrap_i64]; omega
    have hfo := fun h => fileFault_ord Hx.out HK.out hk0 hyk h
    have hff := fun h => fileFault_fine Hx.out HK.out hyk h
    have HOrd := Lib.hid hfo; have HFF := Lib.hid hff
    clear hfo hff hcast hyk h0
    have hC := fun W => isBehind_any x.path y.path W hsx.1 hsy.1
    obtain ⟨cv, hcv⟩ : ∃ cv, cmpP x.path y.path = cv := ⟨_, rfl⟩
    rw [hcv] at hC HOrd HFF
    clear hcv
    go_wp2_with fail
    refine HFe.out.mono ?_
    rintro e w1 ⟨rfl, hb1⟩
    have hb1' := hb.trans (hb1.mono hb.size)
    have hbw1 := hbw.trans (hb1.mono hbw.size)
    clear c0 c1 c2 c3 c4 c5
    have p0 := (CX.out _ hbw1.drew).1
    have d0 := CY.out _ hbw1.drew
    by_cases hle : cv ≤ 0
    · have hf := HOrd.out hle
      have HL : Hid (listCheck l = .loc 9 k) := Lib.hid (HF.out.trans ((firstErr_hit hlt hj.out (by rw [hf]; decide)).trans (by rw [hf])))
      have hcc : decide (0 < cv) = false := by simp; omega
      simp only [hcc] at hC
      have HC := Lib.hid hC
      clear hf hC hcc hle
      go_wp2_with fail
      go_region_held3 (fun w' => w'.cell? ⟨b, o + k * 6, none⟩ = some (S x.path) ∧ w'.cell? ⟨b, o + (k - 1) * 6, none⟩ = some (S y.path)) (exact ⟨p0, d0⟩) (first | (go_at_call 57; refine (HC.out _).mono ?_; rintro e w2 ⟨rfl, rfl⟩))
      have hg := HG.out _ hb1'
      have c0 : w1.cell? ⟨w.heap.size, 0, none⟩ = some (.int .i64 0) := by simp [World.cell?, hg]
      have c1 : w1.cell? ⟨w.heap.size, 1, none⟩ = some (.int .i64 0) := by simp [World.cell?, hg]
      have f0 : w1.frozen? ⟨w.heap.size, 0, none⟩ = false := by simp [World.frozen?, hg]
      have f1 : w1.frozen? ⟨w.heap.size, 1, none⟩ = false := by simp [World.frozen?, hg]
      have HGg := Lib.hid hg; clear hg
      go_wp2_with fail
      refine bodyPost_ret (fault_cell (g := w.heap.size) rfl rfl (set_two (w := w1.drew) HGg.out _ _)) rfl ⟨by rw [HL.out]; rfl, ?_⟩
      exact ((hbw1.drew).setCell (by simp) _).setCell (by simp) _
    · have hf := HFF.out (by omega)
      have Hf := Lib.hid hf; clear hf
      have hcc : decide (0 < cv) = true := by simp; omega
      simp only [hcc] at hC
      have HC := Lib.hid hC
      clear hC hcc hle
      go_wp2_with fail
      go_region_held3 (fun w' => w'.cell? ⟨b, o + k * 6, none⟩ = some (S x.path) ∧ w'.cell? ⟨b, o + (k - 1) * 6, none⟩ = some (S y.path)) (exact ⟨p0, d0⟩) (first | (go_at_call 57; refine (HC.out _).mono ?_; rintro e w2 ⟨rfl, rfl⟩))
      go_wp2_with fail
      go_roundw
      case rel => exact ⟨k + 1, by omega, by go_num, (Lib.hid fun j hj' => by
        rcases Nat.lt_or_ge j k with h | h
        · exact hj.out j h
        · obtain rfl : j = k := by omega
          exact Hf.out), hb1'.drew⟩
      case measure => simp [intOf]; omega

end Go.Proofs.YtefoaeamfkbgbaaGreatDoor
namespace Go.Proofs.YtefoaeamfkbgbaaGreatDoor
open Go.RowKit

theorem cut32_any (s : Str) (w : World) (hs : s.length ≤ 100000) :
    Calls Tryz.prog 167 #[S s, .int .u8 32] w fun e w' => ∃ v', e = .returned v' ∧ Own encS 9 1 w.heap.size w' v' (cutAt 32 s) ∧ Below w.heap.size w w' := refCut_any s 32 w hs
theorem cut10_any (s : Str) (w : World) (hs : s.length ≤ 100000) :
    Calls Tryz.prog 167 #[S s, .int .u8 10] w fun e w' => ∃ v', e = .returned v' ∧ Own encS 9 1 w.heap.size w' v' (cutAt 10 s) ∧ Below w.heap.size w w' := refCut_any s 10 w hs

end Go.Proofs.YtefoaeamfkbgbaaGreatDoor
namespace Go.Proofs.YtefoaeamfkbgbaaGreatDoor
open Go.RowKit

theorem Own.stays {α : Type} {enc : α → List Value} {sz : Nat} {w w' : World} {v : Value} {l : List α} {e : TypeId} {B : Nat} (hen : Enc enc sz) (h : Own enc e sz B w v l) (hw : ∀ p : Addr, B ≤ p.block → w'.cell? p = w.cell? p) : At enc sz w' v l := by
  rcases Nat.eq_zero_or_pos l.length with h0 | h0
  · obtain ⟨a, c, b, o, hv, ha, hc, hm, hx⟩ := h.at hen
    exact ⟨a, c, b, o, hv, ha, hc, hm, fun k x hk => absurd (List.getElem?_eq_some_iff.1 hk).1 (by omega)⟩
  · obtain ⟨g', cap, cur, rfl, hB, _, hc, hm, _, _⟩ := h.open h0
    refine ⟨_, cap, g', 0, rfl, fun _ => rfl, hc, hm, fun k x hk j u hu => ?_⟩
    have h1 := h.cells hen k x hk j u hu
    rw [Nat.zero_add]
    exact (hw ⟨g', k * sz + j, none⟩ hB).trans h1

theorem fault_tc {fn : Func} {u p : Tmp} (h : fn.results = #[.tmp u, .cell p 58]) {tmps : Array Value} {w : World} {g : Nat} {c q : Int} {v : Value} (hp : tmps.getD p undef = .pointer (some ⟨g, 0, none⟩)) (hg : w.heap[g]? = some (.cells #[.int .i64 c, .int .i64 q] 58 (0, 0))) (hv : tmps.getD u undef = v) :
    (results fn tmps).run Tryz.prog w = .ok (.tuple #[v, faultV c q]) w :=
  results_tmp_cell h tmps w g 58 #[.int .i64 c, .int .i64 q] (0, 0) _ hp hg Tryz.underlying58 rfl (by kernel_rfl) hv
end Go.Proofs.YtefoaeamfkbgbaaGreatDoor
