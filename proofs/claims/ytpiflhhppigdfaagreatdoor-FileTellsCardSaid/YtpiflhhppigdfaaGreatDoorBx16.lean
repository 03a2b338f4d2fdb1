/- file.Of: the walk. Printed by gen_fileof.py. gone.Make: the walk. deedboxref3.With: the walk. deedboxref1.RisingOf: the walk. deedboxlaw1.goned: a closed fact of files of keys. deedboxlaw1.known: a closed fact of what is known of a file. What is known of a file of rows that was made: plain. deedboxref2.SameFiles. -/
import Derived.Test.YtpiflhhppigdfaaGreatDoorBx15
import Derived.Test.YtpiflhhppigdfaaGreatDoorBx1
import Derived.Test.YtpiflhhppigdfaaGreatDoorBx2
import Derived.Outline
import Derived.Deep.CutBlock
import Derived.Deep.DeepCutAuto
import Derived.Deep.RegionWith
import Derived.Test.YtpiflhhppigdfaaGreatDoorBx5
import Derived.Test.YtpiflhhppigdfaaGreatDoorBx9
import Derived.Test.YtpiflhhppigdfaaGreatDoorBx7
import Derived.Deep.RegionHeld3
import Derived.BigQuiet
import Derived.Test.YtpiflhhppigdfaaGreatDoorBx8
import Derived.Laws.StructEq
namespace Go.Proofs.YtpiflhhppigdfaaGreatDoor
open Go.RowKit

theorem ofText_none {p pt s : Str} {sq : Int} (h : pathF p = none) : ofText p pt s sq = (zeroF, 5) := if_pos h
theorem ofText_keys {p pt s : Str} {sq : Int} (h : pathF p ≠ none) (h2 : (keysE (kindF p) s).code ≠ 0) : ofText p pt s sq = (zeroF, (keysE (kindF p) s).code) := by
  unfold ofText; rw [if_neg h, if_pos h2]
theorem ofText_bad {p pt s : Str} {sq : Int} (h : pathF p ≠ none) (h2 : ¬ (keysE (kindF p) s).code ≠ 0) (h3 : checkF (ofFile p pt s sq) ≠ 0) : ofText p pt s sq = (zeroF, checkF (ofFile p pt s sq)) := by
  unfold ofText; rw [if_neg h, if_neg h2, if_pos h3]
theorem ofText_fine {p pt s : Str} {sq : Int} (h : pathF p ≠ none) (h2 : ¬ (keysE (kindF p) s).code ≠ 0) (h3 : checkF (ofFile p pt s sq) = 0) : ofText p pt s sq = (ofFile p pt s sq, 0) := by
  unfold ofText; rw [if_neg h, if_neg h2, if_neg (fun h => h h3)]
theorem erOf_any {E : Nat → Addr} {w w' : World} {v : Value} {c : Nat} (h : ErV E w v (erOf c)) : ErV E w' v (erOf c) := by
  unfold erOf at *
  split at h
  · rename_i h0; rw [if_pos h0]; exact h
  · rename_i h0; rw [if_neg h0]; exact h
theorem noPlace_of {E : Nat → Addr} {w : World} {v : Value} {er : Er} (h : ErV E w v er.noPlace) : ErV E w v (erOf er.noPlace.code) := by
  cases er with
  | nil => exact h
  | bare c =>
    have hc : c ≠ 0 := by have := h.1.1; omega
    show ErV E w v (erOf c)
    unfold erOf; rw [if_neg hc]; exact h
  | loc c i =>
    have hc : c ≠ 0 := by have := h.1.1; omega
    show ErV E w v (erOf c)
    unfold erOf; rw [if_neg hc]; exact h
theorem keysE_place (kind s : Str) : ∃ er : Er, keysE kind s = er.noPlace := by
  unfold keysE
  split
  · exact ⟨_, rfl⟩
  · exact ⟨_, rfl⟩
theorem keysL_len (kind s : Str) : (keysL kind s).length ≤ s.length + 1 := by
  unfold keysL
  split
  · unfold goneL
    split
    · rw [List.length_map, List.length_dropLast]
      have := (splitL_len (s := s) (Nat.le_refl _)).1
      omega
    · simp
  · have := dataL_len s
    simpa [keysR] using this
def OfPost (E : Nat → Addr) (p pt s : Str) (sq : Int) (w : World) (e : Ending) (w' : World) : Prop := ∃ ev, e = .returned (.tuple #[fileV (ofText p pt s sq).1, ev]) ∧ ErV E w' ev (erOf (ofText p pt s sq).2) ∧ Below w.heap.size w w'
theorem of_end {E : Nat → Addr} {p pt s : Str} {sq : Int} {w W : World} {tmps : Array Value} {ev : Value} {x : Fl} {c : Nat} (hp : tmps.getD 8 undef = .pointer (some ⟨w.heap.size, 0, none⟩)) (hv : tmps.getD 9 undef = ev) (hr : ofText p pt s sq = (x, c)) (hev : ErV E W ev (erOf c))
    (hF : W.heap[w.heap.size]? = some (.cells #[S [], S [], .int .i64 0, .int .i64 0, .int .i64 0, .int .i64 0] 23 (0, 0))) (hb : Below w.heap.size w W) :
    bodyPost Tryz.prog Tryz.f24 (OfPost E p pt s sq w) .ret ⟨tmps, []⟩ (six W w.heap.size 0 (S x.path) (S x.part) (.int .i64 x.n) (.int .i64 x.lo) (.int .i64 x.hi) (.int .i64 x.seq)) := by
  subst hv
  refine bodyPost_ret (ret_row rfl tmps _ w.heap.size 23 #[S x.path, S x.part, .int .i64 x.n, .int .i64 x.lo, .int .i64 x.hi, .int .i64 x.seq] (0, 0) _ hp (six_new hF _ _ _ _ _ _) Tryz.underlying23 rfl (by kernel_rfl)) rfl ⟨tmps.getD 9 undef, ?_, ?_, six_below hb (Nat.le_refl _) _ _ _ _ _ _⟩
  · rw [hr]
  · rw [hr]; exact erOf_any hev
theorem of_zero {E : Nat → Addr} {p pt s : Str} {sq : Int} {w W : World} {tmps : Array Value} {ev : Value} {c : Nat} (hp : tmps.getD 8 undef = .pointer (some ⟨w.heap.size, 0, none⟩)) (hv : tmps.getD 9 undef = ev) (hr : ofText p pt s sq = (zeroF, c)) (hev : ErV E W ev (erOf c))
    (hF : W.heap[w.heap.size]? = some (.cells #[S [], S [], .int .i64 0, .int .i64 0, .int .i64 0, .int .i64 0] 23 (0, 0))) (hb : Below w.heap.size w W) :
    bodyPost Tryz.prog Tryz.f24 (OfPost E p pt s sq w) .ret ⟨tmps, []⟩ (six W w.heap.size 0 (.string ⟨#[]⟩) (.string ⟨#[]⟩) (.int .i64 0) (.int .i64 0) (.int .i64 0) (.int .i64 0)) := by
  subst hv
  refine bodyPost_ret (ret_row rfl tmps _ w.heap.size 23 #[.string ⟨#[]⟩, .string ⟨#[]⟩, .int .i64 0, .int .i64 0, .int .i64 0, .int .i64 0] (0, 0) _ hp (six_new hF _ _ _ _ _ _) Tryz.underlying23 rfl (by kernel_rfl)) rfl ⟨tmps.getD 9 undef, ?_, ?_, six_below hb (Nat.le_refl _) _ _ _ _ _ _⟩
  · rw [hr]; rfl
  · rw [hr]; exact erOf_any hev
set_option maxHeartbeats 1000000 in
set_option maxRecDepth 20000 in
theorem fileOf_any (E : Nat → Addr) (B : Nat) (p pt s : Str) (sq : Int) (w : World) (hE : Errs [1, 2, 3, 4, 5, 8, 9, 10] E B w) (hT : LNum B w) (hM : LMax B w) (hps : p.length ≤ 100000) (hts : pt.length ≤ 100000) (hs : s.length ≤ 10000 ∨ 20000 < s.length) (hs2 : s.length ≤ 50000) :
    Calls Tryz.prog 24 #[S p, S pt, S s, .int .i64 sq] w (OfPost E p pt s sq w) := by
  have hBw := hE.le
  have hif := isIfaceE
  have X := Lib.hid (fun W (h : Below w.heap.size w W) => (⟨hE.below' h hBw, hT.below' h hBw, hM.below' h hBw⟩ : Errs [1, 2, 3, 4, 5, 8, 9, 10] E B W ∧ LNum B W ∧ LMax B W))
  have hba : Below w.heap.size w (w.alloc (.cells #[S [], S [], .int .i64 0, .int .i64 0, .int .i64 0, .int .i64 0] 23)) := (Below.refl w.heap.size w).alloc (Nat.le_refl _) _
  have CZ := Lib.hid (fun w6 (h : Below (w.alloc (.cells #[S [], S [], .int .i64 0, .int .i64 0, .int .i64 0, .int .i64 0] 23)).heap.size (w.alloc (.cells #[S [], S [], .int .i64 0, .int .i64 0, .int .i64 0, .int .i64 0] 23)) w6) => fileCells (f := zeroF) rfl h)
  have HG := Lib.hid (fun w6 (h : Below (w.alloc (.cells #[S [], S [], .int .i64 0, .int .i64 0, .int .i64 0, .int .i64 0] 23)).heap.size (w.alloc (.cells #[S [], S [], .int .i64 0, .int .i64 0, .int .i64 0, .int .i64 0] 23)) w6) => (h.block w.heap.size (by simp)).trans (heap_alloc_new w (.cells #[S [], S [], .int .i64 0, .int .i64 0, .int .i64 0, .int .i64 0] 23)))
  have HSz : Hid ((w.alloc (.cells #[S [], S [], .int .i64 0, .int .i64 0, .int .i64 0, .int .i64 0] 23)).heap.size = w.heap.size + 1) := Lib.hid (by simp)
  have HNm := Lib.hid (fileNumber_any E B p (w.alloc (.cells #[S [], S [], .int .i64 0, .int .i64 0, .int .i64 0, .int .i64 0] 23)) ((X.out _ hba).1.sub (by decide)) (X.out _ hba).2.1 (X.out _ hba).2.2 hps)
  have HKy := Lib.hid (fun W (h : Below w.heap.size w W) => fileKeys_any E B (kindF p) s W ((X.out _ h).1.sub (by decide)) (X.out _ h).2.1 (X.out _ h).2.2 hs hs2)
  have hof : ofFile p pt s sq = ⟨p, pt, (keysL (kindF p) s).length, (endsI (keysL (kindF p) s)).1, (endsI (keysL (kindF p) s)).2, sq⟩ := rfl
  have HBad := Lib.hid (fun h h2 => @ofText_keys p pt s sq h h2)
  have HPl := Lib.hid (keysE_place (kindF p) s)
  have hql := keysL_len (kindF p) s
  have HKc : Hid (∀ e, keysE (kindF p) s = e → (keysE (kindF p) s).code = e.code) := Lib.hid fun e h => by rw [h]
  go_enter Tryz.func24, Tryz.ntmps24
  go_upto_region 1 with fail
  generalize w.alloc (.cells #[S [], S [], .int .i64 0, .int .i64 0, .int .i64 0, .int .i64 0] 23) = w0 at *
  go_wp2_with fail
  refine HNm.out.mono ?_
  rintro e w1 ⟨ev, rfl, hev, hb1⟩
  have hbw1 := hba.trans (hb1.mono hba.size)
  cases hpf : pathF p with
  | none =>
    rw [hpf] at hev
    have HR := Lib.hid (@ofText_none p pt s sq hpf)
    have HEv : Hid (ErV E w1 ev (erOf 5)) := Lib.hid hev
    obtain ⟨t1, x1, rfl⟩ := hev.iface (by simp)
    clear hev hpf hof
    have hgz := HG.out _ (hb1)
    have fz : ∀ j, w1.frozen? ⟨w.heap.size, j, none⟩ = false := fun j => frozen_row hgz
    have f0 := fz 0; have f1 := fz 1; have f2 := fz 2; have f3 := fz 3; have f4 := fz 4; have f5 := fz 5
    obtain ⟨d0, d1, d2, d3, d4, d5⟩ := CZ.out _ (hb1)
    have HGz := Lib.hid hgz
    clear fz hgz
    go_wp2_with fail
    exact of_zero rfl rfl HR.out HEv.out HGz.out hbw1
  | some kn =>
  rw [hpf] at hev
  obtain rfl : ev = .nilIface := hev
  have HPf : Hid (pathF p ≠ none) := Lib.hid (by rw [hpf]; simp)
  obtain ⟨ke, hke⟩ : ∃ ke, keysE (kindF p) s = ke := ⟨_, rfl⟩
  have HKe := Lib.hid hke
  obtain ⟨q, hq⟩ : ∃ q, keysL (kindF p) s = q := ⟨_, rfl⟩
  rw [hke] at HKy HBad HPl
  rw [hq] at HKy hql hof
  have HOf := Lib.hid hof
  clear hpf hof hke hq HNm HKc
  generalize numF p = nm at *
  go_wp2_with fail
  refine (HKy.out _ hbw1).mono ?_
  rintro e w2 ⟨u, ev, rfl, hev, hu, hb2⟩
  have hb02 := hb1.trans (hb2.mono hb1.size)
  have hbw2 := hba.trans (hb02.mono hba.size)
  by_cases hke : ke = .nil
  case neg =>
    obtain ⟨er, her⟩ := HPl.out
    have hcd : ke.code ≠ 0 := by
      rw [her] at hev hke ⊢
      cases er with
      | nil => exact absurd rfl hke
      | bare c => have := hev.1.1; show c ≠ 0; omega
      | loc c i => have := hev.1.1; show c ≠ 0; omega
    have HR := Lib.hid (HBad.out HPf.out hcd)
    have HEv : Hid (ErV E w2 ev (erOf ke.code)) := Lib.hid (by rw [her] at hev ⊢; exact noPlace_of hev)
    obtain ⟨t1, x1, rfl⟩ := hev.iface hke
    obtain ⟨a, c, rfl, -, -⟩ := hu.form'
    clear hev hke hcd her hu
    have hgz := HG.out _ (hb02)
    have fz : ∀ j, w2.frozen? ⟨w.heap.size, j, none⟩ = false := fun j => frozen_row hgz
    have f0 := fz 0; have f1 := fz 1; have f2 := fz 2; have f3 := fz 3; have f4 := fz 4; have f5 := fz 5
    obtain ⟨d0, d1, d2, d3, d4, d5⟩ := CZ.out _ (hb02)
    have HGz := Lib.hid hgz
    clear fz hgz
    go_wp2_with fail
    exact of_zero rfl rfl HR.out HEv.out HGz.out hbw2
  subst hke
  obtain rfl : ev = .nilIface := hev
  have HK0 : Hid (¬ (keysE (kindF p) s).code ≠ 0) := Lib.hid (by rw [HKe.out]; simp [Er.code])
  have HU := Lib.hid (fun W (h : Below w2.heap.size w2 W) => hu.below h)
  obtain ⟨a, c, rfl, -, -⟩ := hu.form'
  have hbF : Below w2.heap.size w2 (w2.alloc (.cells #[S p, S pt, .int .i64 q.length, .int .i64 0, .int .i64 0, .int .i64 sq] 23)) := (Below.refl _ _).alloc (Nat.le_refl _) _
  have hgT := heap_alloc_new w2 (.cells #[S p, S pt, .int .i64 q.length, .int .i64 0, .int .i64 0, .int .i64 sq] 23)
  have h0z := HSz.out
  have h02 := hb02.size
  obtain ⟨T, hTx⟩ : ∃ T, w2.heap.size = T := ⟨_, rfl⟩
  rw [hTx] at hgT h02
  clear hu
  go_upto_region 8 with fail
  generalize w2.alloc (.cells #[S p, S pt, .int .i64 q.length, .int .i64 0, .int .i64 0, .int .i64 sq] 23) = w4 at *
  have hb04 := hb02.trans (hbF.mono hb02.size)
  have hnT : ¬ (T = w.heap.size) := by omega
  have hnT2 : ¬ (w.heap.size = T) := by omega
  have c0 : w4.cell? ⟨T, 0, none⟩ = some (S p) := by rw [cell_of_row w4 _ _ _ _ (0, 0) hgT]; rfl
  have c1 : w4.cell? ⟨T, 1, none⟩ = some (S pt) := by rw [cell_of_row w4 _ _ _ _ (0, 0) hgT]; rfl
  have c2 : w4.cell? ⟨T, 2, none⟩ = some (.int .i64 q.length) := by rw [cell_of_row w4 _ _ _ _ (0, 0) hgT]; rfl
  have c3 : w4.cell? ⟨T, 3, none⟩ = some (.int .i64 0) := by rw [cell_of_row w4 _ _ _ _ (0, 0) hgT]; rfl
  have c4 : w4.cell? ⟨T, 4, none⟩ = some (.int .i64 0) := by rw [cell_of_row w4 _ _ _ _ (0, 0) hgT]; rfl
  have c5 : w4.cell? ⟨T, 5, none⟩ = some (.int .i64 sq) := by rw [cell_of_row w4 _ _ _ _ (0, 0) hgT]; rfl
  by_cases h0 : q = []
  case pos =>
    have hen : endsI q = (0, 0) := by rw [h0]; rfl
    rw [hen] at HOf
    have hq0 : q.length = 0 := by rw [h0]; rfl
    have g : decide ((0 : Int) < (q.length : Int)) = false := by simp; omega
    have g' : decide (0 < q.length) = false := by simp; omega
    clear h0 hen hq0
    obtain ⟨n, hn⟩ : ∃ n : Int, (q.length : Int) = n := ⟨_, rfl⟩
    rw [hn] at c2 g hgT HOf ⊢
    have HCk := Lib.hid (fileCheck_any E B ⟨p, pt, n, 0, 0, sq⟩ w4 ((X.out _ (hba.trans (hb04.mono hba.size))).1.sub (by decide)) (X.out _ (hba.trans (hb04.mono hba.size))).2.1 (X.out _ (hba.trans (hb04.mono hba.size))).2.2 ⟨hps, hts⟩)
    go_wp2_with fail
    refine HCk.out.mono ?_
    rintro e w6 ⟨ev, rfl, hev, hb6⟩
    have hb06 := hb04.trans (hb6.mono hb04.size)
    have hbw6 := hba.trans (hb06.mono hba.size)
    clear c0 c1 c2 c3 c4 c5 HCk
    have hgT6 := (hb6.block T (Array.getElem?_eq_some_iff.1 hgT).1).trans hgT
    have c0 : w6.cell? ⟨T, 0, none⟩ = some (S p) := by rw [cell_of_row w6 _ _ _ _ (0, 0) hgT6]; rfl
    have c1 : w6.cell? ⟨T, 1, none⟩ = some (S pt) := by rw [cell_of_row w6 _ _ _ _ (0, 0) hgT6]; rfl
    have c2 : w6.cell? ⟨T, 2, none⟩ = some (.int .i64 n) := by rw [cell_of_row w6 _ _ _ _ (0, 0) hgT6]; rfl
    have c3 : w6.cell? ⟨T, 3, none⟩ = some (.int .i64 0) := by rw [cell_of_row w6 _ _ _ _ (0, 0) hgT6]; rfl
    have c4 : w6.cell? ⟨T, 4, none⟩ = some (.int .i64 0) := by rw [cell_of_row w6 _ _ _ _ (0, 0) hgT6]; rfl
    have c5 : w6.cell? ⟨T, 5, none⟩ = some (.int .i64 sq) := by rw [cell_of_row w6 _ _ _ _ (0, 0) hgT6]; rfl
    clear hgT hgT6
    have hgz := HG.out _ (hb06)
    have fz : ∀ j, w6.frozen? ⟨w.heap.size, j, none⟩ = false := fun j => frozen_row hgz
    have f0 := fz 0; have f1 := fz 1; have f2 := fz 2; have f3 := fz 3; have f4 := fz 4; have f5 := fz 5
    obtain ⟨d0, d1, d2, d3, d4, d5⟩ := CZ.out _ (hb06)
    have HGz := Lib.hid hgz
    clear fz hgz
    have hfl : checkF ⟨p, pt, n, 0, 0, sq⟩ = checkF (ofFile p pt s sq) := by rw [HOf.out]
    unfold fileEr at hev
    rw [hfl] at hev
    by_cases hck : checkF (ofFile p pt s sq) = 0
    case neg =>
      have HR : Hid (ofText p pt s sq = (zeroF, checkF (ofFile p pt s sq))) := Lib.hid (ofText_bad HPf.out HK0.out hck)
      rw [if_neg hck] at hev
      have HEv : Hid (ErV E w6 ev (erOf (checkF (ofFile p pt s sq)))) := Lib.hid (by unfold erOf; rw [if_neg hck]; exact hev)
      obtain ⟨t1, x1, rfl⟩ := hev.iface (by simp)
      clear hev hck hfl
      go_wp2_with fail
      exact of_zero rfl rfl HR.out HEv.out HGz.out hbw6
    rw [if_pos hck] at hev
    obtain rfl : ev = .nilIface := hev
    have HR : Hid (ofText p pt s sq = (⟨p, pt, n, 0, 0, sq⟩, 0)) := Lib.hid (by rw [ofText_fine HPf.out HK0.out hck, HOf.out])
    have HEv : Hid (ErV E w6 .nilIface (erOf 0)) := Lib.hid rfl
    clear hck hfl
    go_wp2_with fail
    exact of_end (x := ⟨p, pt, n, 0, 0, sq⟩) rfl rfl HR.out HEv.out HGz.out hbw6
  have HMin := Lib.hid (fun W (h : Below w2.heap.size w2 W) => minI_any _ q W (HU.out W h) h0 (by omega))
  have HMax := Lib.hid (fun W (h : Below w2.heap.size w2 W) => maxI_any _ q W (HU.out W h) h0 (by omega))
  have hpos : 0 < q.length := List.length_pos_iff.2 h0
  have g : (0 : Int) < (q.length : Int) := by omega
  have g' : decide (0 < q.length) = true := by simpa using hpos
  have p3 : w4.frozen? ⟨T, 3, none⟩ = false := frozen_row hgT
  have p4 : w4.frozen? ⟨T, 4, none⟩ = false := frozen_row hgT
  obtain ⟨lo, hlo⟩ : ∃ lo, (endsI q).1 = lo := ⟨_, rfl⟩
  obtain ⟨hi, hhi⟩ : ∃ hi, (endsI q).2 = hi := ⟨_, rfl⟩
  rw [hlo, hhi] at HOf
  simp only [hlo] at HMin
  simp only [hhi] at HMax
  clear h0 hlo hhi
  obtain ⟨n, hn⟩ : ∃ n : Int, (q.length : Int) = n := ⟨_, rfl⟩
  go_wp2_with fail
  refine (HMin.out _ hbF).mono ?_
  rintro e wx ⟨rfl, rfl⟩
  go_wp2_with fail
  refine (HMax.out _ hbF).mono ?_
  rintro e wx ⟨rfl, rfl⟩
  go_upto_region 10 with fail
  have hg5 : ((w4.setCell ⟨T, 3, none⟩ (.int .i64 lo)).setCell ⟨T, 4, none⟩ (.int .i64 hi)).heap[T]? = some (.cells #[S p, S pt, .int .i64 q.length, .int .i64 lo, .int .i64 hi, .int .i64 sq] 23 (0, 0)) := row_setCell (row_setCell hgT _) _
  have hb05 : Below w0.heap.size w0 ((w4.setCell ⟨T, 3, none⟩ (.int .i64 lo)).setCell ⟨T, 4, none⟩ (.int .i64 hi)) := (hb04.setCell (p := ⟨T, 3, none⟩) h02 _).setCell (p := ⟨T, 4, none⟩) h02 _
  clear c0 c1 c2 c3 c4 c5 p3 p4 hgT
  generalize (w4.setCell ⟨T, 3, none⟩ (.int .i64 lo)).setCell ⟨T, 4, none⟩ (.int .i64 hi) = w5 at *
  have hgT := hg5
  have c0 : w5.cell? ⟨T, 0, none⟩ = some (S p) := by rw [cell_of_row w5 _ _ _ _ (0, 0) hgT]; rfl
  have c1 : w5.cell? ⟨T, 1, none⟩ = some (S pt) := by rw [cell_of_row w5 _ _ _ _ (0, 0) hgT]; rfl
  have c2 : w5.cell? ⟨T, 2, none⟩ = some (.int .i64 q.length) := by rw [cell_of_row w5 _ _ _ _ (0, 0) hgT]; rfl
  have c3 : w5.cell? ⟨T, 3, none⟩ = some (.int .i64 lo) := by rw [cell_of_row w5 _ _ _ _ (0, 0) hgT]; rfl
  have c4 : w5.cell? ⟨T, 4, none⟩ = some (.int .i64 hi) := by rw [cell_of_row w5 _ _ _ _ (0, 0) hgT]; rfl
  have c5 : w5.cell? ⟨T, 5, none⟩ = some (.int .i64 sq) := by rw [cell_of_row w5 _ _ _ _ (0, 0) hgT]; rfl
  rw [hn] at c2 hgT HOf
  try rw [hn]
  clear hg5
  have HCk := Lib.hid (fileCheck_any E B ⟨p, pt, n, lo, hi, sq⟩ w5 ((X.out _ (hba.trans (hb05.mono hba.size))).1.sub (by decide)) (X.out _ (hba.trans (hb05.mono hba.size))).2.1 (X.out _ (hba.trans (hb05.mono hba.size))).2.2 ⟨hps, hts⟩)
  go_wp2_with fail
  refine HCk.out.mono ?_
  rintro e w6 ⟨ev, rfl, hev, hb6⟩
  have hb06 := hb05.trans (hb6.mono hb05.size)
  have hbw6 := hba.trans (hb06.mono hba.size)
  clear c0 c1 c2 c3 c4 c5 HCk
  have hgT6 := (hb6.block T (Array.getElem?_eq_some_iff.1 hgT).1).trans hgT
  have c0 : w6.cell? ⟨T, 0, none⟩ = some (S p) := by rw [cell_of_row w6 _ _ _ _ (0, 0) hgT6]; rfl
  have c1 : w6.cell? ⟨T, 1, none⟩ = some (S pt) := by rw [cell_of_row w6 _ _ _ _ (0, 0) hgT6]; rfl
  have c2 : w6.cell? ⟨T, 2, none⟩ = some (.int .i64 n) := by rw [cell_of_row w6 _ _ _ _ (0, 0) hgT6]; rfl
  have c3 : w6.cell? ⟨T, 3, none⟩ = some (.int .i64 lo) := by rw [cell_of_row w6 _ _ _ _ (0, 0) hgT6]; rfl
  have c4 : w6.cell? ⟨T, 4, none⟩ = some (.int .i64 hi) := by rw [cell_of_row w6 _ _ _ _ (0, 0) hgT6]; rfl
  have c5 : w6.cell? ⟨T, 5, none⟩ = some (.int .i64 sq) := by rw [cell_of_row w6 _ _ _ _ (0, 0) hgT6]; rfl
  clear hgT hgT6
  have hgz := HG.out _ (hb06)
  have fz : ∀ j, w6.frozen? ⟨w.heap.size, j, none⟩ = false := fun j => frozen_row hgz
  have f0 := fz 0; have f1 := fz 1; have f2 := fz 2; have f3 := fz 3; have f4 := fz 4; have f5 := fz 5
  obtain ⟨d0, d1, d2, d3, d4, d5⟩ := CZ.out _ (hb06)
  have HGz := Lib.hid hgz
  clear fz hgz
  have hfl : checkF ⟨p, pt, n, lo, hi, sq⟩ = checkF (ofFile p pt s sq) := by rw [HOf.out]
  unfold fileEr at hev
  rw [hfl] at hev
  by_cases hck : checkF (ofFile p pt s sq) = 0
  case neg =>
    have HR : Hid (ofText p pt s sq = (zeroF, checkF (ofFile p pt s sq))) := Lib.hid (ofText_bad HPf.out HK0.out hck)
    rw [if_neg hck] at hev
    have HEv : Hid (ErV E w6 ev (erOf (checkF (ofFile p pt s sq)))) := Lib.hid (by unfold erOf; rw [if_neg hck]; exact hev)
    obtain ⟨t1, x1, rfl⟩ := hev.iface (by simp)
    clear hev hck hfl
    go_wp2_with fail
    exact of_zero rfl rfl HR.out HEv.out HGz.out hbw6
  rw [if_pos hck] at hev
  obtain rfl : ev = .nilIface := hev
  have HR : Hid (ofText p pt s sq = (⟨p, pt, n, lo, hi, sq⟩, 0)) := Lib.hid (by rw [ofText_fine HPf.out HK0.out hck, HOf.out])
  have HEv : Hid (ErV E w6 .nilIface (erOf 0)) := Lib.hid rfl
  clear hck hfl
  go_wp2_with fail
  exact of_end (x := ⟨p, pt, n, lo, hi, sq⟩) rfl rfl HR.out HEv.out HGz.out hbw6
end Go.Proofs.YtpiflhhppigdfaaGreatDoor
namespace Go.Proofs.YtpiflhhppigdfaaGreatDoor
open Go.RowKit

theorem idx_far (l : List Int) : (idxVal (fun n => decide (farN n)) l = -1 ∧ firstErr (farF l) l.length = .nil) ∨ (∃ k : Nat, idxVal (fun n => decide (farN n)) l = k ∧ firstErr (farF l) l.length = .loc 2 k) := by
  unfold idxVal
  cases h : l.findIdx? (fun n => decide (farN n)) with
  | none =>
    refine .inl ⟨rfl, firstErr_all fun j hj => ?_⟩
    have := List.findIdx?_eq_none_iff.1 h l[j] (List.getElem_mem hj)
    unfold farF
    rw [List.getElem?_eq_getElem hj]
    simp only
    rw [if_neg (by simpa using this)]
  | some k =>
    obtain ⟨hk, hp, hlt⟩ := List.findIdx?_eq_some_iff_getElem.1 h
    refine .inr ⟨k, rfl, ?_⟩
    have e : farF l k = 2 := by
      unfold farF
      rw [List.getElem?_eq_getElem hk]
      simp only
      rw [if_pos (by simpa using hp)]
    rw [firstErr_hit hk (fun j hj => ?_) (by rw [e]; decide), e]
    have := hlt j hj
    unfold farF
    rw [List.getElem?_eq_getElem (by omega)]
    simp only
    rw [if_neg (by simpa using this)]
theorem near_all {l : List Int} (h : firstErr (farF l) l.length = .nil) : ∀ n ∈ l, ¬ farN n := fun n hn hf => by
  obtain ⟨j, hj, he⟩ := List.getElem_of_mem hn
  have := firstErr_nil h j hj
  unfold farF at this
  rw [List.getElem?_eq_getElem hj, he] at this
  simp only at this
  rw [if_pos hf] at this
  cases this
set_option maxHeartbeats 2000000 in
set_option maxRecDepth 20000 in
theorem goneMake_any (E : Nat → Addr) (B : Nat) (v : Value) (l : List Int) (w : World) (hE : Errs [2, 8] E B w) (hT : LNum B w) (hl : IntsAt w v l) (hn : l.length ≤ 1000) :
    Calls Tryz.prog 65 #[v] w fun e w' => ∃ ev, e = .returned (.tuple #[S (madeT l), ev]) ∧ ErV E w' ev (madeE l) ∧ Below w.heap.size w w' := by
  have hBw := hE.le
  have hif := isIfaceE
  have hE1 := fun w1 (hb : Below w.heap.size w w1) => (⟨(hE.below' hb hBw).var 2 (by decide), (hE.below' hb hBw).var 8 (by decide)⟩ : _ ∧ _)
  simp only [errG] at hE1
  have HE1 := Lib.hid hE1
  have X := Lib.hid (fun W (h : Below w.heap.size w W) => (⟨hT.below' h hBw, hl.below h⟩ : LNum B W ∧ IntsAt W v l))
  have HK := Lib.hid (goneKeys_any v l w hl (by omega))
  have hql := risOf_len l
  obtain ⟨a, c, rfl, -, -⟩ := hl.form'
  have hI := fun W (h : Below w.heap.size w W) => indexFuncI_any 81 #[] (fun n => decide (farN n)) W.heap.size W (.slice a l.length c) l W (enters_of Tryz.func81 (by kernel_rfl) rfl) (fun W' x _ _ _ => (far_any x W').mono fun e w' h => ⟨h.1, h.2 ▸ Below.refl _ _⟩) (X.out W h).2 (Below.refl _ _) (Nat.le_refl _)
  have HI := Lib.hid hI
  have hway := idx_far l
  obtain ⟨iv, hiv⟩ : ∃ iv, idxVal (fun n => decide (farN n)) l = iv := ⟨_, rfl⟩
  rw [hiv] at hway
  simp only [hiv] at HI
  have HM : Hid (madeE l = if 40 < (risOf l).length then .bare 8 else firstErr (farF l) l.length) := Lib.hid rfl
  have HMt : Hid (madeT l = if madeE l = .nil then goneText (risOf l) else []) := Lib.hid rfl
  have hnear : firstErr (farF l) l.length = .nil → ∀ n ∈ risOf l, ¬ farN n := fun h n hn => near_all h n (mem_risOf.1 hn)
  have HNear := Lib.hid hnear
  have HWay := Lib.hid hway
  clear hE1 hl hI hiv hnear hway
  generalize risOf l = q at *
  go_enter Tryz.func65, Tryz.ntmps65
  go_wp2_with fail
  refine HK.out.mono ?_
  rintro e w1 ⟨u, rfl, hown, hb1⟩
  have hat := hown.at encI_enc
  obtain ⟨aq, cq, bq, oq, rfl, haq, hcq, hcmq, hxq⟩ := hat
  unfold maxLen at hcmq
  have HXq := Lib.hid hxq
  have HOwn := Lib.hid hown
  clear hown hxq HK
  by_cases h40 : 40 < q.length
  case pos =>
    have g : (40 : Int) < (q.length : Int) := by omega
    have hm : madeE l = .bare 8 := by rw [HM.out, if_pos h40]
    have HMe := Lib.hid hm
    have HMT : Hid (madeT l = []) := Lib.hid (by rw [HMt.out, hm]; rfl)
    obtain ⟨v2, v8⟩ := HE1.out _ hb1
    clear h40 hm
    go_wp2_with fail
    go_quiet (fail)
    go_wp2_with fail
    go_ret2
    exact ⟨_, by rw [HMT.out]; rfl, by rw [HMe.out]; exact ⟨by decide, rfl⟩, Bdn hb1 _⟩
  have g : decide ((40 : Int) < (q.length : Int)) = false := by simp; omega
  have HM2 : Hid (madeE l = firstErr (farF l) l.length) := Lib.hid (by rw [HM.out, if_neg h40])
  have hq40 : q.length ≤ 40 := by omega
  clear h40
  go_wp2_with fail
  refine (HI.out _ hb1).mono ?_
  rintro e w2 ⟨rfl, hb2⟩
  have hb2' := hb1.trans (hb2.mono hb1.size)
  obtain ⟨v2, v8⟩ := HE1.out _ hb2'
  rcases HWay.out with ⟨rfl, hfe⟩ | ⟨k, rfl, hfe⟩
  case inr =>
    have hm : madeE l = .loc 2 k := HM2.out.trans hfe
    have HMe := Lib.hid hm
    have HMT : Hid (madeT l = []) := Lib.hid (by rw [HMt.out, hm]; rfl)
    have g2 : (0 : Int) ≤ (k : Int) := by omega
    clear hm hfe
    go_wp2_with fail
    go_region
    all_goals
      go_wp2_with fail
      go_ret2
      exact ⟨_, by rw [HMT.out]; rfl, by rw [HMe.out]; exact (ErV.fresh (by decide) k w2 152 _ rfl).below (Below.refl _ _).drew, (hb2'.alloc hb2'.size _).drew⟩
  have hm : madeE l = .nil := HM2.out.trans hfe
  have HMe := Lib.hid hm
  have HMT : Hid (madeT l = wholeT kGone q (bodyT (q.map Lib.itoa))) := Lib.hid (by rw [HMt.out, if_pos hm]; rfl)
  have HNr := Lib.hid (HNear.out hfe)
  clear hm hfe v2 v8
  go_wp2_with fail
  go_loopw [6, 26] (fun u i wr => ∃ (k : Nat) (vl : Value), k ≤ q.length ∧ i = .int .i64 k ∧ vl = u ∧ Own encS 9 1 w2.heap.size wr vl ((q.take k).map Lib.itoa) ∧ Below w2.heap.size w2 wr) (fun _ i _ => q.length - (intOf i).toNat)
  case atStart => exact ⟨0, _, by omega, rfl, rfl, Own.nil _ _ _ _ _, Below.refl _ _⟩
  case round =>
    obtain ⟨k, vl, hk, rfl, rfl, hvl, hb⟩ := hrel
    obtain ⟨wo, rfl⟩ : ∃ wo, wo = wr := ⟨wr, rfl⟩
    have hbw := hb2'.trans (hb.mono hb2'.size)
    have hb1o := hb2.trans (hb.mono hb2.size)
    by_cases hlt : k < q.length
    case neg =>
      obtain rfl : k = q.length := by omega
      rw [List.take_length] at hvl
      have f : decide ((q.length : Int) < (q.length : Int)) = false := by simp
      obtain ⟨e1, e2⟩ := ends_within (B := 1073741824) (by omega) fun x hx => near (HNr.out x hx)
      have hbl := body_len (m := 21) (ls := q.map Lib.itoa) fun s hs => by
        obtain ⟨n, hn', rfl⟩ := List.mem_map.1 hs
        have := near (HNr.out n hn')
        exact itoa_len n (by omega) (by omega)
      rw [List.length_map] at hbl
      have HWh := Lib.hid (dataWhole_any B kGone _ q _ (q.map Lib.itoa) wo (X.out _ hbw).1 (by decide) ((HOwn.out.below hb1o).at encI_enc) (hvl.at encS_enc) (by omega) (by rw [List.length_map]; omega) (by omega) (by omega))
      clear e1 e2 hbl hvl
      go_wp2_with fail
      refine HWh.out.mono ?_
      rintro e w4 ⟨rfl, hb4⟩
      go_wp2_with fail
      go_ret2
      exact ⟨_, by rw [HMT.out]; rfl, by rw [HMe.out]; rfl, hbw.trans (hb4.mono hbw.size)⟩
    obtain ⟨x, hxk⟩ := get_ex hlt
    have c1 := HXq.out k x hxk 0 _ rfl
    have c1 := (hb1o.cell (World.block_lt_of_cell? w1 _ c1)).trans c1
    have i1 := idx_at (c := cq) 1 Tryz.underlying111 szInt haq k hlt
    have hk1 : (k : Int) < (q.length : Int) := by omega
    simp only [Nat.mul_one, Nat.add_zero] at c1 i1
    have hnx := near (HNr.out x (List.mem_of_getElem? hxk))
    have HIt := Lib.hid (itoa_any B x (by omega) (by omega) wo (X.out _ hbw).1)
    have HSn : Hid ((q.take (k + 1)).map Lib.itoa = (q.take k).map Lib.itoa ++ [Lib.itoa x]) := Lib.hid (by rw [take_snoc' hxk, List.map_append]; rfl)
    obtain ⟨ls, hls⟩ : ∃ ls, (q.take k).map Lib.itoa = ls := ⟨_, rfl⟩
    have hlsl : ls.length ≤ 40 := by rw [← hls, List.length_map, List.length_take]; omega
    rw [hls] at hvl HSn
    clear hxk hnx hls
    generalize Lib.itoa x = tx at *
    go_wp2_with fail
    refine HIt.out.mono ?_
    rintro e w3 ⟨rfl, hb3⟩
    have hb3' := hb.trans (hb3.mono hb.size)
    have hvl3 := hvl.below hb3
    go_wp2_with (at_builtin; refine wpList_app rfl _ _ _ rfl w2.heap.size elStr vl ls.length _ rfl (hvl3.alloc _) (.slice (some ⟨w3.heap.size, 0, none⟩) 1 1) 1 (encS tx) rfl (src_one rfl rfl (by simp [Value.oneCell'])) (by unfold maxLen; omega) (by omega) (by have := hb3'.size; simp; omega) ?_; intro v5 w5 hown5 hg5 _)
    go_roundw
    case rel => exact ⟨k + 1, _, by omega, by go_num, rfl, by rw [HSn.out]; exact Own.snoc hown5, Bapp (hb3'.alloc hb3'.size _) (hvl3.alloc _) hg5 (Nat.le_refl _) (by have := hb3'.size; simp; omega)⟩
    case measure => simp [intOf]; omega
end Go.Proofs.YtpiflhhppigdfaaGreatDoor
namespace Go.Proofs.YtpiflhhppigdfaaGreatDoor
open Go.RowKit

theorem less_bef' : ∀ a b : Str, Op.bytesLess a b = bef a b
  | [], [] => by simp [Op.bytesLess, bytesBefore]
  | [], _ :: _ => by simp [Op.bytesLess, bytesBefore]
  | _ :: _, [] => by simp [Op.bytesLess, bytesBefore]
  | a :: r, b :: s => by
    have ih := less_bef' r s
    show Op.bytesLess (a :: r) (b :: s) = (decide (a < b) || (a == b && bytesBefore r s))
    unfold Op.bytesLess
    rw [ih]
theorem at_take {α : Type} {enc : α → List Value} {sz : Nat} {w : World} {a : Option Addr} {n c : Nat} {l : List α} (h : At enc sz w (.slice a n c) l) {k : Nat} (hk : k ≤ l.length) : At enc sz w (.slice a k c) (l.take k) := by
  obtain ⟨a', c', b, o, hv, ha, hc, hm, hx⟩ := h
  cases hv
  have hl : (l.take k).length = k := by rw [List.length_take]; omega
  refine ⟨a, c, b, o, by rw [hl], fun h0 => ha (by omega), by omega, hm, fun i x hi j u hu => hx i x ?_ j u hu⟩
  rw [List.getElem?_take] at hi
  split at hi
  · exact hi
  · cases hi
theorem at_drop {α : Type} {enc : α → List Value} {sz : Nat} {w : World} {b o n c : Nat} {l : List α} (h : At enc sz w (.slice (some ⟨b, o, none⟩) n c) l) {k : Nat} (hk : k ≤ l.length) : At enc sz w (.slice (some ⟨b, o + k * sz, none⟩) (n - k) (c - k)) (l.drop k) := by
  obtain ⟨a', c', b', o', hv, ha, hc, hm, hx⟩ := h
  cases hv
  have hl : (l.drop k).length = l.length - k := List.length_drop
  refine ⟨_, c - k, b, o + k * sz, by rw [hl], fun _ => rfl, by omega, by omega, fun i x hi j u hu => ?_⟩
  rw [List.getElem?_drop] at hi
  have hlt := (List.getElem?_eq_some_iff.1 hi).1
  have h1 := hx _ x hi j u hu
  have h2 := ha (by omega)
  simp only [Option.some.injEq, Addr.mk.injEq, and_true] at h2
  obtain ⟨rfl, rfl⟩ := h2
  rw [show o + k * sz + i * sz + j = o + (k + i) * sz + j by rw [Nat.add_mul]; omega]
  exact h1

/-- s[:k] and s[k:] of a slice. -/
theorem sl_to {α : Type} {P : Program} {t e : TypeId} {enc : α → List Value} {sz : Nat} {w : World} {a : Option Addr} {c : Nat} {l : List α} (ht : P.underlying t = some (.slice e)) (hsz : ∀ w, (sizeOf e).run P w = .ok sz w) (h : At enc sz w (.slice a l.length c) l) (k : Nat) (hk : k ≤ l.length) :
    (∀ W, (Instr.slice t (.slice a l.length c) none (some (.int .i64 (k : Int))) none).run P W = .ok (.slice a k c) W) ∧ At enc sz w (.slice a k c) (l.take k) := by
  refine ⟨fun W => ?_, at_take h hk⟩
  have hc : l.length ≤ c := by obtain ⟨_, _, _, _, hv, _, hc, _⟩ := h; cases hv; exact hc
  have h2 : (k : Int) ≤ (c : Int) := by omega
  cases a with
  | none => simp [Instr.slice, Instr.sliceBounds, run_underlying ht, hsz, go_sem, h2]
  | some ad =>
    simp [Instr.slice, Instr.sliceBounds, run_underlying ht, hsz, go_sem, h2]
theorem sl_from {α : Type} {P : Program} {t e : TypeId} {enc : α → List Value} {sz : Nat} {w : World} {a : Option Addr} {c : Nat} {l : List α} (ht : P.underlying t = some (.slice e)) (hsz : ∀ w, (sizeOf e).run P w = .ok sz w) (h : At enc sz w (.slice a l.length c) l) (k : Nat) (hk : k ≤ l.length) :
    ∃ a2 c2, (∀ W, (Instr.slice t (.slice a l.length c) (some (.int .i64 (k : Int))) none none).run P W = .ok (.slice a2 (l.length - k) c2) W) ∧ At enc sz w (.slice a2 (l.length - k) c2) (l.drop k) := by
  obtain ⟨a', c', b, o, hv, ha, hc, hm, hx⟩ := h
  cases hv
  rcases Nat.eq_zero_or_pos l.length with h0 | h0
  · have hk0 : k = 0 := by omega
    subst hk0
    refine ⟨a, c, fun W => ?_, ⟨a, c, b, o, by rw [List.length_drop], fun h => absurd h (by rw [List.length_drop]; omega), by rw [List.length_drop]; omega, hm, fun j y hj => absurd (List.getElem?_eq_some_iff.1 hj).1 (by rw [List.length_drop]; omega)⟩⟩
    have h3 : (0 : Int) ≤ (c : Int) := by omega
    cases a with
    | none => simp [Instr.slice, Instr.sliceBounds, run_underlying ht, hsz, go_sem, h0]
    | some ad =>
      have h0' : ad.add 0 = ad := by unfold Addr.add; split <;> simp_all
      simp [Instr.slice, Instr.sliceBounds, run_underlying ht, hsz, go_sem, h0, h0']
  · obtain rfl := ha h0
    have hadd : (⟨b, o, none⟩ : Addr).add (k * sz) = ⟨b, o + k * sz, none⟩ := by unfold Addr.add; split <;> simp_all
    by_cases h : c = k
    · refine ⟨some ⟨b, o, none⟩, c - k, fun W => ?_, ?_⟩
      · have hk' : (k : Int) ≤ l.length := by omega
        simp [Instr.slice, Instr.sliceBounds, run_underlying ht, hsz, hk, h, go_sem]
      · have hl : l.length = k := by omega
        refine ⟨_, c - k, b, o, by rw [List.length_drop], fun _ => rfl, by simp; omega, by omega, fun i x hi j u hu => ?_⟩
        rw [List.drop_of_length_le (by omega)] at hi; simp at hi
    · refine ⟨some ⟨b, o + k * sz, none⟩, c - k, fun W => ?_, ?_⟩
      · have hk' : (k : Int) ≤ l.length := by omega
        simp [Instr.slice, Instr.sliceBounds, run_underlying ht, hsz, hk, h, go_sem]
      · refine ⟨_, c - k, b, o + k * sz, by rw [List.length_drop], fun _ => rfl, by simp; omega, by omega, fun i x hi j u hu => ?_⟩
        rw [List.getElem?_drop] at hi
        have := hx (k + i) x hi j u hu
        rwa [show o + k * sz + i * sz + j = o + (k + i) * sz + j by rw [Nat.add_mul]; omega]

end Go.Proofs.YtpiflhhppigdfaaGreatDoor
namespace Go.Proofs.YtpiflhhppigdfaaGreatDoor
open Go.RowKit

set_option maxHeartbeats 2000000 in
set_option maxRecDepth 20000 in
theorem risingOf_any (v : Value) (l : List Int) (w : World) (hl : IntsAt w v l) (hn : l.length ≤ 10000) :
    Calls Tryz.prog 186 #[v] w fun e w' => ∃ v', e = .returned v' ∧ IntsAt w' v' (risOf l) ∧ Below w.heap.size w w' := by
  obtain ⟨a, c, b, o, rfl, ha, hc, hcm, hx⟩ := hl
  unfold maxLen at hcm
  go_enter Tryz.func186, Tryz.ntmps186
  go_wp2_with fail
  go_loopw [3, 4] (fun u i wr => ∃ (k : Nat) (q : List Int), k ≤ l.length ∧ i = .int .i64 k ∧ Hid (q = risOf (l.take k)) ∧ q.length ≤ k ∧ IntsAt wr u q ∧ Below w.heap.size w wr) (fun _ i _ => l.length - (intOf i).toNat)
  case atStart => exact ⟨0, [], by omega, rfl, Lib.hid rfl, by simp, At.nil _ _ _, Below.refl _ _⟩
  case round =>
    obtain ⟨k, q, hk, rfl, hq, hql, hu, hb⟩ := hrel
    obtain ⟨wo, rfl⟩ : ∃ wo, wo = wr := ⟨wr, rfl⟩
    by_cases hlt : k < l.length
    case neg =>
      obtain rfl : k = l.length := by omega
      have f : decide ((l.length : Int) < (l.length : Int)) = false := by simp
      have HE : Hid (q = risOf l) := Lib.hid (by rw [hq.out, List.take_length])
      clear hql
      go_wp2_with fail
      go_ret
      exact ⟨_, rfl, by rw [← HE.out]; exact hu, hb⟩
    obtain ⟨x, hxk⟩ := get_ex hlt
    have CX := Lib.hid (fun W (h : Below w.heap.size w W) => (h.cell (World.block_lt_of_cell? w _ (hx k x hxk 0 _ rfl))).trans (hx k x hxk 0 _ rfl))
    have i1 := idx_at (c := c) 1 Tryz.underlying111 szInt ha k hlt
    simp only [Nat.mul_one, Nat.add_zero] at CX i1
    have hk1 : (k : Int) < (l.length : Int) := by omega
    have HQ2 : Hid (risOf (l.take (k + 1)) = withI q x) := Lib.hid (by rw [take_snoc' hxk, risOf_snoc, hq.out])
    have HU := Lib.hid hu
    obtain ⟨au, cu, bu, ou, rfl, hau, hcu, hcmu, hxu⟩ := hu
    unfold maxLen at hcmu
    have CQ := Lib.hid (fun p y (hy : q[p]? = some y) W (h : Below wo.heap.size wo W) => (h.cell (World.block_lt_of_cell? wo _ (hxu p y hy 0 _ rfl))).trans (hxu p y hy 0 _ rfl))
    simp only [Nat.mul_one, Nat.add_zero] at CQ
    clear hq hxk hxu
    go_upto_block 2 with fail
    go_cut [5] (fun u wx => ∃ p : Nat, u = .int .i64 p ∧ p ≤ q.length ∧ (∀ j < p, ∀ y, q[j]? = some y → y < x) ∧ (∀ y, q[p]? = some y → x ≤ y) ∧ Below wo.heap.size wo wx)
    case first =>
      go_wp2_with fail
      go_loopw [5] (fun u wx => ∃ p : Nat, u = .int .i64 p ∧ p ≤ q.length ∧ Hid (∀ j < p, ∀ y, q[j]? = some y → y < x) ∧ Below wo.heap.size wo wx) (fun i _ => q.length - (intOf i).toNat)
      case atStart => exact ⟨0, rfl, by omega, Lib.hid fun j hj => absurd hj (by omega), Below.refl _ _⟩
      case round =>
        obtain ⟨p, rfl, hp, hj, hbx⟩ := hrel
        by_cases hpl : p < q.length
        case neg =>
          have f : decide ((p : Int) < (q.length : Int)) = false := by simp; omega
          go_wp2_with fail
          go_quiet (fail)
          go_wp2_with fail
          go_meet
          refine ⟨p, rfl, hp, hj.out, fun y hy => ?_, Bdn hbx _⟩
          rw [List.getElem?_eq_none (by omega)] at hy
          cases hy
        obtain ⟨y, hy⟩ := get_ex hpl
        have q0 := CQ.out p y hy _ hbx
        have c0 := CX.out _ (hb.trans (hbx.mono hb.size))
        have i2 := idx_at (c := cu) 1 Tryz.underlying111 szInt hau p hpl
        simp only [Nat.mul_one] at i2
        have f : (p : Int) < (q.length : Int) := by omega
        have HY := Lib.hid hy
        clear hy
        by_cases hyx : y < x
        case pos =>
          have HYX := Lib.hid hyx
          go_wp2_with fail
          go_quiet (fail)
          go_wp2_with fail
          go_roundw
          case rel => exact ⟨p + 1, by go_num, by omega, (Lib.hid fun j hj' z hz => by
            rcases Nat.lt_or_ge j p with h | h
            · exact hj.out j h z hz
            · obtain rfl : j = p := by omega
              rw [HY.out] at hz
              cases hz
              exact HYX.out), Bdn hbx _⟩
          case measure => simp [intOf]; omega
        · have gyx : decide (y < x) = false := by simpa using hyx
          have HYX := Lib.hid hyx
          clear hyx
          go_wp2_with fail
          go_quiet (fail)
          go_wp2_with fail
          go_meet
          refine ⟨p, rfl, hp, hj.out, fun z hz => ?_, Bdn hbx _⟩
          rw [HY.out] at hz
          cases hz
          have := HYX.out
          omega
    case rest =>
      obtain ⟨p, rfl, hp, hlow, hhi, hbx⟩ := hcut
      have HW := Lib.hid (withI_at hp hlow hhi)
      clear hlow hhi
      have hbW := hb.trans (hbx.mono hb.size)
      by_cases hin : q[p]? = some x
      case pos =>
        have hpl := (List.getElem?_eq_some_iff.1 hin).1
        have q0 := CQ.out p x hin _ hbx
        have c0 := CX.out _ hbW
        have i2 := idx_at (c := cu) 1 Tryz.underlying111 szInt hau p hpl
        simp only [Nat.mul_one] at i2
        have f : (p : Int) < (q.length : Int) := by omega
        have HS : Hid (q = risOf (l.take (k + 1))) := Lib.hid (by rw [HQ2.out, HW.out, if_pos hin])
        clear hin
        go_wp2_with fail
        go_quiet (fail)
        go_wp2_with fail
        go_roundw
        case rel => exact ⟨k + 1, q, by omega, by go_num, HS, by omega, (HU.out.below hbx).below (Bdn (Below.refl _ _) _), Bdn hbW _⟩
        case measure => simp [intOf]; omega
      have HIns : Hid (withI q x = q.take p ++ x :: q.drop p) := Lib.hid (by rw [HW.out, if_neg hin])
      have HIn := Lib.hid hin
      obtain ⟨hs1, hsA⟩ := sl_to (P := Tryz.prog) Tryz.underlying111 szInt HU.out p hp
      obtain ⟨a2, c2, hs2, hsB⟩ := sl_from (P := Tryz.prog) Tryz.underlying111 szInt HU.out p hp
      have hlt1 : (q.take p).length = p := by rw [List.length_take]; omega
      have hld1 : (q.drop p).length = q.length - p := List.length_drop
      have HLT := Lib.hid hlt1; have HLD := Lib.hid hld1
      clear hin HW
      by_cases hpl : p < q.length
      case' pos =>
        obtain ⟨y, hy⟩ := get_ex hpl
        have q0 := CQ.out p y hy _ hbx
        have c0 := CX.out _ hbW
        have i2 := idx_at (c := cu) 1 Tryz.underlying111 szInt hau p hpl
        simp only [Nat.mul_one] at i2
        have f : (p : Int) < (q.length : Int) := by omega
        have gne : (y == x) = false := by
          simp only [beq_eq_false_iff_ne, ne_eq]
          intro e
          exact HIn.out (by rw [hy, e])
        clear hy
        go_wp2_with fail
        go_quiet (fail)
        obtain ⟨wz, hwz⟩ : ∃ wz, wz = wc.drewN nq := ⟨_, rfl⟩
        have hbz : Below wo.heap.size wo wz := by rw [hwz]; exact Bdn hbx _
        rw [← hwz]
        clear hwz q0 c0
      case' neg =>
        have f : decide ((p : Int) < (q.length : Int)) = false := by simp; omega
        obtain ⟨wz, hwz⟩ : ∃ wz, wz = wc := ⟨_, rfl⟩
        have hbz : Below wo.heap.size wo wz := by rw [hwz]; exact hbx
        rw [← hwz]
        clear hwz
      all_goals
        have hbWz := hb.trans (hbz.mono hb.size)
        have hat1 := hsA.below hbz
        have hsrc1 := hat1.src encI_enc (by decide)
        rw [hlt1] at hsrc1
        have HB := Lib.hid (hsB.below hbz)
        clear hsA hsB hat1 hlt1 hld1
        go_wp2_with (first
          | (at_builtin; refine wpList_app rfl _ _ _ rfl wz.heap.size elInt (.slice none 0 0) 0 [] rfl (Own.nil encI _ 1 _ _) _ _ _ rfl hsrc1 (by unfold maxLen; omega) (by omega) (Nat.le_refl _) ?_; intro v1 w2 hown1 hg1 _; have hown1' : Own encI 3 1 wz.heap.size w2 v1 (q.take p) := (by unfold Own; rw [HLT.out]; simpa using hown1); have hb2 : Below wz.heap.size wz w2 := (Below.refl _ _).grown hg1 (Nat.le_refl _) (fun k hk => by cases hk); have c0 := CX.out _ (hbWz.trans (hb2.mono hbWz.size)); clear hown1 hg1 hsrc1)
          | (at_builtin; refine wpList_app rfl _ _ _ rfl wz.heap.size elInt v1 (q.take p).length _ rfl (hown1'.alloc _) (.slice (some ⟨w2.heap.size, 0, none⟩) 1 1) 1 (encI x) rfl (src_one rfl rfl (by simp [Value.oneCell'])) (by rw [HLT.out]; unfold maxLen; omega) (by rw [HLT.out]; omega) (by have := hb2.size; simp; omega) ?_; intro v2 w3 hown2 hg2 _; have hown2' := Own.snoc hown2; have hb3 : Below wz.heap.size wz w3 := (Bapp (hb2.alloc hb2.size _) (hown1'.alloc _) hg2 (Nat.le_refl _) (by have := hb2.size; simp; omega)); have hsrc3 := (HB.out.below hb3).src encI_enc (by decide); rw [HLD.out] at hsrc3; have hl3 : (q.take p ++ [x]).length = p + 1 := (by rw [List.length_append, HLT.out]; rfl); have HL3 := Lib.hid hl3; clear hown2 hg2 c0 hl3)
          | (at_builtin; refine wpList_app rfl _ _ _ rfl wz.heap.size elInt v2 (q.take p ++ [x]).length _ rfl hown2' _ _ _ rfl hsrc3 (by rw [HL3.out]; unfold maxLen; omega) (by rw [HL3.out]; omega) hb3.size ?_; intro v3 w4 hown3 hg3 _))
        have hown3' : Own encI 3 1 wz.heap.size w4 v3 (withI q x) := by
          rw [HIns.out, show q.take p ++ x :: q.drop p = (q.take p ++ [x]) ++ q.drop p by simp]
          unfold Own
          rw [List.length_append, List.flatMap_append, HLD.out]
          exact hown3
        have hb4 := Bapp hb3 hown2' hg3 (Nat.le_refl _) hb3.size
        have hbw4 := hbWz.trans (hb4.mono hbWz.size)
        go_roundw
        case rel => exact ⟨k + 1, withI q x, by omega, by go_num, Lib.hid HQ2.out.symm, by have := withI_len q x; omega, hown3'.at encI_enc, hbw4⟩
        case measure => simp [intOf]; omega
end Go.Proofs.YtpiflhhppigdfaaGreatDoor
namespace Go.Proofs.YtpiflhhppigdfaaGreatDoor
open Go.RowKit

theorem ris_seven : risOf [7, -2, 7] = [-2, 7] := by decide
theorem made_seven : madeE [7, -2, 7] = .nil := by
  unfold madeE
  rw [ris_seven, if_neg (by decide)]
  refine firstErr_all fun j hj => ?_
  have h : ∀ n ∈ [(7 : Int), -2, 7], ¬ farN n := fun n hn => by
    simp only [List.mem_cons, List.mem_nil_iff, or_false] at hn
    unfold farN
    rcases hn with rfl | rfl | rfl <;> omega
  unfold farF
  rw [List.getElem?_eq_getElem hj]
  simp only
  rw [if_neg (h _ (List.getElem_mem hj))]
theorem text_seven : madeT [7, -2, 7] = goneText [-2, 7] := by unfold madeT; rw [if_pos made_seven, ris_seven]
theorem near_seven : ∀ n ∈ [(-2 : Int), 7], ¬ farN n := fun n hn => by
  simp only [List.mem_cons, List.mem_nil_iff, or_false] at hn
  unfold farN
  rcases hn with rfl | rfl <;> omega
theorem up_seven : upI [-2, 7] := by unfold upI; simp
theorem read_seven : goneE (goneText [-2, 7]) = .nil ∧ goneL (goneText [-2, 7]) = [-2, 7] := goneRead_text up_seven near_seven (by decide)
theorem keys_new (w : World) (t : TypeId) (l : List Int) (n : Nat) (hl : l.length = n) (hn : n ≤ 100000) {H : Nat} (hH : w.heap.size = H) : IntsAt (w.alloc (.cells (l.map (Value.int .i64)).toArray t)) (.slice (some ⟨H, 0, none⟩) n n) l := by
  subst hl
  subst hH
  refine ⟨_, l.length, w.heap.size, 0, rfl, fun _ => rfl, Nat.le_refl _, by unfold maxLen; omega, fun k x hk j u hu => ?_⟩
  have hj : j = 0 := by
    have := (List.getElem?_eq_some_iff.1 hu).1
    simpa using this
  subst hj
  have hu' : u = .int .i64 x := by simpa using hu.symm
  rw [cell_of_row (w.alloc _) w.heap.size _ (l.map (Value.int .i64)).toArray t (0, 0) (heap_alloc_new w _)]
  simp [hk, hu']
end Go.Proofs.YtpiflhhppigdfaaGreatDoor
namespace Go.Proofs.YtpiflhhppigdfaaGreatDoor
open Go.RowKit

theorem itoa_2 : Lib.itoa 2 = [50] := (Lib.itoa_nonneg 2).trans (Lib.decDigits_one (by decide))
theorem itoa_3 : Lib.itoa 3 = [51] := (Lib.itoa_nonneg 3).trans (Lib.decDigits_one (by decide))
theorem itoa_5 : Lib.itoa 5 = [53] := (Lib.itoa_nonneg 5).trans (Lib.decDigits_one (by decide))
theorem itoa_7 : Lib.itoa 7 = [55] := (Lib.itoa_nonneg 7).trans (Lib.decDigits_one (by decide))
theorem itoa_m2 : Lib.itoa (-2) = [45, 50] := by
  have : Lib.itoa (-2) = 45 :: Lib.decDigits 2 := rfl
  rw [this, Lib.decDigits_one (by decide)]
  rfl
abbrev gone3 : Str := [103, 111, 110, 101, 47, 51]
theorem path_gone3 : pathF gone3 = some (kGone, 3) := by
  have hc : Lib.cut gone3 [47] = (kGone, [51], true) := cut_app1 (p := kGone) (q := [51]) (by decide)
  have hn : numOf [51] = some 3 := (numOf_iff _ 3).2 ⟨by decide, itoa_3⟩
  unfold pathF
  rw [hc, if_pos ⟨rfl, .inr rfl⟩]
  show (numOf [51]).bind _ = _
  rw [hn]
  rfl
abbrev f3D : Fl := ⟨gone3, [45], 2, -2, 7, 5⟩
theorem kind_gone3 : kindF gone3 = kGone := by unfold kindF; rw [path_gone3]; rfl
theorem check_f3 : checkF f3D = 0 := checkF_right (f := f3D) path_gone3 (by rw [kind_gone3]; decide) (by unfold boundF farN; decide)
theorem keysE_seven : keysE kGone (goneText [-2, 7]) = .nil := by
  unfold keysE
  rw [if_pos rfl, read_seven.1]
  rfl
theorem keysL_seven : keysL kGone (goneText [-2, 7]) = [-2, 7] := by
  unfold keysL
  rw [if_pos rfl, read_seven.2]
theorem of_seven : ofText gone3 [45] (goneText [-2, 7]) 5 = (f3D, 0) := by
  have hf : ofFile gone3 [45] (goneText [-2, 7]) 5 = f3D := by
    unfold ofFile
    rw [kind_gone3, keysL_seven]
    rfl
  rw [ofText_fine (by rw [path_gone3]; simp) (by rw [kind_gone3, keysE_seven]; simp [Er.code]) (by rw [hf]; exact check_f3), hf]
theorem text_f3 : fileText f3D = [103, 111, 110, 101, 47, 51, 32, 45, 32, 50, 32, 45, 50, 32, 55, 32, 53] := by
  unfold fileText
  rw [if_pos check_f3]
  unfold fileLine numsTail
  simp only [List.flatMap_cons, List.flatMap_nil, itoa_2, itoa_m2, itoa_7, itoa_5]
  rfl
theorem made_two : madeE [7, -2] = .nil := by
  unfold madeE
  rw [show risOf [7, -2] = [-2, 7] by decide, if_neg (by decide)]
  refine firstErr_all fun j hj => ?_
  have h : ∀ n ∈ [(7 : Int), -2], ¬ farN n := fun n hn => by
    simp only [List.mem_cons, List.mem_nil_iff, or_false] at hn
    unfold farN
    rcases hn with rfl | rfl <;> omega
  unfold farF
  rw [List.getElem?_eq_getElem hj]
  simp only
  rw [if_neg (h _ (List.getElem_mem hj))]
theorem text_twoF : madeT [7, -2] = goneText [-2, 7] := by unfold madeT; rw [if_pos made_two, show risOf [7, -2] = [-2, 7] by decide]
set_option maxHeartbeats 1000000 in
set_option maxRecDepth 20000 in
theorem known_any (E : Nat → Addr) (B : Nat) (w : World) (hE : Errs [1, 2, 3, 4, 5, 8, 9, 10] E B w) (hT : LNum B w) (hM : LMax B w) :
    Calls Tryz.prog 13 #[] w fun e w' => e = .returned (.bool true) ∧ Below w.heap.size w w' := by
  have hif := isIfaceE
  have hBw := hE.le
  have X := Lib.hid (fun W (h : Below w.heap.size w W) => (⟨hE.below' h hBw, hT.below' h hBw, hM.below' h hBw⟩ : Errs [1, 2, 3, 4, 5, 8, 9, 10] E B W ∧ LNum B W ∧ LMax B W))
  have hba : Below w.heap.size w (w.alloc (.cells ([(7 : Int), -2].map (Value.int .i64)).toArray 3)) := (Below.refl _ _).alloc (Nat.le_refl _) _
  have hMk := goneMake_any E B _ [7, -2] _ ((X.out _ hba).1.sub (by decide)) (X.out _ hba).2.1 (keys_new w 3 [7, -2] 2 rfl (by decide) rfl) (by decide)
  rw [made_two, text_twoF] at hMk
  have HMk := Lib.hid hMk
  have hlen := goneText_len near_seven (by decide)
  have hOf := fun W (h : Below w.heap.size w W) => fileOf_any E B gone3 [45] (goneText [-2, 7]) 5 W (X.out W h).1 (X.out W h).2.1 (X.out W h).2.2 (by decide) (by decide) (.inl (by omega)) (by omega)
  unfold OfPost at hOf
  rw [of_seven] at hOf
  have HOf := Lib.hid hOf
  have hTx := fun W (h : Below w.heap.size w W) => fileText_any E B f3D W ((X.out W h).1.sub (by decide)) (X.out W h).2.1 (X.out W h).2.2 ⟨by decide, by decide⟩
  rw [text_f3] at hTx
  have HTx := Lib.hid hTx
  clear hMk hOf hTx hlen
  generalize goneText [-2, 7] = T at *
  go_enter Tryz.func13, Tryz.ntmps13
  go_wp2_with fail
  refine HMk.out.mono ?_
  rintro e w1 ⟨ev, rfl, hev, hb1⟩
  obtain rfl : ev = .nilIface := hev
  have hb1' := hba.trans (hb1.mono hba.size)
  go_wp2_with fail
  refine (HOf.out _ hb1').mono ?_
  rintro e w2 ⟨ev, rfl, hev, hb2⟩
  obtain rfl : ev = .nilIface := hev
  have hb2' := hb1'.trans (hb2.mono hb1'.size)
  have hba2 : Below w2.heap.size w2 (w2.alloc (.cells #[S gone3, S [45], .int .i64 2, .int .i64 (-2), .int .i64 7, .int .i64 5] 23)) := (Below.refl _ _).alloc (Nat.le_refl _) _
  have hb3' := hb2'.trans (hba2.mono hb2'.size)
  go_wp2_with fail
  refine (HTx.out _ hb3').mono ?_
  rintro e w4 ⟨rfl, hb4⟩
  go_wp2_with fail
  go_ret
  exact ⟨rfl, hb3'.trans (hb4.mono hb3'.size)⟩
end Go.Proofs.YtpiflhhppigdfaaGreatDoor
namespace Go.Proofs.YtpiflhhppigdfaaGreatDoor
open Go.RowKit

theorem checkF_inv {f : Fl} (h : checkF f = 0) : (∃ kn, pathF f.path = some kn) ∧ partOk (kindF f.path) f.part = true ∧ ¬ boundF f := by
  unfold checkF at h
  split at h
  · cases h
  rename_i h1
  split at h
  · cases h
  rename_i h2
  split at h
  · cases h
  rename_i h3
  refine ⟨?_, by simpa using h2, h3⟩
  cases hp : pathF f.path with
  | none => exact absurd hp h1
  | some kn => exact ⟨kn, rfl⟩
/-- What is known of a file of rows is so. -/
theorem of_back {f : Fl} {l : List Rw} (hf : checkF f = 0) (hk : kindF f.path = kData) (hm : makeE l = .nil) (hl : l ≠ []) :
    ofText f.path f.part (makeT l) f.seq = (⟨f.path, f.part, l.length, (endsI (keysR l)).1, (endsI (keysR l)).2, f.seq⟩, 0) := by
  obtain ⟨⟨kn, hp⟩, hpo, hbo⟩ := checkF_inv hf
  obtain ⟨hr1, hr2, hup⟩ := make_right hm
  obtain ⟨hE, hL⟩ := dataRead_text hup hr2 hr1
  have hT : makeT l = dataText (sortR l) := make_text hm
  have hkE : keysE (kindF f.path) (makeT l) = .nil := by
    unfold keysE
    rw [hk, if_neg (by decide), hT, hE]
    rfl
  have hkL : keysL (kindF f.path) (makeT l) = keysR (sortR l) := by
    unfold keysL
    rw [hk, if_neg (by decide), hT, hL]
  have hlen : (keysR (sortR l)).length = l.length := by unfold keysR; rw [List.length_map, (sort_perm l).length_eq]
  have hends : endsI (keysR (sortR l)) = endsI (keysR l) := ends_perm ((sort_perm l).map _)
  have hof : ofFile f.path f.part (makeT l) f.seq = ⟨f.path, f.part, l.length, (endsI (keysR l)).1, (endsI (keysR l)).2, f.seq⟩ := by
    unfold ofFile
    rw [hkL, hlen, hends]
  have hn : 0 < l.length := List.length_pos_iff.2 hl
  obtain ⟨hm40, hchk⟩ := makeE_nil hm
  have hkn : keysR l ≠ [] := by
    intro h
    have := congrArg List.length h
    simp [keysR] at this
    exact hl this
  obtain ⟨e1, e2⟩ := ends_within (l := keysR l) (B := 1073741824) (by omega) fun x hx => near (keysR_near hchk x hx)
  obtain ⟨m1, m2, m3⟩ := ends_mem hkn
  have hle := (m3 _ m1).2
  have hck : checkF (ofFile f.path f.part (makeT l) f.seq) = 0 := by
    rw [hof]
    refine checkF_right hp hpo fun hb => ?_
    unfold boundF farN at hb hbo
    simp only at hb
    omega
  rw [ofText_fine (by rw [hp]; simp) (by rw [hkE]; simp [Er.code]) hck, hof]
end Go.Proofs.YtpiflhhppigdfaaGreatDoor
namespace Go.Proofs.YtpiflhhppigdfaaGreatDoor
open Go.RowKit

theorem fl_equalIn (x y : Fl) (w : World) : (Op.equalIn 10000 23 (fileV x) (fileV y)).run Tryz.prog w = .ok (decide (x = y)) w := by
  have uS := Tryz.underlying9
  have uI := Tryz.underlying3
  have aS := Tryz.isAgg9
  have aI := Tryz.isAgg3
  have zS := Tryz.sizeOf9
  have zI := Tryz.sizeOf3
  have hS : Tryz.prog.underlying 23 = some (.struct (Tryz.prog.fieldsOf 23)) := by kernel_rfl
  have hp : Tryz.prog.stoodInHeld 23 = false := by kernel_rfl
  rw [show (10000 : Nat) = 9999 + 1 from rfl, run_equalIn_agg w 9999 23 _ _ hS hp]
  simp only [Program.fieldsOf, Tryz.underlying23]
  go_simp
  cases x with
  | mk p1 q1 n1 a1 b1 s1 =>
  cases y with
  | mk p2 q2 n2 a2 b2 s2 =>
  by_cases h1 : p1 = p2 <;> by_cases h2 : q1 = q2 <;> by_cases h3 : n1 = n2 <;> by_cases h4 : a1 = a2 <;> by_cases h5 : b1 = b2 <;> by_cases h6 : s1 = s2 <;> simp [h1, h2, h3, h4, h5, h6]
theorem fl_neq (x y : Fl) (w : World) : (binOp .neq 23 (fileV x) (fileV y)).run Tryz.prog w = .ok (.bool (!decide (x = y))) w := by
  rw [run_neq_struct, fl_equalIn]; rfl
theorem fl_eql (x y : Fl) (w : World) : (binOp .eql 23 (fileV x) (fileV y)).run Tryz.prog w = .ok (.bool (decide (x = y))) w := by
  rw [run_eql_struct, fl_equalIn]; rfl
theorem fl_guard : Tryz.prog.eqGuardType Tryz.prog.depth 23 = false := by kernel_rfl
set_option maxRecDepth 20000 in
theorem sameFiles_any (v u : Value) (l m : List Fl) (w : World) (hl : FilesAt w v l) (hm : FilesAt w u m) :
    Calls Tryz.prog 117 #[v, u] w fun e w' => e = .returned (.bool (decide (l = m))) ∧ Below w.heap.size w w' := by
  obtain ⟨a, c, b, o, rfl, ha, hc, hcm, hx⟩ := hl
  obtain ⟨a', c', b', o', rfl, ha', hc', hcm', hx'⟩ := hm
  unfold maxLen at hcm hcm'
  by_cases hlen : l.length = m.length
  case neg =>
    have hne : ((l.length : Int) != (m.length : Int)) = true := by simp; omega
    go_enter Tryz.func117, Tryz.ntmps117
    go_wp2_with fail
    go_ret
    exact ⟨ret_bool (decide_eq_false fun e => hlen (by rw [e])).symm, Below.refl _ _⟩
  have hne : ((l.length : Int) != (m.length : Int)) = false := by simp [hlen]
  have Hl := Lib.hid hlen; clear hlen
  go_enter Tryz.func117, Tryz.ntmps117
  go_wp2_with fail
  go_loopw [5] (fun i wr => ∃ k : Nat, k ≤ l.length ∧ i = .int .i64 k ∧ Hid (∀ j < k, l[j]? = m[j]?) ∧ Below w.heap.size w wr) (fun i _ => l.length - (intOf i).toNat)
  case atStart => exact ⟨0, by omega, rfl, Lib.hid fun j hj => absurd hj (by omega), Below.refl _ _⟩
  case round =>
    obtain ⟨k, hk, rfl, hj, hb⟩ := hrel
    by_cases hlt : k < l.length
    case neg =>
      obtain rfl : k = l.length := by omega
      go_wp2_with fail
      go_ret
      exact ⟨ret_bool (decide_eq_true (list_ext_upto Hl.out hj.out)).symm, hb⟩
    obtain ⟨x, hxk⟩ := get_ex hlt
    obtain ⟨y, hyk⟩ := get_ex (l := m) (k := k) (by rw [← Hl.out]; exact hlt)
    obtain ⟨c0, c1, c2, c3, c4, c5⟩ := flCells hx hb hxk
    obtain ⟨d0, d1, d2, d3, d4, d5⟩ := flCells hx' hb hyk
    have i1 := idx_at (c := c) 6 Tryz.underlying50 szFl ha k hlt
    have i2 := idx_at (c := c') 6 Tryz.underlying50 szFl ha' k (by rw [← Hl.out]; exact hlt)
    have hk1 : (k : Int) < (l.length : Int) := by omega
    have hn := fl_neq x y
    have hgd := fl_guard
    have Hx := Lib.hid hxk; clear hxk
    have Hy := Lib.hid hyk; clear hyk
    go_wp2_with fail
    go_quiet (fail)
    by_cases he : x = y
    · rw [decide_eq_true he]
      have He := Lib.hid he; clear he
      go_wp2_with fail
      go_roundw
      case rel => exact ⟨k + 1, by omega, by go_num, (Lib.hid fun j hj' => by
        rcases Nat.lt_or_ge j k with h | h
        · exact hj.out j h
        · obtain rfl : j = k := by omega
          rw [Hx.out, Hy.out, He.out]), Bdn hb _⟩
      case measure => simp [intOf]; omega
    · rw [decide_eq_false he]
      have He := Lib.hid he; clear he
      go_wp2_with fail
      go_ret
      refine ⟨ret_bool (decide_eq_false fun e => He.out ?_).symm, Bdn hb _⟩
      have := Hx.out; rw [e, Hy.out] at this; exact (Option.some.inj this).symm
end Go.Proofs.YtpiflhhppigdfaaGreatDoor
