/- file.Of: the walk. Printed by gen_fileof.py. A file's cells, by its block. deedboxlaw3.put: the walk. A store and its model, side by side; lists of wide structs stay where they lie. Pieces of a table in memory. Snaps in plain words. Of no program. The document's answer on lists: ListFault, ListText: the walks. The document's answer on files and lists: ReadFile, ReadList, AddOf, RemoveOf: the walks. The document's answer on lists: ReadList: the walk. The document's answer on lists: RemoveOf: the walk. The document's answer on lists: AddOf: the walk (printed by gen_addof.py). Changes in plain words. Of no program. Two changes, one behind the other: plain. What a snap has, in plain words. Of no program. Laws of what a snap has: plain. gone.Make: the walk. deedboxref3.With: the walk. deedboxref1.RisingOf: the walk. deedboxlaw1.goned: a closed fact of files of keys. deedboxlaw1.known: a closed fact of what is known of a file. What is known of a file of rows that was made: plain. -/
import Derived.Test.YtpfohfihkmjnaaaGreatDoorPk9
import Derived.Test.YtpfohfihkmjnaaaGreatDoorPk6
import Derived.Test.YtpfohfihkmjnaaaGreatDoorPk5
import Derived.Test.YtpfohfihkmjnaaaGreatDoorPk3
import Derived.Test.YtpfohfihkmjnaaaGreatDoorPk4
import Derived.Test.YtpfohfihkmjnaaaGreatDoorPk8
import Derived.Deep.RegionHeld3
import Derived.RegionTactic
import Derived.Test.YtpfohfihkmjnaaaGreatDoorPk1
import Derived.Test.YtpfohfihkmjnaaaGreatDoorPk7
import Derived.Outline
import Derived.Deep.CutBlock
import Derived.Deep.DeepCutAuto
import Derived.Deep.RegionWith
import Derived.BigQuiet
namespace Go.Proofs.YtpfohfihkmjnaaaGreatDoor
open Go.RowKit
theorem ofText_none {p pt s : Str} {sq : Int} (h : pathF p = none) : ofText p pt s sq = (zeroF, 5) := if_pos h
theorem ofText_keys {p pt s : Str} {sq : Int} (h : pathF p ≠ none) (h2 : (keysE (kindF p) s).code ≠ 0) : ofText p pt s sq = (zeroF, (keysE (kindF p) s).code) := by
  unfold ofText; rw [if_neg h, if_pos h2]
theorem ofText_bad {p pt s : Str} {sq : Int} (h : pathF p ≠ none) (h2 : ¬ (keysE (kindF p) s).code ≠ 0) (h3 : checkF (ofFile p pt s sq) ≠ 0) : ofText p pt s sq = (zeroF, checkF (ofFile p pt s sq)) := by
  unfold ofText; rw [if_neg h, if_neg h2, if_pos h3]
theorem ofText_fine {p pt s : Str} {sq : Int} (h : pathF p ≠ none) (h2 : ¬ (keysE (kindF p) s).code ≠ 0) (h3 : checkF (ofFile p pt s sq) = 0) : ofText p pt s sq = (ofFile p pt s sq, 0) := by
  unfold ofText; rw [if_neg h, if_neg h2, if_neg (fun h => h h3)]
theorem erOf_any {E : Nat → Addr} {w w' : World} {v : Value} {c : Nat} (h : ErV E w v (erOf c)) : ErV E w' v (erOf c) := by
  unfold erOf at *
  split at h
  · rename_i h0; rw [if_pos h0]; exact h
  · rename_i h0; rw [if_neg h0]; exact h
theorem noPlace_of {E : Nat → Addr} {w : World} {v : Value} {er : Er} (h : ErV E w v er.noPlace) : ErV E w v (erOf er.noPlace.code) := by
  cases er with
  | nil => exact h
  | bare c =>
    have hc : c ≠ 0 := by have := h.1.1; omega
    show ErV E w v (erOf c)
    unfold erOf; rw [if_neg hc]; exact h
  | loc c i =>
    have hc : c ≠ 0 := by have := h.1.1; omega
    show ErV E w v (erOf c)
    unfold erOf; rw [if_neg hc]; exact h
theorem keysE_place (kind s : Str) : ∃ er : Er, keysE kind s = er.noPlace := by
  unfold keysE
  split
  · exact ⟨_, rfl⟩
  · exact ⟨_, rfl⟩
theorem keysL_len (kind s : Str) : (keysL kind s).length ≤ s.length + 1 := by
  unfold keysL
  split
  · unfold goneL
    split
    · rw [List.length_map, List.length_dropLast]
      have := (splitL_len (s := s) (Nat.le_refl _)).1
      omega
    · simp
  · have := dataL_len s
    simpa [keysR] using this
def OfPost (E : Nat → Addr) (p pt s : Str) (sq : Int) (w : World) (e : Ending) (w' : World) : Prop := ∃ ev, e = .returned (.tuple #[fileV (ofText p pt s sq).1, ev]) ∧ ErV E w' ev (erOf (ofText p pt s sq).2) ∧ Below w.heap.size w w'
theorem of_end {E : Nat → Addr} {p pt s : Str} {sq : Int} {w W : World} {tmps : Array Value} {ev : Value} {x : Fl} {c : Nat} (hp : tmps.getD 8 undef = .pointer (some ⟨w.heap.size, 0, none⟩)) (hv : tmps.getD 9 undef = ev) (hr : ofText p pt s sq = (x, c)) (hev : ErV E W ev (erOf c))
    (hF : W.heap[w.heap.size]? = some (.cells #[S [], S [], .int .i64 0, .int .i64 0, .int .i64 0, .int .i64 0] 43 (0, 0))) (hb : Below w.heap.size w W) :
    bodyPost Tryz.prog Tryz.f96 (OfPost E p pt s sq w) .ret ⟨tmps, []⟩ (six W w.heap.size 0 (S x.path) (S x.part) (.int .i64 x.n) (.int .i64 x.lo) (.int .i64 x.hi) (.int .i64 x.seq)) := by
  subst hv
  refine bodyPost_ret (ret_row rfl tmps _ w.heap.size 43 #[S x.path, S x.part, .int .i64 x.n, .int .i64 x.lo, .int .i64 x.hi, .int .i64 x.seq] (0, 0) _ hp (six_new hF _ _ _ _ _ _) Tryz.underlying43 rfl (by kernel_rfl)) rfl ⟨tmps.getD 9 undef, ?_, ?_, six_below hb (Nat.le_refl _) _ _ _ _ _ _⟩
  · rw [hr]
  · rw [hr]; exact erOf_any hev
theorem of_zero {E : Nat → Addr} {p pt s : Str} {sq : Int} {w W : World} {tmps : Array Value} {ev : Value} {c : Nat} (hp : tmps.getD 8 undef = .pointer (some ⟨w.heap.size, 0, none⟩)) (hv : tmps.getD 9 undef = ev) (hr : ofText p pt s sq = (zeroF, c)) (hev : ErV E W ev (erOf c))
    (hF : W.heap[w.heap.size]? = some (.cells #[S [], S [], .int .i64 0, .int .i64 0, .int .i64 0, .int .i64 0] 43 (0, 0))) (hb : Below w.heap.size w W) :
    bodyPost Tryz.prog Tryz.f96 (OfPost E p pt s sq w) .ret ⟨tmps, []⟩ (six W w.heap.size 0 (.string ⟨#[]⟩) (.string ⟨#[]⟩) (.int .i64 0) (.int .i64 0) (.int .i64 0) (.int .i64 0)) := by
  subst hv
  refine bodyPost_ret (ret_row rfl tmps _ w.heap.size 43 #[.string ⟨#[]⟩, .string ⟨#[]⟩, .int .i64 0, .int .i64 0, .int .i64 0, .int .i64 0] (0, 0) _ hp (six_new hF _ _ _ _ _ _) Tryz.underlying43 rfl (by kernel_rfl)) rfl ⟨tmps.getD 9 undef, ?_, ?_, six_below hb (Nat.le_refl _) _ _ _ _ _ _⟩
  · rw [hr]; rfl
  · rw [hr]; exact erOf_any hev
set_option maxHeartbeats 1000000 in
set_option maxRecDepth 20000 in
theorem fileOf_any (E : Nat → Addr) (B : Nat) (p pt s : Str) (sq : Int) (w : World) (hE : Errs [1, 2, 3, 4, 5, 8, 9, 10] E B w) (hT : LNum B w) (hM : LMax B w) (hps : p.length ≤ 100000) (hts : pt.length ≤ 100000) (hs : s.length ≤ 10000 ∨ 20000 < s.length) (hs2 : s.length ≤ 50000) :
    Calls Tryz.prog 96 #[S p, S pt, S s, .int .i64 sq] w (OfPost E p pt s sq w) := by
  have hBw := hE.le
  have hif := isIfaceE
  have X := Lib.hid (fun W (h : Below w.heap.size w W) => (⟨hE.below' h hBw, hT.below' h hBw, hM.below' h hBw⟩ : Errs [1, 2, 3, 4, 5, 8, 9, 10] E B W ∧ LNum B W ∧ LMax B W))
  have hba : Below w.heap.size w (w.alloc (.cells #[S [], S [], .int .i64 0, .int .i64 0, .int .i64 0, .int .i64 0] 43)) := (Below.refl w.heap.size w).alloc (Nat.le_refl _) _
  have CZ := Lib.hid (fun w6 (h : Below (w.alloc (.cells #[S [], S [], .int .i64 0, .int .i64 0, .int .i64 0, .int .i64 0] 43)).heap.size (w.alloc (.cells #[S [], S [], .int .i64 0, .int .i64 0, .int .i64 0, .int .i64 0] 43)) w6) => fileCells (f := zeroF) rfl h)
  have HG := Lib.hid (fun w6 (h : Below (w.alloc (.cells #[S [], S [], .int .i64 0, .int .i64 0, .int .i64 0, .int .i64 0] 43)).heap.size (w.alloc (.cells #[S [], S [], .int .i64 0, .int .i64 0, .int .i64 0, .int .i64 0] 43)) w6) => (h.block w.heap.size (by simp)).trans (heap_alloc_new w (.cells #[S [], S [], .int .i64 0, .int .i64 0, .int .i64 0, .int .i64 0] 43)))
  have HSz : Hid ((w.alloc (.cells #[S [], S [], .int .i64 0, .int .i64 0, .int .i64 0, .int .i64 0] 43)).heap.size = w.heap.size + 1) := Lib.hid (by simp)
  have HNm := Lib.hid (fileNumber_any E B p (w.alloc (.cells #[S [], S [], .int .i64 0, .int .i64 0, .int .i64 0, .int .i64 0] 43)) ((X.out _ hba).1.sub (by decide)) (X.out _ hba).2.1 (X.out _ hba).2.2 hps)
  have HKy := Lib.hid (fun W (h : Below w.heap.size w W) => fileKeys_any E B (kindF p) s W ((X.out _ h).1.sub (by decide)) (X.out _ h).2.1 (X.out _ h).2.2 hs hs2)
  have hof : ofFile p pt s sq = ⟨p, pt, (keysL (kindF p) s).length, (endsI (keysL (kindF p) s)).1, (endsI (keysL (kindF p) s)).2, sq⟩ := rfl
  have HBad := Lib.hid (fun h h2 => @ofText_keys p pt s sq h h2)
  have HPl := Lib.hid (keysE_place (kindF p) s)
  have hql := keysL_len (kindF p) s
  have HKc : Hid (∀ e, keysE (kindF p) s = e → (keysE (kindF p) s).code = e.code) := Lib.hid fun e h => by rw [h]
  go_enter Tryz.func96, Tryz.ntmps96
  go_upto_region 1 with fail
  generalize w.alloc (.cells #[S [], S [], .int .i64 0, .int .i64 0, .int .i64 0, .int .i64 0] 43) = w0 at *
  go_wp2_with fail
  refine HNm.out.mono ?_
  rintro e w1 ⟨ev, rfl, hev, hb1⟩
  have hbw1 := hba.trans (hb1.mono hba.size)
  cases hpf : pathF p with
  | none =>
    rw [hpf] at hev
    have HR := Lib.hid (@ofText_none p pt s sq hpf)
    have HEv : Hid (ErV E w1 ev (erOf 5)) := Lib.hid hev
    obtain ⟨t1, x1, rfl⟩ := hev.iface (by simp)
    clear hev hpf hof
    have hgz := HG.out _ (hb1)
    have fz : ∀ j, w1.frozen? ⟨w.heap.size, j, none⟩ = false := fun j => frozen_row hgz
    have f0 := fz 0; have f1 := fz 1; have f2 := fz 2; have f3 := fz 3; have f4 := fz 4; have f5 := fz 5
    obtain ⟨d0, d1, d2, d3, d4, d5⟩ := CZ.out _ (hb1)
    have HGz := Lib.hid hgz
    clear fz hgz
    go_wp2_with fail
    exact of_zero rfl rfl HR.out HEv.out HGz.out hbw1
  | some kn =>
  rw [hpf] at hev
  obtain rfl : ev = .nilIface := hev
  have HPf : Hid (pathF p ≠ none) := Lib.hid (by rw [hpf]; simp)
  obtain ⟨ke, hke⟩ : ∃ ke, keysE (kindF p) s = ke := ⟨_, rfl⟩
  have HKe := Lib.hid hke
  obtain ⟨q, hq⟩ : ∃ q, keysL (kindF p) s = q := ⟨_, rfl⟩
  rw [hke] at HKy HBad HPl
  rw [hq] at HKy hql hof
  have HOf := Lib.hid hof
  clear hpf hof hke hq HNm HKc
  generalize numF p = nm at *
  go_wp2_with fail
  refine (HKy.out _ hbw1).mono ?_
  rintro e w2 ⟨u, ev, rfl, hev, hu, hb2⟩
  have hb02 := hb1.trans (hb2.mono hb1.size)
  have hbw2 := hba.trans (hb02.mono hba.size)
  by_cases hke : ke = .nil
  case neg =>
    obtain ⟨er, her⟩ := HPl.out
    have hcd : ke.code ≠ 0 := by
      rw [her] at hev hke ⊢
      cases er with
      | nil => exact absurd rfl hke
      | bare c => have := hev.1.1; show c ≠ 0; omega
      | loc c i => have := hev.1.1; show c ≠ 0; omega
    have HR := Lib.hid (HBad.out HPf.out hcd)
    have HEv : Hid (ErV E w2 ev (erOf ke.code)) := Lib.hid (by rw [her] at hev ⊢; exact noPlace_of hev)
    obtain ⟨t1, x1, rfl⟩ := hev.iface hke
    obtain ⟨a, c, rfl, -, -⟩ := hu.form'
    clear hev hke hcd her hu
    have hgz := HG.out _ (hb02)
    have fz : ∀ j, w2.frozen? ⟨w.heap.size, j, none⟩ = false := fun j => frozen_row hgz
    have f0 := fz 0; have f1 := fz 1; have f2 := fz 2; have f3 := fz 3; have f4 := fz 4; have f5 := fz 5
    obtain ⟨d0, d1, d2, d3, d4, d5⟩ := CZ.out _ (hb02)
    have HGz := Lib.hid hgz
    clear fz hgz
    go_wp2_with fail
    exact of_zero rfl rfl HR.out HEv.out HGz.out hbw2
  subst hke
  obtain rfl : ev = .nilIface := hev
  have HK0 : Hid (¬ (keysE (kindF p) s).code ≠ 0) := Lib.hid (by rw [HKe.out]; simp [Er.code])
  have HU := Lib.hid (fun W (h : Below w2.heap.size w2 W) => hu.below h)
  obtain ⟨a, c, rfl, -, -⟩ := hu.form'
  have hbF : Below w2.heap.size w2 (w2.alloc (.cells #[S p, S pt, .int .i64 q.length, .int .i64 0, .int .i64 0, .int .i64 sq] 43)) := (Below.refl _ _).alloc (Nat.le_refl _) _
  have hgT := heap_alloc_new w2 (.cells #[S p, S pt, .int .i64 q.length, .int .i64 0, .int .i64 0, .int .i64 sq] 43)
  have h0z := HSz.out
  have h02 := hb02.size
  obtain ⟨T, hTx⟩ : ∃ T, w2.heap.size = T := ⟨_, rfl⟩
  rw [hTx] at hgT h02
  clear hu
  go_upto_region 8 with fail
  generalize w2.alloc (.cells #[S p, S pt, .int .i64 q.length, .int .i64 0, .int .i64 0, .int .i64 sq] 43) = w4 at *
  have hb04 := hb02.trans (hbF.mono hb02.size)
  have hnT : ¬ (T = w.heap.size) := by omega
  have hnT2 : ¬ (w.heap.size = T) := by omega
  have c0 : w4.cell? ⟨T, 0, none⟩ = some (S p) := by rw [cell_of_row w4 _ _ _ _ (0, 0) hgT]; rfl
  have c1 : w4.cell? ⟨T, 1, none⟩ = some (S pt) := by rw [cell_of_row w4 _ _ _ _ (0, 0) hgT]; rfl
  have c2 : w4.cell? ⟨T, 2, none⟩ = some (.int .i64 q.length) := by rw [cell_of_row w4 _ _ _ _ (0, 0) hgT]; rfl
  have c3 : w4.cell? ⟨T, 3, none⟩ = some (.int .i64 0) := by rw [cell_of_row w4 _ _ _ _ (0, 0) hgT]; rfl
  have c4 : w4.cell? ⟨T, 4, none⟩ = some (.int .i64 0) := by rw [cell_of_row w4 _ _ _ _ (0, 0) hgT]; rfl
  have c5 : w4.cell? ⟨T, 5, none⟩ = some (.int .i64 sq) := by rw [cell_of_row w4 _ _ _ _ (0, 0) hgT]; rfl
  by_cases h0 : q = []
  case pos =>
    have hen : endsI q = (0, 0) := by rw [h0]; rfl
    rw [hen] at HOf
    have hq0 : q.length = 0 := by rw [h0]; rfl
    have g : decide ((0 : Int) < (q.length : Int)) = false := by simp; omega
    have g' : decide (0 < q.length) = false := by simp; omega
    clear h0 hen hq0
    obtain ⟨n, hn⟩ : ∃ n : Int, (q.length : Int) = n := ⟨_, rfl⟩
    rw [hn] at c2 g hgT HOf ⊢
    have HCk := Lib.hid (fileCheck_any E B ⟨p, pt, n, 0, 0, sq⟩ w4 ((X.out _ (hba.trans (hb04.mono hba.size))).1.sub (by decide)) (X.out _ (hba.trans (hb04.mono hba.size))).2.1 (X.out _ (hba.trans (hb04.mono hba.size))).2.2 ⟨hps, hts⟩)
    go_wp2_with fail
    refine HCk.out.mono ?_
    rintro e w6 ⟨ev, rfl, hev, hb6⟩
    have hb06 := hb04.trans (hb6.mono hb04.size)
    have hbw6 := hba.trans (hb06.mono hba.size)
    clear c0 c1 c2 c3 c4 c5 HCk
    have hgT6 := (hb6.block T (Array.getElem?_eq_some_iff.1 hgT).1).trans hgT
    have c0 : w6.cell? ⟨T, 0, none⟩ = some (S p) := by rw [cell_of_row w6 _ _ _ _ (0, 0) hgT6]; rfl
    have c1 : w6.cell? ⟨T, 1, none⟩ = some (S pt) := by rw [cell_of_row w6 _ _ _ _ (0, 0) hgT6]; rfl
    have c2 : w6.cell? ⟨T, 2, none⟩ = some (.int .i64 n) := by rw [cell_of_row w6 _ _ _ _ (0, 0) hgT6]; rfl
    have c3 : w6.cell? ⟨T, 3, none⟩ = some (.int .i64 0) := by rw [cell_of_row w6 _ _ _ _ (0, 0) hgT6]; rfl
    have c4 : w6.cell? ⟨T, 4, none⟩ = some (.int .i64 0) := by rw [cell_of_row w6 _ _ _ _ (0, 0) hgT6]; rfl
    have c5 : w6.cell? ⟨T, 5, none⟩ = some (.int .i64 sq) := by rw [cell_of_row w6 _ _ _ _ (0, 0) hgT6]; rfl
    clear hgT hgT6
    have hgz := HG.out _ (hb06)
    have fz : ∀ j, w6.frozen? ⟨w.heap.size, j, none⟩ = false := fun j => frozen_row hgz
    have f0 := fz 0; have f1 := fz 1; have f2 := fz 2; have f3 := fz 3; have f4 := fz 4; have f5 := fz 5
    obtain ⟨d0, d1, d2, d3, d4, d5⟩ := CZ.out _ (hb06)
    have HGz := Lib.hid hgz
    clear fz hgz
    have hfl : checkF ⟨p, pt, n, 0, 0, sq⟩ = checkF (ofFile p pt s sq) := by rw [HOf.out]
    unfold fileEr at hev
    rw [hfl] at hev
    by_cases hck : checkF (ofFile p pt s sq) = 0
    case neg =>
      have HR : Hid (ofText p pt s sq = (zeroF, checkF (ofFile p pt s sq))) := Lib.hid (ofText_bad HPf.out HK0.out hck)
      rw [if_neg hck] at hev
      have HEv : Hid (ErV E w6 ev (erOf (checkF (ofFile p pt s sq)))) := Lib.hid (by unfold erOf; rw [if_neg hck]; exact hev)
      obtain ⟨t1, x1, rfl⟩ := hev.iface (by simp)
      clear hev hck hfl
      go_wp2_with fail
      exact of_zero rfl rfl HR.out HEv.out HGz.out hbw6
    rw [if_pos hck] at hev
    obtain rfl : ev = .nilIface := hev
    have HR : Hid (ofText p pt s sq = (⟨p, pt, n, 0, 0, sq⟩, 0)) := Lib.hid (by rw [ofText_fine HPf.out HK0.out hck, HOf.out])
    have HEv : Hid (ErV E w6 .nilIface (erOf 0)) := Lib.hid rfl
    clear hck hfl
    go_wp2_with fail
    exact of_end (x := ⟨p, pt, n, 0, 0, sq⟩) rfl rfl HR.out HEv.out HGz.out hbw6
  have HMin := Lib.hid (fun W (h : Below w2.heap.size w2 W) => minI_any _ q W (HU.out W h) h0 (by omega))
  have HMax := Lib.hid (fun W (h : Below w2.heap.size w2 W) => maxI_any _ q W (HU.out W h) h0 (by omega))
  have hpos : 0 < q.length := List.length_pos_iff.2 h0
  have g : (0 : Int) < (q.length : Int) := by omega
  have g' : decide (0 < q.length) = true := by simpa using hpos
  have p3 : w4.frozen? ⟨T, 3, none⟩ = false := frozen_row hgT
  have p4 : w4.frozen? ⟨T, 4, none⟩ = false := frozen_row hgT
  obtain ⟨lo, hlo⟩ : ∃ lo, (endsI q).1 = lo := ⟨_, rfl⟩
  obtain ⟨hi, hhi⟩ : ∃ hi, (endsI q).2 = hi := ⟨_, rfl⟩
  rw [hlo, hhi] at HOf
  simp only [hlo] at HMin
  simp only [hhi] at HMax
  clear h0 hlo hhi
  obtain ⟨n, hn⟩ : ∃ n : Int, (q.length : Int) = n := ⟨_, rfl⟩
  go_wp2_with fail
  refine (HMin.out _ hbF).mono ?_
  rintro e wx ⟨rfl, rfl⟩
  go_wp2_with fail
  refine (HMax.out _ hbF).mono ?_
  rintro e wx ⟨rfl, rfl⟩
  go_upto_region 10 with fail
  have hg5 : ((w4.setCell ⟨T, 3, none⟩ (.int .i64 lo)).setCell ⟨T, 4, none⟩ (.int .i64 hi)).heap[T]? = some (.cells #[S p, S pt, .int .i64 q.length, .int .i64 lo, .int .i64 hi, .int .i64 sq] 43 (0, 0)) := row_setCell (row_setCell hgT _) _
  have hb05 : Below w0.heap.size w0 ((w4.setCell ⟨T, 3, none⟩ (.int .i64 lo)).setCell ⟨T, 4, none⟩ (.int .i64 hi)) := (hb04.setCell (p := ⟨T, 3, none⟩) h02 _).setCell (p := ⟨T, 4, none⟩) h02 _
  clear c0 c1 c2 c3 c4 c5 p3 p4 hgT
  generalize (w4.setCell ⟨T, 3, none⟩ (.int .i64 lo)).setCell ⟨T, 4, none⟩ (.int .i64 hi) = w5 at *
  have hgT := hg5
  have c0 : w5.cell? ⟨T, 0, none⟩ = some (S p) := by rw [cell_of_row w5 _ _ _ _ (0, 0) hgT]; rfl
  have c1 : w5.cell? ⟨T, 1, none⟩ = some (S pt) := by rw [cell_of_row w5 _ _ _ _ (0, 0) hgT]; rfl
  have c2 : w5.cell? ⟨T, 2, none⟩ = some (.int .i64 q.length) := by rw [cell_of_row w5 _ _ _ _ (0, 0) hgT]; rfl
  have c3 : w5.cell? ⟨T, 3, none⟩ = some (.int .i64 lo) := by rw [cell_of_row w5 _ _ _ _ (0, 0) hgT]; rfl
  have c4 : w5.cell? ⟨T, 4, none⟩ = some (.int .i64 hi) := by rw [cell_of_row w5 _ _ _ _ (0, 0) hgT]; rfl
  have c5 : w5.cell? ⟨T, 5, none⟩ = some (.int .i64 sq) := by rw [cell_of_row w5 _ _ _ _ (0, 0) hgT]; rfl
  rw [hn] at c2 hgT HOf
  try rw [hn]
  clear hg5
  have HCk := Lib.hid (fileCheck_any E B ⟨p, pt, n, lo, hi, sq⟩ w5 ((X.out _ (hba.trans (hb05.mono hba.size))).1.sub (by decide)) (X.out _ (hba.trans (hb05.mono hba.size))).2.1 (X.out _ (hba.trans (hb05.mono hba.size))).2.2 ⟨hps, hts⟩)
  go_wp2_with fail
  refine HCk.out.mono ?_
  rintro e w6 ⟨ev, rfl, hev, hb6⟩
  have hb06 := hb05.trans (hb6.mono hb05.size)
  have hbw6 := hba.trans (hb06.mono hba.size)
  clear c0 c1 c2 c3 c4 c5 HCk
  have hgT6 := (hb6.block T (Array.getElem?_eq_some_iff.1 hgT).1).trans hgT
  have c0 : w6.cell? ⟨T, 0, none⟩ = some (S p) := by rw [cell_of_row w6 _ _ _ _ (0, 0) hgT6]; rfl
  have c1 : w6.cell? ⟨T, 1, none⟩ = some (S pt) := by rw [cell_of_row w6 _ _ _ _ (0, 0) hgT6]; rfl
  have c2 : w6.cell? ⟨T, 2, none⟩ = some (.int .i64 n) := by rw [cell_of_row w6 _ _ _ _ (0, 0) hgT6]; rfl
  have c3 : w6.cell? ⟨T, 3, none⟩ = some (.int .i64 lo) := by rw [cell_of_row w6 _ _ _ _ (0, 0) hgT6]; rfl
  have c4 : w6.cell? ⟨T, 4, none⟩ = some (.int .i64 hi) := by rw [cell_of_row w6 _ _ _ _ (0, 0) hgT6]; rfl
  have c5 : w6.cell? ⟨T, 5, none⟩ = some (.int .i64 sq) := by rw [cell_of_row w6 _ _ _ _ (0, 0) hgT6]; rfl
  clear hgT hgT6
  have hgz := HG.out _ (hb06)
  have fz : ∀ j, w6.frozen? ⟨w.heap.size, j, none⟩ = false := fun j => frozen_row hgz
  have f0 := fz 0; have f1 := fz 1; have f2 := fz 2; have f3 := fz 3; have f4 := fz 4; have f5 := fz 5
  obtain ⟨d0, d1, d2, d3, d4, d5⟩ := CZ.out _ (hb06)
  have HGz := Lib.hid hgz
  clear fz hgz
  have hfl : checkF ⟨p, pt, n, lo, hi, sq⟩ = checkF (ofFile p pt s sq) := by rw [HOf.out]
  unfold fileEr at hev
  rw [hfl] at hev
  by_cases hck : checkF (ofFile p pt s sq) = 0
  case neg =>
    have HR : Hid (ofText p pt s sq = (zeroF, checkF (ofFile p pt s sq))) := Lib.hid (ofText_bad HPf.out HK0.out hck)
    rw [if_neg hck] at hev
    have HEv : Hid (ErV E w6 ev (erOf (checkF (ofFile p pt s sq)))) := Lib.hid (by unfold erOf; rw [if_neg hck]; exact hev)
    obtain ⟨t1, x1, rfl⟩ := hev.iface (by simp)
    clear hev hck hfl
    go_wp2_with fail
    exact of_zero rfl rfl HR.out HEv.out HGz.out hbw6
  rw [if_pos hck] at hev
  obtain rfl : ev = .nilIface := hev
  have HR : Hid (ofText p pt s sq = (⟨p, pt, n, lo, hi, sq⟩, 0)) := Lib.hid (by rw [ofText_fine HPf.out HK0.out hck, HOf.out])
  have HEv : Hid (ErV E w6 .nilIface (erOf 0)) := Lib.hid rfl
  clear hck hfl
  go_wp2_with fail
  exact of_end (x := ⟨p, pt, n, lo, hi, sq⟩) rfl rfl HR.out HEv.out HGz.out hbw6
end Go.Proofs.YtpfohfihkmjnaaaGreatDoor
namespace Go.Proofs.YtpfohfihkmjnaaaGreatDoor
open Go.RowKit
theorem rowF6 {W : World} {g : Nat} {f : Fl} {t : TypeId} (h : W.heap[g]? = some (.cells #[S f.path, S f.part, .int .i64 f.n, .int .i64 f.lo, .int .i64 f.hi, .int .i64 f.seq] t (0, 0))) :
    W.cell? ⟨g, 0, none⟩ = some (S f.path) ∧ W.cell? ⟨g, 1, none⟩ = some (S f.part) ∧ W.cell? ⟨g, 2, none⟩ = some (.int .i64 f.n) ∧ W.cell? ⟨g, 3, none⟩ = some (.int .i64 f.lo) ∧ W.cell? ⟨g, 4, none⟩ = some (.int .i64 f.hi) ∧ W.cell? ⟨g, 5, none⟩ = some (.int .i64 f.seq) := by
  refine ⟨?_, ?_, ?_, ?_, ?_, ?_⟩ <;> (rw [cell_of_row W _ _ _ _ (0, 0) h]; rfl)
/-- A block that was there, later. -/
theorem rowKept {W W' : World} {g : Nat} {o : Obj} (h : W.heap[g]? = some o) (hb : Below W.heap.size W W') : W'.heap[g]? = some o := (hb.block g (Array.getElem?_eq_some_iff.1 h).1).trans h
theorem set_other {w : World} {g k i : Nat} (h : g ≠ k) (v : Value) : (w.setCell ⟨g, i, none⟩ v).heap[k]? = w.heap[k]? := by simp [World.setCell, Array.getElem?_modify, h]
end Go.Proofs.YtpfohfihkmjnaaaGreatDoor
namespace Go.Proofs.YtpfohfihkmjnaaaGreatDoor
open Go.RowKit Go.Maps
theorem StoreAt.away {w : World} {sb mb g i : Nat} {s : St} (h : StoreAt w sb mb s) (h1 : g ≠ sb) (h2 : g ≠ mb) (x : Value) : StoreAt (w.setCell ⟨g, i, none⟩ x) sb mb s :=
  ⟨(set_other h1 x).trans h.blk, h.own.setCell (by exact fun e => h2 e.symm) x, h.ok⟩
theorem StoreAt.six {w : World} {sb mb g o : Nat} {s : St} (h : StoreAt w sb mb s) (h1 : g ≠ sb) (h2 : g ≠ mb) (b0 b1 b2 b3 b4 b5 : Value) : StoreAt (six w g o b0 b1 b2 b3 b4 b5) sb mb s :=
  (((((h.away h1 h2 _).away h1 h2 _).away h1 h2 _).away h1 h2 _).away h1 h2 _).away h1 h2 _
theorem But2.away {w0 w : World} {sb mb g i : Nat} (h : But2 sb mb w0 w) (hg : w0.heap.size ≤ g) (x : Value) : But2 sb mb w0 (w.setCell ⟨g, i, none⟩ x) :=
  ⟨h.os, h.tape, h.output, by simpa [World.setCell] using h.size, fun k hk h1 h2 => (set_other (show g ≠ k by omega) x).trans (h.block k hk h1 h2)⟩
theorem But2.six {w0 w : World} {sb mb g o : Nat} (h : But2 sb mb w0 w) (hg : w0.heap.size ≤ g) (b0 b1 b2 b3 b4 b5 : Value) : But2 sb mb w0 (six w g o b0 b1 b2 b3 b4 b5) :=
  (((((h.away hg _).away hg _).away hg _).away hg _).away hg _).away hg _
theorem But2.drew {sb mb : Nat} {w0 w : World} (h : But2 sb mb w0 w) : But2 sb mb w0 w.drew := h.trans (But2.of (Bdn (Below.refl _ _) 1))
end Go.Proofs.YtpfohfihkmjnaaaGreatDoor
namespace Go.Proofs.YtpfohfihkmjnaaaGreatDoor
open Go.RowKit Go.Maps
section
variable {w w' : World} {sb mb a b : Nat} {s : St} {e : TypeId}
theorem StoreAt.asideT (h : StoreAt w sb mb s) (hb : But2 a b w w') (h1 : sb ≠ a) (h2 : sb ≠ b) (h3 : mb ≠ a) (h4 : mb ≠ b) : StoreAt w' sb mb s :=
  ⟨(hb.block sb h.lt h1 h2).trans h.blk, by
    obtain ⟨es, clock, hx, F, hs, hD⟩ := h.own
    exact ⟨es, clock, (hb.block mb h.ltm h3 h4).trans hx, F, hs, hD⟩, h.ok⟩
theorem own_offT {α : Type} {enc : α → List Value} {sz B : Nat} {v : Value} {l : List α} (h : Own enc e sz B w v l) (hs : StoreAt w sb mb s) (he : e ≠ 128) : v.ownBlock ≠ some sb ∧ v.ownBlock ≠ some mb := by
  refine ⟨own_ne h hs.blk fun cs hc => ?_, ?_⟩
  · cases hc; exact he rfl
  · obtain ⟨es, clock, hx, _⟩ := hs.own
    exact own_ne h hx fun cs hc => by cases hc
end
/-- The store and the model of s, apart, made behind w0. -/
structure Twin (w0 : World) (sb mb xb : Nat) (v : Value) (s : St) (w : World) : Prop where
  sto : StoreAt w sb mb s
  mdl : ModAt w w0.heap.size xb v s
  bel : Below w0.heap.size w0 w
  h1 : w0.heap.size ≤ sb
  h2 : w0.heap.size ≤ mb
  h3 : w0.heap.size ≤ xb
  n1 : xb ≠ sb
  n2 : xb ≠ mb
section
variable {w0 w w' w2 : World} {sb mb xb : Nat} {v v' : Value} {s s' : St}
theorem Twin.below (h : Twin w0 sb mb xb v s w) (hb : Below w.heap.size w w') : Twin w0 sb mb xb v s w' :=
  { h with sto := h.sto.below hb, mdl := h.mdl.below hb, bel := h.bel.trans (hb.mono h.bel.size) }
/-- The model, when the store alone has turned. -/
theorem Twin.half (h : Twin w0 sb mb xb v s w) (hb : But2 sb mb w w') : ModAt w' w0.heap.size xb v s := by
  obtain ⟨k1, k2⟩ := own_offT h.mdl.own h.sto (by decide)
  exact ⟨(hb.block xb h.mdl.lt h.n1 h.n2).trans h.mdl.blk, own_but h.mdl.own k1 k2 hb, h.mdl.ok⟩
/-- Both are turned, one behind the other. -/
theorem Twin.turn (h : Twin w0 sb mb xb v s w) (hs : StoreAt w' sb mb s') (hb : But2 sb mb w w') (hm : ModAt w2 w0.heap.size xb v' s') (hb2 : But2 xb xb w' w2) : Twin w0 sb mb xb v' s' w2 :=
  { h with
    sto := hs.asideT hb2 h.n1.symm h.n1.symm h.n2.symm h.n2.symm
    mdl := hm
    bel := hb2.below (hb.below h.bel h.h1 h.h2 h.bel.size) h.h3 h.h3 (hb.below h.bel h.h1 h.h2 h.bel.size).size }
end
theorem cell_row {w : World} {b i : Nat} {u : Value} (h : w.cell? ⟨b, i, none⟩ = some u) : ∃ cs t fr, w.heap[b]? = some (.cells cs t fr) ∧ i < cs.size := by
  unfold World.cell? at h
  split at h
  · rename_i cs t fr hg
    exact ⟨cs, t, fr, hg, (Array.getElem?_eq_some_iff.1 (by simpa using h)).1⟩
  · cases h
/-- A list of wide structs stays, when only what is no such row has turned. -/
theorem at_turn {α : Type} {enc : α → List Value} {sz : Nat} {w w' : World} {v : Value} {l : List α} {a b : Nat} (h : At enc sz w v l) (he : ∀ x, (enc x).length = sz) (h6 : 6 ≤ sz) (hb : But2 a b w w')
    (ha : ∀ cs t fr, w.heap[a]? = some (.cells cs t fr) → cs.size ≤ 5) (hb' : ∀ cs t fr, w.heap[b]? = some (.cells cs t fr) → cs.size ≤ 5) : At enc sz w' v l := by
  obtain ⟨ad, c, bk, o, hv, h1, h2, h3, hx⟩ := h
  refine ⟨ad, c, bk, o, hv, h1, h2, h3, fun k x hk j u hu => ?_⟩
  have hc := hx k x hk j u hu
  obtain ⟨u5, hu5⟩ : ∃ u5, (enc x)[sz - 1]? = some u5 := ⟨_, List.getElem?_eq_getElem (by rw [he]; omega)⟩
  obtain ⟨cs, t, fr, hg, hi⟩ := cell_row (hx k x hk (sz - 1) u5 hu5)
  have na : bk ≠ a := by rintro rfl; have := ha cs t fr hg; omega
  have nb : bk ≠ b := by rintro rfl; have := hb' cs t fr hg; omega
  have hlt := (Array.getElem?_eq_some_iff.1 hg).1
  have := hb.block bk hlt na nb
  rw [← hc]
  unfold World.cell?
  simp only [this]
theorem StoreAt.thin {w : World} {sb mb : Nat} {s : St} (h : StoreAt w sb mb s) : (∀ cs t fr, w.heap[sb]? = some (.cells cs t fr) → cs.size ≤ 5) ∧ (∀ cs t fr, w.heap[mb]? = some (.cells cs t fr) → cs.size ≤ 5) := by
  refine ⟨fun cs t fr hg => ?_, fun cs t fr hg => ?_⟩
  · rw [h.blk] at hg
    cases hg
    exact Nat.le_refl _
  · obtain ⟨es, clock, hx, _⟩ := h.own
    rw [hx] at hg
    cases hg
theorem ModAt.thin {w : World} {B xb : Nat} {v : Value} {s : St} (h : ModAt w B xb v s) : ∀ cs t fr, w.heap[xb]? = some (.cells cs t fr) → cs.size ≤ 5 := fun cs t fr hg => by
  rw [h.blk] at hg
  cases hg
  exact Nat.le_refl _
end Go.Proofs.YtpfohfihkmjnaaaGreatDoor
namespace Go.Proofs.YtpfohfihkmjnaaaGreatDoor
open Go.RowKit
/-- A piece of a table: a file's rows (or its keys), by which Seq; another text in its place; and where its rows and keys lie. -/
structure Pc where
  path : Str
  part : Str
  spoil : Str
  rows : List Rw
  keys : List Int
  seq : Int
  va : Value
  vk : Value
abbrev encPc (p : Pc) : List Value := [S p.path, S p.part, S p.spoil, p.va, p.vk, .int .i64 p.seq]
/-- The rows and keys of each lie there. -/
def HeldPc (w : World) (l : List Pc) : Prop := ∀ x ∈ l, RowsAt w x.va x.rows ∧ IntsAt w x.vk x.keys
theorem HeldPc.below {w w' : World} {l : List Pc} (h : HeldPc w l) (hb : Below w.heap.size w w') : HeldPc w' l := fun x hx => ⟨(h x hx).1.below hb, (h x hx).2.below hb⟩
abbrev PiecesAt (w : World) (v : Value) (l : List Pc) : Prop := At encPc 6 w v l
theorem szPc (w : World) : (sizeOf 71).run Tryz.prog w = .ok 6 w := by kernel_rfl
/-- A round's cells. -/
theorem pcCells {w w' : World} {b o : Nat} {l : List Pc} {k : Nat} {x : Pc} (hx : ∀ (k : Nat) (x : Pc), l[k]? = some x → ∀ (j : Nat) (u : Value), (encPc x)[j]? = some u → w.cell? ⟨b, o + k * 6 + j, none⟩ = some u) (hb : Below w.heap.size w w') (hk : l[k]? = some x) :
    w'.cell? ⟨b, o + k * 6, none⟩ = some (S x.path) ∧ w'.cell? ⟨b, o + k * 6 + 1, none⟩ = some (S x.part) ∧ w'.cell? ⟨b, o + k * 6 + 2, none⟩ = some (S x.spoil) ∧ w'.cell? ⟨b, o + k * 6 + 3, none⟩ = some x.va ∧ w'.cell? ⟨b, o + k * 6 + 4, none⟩ = some x.vk ∧ w'.cell? ⟨b, o + k * 6 + 5, none⟩ = some (.int .i64 x.seq) := by
  have h := fun j u hu => by
    have := hx k x hk j u hu
    exact (hb.cell (World.block_lt_of_cell? w _ this)).trans this
  exact ⟨h 0 _ rfl, h 1 _ rfl, h 2 _ rfl, h 3 _ rfl, h 4 _ rfl, h 5 _ rfl⟩
end Go.Proofs.YtpfohfihkmjnaaaGreatDoor
namespace Go.Proofs.YtpfohfihkmjnaaaGreatDoor
open Go.RowKit
/-- A table at one time. -/
structure Sn where
  id : Int
  parent : Int
  seq : Int
  day : Int
  index : Int
  op : Str
  files : List Fl
  deriving DecidableEq
abbrev kStart : Str := [115, 116, 97, 114, 116]
abbrev kAppend : Str := [97, 112, 112, 101, 110, 100]
abbrev kDelete : Str := [100, 101, 108, 101, 116, 101]
abbrev kRewrite : Str := [114, 101, 119, 114, 105, 116, 101]
def kOps : List Str := [kStart, kAppend, kDelete, kRewrite]
def zeroSn : Sn := ⟨0, 0, 0, 0, 0, [], []⟩
def inB (n lo hi : Int) : Bool := decide (lo ≤ n) && decide (n ≤ hi)
def snapBound (s : Sn) : Bool := !inB s.id 1 1073741824 || (decide (s.parent < 0) || (decide (s.id ≤ s.parent) || (!inB s.seq 0 1073741824 || (!inB s.day 0 100000 || !inB s.index 0 1073741824))))
def seqFault (s : Sn) (i : Nat) : Nat :=
  match s.files[i]? with
  | none => 0
  | some f => if s.seq < f.seq then 9 else 0
/-- A snap's fault. -/
def snapCheck (s : Sn) : Er :=
  if snapBound s = true then .bare 2 else if s.op ∉ kOps then .bare 4 else if listCheck s.files ≠ .nil then listCheck s.files else firstErr (seqFault s) s.files.length
structure RightSn (s : Sn) : Prop where
  bnd : snapBound s = false
  op : s.op ∈ kOps
  lst : RightL s.files
  sq : ∀ f ∈ s.files, f.seq ≤ s.seq
theorem snap_iff (s : Sn) : snapCheck s = .nil ↔ RightSn s := by
  unfold snapCheck
  constructor
  · intro h
    split at h
    · cases h
    · rename_i h1
      split at h
      · cases h
      · rename_i h2
        split at h
        · rename_i h3; exact absurd h h3
        · rename_i h3
          have hf := firstErr_nil h
          refine ⟨by simpa using h1, Decidable.not_not.1 h2, (right_iff _).1 (Decidable.not_not.1 h3), fun f hf' => ?_⟩
          obtain ⟨i, hi⟩ := List.getElem?_of_mem hf'
          have := hf i (List.getElem?_eq_some_iff.1 hi).1
          unfold seqFault at this
          rw [hi] at this
          simp only at this
          split at this
          · cases this
          · omega
  · intro h
    rw [if_neg (by rw [h.bnd]; simp), if_neg (fun h' => h' h.op), if_neg (fun h' => h' ((right_iff _).2 h.lst))]
    refine firstErr_all fun j hj => ?_
    unfold seqFault
    obtain ⟨f, hf⟩ : ∃ f, s.files[j]? = some f := ⟨s.files[j], List.getElem?_eq_getElem hj⟩
    rw [hf]
    simp only
    rw [if_neg]
    have := h.sq f (List.mem_of_getElem? hf)
    omega
end Go.Proofs.YtpfohfihkmjnaaaGreatDoor
namespace Go.Proofs.YtpfohfihkmjnaaaGreatDoor
open Go.RowKit
end Go.Proofs.YtpfohfihkmjnaaaGreatDoor
namespace Go.Proofs.YtpfohfihkmjnaaaGreatDoor
open Go.RowKit
theorem cut32_any (s : Str) (w : World) (hs : s.length ≤ 100000) :
    Calls Tryz.prog 158 #[S s, .int .u8 32] w fun e w' => ∃ v', e = .returned v' ∧ Own encS 9 1 w.heap.size w' v' (cutAt 32 s) ∧ Below w.heap.size w w' := refCut_any s 32 w hs
theorem cut10_any (s : Str) (w : World) (hs : s.length ≤ 100000) :
    Calls Tryz.prog 158 #[S s, .int .u8 10] w fun e w' => ∃ v', e = .returned v' ∧ Own encS 9 1 w.heap.size w' v' (cutAt 10 s) ∧ Below w.heap.size w w' := refCut_any s 10 w hs
end Go.Proofs.YtpfohfihkmjnaaaGreatDoor
namespace Go.Proofs.YtpfohfihkmjnaaaGreatDoor
open Go.RowKit
theorem Own.stays {α : Type} {enc : α → List Value} {sz : Nat} {w w' : World} {v : Value} {l : List α} {e : TypeId} {B : Nat} (hen : Enc enc sz) (h : Own enc e sz B w v l) (hw : ∀ p : Addr, B ≤ p.block → w'.cell? p = w.cell? p) : At enc sz w' v l := by
  rcases Nat.eq_zero_or_pos l.length with h0 | h0
  · obtain ⟨a, c, b, o, hv, ha, hc, hm, hx⟩ := h.at hen
    exact ⟨a, c, b, o, hv, ha, hc, hm, fun k x hk => absurd (List.getElem?_eq_some_iff.1 hk).1 (by omega)⟩
  · obtain ⟨g', cap, cur, rfl, hB, _, hc, hm, _, _⟩ := h.open h0
    refine ⟨_, cap, g', 0, rfl, fun _ => rfl, hc, hm, fun k x hk j u hu => ?_⟩
    have h1 := h.cells hen k x hk j u hu
    rw [Nat.zero_add]
    exact (hw ⟨g', k * sz + j, none⟩ hB).trans h1
theorem fault_tc {fn : Func} {u p : Tmp} (h : fn.results = #[.tmp u, .cell p 58]) {tmps : Array Value} {w : World} {g : Nat} {c q : Int} {v : Value} (hp : tmps.getD p undef = .pointer (some ⟨g, 0, none⟩)) (hg : w.heap[g]? = some (.cells #[.int .i64 c, .int .i64 q] 58 (0, 0))) (hv : tmps.getD u undef = v) :
    (results fn tmps).run Tryz.prog w = .ok (.tuple #[v, faultV c q]) w :=
  results_tmp_cell h tmps w g 58 #[.int .i64 c, .int .i64 q] (0, 0) _ hp hg Tryz.underlying58 rfl (by kernel_rfl) hv
end Go.Proofs.YtpfohfihkmjnaaaGreatDoor
namespace Go.Proofs.YtpfohfihkmjnaaaGreatDoor
open Go.RowKit
theorem FilesAt.away {w : World} {v : Value} {l : List Fl} {g : Nat} {x y : Int} {t : TypeId} (h : FilesAt w v l) (hg : w.heap[g]? = some (.cells #[.int .i64 x, .int .i64 y] t (0, 0))) (a b : Value) : FilesAt ((w.setCell ⟨g, 0, none⟩ a).setCell ⟨g, 1, none⟩ b) v l := by
  obtain ⟨a', c, b', o, hv, ha, hc, hm, hx⟩ := h
  refine ⟨a', c, b', o, hv, ha, hc, hm, fun k z hk j u hu => ?_⟩
  have h0 := hx k z hk 0 _ rfl
  have h1 := hx k z hk j u hu
  have hne : b' ≠ g := by
    rintro rfl
    simp only [World.cell?, hg] at h0
    generalize o + k * 6 + 0 = i at h0
    match i with
    | 0 => simp at h0
    | 1 => simp at h0
    | n + 2 => simp at h0
  rw [World.cell?_setCell_other _ _ _ _ (fun e => hne (by have h := congrArg Addr.block e; first | exact h | exact h.symm)), World.cell?_setCell_other _ _ _ _ (fun e => hne (by have h := congrArg Addr.block e; first | exact h | exact h.symm))]
  exact h1
end Go.Proofs.YtpfohfihkmjnaaaGreatDoor
namespace Go.Proofs.YtpfohfihkmjnaaaGreatDoor
open Go.RowKit
theorem keyP_inj {p q : Str} (hp : pathF p ≠ none) (hq : pathF q ≠ none) (h : keyP p = keyP q) : p = q := by
  cases h1 : pathF p with
  | none => exact absurd h1 hp
  | some a =>
    cases h2 : pathF q with
    | none => exact absurd h2 hq
    | some b =>
      obtain ⟨k, n⟩ := a
      obtain ⟨k', n'⟩ := b
      obtain ⟨e1, k1, n1, m1⟩ := pathF_form h1
      obtain ⟨e2, k2, n2, m2⟩ := pathF_form h2
      have hg : ¬ kGone = kData := by decide
      unfold keyP at h
      rw [h1, h2] at h
      simp only at h
      rcases k1 with rfl | rfl <;> rcases k2 with rfl | rfl
      · rw [if_pos rfl, if_pos rfl] at h
        obtain rfl : n = n' := by omega
        rw [e1, e2]
      · rw [if_pos rfl, if_neg hg] at h; omega
      · rw [if_neg hg, if_pos rfl] at h; omega
      · rw [if_neg hg, if_neg hg] at h
        obtain rfl : n = n' := by omega
        rw [e1, e2]
theorem checkF_path {f : Fl} (h : checkF f = 0) : pathF f.path ≠ none := by
  obtain ⟨k, n, hp, -, -⟩ := checkF_zero h
  rw [hp]; exact fun e => by cases e
end Go.Proofs.YtpfohfihkmjnaaaGreatDoor
namespace Go.Proofs.YtpfohfihkmjnaaaGreatDoor
open Go.RowKit
/-- A change. -/
structure Tx where
  base : Sn
  adds : List Fl
  removes : List Str
theorem findV_neg {l : List Fl} {p : Str} : findV l p < 0 ↔ ∀ f ∈ l, f.path ≠ p := by
  unfold findV idxVal
  cases h : l.findIdx? (fun f => f.path == p) with
  | none =>
    rw [List.findIdx?_eq_none_iff] at h
    simp only [beq_eq_false_iff_ne] at h
    exact ⟨fun _ => h, fun _ => by decide⟩
  | some i =>
    obtain ⟨h1, h2, -⟩ := List.findIdx?_eq_some_iff_getElem.1 h
    constructor
    · intro h3; simp only at h3; omega
    · intro h3; exact absurd (by simpa using h2) (h3 l[i] (List.getElem_mem h1))
theorem findV_pos {l : List Fl} {p : Str} : 0 ≤ findV l p ↔ ∃ f ∈ l, f.path = p := by
  constructor
  · intro h
    apply Classical.byContradiction
    intro hn
    have : findV l p < 0 := findV_neg.2 fun f hf e => hn ⟨f, hf, e⟩
    omega
  · rintro ⟨f, hf, e⟩
    apply Classical.byContradiction
    intro hn
    exact findV_neg.1 (by omega) f hf e
theorem placeF_perm (f : Fl) : ∀ l : List Fl, (placeF f l).Perm (f :: l)
  | [] => .refl _
  | g :: r => by
    unfold placeF
    split
    · exact .refl _
    · exact ((placeF_perm f r).cons g).trans (List.Perm.swap f g r)
theorem mem_placeF {f g : Fl} {l : List Fl} : g ∈ placeF f l ↔ g = f ∨ g ∈ l := by rw [(placeF_perm f l).mem_iff]; simp
theorem placeF_len (f : Fl) (l : List Fl) : (placeF f l).length = l.length + 1 := by rw [(placeF_perm f l).length_eq]; simp
abbrev UpF (l : List Fl) : Prop := l.Pairwise (fun a b => keyP a.path < keyP b.path)
theorem placeF_up {f : Fl} : ∀ {l : List Fl}, UpF l → (∀ g ∈ l, keyP g.path ≠ keyP f.path) → UpF (placeF f l)
  | [], _, _ => by simp [placeF, UpF]
  | g :: r, h, hn => by
    obtain ⟨h1, h2⟩ := List.pairwise_cons.1 h
    unfold placeF
    have hne := hn g (by simp)
    split
    · rename_i hle
      refine List.pairwise_cons.2 ⟨fun x hx => ?_, h⟩
      rcases List.mem_cons.1 hx with rfl | hx
      · omega
      · have := h1 x hx; omega
    · rename_i hle
      refine List.pairwise_cons.2 ⟨fun x hx => ?_, placeF_up h2 fun x hx => hn x (by simp [hx])⟩
      rcases mem_placeF.1 hx with rfl | hx
      · omega
      · exact h1 x hx
end Go.Proofs.YtpfohfihkmjnaaaGreatDoor
namespace Go.Proofs.YtpfohfihkmjnaaaGreatDoor
open Go.RowKit
theorem UpF.paths {l : List Fl} (h : UpF l) : (l.map (·.path)).Nodup := by
  unfold List.Nodup
  rw [List.pairwise_map]
  exact h.imp fun hlt e => by rw [e] at hlt; omega
theorem path_one {l : List Fl} (h : UpF l) {f g : Fl} (hf : f ∈ l) (hg : g ∈ l) (e : f.path = g.path) : f = g := by
  obtain ⟨i, hi, rfl⟩ := List.getElem_of_mem hf
  obtain ⟨j, hj, rfl⟩ := List.getElem_of_mem hg
  rcases Nat.lt_trichotomy i j with h1 | rfl | h1
  · have := List.pairwise_iff_getElem.1 h i j hi hj h1
    rw [e] at this; omega
  · rfl
  · have := List.pairwise_iff_getElem.1 h j i hj hi h1
    rw [e] at this; omega
/-- What a name finds in a rising list. -/
theorem find_one {l : List Fl} (h : UpF l) {f : Fl} (hf : f ∈ l) : ∃ k : Nat, findV l f.path = k ∧ l[k]? = some f := by
  have h0 : 0 ≤ findV l f.path := findV_pos.2 ⟨f, hf, rfl⟩
  unfold findV idxVal at *
  cases hi : l.findIdx? (fun g => g.path == f.path) with
  | none => rw [hi] at h0; simp at h0
  | some i =>
    obtain ⟨h1, h2, -⟩ := List.findIdx?_eq_some_iff_getElem.1 hi
    refine ⟨i, rfl, ?_⟩
    rw [List.getElem?_eq_getElem h1, path_one h (List.getElem_mem h1) hf (by simpa using h2)]
end Go.Proofs.YtpfohfihkmjnaaaGreatDoor
namespace Go.Proofs.YtpfohfihkmjnaaaGreatDoor
open Go.RowKit
/-- A name's text among objects. -/
def textO (os : List Ob) (p : Str) : Str := ((getO os p).map (·.text)).getD []
/-- A file's error, by its number. -/
def fileE (os : List Ob) (f : Fl) : Nat :=
  if (getO os f.path).isNone then 6
  else if (ofText f.path f.part (textO os f.path) f.seq).2 ≠ 0 then (ofText f.path f.part (textO os f.path) f.seq).2
  else if (ofText f.path f.part (textO os f.path) f.seq).1 ≠ f then 3 else 0
def isG (f : Fl) : Bool := f.part == [45]
def rowsO (os : List Ob) (f : Fl) : List Rw := if isG f then [] else dataL (textO os f.path)
def keysO (os : List Ob) (f : Fl) : List Int := if isG f then goneL (textO os f.path) else []
def scanF (os : List Ob) (lo hi : Int) (files : List Fl) (i : Nat) : Nat :=
  match files[i]? with
  | none => 0
  | some f => if pruneP lo hi f then 0 else fileE os f
def rowsE (os : List Ob) (s : Sn) (lo hi : Int) : Er := if snapCheck s ≠ .nil then snapCheck s else firstErr (scanF os lo hi s.files) s.files.length
/-- Is a key of a file of that Seq gone? -/
def killed (os : List Ob) (l : List Fl) (q k : Int) : Bool := l.any fun g => decide (q < g.seq) && decide (k ∈ keysO os g)
def leftO (os : List Ob) (l : List Fl) (lo hi : Int) (f : Fl) : List Rw := (withinR (rowsO os f) lo hi).filter fun x => !killed os l f.seq x.key
def allO (os : List Ob) (l : List Fl) (lo hi : Int) : List Rw := l.flatMap (leftO os l lo hi)
def rowsL (os : List Ob) (s : Sn) (lo hi : Int) : List Rw := if rowsE os s lo hi = .nil then sortR (allO os (pruneL s.files lo hi) lo hi) else []
theorem ofText_inv {p pt s : Str} {sq : Int} (h : (ofText p pt s sq).2 = 0) : pathF p ≠ none ∧ (keysE (kindF p) s).code = 0 ∧ checkF (ofFile p pt s sq) = 0 ∧ (ofText p pt s sq).1 = ofFile p pt s sq := by
  unfold ofText at *
  split at h
  · cases h
  rename_i h1
  rw [if_neg h1] at *
  split at h
  · rename_i h2; exact absurd h h2
  rename_i h2
  rw [if_neg h2] at *
  split at h
  · rename_i h3; exact absurd h h3
  rename_i h3
  rw [if_neg h3]
  exact ⟨h1, Decidable.not_not.1 h2, Decidable.not_not.1 h3, rfl⟩
theorem fileE_zero {os : List Ob} {f : Fl} (h : fileE os f = 0) : (∃ o, getO os f.path = some o) ∧ ofText f.path f.part (textO os f.path) f.seq = (f, 0) := by
  unfold fileE at h
  split at h
  · cases h
  rename_i h1
  split at h
  · rename_i h2; exact absurd h h2
  rename_i h2
  split at h
  · cases h
  rename_i h3
  refine ⟨?_, Prod.ext (Decidable.not_not.1 h3) (Decidable.not_not.1 h2)⟩
  cases hg : getO os f.path with
  | none => rw [hg] at h1; simp at h1
  | some o => exact ⟨o, rfl⟩
theorem isG_kind {f : Fl} (h : checkF f = 0) : (isG f = true ∧ kindF f.path = kGone) ∨ (isG f = false ∧ kindF f.path = kData) := by
  obtain ⟨k, n, hp, hpt, -⟩ := checkF_zero h
  have hk : kindF f.path = k := by unfold kindF; rw [hp]; rfl
  rw [hk]
  rcases (pathF_some hp).1 with rfl | rfl
  · refine .inr ⟨?_, rfl⟩
    unfold isG
    rw [beq_eq_false_iff_ne]
    intro e
    rw [e] at hpt
    exact absurd hpt (by decide)
  · refine .inl ⟨?_, rfl⟩
    unfold partOk at hpt
    rw [if_pos rfl] at hpt
    exact hpt
/-- A file that can be read: what is known of it is so. -/
theorem read_known {os : List Ob} {f : Fl} (h : fileE os f = 0) :
    checkF f = 0 ∧ (isG f = true → goneE (textO os f.path) = .nil ∧ keysO os f ≠ [] ∧ endsI (keysO os f) = (f.lo, f.hi)) ∧ (isG f = false → dataE (textO os f.path) = .nil ∧ keysR (rowsO os f) ≠ [] ∧ endsI (keysR (rowsO os f)) = (f.lo, f.hi)) := by
  obtain ⟨-, h1⟩ := fileE_zero h
  obtain ⟨hp, hk, hc, he⟩ := ofText_inv (by rw [h1])
  rw [h1] at he
  have he' : f = ofFile f.path f.part (textO os f.path) f.seq := he
  rw [← he'] at hc
  have hn : (f.n : Int) = ((keysL (kindF f.path) (textO os f.path)).length : Int) := congrArg Fl.n he'
  have hlo : f.lo = (endsI (keysL (kindF f.path) (textO os f.path))).1 := congrArg Fl.lo he'
  have hhi : f.hi = (endsI (keysL (kindF f.path) (textO os f.path))).2 := congrArg Fl.hi he'
  obtain ⟨k, n, -, -, hb⟩ := checkF_zero hc
  have hn1 : 1 ≤ f.n := by unfold boundF at hb; omega
  have hne : keysL (kindF f.path) (textO os f.path) ≠ [] := by intro e; rw [e] at hn; simp at hn; omega
  have hends : endsI (keysL (kindF f.path) (textO os f.path)) = (f.lo, f.hi) := by rw [hlo, hhi]
  refine ⟨hc, fun hg => ?_, fun hg => ?_⟩
  · rcases isG_kind hc with ⟨-, hkd⟩ | ⟨h', -⟩
    · rw [hkd] at hk hne hends
      have e1 : keysL kGone (textO os f.path) = keysO os f := by unfold keysL keysO; rw [if_pos rfl, if_pos hg]
      rw [e1] at hne hends
      refine ⟨?_, hne, hends⟩
      unfold keysE at hk
      rw [if_pos rfl] at hk
      unfold goneL at e1
      apply Classical.byContradiction
      intro hbad
      unfold keysO at hne
      rw [if_pos hg] at hne
      exact hne (if_neg hbad)
    · rw [hg] at h'; cases h'
  · rcases isG_kind hc with ⟨h', -⟩ | ⟨-, hkd⟩
    · rw [hg] at h'; cases h'
    · rw [hkd] at hk hne hends
      have e1 : keysL kData (textO os f.path) = keysR (rowsO os f) := by unfold keysL rowsO; rw [if_neg (by decide), if_neg (by rw [hg]; decide)]
      rw [e1] at hne hends
      refine ⟨?_, hne, hends⟩
      apply Classical.byContradiction
      intro hbad
      unfold rowsO at hne
      rw [if_neg (by rw [hg]; decide)] at hne
      exact hne (by rw [show dataL (textO os f.path) = [] from if_neg hbad]; rfl)
theorem rowsO_range {os : List Ob} {f : Fl} (h : fileE os f = 0) : ∀ r ∈ rowsO os f, f.lo ≤ r.key ∧ r.key ≤ f.hi := by
  intro r hr
  obtain ⟨-, -, h2⟩ := read_known h
  have hg : isG f = false := by
    cases hg : isG f with
    | false => rfl
    | true => unfold rowsO at hr; rw [if_pos hg] at hr; cases hr
  obtain ⟨-, hne, he⟩ := h2 hg
  obtain ⟨-, -, h3⟩ := ends_mem hne
  have := h3 r.key (List.mem_map_of_mem hr)
  rw [he] at this
  exact this
theorem check_near {f : Fl} (h : checkF f = 0) : (-1073741824 ≤ f.lo ∧ f.lo ≤ f.hi ∧ f.hi ≤ 1073741824) ∧ 1 ≤ f.seq ∧ f.seq ≤ 1073741824 ∧ 1 ≤ f.n ∧ f.n ≤ 40 := by
  obtain ⟨k, n, -, -, hb⟩ := checkF_zero h
  unfold boundF farN at hb
  omega
/-- The first file that cannot be read, where the pruned ones are left out. -/
theorem scan_hit {os : List Ob} {files : List Fl} {lo hi : Int} {k : Nat} {f : Fl} (hu : UpF files) (hk : (pruneL files lo hi)[k]? = some f) (hlow : ∀ j < k, ∀ g, (pruneL files lo hi)[j]? = some g → fileE os g = 0) (hf : fileE os f ≠ 0) :
    ∃ i : Nat, findV files f.path = i ∧ firstErr (scanF os lo hi files) files.length = .loc (fileE os f) i := by
  have hul : UpF (pruneL files lo hi) := hu.filter _
  obtain ⟨hk1, hk2⟩ := List.getElem?_eq_some_iff.1 hk
  have hmem : f ∈ pruneL files lo hi := List.mem_of_getElem? hk
  have hm := List.mem_filter.1 hmem
  obtain ⟨i, hi1, hi2⟩ := find_one hu hm.1
  obtain ⟨hi3, hi4⟩ := List.getElem?_eq_some_iff.1 hi2
  refine ⟨i, hi1, ?_⟩
  have hsf : scanF os lo hi files i = fileE os f := by
    unfold scanF
    rw [hi2]
    simp only
    rw [if_neg]
    have := hm.2
    simpa using this
  rw [← hsf]
  refine firstErr_hit hi3 (fun j hj => ?_) (by rw [hsf]; exact hf)
  unfold scanF
  have hj1 : j < files.length := by omega
  rw [List.getElem?_eq_getElem hj1]
  simp only
  split
  · rfl
  · rename_i hp
    have hin : files[j] ∈ pruneL files lo hi := List.mem_filter.2 ⟨List.getElem_mem hj1, by simpa using hp⟩
    obtain ⟨m, hm1, hm2⟩ := List.getElem_of_mem hin
    have hlt := List.pairwise_iff_getElem.1 hu j i hj1 hi3 hj
    rw [hi4] at hlt
    refine hlow m ?_ _ (by rw [List.getElem?_eq_getElem hm1, hm2])
    apply Classical.byContradiction
    intro hge
    rcases Nat.lt_or_eq_of_le (Nat.le_of_not_lt hge) with h' | h'
    · have := List.pairwise_iff_getElem.1 hul k m hk1 hm1 h'
      rw [hk2, hm2] at this
      omega
    · subst h'
      rw [hk2] at hm2
      rw [hm2] at hlt
      omega
theorem scan_fine {os : List Ob} {files : List Fl} {lo hi : Int} (h : ∀ g ∈ pruneL files lo hi, fileE os g = 0) : firstErr (scanF os lo hi files) files.length = .nil := by
  refine firstErr_all fun j hj => ?_
  unfold scanF
  rw [List.getElem?_eq_getElem hj]
  simp only
  split
  · rfl
  · rename_i hp
    exact h _ (List.mem_filter.2 ⟨List.getElem_mem hj, by simpa using hp⟩)
theorem scan_nil {os : List Ob} {files : List Fl} {lo hi : Int} (h : firstErr (scanF os lo hi files) files.length = .nil) : ∀ g ∈ pruneL files lo hi, fileE os g = 0 := by
  intro g hg
  obtain ⟨h1, h2⟩ := List.mem_filter.1 hg
  obtain ⟨i, hi, rfl⟩ := List.getElem_of_mem h1
  have := firstErr_nil h i hi
  unfold scanF at this
  rw [List.getElem?_eq_getElem hi] at this
  simp only at this
  rw [if_neg (by simpa using h2)] at this
  exact this
theorem rowsE_nil {os : List Ob} {s : Sn} {lo hi : Int} (h : rowsE os s lo hi = .nil) : RightSn s ∧ ∀ g ∈ pruneL s.files lo hi, fileE os g = 0 := by
  unfold rowsE at h
  split at h
  · rename_i h1; exact absurd h h1
  · rename_i h1
    exact ⟨(snap_iff s).1 (Decidable.not_not.1 h1), scan_nil h⟩
theorem rowsE_of {os : List Ob} {s : Sn} {lo hi : Int} (h : RightSn s) (h2 : ∀ g ∈ pruneL s.files lo hi, fileE os g = 0) : rowsE os s lo hi = .nil := by
  unfold rowsE
  rw [if_neg (by rw [(snap_iff s).2 h]; simp)]
  exact scan_fine h2
end Go.Proofs.YtpfohfihkmjnaaaGreatDoor
namespace Go.Proofs.YtpfohfihkmjnaaaGreatDoor
open Go.RowKit
abbrev iMin : Int := -9223372036854775808
abbrev iMax : Int := 9223372036854775807
theorem flatMap_filter {α β : Type} {p : α → Bool} {g : α → List β} : ∀ {l : List α}, (∀ x ∈ l, p x = false → g x = []) → (l.filter p).flatMap g = l.flatMap g
  | [], _ => rfl
  | x :: l, h => by
    have ih := flatMap_filter (l := l) fun y hy => h y (by simp [hy])
    cases hp : p x with
    | true => rw [List.filter_cons_of_pos hp, List.flatMap_cons, List.flatMap_cons, ih]
    | false => rw [List.filter_cons_of_neg (by rw [hp]; decide), List.flatMap_cons, h x (by simp) hp, ih]; rfl
theorem flatMap_same {α β : Type} {f g : α → List β} : ∀ {l : List α}, (∀ x ∈ l, f x = g x) → l.flatMap f = l.flatMap g
  | [], _ => rfl
  | x :: l, h => by rw [List.flatMap_cons, List.flatMap_cons, h x (by simp), flatMap_same fun y hy => h y (by simp [hy])]
theorem filter_flatMap {α β : Type} (p : β → Bool) (g : α → List β) : ∀ l : List α, (l.flatMap g).filter p = l.flatMap fun x => (g x).filter p
  | [] => rfl
  | x :: l => by rw [List.flatMap_cons, List.filter_append, filter_flatMap p g l, List.flatMap_cons]
theorem prune_far {l : List Fl} {lo hi : Int} (h : ∀ f ∈ l, checkF f = 0) (h1 : lo ≤ -1073741824) (h2 : 1073741824 ≤ hi) : pruneL l lo hi = l := by
  refine List.filter_eq_self.2 fun f hf => ?_
  have := (check_near (h f hf)).1
  unfold pruneP
  simp only [Bool.not_eq_true', decide_eq_false_iff_not]
  omega
theorem within_far {l : List Rw} {lo hi a b : Int} (h : ∀ r ∈ l, a ≤ r.key ∧ r.key ≤ b) (h1 : lo ≤ a) (h2 : b ≤ hi) : withinR l lo hi = l := by
  refine List.filter_eq_self.2 fun r hr => ?_
  have := h r hr
  simp [withinP]; omega
theorem left_far {os : List Ob} {l : List Fl} {lo hi : Int} {f : Fl} (h : fileE os f = 0) (h1 : lo ≤ -1073741824) (h2 : 1073741824 ≤ hi) : leftO os l lo hi f = (rowsO os f).filter fun x => !killed os l f.seq x.key := by
  have hn := (check_near (read_known h).1).1
  unfold leftO
  rw [within_far (rowsO_range h) (by omega) (by omega)]
theorem allO_full {os : List Ob} {l : List Fl} (h : ∀ f ∈ l, fileE os f = 0) : allO os (pruneL l iMin iMax) iMin iMax = l.flatMap fun f => (rowsO os f).filter fun x => !killed os l f.seq x.key := by
  rw [prune_far (fun f hf => (read_known (h f hf)).1) (by decide) (by decide)]
  exact flatMap_same fun f hm => left_far (h f hm) (by decide) (by decide)
theorem rowsE_full {os : List Ob} {s : Sn} : rowsE os s iMin iMax = .nil ↔ RightSn s ∧ ∀ f ∈ s.files, fileE os f = 0 := by
  constructor
  · intro h
    obtain ⟨hr, hf⟩ := rowsE_nil h
    rw [prune_far hr.lst.ok (by decide) (by decide)] at hf
    exact ⟨hr, hf⟩
  · rintro ⟨hr, hf⟩
    exact rowsE_of hr fun g hg => hf g (List.mem_filter.1 hg).1
theorem rowsL_full {os : List Ob} {s : Sn} (h : rowsE os s iMin iMax = .nil) : rowsL os s iMin iMax = sortR (s.files.flatMap fun f => (rowsO os f).filter fun x => !killed os s.files f.seq x.key) := by
  unfold rowsL
  rw [if_pos h, allO_full (rowsE_full.1 h).2]
theorem rowsO_gone {os : List Ob} {f : Fl} (h : isG f = true) : rowsO os f = [] := if_pos h
theorem keysO_data {os : List Ob} {f : Fl} (h : isG f = false) : keysO os f = [] := if_neg (by rw [h]; decide)
/-- Some files' rows, behind all files of keys. -/
def someF (ps : List Str) (f : Fl) : Bool := isG f || decide (f.path ∈ ps)
theorem rows_some {os : List Ob} {s s' : Sn} (ps : List Str) (h : rowsE os s iMin iMax = .nil) (hr : RightSn s') (hfs : s'.files = s.files.filter (someF ps)) :
    rowsE os s' iMin iMax = .nil ∧ (rowsL os s' iMin iMax).Perm ((s.files.filter fun f => decide (f.path ∈ ps)).flatMap fun f => (rowsO os f).filter fun x => !killed os s.files f.seq x.key) := by
  obtain ⟨-, hfl⟩ := rowsE_full.1 h
  have h1 : rowsE os s' iMin iMax = .nil := rowsE_full.2 ⟨hr, fun g hm => by
    rw [hfs] at hm
    exact hfl g (List.mem_filter.1 hm).1⟩
  refine ⟨h1, ?_⟩
  rw [rowsL_full h1, hfs]
  refine (sort_perm _).trans (List.Perm.of_eq ?_)
  have hk : ∀ q k, killed os (s.files.filter (someF ps)) q k = killed os s.files q k := by
    intro q k
    unfold killed
    rw [Bool.eq_iff_iff, List.any_eq_true, List.any_eq_true]
    constructor
    · rintro ⟨g, hg, h'⟩
      exact ⟨g, (List.mem_filter.1 hg).1, h'⟩
    · rintro ⟨g, hgm, h'⟩
      refine ⟨g, List.mem_filter.2 ⟨hgm, ?_⟩, h'⟩
      cases hg : isG g with
      | true => unfold someF; rw [hg]; rfl
      | false => rw [keysO_data hg] at h'; simp at h'
  simp only [hk]
  have e : (s.files.filter fun f => decide (f.path ∈ ps)) = (s.files.filter (someF ps)).filter fun f => decide (f.path ∈ ps) := by
    rw [List.filter_filter]
    refine List.filter_congr fun f _ => ?_
    unfold someF
    cases isG f <;> cases decide (f.path ∈ ps) <;> rfl
  rw [e, flatMap_filter (p := fun f : Fl => decide (f.path ∈ ps))]
  intro f hm hp
  have hs := (List.mem_filter.1 hm).2
  unfold someF at hs
  rw [hp, Bool.or_false] at hs
  rw [rowsO_gone hs]; rfl
end Go.Proofs.YtpfohfihkmjnaaaGreatDoor
namespace Go.Proofs.YtpfohfihkmjnaaaGreatDoor
open Go.RowKit
theorem near_all {l : List Int} (h : firstErr (farF l) l.length = .nil) : ∀ n ∈ l, ¬ farN n := fun n hn hf => by
  obtain ⟨j, hj, he⟩ := List.getElem_of_mem hn
  have := firstErr_nil h j hj
  unfold farF at this
  rw [List.getElem?_eq_getElem hj, he] at this
  simp only at this
  rw [if_pos hf] at this
  cases this
end Go.Proofs.YtpfohfihkmjnaaaGreatDoor
namespace Go.Proofs.YtpfohfihkmjnaaaGreatDoor
open Go.RowKit
theorem at_take {α : Type} {enc : α → List Value} {sz : Nat} {w : World} {a : Option Addr} {n c : Nat} {l : List α} (h : At enc sz w (.slice a n c) l) {k : Nat} (hk : k ≤ l.length) : At enc sz w (.slice a k c) (l.take k) := by
  obtain ⟨a', c', b, o, hv, ha, hc, hm, hx⟩ := h
  cases hv
  have hl : (l.take k).length = k := by rw [List.length_take]; omega
  refine ⟨a, c, b, o, by rw [hl], fun h0 => ha (by omega), by omega, hm, fun i x hi j u hu => hx i x ?_ j u hu⟩
  rw [List.getElem?_take] at hi
  split at hi
  · exact hi
  · cases hi
/-- s[:k] and s[k:] of a slice. -/
theorem sl_to {α : Type} {P : Program} {t e : TypeId} {enc : α → List Value} {sz : Nat} {w : World} {a : Option Addr} {c : Nat} {l : List α} (ht : P.underlying t = some (.slice e)) (hsz : ∀ w, (sizeOf e).run P w = .ok sz w) (h : At enc sz w (.slice a l.length c) l) (k : Nat) (hk : k ≤ l.length) :
    (∀ W, (Instr.slice t (.slice a l.length c) none (some (.int .i64 (k : Int))) none).run P W = .ok (.slice a k c) W) ∧ At enc sz w (.slice a k c) (l.take k) := by
  refine ⟨fun W => ?_, at_take h hk⟩
  have hc : l.length ≤ c := by obtain ⟨_, _, _, _, hv, _, hc, _⟩ := h; cases hv; exact hc
  have h2 : (k : Int) ≤ (c : Int) := by omega
  cases a with
  | none => simp [Instr.slice, Instr.sliceBounds, run_underlying ht, hsz, go_sem, h2]
  | some ad =>
    simp [Instr.slice, Instr.sliceBounds, run_underlying ht, hsz, go_sem, h2]
theorem sl_from {α : Type} {P : Program} {t e : TypeId} {enc : α → List Value} {sz : Nat} {w : World} {a : Option Addr} {c : Nat} {l : List α} (ht : P.underlying t = some (.slice e)) (hsz : ∀ w, (sizeOf e).run P w = .ok sz w) (h : At enc sz w (.slice a l.length c) l) (k : Nat) (hk : k ≤ l.length) :
    ∃ a2 c2, (∀ W, (Instr.slice t (.slice a l.length c) (some (.int .i64 (k : Int))) none none).run P W = .ok (.slice a2 (l.length - k) c2) W) ∧ At enc sz w (.slice a2 (l.length - k) c2) (l.drop k) := by
  obtain ⟨a', c', b, o, hv, ha, hc, hm, hx⟩ := h
  cases hv
  rcases Nat.eq_zero_or_pos l.length with h0 | h0
  · have hk0 : k = 0 := by omega
    subst hk0
    refine ⟨a, c, fun W => ?_, ⟨a, c, b, o, by rw [List.length_drop], fun h => absurd h (by rw [List.length_drop]; omega), by rw [List.length_drop]; omega, hm, fun j y hj => absurd (List.getElem?_eq_some_iff.1 hj).1 (by rw [List.length_drop]; omega)⟩⟩
    have h3 : (0 : Int) ≤ (c : Int) := by omega
    cases a with
    | none => simp [Instr.slice, Instr.sliceBounds, run_underlying ht, hsz, go_sem, h0]
    | some ad =>
      have h0' : ad.add 0 = ad := by unfold Addr.add; split <;> simp_all
      simp [Instr.slice, Instr.sliceBounds, run_underlying ht, hsz, go_sem, h0, h0']
  · obtain rfl := ha h0
    have hadd : (⟨b, o, none⟩ : Addr).add (k * sz) = ⟨b, o + k * sz, none⟩ := by unfold Addr.add; split <;> simp_all
    by_cases h : c = k
    · refine ⟨some ⟨b, o, none⟩, c - k, fun W => ?_, ?_⟩
      · have hk' : (k : Int) ≤ l.length := by omega
        simp [Instr.slice, Instr.sliceBounds, run_underlying ht, hsz, hk, h, go_sem]
      · have hl : l.length = k := by omega
        refine ⟨_, c - k, b, o, by rw [List.length_drop], fun _ => rfl, by simp; omega, by omega, fun i x hi j u hu => ?_⟩
        rw [List.drop_of_length_le (by omega)] at hi; simp at hi
    · refine ⟨some ⟨b, o + k * sz, none⟩, c - k, fun W => ?_, ?_⟩
      · have hk' : (k : Int) ≤ l.length := by omega
        simp [Instr.slice, Instr.sliceBounds, run_underlying ht, hsz, hk, h, go_sem]
      · refine ⟨_, c - k, b, o + k * sz, by rw [List.length_drop], fun _ => rfl, by simp; omega, by omega, fun i x hi j u hu => ?_⟩
        rw [List.getElem?_drop] at hi
        have := hx (k + i) x hi j u hu
        rwa [show o + k * sz + i * sz + j = o + (k + i) * sz + j by rw [Nat.add_mul]; omega]
end Go.Proofs.YtpfohfihkmjnaaaGreatDoor
namespace Go.Proofs.YtpfohfihkmjnaaaGreatDoor
open Go.RowKit
set_option maxHeartbeats 2000000 in
set_option maxRecDepth 20000 in
theorem risingOf_any (v : Value) (l : List Int) (w : World) (hl : IntsAt w v l) (hn : l.length ≤ 10000) :
    Calls Tryz.prog 76 #[v] w fun e w' => ∃ v', e = .returned v' ∧ IntsAt w' v' (risOf l) ∧ Below w.heap.size w w' := by
  obtain ⟨a, c, b, o, rfl, ha, hc, hcm, hx⟩ := hl
  unfold maxLen at hcm
  go_enter Tryz.func76, Tryz.ntmps76
  go_wp2_with fail
  go_loopw [3, 4] (fun u i wr => ∃ (k : Nat) (q : List Int), k ≤ l.length ∧ i = .int .i64 k ∧ Hid (q = risOf (l.take k)) ∧ q.length ≤ k ∧ IntsAt wr u q ∧ Below w.heap.size w wr) (fun _ i _ => l.length - (intOf i).toNat)
  case atStart => exact ⟨0, [], by omega, rfl, Lib.hid rfl, by simp, At.nil _ _ _, Below.refl _ _⟩
  case round =>
    obtain ⟨k, q, hk, rfl, hq, hql, hu, hb⟩ := hrel
    obtain ⟨wo, rfl⟩ : ∃ wo, wo = wr := ⟨wr, rfl⟩
    by_cases hlt : k < l.length
    case neg =>
      obtain rfl : k = l.length := by omega
      have f : decide ((l.length : Int) < (l.length : Int)) = false := by simp
      have HE : Hid (q = risOf l) := Lib.hid (by rw [hq.out, List.take_length])
      clear hql
      go_wp2_with fail
      go_ret
      exact ⟨_, rfl, by rw [← HE.out]; exact hu, hb⟩
    obtain ⟨x, hxk⟩ := get_ex hlt
    have CX := Lib.hid (fun W (h : Below w.heap.size w W) => (h.cell (World.block_lt_of_cell? w _ (hx k x hxk 0 _ rfl))).trans (hx k x hxk 0 _ rfl))
    have i1 := idx_at (c := c) 1 Tryz.underlying69 szInt ha k hlt
    simp only [Nat.mul_one, Nat.add_zero] at CX i1
    have hk1 : (k : Int) < (l.length : Int) := by omega
    have HQ2 : Hid (risOf (l.take (k + 1)) = withI q x) := Lib.hid (by rw [take_snoc' hxk, risOf_snoc, hq.out])
    have HU := Lib.hid hu
    obtain ⟨au, cu, bu, ou, rfl, hau, hcu, hcmu, hxu⟩ := hu
    unfold maxLen at hcmu
    have CQ := Lib.hid (fun p y (hy : q[p]? = some y) W (h : Below wo.heap.size wo W) => (h.cell (World.block_lt_of_cell? wo _ (hxu p y hy 0 _ rfl))).trans (hxu p y hy 0 _ rfl))
    simp only [Nat.mul_one, Nat.add_zero] at CQ
    clear hq hxk hxu
    go_upto_block 2 with fail
    go_cut [5] (fun u wx => ∃ p : Nat, u = .int .i64 p ∧ p ≤ q.length ∧ (∀ j < p, ∀ y, q[j]? = some y → y < x) ∧ (∀ y, q[p]? = some y → x ≤ y) ∧ Below wo.heap.size wo wx)
    case first =>
      go_wp2_with fail
      go_loopw [5] (fun u wx => ∃ p : Nat, u = .int .i64 p ∧ p ≤ q.length ∧ Hid (∀ j < p, ∀ y, q[j]? = some y → y < x) ∧ Below wo.heap.size wo wx) (fun i _ => q.length - (intOf i).toNat)
      case atStart => exact ⟨0, rfl, by omega, Lib.hid fun j hj => absurd hj (by omega), Below.refl _ _⟩
      case round =>
        obtain ⟨p, rfl, hp, hj, hbx⟩ := hrel
        by_cases hpl : p < q.length
        case neg =>
          have f : decide ((p : Int) < (q.length : Int)) = false := by simp; omega
          go_wp2_with fail
          go_quiet (fail)
          go_wp2_with fail
          go_meet
          refine ⟨p, rfl, hp, hj.out, fun y hy => ?_, Bdn hbx _⟩
          rw [List.getElem?_eq_none (by omega)] at hy
          cases hy
        obtain ⟨y, hy⟩ := get_ex hpl
        have q0 := CQ.out p y hy _ hbx
        have c0 := CX.out _ (hb.trans (hbx.mono hb.size))
        have i2 := idx_at (c := cu) 1 Tryz.underlying69 szInt hau p hpl
        simp only [Nat.mul_one] at i2
        have f : (p : Int) < (q.length : Int) := by omega
        have HY := Lib.hid hy
        clear hy
        by_cases hyx : y < x
        case pos =>
          have HYX := Lib.hid hyx
          go_wp2_with fail
          go_quiet (fail)
          go_wp2_with fail
          go_roundw
          case rel => exact ⟨p + 1, by go_num, by omega, (Lib.hid fun j hj' z hz => by
            rcases Nat.lt_or_ge j p with h | h
            · exact hj.out j h z hz
            · obtain rfl : j = p := by omega
              rw [HY.out] at hz
              cases hz
              exact HYX.out), Bdn hbx _⟩
          case measure => simp [intOf]; omega
        · have gyx : decide (y < x) = false := by simpa using hyx
          have HYX := Lib.hid hyx
          clear hyx
          go_wp2_with fail
          go_quiet (fail)
          go_wp2_with fail
          go_meet
          refine ⟨p, rfl, hp, hj.out, fun z hz => ?_, Bdn hbx _⟩
          rw [HY.out] at hz
          cases hz
          have := HYX.out
          omega
    case rest =>
      obtain ⟨p, rfl, hp, hlow, hhi, hbx⟩ := hcut
      have HW := Lib.hid (withI_at hp hlow hhi)
      clear hlow hhi
      have hbW := hb.trans (hbx.mono hb.size)
      by_cases hin : q[p]? = some x
      case pos =>
        have hpl := (List.getElem?_eq_some_iff.1 hin).1
        have q0 := CQ.out p x hin _ hbx
        have c0 := CX.out _ hbW
        have i2 := idx_at (c := cu) 1 Tryz.underlying69 szInt hau p hpl
        simp only [Nat.mul_one] at i2
        have f : (p : Int) < (q.length : Int) := by omega
        have HS : Hid (q = risOf (l.take (k + 1))) := Lib.hid (by rw [HQ2.out, HW.out, if_pos hin])
        clear hin
        go_wp2_with fail
        go_quiet (fail)
        go_wp2_with fail
        go_roundw
        case rel => exact ⟨k + 1, q, by omega, by go_num, HS, by omega, (HU.out.below hbx).below (Bdn (Below.refl _ _) _), Bdn hbW _⟩
        case measure => simp [intOf]; omega
      have HIns : Hid (withI q x = q.take p ++ x :: q.drop p) := Lib.hid (by rw [HW.out, if_neg hin])
      have HIn := Lib.hid hin
      obtain ⟨hs1, hsA⟩ := sl_to (P := Tryz.prog) Tryz.underlying69 szInt HU.out p hp
      obtain ⟨a2, c2, hs2, hsB⟩ := sl_from (P := Tryz.prog) Tryz.underlying69 szInt HU.out p hp
      have hlt1 : (q.take p).length = p := by rw [List.length_take]; omega
      have hld1 : (q.drop p).length = q.length - p := List.length_drop
      have HLT := Lib.hid hlt1; have HLD := Lib.hid hld1
      clear hin HW
      by_cases hpl : p < q.length
      case' pos =>
        obtain ⟨y, hy⟩ := get_ex hpl
        have q0 := CQ.out p y hy _ hbx
        have c0 := CX.out _ hbW
        have i2 := idx_at (c := cu) 1 Tryz.underlying69 szInt hau p hpl
        simp only [Nat.mul_one] at i2
        have f : (p : Int) < (q.length : Int) := by omega
        have gne : (y == x) = false := by
          simp only [beq_eq_false_iff_ne, ne_eq]
          intro e
          exact HIn.out (by rw [hy, e])
        clear hy
        go_wp2_with fail
        go_quiet (fail)
        obtain ⟨wz, hwz⟩ : ∃ wz, wz = wc.drewN nq := ⟨_, rfl⟩
        have hbz : Below wo.heap.size wo wz := by rw [hwz]; exact Bdn hbx _
        rw [← hwz]
        clear hwz q0 c0
      case' neg =>
        have f : decide ((p : Int) < (q.length : Int)) = false := by simp; omega
        obtain ⟨wz, hwz⟩ : ∃ wz, wz = wc := ⟨_, rfl⟩
        have hbz : Below wo.heap.size wo wz := by rw [hwz]; exact hbx
        rw [← hwz]
        clear hwz
      all_goals
        have hbWz := hb.trans (hbz.mono hb.size)
        have hat1 := hsA.below hbz
        have hsrc1 := hat1.src encI_enc (by decide)
        rw [hlt1] at hsrc1
        have HB := Lib.hid (hsB.below hbz)
        clear hsA hsB hat1 hlt1 hld1
        go_wp2_with (first
          | (at_builtin; refine wpList_app rfl _ _ _ rfl wz.heap.size elInt (.slice none 0 0) 0 [] rfl (Own.nil encI _ 1 _ _) _ _ _ rfl hsrc1 (by unfold maxLen; omega) (by omega) (Nat.le_refl _) ?_; intro v1 w2 hown1 hg1 _; have hown1' : Own encI 3 1 wz.heap.size w2 v1 (q.take p) := (by unfold Own; rw [HLT.out]; simpa using hown1); have hb2 : Below wz.heap.size wz w2 := (Below.refl _ _).grown hg1 (Nat.le_refl _) (fun k hk => by cases hk); have c0 := CX.out _ (hbWz.trans (hb2.mono hbWz.size)); clear hown1 hg1 hsrc1)
          | (at_builtin; refine wpList_app rfl _ _ _ rfl wz.heap.size elInt v1 (q.take p).length _ rfl (hown1'.alloc _) (.slice (some ⟨w2.heap.size, 0, none⟩) 1 1) 1 (encI x) rfl (src_one rfl rfl (by simp [Value.oneCell'])) (by rw [HLT.out]; unfold maxLen; omega) (by rw [HLT.out]; omega) (by have := hb2.size; simp; omega) ?_; intro v2 w3 hown2 hg2 _; have hown2' := Own.snoc hown2; have hb3 : Below wz.heap.size wz w3 := (Bapp (hb2.alloc hb2.size _) (hown1'.alloc _) hg2 (Nat.le_refl _) (by have := hb2.size; simp; omega)); have hsrc3 := (HB.out.below hb3).src encI_enc (by decide); rw [HLD.out] at hsrc3; have hl3 : (q.take p ++ [x]).length = p + 1 := (by rw [List.length_append, HLT.out]; rfl); have HL3 := Lib.hid hl3; clear hown2 hg2 c0 hl3)
          | (at_builtin; refine wpList_app rfl _ _ _ rfl wz.heap.size elInt v2 (q.take p ++ [x]).length _ rfl hown2' _ _ _ rfl hsrc3 (by rw [HL3.out]; unfold maxLen; omega) (by rw [HL3.out]; omega) hb3.size ?_; intro v3 w4 hown3 hg3 _))
        have hown3' : Own encI 3 1 wz.heap.size w4 v3 (withI q x) := by
          rw [HIns.out, show q.take p ++ x :: q.drop p = (q.take p ++ [x]) ++ q.drop p by simp]
          unfold Own
          rw [List.length_append, List.flatMap_append, HLD.out]
          exact hown3
        have hb4 := Bapp hb3 hown2' hg3 (Nat.le_refl _) hb3.size
        have hbw4 := hbWz.trans (hb4.mono hbWz.size)
        go_roundw
        case rel => exact ⟨k + 1, withI q x, by omega, by go_num, Lib.hid HQ2.out.symm, by have := withI_len q x; omega, hown3'.at encI_enc, hbw4⟩
        case measure => simp [intOf]; omega
end Go.Proofs.YtpfohfihkmjnaaaGreatDoor
namespace Go.Proofs.YtpfohfihkmjnaaaGreatDoor
open Go.RowKit
end Go.Proofs.YtpfohfihkmjnaaaGreatDoor
namespace Go.Proofs.YtpfohfihkmjnaaaGreatDoor
open Go.RowKit
end Go.Proofs.YtpfohfihkmjnaaaGreatDoor
namespace Go.Proofs.YtpfohfihkmjnaaaGreatDoor
open Go.RowKit
end Go.Proofs.YtpfohfihkmjnaaaGreatDoor
