/- 'deedboxlaw1.FileTells' returns true at every input: paths, what is known of files, its text and what is known of a file's text are as the document's answer has them, at anything known and any texts. Condition: the package-level variables read as the program's text lays them; the card ties that. -/
import Derived.Test.YtpiflhhppigdfaaGreatDoorBx16
import Derived.Test.YtpiflhhppigdfaaGreatDoorBx21
import Derived.Test.YtpiflhhppigdfaaGreatDoorBx11
import Derived.Test.YtpiflhhppigdfaaGreatDoorBx7
import Derived.Deep.RegionHeld3
import Derived.Deep.RegionWith
import Derived.Deep.DeepCutAuto
import Derived.Test.YtpiflhhppigdfaaGreatDoorRows
import Derived.Test.YtpiflhhppigdfaaGreatDoorCards
import Derived.Test.YtpiflhhppigdfaaGreatDoorTie
import Derived.Test.YtpiflhhppigdfaaGreatDoorBx17
import Derived.LaidOnce
import Derived.SevenTiedAt
namespace Go.Proofs.YtpiflhhppigdfaaGreatDoor
open Go.RowKit

theorem fileText_bad {f : Fl} (h : checkF f ≠ 0) : fileText f = [] := if_neg h
theorem fileText_fine {f : Fl} (h : checkF f = 0) : fileText f = fileLine f := if_pos h
set_option maxHeartbeats 1000000 in
set_option maxRecDepth 20000 in
theorem refFileTextAll_any (f : Fl) (w : World) (hs : midF f) :
    Calls Tryz.prog 21 #[fileV f] w fun e w' => e = .returned (S (fileText f)) ∧ Below w.heap.size w w' := by
  by_cases hc : checkF f = 0
  case pos =>
    rw [fileText_fine hc]
    exact refFileText_any f w hs hc
  rw [fileText_bad hc]
  have hb0 : Below w.heap.size w (w.alloc (.cells #[S f.path, S f.part, .int .i64 f.n, .int .i64 f.lo, .int .i64 f.hi, .int .i64 f.seq] 23)) := (Below.refl _ _).alloc (Nat.le_refl _) _
  obtain ⟨c0, c1, c2, c3, c4, c5⟩ := fileCells (f := f) (w := w) rfl (Below.refl _ _)
  have HFe := Lib.hid (fun W => fileError_any f W hs)
  obtain ⟨ce, hce⟩ : ∃ ce, checkF f = ce := ⟨_, rfl⟩
  rw [hce] at HFe hc
  have g1 : (0 : Int) < (ce : Int) := by omega
  have g2 : 0 < ce := by omega
  clear hce hc
  go_enter Tryz.func21, Tryz.ntmps21
  go_wp2_with fail
  generalize w.alloc (.cells #[S f.path, S f.part, .int .i64 f.n, .int .i64 f.lo, .int .i64 f.hi, .int .i64 f.seq] 23) = w0 at *
  refine (HFe.out w0).mono ?_
  rintro e w1 ⟨rfl, hb1⟩
  go_wp2_with fail
  go_ret
  exact ⟨rfl, hb0.trans (hb1.mono hb0.size)⟩

set_option maxHeartbeats 8000000 in
set_option maxRecDepth 20000 in
theorem fileTells_any (E : Nat → Addr) (B : Nat) (f : Fl) (s tx : Str) (w : World) (hE : Errs allE E B w) (hA : AsVar w) (hgB : 12 < B) (hT : LNum B w) (hM : LMax B w) :
    Calls Tryz.prog 3 #[fileV f, S s, S tx] w fun e w' => e = .returned (.bool true) ∧ Below w.heap.size w w' := by
  have hBw := hE.le
  have hif := isIfaceE
  have X := Lib.hid (fun W (h : Below w.heap.size w W) => (⟨hE.below' h hBw, hA.below (h.mono hBw) hgB, hT.below' h hBw, hM.below' h hBw⟩ : Errs allE E B W ∧ AsVar W ∧ LNum B W ∧ LMax B W))
  have hba : Below w.heap.size w (w.alloc (.cells #[S f.path, S f.part, .int .i64 f.n, .int .i64 f.lo, .int .i64 f.hi, .int .i64 f.seq] 23)) := (Below.refl _ _).alloc (Nat.le_refl _) _
  have CF := Lib.hid (fun W (h : Below (w.alloc (.cells #[S f.path, S f.part, .int .i64 f.n, .int .i64 f.lo, .int .i64 f.hi, .int .i64 f.seq] 23)).heap.size (w.alloc (.cells #[S f.path, S f.part, .int .i64 f.n, .int .i64 f.lo, .int .i64 f.hi, .int .i64 f.seq] 23)) W) => fileCells (f := f) (w := w) rfl h)
  go_enter Tryz.func3, Tryz.ntmps3
  go_upto_region 1 with fail
  generalize w.alloc (.cells #[S f.path, S f.part, .int .i64 f.n, .int .i64 f.lo, .int .i64 f.hi, .int .i64 f.seq] 23) = w0 at *
  have HKn := Lib.hid (known_any E B w0 ((X.out _ hba).1.sub (by decide)) (X.out _ hba).2.2.1 (X.out _ hba).2.2.2)
  go_wp2_with fail
  refine HKn.out.mono ?_
  rintro e w1 ⟨rfl, hb1⟩
  obtain ⟨c0, c1, c2, c3, c4, c5⟩ := CF.out _ hb1
  go_wp2_with fail
  refine (longFile_any f w1).mono ?_
  rintro e w2 ⟨rfl, hb2⟩
  have hb02 := hb1.trans (hb2.mono hb1.size)
  have hbw2 := hba.trans (hb02.mono hba.size)
  clear c0 c1 c2 c3 c4 c5
  by_cases hsh : shortF f
  case neg =>
    rw [if_neg hsh]
    go_wp2_with fail
    go_ret
    exact ⟨rfl, hbw2⟩
  rw [if_pos hsh]
  by_cases hs : s.length ≤ 100
  case neg =>
    have g1 : (100 : Int) < (s.length : Int) := by omega
    go_wp2_with fail
    go_ret
    exact ⟨rfl, hbw2⟩
  have g1 : decide ((100 : Int) < (s.length : Int)) = false := by simp; omega
  by_cases ht : tx.length ≤ 1500
  case neg =>
    have g2 : (1500 : Int) < (tx.length : Int) := by omega
    clear hs
    go_wp2_with fail
    go_ret
    exact ⟨rfl, hbw2⟩
  have g2 : decide ((1500 : Int) < (tx.length : Int)) = false := by simp; omega
  have hmid : midF f := hsh.mid
  have HNm := Lib.hid (fun W (h : Below w.heap.size w W) => fileNumber_any E B f.path W ((X.out _ h).1.sub (by decide)) (X.out _ h).2.2.1 (X.out _ h).2.2.2 hmid.1)
  have HPo := Lib.hid (fun W => pathOf_any f.path W hmid.1)
  have HCk := Lib.hid (fun W (h : Below w.heap.size w W) => fileCheck_any E B f W ((X.out _ h).1.sub (by decide)) (X.out _ h).2.2.1 (X.out _ h).2.2.2 hmid)
  have HFe := Lib.hid (fun W => fileError_any f W hmid)
  have HTx := Lib.hid (fun W (h : Below w.heap.size w W) => fileText_any E B f W ((X.out _ h).1.sub (by decide)) (X.out _ h).2.2.1 (X.out _ h).2.2.2 hmid)
  have HRt := Lib.hid (fun W => refFileTextAll_any f W hmid)
  have HRd := Lib.hid (fun W (h : Below w.heap.size w W) => fileRead_any E B s W ((X.out _ h).1.sub (by decide)) (X.out _ h).2.2.1 (X.out _ h).2.2.2 (by omega))
  have HRr := Lib.hid (fun W => refReadFile_any s W (by omega))
  have HOf := Lib.hid (fun W (h : Below w.heap.size w W) => fileOf_any E B f.path f.part tx f.seq W ((X.out _ h).1.sub (by decide)) (X.out _ h).2.2.1 (X.out _ h).2.2.2 hmid.1 hmid.2 (.inl (by omega)) (by omega))
  have HRo := Lib.hid (fun W => refOfText_any f.path f.part tx f.seq W hmid.1 hmid.2 (.inl (by omega)) (by omega))
  unfold OfPost at HOf
  unfold RofPost at HRo
  have hpe : ∃ pe : Nat, pathE f.path = (pe : Int) ∧ (if (pathF f.path).isSome then Er.nil else Er.bare 5) = erOf pe := by
    unfold pathE
    cases pathF f.path with
    | none => exact ⟨5, rfl, rfl⟩
    | some _ => exact ⟨0, rfl, rfl⟩
  obtain ⟨pe, hpe1, hpe2⟩ := hpe
  rw [hpe1] at HPo
  rw [hpe2] at HNm
  have hce : ∀ W ev, ErV E W ev (fileEr f) → ErV E W ev (erOf (checkF f)) := fun W ev h => h
  have HCe := Lib.hid hce
  generalize checkF f = ce at *
  generalize fileText f = ft at *
  generalize numF f.path = nm at *
  clear hpe1 hpe2 hce hs ht hsh hmid hE hA hT hM
  obtain ⟨c0, c1, c2, c3, c4, c5⟩ := CF.out _ hb02
  go_wp2_with fail
  refine (HNm.out _ hbw2).mono ?_
  rintro e w3 ⟨ev, rfl, hev, hb3⟩
  have hb03 := hb02.trans (hb3.mono hb02.size)
  have hbw3 := hba.trans (hb03.mono hba.size)
  have HEv := Lib.hid hev
  clear c0 c1 c2 c3 c4 c5 hev
  obtain ⟨c0, c1, c2, c3, c4, c5⟩ := CF.out _ hb03
  go_wp2_with fail
  refine (HPo.out _).mono ?_
  rintro e wx ⟨rfl, rfl⟩
  have gn : (nm != nm) = false := by simp
  have gk : (kindF f.path != kindF f.path) = false := by simp
  have gt : (ft != ft) = false := by simp
  have hb03D : Below w0.heap.size w0 w3.drew := hb03.drew
  have hbw3D : Below w.heap.size w w3.drew := hbw3.drew
  have HEvD : Hid (ErV E w3.drew ev (erOf pe)) := Lib.hid (HEv.out.below (Below.refl w3.heap.size w3).drew)
  clear c0 c1 c2 c3 c4 c5
  obtain ⟨c0, c1, c2, c3, c4, c5⟩ := CF.out _ hb03D
  go_upto_if 77 with fail
  go_cut [77] (fun u wx => u = .bool false ∧ Below w0.heap.size w0 wx)
  case first =>
    go_wp2_with fail
    first
      | go_region_held3 (fun w' => w'.cell? ⟨w.heap.size, 0, none⟩ = some (S f.path) ∧ w'.cell? ⟨w.heap.size, 1, none⟩ = some (S f.part) ∧ w'.cell? ⟨w.heap.size, 2, none⟩ = some (.int .i64 f.n) ∧ w'.cell? ⟨w.heap.size, 3, none⟩ = some (.int .i64 f.lo) ∧ w'.cell? ⟨w.heap.size, 4, none⟩ = some (.int .i64 f.hi) ∧ w'.cell? ⟨w.heap.size, 5, none⟩ = some (.int .i64 f.seq)) (exact ⟨c0, c1, c2, c3, c4, c5⟩) (first
          | (go_at_call 17; (with_reducible refine (codedT1_any E B pe _ _ (X.out _ hbw3D).1 (X.out _ hbw3D).2.1 HEvD.out).mono ?_); rintro e w4 ⟨rfl, hb4⟩; have hb04 := hb03D.trans (hb4.mono hb03D.size); have hbw4 := hbw3D.trans (hb4.mono hbw3D.size); clear c0 c1 c2 c3 c4 c5 hb4; obtain ⟨c0, c1, c2, c3, c4, c5⟩ := CF.out _ hb04)
          | (go_at_call 18; (with_reducible refine (HCk.out _ hbw4).mono ?_); rintro e w5 ⟨ev5, rfl, hev5, hb5⟩; have hb05 := hb04.trans (hb5.mono hb04.size); have hbw5 := hbw4.trans (hb5.mono hbw4.size); have HEv5 := Lib.hid (HCe.out _ _ hev5); clear c0 c1 c2 c3 c4 c5 hev5 hb5; obtain ⟨c0, c1, c2, c3, c4, c5⟩ := CF.out _ hb05)
          | (go_at_call 19; (with_reducible refine (HFe.out _).mono ?_); rintro e w6 ⟨rfl, hb6⟩; have hb06 := hb05.trans (hb6.mono hb05.size); have hbw6 := hbw5.trans (hb6.mono hbw5.size); have HEv6 := Lib.hid (HEv5.out.below hb6); clear c0 c1 c2 c3 c4 c5 hb6; obtain ⟨c0, c1, c2, c3, c4, c5⟩ := CF.out _ hb06)
          | (go_at_call 17; (with_reducible refine (codedT1_any E B ce _ _ (X.out _ hbw6).1 (X.out _ hbw6).2.1 HEv6.out).mono ?_); rintro e w7 ⟨rfl, hb7⟩; have hb07 := hb06.trans (hb7.mono hb06.size); have hbw7 := hbw6.trans (hb7.mono hbw6.size); clear c0 c1 c2 c3 c4 c5 hb7; obtain ⟨c0, c1, c2, c3, c4, c5⟩ := CF.out _ hb07)
          | (go_at_call 20; (with_reducible refine (HTx.out _ hbw7).mono ?_); rintro e w8 ⟨rfl, hb8⟩; have hb08 := hb07.trans (hb8.mono hb07.size); have hbw8 := hbw7.trans (hb8.mono hbw7.size); clear c0 c1 c2 c3 c4 c5 hb8; obtain ⟨c0, c1, c2, c3, c4, c5⟩ := CF.out _ hb08)
          | (go_at_call 21; (with_reducible refine (HRt.out _).mono ?_); rintro e w9 ⟨rfl, hb9⟩; have hb09 := hb08.trans (hb9.mono hb08.size); clear c0 c1 c2 c3 c4 c5 hb9; obtain ⟨c0, c1, c2, c3, c4, c5⟩ := CF.out _ hb09))
      | fail
    all_goals
      go_wp2_with fail
      go_meet
      exact ⟨rfl, hb09⟩
  case rest =>
    obtain ⟨rfl, hb4⟩ := hcut
    obtain ⟨w4, rfl⟩ : ∃ w4, w4 = wc := ⟨wc, rfl⟩
    have hbw4 := hba.trans (hb4.mono hba.size)
    clear c0 c1 c2 c3 c4 c5 HEvD hbw3D hb03D HEv HCk HFe HTx HRt HCe HNm HPo gn gk gt hbw3 hb03
    obtain ⟨fr, hfr⟩ : ∃ fr, fileRead s = fr := ⟨_, rfl⟩
    obtain ⟨ot, hot⟩ : ∃ ot, ofText f.path f.part tx f.seq = ot := ⟨_, rfl⟩
    rw [hfr] at HRd HRr
    rw [hot] at HOf HRo
    obtain ⟨x, cx⟩ := fr
    obtain ⟨y, cy⟩ := ot
    clear hfr hot
    go_wp2_with fail
    refine (HRd.out _ hbw4).mono ?_
    rintro e w5 ⟨ev5, rfl, hev5, hb5⟩
    have hb05 := hb4.trans (hb5.mono hb4.size)
    have hbw5 := hba.trans (hb05.mono hba.size)
    have HEv5 := Lib.hid hev5
    clear hev5 hb5
    have hb6 : Below w5.heap.size w5 (w5.alloc (.cells #[S x.path, S x.part, .int .i64 x.n, .int .i64 x.lo, .int .i64 x.hi, .int .i64 x.seq] 23)) := (Below.refl _ _).alloc (Nat.le_refl _) _
    have hX := heap_alloc_new w5 (.cells #[S x.path, S x.part, .int .i64 x.n, .int .i64 x.lo, .int .i64 x.hi, .int .i64 x.seq] 23)
    have HEv6 := Lib.hid (HEv5.out.below hb6)
    have hb06 := hb05.trans (hb6.mono hb05.size)
    have hbw6 := hba.trans (hb06.mono hba.size)
    obtain ⟨G, hG⟩ : ∃ G, w5.heap.size = G := ⟨_, rfl⟩
    have hwG : w0.heap.size ≤ G := by rw [← hG]; exact hb05.size
    rw [hG] at hX
    go_upto_region 9 with fail
    generalize w5.alloc (.cells #[S x.path, S x.part, .int .i64 x.n, .int .i64 x.lo, .int .i64 x.hi, .int .i64 x.seq] 23) = w6 at *
    try rw [hG]
    have HX := Lib.hid hX
    clear hX hG hb6
    go_wp2_with fail
    refine (HRr.out w6).mono ?_
    rintro e w7 ⟨rfl, hb7⟩
    have hb8 : Below w7.heap.size w7 (w7.alloc (.cells #[S x.path, S x.part, .int .i64 x.n, .int .i64 x.lo, .int .i64 x.hi, .int .i64 x.seq] 23)) := (Below.refl _ _).alloc (Nat.le_refl _) _
    have hY := heap_alloc_new w7 (.cells #[S x.path, S x.part, .int .i64 x.n, .int .i64 x.lo, .int .i64 x.hi, .int .i64 x.seq] 23)
    have hb68 := hb7.trans (hb8.mono hb7.size)
    have hb08 := hb06.trans (hb68.mono hb06.size)
    have hbw8 := hba.trans (hb08.mono hba.size)
    have HEv8 := Lib.hid (HEv6.out.below hb68)
    have HX8 := Lib.hid (rowKept HX.out hb68)
    obtain ⟨H, hH⟩ : ∃ H, w7.heap.size = H := ⟨_, rfl⟩
    have hGl := (Array.getElem?_eq_some_iff.1 HX.out).1
    have hGH : G < H := by rw [← hH]; exact Nat.lt_of_lt_of_le hGl hb7.size
    rw [hH] at hY
    go_upto_region 10 with fail
    generalize w7.alloc (.cells #[S x.path, S x.part, .int .i64 x.n, .int .i64 x.lo, .int .i64 x.hi, .int .i64 x.seq] 23) = w8 at *
    try rw [hH]
    have HY8 := Lib.hid hY
    clear hY hH hb8 hb7 hb68 HX HEv6 HEv5 hGl
    have hq := fl_neq x x
    simp only [decide_true, Bool.not_true] at hq
    have hgd := fl_guard
    have HC8 := Lib.hid (codedT1_any E B cx ev5 w8 (X.out _ hbw8).1 (X.out _ hbw8).2.1 HEv8.out)
    go_wp2_with fail
    refine HC8.out.mono ?_
    rintro e w9 ⟨rfl, hb89⟩
    have hb09 := hb08.trans (hb89.mono hb08.size)
    have hbw9 := hba.trans (hb09.mono hba.size)
    have HX9 := Lib.hid (rowKept HX8.out hb89)
    have HY9 := Lib.hid (rowKept HY8.out hb89)
    obtain ⟨x0, x1, x2, x3, x4, x5⟩ := rowF6 HX9.out
    obtain ⟨y0, y1, y2, y3, y4, y5⟩ := rowF6 HY9.out
    clear HEv8 HC8 HX8 HY8
    obtain ⟨c0, c1, c2, c3, c4, c5⟩ := CF.out _ hb09
    go_wp2_with fail
    clear x0 x1 x2 x3 x4 x5 y0 y1 y2 y3 y4 y5 hq
    refine (HOf.out _ hbw9).mono ?_
    rintro e wa ⟨eva, rfl, heva, hba9⟩
    have hb0a := hb09.trans (hba9.mono hb09.size)
    have hbwa := hba.trans (hb0a.mono hba.size)
    have HXa := Lib.hid (rowKept HX9.out hba9)
    have HYa := Lib.hid (rowKept HY9.out hba9)
    clear c0 c1 c2 c3 c4 c5 hba9
    obtain ⟨x0, x1, x2, x3, x4, x5⟩ := rowF6 HXa.out
    have fz : ∀ j, wa.frozen? ⟨G, j, none⟩ = false := fun j => frozen_row HXa.out
    have f0 := fz 0; have f1 := fz 1; have f2 := fz 2; have f3 := fz 3; have f4 := fz 4; have f5 := fz 5
    have HEva := Lib.hid heva
    clear fz heva
    go_upto_region 13 with fail
    have hbS : Below G wa (six wa G 0 (S y.path) (S y.part) (.int .i64 y.n) (.int .i64 y.lo) (.int .i64 y.hi) (.int .i64 y.seq)) := six_below (Below.refl _ _) (Nat.le_refl _) _ _ _ _ _ _
    have hXS := six_new HXa.out (S y.path) (S y.part) (.int .i64 y.n) (.int .i64 y.lo) (.int .i64 y.hi) (.int .i64 y.seq)
    have hYS : (six wa G 0 (S y.path) (S y.part) (.int .i64 y.n) (.int .i64 y.lo) (.int .i64 y.hi) (.int .i64 y.seq)).heap[H]? = some (.cells #[S x.path, S x.part, .int .i64 x.n, .int .i64 x.lo, .int .i64 x.hi, .int .i64 x.seq] 23 (0, 0)) := (six_other wa (by omega) _ _ _ _ _ _).trans HYa.out
    simp only [six, Nat.zero_add] at hbS hXS hYS
    generalize hWS : (((((wa.setCell ⟨G, 0, none⟩ (S y.path)).setCell ⟨G, 1, none⟩ (S y.part)).setCell ⟨G, 2, none⟩ (.int .i64 y.n)).setCell ⟨G, 3, none⟩ (.int .i64 y.lo)).setCell ⟨G, 4, none⟩ (.int .i64 y.hi)).setCell ⟨G, 5, none⟩ (.int .i64 y.seq) = wb at *
    have hb0b := hb0a.trans (hbS.mono hwG)
    have hbwb := hba.trans (hb0b.mono hba.size)
    have HXb := Lib.hid hXS; have HYb := Lib.hid hYS
    clear hXS hYS hWS hbS x0 x1 x2 x3 x4 x5 f0 f1 f2 f3 f4 f5
    obtain ⟨c0, c1, c2, c3, c4, c5⟩ := CF.out _ hb0b
    go_wp2_with fail
    refine (HRo.out wb).mono ?_
    rintro e wd ⟨rfl, hbd⟩
    have hb0d := hb0b.trans (hbd.mono hb0b.size)
    have hbwd := hba.trans (hb0d.mono hba.size)
    have HXd := Lib.hid (rowKept HXb.out hbd)
    have HYd := Lib.hid (rowKept HYb.out hbd)
    clear c0 c1 c2 c3 c4 c5 hbd
    obtain ⟨y0, y1, y2, y3, y4, y5⟩ := rowF6 HYd.out
    have fz : ∀ j, wd.frozen? ⟨H, j, none⟩ = false := fun j => frozen_row HYd.out
    have f0 := fz 0; have f1 := fz 1; have f2 := fz 2; have f3 := fz 3; have f4 := fz 4; have f5 := fz 5
    clear fz
    go_upto_region 14 with fail
    have hbS : Below H wd (six wd H 0 (S y.path) (S y.part) (.int .i64 y.n) (.int .i64 y.lo) (.int .i64 y.hi) (.int .i64 y.seq)) := six_below (Below.refl _ _) (Nat.le_refl _) _ _ _ _ _ _
    have hYS := six_new HYd.out (S y.path) (S y.part) (.int .i64 y.n) (.int .i64 y.lo) (.int .i64 y.hi) (.int .i64 y.seq)
    have hXS : (six wd H 0 (S y.path) (S y.part) (.int .i64 y.n) (.int .i64 y.lo) (.int .i64 y.hi) (.int .i64 y.seq)).heap[G]? = some (.cells #[S y.path, S y.part, .int .i64 y.n, .int .i64 y.lo, .int .i64 y.hi, .int .i64 y.seq] 23 (0, 0)) := (six_other wd (by omega) _ _ _ _ _ _).trans HXd.out
    simp only [six, Nat.zero_add] at hbS hXS hYS
    generalize hWS : (((((wd.setCell ⟨H, 0, none⟩ (S y.path)).setCell ⟨H, 1, none⟩ (S y.part)).setCell ⟨H, 2, none⟩ (.int .i64 y.n)).setCell ⟨H, 3, none⟩ (.int .i64 y.lo)).setCell ⟨H, 4, none⟩ (.int .i64 y.hi)).setCell ⟨H, 5, none⟩ (.int .i64 y.seq) = we at *
    have hb0e := hb0d.trans (hbS.mono (by omega))
    have hbwe := hba.trans (hb0e.mono hba.size)
    have HXe := Lib.hid hXS; have HYe := Lib.hid hYS
    have HEve := Lib.hid (erOf_any (w' := we) HEva.out)
    clear hXS hYS hWS hbS y0 y1 y2 y3 y4 y5 f0 f1 f2 f3 f4 f5
    have HCt := Lib.hid (codedT1_any E B cy eva we (X.out _ hbwe).1 (X.out _ hbwe).2.1 HEve.out)
    go_wp2_with fail
    refine HCt.out.mono ?_
    rintro e wf ⟨rfl, hbf⟩
    obtain ⟨x0, x1, x2, x3, x4, x5⟩ := rowF6 (rowKept HXe.out hbf)
    obtain ⟨y0, y1, y2, y3, y4, y5⟩ := rowF6 (rowKept HYe.out hbf)
    have hq := fl_eql y y
    simp only [decide_true] at hq
    go_wp2_with fail
    go_ret
    exact ⟨rfl, hbwe.trans (hbf.mono hbwe.size)⟩
end Go.Proofs.YtpiflhhppigdfaaGreatDoor
namespace Go.Proofs.YtpiflhhppigdfaaGreatDoor
open Go.ChangeShapes Go.WideShapes Go.ChangeAt Go.WideMaps Go.WideElems Go.RowKit

theorem own : ownKnob Tryz.prog.godebug = none := by kernel_rfl

theorem fileTells_met (os : Os) (args : Array Value) : laidMetH Tryz.prog Rows.fileTellsRow.laid ((witW os Rows.fileTellsRow.laid).forCall (fun _ _ => 0) ⟨#[], args, []⟩).memory := by
  exact witW_met os Rows.fileTellsRow.laid args (by kernel_rfl) (by kernel_rfl) (by kernel_rfl)

def fileTellsIdx : Nat → Nat
  | 1 => 4
  | 2 => 5
  | 3 => 6
  | 4 => 7
  | 5 => 8
  | 6 => 9
  | 7 => 10
  | 8 => 11
  | 9 => 12
  | 10 => 13
  | 11 => 14
  | _ => 15

theorem fileTells_errs {W : World} (h : laidMet Tryz.prog (Rows.fileTellsRow.laid.filter fun x => x.2.handleName?.isNone) W) : Errs allE (addrOf W) W.heap.size W := by
  refine errs_of_laid h allE fileTellsIdx (by decide) ?_ ?_ ?_
  · intro c hc
    simp only [allE, List.mem_cons, List.mem_nil_iff, or_false] at hc
    rcases hc with rfl | rfl | rfl | rfl | rfl | rfl | rfl | rfl | rfl | rfl | rfl | rfl
    · exact gn1
    · exact gn2
    · exact gn3
    · exact gn4
    · exact gn5
    · exact gn6
    · exact gn7
    · exact gn8
    · exact gn9
    · exact gn10
    · exact gn11
    · exact gn12
  · intro c hc
    simp only [allE, List.mem_cons, List.mem_nil_iff, or_false] at hc
    rcases hc with rfl | rfl | rfl | rfl | rfl | rfl | rfl | rfl | rfl | rfl | rfl | rfl
    · exact gt1
    · exact gt2
    · exact gt3
    · exact gt4
    · exact gt5
    · exact gt6
    · exact gt7
    · exact gt8
    · exact gt9
    · exact gt10
    · exact gt11
    · exact gt12
  · intro c hc
    simp only [allE, List.mem_cons, List.mem_nil_iff, or_false] at hc
    rcases hc with rfl | rfl | rfl | rfl | rfl | rfl | rfl | rfl | rfl | rfl | rfl | rfl <;> exact ⟨_, rfl⟩

theorem fileTells_num {W : World} (h : laidMet Tryz.prog (Rows.fileTellsRow.laid.filter fun x => x.2.handleName?.isNone) W) (hsh : W.ShapedOpen Tryz.prog) : LNum W.heap.size W :=
  lnum_of (i := 2) (j := 17) (k := 16) h hsh (by kernel_rfl) (by rfl) (by rfl)

set_option maxRecDepth 100000 in
theorem fileTells_lifted (os : Os) (started : os.Started) (H : Type) (enc : TypeId × Value → H) :
    ReturnsInHanded {} Tryz.checked os 3 .any (fun w args => (Rows.fileTellsSpec.pre enc Tryz.prog Tryz.f3 [] false w args ∧ laidMetH Tryz.prog Rows.fileTellsRow.laid w) ∧ sizedMet enc Tryz.prog Tryz.f3 (OpenSpec.ofChange Rows.fileTellsSpec) false w args)
      (Rows.fileTellsSpec.post enc Tryz.prog Tryz.f3 false true false false) := by
  refine handed_both (C := Tryz.checked) (X := fun w _ => laidMetH Tryz.prog Rows.fileTellsRow.laid w) (fun _ _ _ hh h => h.of_heap hh) own started (by kernel_rfl) Tryz.func3
    (ChangeSpec.witness_shaped (enc := enc) (C := Tryz.checked) (os := os) (X := fun w _ => laidMetH Tryz.prog Rows.fileTellsRow.laid w) false (witW os Rows.fileTellsRow.laid) #[.agg #[.string ⟨#[]⟩, .string ⟨#[]⟩, .int .i64 0, .int .i64 0, .int .i64 0, .int .i64 0], .string ⟨#[]⟩, .string ⟨#[]⟩] 8 (witW_os _ _)
      (World.shaped_of_ZipB (by kernel_rfl) (by kernel_rfl)) (by kernel_rfl) (by kernel_rfl) (by kernel_rfl) (fileTells_met os _)) ?_
  intro W base args ds gs before hval0 hW hL hsh
  have hval : ∀ (j : Nat) t v, Tryz.f3.params[j]? = some t → args[j]? = some v → Value.okWide Tryz.prog W .any base t v := hval0
  have hW' := hW
  obtain ⟨p, q, hA0, hV, rfl, _, _⟩ := hW
  have hA : DataW.TrodAll enc Tryz.prog W 0 (fun _ => true) true Tryz.f3.params.toList args.toList ds p := hA0
  rw [Tryz.params3] at hA hval
  obtain ⟨v1, v2, v3, d1, d2, d3, p1, p2, p3, rfl, rfl, rfl, h1, h2, h3⟩ := trodAll_three hA
  obtain ⟨rfl, rfl⟩ := trodVars_none hV
  simp only [List.append_nil] at hW'
  clear hA0 hval0
  have hlt : ∀ x ∈ p1 ++ p2 ++ p3, x.block < W.heap.size := fun x hx => by simpa using hW'.lt x (by simpa using hx)
  have h' : laidMet Tryz.prog (Rows.fileTellsRow.laid.filter fun x => x.2.handleName?.isNone) W ∧ handlesMet Tryz.prog (Rows.fileTellsRow.laid.filter fun x => x.2.handleName?.isSome) W := hL
  have hL' := h'.1
  have hAs : AsVar W := asVar_of_laid h'.2 (List.mem_filter.2 ⟨by simp [Rows.fileTellsRow, Rows.laid_errors_errorType], rfl⟩)
  have hgB : 12 < W.heap.size := World.block_lt_of_cell? W ⟨12, 0, none⟩ hAs
  obtain ⟨l1, rfl, b1⟩ := file_came (hval 0 23 v1 rfl rfl) h1
  obtain ⟨l2, rfl, b2⟩ := str_came (hval 1 9 v2 rfl rfl) h2
  obtain ⟨l3, rfl, b3⟩ := str_came (hval 2 9 v3 rfl rfl) h3
  refine (fileTells_any (addrOf W) _ l1 l2 l3 W (fileTells_errs hL') hAs hgB (fileTells_num hL' hsh) (lmax_of hsh)).mono fun e W' ⟨he, hb⟩ => ?_
  subst he
  refine ⟨_, rfl, _, _, _, [], p1 ++ (p2 ++ p3), [], hW', ?_, ?_, ?_, hb.frame _, fun h => by cases h⟩
  · exact trodAll_mk1 (shut_bool Tryz.underlying4 true)
  · exact trodAll_mk3 (Below.trod laidOut (by kernel_rfl) (of_decide_eq_true (by kernel_rfl)) h1 hb (fun x hx => hlt x (by simp [hx]))) (Below.trod laidOut (by kernel_rfl) (of_decide_eq_true (by kernel_rfl)) h2 hb (fun x hx => hlt x (by simp [hx]))) (Below.trod laidOut (by kernel_rfl) (of_decide_eq_true (by kernel_rfl)) h3 hb (fun x hx => hlt x (by simp [hx])))
  · rfl

theorem fileTells_inPlace : (Rows.fileTellsRow.inPlace == Tryz.pinned.checked.prog.inPlace 3) = true := by kernel_rfl

theorem fileTells_unfollowed : (Rows.fileTellsRow.unfollowed == Tryz.pinned.checked.prog.unfollowed 3) = true := by kernel_rfl

theorem fileTells_recurses : (Rows.fileTellsRow.recurses == Tryz.pinned.checked.prog.recurses 3) = true := by kernel_rfl

theorem fileTells_named : (Rows.fileTellsRow.named == Tryz.pinned.checked.prog.varsNamed 3) = true := by kernel_rfl

theorem fileTells_facts : joinedFacts Tryz.pinned.checked.prog 3 Tryz.f3 Rows.fileTellsSpec Rows.fileTellsRow = true := by
  unfold joinedFacts
  rw [fileTells_inPlace, fileTells_unfollowed, fileTells_recurses, fileTells_named]
  kernel_rfl

theorem fileTells_holds : Rows.FileTellsSaid :=
  OpenClaim.holds_of_wide 3 Tryz.f3 rfl rfl rfl rfl rfl rfl rfl ⟨rfl, rfl, rfl, rfl, rfl⟩ rfl rfl rfl rfl rfl (by kernel_rfl) Tryz.func3 fileTells_facts
    (of_decide_eq_true (by kernel_rfl)) (by unfold Func.isWrapper; first | (rw [if_pos (by decide +kernel)]; kernel_rfl) | (rw [if_neg (by decide +kernel)]; exact ⟨rfl, rfl⟩))
    (fun os started H enc _ => fileTells_lifted os started H enc)

theorem fileTells_wf : Rows.fileTellsRow.wfByText (OpenSpec.ofChange Rows.fileTellsSpec) = true := by kernel_rfl

theorem fileTells_main : Tryz.pinned.checked.prog.mainIs = some (Rows.fileTellsCard.stood.harness.1, Rows.fileTellsCard.stood.harness.2.toList) := by kernel_rfl

theorem fileTells_looks : true = Tryz.pinned.checked.prog.looks [] := by kernel_rfl

theorem fileTells_goes : false = Rows.fileTellsRow.goesBy Tryz.pinned.checked.prog := by kernel_rfl

theorem fileTells_fn : Tryz.pinned.checked.prog.funcNamed Rows.fileTellsRow.func = some 3 := by kernel_rfl

theorem fileTells_stand : ([23, 9, 9].all fun u => !Tryz.pinned.checked.prog.wantsStandIn u) = true := by kernel_rfl

theorem fileTells_card_holds : Rows.FileTellsCardSaid :=
  Claim7.holds_tied_plain_at .later [] Rows.fileTellsCard.laidKinds true Rows.fileTellsCard.stood.harness true
    fileTells_holds (fun _ h => by cases h) fileTells_wf (fun _ h => by cases h) fileTells_row_tie rfl ⟨rfl, rfl⟩ fileTells_main rfl
    (fun f fn hf hfn => by
      obtain rfl : f = 3 := Option.some.inj (fileTells_fn.symm.trans hf) |>.symm
      obtain rfl : fn = Tryz.f3 := (Option.some.inj (Tryz.func3.symm.trans hfn)).symm
      exact ⟨fileTells_looks, fun j t ht => by
        rw [Tryz.params3] at ht
        have hm : t ∈ [23, 9, 9] := by simpa using Array.mem_of_getElem? ht
        exact (show Tryz.pinned.checked.prog.wantsStandIn t = false by simpa using List.all_eq_true.1 fileTells_stand t hm)⟩)
    fileTells_goes
#print axioms fileTells_card_holds
end Go.Proofs.YtpiflhhppigdfaaGreatDoor
