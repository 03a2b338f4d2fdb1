/- 'deedboxlaw1.FileBack' returns true at every input: what is known of a file is read as it was written; what is known of a file of rows is so. Condition: the package-level variables read as the program's text lays them; the card ties that. -/
import Derived.Test.YtpiflhhppigdfaaGreatDoorBx16
import Derived.Test.YtpiflhhppigdfaaGreatDoorBx7
import Derived.Test.YtpiflhhppigdfaaGreatDoorRows
import Derived.Test.YtpiflhhppigdfaaGreatDoorCards
import Derived.Test.YtpiflhhppigdfaaGreatDoorTie
import Derived.Test.YtpiflhhppigdfaaGreatDoorBx17
import Derived.LaidOnce
import Derived.SevenTiedAt
namespace Go.Proofs.YtpiflhhppigdfaaGreatDoor
open Go.RowKit

set_option maxHeartbeats 4000000 in
set_option maxRecDepth 20000 in
theorem fileBack_any (E : Nat → Addr) (B : Nat) (f : Fl) (v : Value) (l : List Rw) (w : World) (hE : Errs [1, 2, 3, 4, 5, 8, 9, 10] E B w) (hT : LNum B w) (hM : LMax B w) (hl : RowsAt w v l) :
    Calls Tryz.prog 4 #[fileV f, v] w fun e w' => e = .returned (.bool true) ∧ Below w.heap.size w w' := by
  have hBw := hE.le
  have hif := isIfaceE
  have X := Lib.hid (fun W (h : Below w.heap.size w W) => (⟨hE.below' h hBw, hT.below' h hBw, hM.below' h hBw, hl.below h⟩ : Errs [1, 2, 3, 4, 5, 8, 9, 10] E B W ∧ LNum B W ∧ LMax B W ∧ RowsAt W v l))
  obtain ⟨a, c, b, o, rfl, ha, hc, hcm, hx⟩ := hl
  unfold maxLen at hcm
  have HX := Lib.hid hx
  have hba : Below w.heap.size w (w.alloc (.cells #[S f.path, S f.part, .int .i64 f.n, .int .i64 f.lo, .int .i64 f.hi, .int .i64 f.seq] 23)) := (Below.refl _ _).alloc (Nat.le_refl _) _
  have CF := Lib.hid (fun W (h : Below (w.alloc (.cells #[S f.path, S f.part, .int .i64 f.n, .int .i64 f.lo, .int .i64 f.hi, .int .i64 f.seq] 23)).heap.size (w.alloc (.cells #[S f.path, S f.part, .int .i64 f.n, .int .i64 f.lo, .int .i64 f.hi, .int .i64 f.seq] 23)) W) => fileCells (f := f) (w := w) rfl h)
  clear hx
  go_enter Tryz.func4, Tryz.ntmps4
  go_upto_region 1 with fail
  generalize w.alloc (.cells #[S f.path, S f.part, .int .i64 f.n, .int .i64 f.lo, .int .i64 f.hi, .int .i64 f.seq] 23) = w0 at *
  have HKn := Lib.hid (known_any E B w0 (X.out _ hba).1 (X.out _ hba).2.1 (X.out _ hba).2.2.1)
  go_wp2_with fail
  refine HKn.out.mono ?_
  rintro e w1 ⟨rfl, hb1⟩
  have hbw1 := hba.trans (hb1.mono hba.size)
  obtain ⟨c0, c1, c2, c3, c4, c5⟩ := CF.out _ hb1
  go_wp2_with fail
  refine (longFile_any f w1).mono ?_
  rintro e w2 ⟨rfl, hb2⟩
  have hb02 := hb1.trans (hb2.mono hb1.size)
  have hbw2 := hba.trans (hb02.mono hba.size)
  clear c0 c1 c2 c3 c4 c5
  by_cases hsh : shortF f
  case neg =>
    rw [if_neg hsh]
    go_wp2_with fail
    go_ret
    exact ⟨rfl, hbw2⟩
  rw [if_pos hsh]
  go_wp2_with fail
  refine (longRows_any _ l 45 w2 (X.out _ hbw2).2.2.2).mono ?_
  rintro e w3 ⟨he, rfl⟩
  rcases he with rfl | ⟨rfl, hlen, hrs⟩
  · go_wp2_with fail
    go_ret
    exact ⟨rfl, hbw2⟩
  have hmid : midF f := ⟨by have := hsh.1; omega, by have := hsh.2; omega⟩
  have HMid := Lib.hid hmid
  have HRs := Lib.hid (fun r (hr : r ∈ l) => (show r.part.length ≤ 100000 by have := hrs r hr; omega))
  have hl45 : l.length ≤ 45 := by omega
  have HCk := Lib.hid (fun W (h : Below w.heap.size w W) => fileCheck_any E B f W ((X.out W h).1.sub (by decide)) (X.out W h).2.1 (X.out W h).2.2.1 HMid.out)
  have HTx := Lib.hid (fun W (h : Below w.heap.size w W) => fileText_any E B f W ((X.out W h).1.sub (by decide)) (X.out W h).2.1 (X.out W h).2.2.1 HMid.out)
  clear hmid hrs hlen
  obtain ⟨c0, c1, c2, c3, c4, c5⟩ := CF.out _ hb02
  go_wp2_with fail
  refine (HCk.out _ hbw2).mono ?_
  rintro e w3 ⟨ev, rfl, hev, hb3⟩
  have hb03 := hb02.trans (hb3.mono hb02.size)
  have hbw3 := hba.trans (hb03.mono hba.size)
  clear c0 c1 c2 c3 c4 c5
  obtain ⟨c0, c1, c2, c3, c4, c5⟩ := CF.out _ hb03
  by_cases hck : checkF f = 0
  case neg =>
    rw [fileEr_bad rfl hck] at hev
    obtain ⟨t1, x1, rfl⟩ := hev.iface (by simp)
    have hft : fileText f = [] := if_neg hck
    rw [hft] at HTx
    clear hev hck hft
    go_wp2_with fail
    refine (HTx.out _ hbw3).mono ?_
    rintro e w4 ⟨rfl, hb4⟩
    go_wp2_with fail
    go_ret
    exact ⟨rfl, hbw3.trans (hb4.mono hbw3.size)⟩
  rw [fileEr_nil hck] at hev
  obtain rfl : ev = .nilIface := hev
  have hft : fileText f = fileLine f := if_pos hck
  rw [hft] at HTx
  have hfr := fileRead_line hck
  have HRd := Lib.hid (fun W (h : Below w.heap.size w W) (hln : (fileLine f).length ≤ 10000) => fileRead_any E B (fileLine f) W ((X.out W h).1.sub (by decide)) (X.out W h).2.1 (X.out W h).2.2.1 hln)
  rw [hfr] at HRd
  obtain ⟨⟨kn, hpf⟩, hpo, hbo⟩ := checkF_inv hck
  have HBo := Lib.hid hbo
  have hLn : (fileLine f).length ≤ 10000 := by have := fileLine_len hck; omega
  have HFl := Lib.hid hLn
  have HCk0 := Lib.hid hck
  have he := fl_eql f f
  simp only [decide_true] at he
  have hgd := fl_guard
  clear hck hft hfr hbo hLn
  generalize fileLine f = tx at *
  go_wp2_with fail
  refine (HTx.out _ hbw3).mono ?_
  rintro e w4 ⟨rfl, hb4⟩
  have hb04 := hb03.trans (hb4.mono hb03.size)
  have hbw4 := hba.trans (hb04.mono hba.size)
  clear c0 c1 c2 c3 c4 c5
  go_wp2_with fail
  refine (HRd.out _ hbw4 HFl.out).mono ?_
  rintro e w5 ⟨ev, rfl, hev, hb5⟩
  obtain rfl : ev = .nilIface := hev
  have hb05 := hb04.trans (hb5.mono hb04.size)
  have hba5 : Below w5.heap.size w5 (w5.alloc (.cells #[S f.path, S f.part, .int .i64 f.n, .int .i64 f.lo, .int .i64 f.hi, .int .i64 f.seq] 23)) := (Below.refl _ _).alloc (Nat.le_refl _) _
  have hb06 := hb05.trans (hba5.mono hb05.size)
  obtain ⟨c0, c1, c2, c3, c4, c5⟩ := CF.out _ hb06
  have HNm := Lib.hid (fun W (h : Below w.heap.size w W) => fileNumber_any E B f.path W ((X.out W h).1.sub (by decide)) (X.out W h).2.1 (X.out W h).2.2.1 HMid.out.1)
  rw [hpf] at HNm
  have HPf := Lib.hid hpf
  have hbw6 := hba.trans (hb06.mono hba.size)
  clear hpf
  go_wp2_with fail
  refine (HNm.out _ hbw6).mono ?_
  rintro e w7 ⟨ev, rfl, hev, hb7⟩
  obtain rfl : ev = .nilIface := hev
  have hb07 := hb06.trans (hb7.mono hb06.size)
  have hbw7 := hba.trans (hb07.mono hba.size)
  clear c0 c1 c2 c3 c4 c5
  go_wp2_with fail
  refine (ownRows_any _ l w7 (X.out _ hbw7).2.2.2 (by omega)).mono ?_
  rintro e w8 ⟨v2, rfl, hown2, hb8⟩
  have hb08 := hb07.trans (hb8.mono hb07.size)
  have hbw8 := hba.trans (hb08.mono hba.size)
  have HMk := Lib.hid (dataMake_any E B v2 l w8 ((X.out _ hbw8).1.sub (by decide)) (X.out _ hbw8).2.1 (hown2.at encR_enc) (by omega) HRs.out)
  clear hown2
  go_wp2_with fail
  refine HMk.out.mono ?_
  rintro e w9 ⟨ev, rfl, hev, hb9⟩
  have hb09 := hb08.trans (hb9.mono hb08.size)
  have hbw9 := hba.trans (hb09.mono hba.size)
  by_cases hm : makeE l = .nil
  case neg =>
    obtain ⟨t1, x1, rfl⟩ := hev.iface hm
    clear hev hm
    go_wp2_with fail
    go_ret
    exact ⟨rfl, hbw9⟩
  rw [hm] at hev
  obtain rfl : ev = .nilIface := hev
  by_cases hkd : kindF f.path = kData
  case neg =>
    have gk : (kindF f.path == [100, 97, 116, 97]) = false := by simpa using hkd
    clear hm hkd
    go_wp2_with fail
    go_ret
    exact ⟨rfl, hbw9⟩
  have gk : (kindF f.path == [100, 97, 116, 97]) = true := by simpa using hkd
  by_cases hl0 : l.length = 0
  case pos =>
    have gl : ((l.length : Int) == 0) = true := by simpa using hl0
    clear hm hkd
    go_wp2_with fail
    go_ret
    exact ⟨rfl, hbw9⟩
  have gl : ((l.length : Int) == 0) = false := by simpa using hl0
  have hl1 : l ≠ [] := by intro h; rw [h] at hl0; exact hl0 rfl
  have hob := of_back HCk0.out hkd hm hl1
  obtain ⟨hr1, hr2, -⟩ := make_right hm
  have hTl : (makeT l).length ≤ 2700 := by rw [make_text hm]; exact dataText_len hr2 hr1
  have hOf := fileOf_any E B f.path f.part (makeT l) f.seq w9 (X.out _ hbw9).1 (X.out _ hbw9).2.1 (X.out _ hbw9).2.2.1 HMid.out.1 HMid.out.2 (.inl (by omega)) (by omega)
  unfold OfPost at hOf
  rw [hob] at hOf
  have HOf := Lib.hid hOf
  have hkn : keysR l ≠ [] := by
    intro h
    have := congrArg List.length h
    simp [keysR] at this
    exact hl1 this
  obtain ⟨m1, m2, m3⟩ := ends_mem hkn
  have HM3 := Lib.hid m3
  have HM12 : Hid ((endsI (keysR l)).1 ∈ keysR l ∧ (endsI (keysR l)).2 ∈ keysR l) := Lib.hid ⟨m1, m2⟩
  have HIn : Hid (∀ x ∈ l, x.key ∈ keysR l) := Lib.hid fun x hx => List.mem_map_of_mem hx
  clear hOf hob hm hkd hl0 hl1 hr1 hr2 hTl hkn m1 m2 m3
  generalize makeT l = mt at *
  obtain ⟨lo, hlo⟩ : ∃ lo, (endsI (keysR l)).1 = lo := ⟨_, rfl⟩
  obtain ⟨hi, hhi⟩ : ∃ hi, (endsI (keysR l)).2 = hi := ⟨_, rfl⟩
  rw [hlo, hhi] at HOf HM3 HM12
  clear hlo hhi
  obtain ⟨c0, c1, c2, c3, c4, c5⟩ := CF.out _ hb09
  go_wp2_with fail
  refine HOf.out.mono ?_
  rintro e w10 ⟨ev, rfl, hev, hb10⟩
  obtain rfl : ev = .nilIface := hev
  have hb010 := hb09.trans (hb10.mono hb09.size)
  have hbaY : Below w10.heap.size w10 (w10.alloc (.cells #[S f.path, S f.part, .int .i64 l.length, .int .i64 lo, .int .i64 hi, .int .i64 f.seq] 23)) := (Below.refl _ _).alloc (Nat.le_refl _) _
  have CY := Lib.hid (fun W (h : Below (w10.alloc (.cells #[S f.path, S f.part, .int .i64 l.length, .int .i64 lo, .int .i64 hi, .int .i64 f.seq] 23)).heap.size (w10.alloc (.cells #[S f.path, S f.part, .int .i64 l.length, .int .i64 lo, .int .i64 hi, .int .i64 f.seq] 23)) W) => fileCells (f := ⟨f.path, f.part, l.length, lo, hi, f.seq⟩) (w := w10) rfl h)
  have hb011 := hb010.trans (hbaY.mono hb010.size)
  have hbw11 := hba.trans (hb011.mono hba.size)
  obtain ⟨Y, hY⟩ : ∃ Y, w10.heap.size = Y := ⟨_, rfl⟩
  rw [hY] at CY
  clear c0 c1 c2 c3 c4 c5 hbaY
  go_upto_region 14 with fail
  generalize w10.alloc (.cells #[S f.path, S f.part, .int .i64 l.length, .int .i64 lo, .int .i64 hi, .int .i64 f.seq] 23) = w11 at *
  obtain ⟨c0, c1, c2, c3, c4, c5⟩ := CF.out _ hb011
  obtain ⟨y0, y1, y2, y3, y4, y5⟩ := CY.out _ (Below.refl _ _)
  go_wp2_with fail
  clear c0 c1 c2 c3 c4 c5 y0 y1 y2 y3 y4 y5
  go_loopw [4, 13, 14, 15] (fun r ls ms i wr => r = .bool false ∧ ∃ k : Nat, k ≤ l.length ∧ i = .int .i64 k ∧ ls = .bool (decide (lo ∈ keysR (l.take k))) ∧ ms = .bool (decide (hi ∈ keysR (l.take k))) ∧ Below w11.heap.size w11 wr) (fun _ _ _ i _ => l.length - (intOf i).toNat)
  case atStart => exact ⟨rfl, 0, by omega, rfl, by simp [keysR], by simp [keysR], Below.refl _ _⟩
  case round =>
    obtain ⟨rfl, k, hk, rfl, rfl, rfl, hb⟩ := hrel
    obtain ⟨wo, rfl⟩ : ∃ wo, wo = wr := ⟨wr, rfl⟩
    have hbw := hbw11.trans (hb.mono hbw11.size)
    by_cases hlt : k < l.length
    case neg =>
      obtain rfl : k = l.length := by omega
      have f1 : decide ((l.length : Int) < (l.length : Int)) = false := by simp
      have e1 : decide (lo ∈ keysR (l.take l.length)) = true := by rw [List.take_length]; exact decide_eq_true HM12.out.1
      have e2 : decide (hi ∈ keysR (l.take l.length)) = true := by rw [List.take_length]; exact decide_eq_true HM12.out.2
      rw [e1, e2]
      clear e1 e2
      go_wp2_with fail
      go_ret
      exact ⟨rfl, hbw⟩
    have hk1 : (k : Int) < (l.length : Int) := by omega
    obtain ⟨x, hxk⟩ := get_ex hlt
    obtain ⟨x0, x1, x2⟩ := rwCells HX.out hbw hxk
    have i1 := idx_at (c := c) 3 Tryz.underlying42 szRw ha k hlt
    obtain ⟨y0, y1, y2, y3, y4, y5⟩ := CY.out _ hb
    obtain ⟨hk2, hk3⟩ := HM3.out _ (HIn.out x (List.mem_of_getElem? hxk))
    have g1 : decide (x.key < lo) = false := by simp; omega
    have g2 : decide (hi < x.key) = false := by simp; omega
    have hsn : keysR (l.take (k + 1)) = keysR (l.take k) ++ [x.key] := by rw [take_snoc' hxk]; simp [keysR]
    have hL : decide (lo ∈ keysR (l.take (k + 1))) = (decide (lo ∈ keysR (l.take k)) || (x.key == lo)) := by
      rw [hsn]
      by_cases h2 : lo = x.key
      · by_cases h1 : x.key ∈ keysR (l.take k) <;> simp [h1, h2]
      · have h3 : ¬ x.key = lo := fun e => h2 e.symm
        by_cases h1 : lo ∈ keysR (l.take k) <;> simp [h1, h2, h3]
    have hH : decide (hi ∈ keysR (l.take (k + 1))) = (decide (hi ∈ keysR (l.take k)) || (x.key == hi)) := by
      rw [hsn]
      by_cases h2 : hi = x.key
      · by_cases h1 : x.key ∈ keysR (l.take k) <;> simp [h1, h2]
      · have h3 : ¬ x.key = hi := fun e => h2 e.symm
        by_cases h1 : hi ∈ keysR (l.take k) <;> simp [h1, h2, h3]
    have HL := Lib.hid hL
    have HH := Lib.hid hH
    clear hL hH hsn hxk hk2 hk3
    generalize decide (lo ∈ keysR (l.take k)) = p1 at *
    generalize decide (hi ∈ keysR (l.take k)) = p2 at *
    cases p1 <;> cases p2 <;> cases hC : (x.key == lo) <;> cases hD : (x.key == hi)
    all_goals
      rw [hC] at HL
      rw [hD] at HH
      go_wp2_with fail
      go_quiet (fail)
      go_wp2_with fail
      go_quiet (fail)
      go_wp2_with fail
      go_quiet (fail)
      go_wp2_with fail
      go_roundw
      case rel => exact ⟨rfl, k + 1, by omega, by go_num, by rw [HL.out]; rfl, by rw [HH.out]; rfl, Bdn hb _⟩
      case measure => simp [intOf]; omega
end Go.Proofs.YtpiflhhppigdfaaGreatDoor
namespace Go.Proofs.YtpiflhhppigdfaaGreatDoor
open Go.ChangeShapes Go.WideShapes Go.ChangeAt Go.WideMaps Go.WideElems Go.RowKit

theorem own : ownKnob Tryz.prog.godebug = none := by kernel_rfl

theorem fileBack_met (os : Os) (args : Array Value) : laidMetH Tryz.prog Rows.fileBackRow.laid ((World.laidAll Tryz.prog os Rows.fileBackRow.laid).forCall (fun _ _ => 0) ⟨#[], args, []⟩).memory := by
  rw [MakeChecks.laidMetH_plain _ _ _ (by kernel_rfl)]
  exact laidMet_laidAll _ (by kernel_rfl) (by kernel_rfl)

def fileBackIdx : Nat → Nat
  | 1 => 4
  | 2 => 5
  | 3 => 6
  | 4 => 7
  | 5 => 8
  | 8 => 9
  | 9 => 10
  | _ => 11

theorem fileBack_errs {W : World} (h : laidMet Tryz.prog Rows.fileBackRow.laid W) : Errs [1, 2, 3, 4, 5, 8, 9, 10] (addrOf W) W.heap.size W := by
  refine errs_of_laid h [1, 2, 3, 4, 5, 8, 9, 10] fileBackIdx (by decide) ?_ ?_ ?_
  · intro c hc
    simp only [List.mem_cons, List.mem_nil_iff, or_false] at hc
    rcases hc with rfl | rfl | rfl | rfl | rfl | rfl | rfl | rfl
    · exact gn1
    · exact gn2
    · exact gn3
    · exact gn4
    · exact gn5
    · exact gn8
    · exact gn9
    · exact gn10
  · intro c hc
    simp only [List.mem_cons, List.mem_nil_iff, or_false] at hc
    rcases hc with rfl | rfl | rfl | rfl | rfl | rfl | rfl | rfl
    · exact gt1
    · exact gt2
    · exact gt3
    · exact gt4
    · exact gt5
    · exact gt8
    · exact gt9
    · exact gt10
  · intro c hc
    simp only [List.mem_cons, List.mem_nil_iff, or_false] at hc
    rcases hc with rfl | rfl | rfl | rfl | rfl | rfl | rfl | rfl <;> exact ⟨_, rfl⟩

theorem fileBack_num {W : World} (h : laidMet Tryz.prog Rows.fileBackRow.laid W) (hsh : W.ShapedOpen Tryz.prog) : LNum W.heap.size W :=
  lnum_of (i := 2) (j := 13) (k := 12) h hsh (by kernel_rfl) (by rfl) (by rfl)

set_option maxRecDepth 100000 in
theorem fileBack_lifted (os : Os) (started : os.Started) (H : Type) (enc : TypeId × Value → H) :
    ReturnsInHanded {} Tryz.checked os 4 .any (fun w args => (Rows.fileBackSpec.pre enc Tryz.prog Tryz.f4 [] false w args ∧ laidMetH Tryz.prog Rows.fileBackRow.laid w) ∧ sizedMet enc Tryz.prog Tryz.f4 (OpenSpec.ofChange Rows.fileBackSpec) false w args)
      (Rows.fileBackSpec.post enc Tryz.prog Tryz.f4 false true false false) := by
  refine handed_both (C := Tryz.checked) (X := fun w _ => laidMetH Tryz.prog Rows.fileBackRow.laid w) (fun _ _ _ hh h => h.of_heap hh) own started (by kernel_rfl) Tryz.func4
    (ChangeSpec.witness_shaped (enc := enc) (C := Tryz.checked) (os := os) (X := fun w _ => laidMetH Tryz.prog Rows.fileBackRow.laid w) false (World.laidAll Tryz.prog os Rows.fileBackRow.laid) #[.agg #[.string ⟨#[]⟩, .string ⟨#[]⟩, .int .i64 0, .int .i64 0, .int .i64 0, .int .i64 0], .slice none 0 0] 8 (World.laidAll_os _ _ _)
      (World.shaped_of_ZipB (by kernel_rfl) (by kernel_rfl)) (by kernel_rfl) (by kernel_rfl) (by kernel_rfl) (fileBack_met os _)) ?_
  intro W base args ds gs before hval0 hW hL hsh
  have hval : ∀ (j : Nat) t v, Tryz.f4.params[j]? = some t → args[j]? = some v → Value.okWide Tryz.prog W .any base t v := hval0
  have hW' := hW
  obtain ⟨p, q, hA0, hV, rfl, _, _⟩ := hW
  have hA : DataW.TrodAll enc Tryz.prog W 0 (fun _ => true) true Tryz.f4.params.toList args.toList ds p := hA0
  rw [Tryz.params4] at hA hval
  obtain ⟨v1, v2, d1, d2, p1, p2, rfl, rfl, rfl, h1, h2⟩ := trodAll_two hA
  obtain ⟨rfl, rfl⟩ := trodVars_none hV
  simp only [List.append_nil] at hW'
  clear hA0 hval0
  have hlt : ∀ x ∈ p1 ++ p2, x.block < W.heap.size := fun x hx => by simpa using hW'.lt x (by simpa using hx)
  have hL' : laidMet Tryz.prog Rows.fileBackRow.laid W := by rwa [MakeChecks.laidMetH_plain _ _ _ (by kernel_rfl)] at hL
  obtain ⟨l1, rfl, b1⟩ := file_came (hval 0 23 v1 rfl rfl) h1
  obtain ⟨l2, a2, b2⟩ := rows_came (hval 1 42 v2 rfl rfl) h2
  refine (fileBack_any (addrOf W) _ l1 v2 l2 W (fileBack_errs hL')  (fileBack_num hL' hsh) (lmax_of hsh) a2).mono fun e W' ⟨he, hb⟩ => ?_
  subst he
  refine ⟨_, rfl, _, _, _, [], p1 ++ p2, [], hW', ?_, ?_, ?_, hb.frame _, fun h => by cases h⟩
  · exact trodAll_mk1 (shut_bool Tryz.underlying4 true)
  · exact trodAll_mk2 (Below.trod laidOut (by kernel_rfl) (of_decide_eq_true (by kernel_rfl)) h1 hb (fun x hx => hlt x (by simp [hx]))) (Below.trod laidOut (by kernel_rfl) (of_decide_eq_true (by kernel_rfl)) h2 hb (fun x hx => hlt x (by simp [hx])))
  · rfl

theorem fileBack_inPlace : (Rows.fileBackRow.inPlace == Tryz.pinned.checked.prog.inPlace 4) = true := by kernel_rfl

theorem fileBack_unfollowed : (Rows.fileBackRow.unfollowed == Tryz.pinned.checked.prog.unfollowed 4) = true := by kernel_rfl

theorem fileBack_recurses : (Rows.fileBackRow.recurses == Tryz.pinned.checked.prog.recurses 4) = true := by kernel_rfl

theorem fileBack_named : (Rows.fileBackRow.named == Tryz.pinned.checked.prog.varsNamed 4) = true := by kernel_rfl

theorem fileBack_facts : joinedFacts Tryz.pinned.checked.prog 4 Tryz.f4 Rows.fileBackSpec Rows.fileBackRow = true := by
  unfold joinedFacts
  rw [fileBack_inPlace, fileBack_unfollowed, fileBack_recurses, fileBack_named]
  kernel_rfl

theorem fileBack_holds : Rows.FileBackSaid :=
  OpenClaim.holds_of_wide 4 Tryz.f4 rfl rfl rfl rfl rfl rfl rfl ⟨rfl, rfl, rfl, rfl, rfl⟩ rfl rfl rfl rfl rfl (by kernel_rfl) Tryz.func4 fileBack_facts
    (of_decide_eq_true (by kernel_rfl)) (by unfold Func.isWrapper; first | (rw [if_pos (by decide +kernel)]; kernel_rfl) | (rw [if_neg (by decide +kernel)]; exact ⟨rfl, rfl⟩))
    (fun os started H enc _ => fileBack_lifted os started H enc)

theorem fileBack_wf : Rows.fileBackRow.wfByText (OpenSpec.ofChange Rows.fileBackSpec) = true := by kernel_rfl

theorem fileBack_main : Tryz.pinned.checked.prog.mainIs = some (Rows.fileBackCard.stood.harness.1, Rows.fileBackCard.stood.harness.2.toList) := by kernel_rfl

theorem fileBack_looks : true = Tryz.pinned.checked.prog.looks [] := by kernel_rfl

theorem fileBack_goes : false = Rows.fileBackRow.goesBy Tryz.pinned.checked.prog := by kernel_rfl

theorem fileBack_fn : Tryz.pinned.checked.prog.funcNamed Rows.fileBackRow.func = some 4 := by kernel_rfl

theorem fileBack_stand : ([23, 42].all fun u => !Tryz.pinned.checked.prog.wantsStandIn u) = true := by kernel_rfl

theorem fileBack_card_holds : Rows.FileBackCardSaid :=
  Claim7.holds_tied_plain_at .later [] Rows.fileBackCard.laidKinds true Rows.fileBackCard.stood.harness true
    fileBack_holds (fun _ h => by cases h) fileBack_wf (fun _ h => by cases h) fileBack_row_tie rfl ⟨rfl, rfl⟩ fileBack_main rfl
    (fun f fn hf hfn => by
      obtain rfl : f = 4 := Option.some.inj (fileBack_fn.symm.trans hf) |>.symm
      obtain rfl : fn = Tryz.f4 := (Option.some.inj (Tryz.func4.symm.trans hfn)).symm
      exact ⟨fileBack_looks, fun j t ht => by
        rw [Tryz.params4] at ht
        have hm : t ∈ [23, 42] := by simpa using Array.mem_of_getElem? ht
        exact (show Tryz.pinned.checked.prog.wantsStandIn t = false by simpa using List.all_eq_true.1 fileBack_stand t hm)⟩)
    fileBack_goes
#print axioms fileBack_card_holds
end Go.Proofs.YtpiflhhppigdfaaGreatDoor
