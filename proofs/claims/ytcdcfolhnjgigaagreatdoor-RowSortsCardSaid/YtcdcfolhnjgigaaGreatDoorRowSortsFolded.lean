/- 'deedboxlaw1.RowSorts' returns true at every input: what is sorted is the same, in order; what is dropped and what is left are all; a row is read as it was written. Condition: the package-level variables read as the program's text lays them; the card ties that. -/
import Derived.Test.YtcdcfolhnjgigaaGreatDoorBx10
import Derived.Deep.CutBlock
import Derived.Deep.DeepCutAuto
import Derived.Deep.RegionHeld3
import Derived.Test.YtcdcfolhnjgigaaGreatDoorRows
import Derived.Test.YtcdcfolhnjgigaaGreatDoorCards
import Derived.Test.YtcdcfolhnjgigaaGreatDoorTie
import Derived.Test.YtcdcfolhnjgigaaGreatDoorBx11
import Derived.LaidOnce
import Derived.SevenTiedAt
namespace Go.Proofs.YtcdcfolhnjgigaaGreatDoor
open Go.RowKit

theorem rowEr_iface {E : Nat → Addr} {w : World} {ev : Value} {r : Rw} (h : ErV E w ev (rowEr r)) (hc : rowCheck r ≠ 0) : ∃ u x, ev = .iface u x := h.iface (by rw [rowEr_bad hc]; exact fun e => by cases e)
set_option maxHeartbeats 4000000 in
set_option maxRecDepth 20000 in
theorem rowSorts_any (E : Nat → Addr) (B : Nat) (v : Value) (l : List Rw) (u : Value) (ks : List Int) (at_ : Int) (w : World) (hE : Errs [1, 2, 5] E B w) (hT : LNum B w) (hM : LMax B w) (hl : RowsAt w v l) (hwf0 : ∀ r ∈ l, RowWf r) (hu : IntsAt w u ks) (hat : at_ ≤ 9223372036854775807) (hat0 : -9223372036854775808 ≤ at_) :
    Calls Tryz.prog 5 #[v, u, .int .i64 at_] w fun e w' => e = .returned (.bool true) ∧ Below w.heap.size w w' := by
  have hBw := hE.le
  have hwf := fun r hr => (hwf0 r hr).1
  clear hwf0
  have hif := isIfaceE
  have X := Lib.hid (fun W (h : Below w.heap.size w W) => (⟨hE.below' h hBw, hT.below' h hBw, hM.below' h hBw, hl.below h, hu.below h⟩ : Errs [1, 2, 5] E B W ∧ LNum B W ∧ LMax B W ∧ RowsAt W v l ∧ IntsAt W u ks))
  obtain ⟨a, c, b, o, rfl, ha, hc, hcm, hx⟩ := hl
  obtain ⟨au, cu, rfl, -, hcmu⟩ := hu.form'
  unfold maxLen at hcm hcmu
  have HWf := Lib.hid hwf
  have HX := Lib.hid hx
  clear hwf hx hu
  go_enter Tryz.func5, Tryz.ntmps5
  go_wp2_with fail
  refine (rowed_any E B w hE hT hM).mono ?_
  rintro e w1 ⟨rfl, hb1⟩
  go_wp2_with fail
  refine (longRows_any _ l 40 w1 (X.out _ hb1).2.2.2.1).mono ?_
  rintro e w2 ⟨he, rfl⟩
  rcases he with rfl | ⟨rfl, hlen, hsh⟩
  · go_wp2_with fail
    go_ret
    exact ⟨rfl, hb1⟩
  by_cases hks : ks.length ≤ 40
  case neg =>
    have g : (40 : Int) < (ks.length : Int) := by omega
    clear hks
    go_wp2_with fail
    go_ret
    exact ⟨rfl, hb1⟩
  have g : decide ((40 : Int) < (ks.length : Int)) = false := by simp; omega
  have HLen := Lib.hid (show l.length ≤ 40 by omega)
  have HKs := Lib.hid hks
  have HSh := Lib.hid hsh
  clear hlen hsh hks
  go_wp2_with fail
  refine (ownRows_any _ l w1 (X.out _ hb1).2.2.2.1 (by have := HLen.out; omega)).mono ?_
  rintro e w2 ⟨v2, rfl, hown2, hb2⟩
  have hb2' := hb1.trans (hb2.mono hb1.size)
  have HSt := Lib.hid (rowSort_any v2 l w2 (hown2.at encR_enc) (by have := HLen.out; omega))
  clear hown2 hb2 g
  go_wp2_with fail
  refine HSt.out.mono ?_
  rintro e w3 ⟨v3, rfl, hown3, hb3⟩
  have hb3' := hb2'.trans (hb3.mono hb2'.size)
  have HS3 := Lib.hid (fun W (h : Below w3.heap.size w3 W) => (hown3.below h).at encR_enc)
  obtain ⟨a3, c3, b3, o3, rfl, ha3, hc3, hcm3, hx3⟩ := hown3.at encR_enc
  unfold maxLen at hcm3
  have hsl : (sortR l).length ≤ 40 := by rw [sort_len]; exact HLen.out
  have HX3 := Lib.hid hx3
  have hsm := rowSame_any _ _ (sortR l) l w3 (HS3.out _ (Below.refl _ _)) (X.out _ hb3').2.2.2.1 (by omega) (by have := HLen.out; omega)
  rw [decide_eq_true (sort_again l)] at hsm
  have HSm := Lib.hid hsm
  clear hsm hown3 hb3 HSt hx3 hb2'
  go_wp2_with fail
  refine HSm.out.mono ?_
  rintro e w4 ⟨rfl, hb4⟩
  have HSt := Lib.hid (rowSort_any _ (sortR l) w4 (HS3.out _ hb4) (by omega))
  clear HSm
  go_wp2_with fail
  refine HSt.out.mono ?_
  rintro e w5 ⟨v5, rfl, hown5, hb5⟩
  have hb35 := hb4.trans (hb5.mono hb4.size)
  have hsm := sameRows_any v5 _ (sortR (sortR l)) (sortR l) w5 (hown5.at encR_enc) (HS3.out _ hb35)
  rw [decide_eq_true (sort_again l)] at hsm
  have HSm := Lib.hid hsm
  clear hsm HSt hown5 hb5 hb4
  go_wp2_with fail
  refine HSm.out.mono ?_
  rintro e w6 ⟨rfl, hb6⟩
  have hb36 := hb35.trans (hb6.mono hb35.size)
  have hb6' := hb3'.trans (hb36.mono hb3'.size)
  clear HSm hb6 hb35
  go_upto_block 0 with fail
  go_cut [9] (fun u wx => Below w6.heap.size w6 wx)
  case first =>
    go_wp2_with fail
    go_loopw [9] (fun i wr => ∃ k : Nat, i = .int .i64 k ∧ 1 ≤ k ∧ k ≤ (sortR l).length + 1 ∧ Below w6.heap.size w6 wr) (fun i _ => (sortR l).length + 1 - (intOf i).toNat)
    case atStart => exact ⟨1, rfl, by omega, by omega, Below.refl _ _⟩
    case round =>
      obtain ⟨k, rfl, hk1, hk2, hbr⟩ := hrel
      by_cases hlt : k < (sortR l).length
      case neg =>
        have f : decide ((k : Int) < ((sortR l).length : Int)) = false := by simp; omega
        go_wp2_with fail
        go_meet
        exact hbr
      obtain ⟨x, hxk⟩ := get_ex hlt
      obtain ⟨y, hyk⟩ := get_ex (l := sortR l) (k := k - 1) (by omega)
      have hless : lessR x y = false := by
        have e := List.pairwise_iff_getElem.1 (sort_up l) (k - 1) k (List.getElem?_eq_some_iff.1 hyk).1 (List.getElem?_eq_some_iff.1 hxk).1 (by omega)
        rw [(List.getElem?_eq_some_iff.1 hyk).2, (List.getElem?_eq_some_iff.1 hxk).2] at e
        exact e
      have hb3r := hb36.trans (hbr.mono hb36.size)
      have hbD : Below w3.heap.size w3 wr.drew := hb3r.drew
      obtain ⟨c0, c1, c2⟩ := rwCells HX3.out hbD hxk
      obtain ⟨d0, d1, d2⟩ := rwCells HX3.out hbD hyk
      have i1 := idx_at (c := c3) 3 Tryz.underlying22 szRw ha3 k hlt
      have i2 := idx_at (c := c3) 3 Tryz.underlying22 szRw ha3 (k - 1) (by omega)
      have hcast : ((k - 1 : Nat) : Int) = (k : Int) - 1 := by omega
      simp only [hcast] at i2
      have hwk : IntKind.i64.wrap ((k : Int) - 1) = (k : Int) - 1 := by rw [IntKind.wrap_i64]; omega
      have hp2 : (0 : Int) ≤ (k : Int) - 1 := by omega
      have hp3 : (1 : Int) ≤ (k : Int) := by omega
      have f : (k : Int) < ((sortR l).length : Int) := by omega
      have hC := fun W => rowLess_any x y W
      rw [hless] at hC
      have HC := Lib.hid hC; have HXk := Lib.hid hxk; have HYk := Lib.hid hyk
      clear hC hless hcast hxk hyk
      go_wp2_with fail
      go_region_held3 (fun w' => w'.cell? ⟨b3, o3 + k * 3, none⟩ = some (S x.part) ∧ w'.cell? ⟨b3, o3 + k * 3 + 1, none⟩ = some (.int .i64 x.key) ∧ w'.cell? ⟨b3, o3 + k * 3 + 2, none⟩ = some (.int .i64 x.val) ∧ w'.cell? ⟨b3, o3 + (k - 1) * 3, none⟩ = some (S y.part) ∧ w'.cell? ⟨b3, o3 + (k - 1) * 3 + 1, none⟩ = some (.int .i64 y.key) ∧ w'.cell? ⟨b3, o3 + (k - 1) * 3 + 2, none⟩ = some (.int .i64 y.val)) (exact ⟨c0, c1, c2, d0, d1, d2⟩) ((go_at_call 25; (with_reducible refine (HC.out _).mono ?_); rintro e wq ⟨rfl, hbq⟩; have hbq' := hbD.trans (hbq.mono hbD.size); clear c0 c1 c2 d0 d1 d2; obtain ⟨c0, c1, c2⟩ := rwCells HX3.out hbq' HXk.out; obtain ⟨d0, d1, d2⟩ := rwCells HX3.out hbq' HYk.out))
      all_goals
        go_wp2_with fail
        refine ⟨⟨k + 1, by go_num, by omega, by omega, hbr.drew.trans (hbq.mono hbr.drew.size)⟩, by simp [intOf]; omega⟩
  case rest =>
    have hb7 := hb6'.trans (hcut.mono hb6'.size)
    obtain ⟨w7, rfl⟩ : ∃ w7, w7 = wc := ⟨wc, rfl⟩
    clear hcut hb6' hb36 HS3 HX3 hcm3 hc3 ha3 hsl hb3'
    have HDr := Lib.hid (rowDrop_any _ _ l ks w7 (X.out _ hb7).2.2.2.1 (X.out _ hb7).2.2.2.2 (by have := HLen.out; omega) (by have := HKs.out; omega))
    go_wp2_with fail
    refine HDr.out.mono ?_
    rintro e w8 ⟨v8, rfl, hown8, hb8⟩
    have hb8' := hb7.trans (hb8.mono hb7.size)
    obtain ⟨a8, c8, rfl, -, hcm8⟩ := (hown8.at encR_enc).form'
    have hdl : (dropR l ks).length ≤ l.length := List.length_filter_le _ _
    have gd : decide (l.length < (dropR l ks).length) = false := by simp; omega
    have HDr2 := Lib.hid (rowDrop_any _ _ (dropR l ks) ks w8 (hown8.at encR_enc) (X.out _ hb8').2.2.2.2 (by have := HLen.out; omega) (by have := HKs.out; omega))
    have HOwn8 := Lib.hid hown8
    unfold maxLen at hcm8
    clear hdl hown8 HDr hb8 hb7
    go_wp2_with fail
    refine HDr2.out.mono ?_
    rintro e w9 ⟨v9, rfl, hown9, hb9⟩
    have hb9' := hb8'.trans (hb9.mono hb8'.size)
    have hsm := sameRows_any v9 _ (dropR (dropR l ks) ks) (dropR l ks) w9 (hown9.at encR_enc) ((HOwn8.out.below hb9).at encR_enc)
    rw [decide_eq_true (drop_again l ks)] at hsm
    have HSm := Lib.hid hsm
    clear hsm hown9 hb9 HDr2 HOwn8 hb8' gd
    go_wp2_with fail
    refine HSm.out.mono ?_
    rintro e w10 ⟨rfl, hb10⟩
    have hb10' := hb9'.trans (hb10.mono hb9'.size)
    have HWi := Lib.hid (rowWithin_any _ l (-9223372036854775808) at_ w10 (X.out _ hb10').2.2.2.1 (by have := HLen.out; omega))
    clear hb10 hb9' HSm
    go_wp2_with fail
    refine HWi.out.mono ?_
    rintro e w11 ⟨v11, rfl, hown11, hb11⟩
    have hb11' := hb10'.trans (hb11.mono hb10'.size)
    obtain ⟨a11, c11, rfl, -, -⟩ := (hown11.at encR_enc).form'
    have HLow := Lib.hid (fun W (h : Below w11.heap.size w11 W) => (hown11.below h).at encR_enc)
    have hwl : (withinR l (-9223372036854775808) at_).length ≤ l.length := List.length_filter_le _ _
    have HWl := Lib.hid (show (withinR l (-9223372036854775808) at_).length ≤ 40 by have := HLen.out; omega)
    clear hwl hown11 hb11 hb10' HWi
    go_upto_if 81 with fail
    go_cut [12] (fun u wx => ∃ q : List Rw, RowsAt wx u q ∧ sortR q = sortR l ∧ q.length ≤ 80 ∧ Below w11.heap.size w11 wx)
    case first =>
      by_cases hm : at_ < 9223372036854775807
      · have hs1 := HLow.out w11 (Below.refl _ _)
        have HOw := Lib.hid (ownRows_any _ _ w11 hs1 (by have := HWl.out; omega))
        have hq : Hid (sortR (withinR l (-9223372036854775808) at_ ++ withinR l (at_ + 1) 9223372036854775807) = sortR l) := Lib.hid (sort_eq.2 (within_two HWf.out))
        have hwl2 : (withinR l (at_ + 1) 9223372036854775807).length ≤ l.length := List.length_filter_le _ _
        have HWl2 := Lib.hid (show (withinR l (at_ + 1) 9223372036854775807).length ≤ 40 by have := HLen.out; omega)
        clear hs1 hwl2
        go_wp2_with fail
        refine HOw.out.mono ?_
        rintro e w12 ⟨v12, rfl, hown12, hb12⟩
        have HWi := Lib.hid (rowWithin_any _ l (at_ + 1) 9223372036854775807 w12 (X.out _ (hb11'.trans (hb12.mono hb11'.size))).2.2.2.1 (by have := HLen.out; omega))
        go_wp2_with fail
        refine HWi.out.mono ?_
        rintro e w13 ⟨v13, rfl, hown13, hb13⟩
        have ho12 := hown12.below hb13
        have hsrc := (hown13.at encR_enc).src encR_enc (by decide)
        have hb1113 := hb12.trans (hb13.mono hb12.size)
        clear hown12 hown13 HOw HWi
        go_wp2_with (at_builtin; refine wpList_app rfl _ _ _ rfl w11.heap.size elRw v12 (withinR l (-9223372036854775808) at_).length _ rfl ho12 _ _ _ rfl hsrc (by have := HWl.out; have := HWl2.out; unfold maxLen; omega) (by have := HWl.out; have := HWl2.out; omega) hb1113.size ?_; intro v14 w14 hown14 hg14 _)
        go_meet
        exact ⟨_, (Own.app hown14).at encR_enc, hq.out, by rw [List.length_append]; have := HWl.out; have := HWl2.out; omega, Bapp hb1113 ho12 hg14 (Nat.le_refl _) hb1113.size⟩
      · obtain rfl : at_ = 9223372036854775807 := by omega
        have hall : Hid (withinR l (-9223372036854775808) 9223372036854775807 = l) := Lib.hid (within_all fun r hr => by have := HWf.out r hr; omega)
        clear hm hat hat0
        go_wp2_with fail
        go_meet
        exact ⟨withinR l (-9223372036854775808) 9223372036854775807, HLow.out _ (Below.refl _ _), congrArg sortR hall.out, by have := HWl.out; omega, Below.refl _ _⟩
    case rest =>
      obtain ⟨q, hq, hqs, hql, hbq⟩ := hcut
      have hb12 := hb11'.trans (hbq.mono hb11'.size)
      obtain ⟨w12, rfl⟩ : ∃ w12, w12 = wc := ⟨wc, rfl⟩
      have hsm := rowSame_any _ _ q l w12 hq (X.out _ hb12).2.2.2.1 (by omega) (by have := HLen.out; omega)
      rw [decide_eq_true hqs] at hsm
      have HSm := Lib.hid hsm
      clear hsm hq hqs hql hbq HLow HWl
      go_wp2_with fail
      refine HSm.out.mono ?_
      rintro e w13 ⟨rfl, hb13⟩
      have hb13' := hb12.trans (hb13.mono hb12.size)
      clear hb13 hb12 HSm hb11'
      go_wp2_with fail
      go_loopw [13] (fun i wr => ∃ k : Nat, i = .int .i64 k ∧ k ≤ l.length ∧ Below w.heap.size w wr) (fun i _ => l.length - (intOf i).toNat)
      case atStart => exact ⟨0, rfl, by omega, hb13'⟩
      case round =>
        obtain ⟨k, rfl, hk, hbr⟩ := hrel
        by_cases hlt : k < l.length
        case neg =>
          have f : decide ((k : Int) < (l.length : Int)) = false := by simp; omega
          go_wp2_with fail
          go_ret
          exact ⟨rfl, hbr⟩
        obtain ⟨x, hxk⟩ := get_ex hlt
        have CX := Lib.hid (fun W (h : Below w.heap.size w W) => rwCells HX.out h hxk)
        have i1 := idx_at (c := c) 3 Tryz.underlying22 szRw ha k hlt
        have f : (k : Int) < (l.length : Int) := by omega
        have HSx := Lib.hid (HSh.out x (List.mem_of_getElem? hxk))
        clear hxk
        obtain ⟨c0, c1, c2⟩ := CX.out _ hbr
        have HCk := Lib.hid (rowCheck_any E B x wr ((X.out _ hbr).1.sub (by decide)) (by have := HSx.out; omega))
        go_wp2_with fail
        refine HCk.out.mono ?_
        rintro e w14 ⟨ev, rfl, hev, hb14⟩
        have hb14' := hbr.trans (hb14.mono hbr.size)
        clear c0 c1 c2 HCk
        by_cases hck : rowCheck x = 0
        case neg =>
          obtain ⟨t1, x1, rfl⟩ := rowEr_iface hev hck
          clear hev hck
          go_wp2_with fail
          go_roundw
          case rel => exact ⟨k + 1, by go_num, by omega, hb14'⟩
          case measure => simp [intOf]; omega
        rw [rowEr_nil hck] at hev
        obtain rfl : ev = .nilIface := hev
        obtain ⟨c0, c1, c2⟩ := CX.out _ hb14'
        have hTx := rowText_any E B x w14 ((X.out _ hb14').1.sub (by decide)) (X.out _ hb14').2.1 (by have := HSx.out; omega)
        have ht : rowText x = rowLine x := if_pos hck
        rw [ht] at hTx
        have HTx := Lib.hid hTx
        have HRl := Lib.hid (rowRead_line hck)
        have HLl := Lib.hid (rowLine_len hck)
        clear hTx ht hck
        go_wp2_with fail
        refine HTx.out.mono ?_
        rintro e w15 ⟨rfl, hb15⟩
        have hb15' := hb14'.trans (hb15.mono hb14'.size)
        have hRd := rowRead_any E B (rowLine x) w15 (X.out _ hb15').1 (X.out _ hb15').2.1 (X.out _ hb15').2.2.1 (by have := HLl.out; omega)
        rw [HRl.out] at hRd
        have HRd := Lib.hid hRd
        clear hRd c0 c1 c2 HTx hb15
        generalize rowLine x = tl at *
        go_wp2_with fail
        refine HRd.out.mono ?_
        rintro e w16 ⟨ev, rfl, hev, hb16⟩
        obtain rfl : ev = .nilIface := hev
        have hb16' := hb15'.trans (hb16.mono hb15'.size)
        have hba := hb16'.alloc hb16'.size (.cells #[S x.part, .int .i64 x.key, .int .i64 x.val] 36)
        obtain ⟨d0, d1, d2⟩ := rowCells (r := x) (w := w16) rfl (Below.refl _ _)
        obtain ⟨c0, c1, c2⟩ := CX.out _ hba
        have hn := rw_neq x x
        have hgd := rw_guard
        simp only [decide_true, Bool.not_true] at hn
        have HBa := Lib.hid hba
        clear hba hb16 HRd
        go_wp2_with fail
        go_quiet (fail)
        go_wp2_with fail
        go_roundw
        case rel => exact ⟨k + 1, by go_num, by omega, Bdn HBa.out _⟩
        case measure => simp [intOf]; omega
end Go.Proofs.YtcdcfolhnjgigaaGreatDoor
namespace Go.Proofs.YtcdcfolhnjgigaaGreatDoor
open Go.ChangeShapes Go.WideShapes Go.ChangeAt Go.WideMaps Go.WideElems Go.RowKit

theorem own : ownKnob Tryz.prog.godebug = none := by kernel_rfl

theorem rowSorts_met (os : Os) (args : Array Value) : laidMetH Tryz.prog Rows.rowSortsRow.laid ((World.laidAll Tryz.prog os Rows.rowSortsRow.laid).forCall (fun _ _ => 0) ⟨#[], args, []⟩).memory := by
  rw [MakeChecks.laidMetH_plain _ _ _ (by kernel_rfl)]
  exact laidMet_laidAll _ (by kernel_rfl) (by kernel_rfl)

def rowSortsIdx : Nat → Nat
  | 1 => 4
  | 2 => 5
  | _ => 6

theorem rowSorts_errs {W : World} (h : laidMet Tryz.prog Rows.rowSortsRow.laid W) : Errs [1, 2, 5] (addrOf W) W.heap.size W := by
  refine errs_of_laid h [1, 2, 5] rowSortsIdx (by decide) ?_ ?_ ?_
  · intro c hc
    simp only [List.mem_cons, List.mem_nil_iff, or_false] at hc
    rcases hc with rfl | rfl | rfl
    · exact gn1
    · exact gn2
    · exact gn5
  · intro c hc
    simp only [List.mem_cons, List.mem_nil_iff, or_false] at hc
    rcases hc with rfl | rfl | rfl
    · exact gt1
    · exact gt2
    · exact gt5
  · intro c hc
    simp only [List.mem_cons, List.mem_nil_iff, or_false] at hc
    rcases hc with rfl | rfl | rfl <;> exact ⟨_, rfl⟩

theorem rowSorts_num {W : World} (h : laidMet Tryz.prog Rows.rowSortsRow.laid W) (hsh : W.ShapedOpen Tryz.prog) : LNum W.heap.size W :=
  lnum_of (i := 2) (j := 8) (k := 7) h hsh (by kernel_rfl) (by rfl) (by rfl)

set_option maxRecDepth 100000 in
theorem rowSorts_lifted (os : Os) (started : os.Started) (H : Type) (enc : TypeId × Value → H) :
    ReturnsInHanded {} Tryz.checked os 5 .any (fun w args => (Rows.rowSortsSpec.pre enc Tryz.prog Tryz.f5 [] false w args ∧ laidMetH Tryz.prog Rows.rowSortsRow.laid w) ∧ sizedMet enc Tryz.prog Tryz.f5 (OpenSpec.ofChange Rows.rowSortsSpec) false w args)
      (Rows.rowSortsSpec.post enc Tryz.prog Tryz.f5 false true false false) := by
  refine handed_both (C := Tryz.checked) (X := fun w _ => laidMetH Tryz.prog Rows.rowSortsRow.laid w) (fun _ _ _ hh h => h.of_heap hh) own started (by kernel_rfl) Tryz.func5
    (ChangeSpec.witness_shaped (enc := enc) (C := Tryz.checked) (os := os) (X := fun w _ => laidMetH Tryz.prog Rows.rowSortsRow.laid w) false (World.laidAll Tryz.prog os Rows.rowSortsRow.laid) #[.slice none 0 0, .slice none 0 0, .int .i64 0] 8 (World.laidAll_os _ _ _)
      (World.shaped_of_ZipB (by kernel_rfl) (by kernel_rfl)) (by kernel_rfl) (by kernel_rfl) (by kernel_rfl) (rowSorts_met os _)) ?_
  intro W base args ds gs before hval0 hW hL hsh
  have hval : ∀ (j : Nat) t v, Tryz.f5.params[j]? = some t → args[j]? = some v → Value.okWide Tryz.prog W .any base t v := hval0
  have hW' := hW
  obtain ⟨p, q, hA0, hV, rfl, _, _⟩ := hW
  have hA : DataW.TrodAll enc Tryz.prog W 0 (fun _ => true) true Tryz.f5.params.toList args.toList ds p := hA0
  rw [Tryz.params5] at hA hval
  obtain ⟨v1, v2, v3, d1, d2, d3, p1, p2, p3, rfl, rfl, rfl, h1, h2, h3⟩ := trodAll_three hA
  obtain ⟨rfl, rfl⟩ := trodVars_none hV
  simp only [List.append_nil] at hW'
  clear hA0 hval0
  have hlt : ∀ x ∈ p1 ++ p2 ++ p3, x.block < W.heap.size := fun x hx => by simpa using hW'.lt x (by simpa using hx)
  have hL' : laidMet Tryz.prog Rows.rowSortsRow.laid W := by rwa [MakeChecks.laidMetH_plain _ _ _ (by kernel_rfl)] at hL
  obtain ⟨l1, a1, b1⟩ := rows_came (hval 0 22 v1 rfl rfl) h1
  obtain ⟨l2, a2, b2⟩ := ints_came (hval 1 39 v2 rfl rfl) h2
  obtain ⟨l3, rfl, b3⟩ := int_came (hval 2 3 v3 rfl rfl) h3
  refine (rowSorts_any (addrOf W) _ v1 l1 v2 l2 l3 W (rowSorts_errs hL')  (rowSorts_num hL' hsh) (lmax_of hsh) a1 b1 a2 b3.2 b3.1).mono fun e W' ⟨he, hb⟩ => ?_
  subst he
  refine ⟨_, rfl, _, _, _, [], p1 ++ (p2 ++ p3), [], hW', ?_, ?_, ?_, hb.frame _, fun h => by cases h⟩
  · exact trodAll_mk1 (shut_bool Tryz.underlying4 true)
  · exact trodAll_mk3 (Below.trod laidOut (by kernel_rfl) (of_decide_eq_true (by kernel_rfl)) h1 hb (fun x hx => hlt x (by simp [hx]))) (Below.trod laidOut (by kernel_rfl) (of_decide_eq_true (by kernel_rfl)) h2 hb (fun x hx => hlt x (by simp [hx]))) (Below.trod laidOut (by kernel_rfl) (of_decide_eq_true (by kernel_rfl)) h3 hb (fun x hx => hlt x (by simp [hx])))
  · rfl

theorem rowSorts_inPlace : (Rows.rowSortsRow.inPlace == Tryz.pinned.checked.prog.inPlace 5) = true := by kernel_rfl

theorem rowSorts_unfollowed : (Rows.rowSortsRow.unfollowed == Tryz.pinned.checked.prog.unfollowed 5) = true := by kernel_rfl

theorem rowSorts_recurses : (Rows.rowSortsRow.recurses == Tryz.pinned.checked.prog.recurses 5) = true := by kernel_rfl

theorem rowSorts_named : (Rows.rowSortsRow.named == Tryz.pinned.checked.prog.varsNamed 5) = true := by kernel_rfl

theorem rowSorts_facts : joinedFacts Tryz.pinned.checked.prog 5 Tryz.f5 Rows.rowSortsSpec Rows.rowSortsRow = true := by
  unfold joinedFacts
  rw [rowSorts_inPlace, rowSorts_unfollowed, rowSorts_recurses, rowSorts_named]
  kernel_rfl

theorem rowSorts_holds : Rows.RowSortsSaid :=
  OpenClaim.holds_of_wide 5 Tryz.f5 rfl rfl rfl rfl rfl rfl rfl ⟨rfl, rfl, rfl, rfl, rfl⟩ rfl rfl rfl rfl rfl (by kernel_rfl) Tryz.func5 rowSorts_facts
    (of_decide_eq_true (by kernel_rfl)) (by unfold Func.isWrapper; first | (rw [if_pos (by decide +kernel)]; kernel_rfl) | (rw [if_neg (by decide +kernel)]; exact ⟨rfl, rfl⟩))
    (fun os started H enc _ => rowSorts_lifted os started H enc)

theorem rowSorts_card_holds : Rows.RowSortsCardSaid :=
  Claim7.holds_tied_plain_at .later [] Rows.rowSortsCard.laidKinds true Rows.rowSortsCard.stood.harness true
    rowSorts_holds (fun _ h => by cases h) (by kernel_rfl) (fun _ h => by cases h) rowSorts_row_tie rfl ⟨rfl, rfl⟩ (by kernel_rfl) rfl
    (fun f fn hf hfn => by
      obtain rfl : f = 5 := Option.some.inj ((show Tryz.prog.funcNamed "deedbox/deedboxlaw1.RowSorts" = some 5 by kernel_rfl).symm.trans hf) |>.symm
      obtain rfl : fn = Tryz.f5 := (Option.some.inj (Tryz.func5.symm.trans hfn)).symm
      exact ⟨by kernel_rfl, fun j t ht => by
        rw [Tryz.params5] at ht
        have hm : t ∈ [22, 39, 3] := by simpa using Array.mem_of_getElem? ht
        have hall : ([22, 39, 3].all fun u => !Tryz.prog.wantsStandIn u) = true := by kernel_rfl
        exact (show Tryz.prog.wantsStandIn t = false by simpa using List.all_eq_true.1 hall t hm)⟩)
    (by kernel_rfl)
#print axioms rowSorts_card_holds
end Go.Proofs.YtcdcfolhnjgigaaGreatDoor
