/- 'deedboxlaw1.RowTells' returns true at every input: rows are checked, told, read, sorted, compared, dropped and kept as the document's answer has it, at every rows, every text and every keys. Condition: the package-level variables read as the program's text lays them; the card ties that. -/
import Derived.Test.YtcdcfolhnjgigaaGreatDoorBx10
import Derived.Test.YtcdcfolhnjgigaaGreatDoorBx17
import Derived.Test.YtcdcfolhnjgigaaGreatDoorBx2
import Derived.Deep.CutBlock
import Derived.Deep.DeepCutAuto
import Derived.Deep.RegionHeld3
import Derived.Test.YtcdcfolhnjgigaaGreatDoorRows
import Derived.Test.YtcdcfolhnjgigaaGreatDoorCards
import Derived.Test.YtcdcfolhnjgigaaGreatDoorTie
import Derived.Test.YtcdcfolhnjgigaaGreatDoorBx11
import Derived.LaidOnce
import Derived.SevenTiedAt
namespace Go.Proofs.YtcdcfolhnjgigaaGreatDoor
open Go.RowKit

theorem coded_erOf (c : Nat) : codedB (erOf c) (c : Int) = true := by
  unfold codedB erOf
  by_cases h : c = 0
  · subst h; rfl
  · rw [if_neg h]; simp [Er.code, Er.place]
theorem codedT_any (E : Nat → Addr) (B : Nat) (c : Nat) (v : Value) (w : World) (hE : Errs allE E B w) (hA : AsVar w) (hv : ErV E w v (erOf c)) :
    Calls Tryz.prog 45 #[v, .int .i64 (c : Int)] w fun e w' => e = .returned (.bool true) ∧ Below w.heap.size w w' := by
  have h := coded1_any E B (erOf c) v c w hE hA hv
  rwa [coded_erOf] at h
set_option maxHeartbeats 4000000 in
set_option maxRecDepth 20000 in
theorem rowTells_any (E : Nat → Addr) (B : Nat) (v : Value) (l : List Rw) (u : Value) (m : List Rw) (tx : Str) (uk : Value) (ks : List Int) (lo hi : Int) (w : World) (hE : Errs allE E B w) (hA : AsVar w) (hgB : 13 < B) (hT : LNum B w) (hM : LMax B w) (hl : RowsAt w v l) (hm : RowsAt w u m) (htx : (tx.length : Int) ≤ 9223372036854775807) (hk : IntsAt w uk ks) :
    Calls Tryz.prog 9 #[v, u, S tx, uk, .int .i64 lo, .int .i64 hi] w fun e w' => e = .returned (.bool true) ∧ Below w.heap.size w w' := by
  have hBw := hE.le
  have hif := isIfaceE
  have X := Lib.hid (fun W (h : Below w.heap.size w W) => (⟨hE.below' h hBw, hA.below (h.mono hBw) hgB, hT.below' h hBw, hM.below' h hBw, hl.below h, hm.below h, hk.below h⟩ : Errs allE E B W ∧ AsVar W ∧ LNum B W ∧ LMax B W ∧ RowsAt W v l ∧ RowsAt W u m ∧ IntsAt W uk ks))
  obtain ⟨a, c, b, o, rfl, ha, hc, hcm, hx⟩ := hl
  obtain ⟨am, cm, rfl, -, hcmm⟩ := hm.form'
  obtain ⟨ak, ck, rfl, -, hcmk⟩ := hk.form'
  unfold maxLen at hcm hcmm hcmk
  have HX := Lib.hid hx
  clear hx hm hk
  go_enter Tryz.func9, Tryz.ntmps9
  go_wp2_with fail
  refine (rowed_any E B w (hE.sub (by decide)) hT hM).mono ?_
  rintro e w1 ⟨rfl, hb1⟩
  go_upto_region 2 with fail
  go_cut [44] (fun t wx => (t = .bool true ∨ (t = .bool false ∧ l.length ≤ 40 ∧ m.length ≤ 40 ∧ (∀ r ∈ l, r.part.length ≤ 30) ∧ (∀ r ∈ m, r.part.length ≤ 30) ∧ tx.length ≤ 100 ∧ ks.length ≤ 40)) ∧ wx = w1)
  case first =>
    go_wp2_with fail
    refine (longRows_any _ l 40 w1 (X.out _ hb1).2.2.2.2.1).mono ?_
    rintro e w2 ⟨he, rfl⟩
    have HL2 := Lib.hid (longRows_any _ m 40 w1 (X.out _ hb1).2.2.2.2.2.1)
    rcases he with rfl | ⟨rfl, h1, h2⟩
    · go_wp2_with fail
      refine HL2.out.mono ?_
      rintro e w2 ⟨he, rfl⟩
      rcases he with rfl | ⟨rfl, h1, h2⟩
      all_goals
        go_wp2_with fail
        go_meet
        exact ⟨.inl rfl, rfl⟩
    have H1 := Lib.hid h1; have H2 := Lib.hid h2
    clear h1 h2
    go_wp2_with fail
    refine HL2.out.mono ?_
    rintro e w2 ⟨he, rfl⟩
    rcases he with rfl | ⟨rfl, h3, h4⟩
    · go_wp2_with fail
      go_meet
      exact ⟨.inl rfl, rfl⟩
    have H3 := Lib.hid h3; have H4 := Lib.hid h4
    clear h3 h4
    by_cases h5 : tx.length ≤ 100
    case neg =>
      have g : (100 : Int) < (tx.length : Int) := by omega
      clear h5
      go_wp2_with fail
      go_meet
      exact ⟨.inl rfl, rfl⟩
    have g5 : decide ((100 : Int) < (tx.length : Int)) = false := by simp; omega
    have H5 := Lib.hid h5
    clear h5
    by_cases h6 : ks.length ≤ 40
    case neg =>
      have g : (40 : Int) < (ks.length : Int) := by omega
      clear h6
      go_wp2_with fail
      go_meet
      exact ⟨.inl rfl, rfl⟩
    have g6 : decide ((40 : Int) < (ks.length : Int)) = false := by simp; omega
    have H6 := Lib.hid h6
    clear h6
    go_wp2_with fail
    go_meet
    exact ⟨.inr ⟨rfl, by have := H1.out; omega, by have := H3.out; omega, H2.out, H4.out, H5.out, H6.out⟩, rfl⟩
  case rest =>
    obtain ⟨hcond, hwc⟩ := hcut
    rw [hwc]
    clear hwc
    rcases hcond with rfl | ⟨rfl, hl40, hm40, hl30, hm30, ht100, hk40⟩
    · go_wp2_with fail
      go_ret
      exact ⟨rfl, hb1⟩
    have HL := Lib.hid hl40; have HMl := Lib.hid hm40; have HSh := Lib.hid hl30; have HT1 := Lib.hid ht100; have HK := Lib.hid hk40
    clear hl40 hm40 hl30 hm30 ht100 hk40
    have hRd := rowRead_any E B tx w1 ((X.out _ hb1).1.sub (by decide)) (X.out _ hb1).2.2.1 (X.out _ hb1).2.2.2.1 (by have := HT1.out; omega)
    have hRR := fun W => refReadRow_any tx W (by have := HT1.out; omega)
    obtain ⟨r, hr⟩ : ∃ r, (rowRead tx).1 = r := ⟨_, rfl⟩
    obtain ⟨ec, hec⟩ : ∃ ec, (rowRead tx).2 = ec := ⟨_, rfl⟩
    rw [hr, hec] at hRd
    simp only [hr, hec] at hRR
    have HRd := Lib.hid hRd; have HRR := Lib.hid hRR
    clear hRd hRR hr hec
    go_wp2_with fail
    refine HRd.out.mono ?_
    rintro e w2 ⟨ev, rfl, hev, hb2⟩
    have hba : Below w2.heap.size w2 (w2.alloc (.cells #[S r.part, .int .i64 r.key, .int .i64 r.val] 36)) := (Below.refl _ _).alloc (Nat.le_refl _) _
    have CA := Lib.hid (fun W (h : Below (w2.alloc (.cells #[S r.part, .int .i64 r.key, .int .i64 r.val] 36)).heap.size (w2.alloc (.cells #[S r.part, .int .i64 r.key, .int .i64 r.val] 36)) W) => rowCells (r := r) (w := w2) rfl h)
    have hb12 := hb1.trans (hb2.mono hb1.size)
    have hb3' := hb12.trans (hba.mono hb12.size)
    have hev3 := hev.below hba
    go_upto_region 5 with fail
    generalize w2.alloc (.cells #[S r.part, .int .i64 r.key, .int .i64 r.val] 36) = w3 at *
    have Hev3 := Lib.hid hev3
    clear hev hev3 hb2 hba hb12 hb1 HRd
    go_wp2_with fail
    refine (HRR.out w3).mono ?_
    rintro e w4 ⟨rfl, hb4⟩
    have hba : Below w4.heap.size w4 (w4.alloc (.cells #[S r.part, .int .i64 r.key, .int .i64 r.val] 36)) := (Below.refl _ _).alloc (Nat.le_refl _) _
    have CB := Lib.hid (fun W (h : Below (w4.alloc (.cells #[S r.part, .int .i64 r.key, .int .i64 r.val] 36)).heap.size (w4.alloc (.cells #[S r.part, .int .i64 r.key, .int .i64 r.val] 36)) W) => rowCells (r := r) (w := w4) rfl h)
    have hb35 := hb4.trans (hba.mono hb4.size)
    go_upto_region 6 with fail
    generalize w4.alloc (.cells #[S r.part, .int .i64 r.key, .int .i64 r.val] 36) = w5 at *
    have hb5' := hb3'.trans (hb35.mono hb3'.size)
    have Hev5 := Lib.hid (Hev3.out.below hb35)
    clear hb4 hba HRR Hev3
    go_wp2_with fail
    refine (isName_any tx 8 w5 (by have := HT1.out; omega)).mono ?_
    rintro e w6 ⟨rfl, rfl⟩
    have HCd := Lib.hid (codedT_any E B ec ev w5 (X.out _ hb5').1 (X.out _ hb5').2.1 Hev5.out)
    go_wp2_with fail
    refine HCd.out.mono ?_
    rintro e w6 ⟨rfl, hb6⟩
    have hb36 := hb35.trans (hb6.mono hb35.size)
    have hb6' := hb5'.trans (hb6.mono hb5'.size)
    obtain ⟨c0, c1, c2⟩ := CA.out _ hb36
    obtain ⟨d0, d1, d2⟩ := CB.out _ hb6
    have hn := rw_neq r r
    have hgd := rw_guard
    simp only [decide_true, Bool.not_true] at hn
    have hnm := rowName_any tx w6 (by have := HT1.out; omega)
    rw [nameOk_eq] at hnm
    have HNm := Lib.hid hnm
    clear hnm HCd Hev5 hb35 hb5'
    obtain ⟨nb, hnb⟩ : ∃ nb, nameB tx 8 = nb := ⟨_, rfl⟩
    rw [hnb] at HNm ⊢
    clear hnb
    go_wp2_with fail
    refine HNm.out.mono ?_
    rintro e w7 ⟨rfl, hb7⟩
    have hb7' := hb6'.trans (hb7.mono hb6'.size)
    have hbb : (nb != nb) = false := by cases nb <;> rfl
    clear c0 c1 c2 d0 d1 d2 hn hgd CA CB hb6 hb36 hb7 HNm hb6'
    go_upto_block 0 with fail
    go_cut [19] (fun t wx => Below w7.heap.size w7 wx)
    case first =>
      go_wp2_with fail
      go_loopw [19] (fun i wx => ∃ k : Nat, i = .int .i64 k ∧ k ≤ l.length ∧ Below w7.heap.size w7 wx) (fun i _ => l.length - (intOf i).toNat)
      case atStart => exact ⟨0, rfl, by omega, Below.refl _ _⟩
      case round =>
        obtain ⟨k, rfl, hk, hbr⟩ := hrel
        by_cases hlt : k < l.length
        case neg =>
          have f : decide ((k : Int) < (l.length : Int)) = false := by simp; omega
          go_wp2_with fail
          go_meet
          exact hbr
        obtain ⟨x, hxk⟩ := get_ex hlt
        have CX := Lib.hid (fun W (h : Below w.heap.size w W) => rwCells HX.out h hxk)
        have i1 := idx_at (c := c) 3 Tryz.underlying22 szRw ha k hlt
        have f : (k : Int) < (l.length : Int) := by omega
        have HSx := Lib.hid (HSh.out x (List.mem_of_getElem? hxk))
        have hwr := hb7'.trans (hbr.mono hb7'.size)
        have hbD : Below w.heap.size w wr.drew := hwr.drew
        have hb7D : Below w7.heap.size w7 wr.drew := hbr.drew
        have hC1 := fun W (h : Below w.heap.size w W) => rowCheck_any E B x W ((X.out _ h).1.sub (by decide)) (by have := HSx.out; omega)
        have hC2 := fun W => rowError_any x W (by have := HSx.out; omega)
        have hC4 := fun W (h : Below w.heap.size w W) => rowText_any E B x W ((X.out _ h).1.sub (by decide)) (X.out _ h).2.2.1 (by have := HSx.out; omega)
        have hC5 := fun W => refRowText_any x W (by have := HSx.out; omega)
        obtain ⟨n, hn⟩ : ∃ n, rowCheck x = n := ⟨_, rfl⟩
        obtain ⟨tl, htl⟩ : ∃ tl, rowText x = tl := ⟨_, rfl⟩
        simp only [rowEr, hn] at hC1
        simp only [hn] at hC2
        simp only [htl] at hC4 hC5
        have HC1 := Lib.hid hC1; have HC2 := Lib.hid hC2; have HC4 := Lib.hid hC4; have HC5 := Lib.hid hC5
        have HXk := Lib.hid hxk; have HKr := Lib.hid hk
        clear hC1 hC2 hC4 hC5 hn htl hxk hbr hwr hk
        obtain ⟨c0, c1, c2⟩ := CX.out _ hbD
        have HLt := Lib.hid hlt
        clear hlt
        go_upto_if 103 with fail
        go_cut [103] (fun u wx => u = .bool false ∧ Below w7.heap.size w7 wx)
        case first =>
          go_wp2_with fail
          first
            | go_region_held3 (fun w' => w'.cell? ⟨b, o + k * 3, none⟩ = some (S x.part) ∧ w'.cell? ⟨b, o + k * 3 + 1, none⟩ = some (.int .i64 x.key) ∧ w'.cell? ⟨b, o + k * 3 + 2, none⟩ = some (.int .i64 x.val)) (exact ⟨c0, c1, c2⟩) (first
                | (go_at_call 28; (with_reducible refine (HC1.out _ hbD).mono ?_); rintro e w8 ⟨ev, rfl, hev, hb8⟩; have hb8' := hbD.trans (hb8.mono hbD.size); have h78 := hb7D.trans (hb8.mono hb7D.size); have HEv8 := Lib.hid hev; clear c0 c1 c2 hev hb8; obtain ⟨c0, c1, c2⟩ := CX.out _ hb8')
                | (go_at_call 47; (with_reducible refine (HC2.out _).mono ?_); rintro e w9 ⟨rfl, hb9⟩; have hb9' := hb8'.trans (hb9.mono hb8'.size); have h79 := h78.trans (hb9.mono h78.size); have HEv9 := Lib.hid (HEv8.out.below hb9); clear c0 c1 c2 hb9 HEv8; obtain ⟨c0, c1, c2⟩ := CX.out _ hb9')
                | (go_at_call 45; have _t := HEv9; refine (codedT_any E B n _ _ (X.out _ hb9').1 (X.out _ hb9').2.1 HEv9.out).mono ?_; rintro e w10 ⟨rfl, hb10⟩; have hb10' := hb9'.trans (hb10.mono hb9'.size); have h710 := h79.trans (hb10.mono h79.size); clear _t c0 c1 c2 hb10 HEv9; obtain ⟨c0, c1, c2⟩ := CX.out _ hb10')
                | (go_at_call 30; (with_reducible refine (HC4.out _ hb10').mono ?_); rintro e w11 ⟨rfl, hb11⟩; have hb11' := hb10'.trans (hb11.mono hb10'.size); have h711 := h710.trans (hb11.mono h710.size); clear c0 c1 c2 hb11; obtain ⟨c0, c1, c2⟩ := CX.out _ hb11')
                | (go_at_call 57; (with_reducible refine (HC5.out _).mono ?_); rintro e w12 ⟨rfl, hb12⟩; have hb12' := hb11'.trans (hb12.mono hb11'.size); have h712 := h711.trans (hb12.mono h711.size); clear c0 c1 c2 hb12; obtain ⟨c0, c1, c2⟩ := CX.out _ hb12'))
            | fail
          all_goals
            go_wp2_with fail
            go_meet
            exact ⟨rfl, h712⟩
        case rest =>
          obtain ⟨rfl, hbx⟩ := hcut
          obtain ⟨wo, rfl⟩ : ∃ wo, wo = wc := ⟨wc, rfl⟩
          clear c0 c1 c2 hbD hb7D HC1 HC2 HC4 HC5
          have hbw := hb7'.trans (hbx.mono hb7'.size)
          by_cases hk0 : k = 0
          · subst hk0
            go_wp2_with fail
            go_roundw
            case rel => exact ⟨1, by go_num, by have := HLt.out; omega, hbx⟩
            case measure => simp [intOf]; have := HLt.out; omega
          have hk0' : 0 < k := by omega
          obtain ⟨y, hyp⟩ := get_ex (l := l) (k := k - 1) (by have := HLt.out; omega)
          have hcast : ((k - 1 : Nat) : Int) = (k : Int) - 1 := by omega
          have i2 := idx_at (c := c) 3 Tryz.underlying22 szRw ha (k - 1) (by have := HLt.out; omega)
          simp only [hcast] at i2
          have hwk : IntKind.i64.wrap ((k : Int) - 1) = (k : Int) - 1 := by rw [IntKind.wrap_i64]; omega
          have hp2 : (0 : Int) ≤ (k : Int) - 1 := by omega
          have hp3 : (1 : Int) ≤ (k : Int) := by omega
          have CY := Lib.hid (fun W (h : Below w.heap.size w W) => rwCells HX.out h hyp)
          have hC6 := fun W => isLess_any y x W
          have hC7 := fun W => rowLess_any y x W
          obtain ⟨lb, hlb⟩ : ∃ lb, lessR y x = lb := ⟨_, rfl⟩
          rw [hlb] at hC6 hC7
          have hbq : (lb != lb) = false := by cases lb <;> rfl
          have HC6 := Lib.hid hC6; have HC7 := Lib.hid hC7
          clear hC6 hC7 hlb hyp hcast hk0
          have hbD : Below w.heap.size w wo.drew := hbw.drew
          have hb7D : Below w7.heap.size w7 wo.drew := hbx.drew
          obtain ⟨c0, c1, c2⟩ := CX.out _ hbD
          obtain ⟨d0, d1, d2⟩ := CY.out _ hbD
          go_wp2_with fail
          first
            | go_region_held3 (fun w' => w'.cell? ⟨b, o + k * 3, none⟩ = some (S x.part) ∧ w'.cell? ⟨b, o + k * 3 + 1, none⟩ = some (.int .i64 x.key) ∧ w'.cell? ⟨b, o + k * 3 + 2, none⟩ = some (.int .i64 x.val) ∧ w'.cell? ⟨b, o + (k - 1) * 3, none⟩ = some (S y.part) ∧ w'.cell? ⟨b, o + (k - 1) * 3 + 1, none⟩ = some (.int .i64 y.key) ∧ w'.cell? ⟨b, o + (k - 1) * 3 + 2, none⟩ = some (.int .i64 y.val)) (exact ⟨c0, c1, c2, d0, d1, d2⟩) ((go_at_call 58; (with_reducible refine (HC6.out _).mono ?_); rintro e w8 ⟨rfl, hb8⟩; have hb8' := hbD.trans (hb8.mono hbD.size); have h78 := hb7D.trans (hb8.mono hb7D.size); clear c0 c1 c2 d0 d1 d2 hb8; obtain ⟨c0, c1, c2⟩ := CX.out _ hb8'; obtain ⟨d0, d1, d2⟩ := CY.out _ hb8'))
            | fail
          all_goals
            have hbE : Below w.heap.size w w8.drew := hb8'.drew
            have hb7E : Below w7.heap.size w7 w8.drew := h78.drew
            clear c0 c1 c2 d0 d1 d2 hbD hb7D
            obtain ⟨c0, c1, c2⟩ := CX.out _ hbE
            obtain ⟨d0, d1, d2⟩ := CY.out _ hbE
            go_wp2_with fail
            first
              | go_region_held3 (fun w' => w'.cell? ⟨b, o + k * 3, none⟩ = some (S x.part) ∧ w'.cell? ⟨b, o + k * 3 + 1, none⟩ = some (.int .i64 x.key) ∧ w'.cell? ⟨b, o + k * 3 + 2, none⟩ = some (.int .i64 x.val) ∧ w'.cell? ⟨b, o + (k - 1) * 3, none⟩ = some (S y.part) ∧ w'.cell? ⟨b, o + (k - 1) * 3 + 1, none⟩ = some (.int .i64 y.key) ∧ w'.cell? ⟨b, o + (k - 1) * 3 + 2, none⟩ = some (.int .i64 y.val)) (exact ⟨c0, c1, c2, d0, d1, d2⟩) ((go_at_call 25; (with_reducible refine (HC7.out _).mono ?_); rintro e w9 ⟨rfl, hb9⟩; have hb9' := hbE.trans (hb9.mono hbE.size); have h79 := hb7E.trans (hb9.mono hb7E.size); clear c0 c1 c2 d0 d1 d2 hb9; obtain ⟨c0, c1, c2⟩ := CX.out _ hb9'; obtain ⟨d0, d1, d2⟩ := CY.out _ hb9'))
              | fail
            all_goals
              go_wp2_with fail
              go_roundw
              case rel => exact ⟨k + 1, by go_num, by have := HLt.out; omega, h79⟩
              case measure => simp [intOf]; have := HLt.out; omega
    case rest =>
      have hb8 := hb7'.trans (hcut.mono hb7'.size)
      obtain ⟨w8, rfl⟩ : ∃ w8, w8 = wc := ⟨wc, rfl⟩
      clear hcut hb7'
      have hsk := (X.out _ hb8).2.2.2.2.2.2.src encI_enc (by decide)
      have hLl := HL.out; have hMl := HMl.out; have hKl := HK.out
      have HKb := Lib.hid (show ks.length ≤ maxLen ∧ 0 + ks.length ≤ 100000 by unfold maxLen; omega)
      clear hLl hMl hKl
      go_wp2_with (at_builtin; refine wpList_app rfl _ _ _ rfl w8.heap.size elInt (.slice none 0 0) 0 [] rfl (Own.nil encI _ 1 _ _) _ _ _ rfl hsk (by have := HK.out; unfold maxLen; omega) (by have := HK.out; omega) (Nat.le_refl _) ?_; intro v9 w9 hown9 hg9 _)
      have hb9 : Below w8.heap.size w8 w9 := (Below.refl _ _).grown hg9 (Nat.le_refl _) (fun k hk => by cases hk)
      have hown9' : Own encI 3 1 w8.heap.size w9 v9 ks := by simpa [Own] using hown9
      have hb9' := hb8.trans (hb9.mono hb8.size)
      have HK9 := Lib.hid (fun W (h : Below w9.heap.size w9 W) => (hown9'.below h).at encI_enc)
      have HO := Lib.hid (ownRows_any _ l w9 (X.out _ hb9').2.2.2.2.1 (by have := HL.out; omega))
      clear hsk hown9 hown9' hg9 hb9 hb8 HKb
      go_wp2_with fail
      refine HO.out.mono ?_
      rintro e w10 ⟨v10, rfl, hown10, hb10⟩
      have hb10' := hb9'.trans (hb10.mono hb9'.size)
      have h910 := hb10
      have HR10 := Lib.hid (fun W (h : Below w10.heap.size w10 W) => (hown10.below h).at encR_enc)
      have hr10 := Below.refl w10.heap.size w10
      clear hown10 hb10 HO hb9'
      obtain ⟨sb, hsb⟩ : ∃ sb, decide (sortR l = sortR m) = sb := ⟨_, rfl⟩
      have hbe : (sb == sb) = true := by cases sb <;> rfl
      have hc11 := refSortRows_any _ l w10 (X.out _ hb10').2.2.2.2.1 (by have := HL.out; omega)
      have HC11 := Lib.hid hc11
      clear hc11
      go_wp2_with fail
      refine HC11.out.mono ?_
      rintro e w11 ⟨v11, rfl, ho11, hb11⟩
      have HA11 := Lib.hid (fun W (h : Below w11.heap.size w11 W) => ho11.below h)
      clear ho11
      have hb11' := hb10'.trans (hb11.mono hb10'.size)
      have hr11 := hr10.trans (hb11.mono hr10.size)
      clear HC11 hb10' hr10
      have hc12 := refSortRows_any _ m w11 (X.out _ hb11').2.2.2.2.2.1 (by have := HMl.out; omega)
      have HC12 := Lib.hid hc12
      clear hc12
      go_wp2_with fail
      refine HC12.out.mono ?_
      rintro e w12 ⟨v12, rfl, ho12, hb12⟩
      have HA12 := Lib.hid (fun W (h : Below w12.heap.size w12 W) => ho12.below h)
      clear ho12
      have hb12' := hb11'.trans (hb12.mono hb11'.size)
      have hr12 := hr11.trans (hb12.mono hr11.size)
      clear HC12 hb11' hr11
      have hc13 := sameRows_any _ _ (sortR l) (sortR m) w12 (HA11.out _ hb12) (HA12.out _ (Below.refl _ _))
      rw [hsb] at hc13
      have HC13 := Lib.hid hc13
      clear hc13
      go_wp2_with fail
      refine HC13.out.mono ?_
      rintro e w13 ⟨rfl, hb13⟩
      have hb13' := hb12'.trans (hb13.mono hb12'.size)
      have hr13 := hr12.trans (hb13.mono hr12.size)
      clear HC13 hb12' hr12
      have hc14 := rowSort_any _ l w13 (HR10.out _ hr13) (by have := HL.out; omega)
      have HC14 := Lib.hid hc14
      clear hc14
      go_wp2_with fail
      refine HC14.out.mono ?_
      rintro e w14 ⟨v14, rfl, ho14, hb14⟩
      have HA14 := Lib.hid (fun W (h : Below w14.heap.size w14 W) => (ho14.below h).at encR_enc)
      clear ho14
      have hb14' := hb13'.trans (hb14.mono hb13'.size)
      have hr14 := hr13.trans (hb14.mono hr13.size)
      clear HC14 hb13' hr13
      have hc15 := refSortRows_any _ l w14 (X.out _ hb14').2.2.2.2.1 (by have := HL.out; omega)
      have HC15 := Lib.hid hc15
      clear hc15
      go_wp2_with fail
      refine HC15.out.mono ?_
      rintro e w15 ⟨v15, rfl, ho15, hb15⟩
      have HA15 := Lib.hid (fun W (h : Below w15.heap.size w15 W) => ho15.below h)
      clear ho15
      have hb15' := hb14'.trans (hb15.mono hb14'.size)
      have hr15 := hr14.trans (hb15.mono hr14.size)
      clear HC15 hb14' hr14
      have hc16 := sameRows_any _ _ (sortR l) (sortR l) w15 (HA14.out _ hb15) (HA15.out _ (Below.refl _ _))
      rw [decide_eq_true (rfl : sortR l = sortR l)] at hc16
      have HC16 := Lib.hid hc16
      clear hc16
      go_wp2_with fail
      refine HC16.out.mono ?_
      rintro e w16 ⟨rfl, hb16⟩
      have hb16' := hb15'.trans (hb16.mono hb15'.size)
      have hr16 := hr15.trans (hb16.mono hr15.size)
      clear HC16 hb15' hr15
      have hc17 := ownRows_any _ m w16 (X.out _ hb16').2.2.2.2.2.1 (by have := HMl.out; omega)
      have HC17 := Lib.hid hc17
      clear hc17
      go_wp2_with fail
      refine HC17.out.mono ?_
      rintro e w17 ⟨v17, rfl, ho17, hb17⟩
      have HA17 := Lib.hid (fun W (h : Below w17.heap.size w17 W) => (ho17.below h).at encR_enc)
      clear ho17
      have hb17' := hb16'.trans (hb17.mono hb16'.size)
      have hr17 := hr16.trans (hb17.mono hr16.size)
      clear HC17 hb16' hr16
      have hc18 := rowSame_any _ _ l m w17 (HR10.out _ hr17) (HA17.out _ (Below.refl _ _)) (by have := HL.out; omega) (by have := HMl.out; omega)
      rw [hsb] at hc18
      have HC18 := Lib.hid hc18
      clear hc18
      go_wp2_with fail
      refine HC18.out.mono ?_
      rintro e w18 ⟨rfl, hb18⟩
      have hb18' := hb17'.trans (hb18.mono hb17'.size)
      have hr18 := hr17.trans (hb18.mono hr17.size)
      clear HC18 hb17' hr17
      have hr9 := h910.trans (hr18.mono h910.size)
      have hc19 := rowDrop_any _ _ l ks w18 (HR10.out _ hr18) (HK9.out _ hr9) (by have := HL.out; omega) (by have := HK.out; omega)
      have HC19 := Lib.hid hc19
      clear hc19
      go_wp2_with fail
      refine HC19.out.mono ?_
      rintro e w19 ⟨v19, rfl, ho19, hb19⟩
      have HA19 := Lib.hid (fun W (h : Below w19.heap.size w19 W) => (ho19.below h).at encR_enc)
      clear ho19
      have hb19' := hb18'.trans (hb19.mono hb18'.size)
      have hr19 := hr18.trans (hb19.mono hr18.size)
      clear HC19 hb18' hr18
      have hc20 := dropRows_any _ _ l ks w19 (X.out _ hb19').2.2.2.2.1 (X.out _ hb19').2.2.2.2.2.2 (by have := HL.out; omega)
      have HC20 := Lib.hid hc20
      clear hc20
      go_wp2_with fail
      refine HC20.out.mono ?_
      rintro e w20 ⟨v20, rfl, ho20, hb20⟩
      have HA20 := Lib.hid (fun W (h : Below w20.heap.size w20 W) => (ho20.below h).at encR_enc)
      clear ho20
      have hb20' := hb19'.trans (hb20.mono hb19'.size)
      have hr20 := hr19.trans (hb20.mono hr19.size)
      clear HC20 hb19' hr19
      have hc21 := sameRows_any _ _ (dropR l ks) (dropR l ks) w20 (HA19.out _ hb20) (HA20.out _ (Below.refl _ _))
      rw [decide_eq_true (rfl : dropR l ks = dropR l ks)] at hc21
      have HC21 := Lib.hid hc21
      clear hc21
      go_wp2_with fail
      refine HC21.out.mono ?_
      rintro e w21 ⟨rfl, hb21⟩
      have hb21' := hb20'.trans (hb21.mono hb20'.size)
      have hr21 := hr20.trans (hb21.mono hr20.size)
      clear HC21 hb20' hr20
      have hc22 := rowWithin_any _ l lo hi w21 (HR10.out _ hr21) (by have := HL.out; omega)
      have HC22 := Lib.hid hc22
      clear hc22
      go_wp2_with fail
      refine HC22.out.mono ?_
      rintro e w22 ⟨v22, rfl, ho22, hb22⟩
      have HA22 := Lib.hid (fun W (h : Below w22.heap.size w22 W) => (ho22.below h).at encR_enc)
      clear ho22
      have hb22' := hb21'.trans (hb22.mono hb21'.size)
      have hr22 := hr21.trans (hb22.mono hr21.size)
      clear HC22 hb21' hr21
      have hc23 := withinRows_any _ l lo hi w22 (X.out _ hb22').2.2.2.2.1 (by have := HL.out; omega)
      have HC23 := Lib.hid hc23
      clear hc23
      go_wp2_with fail
      refine HC23.out.mono ?_
      rintro e w23 ⟨v23, rfl, ho23, hb23⟩
      have HA23 := Lib.hid (fun W (h : Below w23.heap.size w23 W) => (ho23.below h).at encR_enc)
      clear ho23
      have hb23' := hb22'.trans (hb23.mono hb22'.size)
      have hr23 := hr22.trans (hb23.mono hr22.size)
      clear HC23 hb22' hr22
      have hc24 := sameRows_any _ _ (withinR l lo hi) (withinR l lo hi) w23 (HA22.out _ hb23) (HA23.out _ (Below.refl _ _))
      rw [decide_eq_true (rfl : withinR l lo hi = withinR l lo hi)] at hc24
      have HC24 := Lib.hid hc24
      clear hc24
      go_wp2_with fail
      refine HC24.out.mono ?_
      rintro e w24 ⟨rfl, hb24⟩
      have hb24' := hb23'.trans (hb24.mono hb23'.size)
      have hr24 := hr23.trans (hb24.mono hr23.size)
      clear HC24 hb23' hr23
      have hc25 := sameRows_any _ _ l l w24 (HR10.out _ hr24) (X.out _ hb24').2.2.2.2.1
      rw [decide_eq_true (rfl : l = l)] at hc25
      have HC25 := Lib.hid hc25
      clear hc25
      go_wp2_with fail
      refine HC25.out.mono ?_
      rintro e w25 ⟨rfl, hb25⟩
      have hb25' := hb24'.trans (hb25.mono hb24'.size)
      have hr25 := hr24.trans (hb25.mono hr24.size)
      clear HC25 hb24' hr24
      go_wp2_with fail
      go_ret
      exact ⟨rfl, hb25'⟩
end Go.Proofs.YtcdcfolhnjgigaaGreatDoor
namespace Go.Proofs.YtcdcfolhnjgigaaGreatDoor
open Go.ChangeShapes Go.WideShapes Go.ChangeAt Go.WideMaps Go.WideElems Go.RowKit

theorem own : ownKnob Tryz.prog.godebug = none := by kernel_rfl

theorem rowTells_met (os : Os) (args : Array Value) : laidMetH Tryz.prog Rows.rowTellsRow.laid ((witW os Rows.rowTellsRow.laid).forCall (fun _ _ => 0) ⟨#[], args, []⟩).memory := by
  exact witW_met os Rows.rowTellsRow.laid args (by kernel_rfl) (by kernel_rfl) (by kernel_rfl)

def rowTellsIdx : Nat → Nat
  | 1 => 4
  | 2 => 5
  | 3 => 6
  | 4 => 7
  | 5 => 8
  | 6 => 9
  | 7 => 10
  | 8 => 11
  | 9 => 12
  | 10 => 13
  | 11 => 14
  | _ => 15

theorem rowTells_errs {W : World} (h : laidMet Tryz.prog (Rows.rowTellsRow.laid.filter fun x => x.2.handleName?.isNone) W) : Errs allE (addrOf W) W.heap.size W := by
  refine errs_of_laid h allE rowTellsIdx (by decide) ?_ ?_ ?_
  · intro c hc
    simp only [allE, List.mem_cons, List.mem_nil_iff, or_false] at hc
    rcases hc with rfl | rfl | rfl | rfl | rfl | rfl | rfl | rfl | rfl | rfl | rfl | rfl
    · exact gn1
    · exact gn2
    · exact gn3
    · exact gn4
    · exact gn5
    · exact gn6
    · exact gn7
    · exact gn8
    · exact gn9
    · exact gn10
    · exact gn11
    · exact gn12
  · intro c hc
    simp only [allE, List.mem_cons, List.mem_nil_iff, or_false] at hc
    rcases hc with rfl | rfl | rfl | rfl | rfl | rfl | rfl | rfl | rfl | rfl | rfl | rfl
    · exact gt1
    · exact gt2
    · exact gt3
    · exact gt4
    · exact gt5
    · exact gt6
    · exact gt7
    · exact gt8
    · exact gt9
    · exact gt10
    · exact gt11
    · exact gt12
  · intro c hc
    simp only [allE, List.mem_cons, List.mem_nil_iff, or_false] at hc
    rcases hc with rfl | rfl | rfl | rfl | rfl | rfl | rfl | rfl | rfl | rfl | rfl | rfl <;> exact ⟨_, rfl⟩

theorem rowTells_num {W : World} (h : laidMet Tryz.prog (Rows.rowTellsRow.laid.filter fun x => x.2.handleName?.isNone) W) (hsh : W.ShapedOpen Tryz.prog) : LNum W.heap.size W :=
  lnum_of (i := 2) (j := 17) (k := 16) h hsh (by kernel_rfl) (by rfl) (by rfl)

set_option maxRecDepth 100000 in
theorem rowTells_lifted (os : Os) (started : os.Started) (H : Type) (enc : TypeId × Value → H) :
    ReturnsInHanded {} Tryz.checked os 9 .any (fun w args => (Rows.rowTellsSpec.pre enc Tryz.prog Tryz.f9 [] false w args ∧ laidMetH Tryz.prog Rows.rowTellsRow.laid w) ∧ sizedMet enc Tryz.prog Tryz.f9 (OpenSpec.ofChange Rows.rowTellsSpec) false w args)
      (Rows.rowTellsSpec.post enc Tryz.prog Tryz.f9 false true false false) := by
  refine handed_both (C := Tryz.checked) (X := fun w _ => laidMetH Tryz.prog Rows.rowTellsRow.laid w) (fun _ _ _ hh h => h.of_heap hh) own started (by kernel_rfl) Tryz.func9
    (ChangeSpec.witness_shaped (enc := enc) (C := Tryz.checked) (os := os) (X := fun w _ => laidMetH Tryz.prog Rows.rowTellsRow.laid w) false (witW os Rows.rowTellsRow.laid) #[.slice none 0 0, .slice none 0 0, .string ⟨#[]⟩, .slice none 0 0, .int .i64 0, .int .i64 0] 8 (witW_os _ _)
      (World.shaped_of_ZipB (by kernel_rfl) (by kernel_rfl)) (by kernel_rfl) (by kernel_rfl) (by kernel_rfl) (rowTells_met os _)) ?_
  intro W base args ds gs before hval0 hW hL hsh
  have hval : ∀ (j : Nat) t v, Tryz.f9.params[j]? = some t → args[j]? = some v → Value.okWide Tryz.prog W .any base t v := hval0
  have hW' := hW
  obtain ⟨p, q, hA0, hV, rfl, _, _⟩ := hW
  have hA : DataW.TrodAll enc Tryz.prog W 0 (fun _ => true) true Tryz.f9.params.toList args.toList ds p := hA0
  rw [Tryz.params9] at hA hval
  obtain ⟨v1, v2, v3, v4, v5, v6, d1, d2, d3, d4, d5, d6, p1, p2, p3, p4, p5, p6, rfl, rfl, rfl, h1, h2, h3, h4, h5, h6⟩ := trodAll_six hA
  obtain ⟨rfl, rfl⟩ := trodVars_none hV
  simp only [List.append_nil] at hW'
  clear hA0 hval0
  have hlt : ∀ x ∈ p1 ++ p2 ++ p3 ++ p4 ++ p5 ++ p6, x.block < W.heap.size := fun x hx => by simpa using hW'.lt x (by simpa using hx)
  have h' : laidMet Tryz.prog (Rows.rowTellsRow.laid.filter fun x => x.2.handleName?.isNone) W ∧ handlesMet Tryz.prog (Rows.rowTellsRow.laid.filter fun x => x.2.handleName?.isSome) W := hL
  have hL' := h'.1
  have hAs : AsVar W := asVar_of_laid h'.2 (List.mem_filter.2 ⟨by simp [Rows.rowTellsRow, Rows.laid_errors_errorType], rfl⟩)
  have hgB : 13 < W.heap.size := World.block_lt_of_cell? W ⟨13, 0, none⟩ hAs
  obtain ⟨l1, a1, b1⟩ := rows_came (hval 0 22 v1 rfl rfl) h1
  obtain ⟨l2, a2, b2⟩ := rows_came (hval 1 22 v2 rfl rfl) h2
  obtain ⟨l3, rfl, b3⟩ := str_came (hval 2 9 v3 rfl rfl) h3
  obtain ⟨l4, a4, b4⟩ := ints_came (hval 3 39 v4 rfl rfl) h4
  obtain ⟨l5, rfl, b5⟩ := int_came (hval 4 3 v5 rfl rfl) h5
  obtain ⟨l6, rfl, b6⟩ := int_came (hval 5 3 v6 rfl rfl) h6
  refine (rowTells_any (addrOf W) _ v1 l1 v2 l2 l3 v4 l4 l5 l6 W (rowTells_errs hL') hAs hgB (rowTells_num hL' hsh) (lmax_of hsh) a1 a2 b3 a4).mono fun e W' ⟨he, hb⟩ => ?_
  subst he
  refine ⟨_, rfl, _, _, _, [], p1 ++ (p2 ++ (p3 ++ (p4 ++ (p5 ++ p6)))), [], hW', ?_, ?_, ?_, hb.frame _, fun h => by cases h⟩
  · exact trodAll_mk1 (shut_bool Tryz.underlying4 true)
  · exact (trodAll_cons_mk (Below.trod laidOut (by kernel_rfl) (of_decide_eq_true (by kernel_rfl)) h1 hb (fun x hx => hlt x (by simp [hx]))) (trodAll_cons_mk (Below.trod laidOut (by kernel_rfl) (of_decide_eq_true (by kernel_rfl)) h2 hb (fun x hx => hlt x (by simp [hx]))) (trodAll_mk4 (Below.trod laidOut (by kernel_rfl) (of_decide_eq_true (by kernel_rfl)) h3 hb (fun x hx => hlt x (by simp [hx]))) (Below.trod laidOut (by kernel_rfl) (of_decide_eq_true (by kernel_rfl)) h4 hb (fun x hx => hlt x (by simp [hx]))) (Below.trod laidOut (by kernel_rfl) (of_decide_eq_true (by kernel_rfl)) h5 hb (fun x hx => hlt x (by simp [hx]))) (Below.trod laidOut (by kernel_rfl) (of_decide_eq_true (by kernel_rfl)) h6 hb (fun x hx => hlt x (by simp [hx]))))))
  · rfl

theorem rowTells_inPlace : (Rows.rowTellsRow.inPlace == Tryz.pinned.checked.prog.inPlace 9) = true := by kernel_rfl

theorem rowTells_unfollowed : (Rows.rowTellsRow.unfollowed == Tryz.pinned.checked.prog.unfollowed 9) = true := by kernel_rfl

theorem rowTells_recurses : (Rows.rowTellsRow.recurses == Tryz.pinned.checked.prog.recurses 9) = true := by kernel_rfl

theorem rowTells_named : (Rows.rowTellsRow.named == Tryz.pinned.checked.prog.varsNamed 9) = true := by kernel_rfl

theorem rowTells_facts : joinedFacts Tryz.pinned.checked.prog 9 Tryz.f9 Rows.rowTellsSpec Rows.rowTellsRow = true := by
  unfold joinedFacts
  rw [rowTells_inPlace, rowTells_unfollowed, rowTells_recurses, rowTells_named]
  kernel_rfl

theorem rowTells_holds : Rows.RowTellsSaid :=
  OpenClaim.holds_of_wide 9 Tryz.f9 rfl rfl rfl rfl rfl rfl rfl ⟨rfl, rfl, rfl, rfl, rfl⟩ rfl rfl rfl rfl rfl (by kernel_rfl) Tryz.func9 rowTells_facts
    (of_decide_eq_true (by kernel_rfl)) (by unfold Func.isWrapper; first | (rw [if_pos (by decide +kernel)]; kernel_rfl) | (rw [if_neg (by decide +kernel)]; exact ⟨rfl, rfl⟩))
    (fun os started H enc _ => rowTells_lifted os started H enc)

theorem rowTells_card_holds : Rows.RowTellsCardSaid :=
  Claim7.holds_tied_plain_at .later [] Rows.rowTellsCard.laidKinds true Rows.rowTellsCard.stood.harness true
    rowTells_holds (fun _ h => by cases h) (by kernel_rfl) (fun _ h => by cases h) rowTells_row_tie rfl ⟨rfl, rfl⟩ (by kernel_rfl) rfl
    (fun f fn hf hfn => by
      obtain rfl : f = 9 := Option.some.inj ((show Tryz.prog.funcNamed "deedbox/deedboxlaw1.RowTells" = some 9 by kernel_rfl).symm.trans hf) |>.symm
      obtain rfl : fn = Tryz.f9 := (Option.some.inj (Tryz.func9.symm.trans hfn)).symm
      exact ⟨by kernel_rfl, fun j t ht => by
        rw [Tryz.params9] at ht
        have hm : t ∈ [22, 22, 9, 39, 3, 3] := by simpa using Array.mem_of_getElem? ht
        have hall : ([22, 22, 9, 39, 3, 3].all fun u => !Tryz.prog.wantsStandIn u) = true := by kernel_rfl
        exact (show Tryz.prog.wantsStandIn t = false by simpa using List.all_eq_true.1 hall t hm)⟩)
    (by kernel_rfl)
#print axioms rowTells_card_holds
end Go.Proofs.YtcdcfolhnjgigaaGreatDoor
