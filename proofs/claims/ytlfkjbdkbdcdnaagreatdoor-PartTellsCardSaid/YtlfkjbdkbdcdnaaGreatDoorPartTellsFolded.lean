/- 'deedboxlaw1.PartTells' returns true at every input: specs are checked, rows' groups are named and rows are split as the document's answer has it, at every spec and every rows. Condition: the package-level variables read as the program's text lays them; the card ties that. -/
import Derived.Test.YtlfkjbdkbdcdnaaGreatDoorBx13
import Derived.Test.YtlfkjbdkbdcdnaaGreatDoorBx8
import Derived.Test.YtlfkjbdkbdcdnaaGreatDoorRows
import Derived.Test.YtlfkjbdkbdcdnaaGreatDoorCards
import Derived.Test.YtlfkjbdkbdcdnaaGreatDoorTie
import Derived.Test.YtlfkjbdkbdcdnaaGreatDoorBx11
import Derived.LaidOnce
import Derived.SevenTiedAt
namespace Go.Proofs.YtlfkjbdkbdcdnaaGreatDoor
open Go.RowKit

theorem coded_at (c : Nat) : codedB (erOf c) (c : Int) = true := by
  unfold codedB erOf
  by_cases h : c = 0
  · rw [if_pos h]; subst h; rfl
  · rw [if_neg h]; simp [Er.code, Er.place]
theorem codedAt_any (E : Nat → Addr) (B : Nat) (c : Nat) (v : Value) (w : World) (hE : Errs allE E B w) (hA : AsVar w) (hv : ErV E w v (erOf c)) :
    Calls Tryz.prog 24 #[v, .int .i64 (c : Int)] w fun e w' => e = .returned (.bool true) ∧ Below w.heap.size w w' := by
  have h := coded1_any E B (erOf c) v (c : Int) w hE hA hv
  rwa [coded_at] at h
theorem told_self (er : Er) : toldB er er.code er.place = true := by simp [toldB]
theorem faultedAt_any (E : Nat → Addr) (B : Nat) (er : Er) (v : Value) (w : World) (hE : Errs allE E B w) (hA : AsVar w) (hgB : 13 < B) (hv : ErV E w v er) :
    Calls Tryz.prog 29 #[v, .agg #[.int .i64 (er.code : Nat), .int .i64 er.place]] w fun e w' => e = .returned (.bool true) ∧ Below w.heap.size w w' := by
  have h := faulted1_any E B er v er.code er.place w hE hA hgB hv
  rwa [told_self] at h

set_option maxHeartbeats 4000000 in
set_option maxRecDepth 20000 in
theorem partTells_any (E : Nat → Addr) (B : Nat) (sp : Str) (v : Value) (l : List Rw) (w : World) (hE : Errs allE E B w) (hA : AsVar w) (hgB : 13 < B) (hT : LNum B w) (hM : LMax B w) (hl : RowsAt w v l) :
    Calls Tryz.prog 5 #[S sp, v] w fun e w' => e = .returned (.bool true) ∧ Below w.heap.size w w' := by
  have hBw := hE.le
  have hif := isIfaceE
  have X := Lib.hid (fun W (h : Below w.heap.size w W) => (⟨hE.below' h hBw, hA.below (h.mono hBw) hgB, hT.below' h hBw, hM.below' h hBw, hl.below h⟩ : Errs allE E B W ∧ AsVar W ∧ LNum B W ∧ LMax B W ∧ RowsAt W v l))
  obtain ⟨a, c, b, o, rfl, ha, hc, hcm, hx⟩ := hl
  unfold maxLen at hcm
  have HX := Lib.hid hx
  clear hx
  go_enter Tryz.func5, Tryz.ntmps5
  go_wp2_with fail
  refine (parted_any E B w (hE.sub (by decide)) hT hM).mono ?_
  rintro e w1 ⟨rfl, hb1⟩
  by_cases hsp : sp.length ≤ 30
  case neg =>
    have g : (30 : Int) < (sp.length : Int) := by omega
    clear hsp
    go_wp2_with fail
    go_ret
    exact ⟨rfl, hb1⟩
  have g : decide ((30 : Int) < (sp.length : Int)) = false := by simp; omega
  have HSp := Lib.hid hsp
  clear hsp
  go_wp2_with fail
  refine (longRows_any _ l 40 w1 (X.out _ hb1).2.2.2.2).mono ?_
  rintro e w2 ⟨he, rfl⟩
  rcases he with rfl | ⟨rfl, hlen, hsh⟩
  · go_wp2_with fail
    go_ret
    exact ⟨rfl, hb1⟩
  have HLen := Lib.hid (show l.length ≤ 40 by omega)
  have HSh := Lib.hid hsh
  have hl40 : l.length ≤ 40 := by omega
  have HSO := Lib.hid (fun W => refSpecOf_any sp W (by have := HSp.out; omega))
  have HPC := Lib.hid (fun W (h : Below w.heap.size w W) => partCheck_any E B sp W ((X.out _ h).1.sub (by decide)) (X.out _ h).2.2.1 (X.out _ h).2.2.2.1 (by have := HSp.out; omega))
  obtain ⟨cs, hcs⟩ : ∃ cs, (specOf sp).2.2 = cs := ⟨_, rfl⟩
  rw [hcs] at HSO HPC
  have HCs := Lib.hid hcs
  clear hlen hsh g hcs
  go_wp2_with fail
  refine (HSO.out _).mono ?_
  rintro e w2 ⟨rfl, hb2⟩
  have hb2' := hb1.trans (hb2.mono hb1.size)
  generalize (specOf sp).1 = s1 at *
  generalize (specOf sp).2.1 = s2 at *
  go_wp2_with fail
  refine (HPC.out _ hb2').mono ?_
  rintro e w3 ⟨ev, rfl, hev, hb3⟩
  have hb3' := hb2'.trans (hb3.mono hb2'.size)
  have HCd := Lib.hid (codedAt_any E B cs ev w3 (X.out _ hb3').1 (X.out _ hb3').2.1 hev)
  clear hev hb3 hb2
  go_wp2_with fail
  refine HCd.out.mono ?_
  rintro e w4 ⟨rfl, hb4⟩
  have hb4' := hb3'.trans (hb4.mono hb3'.size)
  clear hb4 HCd HPC HSO
  go_upto_block 0 with fail
  go_cut [9] (fun u wx => Below w.heap.size w wx)
  case first =>
    go_wp2_with fail
    go_loopw [9] (fun i wr => ∃ k : Nat, k ≤ l.length ∧ i = .int .i64 k ∧ Below w.heap.size w wr) (fun i _ => l.length - (intOf i).toNat)
    case atStart => exact ⟨0, by omega, rfl, hb4'⟩
    case round =>
      obtain ⟨k, hk, rfl, hbr⟩ := hrel
      obtain ⟨wo, rfl⟩ : ∃ wo, wo = wr := ⟨wr, rfl⟩
      by_cases hlt : k < l.length
      case neg =>
        have f : decide ((k : Int) < (l.length : Int)) = false := by simp; omega
        go_wp2_with fail
        go_meet
        exact hbr
      obtain ⟨x, hxk⟩ := get_ex hlt
      have CX := Lib.hid (fun W (h : Below w.heap.size w W) => rwCells HX.out h hxk)
      have i1 := idx_at (c := c) 3 Tryz.underlying22 szRw ha k hlt
      have hk1 : (k : Int) < (l.length : Int) := by omega
      have HRx := Lib.hid (HSh.out x (List.mem_of_getElem? hxk))
      clear hxk
      obtain ⟨c0, c1, c2⟩ := CX.out _ hbr
      have hO := partOf_any E B sp x wo ((X.out _ hbr).1.sub (by decide)) (X.out _ hbr).2.2.1 (X.out _ hbr).2.2.2.1 (by have := HSp.out; omega) (by have := HRx.out; omega)
      by_cases h0 : cs = 0
      case neg =>
        have hA : ofAns sp x = ([], cs) := by unfold ofAns; rw [HCs.out, if_pos h0]
        rw [hA] at hO
        have HO := Lib.hid hO
        have ge1 : ((cs : Int) == 0) = false := by simpa using h0
        have ge2 : (0 : Int) < (cs : Int) := by omega
        clear hO hA h0
        go_wp2_with fail
        refine HO.out.mono ?_
        rintro e w5 ⟨ev, rfl, hev, hb5⟩
        have hb5' := hbr.trans (hb5.mono hbr.size)
        have HCd := Lib.hid (codedAt_any E B cs ev w5 (X.out _ hb5').1 (X.out _ hb5').2.1 hev)
        clear c0 c1 c2 hev HO
        go_wp2_with fail
        refine HCd.out.mono ?_
        rintro e w6 ⟨rfl, hb6⟩
        go_wp2_with fail
        go_roundw
        case rel => exact ⟨k + 1, by omega, by go_num, hb5'.trans (hb6.mono hb5'.size)⟩
        case measure => simp [intOf]; omega
      have ge0 : ((cs : Int) == 0) = true := by simpa using h0
      have HCs0 : Hid ((specOf sp).2.2 = 0) := Lib.hid (HCs.out.trans h0)
      clear h0
      by_cases hck : rowCheck x = 0
      case neg =>
        have hA : ofAns sp x = ([], rowCheck x) := by unfold ofAns; rw [HCs0.out, if_neg (by simp), if_pos hck]
        rw [hA] at hO
        have HO := Lib.hid hO
        have HRe := Lib.hid (fun W => rowError_any x W (by have := HRx.out; omega))
        obtain ⟨cx, hcx⟩ : ∃ cx, rowCheck x = cx := ⟨_, rfl⟩
        rw [hcx] at hck HO HRe
        have ge1 : ((cx : Int) == 0) = false := by simpa using hck
        have ge2 : (0 : Int) < (cx : Int) := by omega
        clear hO hA hck hcx
        go_wp2_with fail
        refine HO.out.mono ?_
        rintro e w5 ⟨ev, rfl, hev, hb5⟩
        have hb5' := hbr.trans (hb5.mono hbr.size)
        clear c0 c1 c2 HO
        obtain ⟨c0, c1, c2⟩ := CX.out _ hb5'
        go_wp2_with fail
        refine (HRe.out _).mono ?_
        rintro e w6 ⟨rfl, hb6⟩
        have hb6' := hb5'.trans (hb6.mono hb5'.size)
        have HCd := Lib.hid (codedAt_any E B cx ev w6 (X.out _ hb6').1 (X.out _ hb6').2.1 (hev.below hb6))
        clear c0 c1 c2 hev
        go_wp2_with fail
        refine HCd.out.mono ?_
        rintro e w7 ⟨rfl, hb7⟩
        go_wp2_with fail
        go_roundw
        case rel => exact ⟨k + 1, by omega, by go_num, hb6'.trans (hb7.mono hb6'.size)⟩
        case measure => simp [intOf]; omega
      have hA : ofAns sp x = (groupOf sp x, 0) := ofAns_right HCs0.out hck
      rw [hA] at hO
      have HO := Lib.hid hO
      have hRe := fun W => rowError_any x W (by have := HRx.out; omega)
      rw [hck] at hRe
      have HRe := Lib.hid hRe
      have HGr := Lib.hid (fun W => refGroupOf_any sp x W (by have := HSp.out; omega) HCs0.out hck)
      generalize groupOf sp x = nm at *
      clear hO hA hck hRe
      go_wp2_with fail
      refine HO.out.mono ?_
      rintro e w5 ⟨ev, rfl, hev, hb5⟩
      have hb5' := hbr.trans (hb5.mono hbr.size)
      clear c0 c1 c2 HO
      obtain ⟨c0, c1, c2⟩ := CX.out _ hb5'
      go_wp2_with fail
      refine (HRe.out _).mono ?_
      rintro e w6 ⟨rfl, hb6⟩
      have hb6' := hb5'.trans (hb6.mono hb5'.size)
      have HCd := Lib.hid (codedAt_any E B 0 ev w6 (X.out _ hb6').1 (X.out _ hb6').2.1 (hev.below hb6))
      clear c0 c1 c2 hev
      go_wp2_with fail
      refine HCd.out.mono ?_
      rintro e w7 ⟨rfl, hb7⟩
      have hb7' := hb6'.trans (hb7.mono hb6'.size)
      obtain ⟨c0, c1, c2⟩ := CX.out _ hb7'
      go_wp2_with fail
      refine (HGr.out _).mono ?_
      rintro e w8 ⟨rfl, hb8⟩
      go_wp2_with fail
      go_roundw
      case rel => exact ⟨k + 1, by omega, by go_num, hb7'.trans (hb8.mono hb7'.size)⟩
      case measure => simp [intOf]; omega
  case rest =>
    obtain ⟨w5, rfl⟩ : ∃ w5, w5 = wc := ⟨wc, rfl⟩
    have hb5' := hcut
    clear hcut hb4'
    go_wp2_with fail
    refine (ownRows_any _ l w5 (X.out _ hb5').2.2.2.2 (by omega)).mono ?_
    rintro e w6 ⟨v2, rfl, hown2, hb6⟩
    have hb6' := hb5'.trans (hb6.mono hb5'.size)
    have HSl := Lib.hid (partSplit_any E B sp v2 l w6 ((X.out _ hb6').1.sub (by decide)) (X.out _ hb6').2.2.1 (X.out _ hb6').2.2.2.1 (hown2.at encR_enc) (by have := HSp.out; omega) (by omega) (fun r hr => by have := HSh.out r hr; omega))
    clear hown2 hb6
    go_wp2_with fail
    refine HSl.out.mono ?_
    rintro e w7 ⟨vg, ev, rfl, hev, hbad, hgood, hb7⟩
    have hb7' := hb6'.trans (hb7.mono hb6'.size)
    have HRS := Lib.hid (refSplitOf_any sp _ l w7 (X.out _ hb7').2.2.2.2 (by have := HSp.out; omega) (by omega) (fun r hr => by have := HSh.out r hr; omega))
    have HEv := Lib.hid hev; have HBad := Lib.hid hbad; have HGood := Lib.hid hgood
    clear hb7 HSl hev hbad hgood
    go_wp2_with fail
    refine HRS.out.mono ?_
    rintro e w8 ⟨ug, rfl, hbad2, hgood2, hb8⟩
    have hb8' := hb7'.trans (hb8.mono hb7'.size)
    have HBad2 := Lib.hid hbad2; have HGood2 := Lib.hid hgood2
    clear hbad2 hgood2 HRS
    obtain ⟨er, her⟩ : ∃ er, splitEr sp l = er := ⟨_, rfl⟩
    rw [her] at HEv HBad HGood HBad2 HGood2 ⊢
    have HEr := Lib.hid her
    clear her
    unfold faultOf faultV
    have hba : Below w8.heap.size w8 (w8.alloc (.cells #[.int .i64 (er.code : Nat), .int .i64 er.place] 56)) := (Below.refl _ _).alloc (Nat.le_refl _) _
    have hb9 := hb8'.trans (hba.mono hb8'.size)
    have HFa := Lib.hid (faultedAt_any E B er ev _ (X.out _ hb9).1 (X.out _ hb9).2.1 hgB (HEv.out.below (hb8.trans (hba.mono hb8.size))))
    by_cases hnil : er = .nil
    case neg =>
      obtain rfl := HBad.out hnil
      obtain rfl := HBad2.out hnil
      clear hnil
      go_wp2_with fail
      refine HFa.out.mono ?_
      rintro e w10 ⟨rfl, hb10⟩
      go_wp2_with fail
      go_loopw [17] (fun i wr => i = .int .i64 0 ∧ w10 = wr) (fun _ _ => 0)
      case atStart => exact ⟨rfl, rfl⟩
      case round =>
        obtain ⟨rfl, rfl⟩ := hrel
        go_wp2_with fail
        go_ret
        exact ⟨rfl, hb9.trans (hb10.mono hb9.size)⟩
    subst hnil
    obtain ⟨gv1, hat1, hn1, hr1⟩ := HGood.out rfl
    obtain ⟨gv2, hat2, hn2, hr2⟩ := HGood2.out rfl
    obtain ⟨m, hm⟩ : ∃ m, (splitG (groupOf sp) l).length = m := ⟨_, rfl⟩
    have hm40 : m ≤ 40 := by have := (splitG_len (groupOf sp) l).1; omega
    have hl1 : gv1.length = m := by
      have := congrArg List.length hn1
      rw [List.length_map, List.length_map] at this
      omega
    have hl2 : gv2.length = m := by
      have := congrArg List.length hn2
      rw [List.length_map, List.length_map] at this
      omega
    obtain ⟨a1, c1, b1, o1, rfl, ha1, hc1, hcm1, hx1⟩ := hat1
    obtain ⟨a2, c2, b2, o2, rfl, ha2, hc2, hcm2, hx2⟩ := hat2
    unfold maxLen at hcm1 hcm2
    rw [hl1] at ha1 hc1 ⊢
    rw [hl2] at ha2 hc2 ⊢
    have HK1 := Lib.hid (fun k x (hk : gv1[k]? = some x) => group_known hn1 hr1 hk)
    have HK2 := Lib.hid (fun k x (hk : gv2[k]? = some x) => group_known hn2 hr2 hk)
    have HX1 := Lib.hid hx1; have HX2 := Lib.hid hx2; have HL1 := Lib.hid hl1; have HL2 := Lib.hid hl2
    clear hn1 hn2 hr1 hr2 hx1 hx2 hl1 hl2 hm
    go_wp2_with fail
    refine HFa.out.mono ?_
    rintro e w10 ⟨rfl, hb10⟩
    have hb810 := hba.trans (hb10.mono hba.size)
    have hb10' := hb8'.trans (hb810.mono hb8'.size)
    go_wp2_with fail
    go_loopw [17] (fun i wr => ∃ k : Nat, k ≤ m ∧ i = .int .i64 k ∧ Below w8.heap.size w8 wr) (fun i _ => m - (intOf i).toNat)
    case atStart => exact ⟨0, by omega, rfl, hb810⟩
    case round =>
      obtain ⟨k, hk, rfl, hbr⟩ := hrel
      by_cases hlt : k < m
      case neg =>
        have f : decide ((k : Int) < (m : Int)) = false := by simp; omega
        go_wp2_with fail
        go_ret
        exact ⟨rfl, hb8'.trans (hbr.mono hb8'.size)⟩
      obtain ⟨x1, hk1⟩ := get_ex (l := gv1) (k := k) (by rw [HL1.out]; exact hlt)
      obtain ⟨x2, hk2⟩ := get_ex (l := gv2) (k := k) (by rw [HL2.out]; exact hlt)
      obtain ⟨g, hg, hnm1, hro1, -, -⟩ := HK1.out k x1 hk1
      obtain ⟨g', hg', hnm2, hro2, -, -⟩ := HK2.out k x2 hk2
      rw [hg] at hg'
      obtain rfl := Option.some.inj hg'
      have hbD : Below w8.heap.size w8 wr.drew := hbr.drew
      have C1 := Lib.hid (fun W (h : Below w8.heap.size w8 W) => gvCells HX1.out (hb8.trans (h.mono hb8.size)) hk1)
      have C2 := Lib.hid (fun W (h : Below w8.heap.size w8 W) => gvCells HX2.out h hk2)
      rw [hnm1] at C1
      rw [hnm2] at C2
      have i1 := idx_at (c := c1) 2 Tryz.underlying25 szG ha1 k hlt
      have i2 := idx_at (c := c2) 2 Tryz.underlying54 szGr ha2 k hlt
      have f : (k : Int) < (m : Int) := by omega
      have hsr := fun W (h : Below w8.heap.size w8 W) => sameRows_any _ _ g.2 g.2 W (hro1.below (hb8.trans (h.mono hb8.size))) (hro2.below h)
      simp only [decide_true] at hsr
      have HSr := Lib.hid hsr
      clear hg hg' hsr hro1 hro2 hnm1 hnm2 hk1 hk2
      generalize g.1 = nm at *
      obtain ⟨d0, d1⟩ := C1.out _ hbD
      obtain ⟨e0, e1⟩ := C2.out _ hbD
      go_wp2_with fail
      go_region_held3 (fun w' => w'.cell? ⟨b1, o1 + k * 2, none⟩ = some (S nm) ∧ w'.cell? ⟨b1, o1 + k * 2 + 1, none⟩ = some (.slice x1.a x1.n x1.c) ∧ w'.cell? ⟨b2, o2 + k * 2, none⟩ = some (S nm) ∧ w'.cell? ⟨b2, o2 + k * 2 + 1, none⟩ = some (.slice x2.a x2.n x2.c)) (exact ⟨d0, d1, e0, e1⟩) ((go_at_call 30; (with_reducible refine (HSr.out _ hbD).mono ?_); rintro e wq ⟨rfl, hbq⟩; have hbq' := hbD.trans (hbq.mono hbD.size); clear d0 d1 e0 e1; obtain ⟨d0, d1⟩ := C1.out _ hbq'; obtain ⟨e0, e1⟩ := C2.out _ hbq'))
      all_goals
        go_wp2_with fail
        refine ⟨⟨k + 1, by omega, by go_num, hbq'⟩, by simp [intOf]; omega⟩
end Go.Proofs.YtlfkjbdkbdcdnaaGreatDoor
namespace Go.Proofs.YtlfkjbdkbdcdnaaGreatDoor
open Go.ChangeShapes Go.WideShapes Go.ChangeAt Go.WideMaps Go.WideElems Go.RowKit

theorem own : ownKnob Tryz.prog.godebug = none := by kernel_rfl

theorem partTells_met (os : Os) (args : Array Value) : laidMetH Tryz.prog Rows.partTellsRow.laid ((witW os Rows.partTellsRow.laid).forCall (fun _ _ => 0) ⟨#[], args, []⟩).memory := by
  exact witW_met os Rows.partTellsRow.laid args (by kernel_rfl) (by kernel_rfl) (by kernel_rfl)

def partTellsIdx : Nat → Nat
  | 1 => 4
  | 2 => 5
  | 3 => 6
  | 4 => 7
  | 5 => 8
  | 6 => 9
  | 7 => 10
  | 8 => 11
  | 9 => 12
  | 10 => 13
  | 11 => 14
  | _ => 15

theorem partTells_errs {W : World} (h : laidMet Tryz.prog (Rows.partTellsRow.laid.filter fun x => x.2.handleName?.isNone) W) : Errs allE (addrOf W) W.heap.size W := by
  refine errs_of_laid h allE partTellsIdx (by decide) ?_ ?_ ?_
  · intro c hc
    simp only [allE, List.mem_cons, List.mem_nil_iff, or_false] at hc
    rcases hc with rfl | rfl | rfl | rfl | rfl | rfl | rfl | rfl | rfl | rfl | rfl | rfl
    · exact gn1
    · exact gn2
    · exact gn3
    · exact gn4
    · exact gn5
    · exact gn6
    · exact gn7
    · exact gn8
    · exact gn9
    · exact gn10
    · exact gn11
    · exact gn12
  · intro c hc
    simp only [allE, List.mem_cons, List.mem_nil_iff, or_false] at hc
    rcases hc with rfl | rfl | rfl | rfl | rfl | rfl | rfl | rfl | rfl | rfl | rfl | rfl
    · exact gt1
    · exact gt2
    · exact gt3
    · exact gt4
    · exact gt5
    · exact gt6
    · exact gt7
    · exact gt8
    · exact gt9
    · exact gt10
    · exact gt11
    · exact gt12
  · intro c hc
    simp only [allE, List.mem_cons, List.mem_nil_iff, or_false] at hc
    rcases hc with rfl | rfl | rfl | rfl | rfl | rfl | rfl | rfl | rfl | rfl | rfl | rfl <;> exact ⟨_, rfl⟩

theorem partTells_num {W : World} (h : laidMet Tryz.prog (Rows.partTellsRow.laid.filter fun x => x.2.handleName?.isNone) W) (hsh : W.ShapedOpen Tryz.prog) : LNum W.heap.size W :=
  lnum_of (i := 2) (j := 17) (k := 16) h hsh (by kernel_rfl) (by rfl) (by rfl)

set_option maxRecDepth 100000 in
theorem partTells_lifted (os : Os) (started : os.Started) (H : Type) (enc : TypeId × Value → H) :
    ReturnsInHanded {} Tryz.checked os 5 .any (fun w args => (Rows.partTellsSpec.pre enc Tryz.prog Tryz.f5 [] false w args ∧ laidMetH Tryz.prog Rows.partTellsRow.laid w) ∧ sizedMet enc Tryz.prog Tryz.f5 (OpenSpec.ofChange Rows.partTellsSpec) false w args)
      (Rows.partTellsSpec.post enc Tryz.prog Tryz.f5 false true false false) := by
  refine handed_both (C := Tryz.checked) (X := fun w _ => laidMetH Tryz.prog Rows.partTellsRow.laid w) (fun _ _ _ hh h => h.of_heap hh) own started (by kernel_rfl) Tryz.func5
    (ChangeSpec.witness_shaped (enc := enc) (C := Tryz.checked) (os := os) (X := fun w _ => laidMetH Tryz.prog Rows.partTellsRow.laid w) false (witW os Rows.partTellsRow.laid) #[.string ⟨#[]⟩, .slice none 0 0] 8 (witW_os _ _)
      (World.shaped_of_ZipB (by kernel_rfl) (by kernel_rfl)) (by kernel_rfl) (by kernel_rfl) (by kernel_rfl) (partTells_met os _)) ?_
  intro W base args ds gs before hval0 hW hL hsh
  have hval : ∀ (j : Nat) t v, Tryz.f5.params[j]? = some t → args[j]? = some v → Value.okWide Tryz.prog W .any base t v := hval0
  have hW' := hW
  obtain ⟨p, q, hA0, hV, rfl, _, _⟩ := hW
  have hA : DataW.TrodAll enc Tryz.prog W 0 (fun _ => true) true Tryz.f5.params.toList args.toList ds p := hA0
  rw [Tryz.params5] at hA hval
  obtain ⟨v1, v2, d1, d2, p1, p2, rfl, rfl, rfl, h1, h2⟩ := trodAll_two hA
  obtain ⟨rfl, rfl⟩ := trodVars_none hV
  simp only [List.append_nil] at hW'
  clear hA0 hval0
  have hlt : ∀ x ∈ p1 ++ p2, x.block < W.heap.size := fun x hx => by simpa using hW'.lt x (by simpa using hx)
  have h' : laidMet Tryz.prog (Rows.partTellsRow.laid.filter fun x => x.2.handleName?.isNone) W ∧ handlesMet Tryz.prog (Rows.partTellsRow.laid.filter fun x => x.2.handleName?.isSome) W := hL
  have hL' := h'.1
  have hAs : AsVar W := asVar_of_laid h'.2 (List.mem_filter.2 ⟨by simp [Rows.partTellsRow, Rows.laid_errors_errorType], rfl⟩)
  have hgB : 13 < W.heap.size := World.block_lt_of_cell? W ⟨13, 0, none⟩ hAs
  obtain ⟨l1, rfl, b1⟩ := str_came (hval 0 9 v1 rfl rfl) h1
  obtain ⟨l2, a2, b2⟩ := rows_came (hval 1 22 v2 rfl rfl) h2
  refine (partTells_any (addrOf W) _ l1 v2 l2 W (partTells_errs hL') hAs hgB (partTells_num hL' hsh) (lmax_of hsh) a2).mono fun e W' ⟨he, hb⟩ => ?_
  subst he
  refine ⟨_, rfl, _, _, _, [], p1 ++ p2, [], hW', ?_, ?_, ?_, hb.frame _, fun h => by cases h⟩
  · exact trodAll_mk1 (shut_bool Tryz.underlying4 true)
  · exact trodAll_mk2 (Below.trod laidOut (by kernel_rfl) (of_decide_eq_true (by kernel_rfl)) h1 hb (fun x hx => hlt x (by simp [hx]))) (Below.trod laidOut (by kernel_rfl) (of_decide_eq_true (by kernel_rfl)) h2 hb (fun x hx => hlt x (by simp [hx])))
  · rfl

theorem partTells_inPlace : (Rows.partTellsRow.inPlace == Tryz.pinned.checked.prog.inPlace 5) = true := by kernel_rfl

theorem partTells_unfollowed : (Rows.partTellsRow.unfollowed == Tryz.pinned.checked.prog.unfollowed 5) = true := by kernel_rfl

theorem partTells_recurses : (Rows.partTellsRow.recurses == Tryz.pinned.checked.prog.recurses 5) = true := by kernel_rfl

theorem partTells_named : (Rows.partTellsRow.named == Tryz.pinned.checked.prog.varsNamed 5) = true := by kernel_rfl

theorem partTells_facts : joinedFacts Tryz.pinned.checked.prog 5 Tryz.f5 Rows.partTellsSpec Rows.partTellsRow = true := by
  unfold joinedFacts
  rw [partTells_inPlace, partTells_unfollowed, partTells_recurses, partTells_named]
  kernel_rfl

theorem partTells_holds : Rows.PartTellsSaid :=
  OpenClaim.holds_of_wide 5 Tryz.f5 rfl rfl rfl rfl rfl rfl rfl ⟨rfl, rfl, rfl, rfl, rfl⟩ rfl rfl rfl rfl rfl (by kernel_rfl) Tryz.func5 partTells_facts
    (of_decide_eq_true (by kernel_rfl)) (by unfold Func.isWrapper; first | (rw [if_pos (by decide +kernel)]; kernel_rfl) | (rw [if_neg (by decide +kernel)]; exact ⟨rfl, rfl⟩))
    (fun os started H enc _ => partTells_lifted os started H enc)

theorem partTells_card_holds : Rows.PartTellsCardSaid :=
  Claim7.holds_tied_plain_at .later [] Rows.partTellsCard.laidKinds true Rows.partTellsCard.stood.harness true
    partTells_holds (fun _ h => by cases h) (by kernel_rfl) (fun _ h => by cases h) partTells_row_tie rfl ⟨rfl, rfl⟩ (by kernel_rfl) rfl
    (fun f fn hf hfn => by
      obtain rfl : f = 5 := Option.some.inj ((show Tryz.prog.funcNamed "deedbox/deedboxlaw1.PartTells" = some 5 by kernel_rfl).symm.trans hf) |>.symm
      obtain rfl : fn = Tryz.f5 := (Option.some.inj (Tryz.func5.symm.trans hfn)).symm
      exact ⟨by kernel_rfl, fun j t ht => by
        rw [Tryz.params5] at ht
        have hm : t ∈ [9, 22] := by simpa using Array.mem_of_getElem? ht
        have hall : ([9, 22].all fun u => !Tryz.prog.wantsStandIn u) = true := by kernel_rfl
        exact (show Tryz.prog.wantsStandIn t = false by simpa using List.all_eq_true.1 hall t hm)⟩)
    (by kernel_rfl)
#print axioms partTells_card_holds
end Go.Proofs.YtlfkjbdkbdcdnaaGreatDoor
