/- 'deedboxlaw1.GoneBack' returns true at every input: keys are read as they were written, rising, each once; with one byte another one, it is none. Condition: the package-level variables read as the program's text lays them; the card ties that. -/
import Derived.Test.YtlfkjbdkbdcdnaaGreatDoorBx16
import Derived.Test.YtlfkjbdkbdcdnaaGreatDoorRows
import Derived.Test.YtlfkjbdkbdcdnaaGreatDoorCards
import Derived.Test.YtlfkjbdkbdcdnaaGreatDoorTie
import Derived.Test.YtlfkjbdkbdcdnaaGreatDoorBx11
import Derived.LaidOnce
import Derived.SevenTiedAt
namespace Go.Proofs.YtlfkjbdkbdcdnaaGreatDoor
open Go.RowKit

set_option maxHeartbeats 4000000 in
set_option maxRecDepth 20000 in
theorem goneBack_any (E : Nat → Addr) (B : Nat) (v : Value) (l : List Int) (at_ : Int) (c : UInt8) (w : World) (hE : Errs [1, 2, 3, 8, 9, 10] E B w) (hT : LNum B w) (hM : LMax B w) (hl : IntsAt w v l) :
    Calls Tryz.prog 4 #[v, .int .i64 at_, .int .u8 c.toNat] w fun e w' => e = .returned (.bool true) ∧ Below w.heap.size w w' := by
  have hBw := hE.le
  have hif := isIfaceE
  have X := Lib.hid (fun W (h : Below w.heap.size w W) => (⟨hE.below' h hBw, hT.below' h hBw, hM.below' h hBw, hl.below h⟩ : Errs [1, 2, 3, 8, 9, 10] E B W ∧ LNum B W ∧ LMax B W ∧ IntsAt W v l))
  obtain ⟨a, c0, b, o, rfl, ha, hc0, hcm, hx⟩ := hl
  unfold maxLen at hcm
  have HX := Lib.hid hx
  clear hx
  go_enter Tryz.func4, Tryz.ntmps4
  go_wp2_with fail
  refine (goned_any E B w hE hT hM).mono ?_
  rintro e w1 ⟨rfl, hb1⟩
  by_cases h60 : l.length ≤ 60
  case neg =>
    have g : (60 : Int) < (l.length : Int) := by omega
    clear h60
    go_wp2_with fail
    go_ret
    exact ⟨rfl, hb1⟩
  have g : decide ((60 : Int) < (l.length : Int)) = false := by simp; omega
  by_cases hat : at_ < 0
  case pos =>
    go_wp2_with fail
    go_ret
    exact ⟨rfl, hb1⟩
  have gat : decide (at_ < 0) = false := by simpa using hat
  have HAt := Lib.hid (show 0 ≤ at_ by omega)
  have hsrc := (X.out _ hb1).2.2.2.src encI_enc (by decide)
  go_wp2_with (at_builtin; refine wpList_app rfl _ _ _ rfl w1.heap.size elInt (.slice none 0 0) 0 [] rfl (Own.nil encI _ 1 _ _) _ _ _ rfl hsrc (by unfold maxLen; omega) (by omega) (Nat.le_refl _) ?_; intro v2 w2 hown hg2 _; have hown2 : Own encI 3 1 w1.heap.size w2 v2 l := (by unfold Own; simpa using hown); have hb2 : Below w1.heap.size w1 w2 := (Below.refl _ _).grown hg2 (Nat.le_refl _) (fun k hk => by cases hk); clear hown hg2 hsrc)
  have hb2' := hb1.trans (hb2.mono hb1.size)
  refine (goneMake_any E B v2 l w2 ((X.out _ hb2').1.sub (by decide)) (X.out _ hb2').2.1 (hown2.at encI_enc) (by omega)).mono ?_
  rintro e w3 ⟨ev, rfl, hev, hb3⟩
  have hb3' := hb2'.trans (hb3.mono hb2'.size)
  clear hown2
  by_cases hm : madeE l = .nil
  case neg =>
    obtain ⟨t1, x1, rfl⟩ := hev.iface hm
    have hmt : madeT l = [] := by unfold madeT; rw [if_neg hm]
    rw [hmt]
    clear hev hm hmt
    go_wp2_with fail
    go_ret
    exact ⟨rfl, hb3'⟩
  rw [hm] at hev
  obtain rfl : ev = .nilIface := hev
  obtain ⟨hq40, hqn⟩ := madeE_nil hm
  have hmt : madeT l = goneText (risOf l) := by unfold madeT; rw [if_pos hm]
  rw [hmt]
  have hup := risOf_up l
  obtain ⟨hrE, hrL⟩ := goneRead_text hup hqn hq40
  have hTl := goneText_len hqn hq40
  have HOne := Lib.hid (fun i (c x : UInt8) hx hne => @gone_one (risOf l) i c x hx hne)
  have HMem := Lib.hid (fun x (hx : x ∈ l) => mem_risOf.2 hx)
  have HRis := Lib.hid (fun W (h : Below w.heap.size w W) => risingOf_any _ l W (X.out W h).2.2.2 (by omega))
  generalize risOf l = q at *
  obtain ⟨T, hTx⟩ : ∃ T, goneText q = T := ⟨_, rfl⟩
  rw [hTx] at hrE hrL hTl HOne ⊢
  have hRd := goneRead_any E B T w3 (X.out _ hb3').1 (X.out _ hb3').2.1 (X.out _ hb3').2.2.1 (by omega)
  rw [hrE, hrL] at hRd
  have HRd := Lib.hid hRd
  have HUp := Lib.hid hup
  clear hRd hm hmt hqn hup hrE hrL hTx hat g gat
  go_wp2_with fail
  refine HRd.out.mono ?_
  rintro e w4 ⟨u, ev, rfl, hev, hu, hb4⟩
  obtain rfl : ev = .nilIface := hev
  have hb4' := hb3'.trans (hb4.mono hb3'.size)
  have HU := Lib.hid (fun W (h : Below w4.heap.size w4 W) => hu.below h)
  clear hu
  go_wp2_with fail
  refine (HRis.out _ hb4').mono ?_
  rintro e w5 ⟨v5, rfl, hv5, hb5⟩
  have hb5' := hb4'.trans (hb5.mono hb4'.size)
  have hsm := sameInts_any u v5 q q w5 (HU.out _ hb5) hv5
  simp only [decide_true] at hsm
  have HSm := Lib.hid hsm
  clear hsm hv5
  go_wp2_with fail
  refine HSm.out.mono ?_
  rintro e w6 ⟨rfl, hb6⟩
  have hb46 := hb5.trans (hb6.mono hb5.size)
  have hb6' := hb4'.trans (hb46.mono hb4'.size)
  go_upto_block 0 with fail
  go_cut [12] (fun u wx => Below w4.heap.size w4 wx)
  case first =>
    go_wp2_with fail
    go_loopw [12] (fun i wr => ∃ k : Nat, k ≤ l.length ∧ i = .int .i64 k ∧ Below w4.heap.size w4 wr) (fun i _ => l.length - (intOf i).toNat)
    case atStart => exact ⟨0, by omega, rfl, hb46⟩
    case round =>
      obtain ⟨k, hk, rfl, hbr⟩ := hrel
      by_cases hlt : k < l.length
      case neg =>
        have f : decide ((k : Int) < (l.length : Int)) = false := by simp; omega
        go_wp2_with fail
        go_meet
        exact hbr
      obtain ⟨x, hxk⟩ := get_ex hlt
      have c1 := HX.out k x hxk 0 _ rfl
      have c1 := ((hb4'.trans (hbr.mono hb4'.size)).cell (World.block_lt_of_cell? w _ c1)).trans c1
      have i1 := idx_at (c := c0) 1 Tryz.underlying39 szInt ha k hlt
      simp only [Nat.mul_one, Nat.add_zero] at c1 i1
      have f : (k : Int) < (l.length : Int) := by omega
      have hH := goneHas_any u q x wr (HU.out _ hbr) (by omega) HUp.out
      rw [decide_eq_true (HMem.out x (List.mem_of_getElem? hxk))] at hH
      have HH := Lib.hid hH
      clear hH hxk
      go_wp2_with fail
      refine HH.out.mono ?_
      rintro e w7 ⟨rfl, hb7⟩
      go_wp2_with fail
      go_roundw
      case rel => exact ⟨k + 1, by omega, by go_num, hbr.trans (hb7.mono hbr.size)⟩
      case measure => simp [intOf]; omega
  case rest =>
    obtain ⟨w7, rfl⟩ : ∃ w7, w7 = wc := ⟨wc, rfl⟩
    have hb7' := hb4'.trans (hcut.mono hb4'.size)
    clear hcut
    by_cases hap : (T.length : Int) ≤ at_
    case pos =>
      go_wp2_with fail
      go_ret
      exact ⟨rfl, hb7'⟩
    obtain ⟨p, rfl⟩ := Int.eq_ofNat_of_zero_le HAt.out
    have hp : p < T.length := by omega
    have gap : decide ((T.length : Int) ≤ (p : Int)) = false := by simp; omega
    have hp0 : (0 : Int) ≤ (p : Int) := by omega
    have hp1 : (p : Int) < (T.length : Int) := by omega
    have hpn : ((p : Int)).toNat = p := by omega
    have hbp : (({ data := T.toArray } : ByteArray)[p]'(by simpa [ByteArray.size] using hp)) = T[p] := rfl
    clear hap
    by_cases hc : T[p] = c
    · have g2 : ((T[p].toNat : Int) == (c.toNat : Int)) = true := by rw [hc]; simp
      clear hc
      go_wp2_with fail
      go_ret
      exact ⟨rfl, hb7'⟩
    have g2 : ((T[p].toNat : Int) == (c.toNat : Int)) = false := by
      simp only [beq_eq_false_iff_ne, ne_eq]
      intro h
      exact hc (UInt8.toNat_inj.1 (by omega))
    have hcv : ∀ W, (convert 9 46 (.string ⟨T.toArray⟩)).run Tryz.prog W = .ok (.slice (some ⟨W.heap.size, 0, none⟩) T.length (grownCap W T.length 0 5)) (Lib.bytesWorld W 5 ⟨T.toArray⟩) := fun W =>
      Lib.run_convert_string_bytes W 9 46 5 ⟨T.toArray⟩ Tryz.underlying9 Tryz.underlying46 Tryz.underlying5
    have hb8 : Below w7.heap.size w7 (Lib.bytesWorld w7 5 ⟨T.toArray⟩) := Bbytes _ _ _
    have hcell := fun j (hj : j < T.length) => Lib.bytesWorld_cell w7 5 ⟨T.toArray⟩ j (by simpa [ByteArray.size] using hj)
    have hfr : ∀ j, j < T.length → (Lib.bytesWorld w7 5 ⟨T.toArray⟩).frozen? ⟨w7.heap.size, j, none⟩ = false := fun j hj => by
      have h1 := Lib.bytesWorld_at_new w7 5 ⟨T.toArray⟩
      have h2 := cell_of_row _ w7.heap.size j _ _ _ h1
      rw [hcell j hj] at h2
      have h3 := (Array.getElem?_eq_some_iff.1 h2.symm).1
      simp only [World.frozen?, h1]
      simp
      omega
    have cp := hcell p hp
    have fp := hfr p hp
    rw [show (({ data := T.toArray } : ByteArray).data.toList.getD p 0) = T[p] by simp [List.getD, hp]] at cp
    have HCell := Lib.hid hcell
    have HTp := Lib.hid (show T[p]? = some T[p] from List.getElem?_eq_getElem hp)
    clear hcell hfr
    go_wp2_with fail
    generalize grownCap w7 T.length 0 5 = cap at *
    generalize Lib.bytesWorld w7 5 ⟨T.toArray⟩ = w8 at *
    have hback : (convert 46 9 (.slice (some ⟨w7.heap.size, 0, none⟩) T.length cap)).run Tryz.prog (w8.setCell ⟨w7.heap.size, p, none⟩ (.int .u8 c.toNat)) = .ok (.string ⟨(T.set p c).toArray⟩) (w8.setCell ⟨w7.heap.size, p, none⟩ (.int .u8 c.toNat)) := by
      have h := run_convert_bytes_back (P := Tryz.prog) (w8.setCell ⟨w7.heap.size, p, none⟩ (.int .u8 c.toNat)) 46 9 5 ⟨w7.heap.size, 0, none⟩ cap (T.set p c) Tryz.underlying46 Tryz.underlying5 Tryz.underlying9 (fun j hj => by
        rw [List.length_set] at hj
        rw [Lib.add_plain, Nat.zero_add, List.getElem_set]
        by_cases he : p = j
        · subst he
          rw [if_pos rfl]
          exact World.cell?_setCell_same _ _ _ cp
        · rw [if_neg he, World.cell?_setCell_other _ _ _ _ (fun e => he (by cases e; rfl)), HCell.out j hj]
          simp [List.getD, hj])
      rw [List.length_set] at h
      exact h
    go_wp2_with fail
    rw [hback]
    have hb9 : Below w7.heap.size w7 (w8.setCell ⟨w7.heap.size, p, none⟩ (.int .u8 c.toNat)) := hb8.setCell (p := ⟨w7.heap.size, p, none⟩) (Nat.le_refl _) _
    have hb9' := hb7'.trans (hb9.mono hb7'.size)
    have hne := HOne.out p c T[p] HTp.out hc
    have HRd2 := Lib.hid (goneRead_any E B (T.set p c) (w8.setCell ⟨w7.heap.size, p, none⟩ (.int .u8 c.toNat)) (X.out _ hb9').1 (X.out _ hb9').2.1 (X.out _ hb9').2.2.1 (by rw [List.length_set]; omega))
    have hLn : goneL (T.set p c) = [] := by unfold goneL; rw [if_neg hne]
    have HLn := Lib.hid hLn
    have HNe := Lib.hid hne
    clear hc hLn hne
    generalize T.set p c = T' at *
    generalize w8.setCell ⟨w7.heap.size, p, none⟩ (.int .u8 c.toNat) = w9 at *
    go_wp2_with fail
    refine HRd2.out.mono ?_
    rintro e w10 ⟨u10, ev, rfl, hev, hu10, hb10⟩
    obtain ⟨t1, x1, rfl⟩ := hev.iface HNe.out
    rw [HLn.out] at hu10
    obtain ⟨a10, c10, rfl, -, -⟩ := hu10.form'
    clear hu10 hev
    go_wp2_with fail
    go_ret
    exact ⟨rfl, hb9'.trans (hb10.mono hb9'.size)⟩
end Go.Proofs.YtlfkjbdkbdcdnaaGreatDoor
namespace Go.Proofs.YtlfkjbdkbdcdnaaGreatDoor
open Go.ChangeShapes Go.WideShapes Go.ChangeAt Go.WideMaps Go.WideElems Go.RowKit

theorem own : ownKnob Tryz.prog.godebug = none := by kernel_rfl

theorem goneBack_met (os : Os) (args : Array Value) : laidMetH Tryz.prog Rows.goneBackRow.laid ((World.laidAll Tryz.prog os Rows.goneBackRow.laid).forCall (fun _ _ => 0) ⟨#[], args, []⟩).memory := by
  rw [MakeChecks.laidMetH_plain _ _ _ (by kernel_rfl)]
  exact laidMet_laidAll _ (by kernel_rfl) (by kernel_rfl)

def goneBackIdx : Nat → Nat
  | 1 => 4
  | 2 => 5
  | 3 => 6
  | 8 => 7
  | 9 => 8
  | _ => 9

theorem goneBack_errs {W : World} (h : laidMet Tryz.prog Rows.goneBackRow.laid W) : Errs [1, 2, 3, 8, 9, 10] (addrOf W) W.heap.size W := by
  refine errs_of_laid h [1, 2, 3, 8, 9, 10] goneBackIdx (by decide) ?_ ?_ ?_
  · intro c hc
    simp only [List.mem_cons, List.mem_nil_iff, or_false] at hc
    rcases hc with rfl | rfl | rfl | rfl | rfl | rfl
    · exact gn1
    · exact gn2
    · exact gn3
    · exact gn8
    · exact gn9
    · exact gn10
  · intro c hc
    simp only [List.mem_cons, List.mem_nil_iff, or_false] at hc
    rcases hc with rfl | rfl | rfl | rfl | rfl | rfl
    · exact gt1
    · exact gt2
    · exact gt3
    · exact gt8
    · exact gt9
    · exact gt10
  · intro c hc
    simp only [List.mem_cons, List.mem_nil_iff, or_false] at hc
    rcases hc with rfl | rfl | rfl | rfl | rfl | rfl <;> exact ⟨_, rfl⟩

theorem goneBack_num {W : World} (h : laidMet Tryz.prog Rows.goneBackRow.laid W) (hsh : W.ShapedOpen Tryz.prog) : LNum W.heap.size W :=
  lnum_of (i := 2) (j := 11) (k := 10) h hsh (by kernel_rfl) (by rfl) (by rfl)

set_option maxRecDepth 100000 in
theorem goneBack_lifted (os : Os) (started : os.Started) (H : Type) (enc : TypeId × Value → H) :
    ReturnsInHanded {} Tryz.checked os 4 .any (fun w args => (Rows.goneBackSpec.pre enc Tryz.prog Tryz.f4 [] false w args ∧ laidMetH Tryz.prog Rows.goneBackRow.laid w) ∧ sizedMet enc Tryz.prog Tryz.f4 (OpenSpec.ofChange Rows.goneBackSpec) false w args)
      (Rows.goneBackSpec.post enc Tryz.prog Tryz.f4 false true false false) := by
  refine handed_both (C := Tryz.checked) (X := fun w _ => laidMetH Tryz.prog Rows.goneBackRow.laid w) (fun _ _ _ hh h => h.of_heap hh) own started (by kernel_rfl) Tryz.func4
    (ChangeSpec.witness_shaped (enc := enc) (C := Tryz.checked) (os := os) (X := fun w _ => laidMetH Tryz.prog Rows.goneBackRow.laid w) false (World.laidAll Tryz.prog os Rows.goneBackRow.laid) #[.slice none 0 0, .int .i64 0, .int .u8 0] 8 (World.laidAll_os _ _ _)
      (World.shaped_of_ZipB (by kernel_rfl) (by kernel_rfl)) (by kernel_rfl) (by kernel_rfl) (by kernel_rfl) (goneBack_met os _)) ?_
  intro W base args ds gs before hval0 hW hL hsh
  have hval : ∀ (j : Nat) t v, Tryz.f4.params[j]? = some t → args[j]? = some v → Value.okWide Tryz.prog W .any base t v := hval0
  have hW' := hW
  obtain ⟨p, q, hA0, hV, rfl, _, _⟩ := hW
  have hA : DataW.TrodAll enc Tryz.prog W 0 (fun _ => true) true Tryz.f4.params.toList args.toList ds p := hA0
  rw [Tryz.params4] at hA hval
  obtain ⟨v1, v2, v3, d1, d2, d3, p1, p2, p3, rfl, rfl, rfl, h1, h2, h3⟩ := trodAll_three hA
  obtain ⟨rfl, rfl⟩ := trodVars_none hV
  simp only [List.append_nil] at hW'
  clear hA0 hval0
  have hlt : ∀ x ∈ p1 ++ p2 ++ p3, x.block < W.heap.size := fun x hx => by simpa using hW'.lt x (by simpa using hx)
  have hL' : laidMet Tryz.prog Rows.goneBackRow.laid W := by rwa [MakeChecks.laidMetH_plain _ _ _ (by kernel_rfl)] at hL
  obtain ⟨l1, a1, b1⟩ := ints_came (hval 0 39 v1 rfl rfl) h1
  obtain ⟨l2, rfl, b2⟩ := int_came (hval 1 3 v2 rfl rfl) h2
  obtain ⟨l3, rfl⟩ := byte_came (hval 2 5 v3 rfl rfl) h3
  refine (goneBack_any (addrOf W) _ v1 l1 l2 l3 W (goneBack_errs hL')  (goneBack_num hL' hsh) (lmax_of hsh) a1).mono fun e W' ⟨he, hb⟩ => ?_
  subst he
  refine ⟨_, rfl, _, _, _, [], p1 ++ (p2 ++ p3), [], hW', ?_, ?_, ?_, hb.frame _, fun h => by cases h⟩
  · exact trodAll_mk1 (shut_bool Tryz.underlying4 true)
  · exact trodAll_mk3 (Below.trod laidOut (by kernel_rfl) (of_decide_eq_true (by kernel_rfl)) h1 hb (fun x hx => hlt x (by simp [hx]))) (Below.trod laidOut (by kernel_rfl) (of_decide_eq_true (by kernel_rfl)) h2 hb (fun x hx => hlt x (by simp [hx]))) (Below.trod laidOut (by kernel_rfl) (of_decide_eq_true (by kernel_rfl)) h3 hb (fun x hx => hlt x (by simp [hx])))
  · rfl

theorem goneBack_inPlace : (Rows.goneBackRow.inPlace == Tryz.pinned.checked.prog.inPlace 4) = true := by kernel_rfl

theorem goneBack_unfollowed : (Rows.goneBackRow.unfollowed == Tryz.pinned.checked.prog.unfollowed 4) = true := by kernel_rfl

theorem goneBack_recurses : (Rows.goneBackRow.recurses == Tryz.pinned.checked.prog.recurses 4) = true := by kernel_rfl

theorem goneBack_named : (Rows.goneBackRow.named == Tryz.pinned.checked.prog.varsNamed 4) = true := by kernel_rfl

theorem goneBack_facts : joinedFacts Tryz.pinned.checked.prog 4 Tryz.f4 Rows.goneBackSpec Rows.goneBackRow = true := by
  unfold joinedFacts
  rw [goneBack_inPlace, goneBack_unfollowed, goneBack_recurses, goneBack_named]
  kernel_rfl

theorem goneBack_holds : Rows.GoneBackSaid :=
  OpenClaim.holds_of_wide 4 Tryz.f4 rfl rfl rfl rfl rfl rfl rfl ⟨rfl, rfl, rfl, rfl, rfl⟩ rfl rfl rfl rfl rfl (by kernel_rfl) Tryz.func4 goneBack_facts
    (of_decide_eq_true (by kernel_rfl)) (by unfold Func.isWrapper; first | (rw [if_pos (by decide +kernel)]; kernel_rfl) | (rw [if_neg (by decide +kernel)]; exact ⟨rfl, rfl⟩))
    (fun os started H enc _ => goneBack_lifted os started H enc)

theorem goneBack_card_holds : Rows.GoneBackCardSaid :=
  Claim7.holds_tied_plain_at .later [] Rows.goneBackCard.laidKinds true Rows.goneBackCard.stood.harness true
    goneBack_holds (fun _ h => by cases h) (by kernel_rfl) (fun _ h => by cases h) goneBack_row_tie rfl ⟨rfl, rfl⟩ (by kernel_rfl) rfl
    (fun f fn hf hfn => by
      obtain rfl : f = 4 := Option.some.inj ((show Tryz.prog.funcNamed "deedbox/deedboxlaw1.GoneBack" = some 4 by kernel_rfl).symm.trans hf) |>.symm
      obtain rfl : fn = Tryz.f4 := (Option.some.inj (Tryz.func4.symm.trans hfn)).symm
      exact ⟨by kernel_rfl, fun j t ht => by
        rw [Tryz.params4] at ht
        have hm : t ∈ [39, 3, 5] := by simpa using Array.mem_of_getElem? ht
        have hall : ([39, 3, 5].all fun u => !Tryz.prog.wantsStandIn u) = true := by kernel_rfl
        exact (show Tryz.prog.wantsStandIn t = false by simpa using List.all_eq_true.1 hall t hm)⟩)
    (by kernel_rfl)
#print axioms goneBack_card_holds
end Go.Proofs.YtlfkjbdkbdcdnaaGreatDoor
