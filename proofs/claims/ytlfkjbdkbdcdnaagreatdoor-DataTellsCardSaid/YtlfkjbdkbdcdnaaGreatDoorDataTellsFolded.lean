/- 'deedboxlaw1.DataTells' returns true at every input: rows are written, and read, as the document's answer has it, at any rows and any text. Condition: the package-level variables read as the program's text lays them; the card ties that. -/
import Derived.Test.YtlfkjbdkbdcdnaaGreatDoorBx16
import Derived.Test.YtlfkjbdkbdcdnaaGreatDoorBx12
import Derived.Test.YtlfkjbdkbdcdnaaGreatDoorRows
import Derived.Test.YtlfkjbdkbdcdnaaGreatDoorCards
import Derived.Test.YtlfkjbdkbdcdnaaGreatDoorTie
import Derived.Test.YtlfkjbdkbdcdnaaGreatDoorBx13
import Derived.LaidOnce
import Derived.SevenTiedAt
namespace Go.Proofs.YtlfkjbdkbdcdnaaGreatDoor
open Go.RowKit

set_option maxHeartbeats 4000000 in
set_option maxRecDepth 20000 in
theorem dataTells_any (E : Nat → Addr) (B : Nat) (v : Value) (l : List Rw) (s : Str) (w : World) (hE : Errs allE E B w) (hA : AsVar w) (hgB : 13 < B) (hT : LNum B w) (hM : LMax B w) (hl : RowsAt w v l) :
    Calls Tryz.prog 8 #[v, S s] w fun e w' => e = .returned (.bool true) ∧ Below w.heap.size w w' := by
  have hBw := hE.le
  have hif := isIfaceE
  have X := Lib.hid (fun W (h : Below w.heap.size w W) => (⟨hE.below' h hBw, hA.below (h.mono hBw) hgB, hT.below' h hBw, hM.below' h hBw, hl.below h⟩ : Errs allE E B W ∧ AsVar W ∧ LNum B W ∧ LMax B W ∧ RowsAt W v l))
  obtain ⟨a, c, rfl, -, -⟩ := hl.form'
  clear hl
  go_enter Tryz.func8, Tryz.ntmps8
  go_wp2_with fail
  refine (dated_any E B w (hE.sub (by decide)) hT hM).mono ?_
  rintro e w1 ⟨rfl, hb1⟩
  go_wp2_with fail
  refine (longRows_any _ l 45 w1 (X.out _ hb1).2.2.2.2).mono ?_
  rintro e w2 ⟨he, rfl⟩
  rcases he with rfl | ⟨rfl, hlen, hsh⟩
  · go_wp2_with fail
    go_ret
    exact ⟨rfl, hb1⟩
  have HSh := Lib.hid (fun r (hr : r ∈ l) => (show r.part.length ≤ 100000 by have := hsh r hr; omega))
  have hl45 : l.length ≤ 45 := by omega
  clear hsh hlen
  have hway : (s.length ≤ 20001 ∧ (s.length ≤ 10000 ∨ 20000 < s.length) ∧ decide ((1500 : Int) < (s.length : Int)) = false) ∨ (s.length ≤ 20001 ∧ (s.length ≤ 10000 ∨ 20000 < s.length) ∧ (1500 : Int) < (s.length : Int) ∧ ((s.length : Int) != 20001) = false) ∨ ((1500 : Int) < (s.length : Int) ∧ ((s.length : Int) != 20001) = true) := by
    by_cases h1 : s.length ≤ 1500
    · exact .inl ⟨by omega, .inl (by omega), by simp; omega⟩
    · by_cases h2 : s.length = 20001
      · exact .inr (.inl ⟨by omega, .inr (by omega), by omega, by rw [h2]; rfl⟩)
      · exact .inr (.inr ⟨by omega, by rw [bne_iff_ne]; omega⟩)
  rcases hway with ⟨hs, hs2, gs⟩ | ⟨hs, hs2, gs, gt⟩ | ⟨gs, gt⟩
  case inr.inr =>
    go_wp2_with fail
    go_ret
    exact ⟨rfl, hb1⟩
  all_goals
    have HS2 := Lib.hid hs2
    clear hs2
    go_wp2_with fail
    refine (ownRows_any _ l w1 (X.out _ hb1).2.2.2.2 (by omega)).mono ?_
    rintro e w2 ⟨v2, rfl, hown2, hb2⟩
    have hb2' := hb1.trans (hb2.mono hb1.size)
    have HMk := Lib.hid (dataMake_any E B v2 l w2 ((X.out _ hb2').1.sub (by decide)) (X.out _ hb2').2.2.1 (hown2.at encR_enc) (by omega) HSh.out)
    clear hown2
    go_wp2_with fail
    refine HMk.out.mono ?_
    rintro e w3 ⟨ev, rfl, hev, hb3⟩
    have hb3' := hb2'.trans (hb3.mono hb2'.size)
    have HOf := Lib.hid (dataOf_any _ l w3 (X.out _ hb3').2.2.2.2 (by omega) HSh.out)
    clear HMk
    obtain ⟨er, her⟩ : ∃ er, makeE l = er := ⟨_, rfl⟩
    rw [her] at hev HOf
    generalize makeT l = mt at *
    have HEv := Lib.hid hev
    clear hev her
    go_wp2_with fail
    refine HOf.out.mono ?_
    rintro e w4 ⟨rfl, hb4⟩
    have hb4' := hb3'.trans (hb4.mono hb3'.size)
    unfold faultOf faultV
    have hba : Below w4.heap.size w4 (w4.alloc (.cells #[.int .i64 (er.code : Nat), .int .i64 er.place] 56)) := (Below.refl _ _).alloc (Nat.le_refl _) _
    have hb5 := hb4'.trans (hba.mono hb4'.size)
    have HFa := Lib.hid (faultedAt_any E B er ev _ (X.out _ hb5).1 (X.out _ hb5).2.1 hgB (HEv.out.below (hb4.trans (hba.mono hb4.size))))
    have gm : (mt == mt) = true := by simp
    have HSu := Lib.hid (fun W => sum_any s W (by omega))
    have HSr := Lib.hid (fun W => refSum_any s W (by omega))
    have hsu := sumOf_lt s
    have gss : (((sumOf s : Nat) : Int) == ((sumOf s : Nat) : Int)) = true := by simp
    generalize sumOf s = sm at *
    have HGr := Lib.hid (heap_alloc_new w4 (.cells #[.int .i64 (er.code : Nat), .int .i64 er.place] 56))
    have HSz : Hid (w4.heap.size < (w4.alloc (.cells #[.int .i64 (er.code : Nat), .int .i64 er.place] 56)).heap.size) := Lib.hid (by simp)
    clear HOf HEv
    go_wp2_with fail
    refine HFa.out.mono ?_
    rintro e w5 ⟨rfl, hb5⟩
    have hba5 := hba.trans (hb5.mono hba.size)
    go_wp2_with fail
    refine (HSu.out _).mono ?_
    rintro e w6 ⟨rfl, hbu⟩
    have hb6 := hb5.trans (hbu.mono hb5.size)
    go_wp2_with fail
    refine (HSr.out _).mono ?_
    rintro e wx ⟨rfl, rfl⟩
    have hb46 := hba.trans (hb6.mono hba.size)
    have hb6' := hb4'.trans (hb46.mono hb4'.size)
    have HGr6 := Lib.hid ((hb6.block w4.heap.size HSz.out).trans HGr.out)
    have HRd := Lib.hid (dataReadFar_any E B s w6 ((X.out _ hb6').1.sub (by decide)) (X.out _ hb6').2.2.1 (X.out _ hb6').2.2.2.1 HS2.out (by omega))
    have HRf := Lib.hid (fun W => readData_any s W HS2.out (by omega))
    unfold RdPost at HRf
    generalize dataE s = e2 at *
    generalize dataL s = q at *
    have hw4z := HSz.out
    have hw6z := hb6.size
    obtain ⟨T, hT'⟩ : ∃ T, w4.heap.size = T := ⟨_, rfl⟩
    have hT6 : T < w6.heap.size := by omega
    have hwT : w.heap.size ≤ T := by have := hb4'.size; omega
    rw [hT'] at HGr6 ⊢
    clear HFa HSz HGr hw4z hw6z hb46
    go_wp2_with fail
    refine HRd.out.mono ?_
    rintro e w7 ⟨u, ev2, rfl, hev2, hu, hb7⟩
    have hb7' := hb6'.trans (hb7.mono hb6'.size)
    have HU := Lib.hid hu
    have HEv2 := Lib.hid hev2
    clear hu hev2 HRd
    go_wp2_with fail
    refine (HRf.out w7).mono ?_
    rintro e w8 ⟨u2, rfl, hu2, hb8⟩
    have hb8' := hb7'.trans (hb8.mono hb7'.size)
    have hb68 := hb7.trans (hb8.mono hb7.size)
    have hg8 := (hb68.block T hT6).trans HGr6.out
    rw [show faultOf e2 = .agg #[.int .i64 (e2.code : Nat), .int .i64 e2.place] from rfl]
    obtain ⟨a2, c2, rfl, -, -⟩ := hu2.here.form'
    obtain ⟨a1, c1, rfl, -, -⟩ := HU.out.here.form'
    obtain ⟨cc, hcc⟩ : ∃ cc : Int, ((e2.code : Nat) : Int) = cc := ⟨_, rfl⟩
    obtain ⟨pp, hpp⟩ : ∃ pp : Int, e2.place = pp := ⟨_, rfl⟩
    rw [hcc, hpp]
    have t0 : w8.cell? ⟨T, 0, none⟩ = some (.int .i64 (er.code : Nat)) := by rw [cell_of_row w8 _ _ _ _ (0, 0) hg8]; rfl
    have t1 : w8.cell? ⟨T, 1, none⟩ = some (.int .i64 er.place) := by rw [cell_of_row w8 _ _ _ _ (0, 0) hg8]; rfl
    have q0 : w8.frozen? ⟨T, 0, none⟩ = false := frozen_row hg8
    have q1 : w8.frozen? ⟨T, 1, none⟩ = false := frozen_row hg8
    have HCc := Lib.hid hcc
    have HPp := Lib.hid hpp
    have HU2 := Lib.hid hu2
    clear hcc hpp hu2
    go_upto_region 10 with fail
    have hb9 : Below w.heap.size w ((w8.setCell ⟨T, 0, none⟩ (.int .i64 cc)).setCell ⟨T, 1, none⟩ (.int .i64 pp)) := (hb8'.setCell (p := ⟨T, 0, none⟩) hwT _).setCell (p := ⟨T, 1, none⟩) hwT _
    have hg9 := set_two hg8 (.int .i64 cc) (.int .i64 pp)
    have hz7 := hb7.size
    have hz8 := hb8.size
    have hv1 := HU.out ((w8.setCell ⟨T, 0, none⟩ (.int .i64 cc)).setCell ⟨T, 1, none⟩ (.int .i64 pp)) (fun p hp hp2 => (two_far (B := w6.heap.size) hT6 _ _ p hp).trans (hb8.cell hp2))
    have hv2 := HU2.out ((w8.setCell ⟨T, 0, none⟩ (.int .i64 cc)).setCell ⟨T, 1, none⟩ (.int .i64 pp)) (fun p hp hp2 => two_far (B := w7.heap.size) (by omega) _ _ p hp)
    have hev9 : ErV E ((w8.setCell ⟨T, 0, none⟩ (.int .i64 cc)).setCell ⟨T, 1, none⟩ (.int .i64 pp)) ev2 e2 := (HEv2.out.below hb8).apart t1 (two_apart _ _)
    clear t0 t1 q0 q1 hg8
    generalize (w8.setCell ⟨T, 0, none⟩ (.int .i64 cc)).setCell ⟨T, 1, none⟩ (.int .i64 pp) = w9 at *
    have u0 : w9.cell? ⟨T, 0, none⟩ = some (.int .i64 cc) := by rw [cell_of_row w9 _ _ _ _ (0, 0) hg9]; rfl
    have u1 : w9.cell? ⟨T, 1, none⟩ = some (.int .i64 pp) := by rw [cell_of_row w9 _ _ _ _ (0, 0) hg9]; rfl
    have HV1 := Lib.hid (fun W (h : Below w9.heap.size w9 W) => hv1.below h)
    have HV2 := Lib.hid (fun W (h : Below w9.heap.size w9 W) => hv2.below h)
    have hfa := fun W (h : Below w9.heap.size w9 W) => faultedAt_any E B e2 ev2 W (X.out _ (hb9.trans (h.mono hb9.size))).1 (X.out _ (hb9.trans (h.mono hb9.size))).2.1 hgB (hev9.below h)
    rw [HCc.out, HPp.out] at hfa
    have HFa := Lib.hid hfa
    have HG9 := Lib.hid (fun W (h : Below w9.heap.size w9 W) => (⟨(h.cell (World.block_lt_of_cell? w9 _ u0)).trans u0, (h.cell (World.block_lt_of_cell? w9 _ u1)).trans u1⟩ : _ ∧ _))
    have hsm := fun W (h : Below w9.heap.size w9 W) => sameRows_any _ _ q q W (hv1.below h) (hv2.below h)
    simp only [decide_true] at hsm
    have HSm := Lib.hid hsm
    clear hv1 hv2 hev9 hfa hsm u0 u1 hg9
    have hb10 : Below w9.heap.size w9 w9 := Below.refl _ _
    obtain ⟨u0, u1⟩ := HG9.out _ hb10
    go_wp2_with fail
    refine (HFa.out _ hb10).mono ?_
    rintro e w11 ⟨rfl, hb11⟩
    have hb11' := hb10.trans (hb11.mono hb10.size)
    go_wp2_with fail
    refine (HSm.out _ hb11').mono ?_
    rintro e w12 ⟨rfl, hb12⟩
    have hb12' := hb11'.trans (hb12.mono hb11'.size)
    go_wp2_with fail
    go_ret
    exact ⟨by simp, hb9.trans (hb12'.mono hb9.size)⟩
end Go.Proofs.YtlfkjbdkbdcdnaaGreatDoor
namespace Go.Proofs.YtlfkjbdkbdcdnaaGreatDoor
open Go.ChangeShapes Go.WideShapes Go.ChangeAt Go.WideMaps Go.WideElems Go.RowKit

theorem own : ownKnob Tryz.prog.godebug = none := by kernel_rfl

theorem dataTells_met (os : Os) (args : Array Value) : laidMetH Tryz.prog Rows.dataTellsRow.laid ((witW os Rows.dataTellsRow.laid).forCall (fun _ _ => 0) ⟨#[], args, []⟩).memory := by
  exact witW_met os Rows.dataTellsRow.laid args (by kernel_rfl) (by kernel_rfl) (by kernel_rfl)

def dataTellsIdx : Nat → Nat
  | 1 => 4
  | 2 => 5
  | 3 => 6
  | 4 => 7
  | 5 => 8
  | 6 => 9
  | 7 => 10
  | 8 => 11
  | 9 => 12
  | 10 => 13
  | 11 => 14
  | _ => 15

theorem dataTells_errs {W : World} (h : laidMet Tryz.prog (Rows.dataTellsRow.laid.filter fun x => x.2.handleName?.isNone) W) : Errs allE (addrOf W) W.heap.size W := by
  refine errs_of_laid h allE dataTellsIdx (by decide) ?_ ?_ ?_
  · intro c hc
    simp only [allE, List.mem_cons, List.mem_nil_iff, or_false] at hc
    rcases hc with rfl | rfl | rfl | rfl | rfl | rfl | rfl | rfl | rfl | rfl | rfl | rfl
    · exact gn1
    · exact gn2
    · exact gn3
    · exact gn4
    · exact gn5
    · exact gn6
    · exact gn7
    · exact gn8
    · exact gn9
    · exact gn10
    · exact gn11
    · exact gn12
  · intro c hc
    simp only [allE, List.mem_cons, List.mem_nil_iff, or_false] at hc
    rcases hc with rfl | rfl | rfl | rfl | rfl | rfl | rfl | rfl | rfl | rfl | rfl | rfl
    · exact gt1
    · exact gt2
    · exact gt3
    · exact gt4
    · exact gt5
    · exact gt6
    · exact gt7
    · exact gt8
    · exact gt9
    · exact gt10
    · exact gt11
    · exact gt12
  · intro c hc
    simp only [allE, List.mem_cons, List.mem_nil_iff, or_false] at hc
    rcases hc with rfl | rfl | rfl | rfl | rfl | rfl | rfl | rfl | rfl | rfl | rfl | rfl <;> exact ⟨_, rfl⟩

theorem dataTells_num {W : World} (h : laidMet Tryz.prog (Rows.dataTellsRow.laid.filter fun x => x.2.handleName?.isNone) W) (hsh : W.ShapedOpen Tryz.prog) : LNum W.heap.size W :=
  lnum_of (i := 2) (j := 17) (k := 16) h hsh (by kernel_rfl) (by rfl) (by rfl)

set_option maxRecDepth 100000 in
theorem dataTells_lifted (os : Os) (started : os.Started) (H : Type) (enc : TypeId × Value → H) :
    ReturnsInHanded {} Tryz.checked os 8 .any (fun w args => (Rows.dataTellsSpec.pre enc Tryz.prog Tryz.f8 [] false w args ∧ laidMetH Tryz.prog Rows.dataTellsRow.laid w) ∧ sizedMet enc Tryz.prog Tryz.f8 (OpenSpec.ofChange Rows.dataTellsSpec) false w args)
      (Rows.dataTellsSpec.post enc Tryz.prog Tryz.f8 false true false false) := by
  refine handed_both (C := Tryz.checked) (X := fun w _ => laidMetH Tryz.prog Rows.dataTellsRow.laid w) (fun _ _ _ hh h => h.of_heap hh) own started (by kernel_rfl) Tryz.func8
    (ChangeSpec.witness_shaped (enc := enc) (C := Tryz.checked) (os := os) (X := fun w _ => laidMetH Tryz.prog Rows.dataTellsRow.laid w) false (witW os Rows.dataTellsRow.laid) #[.slice none 0 0, .string ⟨#[]⟩] 8 (witW_os _ _)
      (World.shaped_of_ZipB (by kernel_rfl) (by kernel_rfl)) (by kernel_rfl) (by kernel_rfl) (by kernel_rfl) (dataTells_met os _)) ?_
  intro W base args ds gs before hval0 hW hL hsh
  have hval : ∀ (j : Nat) t v, Tryz.f8.params[j]? = some t → args[j]? = some v → Value.okWide Tryz.prog W .any base t v := hval0
  have hW' := hW
  obtain ⟨p, q, hA0, hV, rfl, _, _⟩ := hW
  have hA : DataW.TrodAll enc Tryz.prog W 0 (fun _ => true) true Tryz.f8.params.toList args.toList ds p := hA0
  rw [Tryz.params8] at hA hval
  obtain ⟨v1, v2, d1, d2, p1, p2, rfl, rfl, rfl, h1, h2⟩ := trodAll_two hA
  obtain ⟨rfl, rfl⟩ := trodVars_none hV
  simp only [List.append_nil] at hW'
  clear hA0 hval0
  have hlt : ∀ x ∈ p1 ++ p2, x.block < W.heap.size := fun x hx => by simpa using hW'.lt x (by simpa using hx)
  have h' : laidMet Tryz.prog (Rows.dataTellsRow.laid.filter fun x => x.2.handleName?.isNone) W ∧ handlesMet Tryz.prog (Rows.dataTellsRow.laid.filter fun x => x.2.handleName?.isSome) W := hL
  have hL' := h'.1
  have hAs : AsVar W := asVar_of_laid h'.2 (List.mem_filter.2 ⟨by simp [Rows.dataTellsRow, Rows.laid_errors_errorType], rfl⟩)
  have hgB : 13 < W.heap.size := World.block_lt_of_cell? W ⟨13, 0, none⟩ hAs
  obtain ⟨l1, a1, b1⟩ := rows_came (hval 0 22 v1 rfl rfl) h1
  obtain ⟨l2, rfl, b2⟩ := str_came (hval 1 9 v2 rfl rfl) h2
  refine (dataTells_any (addrOf W) _ v1 l1 l2 W (dataTells_errs hL') hAs hgB (dataTells_num hL' hsh) (lmax_of hsh) a1).mono fun e W' ⟨he, hb⟩ => ?_
  subst he
  refine ⟨_, rfl, _, _, _, [], p1 ++ p2, [], hW', ?_, ?_, ?_, hb.frame _, fun h => by cases h⟩
  · exact trodAll_mk1 (shut_bool Tryz.underlying4 true)
  · exact trodAll_mk2 (Below.trod laidOut (by kernel_rfl) (of_decide_eq_true (by kernel_rfl)) h1 hb (fun x hx => hlt x (by simp [hx]))) (Below.trod laidOut (by kernel_rfl) (of_decide_eq_true (by kernel_rfl)) h2 hb (fun x hx => hlt x (by simp [hx])))
  · rfl

theorem dataTells_inPlace : (Rows.dataTellsRow.inPlace == Tryz.pinned.checked.prog.inPlace 8) = true := by kernel_rfl

theorem dataTells_unfollowed : (Rows.dataTellsRow.unfollowed == Tryz.pinned.checked.prog.unfollowed 8) = true := by kernel_rfl

theorem dataTells_recurses : (Rows.dataTellsRow.recurses == Tryz.pinned.checked.prog.recurses 8) = true := by kernel_rfl

theorem dataTells_named : (Rows.dataTellsRow.named == Tryz.pinned.checked.prog.varsNamed 8) = true := by kernel_rfl

theorem dataTells_facts : joinedFacts Tryz.pinned.checked.prog 8 Tryz.f8 Rows.dataTellsSpec Rows.dataTellsRow = true := by
  unfold joinedFacts
  rw [dataTells_inPlace, dataTells_unfollowed, dataTells_recurses, dataTells_named]
  kernel_rfl

theorem dataTells_holds : Rows.DataTellsSaid :=
  OpenClaim.holds_of_wide 8 Tryz.f8 rfl rfl rfl rfl rfl rfl rfl ⟨rfl, rfl, rfl, rfl, rfl⟩ rfl rfl rfl rfl rfl (by kernel_rfl) Tryz.func8 dataTells_facts
    (of_decide_eq_true (by kernel_rfl)) (by unfold Func.isWrapper; first | (rw [if_pos (by decide +kernel)]; kernel_rfl) | (rw [if_neg (by decide +kernel)]; exact ⟨rfl, rfl⟩))
    (fun os started H enc _ => dataTells_lifted os started H enc)

theorem dataTells_card_holds : Rows.DataTellsCardSaid :=
  Claim7.holds_tied_plain_at .later [] Rows.dataTellsCard.laidKinds true Rows.dataTellsCard.stood.harness true
    dataTells_holds (fun _ h => by cases h) (by kernel_rfl) (fun _ h => by cases h) dataTells_row_tie rfl ⟨rfl, rfl⟩ (by kernel_rfl) rfl
    (fun f fn hf hfn => by
      obtain rfl : f = 8 := Option.some.inj ((show Tryz.prog.funcNamed "deedbox/deedboxlaw1.DataTells" = some 8 by kernel_rfl).symm.trans hf) |>.symm
      obtain rfl : fn = Tryz.f8 := (Option.some.inj (Tryz.func8.symm.trans hfn)).symm
      exact ⟨by kernel_rfl, fun j t ht => by
        rw [Tryz.params8] at ht
        have hm : t ∈ [22, 9] := by simpa using Array.mem_of_getElem? ht
        have hall : ([22, 9].all fun u => !Tryz.prog.wantsStandIn u) = true := by kernel_rfl
        exact (show Tryz.prog.wantsStandIn t = false by simpa using List.all_eq_true.1 hall t hm)⟩)
    (by kernel_rfl)
#print axioms dataTells_card_holds
end Go.Proofs.YtlfkjbdkbdcdnaaGreatDoor
