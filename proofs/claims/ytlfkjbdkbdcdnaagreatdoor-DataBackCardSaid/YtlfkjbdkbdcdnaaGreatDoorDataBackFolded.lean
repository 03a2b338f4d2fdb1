/- 'deedboxlaw1.DataBack' returns true at every input: rows are read as they were written, sorted; with one byte another one, it is none. Condition: the package-level variables read as the program's text lays them; the card ties that. -/
import Derived.Test.YtlfkjbdkbdcdnaaGreatDoorBx12
import Derived.Test.YtlfkjbdkbdcdnaaGreatDoorBx10
import Derived.Test.YtlfkjbdkbdcdnaaGreatDoorRows
import Derived.Test.YtlfkjbdkbdcdnaaGreatDoorCards
import Derived.Test.YtlfkjbdkbdcdnaaGreatDoorTie
import Derived.Test.YtlfkjbdkbdcdnaaGreatDoorBx13
import Derived.LaidOnce
import Derived.SevenTiedAt
namespace Go.Proofs.YtlfkjbdkbdcdnaaGreatDoor
open Go.RowKit

set_option maxHeartbeats 4000000 in
set_option maxRecDepth 20000 in
theorem dataBack_any (E : Nat → Addr) (B : Nat) (v : Value) (l : List Rw) (at_ : Int) (c : UInt8) (w : World) (hE : Errs [1, 2, 3, 5, 8, 9, 10] E B w) (hT : LNum B w) (hM : LMax B w) (hl : RowsAt w v l) :
    Calls Tryz.prog 7 #[v, .int .i64 at_, .int .u8 c.toNat] w fun e w' => e = .returned (.bool true) ∧ Below w.heap.size w w' := by
  have hBw := hE.le
  have hif := isIfaceE
  have X := Lib.hid (fun W (h : Below w.heap.size w W) => (⟨hE.below' h hBw, hT.below' h hBw, hM.below' h hBw, hl.below h⟩ : Errs [1, 2, 3, 5, 8, 9, 10] E B W ∧ LNum B W ∧ LMax B W ∧ RowsAt W v l))
  obtain ⟨a, c0, rfl, -, -⟩ := hl.form'
  clear hl
  go_enter Tryz.func7, Tryz.ntmps7
  go_wp2_with fail
  refine (dated_any E B w hE hT hM).mono ?_
  rintro e w1 ⟨rfl, hb1⟩
  go_wp2_with fail
  refine (longRows_any _ l 45 w1 (X.out _ hb1).2.2.2).mono ?_
  rintro e w2 ⟨he, rfl⟩
  rcases he with rfl | ⟨rfl, hlen, hsh⟩
  · go_wp2_with fail
    go_ret
    exact ⟨rfl, hb1⟩
  have HSh := Lib.hid (fun r (hr : r ∈ l) => (show r.part.length ≤ 100000 by have := hsh r hr; omega))
  have hl45 : l.length ≤ 45 := by omega
  clear hsh hlen
  by_cases hat : at_ < 0
  case pos =>
    go_wp2_with fail
    go_ret
    exact ⟨rfl, hb1⟩
  have gat : decide (at_ < 0) = false := by simpa using hat
  have HAt := Lib.hid (show 0 ≤ at_ by omega)
  go_wp2_with fail
  refine (ownRows_any _ l w1 (X.out _ hb1).2.2.2 (by omega)).mono ?_
  rintro e w2 ⟨v2, rfl, hown2, hb2⟩
  have hb2' := hb1.trans (hb2.mono hb1.size)
  have HMk := Lib.hid (dataMake_any E B v2 l w2 ((X.out _ hb2').1.sub (by decide)) (X.out _ hb2').2.1 (hown2.at encR_enc) (by omega) HSh.out)
  clear hown2
  go_wp2_with fail
  refine HMk.out.mono ?_
  rintro e w3 ⟨ev, rfl, hev, hb3⟩
  have hb3' := hb2'.trans (hb3.mono hb2'.size)
  clear HMk
  by_cases hm : makeE l = .nil
  case neg =>
    obtain ⟨t1, x1, rfl⟩ := hev.iface hm
    have hmt : makeT l = [] := makeT_bad hm
    rw [hmt]
    clear hev hm hmt
    go_wp2_with fail
    go_ret
    exact ⟨rfl, hb3'⟩
  rw [hm] at hev
  obtain rfl : ev = .nilIface := hev
  obtain ⟨hq40, hqr, hup⟩ := make_right hm
  rw [make_text hm]
  obtain ⟨hrE, hrL⟩ := dataRead_text hup hqr hq40
  have hTl := dataText_len hqr hq40
  have HOne := Lib.hid (fun i (c x : UInt8) hx hne => @data_one (sortR l) i c x hqr hx hne)
  have HSo := Lib.hid (fun W (h : Below w.heap.size w W) => rowSort_any _ l W (X.out W h).2.2.2 (by omega))
  generalize sortR l = q at *
  obtain ⟨T, hTx⟩ : ∃ T, dataText q = T := ⟨_, rfl⟩
  rw [hTx] at hrE hrL hTl HOne ⊢
  have hRd := dataRead_any E B T w3 (X.out _ hb3').1 (X.out _ hb3').2.1 (X.out _ hb3').2.2.1 (.inl (by omega)) (by omega)
  rw [hrE, hrL] at hRd
  have HRd := Lib.hid hRd
  clear hRd hm hqr hup hrE hrL hTx hat gat
  go_wp2_with fail
  refine HRd.out.mono ?_
  rintro e w4 ⟨u, ev, rfl, hev, hu, hb4⟩
  obtain rfl : ev = .nilIface := hev
  have hb4' := hb3'.trans (hb4.mono hb3'.size)
  have HU := Lib.hid (fun W (h : Below w4.heap.size w4 W) => hu.below h)
  clear hu
  go_wp2_with fail
  refine (HSo.out _ hb4').mono ?_
  rintro e w5 ⟨v5, rfl, hv5, hb5⟩
  have hb5' := hb4'.trans (hb5.mono hb4'.size)
  have hsm := sameRows_any u v5 q q w5 (HU.out _ hb5) (hv5.at encR_enc)
  simp only [decide_true] at hsm
  have HSm := Lib.hid hsm
  clear hsm hv5
  go_wp2_with fail
  refine HSm.out.mono ?_
  rintro e w7 ⟨rfl, hb7⟩
  have hb7' := hb5'.trans (hb7.mono hb5'.size)
  by_cases hap : (T.length : Int) ≤ at_
  case pos =>
    go_wp2_with fail
    go_ret
    exact ⟨rfl, hb7'⟩
  obtain ⟨p, rfl⟩ := Int.eq_ofNat_of_zero_le HAt.out
  have hp : p < T.length := by omega
  have gap : decide ((T.length : Int) ≤ (p : Int)) = false := by simp; omega
  have hp0 : (0 : Int) ≤ (p : Int) := by omega
  have hp1 : (p : Int) < (T.length : Int) := by omega
  have hpn : ((p : Int)).toNat = p := by omega
  have hbp : (({ data := T.toArray } : ByteArray)[p]'(by simpa [ByteArray.size] using hp)) = T[p] := rfl
  clear hap
  by_cases hc : T[p] = c
  · have g2 : ((T[p].toNat : Int) == (c.toNat : Int)) = true := by rw [hc]; simp
    clear hc
    go_wp2_with fail
    go_ret
    exact ⟨rfl, hb7'⟩
  have g2 : ((T[p].toNat : Int) == (c.toNat : Int)) = false := by
    simp only [beq_eq_false_iff_ne, ne_eq]
    intro h
    exact hc (UInt8.toNat_inj.1 (by omega))
  have hcv : ∀ W, (convert 9 46 (.string ⟨T.toArray⟩)).run Tryz.prog W = .ok (.slice (some ⟨W.heap.size, 0, none⟩) T.length (grownCap W T.length 0 5)) (Lib.bytesWorld W 5 ⟨T.toArray⟩) := fun W =>
    Lib.run_convert_string_bytes W 9 46 5 ⟨T.toArray⟩ Tryz.underlying9 Tryz.underlying46 Tryz.underlying5
  have hb8 : Below w7.heap.size w7 (Lib.bytesWorld w7 5 ⟨T.toArray⟩) := Bbytes _ _ _
  have hcell := fun j (hj : j < T.length) => Lib.bytesWorld_cell w7 5 ⟨T.toArray⟩ j (by simpa [ByteArray.size] using hj)
  have hfr : ∀ j, j < T.length → (Lib.bytesWorld w7 5 ⟨T.toArray⟩).frozen? ⟨w7.heap.size, j, none⟩ = false := fun j hj => by
    have h1 := Lib.bytesWorld_at_new w7 5 ⟨T.toArray⟩
    have h2 := cell_of_row _ w7.heap.size j _ _ _ h1
    rw [hcell j hj] at h2
    have h3 := (Array.getElem?_eq_some_iff.1 h2.symm).1
    simp only [World.frozen?, h1]
    simp
    omega
  have cp := hcell p hp
  have fp := hfr p hp
  rw [show (({ data := T.toArray } : ByteArray).data.toList.getD p 0) = T[p] by simp [List.getD, hp]] at cp
  have HCell := Lib.hid hcell
  have HTp := Lib.hid (show T[p]? = some T[p] from List.getElem?_eq_getElem hp)
  clear hcell hfr
  go_wp2_with fail
  generalize grownCap w7 T.length 0 5 = cap at *
  generalize Lib.bytesWorld w7 5 ⟨T.toArray⟩ = w8 at *
  have hback : (convert 46 9 (.slice (some ⟨w7.heap.size, 0, none⟩) T.length cap)).run Tryz.prog (w8.setCell ⟨w7.heap.size, p, none⟩ (.int .u8 c.toNat)) = .ok (.string ⟨(T.set p c).toArray⟩) (w8.setCell ⟨w7.heap.size, p, none⟩ (.int .u8 c.toNat)) := by
    have h := run_convert_bytes_back (P := Tryz.prog) (w8.setCell ⟨w7.heap.size, p, none⟩ (.int .u8 c.toNat)) 46 9 5 ⟨w7.heap.size, 0, none⟩ cap (T.set p c) Tryz.underlying46 Tryz.underlying5 Tryz.underlying9 (fun j hj => by
      rw [List.length_set] at hj
      rw [Lib.add_plain, Nat.zero_add, List.getElem_set]
      by_cases he : p = j
      · subst he
        rw [if_pos rfl]
        exact World.cell?_setCell_same _ _ _ cp
      · rw [if_neg he, World.cell?_setCell_other _ _ _ _ (fun e => he (by cases e; rfl)), HCell.out j hj]
        simp [List.getD, hj])
    rw [List.length_set] at h
    exact h
  go_wp2_with fail
  rw [hback]
  have hb9 : Below w7.heap.size w7 (w8.setCell ⟨w7.heap.size, p, none⟩ (.int .u8 c.toNat)) := hb8.setCell (p := ⟨w7.heap.size, p, none⟩) (Nat.le_refl _) _
  have hb9' := hb7'.trans (hb9.mono hb7'.size)
  have hne := HOne.out p c T[p] HTp.out hc
  have HRd2 := Lib.hid (dataRead_any E B (T.set p c) (w8.setCell ⟨w7.heap.size, p, none⟩ (.int .u8 c.toNat)) (X.out _ hb9').1 (X.out _ hb9').2.1 (X.out _ hb9').2.2.1 (.inl (by rw [List.length_set]; omega)) (by rw [List.length_set]; omega))
  have hLn : dataL (T.set p c) = [] := by unfold dataL; rw [if_neg hne]
  have HLn := Lib.hid hLn
  have HNe := Lib.hid hne
  clear hc hLn hne
  generalize T.set p c = T' at *
  generalize w8.setCell ⟨w7.heap.size, p, none⟩ (.int .u8 c.toNat) = w9 at *
  go_wp2_with fail
  refine HRd2.out.mono ?_
  rintro e w10 ⟨u10, ev, rfl, hev, hu10, hb10⟩
  obtain ⟨t1, x1, rfl⟩ := hev.iface HNe.out
  rw [HLn.out] at hu10
  obtain ⟨a10, c10, rfl, -, -⟩ := hu10.form'
  clear hu10 hev
  go_wp2_with fail
  go_ret
  exact ⟨rfl, hb9'.trans (hb10.mono hb9'.size)⟩
end Go.Proofs.YtlfkjbdkbdcdnaaGreatDoor
namespace Go.Proofs.YtlfkjbdkbdcdnaaGreatDoor
open Go.ChangeShapes Go.WideShapes Go.ChangeAt Go.WideMaps Go.WideElems Go.RowKit

theorem own : ownKnob Tryz.prog.godebug = none := by kernel_rfl

theorem dataBack_met (os : Os) (args : Array Value) : laidMetH Tryz.prog Rows.dataBackRow.laid ((World.laidAll Tryz.prog os Rows.dataBackRow.laid).forCall (fun _ _ => 0) ⟨#[], args, []⟩).memory := by
  rw [MakeChecks.laidMetH_plain _ _ _ (by kernel_rfl)]
  exact laidMet_laidAll _ (by kernel_rfl) (by kernel_rfl)

def dataBackIdx : Nat → Nat
  | 1 => 4
  | 2 => 5
  | 3 => 6
  | 5 => 7
  | 8 => 8
  | 9 => 9
  | _ => 10

theorem dataBack_errs {W : World} (h : laidMet Tryz.prog Rows.dataBackRow.laid W) : Errs [1, 2, 3, 5, 8, 9, 10] (addrOf W) W.heap.size W := by
  refine errs_of_laid h [1, 2, 3, 5, 8, 9, 10] dataBackIdx (by decide) ?_ ?_ ?_
  · intro c hc
    simp only [List.mem_cons, List.mem_nil_iff, or_false] at hc
    rcases hc with rfl | rfl | rfl | rfl | rfl | rfl | rfl
    · exact gn1
    · exact gn2
    · exact gn3
    · exact gn5
    · exact gn8
    · exact gn9
    · exact gn10
  · intro c hc
    simp only [List.mem_cons, List.mem_nil_iff, or_false] at hc
    rcases hc with rfl | rfl | rfl | rfl | rfl | rfl | rfl
    · exact gt1
    · exact gt2
    · exact gt3
    · exact gt5
    · exact gt8
    · exact gt9
    · exact gt10
  · intro c hc
    simp only [List.mem_cons, List.mem_nil_iff, or_false] at hc
    rcases hc with rfl | rfl | rfl | rfl | rfl | rfl | rfl <;> exact ⟨_, rfl⟩

theorem dataBack_num {W : World} (h : laidMet Tryz.prog Rows.dataBackRow.laid W) (hsh : W.ShapedOpen Tryz.prog) : LNum W.heap.size W :=
  lnum_of (i := 2) (j := 12) (k := 11) h hsh (by kernel_rfl) (by rfl) (by rfl)

set_option maxRecDepth 100000 in
theorem dataBack_lifted (os : Os) (started : os.Started) (H : Type) (enc : TypeId × Value → H) :
    ReturnsInHanded {} Tryz.checked os 7 .any (fun w args => (Rows.dataBackSpec.pre enc Tryz.prog Tryz.f7 [] false w args ∧ laidMetH Tryz.prog Rows.dataBackRow.laid w) ∧ sizedMet enc Tryz.prog Tryz.f7 (OpenSpec.ofChange Rows.dataBackSpec) false w args)
      (Rows.dataBackSpec.post enc Tryz.prog Tryz.f7 false true false false) := by
  refine handed_both (C := Tryz.checked) (X := fun w _ => laidMetH Tryz.prog Rows.dataBackRow.laid w) (fun _ _ _ hh h => h.of_heap hh) own started (by kernel_rfl) Tryz.func7
    (ChangeSpec.witness_shaped (enc := enc) (C := Tryz.checked) (os := os) (X := fun w _ => laidMetH Tryz.prog Rows.dataBackRow.laid w) false (World.laidAll Tryz.prog os Rows.dataBackRow.laid) #[.slice none 0 0, .int .i64 0, .int .u8 0] 8 (World.laidAll_os _ _ _)
      (World.shaped_of_ZipB (by kernel_rfl) (by kernel_rfl)) (by kernel_rfl) (by kernel_rfl) (by kernel_rfl) (dataBack_met os _)) ?_
  intro W base args ds gs before hval0 hW hL hsh
  have hval : ∀ (j : Nat) t v, Tryz.f7.params[j]? = some t → args[j]? = some v → Value.okWide Tryz.prog W .any base t v := hval0
  have hW' := hW
  obtain ⟨p, q, hA0, hV, rfl, _, _⟩ := hW
  have hA : DataW.TrodAll enc Tryz.prog W 0 (fun _ => true) true Tryz.f7.params.toList args.toList ds p := hA0
  rw [Tryz.params7] at hA hval
  obtain ⟨v1, v2, v3, d1, d2, d3, p1, p2, p3, rfl, rfl, rfl, h1, h2, h3⟩ := trodAll_three hA
  obtain ⟨rfl, rfl⟩ := trodVars_none hV
  simp only [List.append_nil] at hW'
  clear hA0 hval0
  have hlt : ∀ x ∈ p1 ++ p2 ++ p3, x.block < W.heap.size := fun x hx => by simpa using hW'.lt x (by simpa using hx)
  have hL' : laidMet Tryz.prog Rows.dataBackRow.laid W := by rwa [MakeChecks.laidMetH_plain _ _ _ (by kernel_rfl)] at hL
  obtain ⟨l1, a1, b1⟩ := rows_came (hval 0 22 v1 rfl rfl) h1
  obtain ⟨l2, rfl, b2⟩ := int_came (hval 1 3 v2 rfl rfl) h2
  obtain ⟨l3, rfl⟩ := byte_came (hval 2 5 v3 rfl rfl) h3
  refine (dataBack_any (addrOf W) _ v1 l1 l2 l3 W (dataBack_errs hL')  (dataBack_num hL' hsh) (lmax_of hsh) a1).mono fun e W' ⟨he, hb⟩ => ?_
  subst he
  refine ⟨_, rfl, _, _, _, [], p1 ++ (p2 ++ p3), [], hW', ?_, ?_, ?_, hb.frame _, fun h => by cases h⟩
  · exact trodAll_mk1 (shut_bool Tryz.underlying4 true)
  · exact trodAll_mk3 (Below.trod laidOut (by kernel_rfl) (of_decide_eq_true (by kernel_rfl)) h1 hb (fun x hx => hlt x (by simp [hx]))) (Below.trod laidOut (by kernel_rfl) (of_decide_eq_true (by kernel_rfl)) h2 hb (fun x hx => hlt x (by simp [hx]))) (Below.trod laidOut (by kernel_rfl) (of_decide_eq_true (by kernel_rfl)) h3 hb (fun x hx => hlt x (by simp [hx])))
  · rfl

theorem dataBack_inPlace : (Rows.dataBackRow.inPlace == Tryz.pinned.checked.prog.inPlace 7) = true := by kernel_rfl

theorem dataBack_unfollowed : (Rows.dataBackRow.unfollowed == Tryz.pinned.checked.prog.unfollowed 7) = true := by kernel_rfl

theorem dataBack_recurses : (Rows.dataBackRow.recurses == Tryz.pinned.checked.prog.recurses 7) = true := by kernel_rfl

theorem dataBack_named : (Rows.dataBackRow.named == Tryz.pinned.checked.prog.varsNamed 7) = true := by kernel_rfl

theorem dataBack_facts : joinedFacts Tryz.pinned.checked.prog 7 Tryz.f7 Rows.dataBackSpec Rows.dataBackRow = true := by
  unfold joinedFacts
  rw [dataBack_inPlace, dataBack_unfollowed, dataBack_recurses, dataBack_named]
  kernel_rfl

theorem dataBack_holds : Rows.DataBackSaid :=
  OpenClaim.holds_of_wide 7 Tryz.f7 rfl rfl rfl rfl rfl rfl rfl ⟨rfl, rfl, rfl, rfl, rfl⟩ rfl rfl rfl rfl rfl (by kernel_rfl) Tryz.func7 dataBack_facts
    (of_decide_eq_true (by kernel_rfl)) (by unfold Func.isWrapper; first | (rw [if_pos (by decide +kernel)]; kernel_rfl) | (rw [if_neg (by decide +kernel)]; exact ⟨rfl, rfl⟩))
    (fun os started H enc _ => dataBack_lifted os started H enc)

theorem dataBack_card_holds : Rows.DataBackCardSaid :=
  Claim7.holds_tied_plain_at .later [] Rows.dataBackCard.laidKinds true Rows.dataBackCard.stood.harness true
    dataBack_holds (fun _ h => by cases h) (by kernel_rfl) (fun _ h => by cases h) dataBack_row_tie rfl ⟨rfl, rfl⟩ (by kernel_rfl) rfl
    (fun f fn hf hfn => by
      obtain rfl : f = 7 := Option.some.inj ((show Tryz.prog.funcNamed "deedbox/deedboxlaw1.DataBack" = some 7 by kernel_rfl).symm.trans hf) |>.symm
      obtain rfl : fn = Tryz.f7 := (Option.some.inj (Tryz.func7.symm.trans hfn)).symm
      exact ⟨by kernel_rfl, fun j t ht => by
        rw [Tryz.params7] at ht
        have hm : t ∈ [22, 3, 5] := by simpa using Array.mem_of_getElem? ht
        have hall : ([22, 3, 5].all fun u => !Tryz.prog.wantsStandIn u) = true := by kernel_rfl
        exact (show Tryz.prog.wantsStandIn t = false by simpa using List.all_eq_true.1 hall t hm)⟩)
    (by kernel_rfl)
#print axioms dataBack_card_holds
end Go.Proofs.YtlfkjbdkbdcdnaaGreatDoor
