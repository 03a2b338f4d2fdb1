/- 'deedboxlaw3.TxnLoses' returns true at every input: what was not touched stays; two changes, one behind the other, both are there, whichever was begun first. Condition: the package-level variables read as the program's text lays them; the card ties that. -/
import Derived.Test.YtmhchakjkgdpmaaGreatDoorRows
import Derived.Test.YtmhchakjkgdpmaaGreatDoorCards
import Derived.Test.YtmhchakjkgdpmaaGreatDoorTie
import Derived.Test.YtmhchakjkgdpmaaGreatDoorTl1
import Derived.Test.YtmhchakjkgdpmaaGreatDoorTt17
import Derived.LaidOnce
import Derived.SevenTiedAt
namespace Go.Proofs.YtmhchakjkgdpmaaGreatDoor
open Go.ChangeShapes Go.WideShapes Go.ChangeAt Go.WideMaps Go.WideElems Go.RowKit

theorem own : ownKnob Tryz.prog.godebug = none := by kernel_rfl

theorem txnLoses_met (os : Os) (args : Array Value) : laidMetH Tryz.prog Rows.txnLosesRow.laid ((World.laidAll Tryz.prog os Rows.txnLosesRow.laid).forCall (fun _ _ => 0) ⟨#[], args, []⟩).memory := by
  rw [MakeChecks.laidMetH_plain _ _ _ (by kernel_rfl)]
  exact laidMet_laidAll _ (by kernel_rfl) (by kernel_rfl)

def txnLosesIdx : Nat → Nat
  | 2 => 4
  | 4 => 5
  | 5 => 6
  | 6 => 7
  | 7 => 8
  | 8 => 9
  | 9 => 10
  | _ => 11

theorem txnLoses_errs {W : World} (h : laidMet Tryz.prog Rows.txnLosesRow.laid W) : Errs [2, 4, 5, 6, 7, 8, 9, 11] (addrOf W) W.heap.size W := by
  refine errs_of_laid h [2, 4, 5, 6, 7, 8, 9, 11] txnLosesIdx (by decide) ?_ ?_ ?_
  · intro c hc
    simp only [List.mem_cons, List.mem_nil_iff, or_false] at hc
    rcases hc with rfl | rfl | rfl | rfl | rfl | rfl | rfl | rfl
    · exact gn2
    · exact gn4
    · exact gn5
    · exact gn6
    · exact gn7
    · exact gn8
    · exact gn9
    · exact gn11
  · intro c hc
    simp only [List.mem_cons, List.mem_nil_iff, or_false] at hc
    rcases hc with rfl | rfl | rfl | rfl | rfl | rfl | rfl | rfl
    · exact gt2
    · exact gt4
    · exact gt5
    · exact gt6
    · exact gt7
    · exact gt8
    · exact gt9
    · exact gt11
  · intro c hc
    simp only [List.mem_cons, List.mem_nil_iff, or_false] at hc
    rcases hc with rfl | rfl | rfl | rfl | rfl | rfl | rfl | rfl <;> exact ⟨_, rfl⟩

theorem txnLoses_num {W : World} (h : laidMet Tryz.prog Rows.txnLosesRow.laid W) (hsh : W.ShapedOpen Tryz.prog) : LNum W.heap.size W :=
  lnum_of (i := 2) (j := 13) (k := 12) h hsh (by kernel_rfl) (by rfl) (by rfl)

set_option maxRecDepth 100000 in
theorem txnLoses_lifted (os : Os) (started : os.Started) (H : Type) (enc : TypeId × Value → H) :
    ReturnsInHanded {} Tryz.checked os 3 .any (fun w args => (Rows.txnLosesSpec.pre enc Tryz.prog Tryz.f3 [] false w args ∧ laidMetH Tryz.prog Rows.txnLosesRow.laid w) ∧ sizedMet enc Tryz.prog Tryz.f3 (OpenSpec.ofChange Rows.txnLosesSpec) false w args)
      (Rows.txnLosesSpec.post enc Tryz.prog Tryz.f3 false true false false) := by
  refine handed_both (C := Tryz.checked) (X := fun w _ => laidMetH Tryz.prog Rows.txnLosesRow.laid w) (fun _ _ _ hh h => h.of_heap hh) own started (by kernel_rfl) Tryz.func3
    (ChangeSpec.witness_shaped (enc := enc) (C := Tryz.checked) (os := os) (X := fun w _ => laidMetH Tryz.prog Rows.txnLosesRow.laid w) false (World.laidAll Tryz.prog os Rows.txnLosesRow.laid) #[.agg #[.int .i64 0, .int .i64 0, .int .i64 0, .int .i64 0, .int .i64 0, .string ⟨#[]⟩, .slice none 0 0], .slice none 0 0, .slice none 0 0, .int .i64 0, .int .i64 0, .int .i64 0] 8 (World.laidAll_os _ _ _)
      (World.shaped_of_ZipB (by kernel_rfl) (by kernel_rfl)) (by kernel_rfl) (by kernel_rfl) (by kernel_rfl) (txnLoses_met os _)) ?_
  intro W base args ds gs before hval0 hW hL hsh
  have hval : ∀ (j : Nat) t v, Tryz.f3.params[j]? = some t → args[j]? = some v → Value.okWide Tryz.prog W .any base t v := hval0
  have hW' := hW
  obtain ⟨p, q, hA0, hV, rfl, _, _⟩ := hW
  have hA : DataW.TrodAll enc Tryz.prog W 0 (fun _ => true) true Tryz.f3.params.toList args.toList ds p := hA0
  rw [Tryz.params3] at hA hval
  obtain ⟨v1, v2, v3, v4, v5, v6, d1, d2, d3, d4, d5, d6, p1, p2, p3, p4, p5, p6, rfl, rfl, rfl, h1, h2, h3, h4, h5, h6⟩ := trodAll_six hA
  obtain ⟨rfl, rfl⟩ := trodVars_none hV
  simp only [List.append_nil] at hW'
  clear hA0 hval0
  have hlt : ∀ x ∈ p1 ++ p2 ++ p3 ++ p4 ++ p5 ++ p6, x.block < W.heap.size := fun x hx => by simpa using hW'.lt x (by simpa using hx)
  have hL' : laidMet Tryz.prog Rows.txnLosesRow.laid W := by rwa [MakeChecks.laidMetH_plain _ _ _ (by kernel_rfl)] at hL
  obtain ⟨u1, l1, rfl, a1, b1⟩ := snap_came (hval 0 24 v1 rfl rfl) h1
  obtain ⟨l2, a2, b2⟩ := changes_came (hval 1 25 v2 rfl rfl) h2
  obtain ⟨l3, a3, b3⟩ := changes_came (hval 2 25 v3 rfl rfl) h3
  obtain ⟨l4, rfl, b4⟩ := int_came (hval 3 3 v4 rfl rfl) h4
  obtain ⟨l5, rfl, b5⟩ := int_came (hval 4 3 v5 rfl rfl) h5
  obtain ⟨l6, rfl, b6⟩ := int_came (hval 5 3 v6 rfl rfl) h6
  refine (txnLoses_any (addrOf W) _ u1 l1 v2 l2 v3 l3 l4 l5 l6 W (txnLoses_errs hL')  (txnLoses_num hL' hsh) (lmax_of hsh) a1 a2 a3 b4.1).mono fun e W' ⟨he, hb⟩ => ?_
  subst he
  refine ⟨_, rfl, _, _, _, [], p1 ++ (p2 ++ (p3 ++ (p4 ++ (p5 ++ p6)))), [], hW', ?_, ?_, ?_, hb.frame _, fun h => by cases h⟩
  · exact trodAll_mk1 (shut_bool Tryz.underlying4 true)
  · exact (trodAll_cons_mk (Below.trod laidOut (by kernel_rfl) (of_decide_eq_true (by kernel_rfl)) h1 hb (fun x hx => hlt x (by simp [hx]))) (trodAll_cons_mk (Below.trod laidOut (by kernel_rfl) (of_decide_eq_true (by kernel_rfl)) h2 hb (fun x hx => hlt x (by simp [hx]))) (trodAll_mk4 (Below.trod laidOut (by kernel_rfl) (of_decide_eq_true (by kernel_rfl)) h3 hb (fun x hx => hlt x (by simp [hx]))) (Below.trod laidOut (by kernel_rfl) (of_decide_eq_true (by kernel_rfl)) h4 hb (fun x hx => hlt x (by simp [hx]))) (Below.trod laidOut (by kernel_rfl) (of_decide_eq_true (by kernel_rfl)) h5 hb (fun x hx => hlt x (by simp [hx]))) (Below.trod laidOut (by kernel_rfl) (of_decide_eq_true (by kernel_rfl)) h6 hb (fun x hx => hlt x (by simp [hx]))))))
  · rfl

theorem txnLoses_inPlace : (Rows.txnLosesRow.inPlace == Tryz.pinned.checked.prog.inPlace 3) = true := by kernel_rfl

theorem txnLoses_unfollowed : (Rows.txnLosesRow.unfollowed == Tryz.pinned.checked.prog.unfollowed 3) = true := by kernel_rfl

theorem txnLoses_recurses : (Rows.txnLosesRow.recurses == Tryz.pinned.checked.prog.recurses 3) = true := by kernel_rfl

theorem txnLoses_named : (Rows.txnLosesRow.named == Tryz.pinned.checked.prog.varsNamed 3) = true := by kernel_rfl

theorem txnLoses_facts : joinedFacts Tryz.pinned.checked.prog 3 Tryz.f3 Rows.txnLosesSpec Rows.txnLosesRow = true := by
  unfold joinedFacts
  rw [txnLoses_inPlace, txnLoses_unfollowed, txnLoses_recurses, txnLoses_named]
  kernel_rfl

theorem txnLoses_holds : Rows.TxnLosesSaid :=
  OpenClaim.holds_of_wide 3 Tryz.f3 rfl rfl rfl rfl rfl rfl rfl ⟨rfl, rfl, rfl, rfl, rfl⟩ rfl rfl rfl rfl rfl (by kernel_rfl) Tryz.func3 txnLoses_facts
    (of_decide_eq_true (by kernel_rfl)) (by unfold Func.isWrapper; first | (rw [if_pos (by decide +kernel)]; kernel_rfl) | (rw [if_neg (by decide +kernel)]; exact ⟨rfl, rfl⟩))
    (fun os started H enc _ => txnLoses_lifted os started H enc)

theorem txnLoses_wf : Rows.txnLosesRow.wfByText (OpenSpec.ofChange Rows.txnLosesSpec) = true := by kernel_rfl

theorem txnLoses_main : Tryz.pinned.checked.prog.mainIs = some (Rows.txnLosesCard.stood.harness.1, Rows.txnLosesCard.stood.harness.2.toList) := by kernel_rfl

theorem txnLoses_looks : true = Tryz.pinned.checked.prog.looks [] := by kernel_rfl

theorem txnLoses_goes : false = Rows.txnLosesRow.goesBy Tryz.pinned.checked.prog := by kernel_rfl

theorem txnLoses_fn : Tryz.pinned.checked.prog.funcNamed Rows.txnLosesRow.func = some 3 := by kernel_rfl

theorem txnLoses_stand : ([24, 25, 25, 3, 3, 3].all fun u => !Tryz.pinned.checked.prog.wantsStandIn u) = true := by kernel_rfl

theorem txnLoses_card_holds : Rows.TxnLosesCardSaid :=
  Claim7.holds_tied_plain_at .later [] Rows.txnLosesCard.laidKinds true Rows.txnLosesCard.stood.harness true
    txnLoses_holds (fun _ h => by cases h) txnLoses_wf (fun _ h => by cases h) txnLoses_row_tie rfl ⟨rfl, rfl⟩ txnLoses_main rfl
    (fun f fn hf hfn => by
      obtain rfl : f = 3 := Option.some.inj (txnLoses_fn.symm.trans hf) |>.symm
      obtain rfl : fn = Tryz.f3 := (Option.some.inj (Tryz.func3.symm.trans hfn)).symm
      exact ⟨txnLoses_looks, fun j t ht => by
        rw [Tryz.params3] at ht
        have hm : t ∈ [24, 25, 25, 3, 3, 3] := by simpa using Array.mem_of_getElem? ht
        exact (show Tryz.pinned.checked.prog.wantsStandIn t = false by simpa using List.all_eq_true.1 txnLoses_stand t hm)⟩)
    txnLoses_goes
#print axioms txnLoses_card_holds
end Go.Proofs.YtmhchakjkgdpmaaGreatDoor
