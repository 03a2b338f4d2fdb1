/- 'deedboxlaw3.ScanTells' returns true at every input: rows, their number and a key's values are told as the document's answer has them, at any files, any snap of them and any keys. Condition: the package-level variables read as the program's text lays them; the card ties that. -/
import Derived.Test.YtefoaeamfkbgbaaGreatDoorRows
import Derived.Test.YtefoaeamfkbgbaaGreatDoorCards
import Derived.Test.YtefoaeamfkbgbaaGreatDoorTie
import Derived.Test.YtefoaeamfkbgbaaGreatDoorSte3
import Derived.LaidOnce
import Derived.SevenTiedAt
namespace Go.Proofs.YtefoaeamfkbgbaaGreatDoor
open Go.ChangeShapes Go.WideShapes Go.ChangeAt Go.WideMaps Go.WideElems Go.RowKit
theorem own : ownKnob Tryz.prog.godebug = none := by kernel_rfl
theorem scanTells_met (os : Os) (args : Array Value) : laidMetH Tryz.prog Rows.scanTellsRow.laid ((witW os Rows.scanTellsRow.laid).forCall (fun _ _ => 0) ⟨#[], args, []⟩).memory := by
  exact witW_met os Rows.scanTellsRow.laid args (by kernel_rfl) (by kernel_rfl) (by kernel_rfl)
def scanTellsIdx : Nat → Nat
  | 1 => 4
  | 2 => 5
  | 3 => 6
  | 4 => 7
  | 5 => 8
  | 6 => 9
  | 7 => 10
  | 8 => 11
  | 9 => 12
  | 10 => 13
  | 11 => 14
  | _ => 15
theorem scanTells_errs {W : World} (h : laidMet Tryz.prog (Rows.scanTellsRow.laid.filter fun x => x.2.handleName?.isNone) W) : Errs allE (addrOf W) W.heap.size W := by
  refine errs_of_laid h allE scanTellsIdx (by decide) ?_ ?_ ?_
  · intro c hc
    simp only [allE, List.mem_cons, List.mem_nil_iff, or_false] at hc
    rcases hc with rfl | rfl | rfl | rfl | rfl | rfl | rfl | rfl | rfl | rfl | rfl | rfl
    · exact gn1
    · exact gn2
    · exact gn3
    · exact gn4
    · exact gn5
    · exact gn6
    · exact gn7
    · exact gn8
    · exact gn9
    · exact gn10
    · exact gn11
    · exact gn12
  · intro c hc
    simp only [allE, List.mem_cons, List.mem_nil_iff, or_false] at hc
    rcases hc with rfl | rfl | rfl | rfl | rfl | rfl | rfl | rfl | rfl | rfl | rfl | rfl
    · exact gt1
    · exact gt2
    · exact gt3
    · exact gt4
    · exact gt5
    · exact gt6
    · exact gt7
    · exact gt8
    · exact gt9
    · exact gt10
    · exact gt11
    · exact gt12
  · intro c hc
    simp only [allE, List.mem_cons, List.mem_nil_iff, or_false] at hc
    rcases hc with rfl | rfl | rfl | rfl | rfl | rfl | rfl | rfl | rfl | rfl | rfl | rfl <;> exact ⟨_, rfl⟩
theorem scanTells_num {W : World} (h : laidMet Tryz.prog (Rows.scanTellsRow.laid.filter fun x => x.2.handleName?.isNone) W) (hsh : W.ShapedOpen Tryz.prog) : LNum W.heap.size W :=
  lnum_of (i := 2) (j := 17) (k := 16) h hsh (by kernel_rfl) (by rfl) (by rfl)
set_option maxRecDepth 100000 in
theorem scanTells_lifted (os : Os) (started : os.Started) (H : Type) (enc : TypeId × Value → H) :
    ReturnsInHanded {} Tryz.checked os 5 .any (fun w args => (Rows.scanTellsSpec.pre enc Tryz.prog Tryz.f5 [] false w args ∧ laidMetH Tryz.prog Rows.scanTellsRow.laid w) ∧ sizedMet enc Tryz.prog Tryz.f5 (OpenSpec.ofChange Rows.scanTellsSpec) false w args)
      (Rows.scanTellsSpec.post enc Tryz.prog Tryz.f5 false true false false) := by
  refine handed_both (C := Tryz.checked) (X := fun w _ => laidMetH Tryz.prog Rows.scanTellsRow.laid w) (fun _ _ _ hh h => h.of_heap hh) own started (by kernel_rfl) Tryz.func5
    (ChangeSpec.witness_shaped (enc := enc) (C := Tryz.checked) (os := os) (X := fun w _ => laidMetH Tryz.prog Rows.scanTellsRow.laid w) false (witW os Rows.scanTellsRow.laid) #[.slice none 0 0, .agg #[.int .i64 0, .int .i64 0, .int .i64 0, .int .i64 0, .int .i64 0, .string ⟨#[]⟩, .slice none 0 0], .int .i64 0, .int .i64 0, .int .i64 0] 8 (witW_os _ _)
      (World.shaped_of_ZipB (by kernel_rfl) (by kernel_rfl)) (by kernel_rfl) (by kernel_rfl) (by kernel_rfl) (scanTells_met os _)) ?_
  intro W base args ds gs before hval0 hW hL hsh
  have hval : ∀ (j : Nat) t v, Tryz.f5.params[j]? = some t → args[j]? = some v → Value.okWide Tryz.prog W .any base t v := hval0
  have hW' := hW
  obtain ⟨p, q, hA0, hV, rfl, _, _⟩ := hW
  have hA : DataW.TrodAll enc Tryz.prog W 0 (fun _ => true) true Tryz.f5.params.toList args.toList ds p := hA0
  rw [Tryz.params5] at hA hval
  obtain ⟨v1, v2, v3, v4, v5, d1, d2, d3, d4, d5, p1, p2, p3, p4, p5, rfl, rfl, rfl, h1, h2, h3, h4, h5⟩ := trodAll_five hA
  obtain ⟨rfl, rfl⟩ := trodVars_none hV
  simp only [List.append_nil] at hW'
  clear hA0 hval0
  have hlt : ∀ x ∈ p1 ++ p2 ++ p3 ++ p4 ++ p5, x.block < W.heap.size := fun x hx => by simpa using hW'.lt x (by simpa using hx)
  have h' : laidMet Tryz.prog (Rows.scanTellsRow.laid.filter fun x => x.2.handleName?.isNone) W ∧ handlesMet Tryz.prog (Rows.scanTellsRow.laid.filter fun x => x.2.handleName?.isSome) W := hL
  have hL' := h'.1
  have hAs : AsVar W := asVar_of_laid h'.2 (List.mem_filter.2 ⟨by simp [Rows.scanTellsRow, Rows.laid_errors_errorType], rfl⟩)
  have hgB : 12 < W.heap.size := World.block_lt_of_cell? W ⟨12, 0, none⟩ hAs
  obtain ⟨l1, a1, b1⟩ := pieces_came (hval 0 22 v1 rfl rfl) h1
  obtain ⟨u2, l2, rfl, a2, b2⟩ := snap_came (hval 1 25 v2 rfl rfl) h2
  obtain ⟨l3, rfl, b3⟩ := int_came (hval 2 3 v3 rfl rfl) h3
  obtain ⟨l4, rfl, b4⟩ := int_came (hval 3 3 v4 rfl rfl) h4
  obtain ⟨l5, rfl, b5⟩ := int_came (hval 4 3 v5 rfl rfl) h5
  refine (scanTells_any (addrOf W) _ v1 l1 u2 l2 l3 l4 l5 W (scanTells_errs hL') hAs hgB (scanTells_num hL' hsh) (lmax_of hsh) a1 (fun x hx => ⟨(b1 x hx).ra, (b1 x hx).ka⟩) a2).mono fun e W' ⟨he, hb⟩ => ?_
  subst he
  refine ⟨_, rfl, _, _, _, [], p1 ++ (p2 ++ (p3 ++ (p4 ++ p5))), [], hW', ?_, ?_, ?_, hb.frame _, fun h => by cases h⟩
  · exact trodAll_mk1 (shut_bool Tryz.underlying4 true)
  · exact (trodAll_cons_mk (Below.trod laidOut (by kernel_rfl) (of_decide_eq_true (by kernel_rfl)) h1 hb (fun x hx => hlt x (by simp [hx]))) (trodAll_mk4 (Below.trod laidOut (by kernel_rfl) (of_decide_eq_true (by kernel_rfl)) h2 hb (fun x hx => hlt x (by simp [hx]))) (Below.trod laidOut (by kernel_rfl) (of_decide_eq_true (by kernel_rfl)) h3 hb (fun x hx => hlt x (by simp [hx]))) (Below.trod laidOut (by kernel_rfl) (of_decide_eq_true (by kernel_rfl)) h4 hb (fun x hx => hlt x (by simp [hx]))) (Below.trod laidOut (by kernel_rfl) (of_decide_eq_true (by kernel_rfl)) h5 hb (fun x hx => hlt x (by simp [hx])))))
  · rfl
theorem scanTells_inPlace : (Rows.scanTellsRow.inPlace == Tryz.pinned.checked.prog.inPlace 5) = true := by kernel_rfl
theorem scanTells_unfollowed : (Rows.scanTellsRow.unfollowed == Tryz.pinned.checked.prog.unfollowed 5) = true := by kernel_rfl
theorem scanTells_recurses : (Rows.scanTellsRow.recurses == Tryz.pinned.checked.prog.recurses 5) = true := by kernel_rfl
theorem scanTells_named : (Rows.scanTellsRow.named == Tryz.pinned.checked.prog.varsNamed 5) = true := by kernel_rfl
theorem scanTells_facts : joinedFacts Tryz.pinned.checked.prog 5 Tryz.f5 Rows.scanTellsSpec Rows.scanTellsRow = true := by
  unfold joinedFacts
  rw [scanTells_inPlace, scanTells_unfollowed, scanTells_recurses, scanTells_named]
  kernel_rfl
theorem scanTells_holds : Rows.ScanTellsSaid :=
  OpenClaim.holds_of_wide 5 Tryz.f5 rfl rfl rfl rfl rfl rfl rfl ⟨rfl, rfl, rfl, rfl, rfl⟩ rfl rfl rfl rfl rfl (by kernel_rfl) Tryz.func5 scanTells_facts
    (of_decide_eq_true (by kernel_rfl)) (by unfold Func.isWrapper; first | (rw [if_pos (by decide +kernel)]; kernel_rfl) | (rw [if_neg (by decide +kernel)]; exact ⟨rfl, rfl⟩))
    (fun os started H enc _ => scanTells_lifted os started H enc)
theorem scanTells_wf : Rows.scanTellsRow.wfByText (OpenSpec.ofChange Rows.scanTellsSpec) = true := by kernel_rfl
theorem scanTells_main : Tryz.pinned.checked.prog.mainIs = some (Rows.scanTellsCard.stood.harness.1, Rows.scanTellsCard.stood.harness.2.toList) := by kernel_rfl
theorem scanTells_looks : true = Tryz.pinned.checked.prog.looks [] := by kernel_rfl
theorem scanTells_goes : false = Rows.scanTellsRow.goesBy Tryz.pinned.checked.prog := by kernel_rfl
theorem scanTells_fn : Tryz.pinned.checked.prog.funcNamed Rows.scanTellsRow.func = some 5 := by kernel_rfl
theorem scanTells_stand : ([22, 25, 3, 3, 3].all fun u => !Tryz.pinned.checked.prog.wantsStandIn u) = true := by kernel_rfl
theorem scanTells_card_holds : Rows.ScanTellsCardSaid :=
  Claim7.holds_tied_plain_at .later [] Rows.scanTellsCard.laidKinds true Rows.scanTellsCard.stood.harness true
    scanTells_holds (fun _ h => by cases h) scanTells_wf (fun _ h => by cases h) scanTells_row_tie rfl ⟨rfl, rfl⟩ scanTells_main rfl
    (fun f fn hf hfn => by
      obtain rfl : f = 5 := Option.some.inj (scanTells_fn.symm.trans hf) |>.symm
      obtain rfl : fn = Tryz.f5 := (Option.some.inj (Tryz.func5.symm.trans hfn)).symm
      exact ⟨scanTells_looks, fun j t ht => by
        rw [Tryz.params5] at ht
        have hm : t ∈ [22, 25, 3, 3, 3] := by simpa using Array.mem_of_getElem? ht
        exact (show Tryz.pinned.checked.prog.wantsStandIn t = false by simpa using List.all_eq_true.1 scanTells_stand t hm)⟩)
    scanTells_goes
#print axioms scanTells_card_holds
end Go.Proofs.YtefoaeamfkbgbaaGreatDoor
