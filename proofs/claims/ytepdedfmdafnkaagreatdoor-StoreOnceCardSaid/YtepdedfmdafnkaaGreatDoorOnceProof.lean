/- 'deedboxlaw2.StoreOnce' returns true at every input: an object is what was put, once, or, where power failed, a beginning of it; the head is swapped whole, or not at all. Condition: the package-level variables read as the program's text lays them; the card ties that. -/
import Derived.Test.YtepdedfmdafnkaaGreatDoorRows
import Derived.Test.YtepdedfmdafnkaaGreatDoorCards
import Derived.Test.YtepdedfmdafnkaaGreatDoorTie
import Derived.Test.YtepdedfmdafnkaaGreatDoorOnceW
import Derived.Test.YtepdedfmdafnkaaGreatDoorBuildA
import Derived.Test.YtepdedfmdafnkaaGreatDoorWit
import Derived.LaidOnce
import Derived.SevenTiedAt
namespace Go.Proofs.YtepdedfmdafnkaaGreatDoor
open Go.ChangeShapes Go.WideShapes Go.ChangeAt Go.WideMaps Go.WideElems Go.RowKit

theorem own : ownKnob Tryz.prog.godebug = none := by kernel_rfl

theorem once_met (os : Os) (args : Array Value) : laidMetH Tryz.prog Rows.storeOnceRow.laid ((witW os Rows.storeOnceRow.laid).forCall (fun _ _ => 0) ⟨#[], args, []⟩).memory :=
  witW_met os Rows.storeOnceRow.laid args (by kernel_rfl) (by kernel_rfl) (by kernel_rfl)

theorem once_errs {W : World} (h : laidMetH Tryz.prog Rows.storeOnceRow.laid W) : Errs allE (addrOf W) W.heap.size W ∧ AsVar W := by
  have h' : laidMet Tryz.prog (Rows.storeOnceRow.laid.filter fun x => x.2.handleName?.isNone) W ∧ handlesMet Tryz.prog (Rows.storeOnceRow.laid.filter fun x => x.2.handleName?.isSome) W := h
  refine ⟨errs_of_laid h'.1 allE (fun c => c) (fun c hc => hc) ?_ ?_ ?_, asVar_of_laid h'.2 (List.mem_filter.2 ⟨by simp [Rows.storeOnceRow, Rows.laid_errors_errorType], rfl⟩)⟩
  · intro c hc
    simp only [allE, List.mem_cons, List.mem_nil_iff, or_false] at hc
    rcases hc with rfl | rfl | rfl | rfl | rfl | rfl | rfl | rfl | rfl | rfl | rfl | rfl
    · exact gn1
    · exact gn2
    · exact gn3
    · exact gn4
    · exact gn5
    · exact gn6
    · exact gn7
    · exact gn8
    · exact gn9
    · exact gn10
    · exact gn11
    · exact gn12
  · intro c hc
    simp only [allE, List.mem_cons, List.mem_nil_iff, or_false] at hc
    rcases hc with rfl | rfl | rfl | rfl | rfl | rfl | rfl | rfl | rfl | rfl | rfl | rfl
    · exact gt1
    · exact gt2
    · exact gt3
    · exact gt4
    · exact gt5
    · exact gt6
    · exact gt7
    · exact gt8
    · exact gt9
    · exact gt10
    · exact gt11
    · exact gt12
  · intro c hc
    simp only [allE, List.mem_cons, List.mem_nil_iff, or_false] at hc
    rcases hc with rfl | rfl | rfl | rfl | rfl | rfl | rfl | rfl | rfl | rfl | rfl | rfl <;> exact ⟨_, rfl⟩

set_option maxRecDepth 100000 in
theorem once_lifted (os : Os) (started : os.Started) (H : Type) (enc : TypeId × Value → H) :
    ReturnsInHanded {} Tryz.checked os 3 .any (fun w args => (Rows.storeOnceSpec.pre enc Tryz.prog Tryz.f3 [] false w args ∧ laidMetH Tryz.prog Rows.storeOnceRow.laid w) ∧ sizedMet enc Tryz.prog Tryz.f3 (OpenSpec.ofChange Rows.storeOnceSpec) false w args)
      (Rows.storeOnceSpec.post enc Tryz.prog Tryz.f3 false true false false) := by
  refine handed_both (C := Tryz.checked) (X := fun w _ => laidMetH Tryz.prog Rows.storeOnceRow.laid w) (fun _ _ _ hh h => h.of_heap hh) own started (by kernel_rfl) Tryz.func3
    (ChangeSpec.witness_shaped (enc := enc) (C := Tryz.checked) (os := os) (X := fun w _ => laidMetH Tryz.prog Rows.storeOnceRow.laid w) false (witW os Rows.storeOnceRow.laid) #[.slice none 0 0] 8 (witW_os _ _)
      (World.shaped_of_ZipB (by kernel_rfl) (by kernel_rfl)) (by kernel_rfl) (by kernel_rfl) (by kernel_rfl) (once_met os _)) ?_
  intro W base args ds gs before hval0 hW hL hsh
  have hval : ∀ (j : Nat) t v, Tryz.f3.params[j]? = some t → args[j]? = some v → Value.okWide Tryz.prog W .any base t v := hval0
  have hW' := hW
  obtain ⟨p, q, hA0, hV, rfl, _, _⟩ := hW
  have hA : DataW.TrodAll enc Tryz.prog W 0 (fun _ => true) true Tryz.f3.params.toList args.toList ds p := hA0
  rw [Tryz.params3] at hA hval
  obtain ⟨v1, d1, rfl, rfl, h1⟩ := trodAll_one hA
  obtain ⟨rfl, rfl⟩ := trodVars_none hV
  simp only [List.append_nil] at hW'
  clear hA0 hval0
  have hlt : ∀ x ∈ p, x.block < W.heap.size := fun x hx => by simpa using hW'.lt x hx
  obtain ⟨hE, hAs⟩ := once_errs hL
  obtain ⟨l1, a1, hn⟩ := acts_came (hval 0 22 v1 rfl rfl) h1
  have hgB : 12 < W.heap.size := World.block_lt_of_cell? W ⟨12, 0, none⟩ hAs
  refine (once_any (addrOf W) _ v1 l1 W hE hAs hgB a1 hn).mono fun e W' ⟨he, hb⟩ => ?_
  subst he
  refine ⟨_, rfl, _, _, _, [], p, [], hW', ?_, ?_, ?_, hb.frame _, fun h => by cases h⟩
  · exact trodAll_mk1 (shut_bool Tryz.underlying4 true)
  · exact trodAll_mk1 (Below.trod laidOut (by kernel_rfl) (of_decide_eq_true (by kernel_rfl)) h1 hb (fun x hx => hlt x (by simp [hx])))
  · rfl

theorem storeOnce_holds : Rows.StoreOnceSaid :=
  OpenClaim.holds_of_wide 3 Tryz.f3 rfl rfl rfl rfl rfl rfl rfl ⟨rfl, rfl, rfl, rfl, rfl⟩ rfl rfl rfl rfl rfl (by kernel_rfl) Tryz.func3 (by kernel_rfl)
    (of_decide_eq_true (by kernel_rfl)) (by unfold Func.isWrapper; first | (rw [if_pos (by decide +kernel)]; kernel_rfl) | (rw [if_neg (by decide +kernel)]; exact ⟨rfl, rfl⟩))
    (fun os started H enc _ => once_lifted os started H enc)

theorem storeOnce_card_holds : Rows.StoreOnceCardSaid :=
  Claim7.holds_tied_plain_at .later [] Rows.storeOnceCard.laidKinds true Rows.storeOnceCard.stood.harness true
    storeOnce_holds (fun _ h => by cases h) (by kernel_rfl) (fun _ h => by cases h) storeOnce_row_tie rfl ⟨rfl, rfl⟩ (by kernel_rfl) rfl
    (fun f fn hf hfn => by
      obtain rfl : f = 3 := Option.some.inj ((show Tryz.prog.funcNamed "deedbox/deedboxlaw2.StoreOnce" = some 3 by kernel_rfl).symm.trans hf) |>.symm
      obtain rfl : fn = Tryz.f3 := (Option.some.inj (Tryz.func3.symm.trans hfn)).symm
      exact ⟨by kernel_rfl, fun j t ht => by
        rw [Tryz.params3] at ht
        have hm : t ∈ [22] := by simpa using Array.mem_of_getElem? ht
        have hall : ([22].all fun u => !Tryz.prog.wantsStandIn u) = true := by kernel_rfl
        exact (show Tryz.prog.wantsStandIn t = false by simpa using List.all_eq_true.1 hall t hm)⟩)
    (by kernel_rfl)
#print axioms storeOnce_card_holds
end Go.Proofs.YtepdedfmdafnkaaGreatDoor
