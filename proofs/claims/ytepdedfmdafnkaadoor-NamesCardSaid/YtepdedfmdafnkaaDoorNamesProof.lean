/- 'deedboxlaw1.Names' returns true: the numbers and errors of package api are told by plain.Code as the document numbers them. Condition: the package-level variables read as the program's text lays them; the card ties that. -/
import Derived.Test.YtepdedfmdafnkaaDoorRows
import Derived.Test.YtepdedfmdafnkaaDoorCards
import Derived.Test.YtepdedfmdafnkaaDoorTie
import Derived.Test.YtepdedfmdafnkaaDoorNamesWalk
import Derived.Test.YtepdedfmdafnkaaDoorLaid
import Derived.ProofKit
import Derived.LaidMore
import Derived.OpenShut
import Derived.Stop.Joined
import Derived.SevenTiedAt
namespace Go.Proofs.YtepdedfmdafnkaaDoor
open Go.ChangeShapes Go.WideShapes Go.ChangeAt Go.WideMaps Go.WideElems Go.RowKit

theorem own : ownKnob Tryd.prog.godebug = none := by kernel_rfl

theorem names_met (os : Os) (args : Array Value) : laidMetH Tryd.prog Rows.namesRow.laid ((World.doorLaid Tryd.prog 400 os).forCall (fun _ _ => 0) ⟨#[], args, []⟩).memory :=
  laidMetH_of_parts3 (fuel := 8) (laidMet_of_run' 8 (by kernel_rfl) (by kernel_rfl)) (by kernel_rfl) (by kernel_rfl)

def namesIdx : Nat → Nat := fun c => c - 1

theorem names_errs {W : World} (h : laidMetH Tryd.prog Rows.namesRow.laid W) : Errs allE (addrOf W) W.heap.size W ∧ AsVar W := by
  have h' : laidMet Tryd.prog (Rows.namesRow.laid.filter fun x => x.2.handleName?.isNone) W ∧ handlesMet Tryd.prog (Rows.namesRow.laid.filter fun x => x.2.handleName?.isSome) W := h
  refine ⟨errs_of_laid h'.1 allE namesIdx (fun c hc => hc) ?_ ?_ ?_, asVar_of_laid h'.2 (List.mem_filter.2 ⟨by simp [Rows.namesRow, Rows.laid_errors_errorType], rfl⟩)⟩
  · intro c hc
    simp only [allE, List.mem_cons, List.mem_nil_iff, or_false] at hc
    rcases hc with rfl | rfl | rfl | rfl | rfl | rfl | rfl | rfl | rfl | rfl | rfl | rfl
    · exact gn1
    · exact gn2
    · exact gn3
    · exact gn4
    · exact gn5
    · exact gn6
    · exact gn7
    · exact gn8
    · exact gn9
    · exact gn10
    · exact gn11
    · exact gn12
  · intro c hc
    simp only [allE, List.mem_cons, List.mem_nil_iff, or_false] at hc
    rcases hc with rfl | rfl | rfl | rfl | rfl | rfl | rfl | rfl | rfl | rfl | rfl | rfl
    · exact gt1
    · exact gt2
    · exact gt3
    · exact gt4
    · exact gt5
    · exact gt6
    · exact gt7
    · exact gt8
    · exact gt9
    · exact gt10
    · exact gt11
    · exact gt12
  · intro c hc
    simp only [allE, List.mem_cons, List.mem_nil_iff, or_false] at hc
    rcases hc with rfl | rfl | rfl | rfl | rfl | rfl | rfl | rfl | rfl | rfl | rfl | rfl <;> exact ⟨_, rfl⟩

set_option maxRecDepth 100000 in
theorem names_lifted (os : Os) (started : os.Started) (H : Type) (enc : TypeId × Value → H) :
    ReturnsInHanded {} Tryd.checked os 3 .any (fun w args => (Rows.namesSpec.pre enc Tryd.prog Tryd.f3 [] false w args ∧ laidMetH Tryd.prog Rows.namesRow.laid w) ∧ sizedMet enc Tryd.prog Tryd.f3 (OpenSpec.ofChange Rows.namesSpec) false w args)
      (Rows.namesSpec.post enc Tryd.prog Tryd.f3 false true false false) := by
  refine returnsInHanded_of_change_and (C := Tryd.checked) (X := fun w _ => laidMetH Tryd.prog Rows.namesRow.laid w) (fun _ _ _ hh h => h.of_heap hh) own started (by kernel_rfl) Tryd.func3
    (ChangeSpec.witness_shaped (enc := enc) (C := Tryd.checked) (os := os) (X := fun w _ => laidMetH Tryd.prog Rows.namesRow.laid w) false (World.doorLaid Tryd.prog 400 os) #[] 8 rfl (World.shaped_of_RefB (by kernel_rfl) (by kernel_rfl)) (by kernel_rfl) (by kernel_rfl) (by kernel_rfl) (names_met os _)) ?_
  intro W base args ds gs before hval0 hW _ _ hL _
  have hW' := hW
  obtain ⟨p, q, hA0, hV, rfl, hfz, hnd⟩ := hW
  have hA : DataW.TrodAll enc Tryd.prog W 0 (fun _ => true) true Tryd.f3.params.toList args.toList ds p := hA0
  rw [Tryd.params3] at hA
  obtain ⟨rfl, rfl, rfl⟩ := trodAll_none hA
  obtain ⟨rfl, rfl⟩ := trodVars_none hV
  obtain ⟨hE, hAs⟩ := names_errs hL
  refine (names_any (addrOf W) _ W hE hAs (World.block_lt_of_cell? W ⟨12, 0, none⟩ hAs)).mono fun e W' ⟨he, hb⟩ => ?_
  subst he
  refine ⟨_, rfl, _, _, _, [], [], [], hW', ?_, ?_, ?_, hb.frame _, fun h => by cases h⟩
  · exact trodAll_mk1 (shut_bool Tryd.underlying4 true)
  · exact trodAll_mk0
  · rfl

theorem names_holds : Rows.NamesSaid :=
  OpenClaim.holds_of_wide 3 Tryd.f3 rfl rfl rfl rfl rfl rfl rfl ⟨rfl, rfl, rfl, rfl, rfl⟩ rfl rfl rfl rfl rfl (by kernel_rfl) Tryd.func3 (by kernel_rfl)
    (of_decide_eq_true (by kernel_rfl)) (by unfold Func.isWrapper; first | (rw [if_pos (by decide +kernel)]; kernel_rfl) | (rw [if_neg (by decide +kernel)]; exact ⟨rfl, rfl⟩))
    (fun os started H enc _ => names_lifted os started H enc)

theorem names_card_holds : Rows.NamesCardSaid :=
  Claim7.holds_tied_plain_at .later [] Rows.namesCard.laidKinds true Rows.namesCard.stood.harness true
    names_holds (fun _ h => by cases h) (by kernel_rfl) (fun _ h => by cases h) names_row_tie rfl ⟨rfl, rfl⟩ (by kernel_rfl) rfl
    (fun f fn hf hfn => by
      obtain rfl : f = 3 := Option.some.inj ((show Tryd.prog.funcNamed "deedbox/deedboxlaw1.Names" = some 3 by kernel_rfl).symm.trans hf) |>.symm
      obtain rfl : fn = Tryd.f3 := (Option.some.inj (Tryd.func3.symm.trans hfn)).symm
      exact ⟨by kernel_rfl, fun j t ht => by
        rw [Tryd.params3] at ht
        have hm : t ∈ ([] : List TypeId) := by simpa using Array.mem_of_getElem? ht
        cases hm⟩)
    (by kernel_rfl)
#print axioms names_card_holds
end Go.Proofs.YtepdedfmdafnkaaDoor
