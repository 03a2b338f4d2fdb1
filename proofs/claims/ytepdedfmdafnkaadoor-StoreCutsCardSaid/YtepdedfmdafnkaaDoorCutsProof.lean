/- 'deedboxlaw2.StoreCuts' returns true at every input: whatever is put, and swapped, until power fails, is there, whole; one more, at most, in part; the head is the last one that was swapped. Condition: the package-level variables read as the program's text lays them; the card ties that. -/
import Derived.Test.YtepdedfmdafnkaaDoorRows
import Derived.Test.YtepdedfmdafnkaaDoorCards
import Derived.Test.YtepdedfmdafnkaaDoorTie
import Derived.Test.YtepdedfmdafnkaaDoorCutsW
import Derived.Test.YtepdedfmdafnkaaDoorBuildS
import Derived.Test.YtepdedfmdafnkaaDoorWit
import Derived.LaidOnce
import Derived.SevenTiedAt
namespace Go.Proofs.YtepdedfmdafnkaaDoor
open Go.ChangeShapes Go.WideShapes Go.ChangeAt Go.WideMaps Go.WideElems Go.RowKit

theorem own : ownKnob Tryd.prog.godebug = none := by kernel_rfl

theorem cuts_met (os : Os) (args : Array Value) : laidMetH Tryd.prog Rows.storeCutsRow.laid ((witW os Rows.storeCutsRow.laid).forCall (fun _ _ => 0) ⟨#[], args, []⟩).memory :=
  witW_met os Rows.storeCutsRow.laid args (by kernel_rfl) (by kernel_rfl) (by kernel_rfl)

theorem cuts_errs {W : World} (h : laidMetH Tryd.prog Rows.storeCutsRow.laid W) : Errs allE (addrOf W) W.heap.size W ∧ AsVar W := by
  have h' : laidMet Tryd.prog (Rows.storeCutsRow.laid.filter fun x => x.2.handleName?.isNone) W ∧ handlesMet Tryd.prog (Rows.storeCutsRow.laid.filter fun x => x.2.handleName?.isSome) W := h
  refine ⟨errs_of_laid h'.1 allE (fun c => c) (fun c hc => hc) ?_ ?_ ?_, asVar_of_laid h'.2 (List.mem_filter.2 ⟨by simp [Rows.storeCutsRow, Rows.laid_errors_errorType], rfl⟩)⟩
  · intro c hc
    simp only [allE, List.mem_cons, List.mem_nil_iff, or_false] at hc
    rcases hc with rfl | rfl | rfl | rfl | rfl | rfl | rfl | rfl | rfl | rfl | rfl | rfl
    · exact gn1
    · exact gn2
    · exact gn3
    · exact gn4
    · exact gn5
    · exact gn6
    · exact gn7
    · exact gn8
    · exact gn9
    · exact gn10
    · exact gn11
    · exact gn12
  · intro c hc
    simp only [allE, List.mem_cons, List.mem_nil_iff, or_false] at hc
    rcases hc with rfl | rfl | rfl | rfl | rfl | rfl | rfl | rfl | rfl | rfl | rfl | rfl
    · exact gt1
    · exact gt2
    · exact gt3
    · exact gt4
    · exact gt5
    · exact gt6
    · exact gt7
    · exact gt8
    · exact gt9
    · exact gt10
    · exact gt11
    · exact gt12
  · intro c hc
    simp only [allE, List.mem_cons, List.mem_nil_iff, or_false] at hc
    rcases hc with rfl | rfl | rfl | rfl | rfl | rfl | rfl | rfl | rfl | rfl | rfl | rfl <;> exact ⟨_, rfl⟩

set_option maxRecDepth 100000 in
theorem cuts_lifted (os : Os) (started : os.Started) (H : Type) (enc : TypeId × Value → H) :
    ReturnsInHanded {} Tryd.checked os 5 .any (fun w args => (Rows.storeCutsSpec.pre enc Tryd.prog Tryd.f5 [] false w args ∧ laidMetH Tryd.prog Rows.storeCutsRow.laid w) ∧ sizedMet enc Tryd.prog Tryd.f5 (OpenSpec.ofChange Rows.storeCutsSpec) false w args)
      (Rows.storeCutsSpec.post enc Tryd.prog Tryd.f5 false true false false) := by
  refine handed_both (C := Tryd.checked) (X := fun w _ => laidMetH Tryd.prog Rows.storeCutsRow.laid w) (fun _ _ _ hh h => h.of_heap hh) own started (by kernel_rfl) Tryd.func5
    (ChangeSpec.witness_shaped (enc := enc) (C := Tryd.checked) (os := os) (X := fun w _ => laidMetH Tryd.prog Rows.storeCutsRow.laid w) false (witW os Rows.storeCutsRow.laid) #[.slice none 0 0, .slice none 0 0, .int .i64 0] 8 (witW_os _ _)
      (World.shaped_of_ZipB (by kernel_rfl) (by kernel_rfl)) (by kernel_rfl) (by kernel_rfl) (by kernel_rfl) (cuts_met os _)) ?_
  intro W base args ds gs before hval0 hW hL hsh
  have hval : ∀ (j : Nat) t v, Tryd.f5.params[j]? = some t → args[j]? = some v → Value.okWide Tryd.prog W .any base t v := hval0
  have hW' := hW
  obtain ⟨p, q, hA0, hV, rfl, _, _⟩ := hW
  have hA : DataW.TrodAll enc Tryd.prog W 0 (fun _ => true) true Tryd.f5.params.toList args.toList ds p := hA0
  rw [Tryd.params5] at hA hval
  obtain ⟨v1, v2, v3, d1, d2, d3, p1, p2, p3, rfl, rfl, rfl, h1, h2, h3⟩ := trodAll_three hA
  obtain ⟨rfl, rfl⟩ := trodVars_none hV
  simp only [List.append_nil] at hW'
  clear hA0 hval0
  have hlt : ∀ x ∈ p1 ++ p2 ++ p3, x.block < W.heap.size := fun x hx => by simpa using hW'.lt x hx
  obtain ⟨hE, hAs⟩ := cuts_errs hL
  obtain ⟨l1, a1, -⟩ := strs_came (hval 0 45 v1 rfl rfl) h1
  obtain ⟨l2, a2, -⟩ := strs_came (hval 1 45 v2 rfl rfl) h2
  have h3k := h3
  obtain ⟨x, rfl, rfl, rfl, wx⟩ := open_int Tryd.underlying3 (hval 2 3 v3 rfl rfl) h3
  have hgB : 12 < W.heap.size := World.block_lt_of_cell? W ⟨12, 0, none⟩ hAs
  refine (cuts_any (addrOf W) _ v1 v2 l1 l2 x W hE hAs hgB a1 a2 (bounds_i64 wx).2).mono fun e W' ⟨he, hb⟩ => ?_
  subst he
  refine ⟨_, rfl, _, _, _, [], p1 ++ (p2 ++ []), [], hW', ?_, ?_, ?_, hb.frame _, fun h => by cases h⟩
  · exact trodAll_mk1 (shut_bool Tryd.underlying4 true)
  · exact trodAll_mk3 (Below.trod laidOut (by kernel_rfl) (of_decide_eq_true (by kernel_rfl)) h1 hb (fun x hx => hlt x (by simp [hx]))) (Below.trod laidOut (by kernel_rfl) (of_decide_eq_true (by kernel_rfl)) h2 hb (fun x hx => hlt x (by simp [hx])))
      (Below.trod laidOut (by kernel_rfl) (of_decide_eq_true (by kernel_rfl)) h3k hb (fun x hx => by cases hx))
  · rfl

theorem storeCuts_holds : Rows.StoreCutsSaid :=
  OpenClaim.holds_of_wide 5 Tryd.f5 rfl rfl rfl rfl rfl rfl rfl ⟨rfl, rfl, rfl, rfl, rfl⟩ rfl rfl rfl rfl rfl (by kernel_rfl) Tryd.func5 (by kernel_rfl)
    (of_decide_eq_true (by kernel_rfl)) (by unfold Func.isWrapper; first | (rw [if_pos (by decide +kernel)]; kernel_rfl) | (rw [if_neg (by decide +kernel)]; exact ⟨rfl, rfl⟩))
    (fun os started H enc _ => cuts_lifted os started H enc)

theorem storeCuts_card_holds : Rows.StoreCutsCardSaid :=
  Claim7.holds_tied_plain_at .later [] Rows.storeCutsCard.laidKinds true Rows.storeCutsCard.stood.harness true
    storeCuts_holds (fun _ h => by cases h) (by kernel_rfl) (fun _ h => by cases h) storeCuts_row_tie rfl ⟨rfl, rfl⟩ (by kernel_rfl) rfl
    (fun f fn hf hfn => by
      obtain rfl : f = 5 := Option.some.inj ((show Tryd.prog.funcNamed "deedbox/deedboxlaw2.StoreCuts" = some 5 by kernel_rfl).symm.trans hf) |>.symm
      obtain rfl : fn = Tryd.f5 := (Option.some.inj (Tryd.func5.symm.trans hfn)).symm
      exact ⟨by kernel_rfl, fun j t ht => by
        rw [Tryd.params5] at ht
        have hm : t ∈ [45, 45, 3] := by simpa using Array.mem_of_getElem? ht
        have hall : ([45, 45, 3].all fun u => !Tryd.prog.wantsStandIn u) = true := by kernel_rfl
        exact (show Tryd.prog.wantsStandIn t = false by simpa using List.all_eq_true.1 hall t hm)⟩)
    (by kernel_rfl)
#print axioms storeCuts_card_holds
end Go.Proofs.YtepdedfmdafnkaaDoor
