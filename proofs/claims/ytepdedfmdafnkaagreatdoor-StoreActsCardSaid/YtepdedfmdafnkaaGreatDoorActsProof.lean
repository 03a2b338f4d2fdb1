/- 'deedboxlaw2.StoreActs' returns true at every input: any acts. Condition: the package-level variables read as the program's text lays them; the card ties that. -/
import Derived.Test.YtepdedfmdafnkaaGreatDoorRows
import Derived.Test.YtepdedfmdafnkaaGreatDoorCards
import Derived.Test.YtepdedfmdafnkaaGreatDoorTie
import Derived.Test.YtepdedfmdafnkaaGreatDoorActsAll
import Derived.Test.YtepdedfmdafnkaaGreatDoorBuildA
import Derived.Test.YtepdedfmdafnkaaGreatDoorWit
import Derived.LaidOnce
import Derived.SevenTiedAt
namespace Go.Proofs.YtepdedfmdafnkaaGreatDoor
open Go.ChangeShapes Go.WideShapes Go.ChangeAt Go.WideMaps Go.WideElems Go.RowKit

theorem own : ownKnob Tryz.prog.godebug = none := by kernel_rfl

theorem acts_met (os : Os) (args : Array Value) : laidMetH Tryz.prog Rows.storeActsRow.laid ((witW os Rows.storeActsRow.laid).forCall (fun _ _ => 0) ⟨#[], args, []⟩).memory :=
  witW_met os Rows.storeActsRow.laid args (by kernel_rfl) (by kernel_rfl) (by kernel_rfl)

theorem acts_errs {W : World} (h : laidMetH Tryz.prog Rows.storeActsRow.laid W) : Errs allE (addrOf W) W.heap.size W ∧ AsVar W := by
  have h' : laidMet Tryz.prog (Rows.storeActsRow.laid.filter fun x => x.2.handleName?.isNone) W ∧ handlesMet Tryz.prog (Rows.storeActsRow.laid.filter fun x => x.2.handleName?.isSome) W := h
  refine ⟨errs_of_laid h'.1 allE (fun c => c) (fun c hc => hc) ?_ ?_ ?_, asVar_of_laid h'.2 (List.mem_filter.2 ⟨by simp [Rows.storeActsRow, Rows.laid_errors_errorType], rfl⟩)⟩
  · intro c hc
    simp only [allE, List.mem_cons, List.mem_nil_iff, or_false] at hc
    rcases hc with rfl | rfl | rfl | rfl | rfl | rfl | rfl | rfl | rfl | rfl | rfl | rfl
    · exact gn1
    · exact gn2
    · exact gn3
    · exact gn4
    · exact gn5
    · exact gn6
    · exact gn7
    · exact gn8
    · exact gn9
    · exact gn10
    · exact gn11
    · exact gn12
  · intro c hc
    simp only [allE, List.mem_cons, List.mem_nil_iff, or_false] at hc
    rcases hc with rfl | rfl | rfl | rfl | rfl | rfl | rfl | rfl | rfl | rfl | rfl | rfl
    · exact gt1
    · exact gt2
    · exact gt3
    · exact gt4
    · exact gt5
    · exact gt6
    · exact gt7
    · exact gt8
    · exact gt9
    · exact gt10
    · exact gt11
    · exact gt12
  · intro c hc
    simp only [allE, List.mem_cons, List.mem_nil_iff, or_false] at hc
    rcases hc with rfl | rfl | rfl | rfl | rfl | rfl | rfl | rfl | rfl | rfl | rfl | rfl <;> exact ⟨_, rfl⟩

set_option maxRecDepth 100000 in
theorem acts_lifted (os : Os) (started : os.Started) (H : Type) (enc : TypeId × Value → H) :
    ReturnsInHanded {} Tryz.checked os 4 .any (fun w args => (Rows.storeActsSpec.pre enc Tryz.prog Tryz.f4 [] false w args ∧ laidMetH Tryz.prog Rows.storeActsRow.laid w) ∧ sizedMet enc Tryz.prog Tryz.f4 (OpenSpec.ofChange Rows.storeActsSpec) false w args)
      (Rows.storeActsSpec.post enc Tryz.prog Tryz.f4 false true false false) := by
  refine handed_both (C := Tryz.checked) (X := fun w _ => laidMetH Tryz.prog Rows.storeActsRow.laid w) (fun _ _ _ hh h => h.of_heap hh) own started (by kernel_rfl) Tryz.func4
    (ChangeSpec.witness_shaped (enc := enc) (C := Tryz.checked) (os := os) (X := fun w _ => laidMetH Tryz.prog Rows.storeActsRow.laid w) false (witW os Rows.storeActsRow.laid) #[.slice none 0 0, .string ⟨#[]⟩] 8 (witW_os _ _)
      (World.shaped_of_ZipB (by kernel_rfl) (by kernel_rfl)) (by kernel_rfl) (by kernel_rfl) (by kernel_rfl) (acts_met os _)) ?_
  intro W base args ds gs before hval0 hW hL hsh
  have hval : ∀ (j : Nat) t v, Tryz.f4.params[j]? = some t → args[j]? = some v → Value.okWide Tryz.prog W .any base t v := hval0
  have hW' := hW
  obtain ⟨p, q, hA0, hV, rfl, _, _⟩ := hW
  have hA : DataW.TrodAll enc Tryz.prog W 0 (fun _ => true) true Tryz.f4.params.toList args.toList ds p := hA0
  rw [Tryz.params4] at hA hval
  obtain ⟨v1, v2, d1, d2, p1, p2, rfl, rfl, rfl, h1, h2⟩ := trodAll_two hA
  obtain ⟨rfl, rfl⟩ := trodVars_none hV
  simp only [List.append_nil] at hW'
  clear hA0 hval0
  have hlt : ∀ x ∈ p1 ++ p2, x.block < W.heap.size := fun x hx => by simpa using hW'.lt x hx
  obtain ⟨hE, hAs⟩ := acts_errs hL
  obtain ⟨l1, a1, hn⟩ := acts_came (hval 0 22 v1 rfl rfl) h1
  have h2k := h2
  obtain ⟨s, rfl, rfl, rfl, ws⟩ := ChangeMaps.open_string Tryz.underlying9 (hval 1 9 v2 rfl rfl) h2
  have hgB : 12 < W.heap.size := World.block_lt_of_cell? W ⟨12, 0, none⟩ hAs
  have hs : (⟨s.data.toList.toArray⟩ : ByteArray) = s := by cases s; simp
  have hm := acts_any (addrOf W) _ v1 l1 s.data.toList W hE hAs hgB a1 hn
  rw [show S s.data.toList = .string s from congrArg Value.string hs] at hm
  refine hm.mono fun e W' ⟨he, hb⟩ => ?_
  subst he
  refine ⟨_, rfl, _, _, _, [], p1 ++ [], [], hW', ?_, ?_, ?_, hb.frame _, fun h => by cases h⟩
  · exact trodAll_mk1 (shut_bool Tryz.underlying4 true)
  · exact trodAll_mk2 (Below.trod laidOut (by kernel_rfl) (of_decide_eq_true (by kernel_rfl)) h1 hb (fun x hx => hlt x (by simp [hx]))) (Below.trod laidOut (by kernel_rfl) (of_decide_eq_true (by kernel_rfl)) h2k hb (fun x hx => by cases hx))
  · rfl

theorem storeActs_holds : Rows.StoreActsSaid :=
  OpenClaim.holds_of_wide 4 Tryz.f4 rfl rfl rfl rfl rfl rfl rfl ⟨rfl, rfl, rfl, rfl, rfl⟩ rfl rfl rfl rfl rfl (by kernel_rfl) Tryz.func4 (by kernel_rfl)
    (of_decide_eq_true (by kernel_rfl)) (by unfold Func.isWrapper; first | (rw [if_pos (by decide +kernel)]; kernel_rfl) | (rw [if_neg (by decide +kernel)]; exact ⟨rfl, rfl⟩))
    (fun os started H enc _ => acts_lifted os started H enc)

theorem storeActs_card_holds : Rows.StoreActsCardSaid :=
  Claim7.holds_tied_plain_at .later [] Rows.storeActsCard.laidKinds true Rows.storeActsCard.stood.harness true
    storeActs_holds (fun _ h => by cases h) (by kernel_rfl) (fun _ h => by cases h) storeActs_row_tie rfl ⟨rfl, rfl⟩ (by kernel_rfl) rfl
    (fun f fn hf hfn => by
      obtain rfl : f = 4 := Option.some.inj ((show Tryz.prog.funcNamed "deedbox/deedboxlaw2.StoreActs" = some 4 by kernel_rfl).symm.trans hf) |>.symm
      obtain rfl : fn = Tryz.f4 := (Option.some.inj (Tryz.func4.symm.trans hfn)).symm
      exact ⟨by kernel_rfl, fun j t ht => by
        rw [Tryz.params4] at ht
        have hm : t ∈ [22, 9] := by simpa using Array.mem_of_getElem? ht
        have hall : ([22, 9].all fun u => !Tryz.prog.wantsStandIn u) = true := by kernel_rfl
        exact (show Tryz.prog.wantsStandIn t = false by simpa using List.all_eq_true.1 hall t hm)⟩)
    (by kernel_rfl)
#print axioms storeActs_card_holds
end Go.Proofs.YtepdedfmdafnkaaGreatDoor
