/- 'deedboxlaw1.GoneTells' returns true at every input: keys are written, and read, as the document's answer has it, at any keys and any text. Condition: the package-level variables read as the program's text lays them; the card ties that. -/
import Derived.Test.YtlfkjbdkbdcdnaaGreatDoorRows
import Derived.Test.YtlfkjbdkbdcdnaaGreatDoorCards
import Derived.Test.YtlfkjbdkbdcdnaaGreatDoorTie
import Derived.Test.YtlfkjbdkbdcdnaaGreatDoorGt13
import Derived.LaidOnce
import Derived.SevenTiedAt
namespace Go.Proofs.YtlfkjbdkbdcdnaaGreatDoor
open Go.ChangeShapes Go.WideShapes Go.ChangeAt Go.WideMaps Go.WideElems Go.RowKit

theorem own : ownKnob Tryz.prog.godebug = none := by kernel_rfl

theorem goneTells_met (os : Os) (args : Array Value) : laidMetH Tryz.prog Rows.goneTellsRow.laid ((witW os Rows.goneTellsRow.laid).forCall (fun _ _ => 0) ⟨#[], args, []⟩).memory := by
  exact witW_met os Rows.goneTellsRow.laid args (by kernel_rfl) (by kernel_rfl) (by kernel_rfl)

def goneTellsIdx : Nat → Nat
  | 1 => 4
  | 2 => 5
  | 3 => 6
  | 4 => 7
  | 5 => 8
  | 6 => 9
  | 7 => 10
  | 8 => 11
  | 9 => 12
  | 10 => 13
  | 11 => 14
  | _ => 15

theorem goneTells_errs {W : World} (h : laidMet Tryz.prog (Rows.goneTellsRow.laid.filter fun x => x.2.handleName?.isNone) W) : Errs allE (addrOf W) W.heap.size W := by
  refine errs_of_laid h allE goneTellsIdx (by decide) ?_ ?_ ?_
  · intro c hc
    simp only [allE, List.mem_cons, List.mem_nil_iff, or_false] at hc
    rcases hc with rfl | rfl | rfl | rfl | rfl | rfl | rfl | rfl | rfl | rfl | rfl | rfl
    · exact gn1
    · exact gn2
    · exact gn3
    · exact gn4
    · exact gn5
    · exact gn6
    · exact gn7
    · exact gn8
    · exact gn9
    · exact gn10
    · exact gn11
    · exact gn12
  · intro c hc
    simp only [allE, List.mem_cons, List.mem_nil_iff, or_false] at hc
    rcases hc with rfl | rfl | rfl | rfl | rfl | rfl | rfl | rfl | rfl | rfl | rfl | rfl
    · exact gt1
    · exact gt2
    · exact gt3
    · exact gt4
    · exact gt5
    · exact gt6
    · exact gt7
    · exact gt8
    · exact gt9
    · exact gt10
    · exact gt11
    · exact gt12
  · intro c hc
    simp only [allE, List.mem_cons, List.mem_nil_iff, or_false] at hc
    rcases hc with rfl | rfl | rfl | rfl | rfl | rfl | rfl | rfl | rfl | rfl | rfl | rfl <;> exact ⟨_, rfl⟩

theorem goneTells_num {W : World} (h : laidMet Tryz.prog (Rows.goneTellsRow.laid.filter fun x => x.2.handleName?.isNone) W) (hsh : W.ShapedOpen Tryz.prog) : LNum W.heap.size W :=
  lnum_of (i := 2) (j := 17) (k := 16) h hsh (by kernel_rfl) (by rfl) (by rfl)

set_option maxRecDepth 100000 in
theorem goneTells_lifted (os : Os) (started : os.Started) (H : Type) (enc : TypeId × Value → H) :
    ReturnsInHanded {} Tryz.checked os 6 .any (fun w args => (Rows.goneTellsSpec.pre enc Tryz.prog Tryz.f6 [] false w args ∧ laidMetH Tryz.prog Rows.goneTellsRow.laid w) ∧ sizedMet enc Tryz.prog Tryz.f6 (OpenSpec.ofChange Rows.goneTellsSpec) false w args)
      (Rows.goneTellsSpec.post enc Tryz.prog Tryz.f6 false true false false) := by
  refine handed_both (C := Tryz.checked) (X := fun w _ => laidMetH Tryz.prog Rows.goneTellsRow.laid w) (fun _ _ _ hh h => h.of_heap hh) own started (by kernel_rfl) Tryz.func6
    (ChangeSpec.witness_shaped (enc := enc) (C := Tryz.checked) (os := os) (X := fun w _ => laidMetH Tryz.prog Rows.goneTellsRow.laid w) false (witW os Rows.goneTellsRow.laid) #[.slice none 0 0, .string ⟨#[]⟩, .int .i64 0] 8 (witW_os _ _)
      (World.shaped_of_ZipB (by kernel_rfl) (by kernel_rfl)) (by kernel_rfl) (by kernel_rfl) (by kernel_rfl) (goneTells_met os _)) ?_
  intro W base args ds gs before hval0 hW hL hsh
  have hval : ∀ (j : Nat) t v, Tryz.f6.params[j]? = some t → args[j]? = some v → Value.okWide Tryz.prog W .any base t v := hval0
  have hW' := hW
  obtain ⟨p, q, hA0, hV, rfl, _, _⟩ := hW
  have hA : DataW.TrodAll enc Tryz.prog W 0 (fun _ => true) true Tryz.f6.params.toList args.toList ds p := hA0
  rw [Tryz.params6] at hA hval
  obtain ⟨v1, v2, v3, d1, d2, d3, p1, p2, p3, rfl, rfl, rfl, h1, h2, h3⟩ := trodAll_three hA
  obtain ⟨rfl, rfl⟩ := trodVars_none hV
  simp only [List.append_nil] at hW'
  clear hA0 hval0
  have hlt : ∀ x ∈ p1 ++ p2 ++ p3, x.block < W.heap.size := fun x hx => by simpa using hW'.lt x (by simpa using hx)
  have h' : laidMet Tryz.prog (Rows.goneTellsRow.laid.filter fun x => x.2.handleName?.isNone) W ∧ handlesMet Tryz.prog (Rows.goneTellsRow.laid.filter fun x => x.2.handleName?.isSome) W := hL
  have hL' := h'.1
  have hAs : AsVar W := asVar_of_laid h'.2 (List.mem_filter.2 ⟨by simp [Rows.goneTellsRow, Rows.laid_errors_errorType], rfl⟩)
  have hgB : 13 < W.heap.size := World.block_lt_of_cell? W ⟨13, 0, none⟩ hAs
  obtain ⟨l1, a1, b1⟩ := ints_came (hval 0 39 v1 rfl rfl) h1
  obtain ⟨l2, rfl, b2⟩ := str_came (hval 1 9 v2 rfl rfl) h2
  obtain ⟨l3, rfl, b3⟩ := int_came (hval 2 3 v3 rfl rfl) h3
  refine (goneTells_any (addrOf W) _ v1 l1 l2 l3 W (goneTells_errs hL') hAs hgB (goneTells_num hL' hsh) (lmax_of hsh) a1).mono fun e W' ⟨he, hb⟩ => ?_
  subst he
  refine ⟨_, rfl, _, _, _, [], p1 ++ (p2 ++ p3), [], hW', ?_, ?_, ?_, hb.frame _, fun h => by cases h⟩
  · exact trodAll_mk1 (shut_bool Tryz.underlying4 true)
  · exact trodAll_mk3 (Below.trod laidOut (by kernel_rfl) (of_decide_eq_true (by kernel_rfl)) h1 hb (fun x hx => hlt x (by simp [hx]))) (Below.trod laidOut (by kernel_rfl) (of_decide_eq_true (by kernel_rfl)) h2 hb (fun x hx => hlt x (by simp [hx]))) (Below.trod laidOut (by kernel_rfl) (of_decide_eq_true (by kernel_rfl)) h3 hb (fun x hx => hlt x (by simp [hx])))
  · rfl

theorem goneTells_inPlace : (Rows.goneTellsRow.inPlace == Tryz.pinned.checked.prog.inPlace 6) = true := by kernel_rfl

theorem goneTells_unfollowed : (Rows.goneTellsRow.unfollowed == Tryz.pinned.checked.prog.unfollowed 6) = true := by kernel_rfl

theorem goneTells_recurses : (Rows.goneTellsRow.recurses == Tryz.pinned.checked.prog.recurses 6) = true := by kernel_rfl

theorem goneTells_named : (Rows.goneTellsRow.named == Tryz.pinned.checked.prog.varsNamed 6) = true := by kernel_rfl

theorem goneTells_facts : joinedFacts Tryz.pinned.checked.prog 6 Tryz.f6 Rows.goneTellsSpec Rows.goneTellsRow = true := by
  unfold joinedFacts
  rw [goneTells_inPlace, goneTells_unfollowed, goneTells_recurses, goneTells_named]
  kernel_rfl

theorem goneTells_holds : Rows.GoneTellsSaid :=
  OpenClaim.holds_of_wide 6 Tryz.f6 rfl rfl rfl rfl rfl rfl rfl ⟨rfl, rfl, rfl, rfl, rfl⟩ rfl rfl rfl rfl rfl (by kernel_rfl) Tryz.func6 goneTells_facts
    (of_decide_eq_true (by kernel_rfl)) (by unfold Func.isWrapper; first | (rw [if_pos (by decide +kernel)]; kernel_rfl) | (rw [if_neg (by decide +kernel)]; exact ⟨rfl, rfl⟩))
    (fun os started H enc _ => goneTells_lifted os started H enc)

theorem goneTells_card_holds : Rows.GoneTellsCardSaid :=
  Claim7.holds_tied_plain_at .later [] Rows.goneTellsCard.laidKinds true Rows.goneTellsCard.stood.harness true
    goneTells_holds (fun _ h => by cases h) (by kernel_rfl) (fun _ h => by cases h) goneTells_row_tie rfl ⟨rfl, rfl⟩ (by kernel_rfl) rfl
    (fun f fn hf hfn => by
      obtain rfl : f = 6 := Option.some.inj ((show Tryz.prog.funcNamed "deedbox/deedboxlaw1.GoneTells" = some 6 by kernel_rfl).symm.trans hf) |>.symm
      obtain rfl : fn = Tryz.f6 := (Option.some.inj (Tryz.func6.symm.trans hfn)).symm
      exact ⟨by kernel_rfl, fun j t ht => by
        rw [Tryz.params6] at ht
        have hm : t ∈ [39, 9, 3] := by simpa using Array.mem_of_getElem? ht
        have hall : ([39, 9, 3].all fun u => !Tryz.prog.wantsStandIn u) = true := by kernel_rfl
        exact (show Tryz.prog.wantsStandIn t = false by simpa using List.all_eq_true.1 hall t hm)⟩)
    (by kernel_rfl)
#print axioms goneTells_card_holds
end Go.Proofs.YtlfkjbdkbdcdnaaGreatDoor
