/- 'deedboxlaw2.MetaTells' returns true at every input: any IDs, any text: what package meta answers is the document's answer. Condition: the package-level variables read as the program's text lays them; the card ties that. -/
import Derived.Test.YtepdedfmdafnkaaGreatDoorRows
import Derived.Test.YtepdedfmdafnkaaGreatDoorCards
import Derived.Test.YtepdedfmdafnkaaGreatDoorTie
import Derived.Test.YtepdedfmdafnkaaGreatDoorMetaTellsW
import Derived.Test.YtepdedfmdafnkaaGreatDoorBuild
import Derived.Test.YtepdedfmdafnkaaGreatDoorWit
import Derived.LaidOnce
import Derived.SevenTiedAt
namespace Go.Proofs.YtepdedfmdafnkaaGreatDoor
open Go.ChangeShapes Go.WideShapes Go.ChangeAt Go.WideMaps Go.WideElems Go.RowKit

theorem own : ownKnob Tryz.prog.godebug = none := by kernel_rfl

theorem tells_met (os : Os) (args : Array Value) : laidMetH Tryz.prog Rows.metaTellsRow.laid ((witW os Rows.metaTellsRow.laid).forCall (fun _ _ => 0) ⟨#[], args, []⟩).memory :=
  witW_met os Rows.metaTellsRow.laid args (by kernel_rfl) (by kernel_rfl) (by kernel_rfl)

def tellsIdx : Nat → Nat := fun c => c + 3

theorem tells_errs {W : World} (h : laidMetH Tryz.prog Rows.metaTellsRow.laid W) : laidMet Tryz.prog (Rows.metaTellsRow.laid.filter fun x => x.2.handleName?.isNone) W ∧ Errs allE (addrOf W) W.heap.size W ∧ AsVar W := by
  have h' : laidMet Tryz.prog (Rows.metaTellsRow.laid.filter fun x => x.2.handleName?.isNone) W ∧ handlesMet Tryz.prog (Rows.metaTellsRow.laid.filter fun x => x.2.handleName?.isSome) W := h
  refine ⟨h'.1, errs_of_laid h'.1 allE tellsIdx (fun c hc => hc) ?_ ?_ ?_, asVar_of_laid h'.2 (List.mem_filter.2 ⟨by simp [Rows.metaTellsRow, Rows.laid_errors_errorType], rfl⟩)⟩
  · intro c hc
    simp only [allE, List.mem_cons, List.mem_nil_iff, or_false] at hc
    rcases hc with rfl | rfl | rfl | rfl | rfl | rfl | rfl | rfl | rfl | rfl | rfl | rfl
    · exact gn1
    · exact gn2
    · exact gn3
    · exact gn4
    · exact gn5
    · exact gn6
    · exact gn7
    · exact gn8
    · exact gn9
    · exact gn10
    · exact gn11
    · exact gn12
  · intro c hc
    simp only [allE, List.mem_cons, List.mem_nil_iff, or_false] at hc
    rcases hc with rfl | rfl | rfl | rfl | rfl | rfl | rfl | rfl | rfl | rfl | rfl | rfl
    · exact gt1
    · exact gt2
    · exact gt3
    · exact gt4
    · exact gt5
    · exact gt6
    · exact gt7
    · exact gt8
    · exact gt9
    · exact gt10
    · exact gt11
    · exact gt12
  · intro c hc
    simp only [allE, List.mem_cons, List.mem_nil_iff, or_false] at hc
    rcases hc with rfl | rfl | rfl | rfl | rfl | rfl | rfl | rfl | rfl | rfl | rfl | rfl <;> exact ⟨_, rfl⟩

theorem tells_num {W : World} (h : laidMet Tryz.prog (Rows.metaTellsRow.laid.filter fun x => x.2.handleName?.isNone) W) (hsh : W.ShapedOpen Tryz.prog) : LNum W.heap.size W :=
  lnum_of (i := 2) (j := 17) (k := 16) h hsh (by kernel_rfl) (by rfl) (by rfl)

set_option maxRecDepth 100000 in
theorem tells_lifted (os : Os) (started : os.Started) (H : Type) (enc : TypeId × Value → H) :
    ReturnsInHanded {} Tryz.checked os 5 .any (fun w args => (Rows.metaTellsSpec.pre enc Tryz.prog Tryz.f5 [] false w args ∧ laidMetH Tryz.prog Rows.metaTellsRow.laid w) ∧ sizedMet enc Tryz.prog Tryz.f5 (OpenSpec.ofChange Rows.metaTellsSpec) false w args)
      (Rows.metaTellsSpec.post enc Tryz.prog Tryz.f5 false true false false) := by
  refine handed_both (C := Tryz.checked) (X := fun w _ => laidMetH Tryz.prog Rows.metaTellsRow.laid w) (fun _ _ _ hh h => h.of_heap hh) own started (by kernel_rfl) Tryz.func5
    (ChangeSpec.witness_shaped (enc := enc) (C := Tryz.checked) (os := os) (X := fun w _ => laidMetH Tryz.prog Rows.metaTellsRow.laid w) false (witW os Rows.metaTellsRow.laid) #[.slice none 0 0, .slice none 0 0, .int .i64 0, .string ⟨#[]⟩] 8 (witW_os _ _)
      (World.shaped_of_ZipB (by kernel_rfl) (by kernel_rfl)) (by kernel_rfl) (by kernel_rfl) (by kernel_rfl) (tells_met os _)) ?_
  intro W base args ds gs before hval0 hW hL hsh
  have hval : ∀ (j : Nat) t v, Tryz.f5.params[j]? = some t → args[j]? = some v → Value.okWide Tryz.prog W .any base t v := hval0
  have hW' := hW
  obtain ⟨p, q, hA0, hV, rfl, _, _⟩ := hW
  have hA : DataW.TrodAll enc Tryz.prog W 0 (fun _ => true) true Tryz.f5.params.toList args.toList ds p := hA0
  rw [Tryz.params5] at hA hval
  obtain ⟨v1, v2, v3, v4, d1, d2, d3, d4, p1, p2, p3, p4, rfl, rfl, rfl, h1, h2, h3, h4⟩ := trodAll_four hA
  obtain ⟨rfl, rfl⟩ := trodVars_none hV
  simp only [List.append_nil] at hW'
  clear hA0 hval0
  have hlt : ∀ x ∈ p1 ++ p2 ++ p3 ++ p4, x.block < W.heap.size := fun x hx => by simpa using hW'.lt x hx
  obtain ⟨hL', hE, hAs⟩ := tells_errs hL
  obtain ⟨l1, a1, -⟩ := ints_came (hval 0 55 v1 rfl rfl) h1
  obtain ⟨l2, a2, -⟩ := ints_came (hval 1 55 v2 rfl rfl) h2
  have h3k := h3
  have h4k := h4
  obtain ⟨x, rfl, rfl, rfl, wx⟩ := open_int Tryz.underlying3 (hval 2 3 v3 rfl rfl) h3
  obtain ⟨s, rfl, rfl, rfl, ws⟩ := ChangeMaps.open_string Tryz.underlying9 (hval 3 9 v4 rfl rfl) h4
  have hgB : 12 < W.heap.size := World.block_lt_of_cell? W ⟨12, 0, none⟩ hAs
  have hs : (⟨s.data.toList.toArray⟩ : ByteArray) = s := by cases s; simp
  have hsl : (s.data.toList.length : Int) ≤ 9223372036854775807 := by
    have : s.data.toList.length = s.size := Array.length_toList
    unfold maxLen at ws; omega
  have hm := metaTells_any (addrOf W) _ v1 v2 l1 l2 x s.data.toList W hE hAs hgB (tells_num hL' hsh) (lmax_of hsh) a1 a2 hsl
  rw [show S s.data.toList = .string s from congrArg Value.string hs] at hm
  refine hm.mono fun e W' ⟨he, hb⟩ => ?_
  subst he
  refine ⟨_, rfl, _, _, _, [], p1 ++ (p2 ++ ([] ++ [])), [], hW', ?_, ?_, ?_, hb.frame _, fun h => by cases h⟩
  · exact trodAll_mk1 (shut_bool Tryz.underlying4 true)
  · exact trodAll_mk4 (Below.trod laidOut (by kernel_rfl) (of_decide_eq_true (by kernel_rfl)) h1 hb (fun x hx => hlt x (by simp [hx]))) (Below.trod laidOut (by kernel_rfl) (of_decide_eq_true (by kernel_rfl)) h2 hb (fun x hx => hlt x (by simp [hx])))
      (Below.trod laidOut (by kernel_rfl) (of_decide_eq_true (by kernel_rfl)) h3k hb (fun x hx => by cases hx)) (Below.trod laidOut (by kernel_rfl) (of_decide_eq_true (by kernel_rfl)) h4k hb (fun x hx => by cases hx))
  · rfl

theorem metaTells_holds : Rows.MetaTellsSaid :=
  OpenClaim.holds_of_wide 5 Tryz.f5 rfl rfl rfl rfl rfl rfl rfl ⟨rfl, rfl, rfl, rfl, rfl⟩ rfl rfl rfl rfl rfl (by kernel_rfl) Tryz.func5 (by kernel_rfl)
    (of_decide_eq_true (by kernel_rfl)) (by unfold Func.isWrapper; first | (rw [if_pos (by decide +kernel)]; kernel_rfl) | (rw [if_neg (by decide +kernel)]; exact ⟨rfl, rfl⟩))
    (fun os started H enc _ => tells_lifted os started H enc)

theorem metaTells_card_holds : Rows.MetaTellsCardSaid :=
  Claim7.holds_tied_plain_at .later [] Rows.metaTellsCard.laidKinds true Rows.metaTellsCard.stood.harness true
    metaTells_holds (fun _ h => by cases h) (by kernel_rfl) (fun _ h => by cases h) metaTells_row_tie rfl ⟨rfl, rfl⟩ (by kernel_rfl) rfl
    (fun f fn hf hfn => by
      obtain rfl : f = 5 := Option.some.inj ((show Tryz.prog.funcNamed "deedbox/deedboxlaw2.MetaTells" = some 5 by kernel_rfl).symm.trans hf) |>.symm
      obtain rfl : fn = Tryz.f5 := (Option.some.inj (Tryz.func5.symm.trans hfn)).symm
      exact ⟨by kernel_rfl, fun j t ht => by
        rw [Tryz.params5] at ht
        have hm : t ∈ [55, 55, 3, 9] := by simpa using Array.mem_of_getElem? ht
        have hall : ([55, 55, 3, 9].all fun u => !Tryz.prog.wantsStandIn u) = true := by kernel_rfl
        exact (show Tryz.prog.wantsStandIn t = false by simpa using List.all_eq_true.1 hall t hm)⟩)
    (by kernel_rfl)
#print axioms metaTells_card_holds
end Go.Proofs.YtepdedfmdafnkaaGreatDoor
