/- 'deedboxlaw1.PartOnce' returns true at every input: what is split has each row once, in a group of its name; rows of one key and one Part are in one group. Condition: the package-level variables read as the program's text lays them; the card ties that. -/
import Derived.Test.YtlfkjbdkbdcdnaaGreatDoorRows
import Derived.Test.YtlfkjbdkbdcdnaaGreatDoorCards
import Derived.Test.YtlfkjbdkbdcdnaaGreatDoorTie
import Derived.Test.YtlfkjbdkbdcdnaaGreatDoorBx11
import Derived.LaidOnce
import Derived.SevenTiedAt
namespace Go.Proofs.YtlfkjbdkbdcdnaaGreatDoor
open Go.ChangeShapes Go.WideShapes Go.ChangeAt Go.WideMaps Go.WideElems Go.RowKit

theorem own : ownKnob Tryz.prog.godebug = none := by kernel_rfl

theorem partOnce_met (os : Os) (args : Array Value) : laidMetH Tryz.prog Rows.partOnceRow.laid ((World.laidAll Tryz.prog os Rows.partOnceRow.laid).forCall (fun _ _ => 0) ⟨#[], args, []⟩).memory := by
  rw [MakeChecks.laidMetH_plain _ _ _ (by kernel_rfl)]
  exact laidMet_laidAll _ (by kernel_rfl) (by kernel_rfl)

def partOnceIdx : Nat → Nat
  | 1 => 4
  | 2 => 5
  | _ => 6

theorem partOnce_errs {W : World} (h : laidMet Tryz.prog Rows.partOnceRow.laid W) : Errs [1, 2, 5] (addrOf W) W.heap.size W := by
  refine errs_of_laid h [1, 2, 5] partOnceIdx (by decide) ?_ ?_ ?_
  · intro c hc
    simp only [List.mem_cons, List.mem_nil_iff, or_false] at hc
    rcases hc with rfl | rfl | rfl
    · exact gn1
    · exact gn2
    · exact gn5
  · intro c hc
    simp only [List.mem_cons, List.mem_nil_iff, or_false] at hc
    rcases hc with rfl | rfl | rfl
    · exact gt1
    · exact gt2
    · exact gt5
  · intro c hc
    simp only [List.mem_cons, List.mem_nil_iff, or_false] at hc
    rcases hc with rfl | rfl | rfl <;> exact ⟨_, rfl⟩

theorem partOnce_num {W : World} (h : laidMet Tryz.prog Rows.partOnceRow.laid W) (hsh : W.ShapedOpen Tryz.prog) : LNum W.heap.size W :=
  lnum_of (i := 2) (j := 8) (k := 7) h hsh (by kernel_rfl) (by rfl) (by rfl)

set_option maxRecDepth 100000 in
theorem partOnce_lifted (os : Os) (started : os.Started) (H : Type) (enc : TypeId × Value → H) :
    ReturnsInHanded {} Tryz.checked os 3 .any (fun w args => (Rows.partOnceSpec.pre enc Tryz.prog Tryz.f3 [] false w args ∧ laidMetH Tryz.prog Rows.partOnceRow.laid w) ∧ sizedMet enc Tryz.prog Tryz.f3 (OpenSpec.ofChange Rows.partOnceSpec) false w args)
      (Rows.partOnceSpec.post enc Tryz.prog Tryz.f3 false true false false) := by
  refine handed_both (C := Tryz.checked) (X := fun w _ => laidMetH Tryz.prog Rows.partOnceRow.laid w) (fun _ _ _ hh h => h.of_heap hh) own started (by kernel_rfl) Tryz.func3
    (ChangeSpec.witness_shaped (enc := enc) (C := Tryz.checked) (os := os) (X := fun w _ => laidMetH Tryz.prog Rows.partOnceRow.laid w) false (World.laidAll Tryz.prog os Rows.partOnceRow.laid) #[.string ⟨#[]⟩, .slice none 0 0] 8 (World.laidAll_os _ _ _)
      (World.shaped_of_ZipB (by kernel_rfl) (by kernel_rfl)) (by kernel_rfl) (by kernel_rfl) (by kernel_rfl) (partOnce_met os _)) ?_
  intro W base args ds gs before hval0 hW hL hsh
  have hval : ∀ (j : Nat) t v, Tryz.f3.params[j]? = some t → args[j]? = some v → Value.okWide Tryz.prog W .any base t v := hval0
  have hW' := hW
  obtain ⟨p, q, hA0, hV, rfl, _, _⟩ := hW
  have hA : DataW.TrodAll enc Tryz.prog W 0 (fun _ => true) true Tryz.f3.params.toList args.toList ds p := hA0
  rw [Tryz.params3] at hA hval
  obtain ⟨v1, v2, d1, d2, p1, p2, rfl, rfl, rfl, h1, h2⟩ := trodAll_two hA
  obtain ⟨rfl, rfl⟩ := trodVars_none hV
  simp only [List.append_nil] at hW'
  clear hA0 hval0
  have hlt : ∀ x ∈ p1 ++ p2, x.block < W.heap.size := fun x hx => by simpa using hW'.lt x (by simpa using hx)
  have hL' : laidMet Tryz.prog Rows.partOnceRow.laid W := by rwa [MakeChecks.laidMetH_plain _ _ _ (by kernel_rfl)] at hL
  obtain ⟨l1, rfl, b1⟩ := str_came (hval 0 9 v1 rfl rfl) h1
  obtain ⟨l2, a2, b2⟩ := rows_came (hval 1 22 v2 rfl rfl) h2
  refine (partOnce_any (addrOf W) _ l1 v2 l2 W (partOnce_errs hL')  (partOnce_num hL' hsh) (lmax_of hsh) a2).mono fun e W' ⟨he, hb⟩ => ?_
  subst he
  refine ⟨_, rfl, _, _, _, [], p1 ++ p2, [], hW', ?_, ?_, ?_, hb.frame _, fun h => by cases h⟩
  · exact trodAll_mk1 (shut_bool Tryz.underlying4 true)
  · exact trodAll_mk2 (Below.trod laidOut (by kernel_rfl) (of_decide_eq_true (by kernel_rfl)) h1 hb (fun x hx => hlt x (by simp [hx]))) (Below.trod laidOut (by kernel_rfl) (of_decide_eq_true (by kernel_rfl)) h2 hb (fun x hx => hlt x (by simp [hx])))
  · rfl

theorem partOnce_inPlace : (Rows.partOnceRow.inPlace == Tryz.pinned.checked.prog.inPlace 3) = true := by kernel_rfl

theorem partOnce_unfollowed : (Rows.partOnceRow.unfollowed == Tryz.pinned.checked.prog.unfollowed 3) = true := by kernel_rfl

theorem partOnce_recurses : (Rows.partOnceRow.recurses == Tryz.pinned.checked.prog.recurses 3) = true := by kernel_rfl

theorem partOnce_named : (Rows.partOnceRow.named == Tryz.pinned.checked.prog.varsNamed 3) = true := by kernel_rfl

theorem partOnce_facts : joinedFacts Tryz.pinned.checked.prog 3 Tryz.f3 Rows.partOnceSpec Rows.partOnceRow = true := by
  unfold joinedFacts
  rw [partOnce_inPlace, partOnce_unfollowed, partOnce_recurses, partOnce_named]
  kernel_rfl

theorem partOnce_holds : Rows.PartOnceSaid :=
  OpenClaim.holds_of_wide 3 Tryz.f3 rfl rfl rfl rfl rfl rfl rfl ⟨rfl, rfl, rfl, rfl, rfl⟩ rfl rfl rfl rfl rfl (by kernel_rfl) Tryz.func3 partOnce_facts
    (of_decide_eq_true (by kernel_rfl)) (by unfold Func.isWrapper; first | (rw [if_pos (by decide +kernel)]; kernel_rfl) | (rw [if_neg (by decide +kernel)]; exact ⟨rfl, rfl⟩))
    (fun os started H enc _ => partOnce_lifted os started H enc)

theorem partOnce_card_holds : Rows.PartOnceCardSaid :=
  Claim7.holds_tied_plain_at .later [] Rows.partOnceCard.laidKinds true Rows.partOnceCard.stood.harness true
    partOnce_holds (fun _ h => by cases h) (by kernel_rfl) (fun _ h => by cases h) partOnce_row_tie rfl ⟨rfl, rfl⟩ (by kernel_rfl) rfl
    (fun f fn hf hfn => by
      obtain rfl : f = 3 := Option.some.inj ((show Tryz.prog.funcNamed "deedbox/deedboxlaw1.PartOnce" = some 3 by kernel_rfl).symm.trans hf) |>.symm
      obtain rfl : fn = Tryz.f3 := (Option.some.inj (Tryz.func3.symm.trans hfn)).symm
      exact ⟨by kernel_rfl, fun j t ht => by
        rw [Tryz.params3] at ht
        have hm : t ∈ [9, 22] := by simpa using Array.mem_of_getElem? ht
        have hall : ([9, 22].all fun u => !Tryz.prog.wantsStandIn u) = true := by kernel_rfl
        exact (show Tryz.prog.wantsStandIn t = false by simpa using List.all_eq_true.1 hall t hm)⟩)
    (by kernel_rfl)
#print axioms partOnce_card_holds
end Go.Proofs.YtlfkjbdkbdcdnaaGreatDoor
