/- 'deedboxlaw3.ScanDeletes' returns true at every input: a file of keys that is newer than all takes all rows of these keys, and no others; one that is as old as the oldest, or older, takes none. Condition: the package-level variables read as the program's text lays them; the card ties that. -/
import Derived.Test.YtefoaeamfkbgbaaGreatDoorRows
import Derived.Test.YtefoaeamfkbgbaaGreatDoorCards
import Derived.Test.YtefoaeamfkbgbaaGreatDoorTie
import Derived.Test.YtefoaeamfkbgbaaGreatDoorSd1
import Derived.Test.YtefoaeamfkbgbaaGreatDoorP26
import Derived.Test.YtefoaeamfkbgbaaGreatDoorP25
import Derived.LaidOnce
import Derived.SevenTiedAt
namespace Go.Proofs.YtefoaeamfkbgbaaGreatDoor
open Go.ChangeShapes Go.WideShapes Go.ChangeAt Go.WideMaps Go.WideElems Go.RowKit

theorem own : ownKnob Tryz.prog.godebug = none := by kernel_rfl

theorem scanDeletes_met (os : Os) (args : Array Value) : laidMetH Tryz.prog Rows.scanDeletesRow.laid ((World.laidAll Tryz.prog os Rows.scanDeletesRow.laid).forCall (fun _ _ => 0) ⟨#[], args, []⟩).memory := by
  rw [MakeChecks.laidMetH_plain _ _ _ (by kernel_rfl)]
  exact laidMet_laidAll _ (by kernel_rfl) (by kernel_rfl)

def scanDeletesIdx : Nat → Nat
  | 1 => 4
  | 2 => 5
  | 3 => 6
  | 4 => 7
  | 5 => 8
  | 6 => 9
  | 7 => 10
  | 8 => 11
  | 9 => 12
  | 10 => 13
  | _ => 14

theorem scanDeletes_errs {W : World} (h : laidMet Tryz.prog Rows.scanDeletesRow.laid W) : Errs [1, 2, 3, 4, 5, 6, 7, 8, 9, 10, 12] (addrOf W) W.heap.size W := by
  refine errs_of_laid h [1, 2, 3, 4, 5, 6, 7, 8, 9, 10, 12] scanDeletesIdx (by decide) ?_ ?_ ?_
  · intro c hc
    simp only [List.mem_cons, List.mem_nil_iff, or_false] at hc
    rcases hc with rfl | rfl | rfl | rfl | rfl | rfl | rfl | rfl | rfl | rfl | rfl
    · exact gn1
    · exact gn2
    · exact gn3
    · exact gn4
    · exact gn5
    · exact gn6
    · exact gn7
    · exact gn8
    · exact gn9
    · exact gn10
    · exact gn12
  · intro c hc
    simp only [List.mem_cons, List.mem_nil_iff, or_false] at hc
    rcases hc with rfl | rfl | rfl | rfl | rfl | rfl | rfl | rfl | rfl | rfl | rfl
    · exact gt1
    · exact gt2
    · exact gt3
    · exact gt4
    · exact gt5
    · exact gt6
    · exact gt7
    · exact gt8
    · exact gt9
    · exact gt10
    · exact gt12
  · intro c hc
    simp only [List.mem_cons, List.mem_nil_iff, or_false] at hc
    rcases hc with rfl | rfl | rfl | rfl | rfl | rfl | rfl | rfl | rfl | rfl | rfl <;> exact ⟨_, rfl⟩

theorem scanDeletes_num {W : World} (h : laidMet Tryz.prog Rows.scanDeletesRow.laid W) (hsh : W.ShapedOpen Tryz.prog) : LNum W.heap.size W :=
  lnum_of (i := 2) (j := 16) (k := 15) h hsh (by kernel_rfl) (by rfl) (by rfl)

set_option maxRecDepth 100000 in
theorem scanDeletes_lifted (os : Os) (started : os.Started) (H : Type) (enc : TypeId × Value → H) :
    ReturnsInHanded {} Tryz.checked os 3 .any (fun w args => (Rows.scanDeletesSpec.pre enc Tryz.prog Tryz.f3 [] false w args ∧ laidMetH Tryz.prog Rows.scanDeletesRow.laid w) ∧ sizedMet enc Tryz.prog Tryz.f3 (OpenSpec.ofChange Rows.scanDeletesSpec) false w args)
      (Rows.scanDeletesSpec.post enc Tryz.prog Tryz.f3 false true false false) := by
  refine handed_both (C := Tryz.checked) (X := fun w _ => laidMetH Tryz.prog Rows.scanDeletesRow.laid w) (fun _ _ _ hh h => h.of_heap hh) own started (by kernel_rfl) Tryz.func3
    (ChangeSpec.witness_shaped (enc := enc) (C := Tryz.checked) (os := os) (X := fun w _ => laidMetH Tryz.prog Rows.scanDeletesRow.laid w) false (World.laidAll Tryz.prog os Rows.scanDeletesRow.laid) #[.slice none 0 0, .agg #[.int .i64 0, .int .i64 0, .int .i64 0, .int .i64 0, .int .i64 0, .string ⟨#[]⟩, .slice none 0 0], .slice none 0 0] 8 (World.laidAll_os _ _ _)
      (World.shaped_of_ZipB (by kernel_rfl) (by kernel_rfl)) (by kernel_rfl) (by kernel_rfl) (by kernel_rfl) (scanDeletes_met os _)) ?_
  intro W base args ds gs before hval0 hW hL hsh
  have hval : ∀ (j : Nat) t v, Tryz.f3.params[j]? = some t → args[j]? = some v → Value.okWide Tryz.prog W .any base t v := hval0
  have hW' := hW
  obtain ⟨p, q, hA0, hV, rfl, _, _⟩ := hW
  have hA : DataW.TrodAll enc Tryz.prog W 0 (fun _ => true) true Tryz.f3.params.toList args.toList ds p := hA0
  rw [Tryz.params3] at hA hval
  obtain ⟨v1, v2, v3, d1, d2, d3, p1, p2, p3, rfl, rfl, rfl, h1, h2, h3⟩ := trodAll_three hA
  obtain ⟨rfl, rfl⟩ := trodVars_none hV
  simp only [List.append_nil] at hW'
  clear hA0 hval0
  have hlt : ∀ x ∈ p1 ++ p2 ++ p3, x.block < W.heap.size := fun x hx => by simpa using hW'.lt x (by simpa using hx)
  have hL' : laidMet Tryz.prog Rows.scanDeletesRow.laid W := by rwa [MakeChecks.laidMetH_plain _ _ _ (by kernel_rfl)] at hL
  obtain ⟨l1, a1, b1⟩ := pieces_came (hval 0 22 v1 rfl rfl) h1
  obtain ⟨u2, l2, rfl, a2, b2⟩ := snap_came (hval 1 25 v2 rfl rfl) h2
  obtain ⟨l3, a3, b3⟩ := ints_came (hval 2 26 v3 rfl rfl) h3
  refine (scanDeletes_any (addrOf W) _ v1 l1 u2 l2 v3 l3 W (scanDeletes_errs hL')  (scanDeletes_num hL' hsh) (lmax_of hsh) a1 (fun x hx => ⟨(b1 x hx).ra, (b1 x hx).ka⟩) a2 a3).mono fun e W' ⟨he, hb⟩ => ?_
  subst he
  refine ⟨_, rfl, _, _, _, [], p1 ++ (p2 ++ p3), [], hW', ?_, ?_, ?_, hb.frame _, fun h => by cases h⟩
  · exact trodAll_mk1 (shut_bool Tryz.underlying4 true)
  · exact trodAll_mk3 (Below.trod laidOut (by kernel_rfl) (of_decide_eq_true (by kernel_rfl)) h1 hb (fun x hx => hlt x (by simp [hx]))) (Below.trod laidOut (by kernel_rfl) (of_decide_eq_true (by kernel_rfl)) h2 hb (fun x hx => hlt x (by simp [hx]))) (Below.trod laidOut (by kernel_rfl) (of_decide_eq_true (by kernel_rfl)) h3 hb (fun x hx => hlt x (by simp [hx])))
  · rfl

theorem scanDeletes_inPlace : (Rows.scanDeletesRow.inPlace == Tryz.pinned.checked.prog.inPlace 3) = true := by kernel_rfl

theorem scanDeletes_unfollowed : (Rows.scanDeletesRow.unfollowed == Tryz.pinned.checked.prog.unfollowed 3) = true := by kernel_rfl

theorem scanDeletes_recurses : (Rows.scanDeletesRow.recurses == Tryz.pinned.checked.prog.recurses 3) = true := by kernel_rfl

theorem scanDeletes_named : (Rows.scanDeletesRow.named == Tryz.pinned.checked.prog.varsNamed 3) = true := by kernel_rfl

theorem scanDeletes_facts : joinedFacts Tryz.pinned.checked.prog 3 Tryz.f3 Rows.scanDeletesSpec Rows.scanDeletesRow = true := by
  unfold joinedFacts
  rw [scanDeletes_inPlace, scanDeletes_unfollowed, scanDeletes_recurses, scanDeletes_named]
  kernel_rfl

theorem scanDeletes_holds : Rows.ScanDeletesSaid :=
  OpenClaim.holds_of_wide 3 Tryz.f3 rfl rfl rfl rfl rfl rfl rfl ⟨rfl, rfl, rfl, rfl, rfl⟩ rfl rfl rfl rfl rfl (by kernel_rfl) Tryz.func3 scanDeletes_facts
    (of_decide_eq_true (by kernel_rfl)) (by unfold Func.isWrapper; first | (rw [if_pos (by decide +kernel)]; kernel_rfl) | (rw [if_neg (by decide +kernel)]; exact ⟨rfl, rfl⟩))
    (fun os started H enc _ => scanDeletes_lifted os started H enc)

theorem scanDeletes_wf : Rows.scanDeletesRow.wfByText (OpenSpec.ofChange Rows.scanDeletesSpec) = true := by kernel_rfl

theorem scanDeletes_main : Tryz.pinned.checked.prog.mainIs = some (Rows.scanDeletesCard.stood.harness.1, Rows.scanDeletesCard.stood.harness.2.toList) := by kernel_rfl

theorem scanDeletes_looks : true = Tryz.pinned.checked.prog.looks [] := by kernel_rfl

theorem scanDeletes_goes : false = Rows.scanDeletesRow.goesBy Tryz.pinned.checked.prog := by kernel_rfl

theorem scanDeletes_fn : Tryz.pinned.checked.prog.funcNamed Rows.scanDeletesRow.func = some 3 := by kernel_rfl

theorem scanDeletes_stand : ([22, 25, 26].all fun u => !Tryz.pinned.checked.prog.wantsStandIn u) = true := by kernel_rfl

theorem scanDeletes_card_holds : Rows.ScanDeletesCardSaid :=
  Claim7.holds_tied_plain_at .later [] Rows.scanDeletesCard.laidKinds true Rows.scanDeletesCard.stood.harness true
    scanDeletes_holds (fun _ h => by cases h) scanDeletes_wf (fun _ h => by cases h) scanDeletes_row_tie rfl ⟨rfl, rfl⟩ scanDeletes_main rfl
    (fun f fn hf hfn => by
      obtain rfl : f = 3 := Option.some.inj (scanDeletes_fn.symm.trans hf) |>.symm
      obtain rfl : fn = Tryz.f3 := (Option.some.inj (Tryz.func3.symm.trans hfn)).symm
      exact ⟨scanDeletes_looks, fun j t ht => by
        rw [Tryz.params3] at ht
        have hm : t ∈ [22, 25, 26] := by simpa using Array.mem_of_getElem? ht
        exact (show Tryz.pinned.checked.prog.wantsStandIn t = false by simpa using List.all_eq_true.1 scanDeletes_stand t hm)⟩)
    scanDeletes_goes
#print axioms scanDeletes_card_holds
end Go.Proofs.YtefoaeamfkbgbaaGreatDoor
