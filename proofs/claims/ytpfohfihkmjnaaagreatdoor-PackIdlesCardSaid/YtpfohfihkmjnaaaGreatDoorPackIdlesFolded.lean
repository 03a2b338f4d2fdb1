/- 'deedboxlaw3.PackIdles' returns true at every input: without its idle files a snap has the rows it has. Condition: the package-level variables read as the program's text lays them; the card ties that. -/
import Derived.Test.YtpfohfihkmjnaaaGreatDoorRows
import Derived.Test.YtpfohfihkmjnaaaGreatDoorCards
import Derived.Test.YtpfohfihkmjnaaaGreatDoorTie
import Derived.Test.YtpfohfihkmjnaaaGreatDoorP23
import Derived.LaidOnce
import Derived.SevenTiedAt
namespace Go.Proofs.YtpfohfihkmjnaaaGreatDoor
open Go.ChangeShapes Go.WideShapes Go.ChangeAt Go.WideMaps Go.WideElems Go.RowKit

theorem own : ownKnob Tryz.prog.godebug = none := by kernel_rfl

theorem packIdles_met (os : Os) (args : Array Value) : laidMetH Tryz.prog Rows.packIdlesRow.laid ((World.laidAll Tryz.prog os Rows.packIdlesRow.laid).forCall (fun _ _ => 0) ⟨#[], args, []⟩).memory := by
  rw [MakeChecks.laidMetH_plain _ _ _ (by kernel_rfl)]
  exact laidMet_laidAll _ (by kernel_rfl) (by kernel_rfl)

def packIdlesIdx : Nat → Nat
  | 1 => 4
  | 2 => 5
  | 3 => 6
  | 4 => 7
  | 5 => 8
  | 6 => 9
  | 7 => 10
  | 8 => 11
  | 9 => 12
  | 10 => 13
  | _ => 14

theorem packIdles_errs {W : World} (h : laidMet Tryz.prog Rows.packIdlesRow.laid W) : Errs [1, 2, 3, 4, 5, 6, 7, 8, 9, 10, 12] (addrOf W) W.heap.size W := by
  refine errs_of_laid h [1, 2, 3, 4, 5, 6, 7, 8, 9, 10, 12] packIdlesIdx (by decide) ?_ ?_ ?_
  · intro c hc
    simp only [List.mem_cons, List.mem_nil_iff, or_false] at hc
    rcases hc with rfl | rfl | rfl | rfl | rfl | rfl | rfl | rfl | rfl | rfl | rfl
    · exact gn1
    · exact gn2
    · exact gn3
    · exact gn4
    · exact gn5
    · exact gn6
    · exact gn7
    · exact gn8
    · exact gn9
    · exact gn10
    · exact gn12
  · intro c hc
    simp only [List.mem_cons, List.mem_nil_iff, or_false] at hc
    rcases hc with rfl | rfl | rfl | rfl | rfl | rfl | rfl | rfl | rfl | rfl | rfl
    · exact gt1
    · exact gt2
    · exact gt3
    · exact gt4
    · exact gt5
    · exact gt6
    · exact gt7
    · exact gt8
    · exact gt9
    · exact gt10
    · exact gt12
  · intro c hc
    simp only [List.mem_cons, List.mem_nil_iff, or_false] at hc
    rcases hc with rfl | rfl | rfl | rfl | rfl | rfl | rfl | rfl | rfl | rfl | rfl <;> exact ⟨_, rfl⟩

theorem packIdles_num {W : World} (h : laidMet Tryz.prog Rows.packIdlesRow.laid W) (hsh : W.ShapedOpen Tryz.prog) : LNum W.heap.size W :=
  lnum_of (i := 2) (j := 16) (k := 15) h hsh (by kernel_rfl) (by rfl) (by rfl)

set_option maxRecDepth 100000 in
theorem packIdles_lifted (os : Os) (started : os.Started) (H : Type) (enc : TypeId × Value → H) :
    ReturnsInHanded {} Tryz.checked os 4 .any (fun w args => (Rows.packIdlesSpec.pre enc Tryz.prog Tryz.f4 [] false w args ∧ laidMetH Tryz.prog Rows.packIdlesRow.laid w) ∧ sizedMet enc Tryz.prog Tryz.f4 (OpenSpec.ofChange Rows.packIdlesSpec) false w args)
      (Rows.packIdlesSpec.post enc Tryz.prog Tryz.f4 false true false false) := by
  refine handed_both (C := Tryz.checked) (X := fun w _ => laidMetH Tryz.prog Rows.packIdlesRow.laid w) (fun _ _ _ hh h => h.of_heap hh) own started (by kernel_rfl) Tryz.func4
    (ChangeSpec.witness_shaped (enc := enc) (C := Tryz.checked) (os := os) (X := fun w _ => laidMetH Tryz.prog Rows.packIdlesRow.laid w) false (World.laidAll Tryz.prog os Rows.packIdlesRow.laid) #[.slice none 0 0, .agg #[.int .i64 0, .int .i64 0, .int .i64 0, .int .i64 0, .int .i64 0, .string ⟨#[]⟩, .slice none 0 0]] 8 (World.laidAll_os _ _ _)
      (World.shaped_of_ZipB (by kernel_rfl) (by kernel_rfl)) (by kernel_rfl) (by kernel_rfl) (by kernel_rfl) (packIdles_met os _)) ?_
  intro W base args ds gs before hval0 hW hL hsh
  have hval : ∀ (j : Nat) t v, Tryz.f4.params[j]? = some t → args[j]? = some v → Value.okWide Tryz.prog W .any base t v := hval0
  have hW' := hW
  obtain ⟨p, q, hA0, hV, rfl, _, _⟩ := hW
  have hA : DataW.TrodAll enc Tryz.prog W 0 (fun _ => true) true Tryz.f4.params.toList args.toList ds p := hA0
  rw [Tryz.params4] at hA hval
  obtain ⟨v1, v2, d1, d2, p1, p2, rfl, rfl, rfl, h1, h2⟩ := trodAll_two hA
  obtain ⟨rfl, rfl⟩ := trodVars_none hV
  simp only [List.append_nil] at hW'
  clear hA0 hval0
  have hlt : ∀ x ∈ p1 ++ p2, x.block < W.heap.size := fun x hx => by simpa using hW'.lt x (by simpa using hx)
  have hL' : laidMet Tryz.prog Rows.packIdlesRow.laid W := by rwa [MakeChecks.laidMetH_plain _ _ _ (by kernel_rfl)] at hL
  obtain ⟨l1, a1, b1⟩ := pieces_came (hval 0 22 v1 rfl rfl) h1
  obtain ⟨u2, l2, rfl, a2, b2⟩ := snap_came (hval 1 25 v2 rfl rfl) h2
  refine (packIdles_any (addrOf W) _ v1 l1 u2 l2 W (packIdles_errs hL')  (packIdles_num hL' hsh) (lmax_of hsh) a1 (fun x hx => ⟨(b1 x hx).ra, (b1 x hx).ka⟩) a2).mono fun e W' ⟨he, hb⟩ => ?_
  subst he
  refine ⟨_, rfl, _, _, _, [], p1 ++ p2, [], hW', ?_, ?_, ?_, hb.frame _, fun h => by cases h⟩
  · exact trodAll_mk1 (shut_bool Tryz.underlying4 true)
  · exact trodAll_mk2 (Below.trod laidOut (by kernel_rfl) (of_decide_eq_true (by kernel_rfl)) h1 hb (fun x hx => hlt x (by simp [hx]))) (Below.trod laidOut (by kernel_rfl) (of_decide_eq_true (by kernel_rfl)) h2 hb (fun x hx => hlt x (by simp [hx])))
  · rfl

theorem packIdles_inPlace : (Rows.packIdlesRow.inPlace == Tryz.pinned.checked.prog.inPlace 4) = true := by kernel_rfl

theorem packIdles_unfollowed : (Rows.packIdlesRow.unfollowed == Tryz.pinned.checked.prog.unfollowed 4) = true := by kernel_rfl

theorem packIdles_recurses : (Rows.packIdlesRow.recurses == Tryz.pinned.checked.prog.recurses 4) = true := by kernel_rfl

theorem packIdles_named : (Rows.packIdlesRow.named == Tryz.pinned.checked.prog.varsNamed 4) = true := by kernel_rfl

theorem packIdles_facts : joinedFacts Tryz.pinned.checked.prog 4 Tryz.f4 Rows.packIdlesSpec Rows.packIdlesRow = true := by
  unfold joinedFacts
  rw [packIdles_inPlace, packIdles_unfollowed, packIdles_recurses, packIdles_named]
  kernel_rfl

theorem packIdles_holds : Rows.PackIdlesSaid :=
  OpenClaim.holds_of_wide 4 Tryz.f4 rfl rfl rfl rfl rfl rfl rfl ⟨rfl, rfl, rfl, rfl, rfl⟩ rfl rfl rfl rfl rfl (by kernel_rfl) Tryz.func4 packIdles_facts
    (of_decide_eq_true (by kernel_rfl)) (by unfold Func.isWrapper; first | (rw [if_pos (by decide +kernel)]; kernel_rfl) | (rw [if_neg (by decide +kernel)]; exact ⟨rfl, rfl⟩))
    (fun os started H enc _ => packIdles_lifted os started H enc)

theorem packIdles_wf : Rows.packIdlesRow.wfByText (OpenSpec.ofChange Rows.packIdlesSpec) = true := by kernel_rfl

theorem packIdles_main : Tryz.pinned.checked.prog.mainIs = some (Rows.packIdlesCard.stood.harness.1, Rows.packIdlesCard.stood.harness.2.toList) := by kernel_rfl

theorem packIdles_looks : true = Tryz.pinned.checked.prog.looks [] := by kernel_rfl

theorem packIdles_goes : false = Rows.packIdlesRow.goesBy Tryz.pinned.checked.prog := by kernel_rfl

theorem packIdles_fn : Tryz.pinned.checked.prog.funcNamed Rows.packIdlesRow.func = some 4 := by kernel_rfl

theorem packIdles_stand : ([22, 25].all fun u => !Tryz.pinned.checked.prog.wantsStandIn u) = true := by kernel_rfl

theorem packIdles_card_holds : Rows.PackIdlesCardSaid :=
  Claim7.holds_tied_plain_at .later [] Rows.packIdlesCard.laidKinds true Rows.packIdlesCard.stood.harness true
    packIdles_holds (fun _ h => by cases h) packIdles_wf (fun _ h => by cases h) packIdles_row_tie rfl ⟨rfl, rfl⟩ packIdles_main rfl
    (fun f fn hf hfn => by
      obtain rfl : f = 4 := Option.some.inj (packIdles_fn.symm.trans hf) |>.symm
      obtain rfl : fn = Tryz.f4 := (Option.some.inj (Tryz.func4.symm.trans hfn)).symm
      exact ⟨packIdles_looks, fun j t ht => by
        rw [Tryz.params4] at ht
        have hm : t ∈ [22, 25] := by simpa using Array.mem_of_getElem? ht
        exact (show Tryz.pinned.checked.prog.wantsStandIn t = false by simpa using List.all_eq_true.1 packIdles_stand t hm)⟩)
    packIdles_goes
#print axioms packIdles_card_holds
end Go.Proofs.YtpfohfihkmjnaaaGreatDoor
