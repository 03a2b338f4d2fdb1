/- 'deedboxlaw3.PackKeeps' returns true at every input: groups have at least two files, of one Part, with room, none twice; rewritten one behind the other they have all their rows that a scan has. Condition: the package-level variables read as the program's text lays them; the card ties that. -/
import Derived.Test.YtpfohfihkmjnaaaGreatDoorRows
import Derived.Test.YtpfohfihkmjnaaaGreatDoorCards
import Derived.Test.YtpfohfihkmjnaaaGreatDoorTie
import Derived.Test.YtpfohfihkmjnaaaGreatDoorPk19
import Derived.Test.YtpfohfihkmjnaaaGreatDoorPk20
import Derived.LaidOnce
import Derived.SevenTiedAt
namespace Go.Proofs.YtpfohfihkmjnaaaGreatDoor
open Go.ChangeShapes Go.WideShapes Go.ChangeAt Go.WideMaps Go.WideElems Go.RowKit

theorem own : ownKnob Tryz.prog.godebug = none := by kernel_rfl

theorem packKeeps_met (os : Os) (args : Array Value) : laidMetH Tryz.prog Rows.packKeepsRow.laid ((World.laidAll Tryz.prog os Rows.packKeepsRow.laid).forCall (fun _ _ => 0) ⟨#[], args, []⟩).memory := by
  rw [MakeChecks.laidMetH_plain _ _ _ (by kernel_rfl)]
  exact laidMet_laidAll _ (by kernel_rfl) (by kernel_rfl)

def packKeepsIdx : Nat → Nat
  | 1 => 4
  | 2 => 5
  | 3 => 6
  | 4 => 7
  | 5 => 8
  | 6 => 9
  | 7 => 10
  | 8 => 11
  | 9 => 12
  | 10 => 13
  | _ => 14

theorem packKeeps_errs {W : World} (h : laidMet Tryz.prog Rows.packKeepsRow.laid W) : Errs [1, 2, 3, 4, 5, 6, 7, 8, 9, 10, 12] (addrOf W) W.heap.size W := by
  refine errs_of_laid h [1, 2, 3, 4, 5, 6, 7, 8, 9, 10, 12] packKeepsIdx (by decide) ?_ ?_ ?_
  · intro c hc
    simp only [List.mem_cons, List.mem_nil_iff, or_false] at hc
    rcases hc with rfl | rfl | rfl | rfl | rfl | rfl | rfl | rfl | rfl | rfl | rfl
    · exact gn1
    · exact gn2
    · exact gn3
    · exact gn4
    · exact gn5
    · exact gn6
    · exact gn7
    · exact gn8
    · exact gn9
    · exact gn10
    · exact gn12
  · intro c hc
    simp only [List.mem_cons, List.mem_nil_iff, or_false] at hc
    rcases hc with rfl | rfl | rfl | rfl | rfl | rfl | rfl | rfl | rfl | rfl | rfl
    · exact gt1
    · exact gt2
    · exact gt3
    · exact gt4
    · exact gt5
    · exact gt6
    · exact gt7
    · exact gt8
    · exact gt9
    · exact gt10
    · exact gt12
  · intro c hc
    simp only [List.mem_cons, List.mem_nil_iff, or_false] at hc
    rcases hc with rfl | rfl | rfl | rfl | rfl | rfl | rfl | rfl | rfl | rfl | rfl <;> exact ⟨_, rfl⟩

theorem packKeeps_num {W : World} (h : laidMet Tryz.prog Rows.packKeepsRow.laid W) (hsh : W.ShapedOpen Tryz.prog) : LNum W.heap.size W :=
  lnum_of (i := 2) (j := 16) (k := 15) h hsh (by kernel_rfl) (by rfl) (by rfl)

set_option maxRecDepth 100000 in
theorem packKeeps_lifted (os : Os) (started : os.Started) (H : Type) (enc : TypeId × Value → H) :
    ReturnsInHanded {} Tryz.checked os 3 .any (fun w args => (Rows.packKeepsSpec.pre enc Tryz.prog Tryz.f3 [] false w args ∧ laidMetH Tryz.prog Rows.packKeepsRow.laid w) ∧ sizedMet enc Tryz.prog Tryz.f3 (OpenSpec.ofChange Rows.packKeepsSpec) false w args)
      (Rows.packKeepsSpec.post enc Tryz.prog Tryz.f3 false true false false) := by
  refine handed_both (C := Tryz.checked) (X := fun w _ => laidMetH Tryz.prog Rows.packKeepsRow.laid w) (fun _ _ _ hh h => h.of_heap hh) own started (by kernel_rfl) Tryz.func3
    (ChangeSpec.witness_shaped (enc := enc) (C := Tryz.checked) (os := os) (X := fun w _ => laidMetH Tryz.prog Rows.packKeepsRow.laid w) false (World.laidAll Tryz.prog os Rows.packKeepsRow.laid) #[.slice none 0 0, .agg #[.int .i64 0, .int .i64 0, .int .i64 0, .int .i64 0, .int .i64 0, .string ⟨#[]⟩, .slice none 0 0], .int .i64 0] 8 (World.laidAll_os _ _ _)
      (World.shaped_of_ZipB (by kernel_rfl) (by kernel_rfl)) (by kernel_rfl) (by kernel_rfl) (by kernel_rfl) (packKeeps_met os _)) ?_
  intro W base args ds gs before hval0 hW hL hsh
  have hval : ∀ (j : Nat) t v, Tryz.f3.params[j]? = some t → args[j]? = some v → Value.okWide Tryz.prog W .any base t v := hval0
  have hW' := hW
  obtain ⟨p, q, hA0, hV, rfl, _, _⟩ := hW
  have hA : DataW.TrodAll enc Tryz.prog W 0 (fun _ => true) true Tryz.f3.params.toList args.toList ds p := hA0
  rw [Tryz.params3] at hA hval
  obtain ⟨v1, v2, v3, d1, d2, d3, p1, p2, p3, rfl, rfl, rfl, h1, h2, h3⟩ := trodAll_three hA
  obtain ⟨rfl, rfl⟩ := trodVars_none hV
  simp only [List.append_nil] at hW'
  clear hA0 hval0
  have hlt : ∀ x ∈ p1 ++ p2 ++ p3, x.block < W.heap.size := fun x hx => by simpa using hW'.lt x (by simpa using hx)
  have hL' : laidMet Tryz.prog Rows.packKeepsRow.laid W := by rwa [MakeChecks.laidMetH_plain _ _ _ (by kernel_rfl)] at hL
  obtain ⟨l1, a1, b1⟩ := pieces_came (hval 0 22 v1 rfl rfl) h1
  obtain ⟨u2, l2, rfl, a2, b2⟩ := snap_came (hval 1 25 v2 rfl rfl) h2
  obtain ⟨l3, rfl, b3⟩ := int_came (hval 2 3 v3 rfl rfl) h3
  refine (packKeeps_any (addrOf W) _ v1 l1 u2 l2 l3 W (packKeeps_errs hL')  (packKeeps_num hL' hsh) (lmax_of hsh) a1 (fun x hx => ⟨(b1 x hx).ra, (b1 x hx).ka⟩) a2).mono fun e W' ⟨he, hb⟩ => ?_
  subst he
  refine ⟨_, rfl, _, _, _, [], p1 ++ (p2 ++ p3), [], hW', ?_, ?_, ?_, hb.frame _, fun h => by cases h⟩
  · exact trodAll_mk1 (shut_bool Tryz.underlying4 true)
  · exact trodAll_mk3 (Below.trod laidOut (by kernel_rfl) (of_decide_eq_true (by kernel_rfl)) h1 hb (fun x hx => hlt x (by simp [hx]))) (Below.trod laidOut (by kernel_rfl) (of_decide_eq_true (by kernel_rfl)) h2 hb (fun x hx => hlt x (by simp [hx]))) (Below.trod laidOut (by kernel_rfl) (of_decide_eq_true (by kernel_rfl)) h3 hb (fun x hx => hlt x (by simp [hx])))
  · rfl

theorem packKeeps_inPlace : (Rows.packKeepsRow.inPlace == Tryz.pinned.checked.prog.inPlace 3) = true := by kernel_rfl

theorem packKeeps_unfollowed : (Rows.packKeepsRow.unfollowed == Tryz.pinned.checked.prog.unfollowed 3) = true := by kernel_rfl

theorem packKeeps_recurses : (Rows.packKeepsRow.recurses == Tryz.pinned.checked.prog.recurses 3) = true := by kernel_rfl

theorem packKeeps_named : (Rows.packKeepsRow.named == Tryz.pinned.checked.prog.varsNamed 3) = true := by kernel_rfl

theorem packKeeps_facts : joinedFacts Tryz.pinned.checked.prog 3 Tryz.f3 Rows.packKeepsSpec Rows.packKeepsRow = true := by
  unfold joinedFacts
  rw [packKeeps_inPlace, packKeeps_unfollowed, packKeeps_recurses, packKeeps_named]
  kernel_rfl

theorem packKeeps_holds : Rows.PackKeepsSaid :=
  OpenClaim.holds_of_wide 3 Tryz.f3 rfl rfl rfl rfl rfl rfl rfl ⟨rfl, rfl, rfl, rfl, rfl⟩ rfl rfl rfl rfl rfl (by kernel_rfl) Tryz.func3 packKeeps_facts
    (of_decide_eq_true (by kernel_rfl)) (by unfold Func.isWrapper; first | (rw [if_pos (by decide +kernel)]; kernel_rfl) | (rw [if_neg (by decide +kernel)]; exact ⟨rfl, rfl⟩))
    (fun os started H enc _ => packKeeps_lifted os started H enc)

theorem packKeeps_wf : Rows.packKeepsRow.wfByText (OpenSpec.ofChange Rows.packKeepsSpec) = true := by kernel_rfl

theorem packKeeps_main : Tryz.pinned.checked.prog.mainIs = some (Rows.packKeepsCard.stood.harness.1, Rows.packKeepsCard.stood.harness.2.toList) := by kernel_rfl

theorem packKeeps_looks : true = Tryz.pinned.checked.prog.looks [] := by kernel_rfl

theorem packKeeps_goes : false = Rows.packKeepsRow.goesBy Tryz.pinned.checked.prog := by kernel_rfl

theorem packKeeps_fn : Tryz.pinned.checked.prog.funcNamed Rows.packKeepsRow.func = some 3 := by kernel_rfl

theorem packKeeps_stand : ([22, 25, 3].all fun u => !Tryz.pinned.checked.prog.wantsStandIn u) = true := by kernel_rfl

theorem packKeeps_card_holds : Rows.PackKeepsCardSaid :=
  Claim7.holds_tied_plain_at .later [] Rows.packKeepsCard.laidKinds true Rows.packKeepsCard.stood.harness true
    packKeeps_holds (fun _ h => by cases h) packKeeps_wf (fun _ h => by cases h) packKeeps_row_tie rfl ⟨rfl, rfl⟩ packKeeps_main rfl
    (fun f fn hf hfn => by
      obtain rfl : f = 3 := Option.some.inj (packKeeps_fn.symm.trans hf) |>.symm
      obtain rfl : fn = Tryz.f3 := (Option.some.inj (Tryz.func3.symm.trans hfn)).symm
      exact ⟨packKeeps_looks, fun j t ht => by
        rw [Tryz.params3] at ht
        have hm : t ∈ [22, 25, 3] := by simpa using Array.mem_of_getElem? ht
        exact (show Tryz.pinned.checked.prog.wantsStandIn t = false by simpa using List.all_eq_true.1 packKeeps_stand t hm)⟩)
    packKeeps_goes
#print axioms packKeeps_card_holds
end Go.Proofs.YtpfohfihkmjnaaaGreatDoor
