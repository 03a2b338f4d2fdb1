/- deedboxlaw2.one, listed. -/
import Derived.Test.YtpicofkmeijioaaGreatDoorFlD
import Derived.Test.YtpicofkmeijioaaGreatDoorFlX
namespace Go.Proofs.YtpicofkmeijioaaGreatDoor
open Go.RowKit

abbrev oneF (p : Str) (n : Int) : Fl := ⟨p, [97], 1, 0, 0, n⟩
abbrev pD1 : Str := [100, 97, 116, 97, 47, 49]
abbrev pD2 : Str := [100, 97, 116, 97, 47, 50]
theorem itoa0 : Lib.itoa 0 = [48] := (Lib.itoa_nonneg 0).trans (Lib.decDigits_one (by decide))
theorem itoa1 : Lib.itoa 1 = [49] := (Lib.itoa_nonneg 1).trans (Lib.decDigits_one (by decide))
theorem itoa2 : Lib.itoa 2 = [50] := (Lib.itoa_nonneg 2).trans (Lib.decDigits_one (by decide))
theorem pathD1 : pathF pD1 = some (kData, 1) := by
  have h : numOf [49] = some 1 := by have := numOf_itoa (n := 1) (by decide) (by decide); rwa [itoa1] at this
  have hc : Lib.cut pD1 [47] = (kData, [49], true) := cut_app1 (c := 47) (p := kData) (q := [49]) (by decide)
  unfold pathF
  rw [hc]
  simp only [h]
  rfl
theorem pathD2 : pathF pD2 = some (kData, 2) := by
  have h : numOf [50] = some 2 := by have := numOf_itoa (n := 2) (by decide) (by decide); rwa [itoa2] at this
  have hc : Lib.cut pD2 [47] = (kData, [50], true) := cut_app1 (c := 47) (p := kData) (q := [50]) (by decide)
  unfold pathF
  rw [hc]
  simp only [h]
  rfl
theorem check_one {p : Str} {n : Int} (h : pathF p = some (kData, n)) : checkF (oneF p 1) = 0 := by
  refine checkF_right h ?_ (by unfold boundF farN; simp)
  have : kindF p = kData := by unfold kindF; rw [h]; rfl
  show partOk (kindF p) [97] = true
  rw [this]; decide
theorem keyD1 : keyP pD1 = 2147483649 := by unfold keyP; rw [pathD1]; rfl
theorem keyD2 : keyP pD2 = 2147483650 := by unfold keyP; rw [pathD2]; rfl
theorem right_two : RightL [oneF pD1 1, oneF pD2 1] :=
  ⟨by decide, fun f hf => by
    rcases List.mem_cons.1 hf with rfl | hf
    · exact check_one pathD1
    · obtain rfl := List.mem_singleton.1 hf
      exact check_one pathD2, List.pairwise_cons.2 ⟨fun g hg => by
    obtain rfl := List.mem_singleton.1 hg
    show keyP pD1 < keyP pD2
    rw [keyD1, keyD2]; decide, by simp⟩⟩
theorem text_two : listText [oneF pD1 1, oneF pD2 1] = [100, 97, 116, 97, 47, 49, 32, 97, 32, 49, 32, 48, 32, 48, 32, 49, 10, 100, 97, 116, 97, 47, 50, 32, 97, 32, 49, 32, 48, 32, 48, 32, 49, 10] := by
  simp [listText, fileLine, numsTail, itoa0, itoa1]

theorem one_any (p : Str) (n : Int) (w : World) : Calls Tryz.prog 82 #[S p, .int .i64 n] w fun e w' => e = .returned (fileV (oneF p n)) ∧ Below w.heap.size w w' := by
  go_enter Tryz.func82, Tryz.ntmps82
  go_wp2_with fail
  exact bodyPost_ret (results_cell_row rfl _ _ w.heap.size _ _ (0, 0) _ rfl (heap_alloc_new w _) Tryz.underlying50 rfl (by kernel_rfl)) rfl ⟨rfl, (Below.refl _ _).alloc (Nat.le_refl _) _⟩
theorem file_new (f : Fl) (w : World) (t : TypeId) (H : Nat) (hH : w.heap.size = H) : FilesAt (w.alloc (.cells #[S f.path, S f.part, .int .i64 f.n, .int .i64 f.lo, .int .i64 f.hi, .int .i64 f.seq] t)) (.slice (some ⟨H, 0, none⟩) 1 1) [f] := by
  subst hH
  refine ⟨_, _, w.heap.size, 0, rfl, fun _ => rfl, Nat.le_refl 1, (by decide : 1 ≤ maxLen), fun k z hk j u hu => ?_⟩
  have hk' : k = 0 := by
    rcases Nat.eq_zero_or_pos k with h | h
    · exact h
    · rw [List.getElem?_eq_none (by simp; omega)] at hk; cases hk
  subst hk'
  obtain rfl : f = z := by simpa using hk
  rw [cell_of_row (w.alloc _) w.heap.size _ _ t (0, 0) (heap_alloc_new w _)]
  simpa using hu
set_option maxRecDepth 20000 in
theorem listed_any (E : Nat → Addr) (B : Nat) (w : World) (hE : Errs [2, 4, 5, 7, 8, 9] E B w) (hT : LNum B w) (hM : LMax B w) :
    Calls Tryz.prog 28 #[] w fun e w' => e = .returned (.bool true) ∧ Below w.heap.size w w' := by
  have hBw := hE.le
  have hif := isIfaceE
  go_enter Tryz.func28, Tryz.ntmps28
  go_wp2_with fail
  refine (one_any pD2 1 w).mono ?_
  rintro e w1 ⟨rfl, hb1⟩
  have hb2 := hb1.alloc hb1.size (.cells #[S pD2, S [97], .int .i64 1, .int .i64 0, .int .i64 0, .int .i64 1] 50)
  have hl2 : FilesAt (w1.alloc (.cells #[S pD2, S [97], .int .i64 1, .int .i64 0, .int .i64 0, .int .i64 1] 50)) (.slice (some ⟨w1.heap.size, 0, none⟩) 1 1) [oneF pD2 1] := file_new (oneF pD2 1) w1 50 _ rfl
  go_wp2_with fail
  generalize w1.alloc (.cells #[S pD2, S [97], .int .i64 1, .int .i64 0, .int .i64 0, .int .i64 1] 50) = w2 at *
  refine (one_any pD1 1 w2).mono ?_
  rintro e w3 ⟨rfl, hb3⟩
  have hb3' := hb2.trans (hb3.mono hb2.size)
  have hl3 := hl2.below hb3
  obtain ⟨ha1, ha2⟩ := add_head right_two
  have HA := Lib.hid ha1; have HA2 := Lib.hid ha2; clear ha1 ha2
  go_wp2_with fail
  refine (listAdd_any E B _ [oneF pD2 1] (oneF pD1 1) _ (hE.below' hb3' hBw) (hT.below' hb3' hBw) (hM.below' hb3' hBw) hl3 (fun x hx => by obtain rfl := List.mem_singleton.1 hx; decide) (by decide) (by decide)).mono ?_
  rintro e w4 ⟨u, ev, rfl, hu, hev, hb4⟩
  rw [HA.out] at hev
  obtain rfl : ev = .nilIface := hev
  rw [HA2.out] at hu
  have hb4' := hb3'.trans (hb4.mono hb3'.size)
  go_wp2_with fail
  refine (listText_any E B _ [oneF pD1 1, oneF pD2 1] _ ((hE.sub (by decide)).below' hb4' hBw) (hT.below' hb4' hBw) (hM.below' hb4' hBw) hu (fun x hx => by
    rcases List.mem_cons.1 hx with rfl | hx
    · decide
    · obtain rfl := List.mem_singleton.1 hx; decide)).mono ?_
  rintro e w5 ⟨ev, rfl, hev, hb5⟩
  have hck := (right_iff _).2 right_two
  rw [hck] at hev
  obtain rfl : ev = .nilIface := hev
  rw [show listTextR [oneF pD1 1, oneF pD2 1] = _ from (if_pos hck).trans text_two]
  clear hck
  go_wp2_with fail
  go_ret
  exact ⟨rfl, hb4'.trans (hb5.mono hb4'.size)⟩
end Go.Proofs.YtpicofkmeijioaaGreatDoor
