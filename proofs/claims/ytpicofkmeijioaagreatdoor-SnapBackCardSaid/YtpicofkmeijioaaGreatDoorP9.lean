/- list.Add, list.Remove. deedboxlaw2.one, listed. snap.First; the statements' own helpers on snaps: OwnSnap, LongSnap, SameSnap, snapped. coded and faulted of the packages of statements. deedboxlaw2.SnapBack: the walk. From the row's condition on the listed variables to what the walks ask: the sentinels, and what errors.As reads. -/
import Derived.Test.YtpicofkmeijioaaGreatDoorP8
import Derived.Test.YtpicofkmeijioaaGreatDoorP7
import Derived.Test.YtpicofkmeijioaaGreatDoorP4
import Derived.Test.YtpicofkmeijioaaGreatDoorP1
import Derived.Deep.RegionWith
import Derived.LaidLaws
import Derived.LaidHandle
import Derived.Stop.LaidErr
namespace Go.Proofs.YtpicofkmeijioaaGreatDoor
open Go.RowKit

theorem addE_bad {l : List Fl} {f : Fl} (h : listCheck l ≠ .nil) : addE l f = listCheck l := if_pos h
theorem addE_file {l : List Fl} {f : Fl} (h : listCheck l = .nil) (h1 : checkF f ≠ 0) : addE l f = .bare (checkF f) := by unfold addE; rw [if_neg (by simp [h]), if_pos h1]
theorem addE_there {l : List Fl} {f : Fl} (h : listCheck l = .nil) (h1 : checkF f = 0) (h2 : thereF l f) : addE l f = .bare 7 := by unfold addE; rw [if_neg (by simp [h]), if_neg (by simp [h1]), if_pos h2]
theorem addE_full {l : List Fl} {f : Fl} (h : listCheck l = .nil) (h1 : checkF f = 0) (h2 : ¬ thereF l f) (h3 : 60 ≤ l.length) : addE l f = .bare 8 := by unfold addE; rw [if_neg (by simp [h]), if_neg (by simp [h1]), if_neg h2, if_pos h3]
theorem addE_nil {l : List Fl} {f : Fl} (h : listCheck l = .nil) (h1 : checkF f = 0) (h2 : ¬ thereF l f) (h3 : ¬ 60 ≤ l.length) : addE l f = .nil := by unfold addE; rw [if_neg (by simp [h]), if_neg (by simp [h1]), if_neg h2, if_neg h3]
theorem addL_bad {l : List Fl} {f : Fl} (h : addE l f ≠ .nil) : addL l f = [] := if_neg h

set_option maxHeartbeats 1000000 in
set_option maxRecDepth 20000 in
theorem listAdd_any (E : Nat → Addr) (B : Nat) (v : Value) (l : List Fl) (f : Fl) (w : World) (hE : Errs [2, 4, 5, 7, 8, 9] E B w) (hT : LNum B w) (hM : LMax B w) (hl : FilesAt w v l) (hs : ∀ x ∈ l, midF x) (hf : midF f) (hn : l.length ≤ 10000) :
    Calls Tryz.prog 35 #[v, fileV f] w fun e w' => ∃ u ev, e = .returned (.tuple #[u, ev]) ∧ FilesAt w' u (addL l f) ∧ ErV E w' ev (addE l f) ∧ Below w.heap.size w w' := by
  have hBw := hE.le
  have hif := isIfaceE
  obtain ⟨a, c, rfl, -, -⟩ := hl.form'
  have hba : Below w.heap.size w (w.alloc (.cells #[S f.path, S f.part, .int .i64 f.n, .int .i64 f.lo, .int .i64 f.hi, .int .i64 f.seq] 50)) := (Below.refl _ _).alloc (Nat.le_refl _) _
  have Cs := Lib.hid (fun w6 (h : Below (w.alloc (.cells #[S f.path, S f.part, .int .i64 f.n, .int .i64 f.lo, .int .i64 f.hi, .int .i64 f.seq] 50)).heap.size (w.alloc (.cells #[S f.path, S f.part, .int .i64 f.n, .int .i64 f.lo, .int .i64 f.hi, .int .i64 f.seq] 50)) w6) => fileCells rfl h)
  have hE1 := hE.below' hba hBw; have hT1 := hT.below' hba hBw; have hM1 := hM.below' hba hBw
  have hl1 := hl.below hba
  go_enter Tryz.func35, Tryz.ntmps35
  go_wp2_with fail
  generalize w.alloc (.cells #[S f.path, S f.part, .int .i64 f.n, .int .i64 f.lo, .int .i64 f.hi, .int .i64 f.seq] 50) = w1 at *
  refine (listCheck_any E B _ l _ (hE1.sub (by decide)) hT1 hM1 hl1 hs).mono ?_
  rintro e w2 ⟨ev, rfl, hev, hb2⟩
  have hb2' := hba.trans (hb2.mono hba.size)
  by_cases hck : listCheck l = .nil
  case neg =>
    have HA := Lib.hid (addE_bad (f := f) hck)
    have HL : Hid (addL l f = []) := Lib.hid (addL_bad (by rw [HA.out]; exact hck))
    obtain ⟨u, x, rfl⟩ := hev.iface hck
    have He := Lib.hid hev; clear hev hck
    go_wp2_with fail
    go_ret2
    exact ⟨_, _, rfl, by rw [HL.out]; exact At.nil _ _ _, by rw [HA.out]; exact He.out, hb2'⟩
  rw [hck] at hev
  obtain rfl : ev = .nilIface := hev
  have HC := Lib.hid hck; clear hck
  obtain ⟨c0, c1, c2, c3, c4, c5⟩ := Cs.out w2 hb2
  go_wp2_with fail
  refine (fileCheck_any E B f _ ((hE1.sub (by decide)).below' hb2 hE1.le) (hT1.below' hb2 hE1.le) (hM1.below' hb2 hE1.le) hf).mono ?_
  rintro e w3 ⟨ev, rfl, hev, hb3⟩
  have hb3' := hb2.trans (hb3.mono hb2.size)
  have hb3w := hba.trans (hb3'.mono hba.size)
  clear c0 c1 c2 c3 c4 c5
  by_cases hfc : checkF f = 0
  case neg =>
    have HA := Lib.hid (addE_file HC.out hfc)
    have HL : Hid (addL l f = []) := Lib.hid (addL_bad (by rw [HA.out]; exact fun h => by cases h))
    rw [fileEr_bad rfl hfc] at hev
    obtain ⟨hcr, rfl⟩ := hev
    have HF := Lib.hid hfc; clear hfc
    go_wp2_with fail
    go_ret2
    exact ⟨_, _, rfl, by rw [HL.out]; exact At.nil _ _ _, by rw [HA.out]; exact ⟨hcr, rfl⟩, hb3w⟩
  rw [fileEr_nil hfc] at hev
  obtain rfl : ev = .nilIface := hev
  have HF := Lib.hid hfc; clear hfc
  have HR := Lib.hid ((right_iff l).1 HC.out)
  obtain ⟨c0, c1, c2, c3, c4, c5⟩ := Cs.out w3 hb3'
  have hl3 := hl1.below hb3'
  have V0 := fun w6 (h : Below w1.heap.size w1 w6) => (⟨(hE1.below' h hE1.le).var 7 (by decide), (hE1.below' h hE1.le).var 8 (by decide)⟩ : _ ∧ _)
  simp only [errG] at V0
  have V := Lib.hid V0
  clear V0
  go_wp2_with fail
  refine (bsearchF_any _ _ f w3.heap.size w3 _ l _ clo_add1 (fun W x hx hbW hle => ?_) hl3 (by omega) HR.out.ris (Below.refl _ _) (Nat.le_refl _)).mono ?_
  · have hbW' := hb3'.trans (hbW.mono hb3'.size)
    exact add1_any E B x f W ((hE1.sub (by decide)).below' hbW' hE1.le) (hT1.below' hbW' hE1.le) (hM1.below' hbW' hE1.le) (hs x hx) hf
  rintro e w4 ⟨k, rfl, hpl, hb4⟩
  have hb4' := hb3'.trans (hb4.mono hb3'.size)
  have hb4w := hba.trans (hb4'.mono hba.size)
  clear c0 c1 c2 c3 c4 c5
  obtain ⟨v7, v8⟩ := V.out w4 hb4'
  by_cases hth : thereF l f
  case pos =>
    have HA := Lib.hid (addE_there HC.out HF.out hth)
    have HL : Hid (addL l f = []) := Lib.hid (addL_bad (by rw [HA.out]; exact fun h => by cases h))
    rw [decide_eq_true hth]
    have HTH := Lib.hid hth; clear hth
    go_wp2_with fail
    go_quiet (fail)
    go_wp2_with fail
    go_ret2
    exact ⟨_, _, rfl, by rw [HL.out]; exact At.nil _ _ _, by rw [HA.out]; exact ⟨by decide, rfl⟩, Bdn hb4w _⟩
  rw [decide_eq_false hth]
  have HTH := Lib.hid hth; clear hth
  by_cases h60 : 60 ≤ l.length
  case pos =>
    have HA := Lib.hid (addE_full HC.out HF.out HTH.out h60)
    have HL : Hid (addL l f = []) := Lib.hid (addL_bad (by rw [HA.out]; exact fun h => by cases h))
    have g60 : (60 : Int) ≤ (l.length : Int) := by omega
    clear h60
    go_wp2_with fail
    go_quiet (fail)
    go_wp2_with fail
    go_ret2
    exact ⟨_, _, rfl, by rw [HL.out]; exact At.nil _ _ _, by rw [HA.out]; exact ⟨by decide, rfl⟩, Bdn hb4w _⟩
  have HA := Lib.hid (addE_nil HC.out HF.out HTH.out h60)
  have HL : Hid (addL l f = l.take k ++ f :: l.drop k) := Lib.hid (by unfold addL; rw [if_pos HA.out, placeF_at hpl])
  have g60 : decide ((60 : Int) ≤ (l.length : Int)) = false := by simp; omega
  have hkl := hpl.le
  clear h60 hpl
  have hl4 := hl1.below hb4'
  obtain ⟨d0, d1, d2, d3, d4, d5⟩ := Cs.out w4 hb4'
  go_wp2_with fail
  go_region_held3 (fun w' => w'.cell? ⟨w.heap.size, 0, none⟩ = some (S f.path) ∧ w'.cell? ⟨w.heap.size, 1, none⟩ = some (S f.part) ∧ w'.cell? ⟨w.heap.size, 2, none⟩ = some (.int .i64 f.n) ∧ w'.cell? ⟨w.heap.size, 3, none⟩ = some (.int .i64 f.lo) ∧ w'.cell? ⟨w.heap.size, 4, none⟩ = some (.int .i64 f.hi) ∧ w'.cell? ⟨w.heap.size, 5, none⟩ = some (.int .i64 f.seq))
    (first | exact ⟨d0, d1, d2, d3, d4, d5⟩ | exact Cs.out _ (hb4'.drew.alloc hb4'.size _) | exact Cs.out _ (hb5'.alloc hb5'.size _))
    (first
      | (go_at_call 93; refine (cloneF_any _ l _ (hl1.below (by first | exact hb4'.drew | exact hb4'.drew.alloc hb4'.size _)) (by omega)).mono ?_; rintro e w5 ⟨v5, rfl, hown5, hb5⟩; have hb5' : Below w1.heap.size w1 w5 := (by first | exact hb4'.drew.trans (hb5.mono hb4'.size) | exact (hb4'.drew.alloc hb4'.size _).trans (hb5.mono (Nat.le_trans hb4'.size (by simp)))); clear d0 d1 d2 d3 d4 d5; obtain ⟨d0, d1, d2, d3, d4, d5⟩ := Cs.out w5 hb5')
      | (go_at_call 92; refine (insertF_any w4.heap.size _ l f k w5.heap.size _ (hown5.alloc _) hkl hn (by have := hb5.size; simp at this ⊢; omega) (heap_alloc_new w5 _) (fun h => absurd (World.ownsRow.lt hown5 _ h).2 (Nat.lt_irrefl _))).mono ?_; rintro e w6 ⟨v6, rfl, hown6, hb6⟩; have hb6w : Below w.heap.size w w6 := hba.trans (((hb5'.alloc hb5'.size _).trans (hb6.mono hb4'.size)).mono hba.size); have hat6 := Lib.hid (hown6.at encF_enc); clear d0 d1 d2 d3 d4 d5; obtain ⟨d0, d1, d2, d3, d4, d5⟩ := Cs.out w6 ((hb5'.alloc hb5'.size _).trans (hb6.mono hb4'.size)))
      | (go_at_call 92; refine (insertF_any _ _ l f k w4.heap.size _ hown5 hkl hn hb5.size ((hb5.block w4.heap.size (by simp)).trans (heap_alloc_new w4.drew _)) (fun h => absurd (World.ownsRow.lt hown5 _ h).1 (by simp))).mono ?_; rintro e w6 ⟨v6, rfl, hown6, hb6⟩; have hb6' : Below w1.heap.size w1 w6 := hb5'.trans (hb6.mono (Nat.le_trans hb4'.size (by simp))); have hb6w : Below w.heap.size w w6 := hba.trans (hb6'.mono hba.size); have hat6 := Lib.hid (hown6.at encF_enc); clear d0 d1 d2 d3 d4 d5; obtain ⟨d0, d1, d2, d3, d4, d5⟩ := Cs.out w6 hb6'))
  all_goals
    go_wp2_with fail
    go_ret2
    exact ⟨_, _, rfl, by rw [HL.out]; exact hat6.out, by rw [HA.out]; rfl, hb6w⟩

theorem removeE_bad {l : List Fl} {p : Str} (h : listCheck l ≠ .nil) : removeE l p = listCheck l := if_pos h
theorem removeE_none {l : List Fl} {p : Str} (h : listCheck l = .nil) (h1 : findF l p = none) : removeE l p = .bare 6 := by unfold removeE; rw [if_neg (by simp [h]), if_pos (by rw [h1]; rfl)]
theorem removeE_nil {l : List Fl} {p : Str} {k : Nat} (h : listCheck l = .nil) (h1 : findF l p = some k) : removeE l p = .nil := by unfold removeE; rw [if_neg (by simp [h]), if_neg (by rw [h1]; simp)]
theorem removeL_bad {l : List Fl} {p : Str} (h : removeE l p ≠ .nil) : removeL l p = [] := if_neg h
theorem findF_some {l : List Fl} {p : Str} {k : Nat} (h : findF l p = some k) : ∃ x, l[k]? = some x ∧ x.path = p := by
  unfold findF at h
  obtain ⟨hk, h1, -⟩ := List.findIdx?_eq_some_iff_getElem.1 h
  exact ⟨l[k], List.getElem?_eq_getElem hk, by simpa using h1⟩
theorem findV_some {l : List Fl} {p : Str} {k : Nat} (h : findF l p = some k) : findV l p = k := by
  unfold findF at h; unfold findV idxVal; rw [h]
theorem findV_none {l : List Fl} {p : Str} (h : findF l p = none) : findV l p = -1 := by
  unfold findF at h; unfold findV idxVal; rw [h]
set_option maxHeartbeats 1000000 in
set_option maxRecDepth 20000 in
theorem listRemove_any (E : Nat → Addr) (B : Nat) (v : Value) (l : List Fl) (p : Str) (w : World) (hE : Errs [2, 4, 5, 6, 8, 9] E B w) (hT : LNum B w) (hM : LMax B w) (hl : FilesAt w v l) (hs : ∀ x ∈ l, midF x) :
    Calls Tryz.prog 38 #[v, S p] w fun e w' => ∃ u ev, e = .returned (.tuple #[u, ev]) ∧ FilesAt w' u (removeL l p) ∧ ErV E w' ev (removeE l p) ∧ Below w.heap.size w w' := by
  have hBw := hE.le
  have hif := isIfaceE
  have hl0 := hl
  obtain ⟨a, c, rfl, -, -⟩ := hl.form'
  have V0 := fun w6 (h : Below w.heap.size w w6) => (hE.below' h hBw).var 6 (by decide)
  simp only [errG] at V0
  have V := Lib.hid V0
  clear V0
  go_enter Tryz.func38, Tryz.ntmps38
  go_wp2_with fail
  refine (listCheck_any E B _ l _ (hE.sub (by decide)) hT hM hl hs).mono ?_
  rintro e w2 ⟨ev, rfl, hev, hb2⟩
  by_cases hck : listCheck l = .nil
  case neg =>
    have HA := Lib.hid (removeE_bad (p := p) hck)
    have HL : Hid (removeL l p = []) := Lib.hid (removeL_bad (by rw [HA.out]; exact hck))
    obtain ⟨u, x, rfl⟩ := hev.iface hck
    have He := Lib.hid hev; clear hev hck
    go_wp2_with fail
    go_ret2
    exact ⟨_, _, rfl, by rw [HL.out]; exact At.nil _ _ _, by rw [HA.out]; exact He.out, hb2⟩
  rw [hck] at hev
  obtain rfl : ev = .nilIface := hev
  have HC := Lib.hid hck; clear hck
  have hl2 := hl.below hb2
  go_wp2_with fail
  refine (listFind_any _ l p _ hl2).mono ?_
  rintro e w3 ⟨rfl, hb3⟩
  have hb3' := hb2.trans (hb3.mono hb2.size)
  cases hfi : findF l p with
  | none =>
    have HA := Lib.hid (removeE_none HC.out hfi)
    have HL : Hid (removeL l p = []) := Lib.hid (removeL_bad (by rw [HA.out]; exact fun h => by cases h))
    rw [findV_none hfi]
    clear hfi
    have v6 := V.out w3 hb3'
    go_wp2_with fail
    go_quiet (fail)
    go_wp2_with fail
    go_ret2
    exact ⟨_, _, rfl, by rw [HL.out]; exact At.nil _ _ _, by rw [HA.out]; exact ⟨by decide, rfl⟩, Bdn hb3' _⟩
  | some k =>
    have HA := Lib.hid (removeE_nil HC.out hfi)
    obtain ⟨x, hxk, hxp⟩ := findF_some hfi
    have HR := Lib.hid ((right_iff l).1 HC.out)
    have HL : Hid (removeL l p = l.take k ++ l.drop (k + 1)) := Lib.hid (by unfold removeL; rw [if_pos HA.out, ← hxp, dropF_at HR.out.ris hxk])
    rw [findV_some hfi]
    obtain ⟨hk, -⟩ := List.getElem?_eq_some_iff.1 hxk
    have h60 := HR.out.len
    clear hfi hxk hxp
    have hl3 := hl.below hb3'
    have hkn : ((k : Int) < 0) = False := by simp
    go_wp2_with fail
    refine (cloneF_any _ l _ hl3 (by omega)).mono ?_
    rintro e w4 ⟨v4, rfl, hown, hb4⟩
    have hb4' := hb3'.trans (hb4.mono hb3'.size)
    obtain ⟨a4, c4, rfl, -, -⟩ := (hown.at encF_enc).form'
    have hwk : IntKind.i64.wrap ((k : Int) + 1) = (k : Int) + 1 := by rw [IntKind.wrap_i64]; omega
    have hD := deleteF_any w3.heap.size _ l k w4 hown hk (by omega) hb4.size
    have HD := Lib.hid hD; clear hD
    go_wp2_with fail
    refine HD.out.mono ?_
    rintro e w5 ⟨v5, rfl, hown5, hb5⟩
    have Ho := Lib.hid (hown5.at encF_enc)
    go_wp2_with fail
    go_ret2
    exact ⟨_, _, rfl, by rw [HL.out]; exact Ho.out, by rw [HA.out]; rfl, hb4'.trans (hb5.mono hb3'.size)⟩
end Go.Proofs.YtpicofkmeijioaaGreatDoor
namespace Go.Proofs.YtpicofkmeijioaaGreatDoor
open Go.RowKit

abbrev oneF (p : Str) (n : Int) : Fl := ⟨p, [97], 1, 0, 0, n⟩
abbrev pD1 : Str := [100, 97, 116, 97, 47, 49]
abbrev pD2 : Str := [100, 97, 116, 97, 47, 50]
theorem itoa0 : Lib.itoa 0 = [48] := (Lib.itoa_nonneg 0).trans (Lib.decDigits_one (by decide))
theorem itoa1 : Lib.itoa 1 = [49] := (Lib.itoa_nonneg 1).trans (Lib.decDigits_one (by decide))
theorem itoa2 : Lib.itoa 2 = [50] := (Lib.itoa_nonneg 2).trans (Lib.decDigits_one (by decide))
theorem pathD1 : pathF pD1 = some (kData, 1) := by
  have h : numOf [49] = some 1 := by have := numOf_itoa (n := 1) (by decide) (by decide); rwa [itoa1] at this
  have hc : Lib.cut pD1 [47] = (kData, [49], true) := cut_app1 (c := 47) (p := kData) (q := [49]) (by decide)
  unfold pathF
  rw [hc]
  simp only [h]
  rfl
theorem pathD2 : pathF pD2 = some (kData, 2) := by
  have h : numOf [50] = some 2 := by have := numOf_itoa (n := 2) (by decide) (by decide); rwa [itoa2] at this
  have hc : Lib.cut pD2 [47] = (kData, [50], true) := cut_app1 (c := 47) (p := kData) (q := [50]) (by decide)
  unfold pathF
  rw [hc]
  simp only [h]
  rfl
theorem check_one {p : Str} {n : Int} (h : pathF p = some (kData, n)) : checkF (oneF p 1) = 0 := by
  refine checkF_right h ?_ (by unfold boundF farN; simp)
  have : kindF p = kData := by unfold kindF; rw [h]; rfl
  show partOk (kindF p) [97] = true
  rw [this]; decide
theorem keyD1 : keyP pD1 = 2147483649 := by unfold keyP; rw [pathD1]; rfl
theorem keyD2 : keyP pD2 = 2147483650 := by unfold keyP; rw [pathD2]; rfl
theorem right_two : RightL [oneF pD1 1, oneF pD2 1] :=
  ⟨by decide, fun f hf => by
    rcases List.mem_cons.1 hf with rfl | hf
    · exact check_one pathD1
    · obtain rfl := List.mem_singleton.1 hf
      exact check_one pathD2, List.pairwise_cons.2 ⟨fun g hg => by
    obtain rfl := List.mem_singleton.1 hg
    show keyP pD1 < keyP pD2
    rw [keyD1, keyD2]; decide, by simp⟩⟩
theorem text_two : listText [oneF pD1 1, oneF pD2 1] = [100, 97, 116, 97, 47, 49, 32, 97, 32, 49, 32, 48, 32, 48, 32, 49, 10, 100, 97, 116, 97, 47, 50, 32, 97, 32, 49, 32, 48, 32, 48, 32, 49, 10] := by
  simp [listText, fileLine, numsTail, itoa0, itoa1]

theorem one_any (p : Str) (n : Int) (w : World) : Calls Tryz.prog 82 #[S p, .int .i64 n] w fun e w' => e = .returned (fileV (oneF p n)) ∧ Below w.heap.size w w' := by
  go_enter Tryz.func82, Tryz.ntmps82
  go_wp2_with fail
  exact bodyPost_ret (results_cell_row rfl _ _ w.heap.size _ _ (0, 0) _ rfl (heap_alloc_new w _) Tryz.underlying50 rfl (by kernel_rfl)) rfl ⟨rfl, (Below.refl _ _).alloc (Nat.le_refl _) _⟩
theorem file_new (f : Fl) (w : World) (t : TypeId) (H : Nat) (hH : w.heap.size = H) : FilesAt (w.alloc (.cells #[S f.path, S f.part, .int .i64 f.n, .int .i64 f.lo, .int .i64 f.hi, .int .i64 f.seq] t)) (.slice (some ⟨H, 0, none⟩) 1 1) [f] := by
  subst hH
  refine ⟨_, _, w.heap.size, 0, rfl, fun _ => rfl, Nat.le_refl 1, (by decide : 1 ≤ maxLen), fun k z hk j u hu => ?_⟩
  have hk' : k = 0 := by
    rcases Nat.eq_zero_or_pos k with h | h
    · exact h
    · rw [List.getElem?_eq_none (by simp; omega)] at hk; cases hk
  subst hk'
  obtain rfl : f = z := by simpa using hk
  rw [cell_of_row (w.alloc _) w.heap.size _ _ t (0, 0) (heap_alloc_new w _)]
  simpa using hu
set_option maxRecDepth 20000 in
theorem listed_any (E : Nat → Addr) (B : Nat) (w : World) (hE : Errs [2, 4, 5, 7, 8, 9] E B w) (hT : LNum B w) (hM : LMax B w) :
    Calls Tryz.prog 28 #[] w fun e w' => e = .returned (.bool true) ∧ Below w.heap.size w w' := by
  have hBw := hE.le
  have hif := isIfaceE
  go_enter Tryz.func28, Tryz.ntmps28
  go_wp2_with fail
  refine (one_any pD2 1 w).mono ?_
  rintro e w1 ⟨rfl, hb1⟩
  have hb2 := hb1.alloc hb1.size (.cells #[S pD2, S [97], .int .i64 1, .int .i64 0, .int .i64 0, .int .i64 1] 50)
  have hl2 : FilesAt (w1.alloc (.cells #[S pD2, S [97], .int .i64 1, .int .i64 0, .int .i64 0, .int .i64 1] 50)) (.slice (some ⟨w1.heap.size, 0, none⟩) 1 1) [oneF pD2 1] := file_new (oneF pD2 1) w1 50 _ rfl
  go_wp2_with fail
  generalize w1.alloc (.cells #[S pD2, S [97], .int .i64 1, .int .i64 0, .int .i64 0, .int .i64 1] 50) = w2 at *
  refine (one_any pD1 1 w2).mono ?_
  rintro e w3 ⟨rfl, hb3⟩
  have hb3' := hb2.trans (hb3.mono hb2.size)
  have hl3 := hl2.below hb3
  obtain ⟨ha1, ha2⟩ := add_head right_two
  have HA := Lib.hid ha1; have HA2 := Lib.hid ha2; clear ha1 ha2
  go_wp2_with fail
  refine (listAdd_any E B _ [oneF pD2 1] (oneF pD1 1) _ (hE.below' hb3' hBw) (hT.below' hb3' hBw) (hM.below' hb3' hBw) hl3 (fun x hx => by obtain rfl := List.mem_singleton.1 hx; decide) (by decide) (by decide)).mono ?_
  rintro e w4 ⟨u, ev, rfl, hu, hev, hb4⟩
  rw [HA.out] at hev
  obtain rfl : ev = .nilIface := hev
  rw [HA2.out] at hu
  have hb4' := hb3'.trans (hb4.mono hb3'.size)
  go_wp2_with fail
  refine (listText_any E B _ [oneF pD1 1, oneF pD2 1] _ ((hE.sub (by decide)).below' hb4' hBw) (hT.below' hb4' hBw) (hM.below' hb4' hBw) hu (fun x hx => by
    rcases List.mem_cons.1 hx with rfl | hx
    · decide
    · obtain rfl := List.mem_singleton.1 hx; decide)).mono ?_
  rintro e w5 ⟨ev, rfl, hev, hb5⟩
  have hck := (right_iff _).2 right_two
  rw [hck] at hev
  obtain rfl : ev = .nilIface := hev
  rw [show listTextR [oneF pD1 1, oneF pD2 1] = _ from (if_pos hck).trans text_two]
  clear hck
  go_wp2_with fail
  go_ret
  exact ⟨rfl, hb4'.trans (hb5.mono hb4'.size)⟩
end Go.Proofs.YtpicofkmeijioaaGreatDoor
namespace Go.Proofs.YtpicofkmeijioaaGreatDoor
open Go.RowKit

def firstSn : Sn := ⟨1, 0, 0, 0, 0, kStart, []⟩
theorem right_first : RightSn firstSn := ⟨by decide, by decide, ⟨by decide, fun f h => absurd h (by simp [firstSn]), by simp [firstSn]⟩, fun f h => absurd h (by simp [firstSn])⟩
theorem text_first : snapText firstSn = [115, 110, 97, 112, 32, 49, 32, 48, 32, 48, 32, 48, 32, 48, 32, 115, 116, 97, 114, 116, 32, 48, 10] := by
  have h : sumOf (listText firstSn.files) = 0 := by decide
  unfold snapText
  rw [h]
  simp [snapHead, numsTail, firstSn, listText, itoa0, itoa1]

theorem snapFirst_any (w : World) : Calls Tryz.prog 109 #[] w fun e w' => e = .returned (snapV firstSn (.slice none 0 0)) ∧ Below w.heap.size w w' := by
  go_enter Tryz.func109, Tryz.ntmps109
  go_wp2_with fail
  exact bodyPost_ret (results_cell_row rfl _ _ w.heap.size _ _ (0, 0) _ rfl (heap_alloc_new w _) Tryz.underlying30 rfl (by kernel_rfl)) rfl ⟨rfl, (Below.refl _ _).alloc (Nat.le_refl _) _⟩

set_option maxRecDepth 20000 in
theorem ownSnap_any (s : Sn) (v : Value) (w : World) (hl : FilesAt w v s.files) (hn : s.files.length ≤ 100000) :
    Calls Tryz.prog 11 #[snapV s v] w fun e w' => ∃ u, e = .returned (snapV s u) ∧ FilesAt w' u s.files ∧ Below w.heap.size w w' := by
  obtain ⟨w1, hw1⟩ : ∃ w1, w1 = w.alloc (.cells #[.int .i64 s.id, .int .i64 s.parent, .int .i64 s.seq, .int .i64 s.day, .int .i64 s.index, S s.op, v] 30) := ⟨_, rfl⟩
  have hb1 : Below w.heap.size w w1 := hw1 ▸ (Below.refl _ _).alloc (Nat.le_refl _) _
  have hs1 : w1.heap.size = w.heap.size + 1 := by rw [hw1]; simp
  have hba : Below w1.heap.size w1 (w1.alloc (.cells #[.int .i64 0, .int .i64 0, .int .i64 0, .int .i64 0, .int .i64 0, S [], .slice none 0 0] 30)) := (Below.refl _ _).alloc (Nat.le_refl _) _
  have CS := Lib.hid (fun w6 (h : Below w1.heap.size w1 w6) => snapCells (s := s) (v := v) (t := 30) (hw1 ▸ h))
  have HGs := Lib.hid (fun w6 (h : Below w1.heap.size w1 w6) => (h.block w.heap.size (by omega)).trans (hw1 ▸ heap_alloc_new w _ : w1.heap[w.heap.size]? = some (.cells #[.int .i64 s.id, .int .i64 s.parent, .int .i64 s.seq, .int .i64 s.day, .int .i64 s.index, S s.op, v] 30)))
  have HW := Lib.hid hw1
  have CZ := Lib.hid (fun w6 (h : Below (w1.alloc (.cells #[.int .i64 0, .int .i64 0, .int .i64 0, .int .i64 0, .int .i64 0, S [], .slice none 0 0] 30)).heap.size (w1.alloc (.cells #[.int .i64 0, .int .i64 0, .int .i64 0, .int .i64 0, .int .i64 0, S [], .slice none 0 0] 30)) w6) => snapCells (s := zeroSn) (v := .slice none 0 0) h)
  have HGz := Lib.hid (fun w6 (h : Below (w1.alloc (.cells #[.int .i64 0, .int .i64 0, .int .i64 0, .int .i64 0, .int .i64 0, S [], .slice none 0 0] 30)).heap.size (w1.alloc (.cells #[.int .i64 0, .int .i64 0, .int .i64 0, .int .i64 0, .int .i64 0, S [], .slice none 0 0] 30)) w6) => (h.block w1.heap.size (by simp)).trans (heap_alloc_new w1 (.cells #[.int .i64 0, .int .i64 0, .int .i64 0, .int .i64 0, .int .i64 0, S [], .slice none 0 0] 30)))
  have HSz : Hid ((w1.alloc (.cells #[.int .i64 0, .int .i64 0, .int .i64 0, .int .i64 0, .int .i64 0, S [], .slice none 0 0] 30)).heap.size = w.heap.size + 2) := Lib.hid (by simp [hs1])
  go_enter Tryz.func11, Tryz.ntmps11
  obtain ⟨c0, c1, c2, c3, c4, c5, c6⟩ := CS.out _ hba
  go_wp2_with fail
  rw [← HW.out]
  generalize w1.alloc (.cells #[.int .i64 0, .int .i64 0, .int .i64 0, .int .i64 0, .int .i64 0, S [], .slice none 0 0] 30) = w2 at *
  refine (ownFiles_any v s.files w2 (hl.below (hb1.trans (hba.mono hb1.size))) hn).mono ?_
  rintro e w3 ⟨u, rfl, hown, hb3⟩
  have hb13 := hba.trans (hb3.mono hba.size)
  have hb03 := hb1.trans (hb13.mono hb1.size)
  clear c0 c1 c2 c3 c4 c5 c6
  obtain ⟨c0, c1, c2, c3, c4, c5, c6⟩ := CS.out _ hb13
  obtain ⟨d0, d1, d2, d3, d4, d5, d6⟩ := CZ.out _ hb3
  rw [hs1] at d0 d1 d2 d3 d4 d5 d6
  have hg1 := HGs.out _ hb13
  have hg2 := HGz.out _ hb3
  rw [hs1] at hg2
  have f6 : w3.frozen? ⟨w.heap.size, 6, none⟩ = false := frozen_row hg1
  have fz : ∀ j, w3.frozen? ⟨w.heap.size + 1, j, none⟩ = false := fun j => frozen_row hg2
  have e0 := fz 0; have e1 := fz 1; have e2 := fz 2; have e3 := fz 3; have e4 := fz 4; have e5 := fz 5; have e6 := fz 6
  have HG2 := Lib.hid hg2
  clear fz hg1 hg2
  have hne : ¬ (w.heap.size + 1 = w.heap.size) := by omega
  obtain ⟨au, nu, cu, rfl⟩ : ∃ au nu cu, u = .slice au nu cu := by
    obtain ⟨a', c', h', -⟩ := (hown.at encF_enc).form'
    exact ⟨_, _, _, h'⟩
  go_wp2_with fail
  refine bodyPost_ret (results_cell_row rfl _ _ (w.heap.size + 1) 30 #[.int .i64 s.id, .int .i64 s.parent, .int .i64 s.seq, .int .i64 s.day, .int .i64 s.index, S s.op, .slice au nu cu] (0, 0) _ rfl (sev_new ((heap_setCell_other _ _ _ _ (by simp)).trans HG2.out) _ _ _ _ _ _ _) Tryz.underlying30 rfl (by kernel_rfl)) rfl ⟨_, rfl, ?_, ?_⟩
  · refine Own.moved encF_enc hown fun p hp => ?_
    have h2 := hba.size
    have h3 := hs1
    have hp2 : w.heap.size + 1 < p.block := by have := HSz.out; omega
    rw [sev_cell (by omega)]
    exact World.cell?_setCell_other _ _ _ _ (fun e => by rw [← e] at hp2; exact absurd hp2 (by show ¬ (w.heap.size + 1 < w.heap.size); omega))
  · exact sev_below (hb03.setCell (p := ⟨w.heap.size, 6, none⟩) (Nat.le_refl _) _) (by omega) _ _ _ _ _ _ _

set_option maxRecDepth 20000 in
theorem longSnap_any (s : Sn) (v : Value) (w : World) (hl : FilesAt w v s.files) :
    Calls Tryz.prog 10 #[snapV s v] w fun e w' => (e = .returned (.int .i64 1) ∨ (e = .returned (.int .i64 0) ∧ s.op.length ≤ 30 ∧ s.files.length ≤ 61 ∧ ∀ f ∈ s.files, shortF f)) ∧ Below w.heap.size w w' := by
  have hb0 : Below w.heap.size w (w.alloc (.cells #[.int .i64 s.id, .int .i64 s.parent, .int .i64 s.seq, .int .i64 s.day, .int .i64 s.index, S s.op, v] 30)) := (Below.refl _ _).alloc (Nat.le_refl _) _
  obtain ⟨c0, c1, c2, c3, c4, c5, c6⟩ := snapCells (s := s) (v := v) (t := 30) (Below.refl _ (w.alloc (.cells #[.int .i64 s.id, .int .i64 s.parent, .int .i64 s.seq, .int .i64 s.day, .int .i64 s.index, S s.op, v] 30)))
  have hL := longFiles_any v s.files (w.alloc (.cells #[.int .i64 s.id, .int .i64 s.parent, .int .i64 s.seq, .int .i64 s.day, .int .i64 s.index, S s.op, v] 30)) (hl.below hb0)
  have HL := Lib.hid hL; clear hL
  by_cases h1 : s.op.length ≤ 30
  · have g1 : decide ((30 : Int) < (s.op.length : Int)) = false := by simp; omega
    go_enter Tryz.func10, Tryz.ntmps10
    go_wp2_with fail
    refine HL.out.mono ?_
    rintro e w2 ⟨he, hb2⟩
    have hb2' := hb0.trans (hb2.mono hb0.size)
    clear c0 c1 c2 c3 c4 c5 c6
    rcases he with rfl | ⟨rfl, hlen, hsh⟩
    · go_wp2_with fail
      go_ret
      exact ⟨.inl rfl, hb2'⟩
    · have HS := Lib.hid hsh; clear hsh
      go_wp2_with fail
      go_ret
      exact ⟨.inr ⟨rfl, h1, hlen, HS.out⟩, hb2'⟩
  · have g1 : (30 : Int) < (s.op.length : Int) := by omega
    clear h1
    go_enter Tryz.func10, Tryz.ntmps10
    go_wp2_with fail
    go_ret
    exact ⟨.inl rfl, hb0⟩

theorem sn_ways (a b : Sn) : (decide (a = b) = false ∧ ((a.id != b.id) = true ∨ ((a.id != b.id) = false ∧ ((a.parent != b.parent) = true ∨ ((a.parent != b.parent) = false ∧ ((a.seq != b.seq) = true ∨ ((a.seq != b.seq) = false ∧ ((a.day != b.day) = true ∨ ((a.day != b.day) = false ∧ (a.index != b.index) = true)))))))) ) ∨
    ((a.id != b.id) = false ∧ (a.parent != b.parent) = false ∧ (a.seq != b.seq) = false ∧ (a.day != b.day) = false ∧ (a.index != b.index) = false ∧ decide (a = b) = ((a.op == b.op) && decide (a.files = b.files))) := by
  obtain ⟨a1, a2, a3, a4, a5, a6, a7⟩ := a
  obtain ⟨b1, b2, b3, b4, b5, b6, b7⟩ := b
  by_cases h1 : a1 = b1 <;> by_cases h2 : a2 = b2 <;> by_cases h3 : a3 = b3 <;> by_cases h4 : a4 = b4 <;> by_cases h5 : a5 = b5 <;> simp [h1, h2, h3, h4, h5]
  rw [Bool.eq_iff_iff]; simp
set_option maxHeartbeats 1000000 in
set_option maxRecDepth 20000 in
theorem sameSnap_any (a b : Sn) (u v : Value) (w : World) (ha : FilesAt w u a.files) (hb : FilesAt w v b.files) :
    Calls Tryz.prog 51 #[snapV a u, snapV b v] w fun e w' => e = .returned (.bool (decide (a = b))) ∧ Below w.heap.size w w' := by
  obtain ⟨w1, hw1⟩ : ∃ w1, w1 = w.alloc (.cells #[.int .i64 a.id, .int .i64 a.parent, .int .i64 a.seq, .int .i64 a.day, .int .i64 a.index, S a.op, u] 30) := ⟨_, rfl⟩
  have hb1 : Below w.heap.size w w1 := hw1 ▸ (Below.refl _ _).alloc (Nat.le_refl _) _
  obtain ⟨w2, hw2⟩ : ∃ w2, w2 = w1.alloc (.cells #[.int .i64 b.id, .int .i64 b.parent, .int .i64 b.seq, .int .i64 b.day, .int .i64 b.index, S b.op, v] 30) := ⟨_, rfl⟩
  have hb12 : Below w1.heap.size w1 w2 := hw2 ▸ (Below.refl _ _).alloc (Nat.le_refl _) _
  have hb2 := hb1.trans (hb12.mono hb1.size)
  obtain ⟨c0, c1, c2, c3, c4, c5, c6⟩ := snapCells (s := a) (v := u) (t := 30) (hw1 ▸ hb12)
  obtain ⟨d0, d1, d2, d3, d4, d5, d6⟩ := snapCells (w := w1) (s := b) (v := v) (t := 30) (w6 := w2) (by rw [hw2]; exact Below.refl _ _)
  have hs1 : w1.heap.size = w.heap.size + 1 := by rw [hw1]; simp
  rw [hs1] at d0 d1 d2 d3 d4 d5 d6
  have hS := sameFiles_any u v a.files b.files w2 (ha.below hb2) (hb.below hb2)
  have HSm := Lib.hid hS
  clear hS hs1
  rcases sn_ways a b with ⟨hne, hw⟩ | ⟨g1, g2, g3, g4, g5, he⟩
  · rw [hne]
    clear hne
    rcases hw with g1 | ⟨g1, g2 | ⟨g2, g3 | ⟨g3, g4 | ⟨g4, g5⟩⟩⟩⟩
    all_goals
      go_enter Tryz.func51, Tryz.ntmps51
      go_wp2_with fail
      rw [← hw1, ← hw2]
      go_wp2_with fail
      go_ret
      exact ⟨rfl, hb2⟩
  rw [he]
  clear he
  by_cases ho : a.op = b.op
  · have g6 : (a.op == b.op) = true := by simpa using ho
    rw [g6, Bool.true_and]
    clear ho
    go_enter Tryz.func51, Tryz.ntmps51
    go_wp2_with fail
    rw [← hw1, ← hw2]
    go_wp2_with fail
    refine HSm.out.mono ?_
    rintro e w3 ⟨rfl, hb3⟩
    go_wp2_with fail
    go_ret
    exact ⟨rfl, hb2.trans (hb3.mono hb2.size)⟩
  · have g6 : (a.op == b.op) = false := by simpa using ho
    rw [g6, Bool.false_and]
    clear ho
    go_enter Tryz.func51, Tryz.ntmps51
    go_wp2_with fail
    rw [← hw1, ← hw2]
    go_wp2_with fail
    go_ret
    exact ⟨rfl, hb2⟩

set_option maxRecDepth 20000 in
theorem snapped_any (E : Nat → Addr) (B : Nat) (w : World) (hE : Errs [1, 2, 4, 5, 8, 9, 10] E B w) (hT : LNum B w) (hM : LMax B w) :
    Calls Tryz.prog 48 #[] w fun e w' => e = .returned (.bool true) ∧ Below w.heap.size w w' := by
  have hBw := hE.le
  have hif := isIfaceE
  have htx : snapTextR firstSn = _ := (if_pos ((snap_iff _).2 right_first)).trans text_first
  have hck := (snap_iff _).2 right_first
  have hrd := snapRead_text right_first
  rw [text_first] at hrd
  go_enter Tryz.func48, Tryz.ntmps48
  go_wp2_with fail
  refine (snapFirst_any w).mono ?_
  rintro e w1 ⟨rfl, hb1⟩
  have hT1 := snapText_any E B firstSn (.slice none 0 0) w1 ((hE.sub (by decide)).below' hb1 hBw) (hT.below' hb1 hBw) (hM.below' hb1 hBw) (At.nil _ _ _) (fun x h => absurd h (by simp [firstSn]))
  rw [htx, hck] at hT1
  have HT1 := Lib.hid hT1; have HRd := Lib.hid hrd
  clear hT1 htx hck hrd
  go_wp2_with fail
  refine HT1.out.mono ?_
  rintro e w2 ⟨ev, rfl, hev, hb2⟩
  obtain rfl : ev = .nilIface := hev
  have hb2' := hb1.trans (hb2.mono hb1.size)
  have hR := snapRead_any E B [115, 110, 97, 112, 32, 49, 32, 48, 32, 48, 32, 48, 32, 48, 32, 115, 116, 97, 114, 116, 32, 48, 10] w2 (hE.below' hb2' hBw) (hT.below' hb2' hBw) (hM.below' hb2' hBw) (.inl (by decide)) (by decide)
  rw [HRd.out] at hR
  have HR := Lib.hid hR; clear hR HT1
  go_wp2_with fail
  refine HR.out.mono ?_
  rintro e w3 ⟨u, ev, rfl, hu, hev, hb3⟩
  obtain rfl : ev = .nilIface := hev
  have hb3' := hb2'.trans (hb3.mono hb2'.size)
  obtain ⟨au, nu, cu, rfl⟩ : ∃ au nu cu, u = .slice au nu cu := by
    obtain ⟨a', c', h', -⟩ := hu.form'
    exact ⟨_, _, _, h'⟩
  go_wp2_with fail
  go_ret
  exact ⟨rfl, hb3'.alloc hb3'.size _⟩
end Go.Proofs.YtpicofkmeijioaaGreatDoor
namespace Go.Proofs.YtpicofkmeijioaaGreatDoor
open Go.RowKit

def codedB (er : Er) (k : Int) : Bool := decide ((er.code : Int) = k) && decide (er.place = -1)
def faultedB (er : Er) (c p : Int) : Bool := decide ((er.code : Int) = c) && (decide (c = 0) || decide (er.place = p))


theorem coded2_any (E : Nat → Addr) (B : Nat) (er : Er) (v : Value) (k : Int) (w : World) (hE : Errs allE E B w) (hA : AsVar w) (hv : ErV E w v er) :
    Calls Tryz.prog 52 #[v, .int .i64 k] w fun e w' => e = .returned (.bool (codedB er k)) ∧ Below w.heap.size w w' := by
  unfold codedB
  by_cases h1 : (er.code : Int) = k
  · have g1 : ((er.code : Int) == k) = true := by simpa using h1
    have H1 := Lib.hid h1; clear h1
    by_cases h2 : er.place = -1
    · have g2 : (er.place == -1) = true := by simpa using h2
      have H2 := Lib.hid h2; clear h2
      go_enter Tryz.func52, Tryz.ntmps52
      go_wp2_with (go_at_call 103; refine (code_any E B er _ _ hE hA hv).mono ?_; rintro e w1 ⟨rfl, hb⟩)
      go_ret
      exact ⟨ret_bool (by simp [H1.out, H2.out]), hb⟩
    · have g2 : (er.place == -1) = false := by simpa using h2
      go_enter Tryz.func52, Tryz.ntmps52
      go_wp2_with (go_at_call 103; refine (code_any E B er _ _ hE hA hv).mono ?_; rintro e w1 ⟨rfl, hb⟩)
      go_ret
      exact ⟨ret_bool (by simp [H1.out, h2]), hb⟩
  · have g1 : ((er.code : Int) == k) = false := by simpa using h1
    go_enter Tryz.func52, Tryz.ntmps52
    go_wp2_with (go_at_call 103; refine (code_any E B er _ _ hE hA hv).mono ?_; rintro e w1 ⟨rfl, hb⟩)
    go_ret
    exact ⟨ret_bool (by simp [h1]), hb⟩


end Go.Proofs.YtpicofkmeijioaaGreatDoor
namespace Go.Proofs.YtpicofkmeijioaaGreatDoor
open Go.RowKit

theorem snapText_at (s : Sn) : snapText s = snapHead s (sumOf (listText s.files)) ++ 10 :: listText s.files := rfl

set_option maxHeartbeats 2000000 in
set_option maxRecDepth 20000 in
theorem snapBack_any (E : Nat → Addr) (B : Nat) (v : Value) (s : Sn) (n : Int) (c : UInt8) (w : World) (hE : Errs allE E B w) (hA : AsVar w) (hgB : 12 < B) (hT : LNum B w) (hM : LMax B w) (hl : FilesAt w v s.files) (hn1 : n ≤ 9223372036854775807) :
    Calls Tryz.prog 7 #[snapV s v, .int .i64 n, .int .u8 c.toNat] w fun e w' => e = .returned (.bool true) ∧ Below w.heap.size w w' := by
  have hBw := hE.le
  have hif := isIfaceE
  obtain ⟨av, nv, cv, rfl⟩ : ∃ av nv cv, v = .slice av nv cv := by
    obtain ⟨a', c', h', -⟩ := hl.form'
    exact ⟨_, _, _, h'⟩
  have hb0 : Below w.heap.size w (w.alloc (.cells #[.int .i64 s.id, .int .i64 s.parent, .int .i64 s.seq, .int .i64 s.day, .int .i64 s.index, S s.op, .slice av nv cv] 30)) := (Below.refl _ _).alloc (Nat.le_refl _) _
  have CS := Lib.hid (fun w6 (h : Below (w.alloc (.cells #[.int .i64 s.id, .int .i64 s.parent, .int .i64 s.seq, .int .i64 s.day, .int .i64 s.index, S s.op, .slice av nv cv] 30)).heap.size (w.alloc (.cells #[.int .i64 s.id, .int .i64 s.parent, .int .i64 s.seq, .int .i64 s.day, .int .i64 s.index, S s.op, .slice av nv cv] 30)) w6) => snapCells h)
  go_enter Tryz.func7, Tryz.ntmps7
  go_wp2_with fail
  generalize w.alloc (.cells #[.int .i64 s.id, .int .i64 s.parent, .int .i64 s.seq, .int .i64 s.day, .int .i64 s.index, S s.op, .slice av nv cv] 30) = w0 at *
  have X := Lib.hid (fun w6 (h : Below w0.heap.size w0 w6) => (⟨hE.below' (hb0.trans (h.mono hb0.size)) hBw, hA.below ((hb0.trans (h.mono hb0.size)).mono hBw) hgB, hT.below' (hb0.trans (h.mono hb0.size)) hBw, hM.below' (hb0.trans (h.mono hb0.size)) hBw, hl.below (hb0.trans (h.mono hb0.size)), hb0.trans (h.mono hb0.size)⟩ : Errs allE E B w6 ∧ AsVar w6 ∧ LNum B w6 ∧ LMax B w6 ∧ FilesAt w6 (.slice av nv cv) s.files ∧ Below w.heap.size w w6))
  obtain ⟨x1, x2, x3, x4, x5, x6⟩ := X.out w0 (Below.refl _ _)
  refine (snapped_any E B w0 (x1.sub (by decide)) x3 x4).mono ?_
  rintro e w1 ⟨rfl, hb1⟩
  clear x1 x2 x3 x4 x5 x6
  obtain ⟨x1, x2, x3, x4, x5, x6⟩ := X.out w1 hb1
  obtain ⟨c0, c1, c2, c3, c4, c5, c6⟩ := CS.out _ hb1
  have hlong := longSnap_any s (.slice av nv cv) w1 x5
  have HLong := Lib.hid hlong; clear hlong
  go_wp2_with fail
  refine HLong.out.mono ?_
  rintro e w2 ⟨he, hb2⟩
  have hb2' := hb1.trans (hb2.mono hb1.size)
  clear x1 x2 x3 x4 x5 x6 c0 c1 c2 c3 c4 c5 c6 HLong
  obtain ⟨x1, x2, x3, x4, x5, x6⟩ := X.out w2 hb2'
  rcases he with rfl | ⟨rfl, hop, hlen, hsh⟩
  · go_wp2_with fail
    go_ret
    exact ⟨rfl, x6⟩
  by_cases hn0 : n < 0
  · go_wp2_with fail
    go_ret
    exact ⟨rfl, x6⟩
  have hn0' : 0 ≤ n := by omega
  obtain ⟨m, rfl⟩ : ∃ m : Nat, n = m := ⟨n.toNat, by omega⟩
  have g0 : decide ((m : Int) < 0) = false := by simp
  clear hn0 hn0'
  have hsm := fun f hf => (hsh f hf).mid
  have HS := Lib.hid hsm; clear hsh hsm
  obtain ⟨c0, c1, c2, c3, c4, c5, c6⟩ := CS.out _ hb2'
  go_wp2_with fail
  refine (ownSnap_any s _ _ x5 (by omega)).mono ?_
  rintro e w3 ⟨u, rfl, hu, hb3⟩
  have hb3' := hb2'.trans (hb3.mono hb2'.size)
  clear x1 x2 x3 x4 x5 x6 c0 c1 c2 c3 c4 c5 c6
  obtain ⟨x1, x2, x3, x4, x5, x6⟩ := X.out w3 hb3'
  have hT4 := snapText_any E B s u w3 (x1.sub (by decide)) x3 x4 hu HS.out
  have HT4 := Lib.hid hT4; clear hT4
  go_wp2_with fail
  refine HT4.out.mono ?_
  rintro e w4 ⟨ev, rfl, hev, hb4⟩
  have hb4' := hb3'.trans (hb4.mono hb3'.size)
  clear x1 x2 x3 x4 x5 x6 HT4
  obtain ⟨x1, x2, x3, x4, x5, x6⟩ := X.out w4 hb4'
  by_cases hck : snapCheck s = .nil
  case neg =>
    have ht : snapTextR s = [] := if_neg hck
    rw [ht]
    obtain ⟨u, x, rfl⟩ := hev.iface hck
    clear hev hck ht
    go_wp2_with fail
    go_ret
    exact ⟨rfl, x6⟩
  rw [hck] at hev
  obtain rfl : ev = .nilIface := hev
  have hr := (snap_iff s).1 hck
  have ht : snapTextR s = snapText s := if_pos hck
  have htl := snapText_len hr
  have hrt := snapRead_text hr
  rw [ht]
  have hRd := snapRead_any E B (snapText s) w4 (x1.sub (by decide)) x3 x4 (.inl (by omega)) (by omega)
  rw [hrt] at hRd
  have HRd := Lib.hid hRd; have HR := Lib.hid hr
  have hTx := snapText_at s
  have h10 := head_none hr.op (sumOf (listText s.files))
  have hone := fun i x c' (hx : (listText s.files)[i]? = some x) (hne : x ≠ c') => snapRead_one hr hx hne
  generalize snapHead s (sumOf (listText s.files)) = hd at *
  generalize listText s.files = body at *
  have HTx := Lib.hid hTx; have H10 := Lib.hid h10; have HOne := Lib.hid hone
  clear hRd hrt ht hck hr hTx h10 hone
  have htl2 : (snapText s).length = hd.length + 1 + body.length := by rw [HTx.out, List.length_append, List.length_cons]; omega
  generalize snapText s = T at *
  clear x1 x2 x3 x4 x5 x6
  go_wp2_with fail
  refine HRd.out.mono ?_
  rintro e w5 ⟨u5, ev, rfl, hu5, hev, hb5⟩
  obtain rfl : ev = .nilIface := hev
  have hb5' := hb4'.trans (hb5.mono hb4'.size)
  clear HRd
  obtain ⟨a5, n5, cc5, rfl⟩ : ∃ a5 n5 cc5, u5 = .slice a5 n5 cc5 := by
    obtain ⟨a', c', h', -⟩ := hu5.form'
    exact ⟨_, _, _, h'⟩
  have hb6 : Below w5.heap.size w5 (w5.alloc (.cells #[.int .i64 s.id, .int .i64 s.parent, .int .i64 s.seq, .int .i64 s.day, .int .i64 s.index, S s.op, .slice a5 n5 cc5] 30)) := (Below.refl _ _).alloc (Nat.le_refl _) _
  have hb6' := hb5'.trans (hb6.mono hb5'.size)
  obtain ⟨c0, c1, c2, c3, c4, c5, c6⟩ := CS.out _ hb6'
  obtain ⟨d0, d1, d2, d3, d4, d5, d6⟩ := snapCells (s := s) (v := .slice a5 n5 cc5) (t := 30) (Below.refl (w5.alloc (.cells #[.int .i64 s.id, .int .i64 s.parent, .int .i64 s.seq, .int .i64 s.day, .int .i64 s.index, S s.op, .slice a5 n5 cc5] 30)).heap.size (w5.alloc (.cells #[.int .i64 s.id, .int .i64 s.parent, .int .i64 s.seq, .int .i64 s.day, .int .i64 s.index, S s.op, .slice a5 n5 cc5] 30)))
  obtain ⟨x1, x2, x3, x4, x5, x6⟩ := X.out _ hb6'
  have hSs := sameSnap_any s s _ _ (w5.alloc (.cells #[.int .i64 s.id, .int .i64 s.parent, .int .i64 s.seq, .int .i64 s.day, .int .i64 s.index, S s.op, .slice a5 n5 cc5] 30)) (hu5.below hb6) x5
  rw [decide_eq_true rfl] at hSs
  have HSs := Lib.hid hSs; clear hSs hu5
  clear x1 x2 x3 x4 x5 x6
  go_wp2_with fail
  generalize (w5.alloc (.cells #[.int .i64 s.id, .int .i64 s.parent, .int .i64 s.seq, .int .i64 s.day, .int .i64 s.index, S s.op, .slice a5 n5 cc5] 30)) = w6 at *
  refine HSs.out.mono ?_
  rintro e w7 ⟨rfl, hb7⟩
  have hb7' := hb6'.trans (hb7.mono hb6'.size)
  have hb70 := hb0.trans (hb7'.mono hb0.size)
  clear c0 c1 c2 c3 c4 c5 c6 d0 d1 d2 d3 d4 d5 d6 HSs
  have hTk : ∀ k (hk : k < T.length), (k < hd.length → T[k] ≠ 10) ∧ (k = hd.length → T[k] = 10) := fun k hk => by
    have hT' := HTx.out
    subst hT'
    constructor
    · intro h he
      rw [List.getElem_append_left h] at he
      exact H10.out (he ▸ List.getElem_mem h)
    · rintro rfl
      rw [List.getElem_append_right (Nat.le_refl _)]
      simp
  have HTk := Lib.hid hTk; clear hTk
  go_wp2_with fail
  go_loop [12] (fun i => ∃ k : Nat, k ≤ hd.length ∧ i = .int .i64 k) (fun i => hd.length - (intOf i).toNat)
  case atStart => exact ⟨0, by omega, rfl⟩
  case round =>
    obtain ⟨k, hk, rfl⟩ := hrel
    have hkT : k < T.length := by omega
    have hkT' : (k : Int) < (T.length : Int) := by omega
    have hbig : (T.length : Int) ≤ 9300 := by omega
    obtain ⟨hk1, hk2⟩ := HTk.out k hkT
    have hbk : (({ data := T.toArray } : ByteArray)[k]'(by simpa [ByteArray.size] using hkT)) = T[k] := rfl
    rcases Nat.lt_or_ge k hd.length with hlt | hge
    · have hne : ((T[k].toNat : Int) != 10) = true := by
        have := hk1 hlt
        simp only [bne_iff_ne, ne_eq]
        intro h
        exact this (UInt8.toNat_inj.1 (by have : T[k].toNat = 10 := by omega
                                          rw [this]; rfl))
      clear hk1 hk2 hn1
      go_wp2_with fail
      refine ⟨⟨k + 1, by omega, by go_num⟩, ?_⟩
      simp [intOf]; omega
    · obtain rfl : k = hd.length := by omega
      have heq : ((T[hd.length].toNat : Int) != 10) = false := by rw [hk2 rfl]; decide
      clear hk1 hk2 hk
      by_cases hm : m < body.length
      case neg =>
        have g1 : (T.length : Int) - ((hd.length : Int) + 1) ≤ (m : Int) := by omega
        go_wp2_with fail
        go_ret
        exact ⟨rfl, hb70⟩
      have g1 : decide ((T.length : Int) - ((hd.length : Int) + 1) ≤ (m : Int)) = false := by simp; omega
      have hp : hd.length + 1 + m < T.length := by omega
      have hp0 : (0 : Int) ≤ (hd.length : Int) + 1 + (m : Int) := by omega
      have hp1 : (hd.length : Int) + 1 + (m : Int) < (T.length : Int) := by omega
      have hpn : ((hd.length : Int) + 1 + (m : Int)).toNat = hd.length + 1 + m := by omega
      obtain ⟨p, hpp⟩ : ∃ p, hd.length + 1 + m = p := ⟨_, rfl⟩
      rw [hpp] at hp hpn
      have hbp : (({ data := T.toArray } : ByteArray)[p]'(by simpa [ByteArray.size] using hp)) = T[p] := rfl
      have hset : T.set p c = hd ++ 10 :: body.set m c := by
        rw [HTx.out, ← hpp, List.set_append, if_neg (by omega), show hd.length + 1 + m - hd.length = m + 1 by omega]; rfl
      have hx : body[m]? = some T[p] := by
        have h1 : T[p]? = some T[p] := List.getElem?_eq_getElem hp
        have h2 : T[p]? = (hd ++ 10 :: body)[p]? := by rw [← HTx.out]
        rw [h2, List.getElem?_append_right (by omega), show p - hd.length = m + 1 by omega] at h1
        simpa using h1
      have HSet := Lib.hid hset; have HXm := Lib.hid hx; have HPP := Lib.hid hpp
      clear hset hx hpp
      by_cases hc : T[p] = c
      · have g2 : ((T[p].toNat : Int) == (c.toNat : Int)) = true := by rw [hc]; simp
        clear hc
        go_wp2_with fail
        go_ret
        exact ⟨rfl, hb70⟩
      have g2 : ((T[p].toNat : Int) == (c.toNat : Int)) = false := by
        simp only [beq_eq_false_iff_ne, ne_eq]
        intro h
        exact hc (UInt8.toNat_inj.1 (by omega))
      have hcv : ∀ W, (convert 9 85 (.string ⟨T.toArray⟩)).run Tryz.prog W = .ok (.slice (some ⟨W.heap.size, 0, none⟩) T.length (grownCap W T.length 0 5)) (Lib.bytesWorld W 5 ⟨T.toArray⟩) := fun W =>
        Lib.run_convert_string_bytes W 9 85 5 ⟨T.toArray⟩ Tryz.underlying9 Tryz.underlying85 Tryz.underlying5
      have hb8 : Below w7.heap.size w7 (Lib.bytesWorld w7 5 ⟨T.toArray⟩) := Bbytes _ _ _
      have hcell := fun j (hj : j < T.length) => Lib.bytesWorld_cell w7 5 ⟨T.toArray⟩ j (by simpa [ByteArray.size] using hj)
      have hfr : ∀ j, j < T.length → (Lib.bytesWorld w7 5 ⟨T.toArray⟩).frozen? ⟨w7.heap.size, j, none⟩ = false := fun j hj => by
        have h1 := Lib.bytesWorld_at_new w7 5 ⟨T.toArray⟩
        have h2 := cell_of_row _ w7.heap.size j _ _ _ h1
        rw [hcell j hj] at h2
        have h3 := (Array.getElem?_eq_some_iff.1 h2.symm).1
        simp only [World.frozen?, h1]
        simp
        omega
      have cp := hcell p hp
      have fp := hfr p hp
      rw [show (({ data := T.toArray } : ByteArray).data.toList.getD p 0) = T[p] by simp [List.getD, hp]] at cp
      have HCell := Lib.hid hcell
      clear hcell hfr htl2
      go_wp2_with fail
      generalize grownCap w7 T.length 0 5 = cap at *
      generalize Lib.bytesWorld w7 5 ⟨T.toArray⟩ = w8 at *
      have hback : (convert 85 9 (.slice (some ⟨w7.heap.size, 0, none⟩) T.length cap)).run Tryz.prog (w8.setCell ⟨w7.heap.size, p, none⟩ (.int .u8 c.toNat)) = .ok (.string ⟨(T.set p c).toArray⟩) (w8.setCell ⟨w7.heap.size, p, none⟩ (.int .u8 c.toNat)) := by
        have h := run_convert_bytes_back (P := Tryz.prog) (w8.setCell ⟨w7.heap.size, p, none⟩ (.int .u8 c.toNat)) 85 9 5 ⟨w7.heap.size, 0, none⟩ cap (T.set p c) Tryz.underlying85 Tryz.underlying5 Tryz.underlying9 (fun j hj => by
          rw [List.length_set] at hj
          rw [Lib.add_plain, Nat.zero_add, List.getElem_set]
          by_cases he : p = j
          · subst he
            rw [if_pos rfl]
            exact World.cell?_setCell_same _ _ _ cp
          · rw [if_neg he, World.cell?_setCell_other _ _ _ _ (fun e => he (by cases e; rfl)), HCell.out j hj]
            simp [List.getD, hj])
        rw [List.length_set] at h
        exact h
      go_wp2_with fail
      have hb9 : Below w7.heap.size w7 (w8.setCell ⟨w7.heap.size, p, none⟩ (.int .u8 c.toNat)) := hb8.setCell (p := ⟨w7.heap.size, p, none⟩) (Nat.le_refl _) _
      have hb9' := hb7'.trans (hb9.mono hb7'.size)
      obtain ⟨x1, x2, x3, x4, x5, x6⟩ := X.out _ hb9'
      have hRd := snapRead_any E B (T.set p c) (w8.setCell ⟨w7.heap.size, p, none⟩ (.int .u8 c.toNat)) (x1.sub (by decide)) x3 x4 (.inl (by rw [List.length_set]; omega)) (by rw [List.length_set]; omega)
      rw [HSet.out, HOne.out m T[p] c HXm.out hc, ← HSet.out] at hRd
      have HRd := Lib.hid hRd
      clear hRd x1 x2 x3 x4 x5 x6 hc
      generalize T.set p c = T' at *
      generalize w8.setCell ⟨w7.heap.size, p, none⟩ (.int .u8 c.toNat) = w9 at *
      go_wp2_with fail
      refine HRd.out.mono ?_
      rintro e w10 ⟨u10, ev, rfl, hu10, hev, hb10⟩
      have hb10' := hb9'.trans (hb10.mono hb9'.size)
      obtain ⟨x1, x2, x3, x4, x5, x6⟩ := X.out _ hb10'
      have hC := coded2_any E B (.bare 10) ev 10 w10 x1 x2 hev
      rw [show codedB (.bare 10) 10 = true from by decide] at hC
      have HC := Lib.hid hC; have HX6 := Lib.hid x6
      clear hC x1 x2 x3 x4 x5 x6 hu10 hev
      go_wp2_with fail
      refine HC.out.mono ?_
      rintro e w11 ⟨rfl, hb11⟩
      go_wp2_with fail
      go_ret
      exact ⟨rfl, HX6.out.trans (hb11.mono HX6.out.size)⟩
end Go.Proofs.YtpicofkmeijioaaGreatDoor
namespace Go.Proofs.YtpicofkmeijioaaGreatDoor
open Go.RowKit Go.ChangeShapes Go.WideShapes

def errName : Nat → String
  | 1 => "deedbox/api.ErrText" | 2 => "deedbox/api.ErrBound" | 3 => "deedbox/api.ErrShape" | 4 => "deedbox/api.ErrKind" | 5 => "deedbox/api.ErrName" | 6 => "deedbox/api.ErrNone"
  | 7 => "deedbox/api.ErrExist" | 8 => "deedbox/api.ErrFull" | 9 => "deedbox/api.ErrOrder" | 10 => "deedbox/api.ErrSum" | 11 => "deedbox/api.ErrStale" | _ => "deedbox/api.ErrOff"
theorem errName_inj : ∀ c ∈ allE, ∀ d ∈ allE, errName c = errName d → c = d := by decide

theorem laidVars_get {P : Program} {w : World} : ∀ {L : List (String × DataW Unit)} {ps : List MemPlace} {i : Nat} {n : String} {d : DataW Unit}, DataW.LaidVars P w L ps → L[i]? = some (n, d) →
    ∃ g t cs fuel p, P.globalNamed n = some g ∧ (P.globals[g]?).map (·.type) = some t ∧ w.var? P n = some cs ∧ DataW.trod (fun _ => ()) P w 0 (fun _ => true) false fuel t cs.toList = some (d, p) ∧ ∀ x ∈ MemPlace.row ⟨g, 0, none⟩ cs.size ++ p, x ∈ ps
  | [], _, i, n, d, _, hi => by simp at hi
  | (n0, d0) :: r, ps, 0, n, d, h, hi => by
    obtain ⟨g, t, cs, fuel, p, q, h1, h2, h3, h4, _, rfl⟩ := h
    simp only [List.getElem?_cons_zero, Option.some.injEq, Prod.mk.injEq] at hi
    obtain ⟨rfl, rfl⟩ := hi
    exact ⟨g, t, cs, fuel, p, h1, h2, h3, h4, fun x hx => List.mem_append_left _ hx⟩
  | (n0, d0) :: r, ps, i + 1, n, d, h, hi => by
    obtain ⟨g, t, cs, fuel, p, q, _, _, _, _, h5, rfl⟩ := h
    obtain ⟨g', t', cs', fuel', p', h1, h2, h3, h4, h6⟩ := laidVars_get h5 (by simpa using hi)
    exact ⟨g', t', cs', fuel', p', h1, h2, h3, h4, fun x hx => List.mem_append_right _ (h6 x hx)⟩

theorem laidVars_apart {P : Program} {w : World} : ∀ {L : List (String × DataW Unit)} {ps : List MemPlace} {i j : Nat} {n m : String} {d e : DataW Unit}, DataW.LaidVars P w L ps → ps.Nodup → i < j → L[i]? = some (n, d) → L[j]? = some (m, e) →
    ∃ (g : Nat) (t : TypeId) (cs : Array Value) (fuel : Nat) (p : List MemPlace) (g' : Nat) (t' : TypeId) (cs' : Array Value) (fuel' : Nat) (p' : List MemPlace), P.globalNamed n = some g ∧ (P.globals[g]?).map (·.type) = some t ∧ w.var? P n = some cs ∧ DataW.trod (fun _ => ()) P w 0 (fun _ => true) false fuel t cs.toList = some (d, p) ∧
      P.globalNamed m = some g' ∧ (P.globals[g']?).map (·.type) = some t' ∧ w.var? P m = some cs' ∧ DataW.trod (fun _ => ()) P w 0 (fun _ => true) false fuel' t' cs'.toList = some (e, p') ∧ ∀ x ∈ p, x ∉ p'
  | [], _, i, j, n, m, d, e, _, _, _, hi, _ => by simp at hi
  | (n0, d0) :: r, ps, 0, j + 1, n, m, d, e, h, hnd, _, hi, hj => by
    obtain ⟨g, t, cs, fuel, p, q, h1, h2, h3, h4, h5, rfl⟩ := h
    simp only [List.getElem?_cons_zero, Option.some.injEq, Prod.mk.injEq] at hi
    obtain ⟨rfl, rfl⟩ := hi
    obtain ⟨g', t', cs', fuel', p', h1', h2', h3', h4', h6⟩ := laidVars_get h5 (by simpa using hj)
    refine ⟨g, t, cs, fuel, p, g', t', cs', fuel', p', h1, h2, h3, h4, h1', h2', h3', h4', fun x hx hx' => ?_⟩
    have hd := (List.nodup_append.1 hnd).2.2
    exact hd x (List.mem_append_right _ hx) x (h6 x (List.mem_append_right _ hx')) rfl
  | (n0, d0) :: r, ps, i + 1, j + 1, n, m, d, e, h, hnd, hij, hi, hj => by
    obtain ⟨g, t, cs, fuel, p, q, _, _, _, _, h5, rfl⟩ := h
    exact laidVars_apart (i := i) (j := j) h5 (List.nodup_append.1 hnd).2.1 (by omega) (by simpa using hi) (by simpa using hj)
  | _ :: _, _, _, 0, _, _, _, _, _, _, hij, _, _ => by omega

/-- Behind what address a variable's error lies. -/
noncomputable def addrOf (W : World) (c : Nat) : Addr :=
  match W.var? Tryz.prog (errName c) with
  | some #[.iface _ (.pointer (some a))] => a
  | _ => ⟨0, 0, none⟩

theorem gn1 : Tryz.prog.globalNamed (errName 1) = some (errG 1) := by kernel_rfl
theorem gn2 : Tryz.prog.globalNamed (errName 2) = some (errG 2) := by kernel_rfl
theorem gn3 : Tryz.prog.globalNamed (errName 3) = some (errG 3) := by kernel_rfl
theorem gn4 : Tryz.prog.globalNamed (errName 4) = some (errG 4) := by kernel_rfl
theorem gn5 : Tryz.prog.globalNamed (errName 5) = some (errG 5) := by kernel_rfl
theorem gn6 : Tryz.prog.globalNamed (errName 6) = some (errG 6) := by kernel_rfl
theorem gn7 : Tryz.prog.globalNamed (errName 7) = some (errG 7) := by kernel_rfl
theorem gn8 : Tryz.prog.globalNamed (errName 8) = some (errG 8) := by kernel_rfl
theorem gn9 : Tryz.prog.globalNamed (errName 9) = some (errG 9) := by kernel_rfl
theorem gn10 : Tryz.prog.globalNamed (errName 10) = some (errG 10) := by kernel_rfl
theorem gn11 : Tryz.prog.globalNamed (errName 11) = some (errG 11) := by kernel_rfl
theorem gn12 : Tryz.prog.globalNamed (errName 12) = some (errG 12) := by kernel_rfl
theorem gt1 : (Tryz.prog.globals[errG 1]?).map (·.type) = some 59 := by kernel_rfl
theorem gt2 : (Tryz.prog.globals[errG 2]?).map (·.type) = some 59 := by kernel_rfl
theorem gt3 : (Tryz.prog.globals[errG 3]?).map (·.type) = some 59 := by kernel_rfl
theorem gt4 : (Tryz.prog.globals[errG 4]?).map (·.type) = some 59 := by kernel_rfl
theorem gt5 : (Tryz.prog.globals[errG 5]?).map (·.type) = some 59 := by kernel_rfl
theorem gt6 : (Tryz.prog.globals[errG 6]?).map (·.type) = some 59 := by kernel_rfl
theorem gt7 : (Tryz.prog.globals[errG 7]?).map (·.type) = some 59 := by kernel_rfl
theorem gt8 : (Tryz.prog.globals[errG 8]?).map (·.type) = some 59 := by kernel_rfl
theorem gt9 : (Tryz.prog.globals[errG 9]?).map (·.type) = some 59 := by kernel_rfl
theorem gt10 : (Tryz.prog.globals[errG 10]?).map (·.type) = some 59 := by kernel_rfl
theorem gt11 : (Tryz.prog.globals[errG 11]?).map (·.type) = some 59 := by kernel_rfl
theorem gt12 : (Tryz.prog.globals[errG 12]?).map (·.type) = some 59 := by kernel_rfl
theorem starE : "*" ++ "errors.errorString" = "*errors.errorString" := by decide
theorem rowE (u : TypeId) (h : Tryz.prog.typeName? 3 u = some "*errors.errorString") : u = 290 :=
  typeName_ptr_named (nm := "errors.errorString") (by rw [starE]; kernel_rfl) (by kernel_rfl) (by decide) u (by rw [starE]; exact h)
theorem cellsErrStr : Tryz.prog.cellsOf 292 = 1 := by kernel_rfl
theorem cellsStr : Tryz.prog.cellsOf 9 = 1 := by kernel_rfl

set_option maxRecDepth 100000 in
/-- WHAT THE CONDITION GIVES THE WALKS: the sentinels of the numbers D, where the list L bears each at the place idx says. -/
theorem errs_of_laid {L : List (String × DataW Unit)} {W : World} (h : laidMet Tryz.prog L W) (D : List Nat) (idx : Nat → Nat) (hD : ∀ c ∈ D, c ∈ allE)
    (hg : ∀ c ∈ D, Tryz.prog.globalNamed (errName c) = some (errG c)) (ht : ∀ c ∈ D, (Tryz.prog.globals[errG c]?).map (·.type) = some 59)
    (hL : ∀ c ∈ D, ∃ text, L[idx c]? = some (errName c, .iface "*errors.errorString" (.ptr (.agg [.lit (.string text)])))) :
    Errs D (addrOf W) W.heap.size W := by
  obtain ⟨ps, hv, hnd, hrows⟩ := h
  have key : ∀ c ∈ D, ∀ {g t cs fuel p text}, Tryz.prog.globalNamed (errName c) = some g → (Tryz.prog.globals[g]?).map (·.type) = some t → W.var? Tryz.prog (errName c) = some cs →
      DataW.trod (fun _ => ()) Tryz.prog W 0 (fun _ => true) false fuel t cs.toList = some (.iface "*errors.errorString" (.ptr (.agg [.lit (.string text)])), p) → (∀ x ∈ MemPlace.row ⟨g, 0, none⟩ cs.size, x ∈ ps) →
      W.cell? ⟨errG c, 0, none⟩ = some (.iface 290 (.pointer (some (addrOf W c)))) ∧ (∃ s, W.cell? (addrOf W c) = some (.string s)) ∧ p = MemPlace.row (addrOf W c) 1 := by
    intro c hc g t cs fuel p text h1 h2 h3 h4 h5
    obtain rfl := Option.some.inj ((hg c hc).symm.trans h1)
    obtain rfl := Option.some.inj ((ht c hc).symm.trans h2)
    obtain ⟨l0⟩ := cs
    have ok0 : ∀ u v, l0 = [.iface u v] → Value.okWide Tryz.prog W .any 0 u v := fun u v e => by
      subst e
      exact (hrows (errG c) 0 (h5 _ (by simp [MemPlace.row]))).2 u v (by simpa using World.var?_cell h1 h3 0)
    obtain ⟨a0, s0, rfl, hc0, hs0, hz0, rfl⟩ := errorString_of_trod Tryz.underlying59 rowE Tryz.underlying290 Tryz.underlying292 rfl rfl Tryz.underlying9 cellsErrStr cellsStr h4 ok0
    have ea : addrOf W c = a0 := by
      unfold addrOf
      rw [h3]
      exact rfl
    refine ⟨?_, ⟨s0, by rw [ea]; exact hc0⟩, by rw [ea]⟩
    rw [ea]
    simpa using World.var?_cell h1 h3 0
  have get : ∀ c ∈ D, W.cell? ⟨errG c, 0, none⟩ = some (.iface 290 (.pointer (some (addrOf W c)))) ∧ (∃ s, W.cell? (addrOf W c) = some (.string s)) ∧ MemPlace.cell (addrOf W c).block (addrOf W c).off ∈ ps := by
    intro c hc
    obtain ⟨text, hl⟩ := hL c hc
    obtain ⟨g, t, cs, fuel, p, h1, h2, h3, h4, h5⟩ := laidVars_get hv hl
    obtain ⟨k1, k2, rfl⟩ := key c hc h1 h2 h3 h4 (fun x hx => h5 x (List.mem_append_left _ hx))
    exact ⟨k1, k2, h5 _ (List.mem_append_right _ (by simp [MemPlace.row]))⟩
  have apart : ∀ c ∈ D, ∀ d ∈ D, idx c < idx d → addrOf W c ≠ addrOf W d := by
    intro c hc d hd hlt he
    obtain ⟨t1, hl1⟩ := hL c hc
    obtain ⟨t2, hl2⟩ := hL d hd
    obtain ⟨g, t, cs, fuel, p, g', t', cs', fuel', p', a1, a2, a3, a4, b1, b2, b3, b4, hap⟩ := laidVars_apart hv hnd hlt hl1 hl2
    obtain ⟨g0, t0, cs0, f0, p0, u1, u2, u3, u4, u5⟩ := laidVars_get hv hl1
    obtain ⟨g0', t0', cs0', f0', p0', v1, v2, v3, v4, v5⟩ := laidVars_get hv hl2
    obtain rfl := Option.some.inj (a1.symm.trans u1)
    obtain rfl := Option.some.inj (a3.symm.trans u3)
    obtain rfl := Option.some.inj (b1.symm.trans v1)
    obtain rfl := Option.some.inj (b3.symm.trans v3)
    obtain ⟨_, _, rfl⟩ := key c hc a1 a2 a3 a4 (fun x hx => u5 x (List.mem_append_left _ hx))
    obtain ⟨_, _, rfl⟩ := key d hd b1 b2 b3 b4 (fun x hx => v5 x (List.mem_append_left _ hx))
    rw [he] at hap
    exact hap (.cell (addrOf W d).block (addrOf W d).off) (by simp [MemPlace.row]) (by simp [MemPlace.row])
  refine ⟨fun c hc => (get c hc).1, fun c hc => (hrows _ _ (get c hc).2.2).1, fun c hc => ?_, fun c hc d hd he => ?_, Nat.le_refl _⟩
  · obtain ⟨k1, ⟨s, k2⟩, _⟩ := get c hc
    exact ⟨World.block_lt_of_cell? W _ k2, World.block_lt_of_cell? W ⟨errG c, 0, none⟩ k1⟩
  · rcases Nat.lt_trichotomy (idx c) (idx d) with h | h | h
    · exact absurd he (apart c hc d hd h)
    · obtain ⟨t1, hl1⟩ := hL c hc
      obtain ⟨t2, hl2⟩ := hL d hd
      rw [h, hl2] at hl1
      have : errName d = errName c := by simpa using congrArg (fun x => x.1) (Option.some.inj hl1)
      exact errName_inj c (hD c hc) d (hD d hd) this.symm
    · exact absurd he.symm (apart d hd c hc h)

theorem etG : Tryz.prog.globalNamed "errors.errorType" = some 12 := by kernel_rfl
theorem rtT : (Tryz.prog.cutTypes.find? (·.1 == "internal/reflectlite.rtype")).map (·.2) = some 246 := by kernel_rfl
theorem oneRowE : ((List.range 319).filter fun t => Tryz.prog.rowNamed t [101, 114, 114, 111, 114]) = [59] := by kernel_rfl
theorem typesSize : Tryz.prog.types.size = 319 := by kernel_rfl
theorem asVar_of_laid {L : List (String × DataW Unit)} {W : World} (h : handlesMet Tryz.prog L W) (hm : ("errors.errorType", .iface "internal/reflectlite.rtype" (.agg [.ptr (.lit (.string [101, 114, 114, 111, 114]))])) ∈ L) : AsVar W := by
  obtain ⟨name, u, ty, e1, e2, e3, e4, e5⟩ := h _ hm
  have en : name = [101, 114, 114, 111, 114] := (Option.some.inj e1).symm
  subst en
  obtain rfl := Option.some.inj (rtT.symm.trans e2)
  have hm : ty ∈ (List.range 319).filter fun t => Tryz.prog.rowNamed t [101, 114, 114, 111, 114] := List.mem_filter.2 ⟨List.mem_range.2 (by rw [← typesSize]; exact e3), e4⟩
  rw [oneRowE] at hm
  obtain rfl := List.mem_singleton.1 hm
  have hh : typeHandle Tryz.prog 59 = .pointer (some ⟨21, 59, none⟩) := by kernel_rfl
  rw [hh] at e5
  have := World.var?_cell etG e5 0
  unfold AsVar
  simpa using this
end Go.Proofs.YtpicofkmeijioaaGreatDoor
