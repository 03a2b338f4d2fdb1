/- list.Add, list.Remove. deedboxlaw2.one, listed. A slice that the call owns, and a store into another block. Of no program. snap.First; the statements' own helpers on snaps: OwnSnap, LongSnap, SameSnap, snapped. Slices of snaps in memory. The reference's numbers in plain words: they are the program's. Of no program. deedboxref1: Byte, below, Decimal: the numeral. -/
import Derived.Test.YtikboodjfanjkaaGreatDoorBx8
import Derived.Test.YtikboodjfanjkaaGreatDoorBx7
import Derived.Test.YtikboodjfanjkaaGreatDoorBx2
import Derived.Test.YtikboodjfanjkaaGreatDoorBx4
import Derived.Test.YtikboodjfanjkaaGreatDoorBx3
import Derived.Laws.BytesArg
import Derived.Lib.ItoaLen
import Derived.Outline
namespace Go.Proofs.YtikboodjfanjkaaGreatDoor
open Go.RowKit

theorem addE_bad {l : List Fl} {f : Fl} (h : listCheck l ≠ .nil) : addE l f = listCheck l := if_pos h
theorem addE_file {l : List Fl} {f : Fl} (h : listCheck l = .nil) (h1 : checkF f ≠ 0) : addE l f = .bare (checkF f) := by unfold addE; rw [if_neg (by simp [h]), if_pos h1]
theorem addE_there {l : List Fl} {f : Fl} (h : listCheck l = .nil) (h1 : checkF f = 0) (h2 : thereF l f) : addE l f = .bare 7 := by unfold addE; rw [if_neg (by simp [h]), if_neg (by simp [h1]), if_pos h2]
theorem addE_full {l : List Fl} {f : Fl} (h : listCheck l = .nil) (h1 : checkF f = 0) (h2 : ¬ thereF l f) (h3 : 60 ≤ l.length) : addE l f = .bare 8 := by unfold addE; rw [if_neg (by simp [h]), if_neg (by simp [h1]), if_neg h2, if_pos h3]
theorem addE_nil {l : List Fl} {f : Fl} (h : listCheck l = .nil) (h1 : checkF f = 0) (h2 : ¬ thereF l f) (h3 : ¬ 60 ≤ l.length) : addE l f = .nil := by unfold addE; rw [if_neg (by simp [h]), if_neg (by simp [h1]), if_neg h2, if_neg h3]
theorem addL_bad {l : List Fl} {f : Fl} (h : addE l f ≠ .nil) : addL l f = [] := if_neg h

set_option maxHeartbeats 1000000 in
set_option maxRecDepth 20000 in
theorem listAdd_any (E : Nat → Addr) (B : Nat) (v : Value) (l : List Fl) (f : Fl) (w : World) (hE : Errs [2, 4, 5, 7, 8, 9] E B w) (hT : LNum B w) (hM : LMax B w) (hl : FilesAt w v l) (hs : ∀ x ∈ l, midF x) (hf : midF f) (hn : l.length ≤ 10000) :
    Calls Tryz.prog 39 #[v, fileV f] w fun e w' => ∃ u ev, e = .returned (.tuple #[u, ev]) ∧ FilesAt w' u (addL l f) ∧ ErV E w' ev (addE l f) ∧ Below w.heap.size w w' := by
  have hBw := hE.le
  have hif := isIfaceE
  obtain ⟨a, c, rfl, -, -⟩ := hl.form'
  have hba : Below w.heap.size w (w.alloc (.cells #[S f.path, S f.part, .int .i64 f.n, .int .i64 f.lo, .int .i64 f.hi, .int .i64 f.seq] 50)) := (Below.refl _ _).alloc (Nat.le_refl _) _
  have Cs := Lib.hid (fun w6 (h : Below (w.alloc (.cells #[S f.path, S f.part, .int .i64 f.n, .int .i64 f.lo, .int .i64 f.hi, .int .i64 f.seq] 50)).heap.size (w.alloc (.cells #[S f.path, S f.part, .int .i64 f.n, .int .i64 f.lo, .int .i64 f.hi, .int .i64 f.seq] 50)) w6) => fileCells rfl h)
  have hE1 := hE.below' hba hBw; have hT1 := hT.below' hba hBw; have hM1 := hM.below' hba hBw
  have hl1 := hl.below hba
  go_enter Tryz.func39, Tryz.ntmps39
  go_wp2_with fail
  generalize w.alloc (.cells #[S f.path, S f.part, .int .i64 f.n, .int .i64 f.lo, .int .i64 f.hi, .int .i64 f.seq] 50) = w1 at *
  refine (listCheck_any E B _ l _ (hE1.sub (by decide)) hT1 hM1 hl1 hs).mono ?_
  rintro e w2 ⟨ev, rfl, hev, hb2⟩
  have hb2' := hba.trans (hb2.mono hba.size)
  by_cases hck : listCheck l = .nil
  case neg =>
    have HA := Lib.hid (addE_bad (f := f) hck)
    have HL : Hid (addL l f = []) := Lib.hid (addL_bad (by rw [HA.out]; exact hck))
    obtain ⟨u, x, rfl⟩ := hev.iface hck
    have He := Lib.hid hev; clear hev hck
    go_wp2_with fail
    go_ret2
    exact ⟨_, _, rfl, by rw [HL.out]; exact At.nil _ _ _, by rw [HA.out]; exact He.out, hb2'⟩
  rw [hck] at hev
  obtain rfl : ev = .nilIface := hev
  have HC := Lib.hid hck; clear hck
  obtain ⟨c0, c1, c2, c3, c4, c5⟩ := Cs.out w2 hb2
  go_wp2_with fail
  refine (fileCheck_any E B f _ ((hE1.sub (by decide)).below' hb2 hE1.le) (hT1.below' hb2 hE1.le) (hM1.below' hb2 hE1.le) hf).mono ?_
  rintro e w3 ⟨ev, rfl, hev, hb3⟩
  have hb3' := hb2.trans (hb3.mono hb2.size)
  have hb3w := hba.trans (hb3'.mono hba.size)
  clear c0 c1 c2 c3 c4 c5
  by_cases hfc : checkF f = 0
  case neg =>
    have HA := Lib.hid (addE_file HC.out hfc)
    have HL : Hid (addL l f = []) := Lib.hid (addL_bad (by rw [HA.out]; exact fun h => by cases h))
    rw [fileEr_bad rfl hfc] at hev
    obtain ⟨hcr, rfl⟩ := hev
    have HF := Lib.hid hfc; clear hfc
    go_wp2_with fail
    go_ret2
    exact ⟨_, _, rfl, by rw [HL.out]; exact At.nil _ _ _, by rw [HA.out]; exact ⟨hcr, rfl⟩, hb3w⟩
  rw [fileEr_nil hfc] at hev
  obtain rfl : ev = .nilIface := hev
  have HF := Lib.hid hfc; clear hfc
  have HR := Lib.hid ((right_iff l).1 HC.out)
  obtain ⟨c0, c1, c2, c3, c4, c5⟩ := Cs.out w3 hb3'
  have hl3 := hl1.below hb3'
  have V0 := fun w6 (h : Below w1.heap.size w1 w6) => (⟨(hE1.below' h hE1.le).var 7 (by decide), (hE1.below' h hE1.le).var 8 (by decide)⟩ : _ ∧ _)
  simp only [errG] at V0
  have V := Lib.hid V0
  clear V0
  go_wp2_with fail
  refine (bsearchF_any _ _ f w3.heap.size w3 _ l _ clo_add1 (fun W x hx hbW hle => ?_) hl3 (by omega) HR.out.ris (Below.refl _ _) (Nat.le_refl _)).mono ?_
  · have hbW' := hb3'.trans (hbW.mono hb3'.size)
    exact add1_any E B x f W ((hE1.sub (by decide)).below' hbW' hE1.le) (hT1.below' hbW' hE1.le) (hM1.below' hbW' hE1.le) (hs x hx) hf
  rintro e w4 ⟨k, rfl, hpl, hb4⟩
  have hb4' := hb3'.trans (hb4.mono hb3'.size)
  have hb4w := hba.trans (hb4'.mono hba.size)
  clear c0 c1 c2 c3 c4 c5
  obtain ⟨v7, v8⟩ := V.out w4 hb4'
  by_cases hth : thereF l f
  case pos =>
    have HA := Lib.hid (addE_there HC.out HF.out hth)
    have HL : Hid (addL l f = []) := Lib.hid (addL_bad (by rw [HA.out]; exact fun h => by cases h))
    rw [decide_eq_true hth]
    have HTH := Lib.hid hth; clear hth
    go_wp2_with fail
    go_quiet (fail)
    go_wp2_with fail
    go_ret2
    exact ⟨_, _, rfl, by rw [HL.out]; exact At.nil _ _ _, by rw [HA.out]; exact ⟨by decide, rfl⟩, Bdn hb4w _⟩
  rw [decide_eq_false hth]
  have HTH := Lib.hid hth; clear hth
  by_cases h60 : 60 ≤ l.length
  case pos =>
    have HA := Lib.hid (addE_full HC.out HF.out HTH.out h60)
    have HL : Hid (addL l f = []) := Lib.hid (addL_bad (by rw [HA.out]; exact fun h => by cases h))
    have g60 : (60 : Int) ≤ (l.length : Int) := by omega
    clear h60
    go_wp2_with fail
    go_quiet (fail)
    go_wp2_with fail
    go_ret2
    exact ⟨_, _, rfl, by rw [HL.out]; exact At.nil _ _ _, by rw [HA.out]; exact ⟨by decide, rfl⟩, Bdn hb4w _⟩
  have HA := Lib.hid (addE_nil HC.out HF.out HTH.out h60)
  have HL : Hid (addL l f = l.take k ++ f :: l.drop k) := Lib.hid (by unfold addL; rw [if_pos HA.out, placeF_at hpl])
  have g60 : decide ((60 : Int) ≤ (l.length : Int)) = false := by simp; omega
  have hkl := hpl.le
  clear h60 hpl
  have hl4 := hl1.below hb4'
  obtain ⟨d0, d1, d2, d3, d4, d5⟩ := Cs.out w4 hb4'
  go_wp2_with fail
  go_region_held3 (fun w' => w'.cell? ⟨w.heap.size, 0, none⟩ = some (S f.path) ∧ w'.cell? ⟨w.heap.size, 1, none⟩ = some (S f.part) ∧ w'.cell? ⟨w.heap.size, 2, none⟩ = some (.int .i64 f.n) ∧ w'.cell? ⟨w.heap.size, 3, none⟩ = some (.int .i64 f.lo) ∧ w'.cell? ⟨w.heap.size, 4, none⟩ = some (.int .i64 f.hi) ∧ w'.cell? ⟨w.heap.size, 5, none⟩ = some (.int .i64 f.seq))
    (first | exact ⟨d0, d1, d2, d3, d4, d5⟩ | exact Cs.out _ (hb4'.drew.alloc hb4'.size _) | exact Cs.out _ (hb5'.alloc hb5'.size _))
    (first
      | (go_at_call 106; refine (cloneF_any _ l _ (hl1.below (by first | exact hb4'.drew | exact hb4'.drew.alloc hb4'.size _)) (by omega)).mono ?_; rintro e w5 ⟨v5, rfl, hown5, hb5⟩; have hb5' : Below w1.heap.size w1 w5 := (by first | exact hb4'.drew.trans (hb5.mono hb4'.size) | exact (hb4'.drew.alloc hb4'.size _).trans (hb5.mono (Nat.le_trans hb4'.size (by simp)))); clear d0 d1 d2 d3 d4 d5; obtain ⟨d0, d1, d2, d3, d4, d5⟩ := Cs.out w5 hb5')
      | (go_at_call 105; refine (insertF_any w4.heap.size _ l f k w5.heap.size _ (hown5.alloc _) hkl hn (by have := hb5.size; simp at this ⊢; omega) (heap_alloc_new w5 _) (fun h => absurd (World.ownsRow.lt hown5 _ h).2 (Nat.lt_irrefl _))).mono ?_; rintro e w6 ⟨v6, rfl, hown6, hb6⟩; have hb6w : Below w.heap.size w w6 := hba.trans (((hb5'.alloc hb5'.size _).trans (hb6.mono hb4'.size)).mono hba.size); have hat6 := Lib.hid (hown6.at encF_enc); clear d0 d1 d2 d3 d4 d5; obtain ⟨d0, d1, d2, d3, d4, d5⟩ := Cs.out w6 ((hb5'.alloc hb5'.size _).trans (hb6.mono hb4'.size)))
      | (go_at_call 105; refine (insertF_any _ _ l f k w4.heap.size _ hown5 hkl hn hb5.size ((hb5.block w4.heap.size (by simp)).trans (heap_alloc_new w4.drew _)) (fun h => absurd (World.ownsRow.lt hown5 _ h).1 (by simp))).mono ?_; rintro e w6 ⟨v6, rfl, hown6, hb6⟩; have hb6' : Below w1.heap.size w1 w6 := hb5'.trans (hb6.mono (Nat.le_trans hb4'.size (by simp))); have hb6w : Below w.heap.size w w6 := hba.trans (hb6'.mono hba.size); have hat6 := Lib.hid (hown6.at encF_enc); clear d0 d1 d2 d3 d4 d5; obtain ⟨d0, d1, d2, d3, d4, d5⟩ := Cs.out w6 hb6'))
  all_goals
    go_wp2_with fail
    go_ret2
    exact ⟨_, _, rfl, by rw [HL.out]; exact hat6.out, by rw [HA.out]; rfl, hb6w⟩

theorem removeE_bad {l : List Fl} {p : Str} (h : listCheck l ≠ .nil) : removeE l p = listCheck l := if_pos h
theorem removeE_none {l : List Fl} {p : Str} (h : listCheck l = .nil) (h1 : findF l p = none) : removeE l p = .bare 6 := by unfold removeE; rw [if_neg (by simp [h]), if_pos (by rw [h1]; rfl)]
theorem removeE_nil {l : List Fl} {p : Str} {k : Nat} (h : listCheck l = .nil) (h1 : findF l p = some k) : removeE l p = .nil := by unfold removeE; rw [if_neg (by simp [h]), if_neg (by rw [h1]; simp)]
theorem removeL_bad {l : List Fl} {p : Str} (h : removeE l p ≠ .nil) : removeL l p = [] := if_neg h
theorem findF_some {l : List Fl} {p : Str} {k : Nat} (h : findF l p = some k) : ∃ x, l[k]? = some x ∧ x.path = p := by
  unfold findF at h
  obtain ⟨hk, h1, -⟩ := List.findIdx?_eq_some_iff_getElem.1 h
  exact ⟨l[k], List.getElem?_eq_getElem hk, by simpa using h1⟩
theorem findV_some {l : List Fl} {p : Str} {k : Nat} (h : findF l p = some k) : findV l p = k := by
  unfold findF at h; unfold findV idxVal; rw [h]
theorem findV_none {l : List Fl} {p : Str} (h : findF l p = none) : findV l p = -1 := by
  unfold findF at h; unfold findV idxVal; rw [h]
theorem find_mem {l : List Fl} {p : Str} : 0 ≤ findV l p ↔ ∃ f ∈ l, f.path = p := by
  cases hf : findF l p with
  | none =>
    rw [findV_none hf]
    have := findF_none.1 hf
    constructor
    · intro h; omega
    · rintro ⟨f, h1, h2⟩; exact absurd h2 (this f h1)
  | some k =>
    rw [findV_some hf]
    obtain ⟨x, h1, h2⟩ := findF_some hf
    exact ⟨fun _ => ⟨x, List.mem_of_getElem? h1, h2⟩, fun _ => by omega⟩
set_option maxHeartbeats 1000000 in
set_option maxRecDepth 20000 in
theorem listRemove_any (E : Nat → Addr) (B : Nat) (v : Value) (l : List Fl) (p : Str) (w : World) (hE : Errs [2, 4, 5, 6, 8, 9] E B w) (hT : LNum B w) (hM : LMax B w) (hl : FilesAt w v l) (hs : ∀ x ∈ l, midF x) :
    Calls Tryz.prog 41 #[v, S p] w fun e w' => ∃ u ev, e = .returned (.tuple #[u, ev]) ∧ FilesAt w' u (removeL l p) ∧ ErV E w' ev (removeE l p) ∧ Below w.heap.size w w' := by
  have hBw := hE.le
  have hif := isIfaceE
  have hl0 := hl
  obtain ⟨a, c, rfl, -, -⟩ := hl.form'
  have V0 := fun w6 (h : Below w.heap.size w w6) => (hE.below' h hBw).var 6 (by decide)
  simp only [errG] at V0
  have V := Lib.hid V0
  clear V0
  go_enter Tryz.func41, Tryz.ntmps41
  go_wp2_with fail
  refine (listCheck_any E B _ l _ (hE.sub (by decide)) hT hM hl hs).mono ?_
  rintro e w2 ⟨ev, rfl, hev, hb2⟩
  by_cases hck : listCheck l = .nil
  case neg =>
    have HA := Lib.hid (removeE_bad (p := p) hck)
    have HL : Hid (removeL l p = []) := Lib.hid (removeL_bad (by rw [HA.out]; exact hck))
    obtain ⟨u, x, rfl⟩ := hev.iface hck
    have He := Lib.hid hev; clear hev hck
    go_wp2_with fail
    go_ret2
    exact ⟨_, _, rfl, by rw [HL.out]; exact At.nil _ _ _, by rw [HA.out]; exact He.out, hb2⟩
  rw [hck] at hev
  obtain rfl : ev = .nilIface := hev
  have HC := Lib.hid hck; clear hck
  have hl2 := hl.below hb2
  go_wp2_with fail
  refine (listFind_any _ l p _ hl2).mono ?_
  rintro e w3 ⟨rfl, hb3⟩
  have hb3' := hb2.trans (hb3.mono hb2.size)
  cases hfi : findF l p with
  | none =>
    have HA := Lib.hid (removeE_none HC.out hfi)
    have HL : Hid (removeL l p = []) := Lib.hid (removeL_bad (by rw [HA.out]; exact fun h => by cases h))
    rw [findV_none hfi]
    clear hfi
    have v6 := V.out w3 hb3'
    go_wp2_with fail
    go_quiet (fail)
    go_wp2_with fail
    go_ret2
    exact ⟨_, _, rfl, by rw [HL.out]; exact At.nil _ _ _, by rw [HA.out]; exact ⟨by decide, rfl⟩, Bdn hb3' _⟩
  | some k =>
    have HA := Lib.hid (removeE_nil HC.out hfi)
    obtain ⟨x, hxk, hxp⟩ := findF_some hfi
    have HR := Lib.hid ((right_iff l).1 HC.out)
    have HL : Hid (removeL l p = l.take k ++ l.drop (k + 1)) := Lib.hid (by unfold removeL; rw [if_pos HA.out, ← hxp, dropF_at HR.out.ris hxk])
    rw [findV_some hfi]
    obtain ⟨hk, -⟩ := List.getElem?_eq_some_iff.1 hxk
    have h60 := HR.out.len
    clear hfi hxk hxp
    have hl3 := hl.below hb3'
    have hkn : ((k : Int) < 0) = False := by simp
    go_wp2_with fail
    refine (cloneF_any _ l _ hl3 (by omega)).mono ?_
    rintro e w4 ⟨v4, rfl, hown, hb4⟩
    have hb4' := hb3'.trans (hb4.mono hb3'.size)
    obtain ⟨a4, c4, rfl, -, -⟩ := (hown.at encF_enc).form'
    have hwk : IntKind.i64.wrap ((k : Int) + 1) = (k : Int) + 1 := by rw [IntKind.wrap_i64]; omega
    have hD := deleteF_any w3.heap.size _ l k w4 hown hk (by omega) hb4.size
    have HD := Lib.hid hD; clear hD
    go_wp2_with fail
    refine HD.out.mono ?_
    rintro e w5 ⟨v5, rfl, hown5, hb5⟩
    have Ho := Lib.hid (hown5.at encF_enc)
    go_wp2_with fail
    go_ret2
    exact ⟨_, _, rfl, by rw [HL.out]; exact Ho.out, by rw [HA.out]; rfl, hb4'.trans (hb5.mono hb3'.size)⟩
end Go.Proofs.YtikboodjfanjkaaGreatDoor
namespace Go.Proofs.YtikboodjfanjkaaGreatDoor
open Go.RowKit

abbrev oneF (p : Str) (n : Int) : Fl := ⟨p, [97], 1, 0, 0, n⟩
abbrev pD1 : Str := [100, 97, 116, 97, 47, 49]
abbrev pD2 : Str := [100, 97, 116, 97, 47, 50]
theorem itoa0 : Lib.itoa 0 = [48] := (Lib.itoa_nonneg 0).trans (Lib.decDigits_one (by decide))
theorem itoa1 : Lib.itoa 1 = [49] := (Lib.itoa_nonneg 1).trans (Lib.decDigits_one (by decide))
theorem itoa2 : Lib.itoa 2 = [50] := (Lib.itoa_nonneg 2).trans (Lib.decDigits_one (by decide))
theorem pathD1 : pathF pD1 = some (kData, 1) := by
  have h : numOf [49] = some 1 := by have := numOf_itoa (n := 1) (by decide) (by decide); rwa [itoa1] at this
  have hc : Lib.cut pD1 [47] = (kData, [49], true) := cut_app1 (c := 47) (p := kData) (q := [49]) (by decide)
  unfold pathF
  rw [hc]
  simp only [h]
  rfl
theorem pathD2 : pathF pD2 = some (kData, 2) := by
  have h : numOf [50] = some 2 := by have := numOf_itoa (n := 2) (by decide) (by decide); rwa [itoa2] at this
  have hc : Lib.cut pD2 [47] = (kData, [50], true) := cut_app1 (c := 47) (p := kData) (q := [50]) (by decide)
  unfold pathF
  rw [hc]
  simp only [h]
  rfl
theorem check_one {p : Str} {n : Int} (h : pathF p = some (kData, n)) : checkF (oneF p 1) = 0 := by
  refine checkF_right h ?_ (by unfold boundF farN; simp)
  have : kindF p = kData := by unfold kindF; rw [h]; rfl
  show partOk (kindF p) [97] = true
  rw [this]; decide
theorem keyD1 : keyP pD1 = 2147483649 := by unfold keyP; rw [pathD1]; rfl
theorem keyD2 : keyP pD2 = 2147483650 := by unfold keyP; rw [pathD2]; rfl
theorem right_two : RightL [oneF pD1 1, oneF pD2 1] :=
  ⟨by decide, fun f hf => by
    rcases List.mem_cons.1 hf with rfl | hf
    · exact check_one pathD1
    · obtain rfl := List.mem_singleton.1 hf
      exact check_one pathD2, List.pairwise_cons.2 ⟨fun g hg => by
    obtain rfl := List.mem_singleton.1 hg
    show keyP pD1 < keyP pD2
    rw [keyD1, keyD2]; decide, by simp⟩⟩
theorem text_two : listText [oneF pD1 1, oneF pD2 1] = [100, 97, 116, 97, 47, 49, 32, 97, 32, 49, 32, 48, 32, 48, 32, 49, 10, 100, 97, 116, 97, 47, 50, 32, 97, 32, 49, 32, 48, 32, 48, 32, 49, 10] := by
  simp [listText, fileLine, numsTail, itoa0, itoa1]

theorem one_any (p : Str) (n : Int) (w : World) : Calls Tryz.prog 87 #[S p, .int .i64 n] w fun e w' => e = .returned (fileV (oneF p n)) ∧ Below w.heap.size w w' := by
  go_enter Tryz.func87, Tryz.ntmps87
  go_wp2_with fail
  exact bodyPost_ret (results_cell_row rfl _ _ w.heap.size _ _ (0, 0) _ rfl (heap_alloc_new w _) Tryz.underlying50 rfl (by kernel_rfl)) rfl ⟨rfl, (Below.refl _ _).alloc (Nat.le_refl _) _⟩
theorem file_new (f : Fl) (w : World) (t : TypeId) (H : Nat) (hH : w.heap.size = H) : FilesAt (w.alloc (.cells #[S f.path, S f.part, .int .i64 f.n, .int .i64 f.lo, .int .i64 f.hi, .int .i64 f.seq] t)) (.slice (some ⟨H, 0, none⟩) 1 1) [f] := by
  subst hH
  refine ⟨_, _, w.heap.size, 0, rfl, fun _ => rfl, Nat.le_refl 1, (by decide : 1 ≤ maxLen), fun k z hk j u hu => ?_⟩
  have hk' : k = 0 := by
    rcases Nat.eq_zero_or_pos k with h | h
    · exact h
    · rw [List.getElem?_eq_none (by simp; omega)] at hk; cases hk
  subst hk'
  obtain rfl : f = z := by simpa using hk
  rw [cell_of_row (w.alloc _) w.heap.size _ _ t (0, 0) (heap_alloc_new w _)]
  simpa using hu
set_option maxRecDepth 20000 in
theorem listed_any (E : Nat → Addr) (B : Nat) (w : World) (hE : Errs [2, 4, 5, 7, 8, 9] E B w) (hT : LNum B w) (hM : LMax B w) :
    Calls Tryz.prog 27 #[] w fun e w' => e = .returned (.bool true) ∧ Below w.heap.size w w' := by
  have hBw := hE.le
  have hif := isIfaceE
  go_enter Tryz.func27, Tryz.ntmps27
  go_wp2_with fail
  refine (one_any pD2 1 w).mono ?_
  rintro e w1 ⟨rfl, hb1⟩
  have hb2 := hb1.alloc hb1.size (.cells #[S pD2, S [97], .int .i64 1, .int .i64 0, .int .i64 0, .int .i64 1] 50)
  have hl2 : FilesAt (w1.alloc (.cells #[S pD2, S [97], .int .i64 1, .int .i64 0, .int .i64 0, .int .i64 1] 50)) (.slice (some ⟨w1.heap.size, 0, none⟩) 1 1) [oneF pD2 1] := file_new (oneF pD2 1) w1 50 _ rfl
  go_wp2_with fail
  generalize w1.alloc (.cells #[S pD2, S [97], .int .i64 1, .int .i64 0, .int .i64 0, .int .i64 1] 50) = w2 at *
  refine (one_any pD1 1 w2).mono ?_
  rintro e w3 ⟨rfl, hb3⟩
  have hb3' := hb2.trans (hb3.mono hb2.size)
  have hl3 := hl2.below hb3
  obtain ⟨ha1, ha2⟩ := add_head right_two
  have HA := Lib.hid ha1; have HA2 := Lib.hid ha2; clear ha1 ha2
  go_wp2_with fail
  refine (listAdd_any E B _ [oneF pD2 1] (oneF pD1 1) _ (hE.below' hb3' hBw) (hT.below' hb3' hBw) (hM.below' hb3' hBw) hl3 (fun x hx => by obtain rfl := List.mem_singleton.1 hx; decide) (by decide) (by decide)).mono ?_
  rintro e w4 ⟨u, ev, rfl, hu, hev, hb4⟩
  rw [HA.out] at hev
  obtain rfl : ev = .nilIface := hev
  rw [HA2.out] at hu
  have hb4' := hb3'.trans (hb4.mono hb3'.size)
  go_wp2_with fail
  refine (listText_any E B _ [oneF pD1 1, oneF pD2 1] _ ((hE.sub (by decide)).below' hb4' hBw) (hT.below' hb4' hBw) (hM.below' hb4' hBw) hu (fun x hx => by
    rcases List.mem_cons.1 hx with rfl | hx
    · decide
    · obtain rfl := List.mem_singleton.1 hx; decide)).mono ?_
  rintro e w5 ⟨ev, rfl, hev, hb5⟩
  have hck := (right_iff _).2 right_two
  rw [hck] at hev
  obtain rfl : ev = .nilIface := hev
  rw [show listTextR [oneF pD1 1, oneF pD2 1] = _ from (if_pos hck).trans text_two]
  clear hck
  go_wp2_with fail
  go_ret
  exact ⟨rfl, hb4'.trans (hb5.mono hb4'.size)⟩
end Go.Proofs.YtikboodjfanjkaaGreatDoor
namespace Go.Proofs.YtikboodjfanjkaaGreatDoor
open Go.RowKit

theorem grown_set (w : World) (g i : Nat) (x : Value) : w.grownBy (w.setCell ⟨g, i, none⟩ x) (some g) := by
  refine ⟨rfl, rfl, rfl, by simp [World.setCell], fun k _ hne => ?_⟩
  have : g ≠ k := fun e => hne (by rw [e])
  simp [World.setCell, Array.getElem?_modify, this]
theorem Own.store {α : Type} {enc : α → List Value} {e : TypeId} {sz B : Nat} {w : World} {v : Value} {l : List α} (h : Own enc e sz B w v l) {g : Nat} (hg : g < B) (i : Nat) (x : Value) : Own enc e sz B (w.setCell ⟨g, i, none⟩ x) v l := by
  refine World.ownsRow.kept h (grown_set w g i x) ?_
  cases hv : v.ownBlock with
  | none => exact .inl rfl
  | some k =>
    refine .inr fun e => ?_
    cases e
    have := (World.ownsRow.lt h g hv).1
    omega
end Go.Proofs.YtikboodjfanjkaaGreatDoor
namespace Go.Proofs.YtikboodjfanjkaaGreatDoor
open Go.RowKit

def firstSn : Sn := ⟨1, 0, 0, 0, 0, kStart, []⟩
theorem right_first : RightSn firstSn := ⟨by decide, by decide, ⟨by decide, fun f h => absurd h (by simp [firstSn]), by simp [firstSn]⟩, fun f h => absurd h (by simp [firstSn])⟩
theorem text_first : snapText firstSn = [115, 110, 97, 112, 32, 49, 32, 48, 32, 48, 32, 48, 32, 48, 32, 115, 116, 97, 114, 116, 32, 48, 10] := by
  have h : sumOf (listText firstSn.files) = 0 := by decide
  unfold snapText
  rw [h]
  simp [snapHead, numsTail, firstSn, listText, itoa0, itoa1]

theorem snapFirst_any (w : World) : Calls Tryz.prog 56 #[] w fun e w' => e = .returned (snapV firstSn (.slice none 0 0)) ∧ Below w.heap.size w w' := by
  go_enter Tryz.func56, Tryz.ntmps56
  go_wp2_with fail
  exact bodyPost_ret (results_cell_row rfl _ _ w.heap.size _ _ (0, 0) _ rfl (heap_alloc_new w _) Tryz.underlying30 rfl (by kernel_rfl)) rfl ⟨rfl, (Below.refl _ _).alloc (Nat.le_refl _) _⟩

theorem own_low {α : Type} {enc : α → List Value} {e : TypeId} {sz B B' : Nat} {w : World} {v : Value} {l : List α} (h : Own enc e sz B' w v l) (hB : B ≤ B') : Own enc e sz B w v l := by
  obtain ⟨h1, h2⟩ := h
  refine ⟨h1, ?_⟩
  rcases h2 with h0 | ⟨g, cap, cur, hv, hg, rest⟩
  · exact .inl h0
  · exact .inr ⟨g, cap, cur, hv, Nat.le_trans hB hg, rest⟩
set_option maxRecDepth 20000 in
theorem ownSnapO_any (s : Sn) (v : Value) (w : World) (hl : FilesAt w v s.files) (hn : s.files.length ≤ 100000) :
    Calls Tryz.prog 10 #[snapV s v] w fun e w' => ∃ u, e = .returned (snapV s u) ∧ Own encF 50 6 w.heap.size w' u s.files ∧ Below w.heap.size w w' := by
  obtain ⟨w1, hw1⟩ : ∃ w1, w1 = w.alloc (.cells #[.int .i64 s.id, .int .i64 s.parent, .int .i64 s.seq, .int .i64 s.day, .int .i64 s.index, S s.op, v] 30) := ⟨_, rfl⟩
  have hb1 : Below w.heap.size w w1 := hw1 ▸ (Below.refl _ _).alloc (Nat.le_refl _) _
  have hs1 : w1.heap.size = w.heap.size + 1 := by rw [hw1]; simp
  have hba : Below w1.heap.size w1 (w1.alloc (.cells #[.int .i64 0, .int .i64 0, .int .i64 0, .int .i64 0, .int .i64 0, S [], .slice none 0 0] 30)) := (Below.refl _ _).alloc (Nat.le_refl _) _
  have CS := Lib.hid (fun w6 (h : Below w1.heap.size w1 w6) => snapCells (s := s) (v := v) (t := 30) (hw1 ▸ h))
  have HGs := Lib.hid (fun w6 (h : Below w1.heap.size w1 w6) => (h.block w.heap.size (by omega)).trans (hw1 ▸ heap_alloc_new w _ : w1.heap[w.heap.size]? = some (.cells #[.int .i64 s.id, .int .i64 s.parent, .int .i64 s.seq, .int .i64 s.day, .int .i64 s.index, S s.op, v] 30)))
  have HW := Lib.hid hw1
  have CZ := Lib.hid (fun w6 (h : Below (w1.alloc (.cells #[.int .i64 0, .int .i64 0, .int .i64 0, .int .i64 0, .int .i64 0, S [], .slice none 0 0] 30)).heap.size (w1.alloc (.cells #[.int .i64 0, .int .i64 0, .int .i64 0, .int .i64 0, .int .i64 0, S [], .slice none 0 0] 30)) w6) => snapCells (s := zeroSn) (v := .slice none 0 0) h)
  have HGz := Lib.hid (fun w6 (h : Below (w1.alloc (.cells #[.int .i64 0, .int .i64 0, .int .i64 0, .int .i64 0, .int .i64 0, S [], .slice none 0 0] 30)).heap.size (w1.alloc (.cells #[.int .i64 0, .int .i64 0, .int .i64 0, .int .i64 0, .int .i64 0, S [], .slice none 0 0] 30)) w6) => (h.block w1.heap.size (by simp)).trans (heap_alloc_new w1 (.cells #[.int .i64 0, .int .i64 0, .int .i64 0, .int .i64 0, .int .i64 0, S [], .slice none 0 0] 30)))
  have HSz : Hid ((w1.alloc (.cells #[.int .i64 0, .int .i64 0, .int .i64 0, .int .i64 0, .int .i64 0, S [], .slice none 0 0] 30)).heap.size = w.heap.size + 2) := Lib.hid (by simp [hs1])
  go_enter Tryz.func10, Tryz.ntmps10
  obtain ⟨c0, c1, c2, c3, c4, c5, c6⟩ := CS.out _ hba
  go_wp2_with fail
  rw [← HW.out]
  generalize w1.alloc (.cells #[.int .i64 0, .int .i64 0, .int .i64 0, .int .i64 0, .int .i64 0, S [], .slice none 0 0] 30) = w2 at *
  refine (ownFiles_any v s.files w2 (hl.below (hb1.trans (hba.mono hb1.size))) hn).mono ?_
  rintro e w3 ⟨u, rfl, hown, hb3⟩
  have hb13 := hba.trans (hb3.mono hba.size)
  have hb03 := hb1.trans (hb13.mono hb1.size)
  clear c0 c1 c2 c3 c4 c5 c6
  obtain ⟨c0, c1, c2, c3, c4, c5, c6⟩ := CS.out _ hb13
  obtain ⟨d0, d1, d2, d3, d4, d5, d6⟩ := CZ.out _ hb3
  rw [hs1] at d0 d1 d2 d3 d4 d5 d6
  have hg1 := HGs.out _ hb13
  have hg2 := HGz.out _ hb3
  rw [hs1] at hg2
  have f6 : w3.frozen? ⟨w.heap.size, 6, none⟩ = false := frozen_row hg1
  have fz : ∀ j, w3.frozen? ⟨w.heap.size + 1, j, none⟩ = false := fun j => frozen_row hg2
  have e0 := fz 0; have e1 := fz 1; have e2 := fz 2; have e3 := fz 3; have e4 := fz 4; have e5 := fz 5; have e6 := fz 6
  have HG2 := Lib.hid hg2
  clear fz hg1 hg2
  have hne : ¬ (w.heap.size + 1 = w.heap.size) := by omega
  obtain ⟨au, nu, cu, rfl⟩ : ∃ au nu cu, u = .slice au nu cu := by
    obtain ⟨a', c', h', -⟩ := (hown.at encF_enc).form'
    exact ⟨_, _, _, h'⟩
  go_wp2_with fail
  refine bodyPost_ret (results_cell_row rfl _ _ (w.heap.size + 1) 30 #[.int .i64 s.id, .int .i64 s.parent, .int .i64 s.seq, .int .i64 s.day, .int .i64 s.index, S s.op, .slice au nu cu] (0, 0) _ rfl (sev_new ((heap_setCell_other _ _ _ _ (by simp)).trans HG2.out) _ _ _ _ _ _ _) Tryz.underlying30 rfl (by kernel_rfl)) rfl ⟨_, rfl, ?_, ?_⟩
  · have hz := HSz.out
    have k0 : w.heap.size < w2.heap.size := by omega
    have k1 : w.heap.size + 1 < w2.heap.size := by omega
    exact own_low ((((((((hown.store k0 6 _).store k1 0 _).store k1 1 _).store k1 2 _).store k1 3 _).store k1 4 _).store k1 5 _).store k1 6 _) (by omega)
  · exact sev_below (hb03.setCell (p := ⟨w.heap.size, 6, none⟩) (Nat.le_refl _) _) (by omega) _ _ _ _ _ _ _
theorem ownSnap_any (s : Sn) (v : Value) (w : World) (hl : FilesAt w v s.files) (hn : s.files.length ≤ 100000) :
    Calls Tryz.prog 10 #[snapV s v] w fun e w' => ∃ u, e = .returned (snapV s u) ∧ FilesAt w' u s.files ∧ Below w.heap.size w w' :=
  (ownSnapO_any s v w hl hn).mono fun _ _ ⟨u, h1, h2, h3⟩ => ⟨u, h1, h2.at encF_enc, h3⟩

set_option maxRecDepth 20000 in
theorem longSnap_any (s : Sn) (v : Value) (w : World) (hl : FilesAt w v s.files) :
    Calls Tryz.prog 9 #[snapV s v] w fun e w' => (e = .returned (.int .i64 1) ∨ (e = .returned (.int .i64 0) ∧ s.op.length ≤ 30 ∧ s.files.length ≤ 61 ∧ ∀ f ∈ s.files, shortF f)) ∧ Below w.heap.size w w' := by
  have hb0 : Below w.heap.size w (w.alloc (.cells #[.int .i64 s.id, .int .i64 s.parent, .int .i64 s.seq, .int .i64 s.day, .int .i64 s.index, S s.op, v] 30)) := (Below.refl _ _).alloc (Nat.le_refl _) _
  obtain ⟨c0, c1, c2, c3, c4, c5, c6⟩ := snapCells (s := s) (v := v) (t := 30) (Below.refl _ (w.alloc (.cells #[.int .i64 s.id, .int .i64 s.parent, .int .i64 s.seq, .int .i64 s.day, .int .i64 s.index, S s.op, v] 30)))
  have hL := longFiles_any v s.files (w.alloc (.cells #[.int .i64 s.id, .int .i64 s.parent, .int .i64 s.seq, .int .i64 s.day, .int .i64 s.index, S s.op, v] 30)) (hl.below hb0)
  have HL := Lib.hid hL; clear hL
  by_cases h1 : s.op.length ≤ 30
  · have g1 : decide ((30 : Int) < (s.op.length : Int)) = false := by simp; omega
    go_enter Tryz.func9, Tryz.ntmps9
    go_wp2_with fail
    refine HL.out.mono ?_
    rintro e w2 ⟨he, hb2⟩
    have hb2' := hb0.trans (hb2.mono hb0.size)
    clear c0 c1 c2 c3 c4 c5 c6
    rcases he with rfl | ⟨rfl, hlen, hsh⟩
    · go_wp2_with fail
      go_ret
      exact ⟨.inl rfl, hb2'⟩
    · have HS := Lib.hid hsh; clear hsh
      go_wp2_with fail
      go_ret
      exact ⟨.inr ⟨rfl, h1, hlen, HS.out⟩, hb2'⟩
  · have g1 : (30 : Int) < (s.op.length : Int) := by omega
    clear h1
    go_enter Tryz.func9, Tryz.ntmps9
    go_wp2_with fail
    go_ret
    exact ⟨.inl rfl, hb0⟩

theorem sn_ways (a b : Sn) : (decide (a = b) = false ∧ ((a.id != b.id) = true ∨ ((a.id != b.id) = false ∧ ((a.parent != b.parent) = true ∨ ((a.parent != b.parent) = false ∧ ((a.seq != b.seq) = true ∨ ((a.seq != b.seq) = false ∧ ((a.day != b.day) = true ∨ ((a.day != b.day) = false ∧ (a.index != b.index) = true)))))))) ) ∨
    ((a.id != b.id) = false ∧ (a.parent != b.parent) = false ∧ (a.seq != b.seq) = false ∧ (a.day != b.day) = false ∧ (a.index != b.index) = false ∧ decide (a = b) = ((a.op == b.op) && decide (a.files = b.files))) := by
  obtain ⟨a1, a2, a3, a4, a5, a6, a7⟩ := a
  obtain ⟨b1, b2, b3, b4, b5, b6, b7⟩ := b
  by_cases h1 : a1 = b1 <;> by_cases h2 : a2 = b2 <;> by_cases h3 : a3 = b3 <;> by_cases h4 : a4 = b4 <;> by_cases h5 : a5 = b5 <;> simp [h1, h2, h3, h4, h5]
  rw [Bool.eq_iff_iff]; simp
set_option maxHeartbeats 1000000 in
set_option maxRecDepth 20000 in
theorem sameSnap_any (a b : Sn) (u v : Value) (w : World) (ha : FilesAt w u a.files) (hb : FilesAt w v b.files) :
    Calls Tryz.prog 55 #[snapV a u, snapV b v] w fun e w' => e = .returned (.bool (decide (a = b))) ∧ Below w.heap.size w w' := by
  obtain ⟨w1, hw1⟩ : ∃ w1, w1 = w.alloc (.cells #[.int .i64 a.id, .int .i64 a.parent, .int .i64 a.seq, .int .i64 a.day, .int .i64 a.index, S a.op, u] 30) := ⟨_, rfl⟩
  have hb1 : Below w.heap.size w w1 := hw1 ▸ (Below.refl _ _).alloc (Nat.le_refl _) _
  obtain ⟨w2, hw2⟩ : ∃ w2, w2 = w1.alloc (.cells #[.int .i64 b.id, .int .i64 b.parent, .int .i64 b.seq, .int .i64 b.day, .int .i64 b.index, S b.op, v] 30) := ⟨_, rfl⟩
  have hb12 : Below w1.heap.size w1 w2 := hw2 ▸ (Below.refl _ _).alloc (Nat.le_refl _) _
  have hb2 := hb1.trans (hb12.mono hb1.size)
  obtain ⟨c0, c1, c2, c3, c4, c5, c6⟩ := snapCells (s := a) (v := u) (t := 30) (hw1 ▸ hb12)
  obtain ⟨d0, d1, d2, d3, d4, d5, d6⟩ := snapCells (w := w1) (s := b) (v := v) (t := 30) (w6 := w2) (by rw [hw2]; exact Below.refl _ _)
  have hs1 : w1.heap.size = w.heap.size + 1 := by rw [hw1]; simp
  rw [hs1] at d0 d1 d2 d3 d4 d5 d6
  have hS := sameFiles_any u v a.files b.files w2 (ha.below hb2) (hb.below hb2)
  have HSm := Lib.hid hS
  clear hS hs1
  rcases sn_ways a b with ⟨hne, hw⟩ | ⟨g1, g2, g3, g4, g5, he⟩
  · rw [hne]
    clear hne
    rcases hw with g1 | ⟨g1, g2 | ⟨g2, g3 | ⟨g3, g4 | ⟨g4, g5⟩⟩⟩⟩
    all_goals
      go_enter Tryz.func55, Tryz.ntmps55
      go_wp2_with fail
      rw [← hw1, ← hw2]
      go_wp2_with fail
      go_ret
      exact ⟨rfl, hb2⟩
  rw [he]
  clear he
  by_cases ho : a.op = b.op
  · have g6 : (a.op == b.op) = true := by simpa using ho
    rw [g6, Bool.true_and]
    clear ho
    go_enter Tryz.func55, Tryz.ntmps55
    go_wp2_with fail
    rw [← hw1, ← hw2]
    go_wp2_with fail
    refine HSm.out.mono ?_
    rintro e w3 ⟨rfl, hb3⟩
    go_wp2_with fail
    go_ret
    exact ⟨rfl, hb2.trans (hb3.mono hb2.size)⟩
  · have g6 : (a.op == b.op) = false := by simpa using ho
    rw [g6, Bool.false_and]
    clear ho
    go_enter Tryz.func55, Tryz.ntmps55
    go_wp2_with fail
    rw [← hw1, ← hw2]
    go_wp2_with fail
    go_ret
    exact ⟨rfl, hb2⟩

set_option maxRecDepth 20000 in
theorem snapped_any (E : Nat → Addr) (B : Nat) (w : World) (hE : Errs [1, 2, 4, 5, 8, 9, 10] E B w) (hT : LNum B w) (hM : LMax B w) :
    Calls Tryz.prog 47 #[] w fun e w' => e = .returned (.bool true) ∧ Below w.heap.size w w' := by
  have hBw := hE.le
  have hif := isIfaceE
  have htx : snapTextR firstSn = _ := (if_pos ((snap_iff _).2 right_first)).trans text_first
  have hck := (snap_iff _).2 right_first
  have hrd := snapRead_text right_first
  rw [text_first] at hrd
  go_enter Tryz.func47, Tryz.ntmps47
  go_wp2_with fail
  refine (snapFirst_any w).mono ?_
  rintro e w1 ⟨rfl, hb1⟩
  have hT1 := snapText_any E B firstSn (.slice none 0 0) w1 ((hE.sub (by decide)).below' hb1 hBw) (hT.below' hb1 hBw) (hM.below' hb1 hBw) (At.nil _ _ _) (fun x h => absurd h (by simp [firstSn]))
  rw [htx, hck] at hT1
  have HT1 := Lib.hid hT1; have HRd := Lib.hid hrd
  clear hT1 htx hck hrd
  go_wp2_with fail
  refine HT1.out.mono ?_
  rintro e w2 ⟨ev, rfl, hev, hb2⟩
  obtain rfl : ev = .nilIface := hev
  have hb2' := hb1.trans (hb2.mono hb1.size)
  have hR := snapRead_any E B [115, 110, 97, 112, 32, 49, 32, 48, 32, 48, 32, 48, 32, 48, 32, 115, 116, 97, 114, 116, 32, 48, 10] w2 (hE.below' hb2' hBw) (hT.below' hb2' hBw) (hM.below' hb2' hBw) (.inl (by decide)) (by decide)
  rw [HRd.out] at hR
  have HR := Lib.hid hR; clear hR HT1
  go_wp2_with fail
  refine HR.out.mono ?_
  rintro e w3 ⟨u, ev, rfl, hu, hev, hb3⟩
  obtain rfl : ev = .nilIface := hev
  have hb3' := hb2'.trans (hb3.mono hb2'.size)
  obtain ⟨au, nu, cu, rfl⟩ : ∃ au nu cu, u = .slice au nu cu := by
    obtain ⟨a', c', h', -⟩ := hu.form'
    exact ⟨_, _, _, h'⟩
  go_wp2_with fail
  go_ret
  exact ⟨rfl, hb3'.alloc hb3'.size _⟩
end Go.Proofs.YtikboodjfanjkaaGreatDoor
namespace Go.Proofs.YtikboodjfanjkaaGreatDoor
open Go.RowKit

/-- A snap, and where its files lie. -/
structure SnV where
  s : Sn
  a : Option Addr
  n : Nat
  c : Nat
abbrev SnV.u (x : SnV) : Value := .slice x.a x.n x.c
abbrev encSn (x : SnV) : List Value := [.int .i64 x.s.id, .int .i64 x.s.parent, .int .i64 x.s.seq, .int .i64 x.s.day, .int .i64 x.s.index, S x.s.op, .slice x.a x.n x.c]
theorem encSn_enc : Enc encSn 7 := fun x => ⟨rfl, by simp [Value.oneCell']⟩
abbrev SnapsAt (w : World) (v : Value) (l : List SnV) : Prop := At encSn 7 w v l
abbrev plainS (l : List SnV) : List Sn := l.map (·.s)
/-- The files of each lie there. -/
def HeldSn (w : World) (l : List SnV) : Prop := ∀ x ∈ l, FilesAt w x.u x.s.files
theorem HeldSn.below {w w' : World} {l : List SnV} (h : HeldSn w l) (hb : Below w.heap.size w w') : HeldSn w' l := fun x hx => (h x hx).below hb
/-- .. in blocks of the call's own. -/
def HeldO (B : Nat) (w : World) (l : List SnV) : Prop := ∀ x ∈ l, Own encF 50 6 B w x.u x.s.files
theorem HeldO.held {B : Nat} {w : World} {l : List SnV} (h : HeldO B w l) : HeldSn w l := fun x hx => (h x hx).at encF_enc
theorem HeldO.below {B : Nat} {w w' : World} {l : List SnV} (h : HeldO B w l) (hb : Below w.heap.size w w') : HeldO B w' l := fun x hx => (h x hx).below hb
theorem HeldO.app {B B' : Nat} {w w' : World} {v : Value} {l m : List SnV} (h : HeldO B w l) (ho : Own encSn 30 7 B' w v m) (hg : w.grownBy w' v.ownBlock) : HeldO B w' l := fun x hx => by
  refine World.ownsRow.kept (h x hx) hg ?_
  have hx' := h x hx
  rcases ho.2 with ⟨rfl, _⟩ | ⟨g, cap, cur, rfl, _, hgg, _⟩
  · rcases hx'.2 with ⟨h1, _⟩ | ⟨g', cap', cur', h1, _, hgg', _⟩
    · exact .inl (by rw [h1]; rfl)
    · exact .inr (by rw [h1]; simp [Value.ownBlock])
  · rcases hx'.2 with ⟨h1, _⟩ | ⟨g', cap', cur', h1, _, hgg', _⟩
    · exact .inl (by rw [h1]; rfl)
    · refine .inr ?_
      rw [h1]
      simp only [Value.ownBlock, ne_eq, Option.some.injEq]
      intro e
      subst e
      rw [hgg] at hgg'
      simp only [Option.some.injEq, Obj.cells.injEq] at hgg'
      exact absurd hgg'.2.1 (by decide)
theorem HeldO.snoc {B : Nat} {w : World} {l : List SnV} {x : SnV} (h : HeldO B w l) (hx : Own encF 50 6 B w x.u x.s.files) : HeldO B w (l ++ [x]) := fun y hy => by
  rcases List.mem_append.1 hy with h' | h'
  · exact h y h'
  · obtain rfl := List.mem_singleton.1 h'
    exact hx
theorem szSn (w : World) : (sizeOf 30).run Tryz.prog w = .ok 7 w := by kernel_rfl
theorem elSn : ElemInfo Tryz.prog 22 30 7 80 := elemInfo_of Tryz.underlying22 (z := .agg #[.int .i64 0, .int .i64 0, .int .i64 0, .int .i64 0, .int .i64 0, .string ByteArray.empty, .slice none 0 0]) (by kernel_rfl) rfl (by decide)
/-- A round's cells. -/
theorem snAtCells {w w' : World} {b o : Nat} {l : List SnV} {k : Nat} {x : SnV} (hx : ∀ (k : Nat) (x : SnV), l[k]? = some x → ∀ (j : Nat) (u : Value), (encSn x)[j]? = some u → w.cell? ⟨b, o + k * 7 + j, none⟩ = some u) (hb : Below w.heap.size w w') (hk : l[k]? = some x) :
    w'.cell? ⟨b, o + k * 7, none⟩ = some (.int .i64 x.s.id) ∧ w'.cell? ⟨b, o + k * 7 + 1, none⟩ = some (.int .i64 x.s.parent) ∧ w'.cell? ⟨b, o + k * 7 + 2, none⟩ = some (.int .i64 x.s.seq) ∧ w'.cell? ⟨b, o + k * 7 + 3, none⟩ = some (.int .i64 x.s.day) ∧ w'.cell? ⟨b, o + k * 7 + 4, none⟩ = some (.int .i64 x.s.index) ∧ w'.cell? ⟨b, o + k * 7 + 5, none⟩ = some (S x.s.op) ∧ w'.cell? ⟨b, o + k * 7 + 6, none⟩ = some (.slice x.a x.n x.c) := by
  have h := fun j u hu => by
    have := hx k x hk j u hu
    exact (hb.cell (World.block_lt_of_cell? w _ this)).trans this
  exact ⟨h 0 _ rfl, h 1 _ rfl, h 2 _ rfl, h 3 _ rfl, h 4 _ rfl, h 5 _ rfl, h 6 _ rfl⟩
/-- A snap's value and where its files lie. -/
theorem snV_of {w : World} {s : Sn} {u : Value} (h : FilesAt w u s.files) : ∃ x : SnV, x.s = s ∧ x.u = u := by
  obtain ⟨a, c, rfl, -, -⟩ := h.form'
  exact ⟨⟨s, a, s.files.length, c⟩, rfl, rfl⟩
end Go.Proofs.YtikboodjfanjkaaGreatDoor
namespace Go.Proofs.YtikboodjfanjkaaGreatDoor

/-- The digits of a text: behind a sign, if it has one. -/
def digOf (s : Str) : Str := if s.head? = some 45 then s.tail else s
def numRef (s : Str) : Option Int :=
  if (digOf s).length < 1 ∨ 11 < s.length then none
  else if (digOf s).head? = some 48 ∧ 1 < s.length then none
  else (Lib.decFrom 0 (digOf s)).map fun (u : Nat) => if (digOf s).length < s.length then -(u : Int) else (u : Int)

theorem digitVal_inv {c : UInt8} {v : Nat} (h : Lib.digitVal c = some v) : v < 10 ∧ c = UInt8.ofNat (48 + v) := by
  unfold Lib.digitVal at h
  split at h
  · rename_i hc
    obtain rfl := Option.some.inj h
    refine ⟨by omega, ?_⟩
    apply UInt8.toNat_inj.1
    rw [digit_val (by omega)]; omega
  · cases h
theorem dec_big {m v : Nat} (hm : 1 ≤ m) (hv : v < 10) : Lib.decDigits (m * 10 + v) = Lib.decDigits m ++ [UInt8.ofNat (48 + v)] := by
  rw [Lib.decDigits, dif_neg (by omega), show (m * 10 + v) / 10 = m by omega, show (m * 10 + v) % 10 = v by omega]
theorem decFrom_dig : ∀ (l : Str) (acc u : Nat), 1 ≤ acc → Lib.decFrom acc l = some u → Lib.decDigits u = Lib.decDigits acc ++ l
  | [], acc, u, _, h => by obtain rfl := Option.some.inj h; simp
  | c :: r, acc, u, ha, h => by
    unfold Lib.decFrom at h
    split at h
    · rename_i v hv
      obtain ⟨h10, hc⟩ := digitVal_inv hv
      rw [decFrom_dig r _ u (by omega) h, dec_big ha h10, hc]; simp
    · cases h
theorem decFrom_dig0 {d : Str} {u : Nat} (hne : d ≠ []) (h0 : d.head? ≠ some 48 ∨ d.length = 1) (h : Lib.decFrom 0 d = some u) : Lib.decDigits u = d := by
  cases d with
  | nil => exact absurd rfl hne
  | cons c r =>
    unfold Lib.decFrom at h
    split at h
    · rename_i v hv
      obtain ⟨h10, hc⟩ := digitVal_inv hv
      rw [Nat.zero_mul, Nat.zero_add] at h
      rcases Nat.eq_zero_or_pos v with rfl | hp
      · rcases h0 with h0 | h0
        · exact absurd (by rw [hc]; rfl) h0
        · have : r = [] := List.eq_nil_of_length_eq_zero (by simpa using h0)
          subst this
          obtain rfl := Option.some.inj h
          rw [Lib.decDigits_one (by omega), hc]
      · rw [decFrom_dig r v u hp h, Lib.decDigits_one h10, hc]; rfl
    · cases h
theorem dec_head {u : Nat} (hu : 1 ≤ u) : (Lib.decDigits u).head? ≠ some 48 := by
  induction u using Nat.strongRecOn with
  | _ u ih =>
    by_cases h : u < 10
    · rw [Lib.decDigits_one h]
      intro e
      have e1 : UInt8.ofNat (48 + u) = 48 := by simpa using e
      have := digit_val h
      rw [e1] at this
      have h2 : (48 : UInt8).toNat = 48 := rfl
      omega
    · have h1 := ih (u / 10) (by omega) (by omega)
      rw [Lib.decDigits, dif_neg h]
      cases hd : Lib.decDigits (u / 10) with
      | nil => exact absurd hd (dec_ne _)
      | cons c r => rw [hd] at h1; exact h1
theorem dec_head45 (u : Nat) : (Lib.decDigits u).head? ≠ some 45 := fun e => by
  have hm : (45 : UInt8) ∈ Lib.decDigits u := List.mem_of_head? e
  have := dec_digit u _ hm
  revert this; decide
theorem atoi_itoa (n : Int) : Lib.atoi (Lib.itoa n) = some n := by
  rcases Int.lt_or_le n 0 with h | h
  · obtain ⟨u, rfl⟩ : ∃ u : Nat, n = -(u : Int) := ⟨n.natAbs, by omega⟩
    rw [Lib.itoa_neg u (by omega)]
    simp [Lib.atoi, decNat_dec]
  · obtain ⟨u, rfl⟩ : ∃ u : Nat, n = u := ⟨n.toNat, by omega⟩
    rw [Lib.itoa_nonneg, atoi_dec]
theorem numOf_iff (s : Str) (n : Int) : numOf s = some n ↔ s.length ≤ 11 ∧ Lib.itoa n = s := by
  constructor
  · intro h
    unfold numOf at h
    split at h
    · split at h
      · rename_i hc; cases h; exact hc
      · cases h
    · cases h
  · rintro ⟨hl, rfl⟩
    unfold numOf
    rw [Lib.atoiAll_short _ (by omega), atoi_itoa]
    simp only [Lib.NumEnd.ofOption]
    rw [if_pos ⟨hl, trivial⟩]
theorem numRef_iff (s : Str) (n : Int) : numRef s = some n ↔ s.length ≤ 11 ∧ Lib.itoa n = s := by
  constructor
  · intro h
    unfold numRef at h
    split at h
    · cases h
    · rename_i h1
      split at h
      · cases h
      · rename_i h2
        cases hd : Lib.decFrom 0 (digOf s) with
        | none => rw [hd] at h; cases h
        | some u =>
          rw [hd] at h
          have h : (if (digOf s).length < s.length then -(u : Int) else u) = n := Option.some.inj h
          refine ⟨by omega, ?_⟩
          have hne : digOf s ≠ [] := fun e => h1 (.inl (by rw [e]; decide))
          by_cases h45 : s.head? = some 45
          · have hdo : digOf s = s.tail := if_pos h45
            have hs : s = 45 :: s.tail := by
              cases s with
              | nil => cases h45
              | cons c r => obtain rfl : c = 45 := by simpa using h45
                            rfl
            have hlen : s.length = s.tail.length + 1 := by rw [congrArg List.length hs]; simp
            rw [hdo] at h h1 h2 hd hne
            rw [if_pos (by omega)] at h
            have hdd := decFrom_dig0 hne (.inl fun e => h2 ⟨e, by omega⟩) hd
            have hu : 1 ≤ u := by
              rcases Nat.eq_zero_or_pos u with rfl | h'
              · rw [Lib.decDigits_one (by omega)] at hdd
                exact absurd ⟨by rw [← hdd]; rfl, by omega⟩ h2
              · exact h'
            rw [← h, Lib.itoa_neg u hu, hdd]; exact hs.symm
          · have hdo : digOf s = s := if_neg h45
            rw [hdo] at h h1 h2 hd hne
            rw [if_neg (by omega)] at h
            have hp : 0 < s.length := List.length_pos_iff.2 hne
            rw [← h, Lib.itoa_nonneg]
            refine decFrom_dig0 hne ?_ hd
            by_cases e : s.head? = some 48
            · exact .inr (by
                rcases Nat.lt_or_ge 1 s.length with h' | h'
                · exact absurd ⟨e, h'⟩ h2
                · omega)
            · exact .inl e
  · rintro ⟨hl, rfl⟩
    unfold numRef
    rcases Int.lt_or_le n 0 with h | h
    · obtain ⟨u, rfl⟩ : ∃ u : Nat, n = -(u : Int) := ⟨n.natAbs, by omega⟩
      have hu : 1 ≤ u := by omega
      rw [Lib.itoa_neg u hu] at hl ⊢
      have hdo : digOf (45 :: Lib.decDigits u) = Lib.decDigits u := if_pos rfl
      have hp : 0 < (Lib.decDigits u).length := List.length_pos_iff.2 (dec_ne u)
      have hl' : (Lib.decDigits u).length + 1 ≤ 11 := hl
      rw [hdo, if_neg (by rw [List.length_cons]; omega), if_neg (fun e => dec_head hu e.1), decFrom_dec]
      simp
    · obtain ⟨u, rfl⟩ : ∃ u : Nat, n = u := ⟨n.toNat, by omega⟩
      rw [Lib.itoa_nonneg] at hl ⊢
      have hdo : digOf (Lib.decDigits u) = Lib.decDigits u := if_neg (dec_head45 u)
      have hp : 0 < (Lib.decDigits u).length := List.length_pos_iff.2 (dec_ne u)
      rw [hdo, if_neg (by omega), if_neg ?_, decFrom_dec]
      · simp
      · rintro ⟨e, e2⟩
        rcases Nat.eq_zero_or_pos u with rfl | h'
        · rw [Lib.decDigits_one (by omega)] at e2; simp at e2
        · exact dec_head h' e
theorem numRef_eq (s : Str) : numRef s = numOf s := by
  cases h : numOf s with
  | none =>
    cases h2 : numRef s with
    | none => rfl
    | some n => rw [(numOf_iff s n).2 ((numRef_iff s n).1 h2)] at h; cases h
  | some n => exact (numRef_iff s n).2 ((numOf_iff s n).1 h)

/-- Digits so far: the bound. -/
theorem decFrom_lt : ∀ (l : Str) (acc u : Nat), Lib.decFrom acc l = some u → u < (acc + 1) * 10 ^ l.length
  | [], acc, u, h => by obtain rfl := Option.some.inj h; simp
  | c :: r, acc, u, h => by
    unfold Lib.decFrom at h
    split at h
    · rename_i v hv
      obtain ⟨h10, _⟩ := digitVal_inv hv
      have h1 := decFrom_lt r _ u h
      have h2 : (acc * 10 + v + 1) * 10 ^ r.length ≤ ((acc + 1) * 10) * 10 ^ r.length := Nat.mul_le_mul_right _ (by omega)
      rw [List.length_cons, Nat.pow_succ, Nat.mul_comm (10 ^ r.length) 10, ← Nat.mul_assoc]
      omega
    · cases h
end Go.Proofs.YtikboodjfanjkaaGreatDoor
namespace Go.Proofs.YtikboodjfanjkaaGreatDoor
open Go.RowKit
attribute [local go_sem] bapp

theorem bytes_conv (w : World) (t : TypeId) (n : Int) : (convert 134 9 (.slice (some ⟨w.heap.size, 0, none⟩) 1 1)).run Tryz.prog (w.alloc (.cells #[.int .u8 n] t)) = .ok (.string ⟨#[UInt8.ofNat n.toNat]⟩) (w.alloc (.cells #[.int .u8 n] t)) := by
  rw [run_convert_bytes_arg _ 134 5 Tryz.underlying134 Tryz.underlying5 w.heap.size 0 1 1 [n] rfl ?_ 9 Tryz.underlying9]
  · rfl
  · intro i hi
    obtain rfl : i = 0 := by omega
    simp

set_option maxRecDepth 100000 in
theorem byte_any (n : Int) (h0 : 0 ≤ n) (h1 : n ≤ 255) (w : World) :
    Calls Tryz.prog 167 #[.int .i64 n] w fun e w' => e = .returned (S [UInt8.ofNat n.toNat]) ∧ Below w.heap.size w w' := by
  have hcv := bytes_conv w 5 n
  have hw : IntKind.u8.wrap n = n := by
    show n % 256 = n
    omega
  go_enter Tryz.func167, Tryz.ntmps167
  go_wp2_with fail
  go_ret
  exact ⟨rfl, (Below.refl _ _).alloc (Nat.le_refl _) _⟩

theorem decDigits_big {u : Nat} (h : ¬ u < 10) : Lib.decDigits u = Lib.decDigits (u / 10) ++ [UInt8.ofNat (48 + u % 10)] := by
  rw [Lib.decDigits, dif_neg h]
theorem digits_len (u : Nat) (h : u ≤ 9223372036854775808) : (Lib.decDigits u).length ≤ 20 := by
  have := Lib.itoa_length_le (-(u : Int)) (by omega) (by omega)
  rcases Nat.eq_zero_or_pos u with rfl | hp
  · rw [Lib.decDigits_one (by omega)]; simp
  · rw [Lib.itoa_neg u hp] at this; simp at this; omega

theorem below_any (k : Nat) : ∀ (n : Int) (w : World), n.natAbs ≤ k → n ≤ 0 → -9223372036854775808 ≤ n →
    Calls Tryz.prog 126 #[.int .i64 n] w fun e w' => e = .returned (S (Lib.decDigits n.natAbs)) ∧ Below w.heap.size w w' := by
  induction k with
  | zero =>
    intro n w hk h0 hlo
    obtain rfl : n = 0 := by omega
    go_enter Tryz.func126, Tryz.ntmps126
    go_wp2_with fail
    refine (byte_any _ (by decide) (by decide) _).mono ?_
    rintro e w1 ⟨rfl, hb⟩
    go_wp2_with fail
    go_ret
    exact ⟨by simp [Lib.decDigits_one], hb⟩
  | succ k ih =>
    intro n w hk h0 hlo
    by_cases hn : -10 < n
    · have hd : Lib.decDigits n.natAbs = [UInt8.ofNat (48 - n).toNat] := by
        rw [Lib.decDigits_one (by omega)]
        congr 2; omega
      have Hd := Lib.hid hd; clear hd
      have Ih := Lib.hid ih; clear ih
      go_enter Tryz.func126, Tryz.ntmps126
      go_wp2_with fail
      refine (byte_any _ (by omega) (by omega) _).mono ?_
      rintro e w1 ⟨rfl, hb⟩
      go_wp2_with fail
      go_ret
      exact ⟨by rw [Hd.out]; rfl, hb⟩
    · have hq : (n.tdiv 10).natAbs = n.natAbs / 10 := by rw [Int.natAbs_tdiv]; rfl
      have hr : (n.tmod 10).natAbs = n.natAbs % 10 := by rw [Int.natAbs_tmod]; rfl
      have hq0 : n.tdiv 10 ≤ 0 := by
        have := Int.tdiv_nonneg (a := -n) (b := 10) (by omega) (by omega)
        rw [Int.neg_tdiv] at this; omega
      have hr0 : n.tmod 10 ≤ 0 := by
        have := Int.tmod_nonneg (a := -n) 10 (by omega)
        rw [Int.neg_tmod] at this; omega
      have hd : Lib.decDigits n.natAbs = Lib.decDigits (n.tdiv 10).natAbs ++ [UInt8.ofNat (48 - n.tmod 10).toNat] := by
        rw [decDigits_big (by omega), hq]
        congr 3; omega
      have hl := digits_len (n.tdiv 10).natAbs (by omega)
      have hrl : -9 ≤ n.tmod 10 := by omega
      have hql : -9223372036854775808 ≤ n.tdiv 10 := by omega
      have hqk : (n.tdiv 10).natAbs ≤ k := by omega
      have Hd := Lib.hid hd; clear hd hq hr
      have Ih := Lib.hid ih; clear ih
      go_enter Tryz.func126, Tryz.ntmps126
      go_wp2_with fail
      refine (Ih.out _ _ hqk hq0 hql).mono ?_
      rintro e w1 ⟨rfl, hb⟩
      generalize Lib.decDigits (n.tdiv 10).natAbs = q at hl Hd ⊢
      go_wp2_with fail
      refine (byte_any _ (by omega) (by omega) _).mono ?_
      rintro e w2 ⟨rfl, hb2⟩
      go_wp2_with fail
      go_ret
      exact ⟨by rw [Hd.out]; rfl, hb.trans (hb2.mono hb.size)⟩

theorem decimalE_any (n : Int) (w : World) (h0 : -9223372036854775808 ≤ n) (h1 : n ≤ 9223372036854775807) :
    Calls Tryz.prog 63 #[.int .i64 n] w fun e w' => e = .returned (S (Lib.itoa n)) ∧ Below w.heap.size w w' := by
  by_cases hn : n < 0
  · have hd : Lib.itoa n = 45 :: Lib.decDigits n.natAbs := if_pos hn
    have hl := digits_len n.natAbs (by omega)
    have Hd := Lib.hid hd; clear hd
    go_enter Tryz.func63, Tryz.ntmps63
    go_wp2_with fail
    refine (below_any _ n _ (Nat.le_refl _) (by omega) (by omega)).mono ?_
    rintro e w1 ⟨rfl, hb⟩
    go_wp2_with fail
    go_ret
    exact ⟨by rw [Hd.out]; rfl, hb⟩
  · have hd : Lib.itoa n = Lib.decDigits (-n).natAbs := by
      unfold Lib.itoa; rw [if_neg hn]; congr 1; omega
    have hn' : 0 ≤ n := by omega
    have Hd := Lib.hid hd; clear hd hn
    go_enter Tryz.func63, Tryz.ntmps63
    go_wp2_with fail
    refine (below_any _ (-n) _ (Nat.le_refl _) (by omega) (by omega)).mono ?_
    rintro e w1 ⟨rfl, hb⟩
    rw [← Hd.out]
    go_wp2_with fail
    go_ret
    exact ⟨rfl, hb⟩
theorem decimal_any (n : Int) (w : World) (h0 : -9223372036854775808 < n) (h1 : n ≤ 9223372036854775807) :
    Calls Tryz.prog 63 #[.int .i64 n] w fun e w' => e = .returned (S (Lib.itoa n)) ∧ Below w.heap.size w w' :=
  decimalE_any n w (Int.le_of_lt h0) h1
end Go.Proofs.YtikboodjfanjkaaGreatDoor
