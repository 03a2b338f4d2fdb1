/- list.Add, list.Remove. -/
import Derived.Test.YtpicofkmeijioaaGreatDoorFlB
namespace Go.Proofs.YtpicofkmeijioaaGreatDoor
open Go.RowKit

theorem addE_bad {l : List Fl} {f : Fl} (h : listCheck l ≠ .nil) : addE l f = listCheck l := if_pos h
theorem addE_file {l : List Fl} {f : Fl} (h : listCheck l = .nil) (h1 : checkF f ≠ 0) : addE l f = .bare (checkF f) := by unfold addE; rw [if_neg (by simp [h]), if_pos h1]
theorem addE_there {l : List Fl} {f : Fl} (h : listCheck l = .nil) (h1 : checkF f = 0) (h2 : thereF l f) : addE l f = .bare 7 := by unfold addE; rw [if_neg (by simp [h]), if_neg (by simp [h1]), if_pos h2]
theorem addE_full {l : List Fl} {f : Fl} (h : listCheck l = .nil) (h1 : checkF f = 0) (h2 : ¬ thereF l f) (h3 : 60 ≤ l.length) : addE l f = .bare 8 := by unfold addE; rw [if_neg (by simp [h]), if_neg (by simp [h1]), if_neg h2, if_pos h3]
theorem addE_nil {l : List Fl} {f : Fl} (h : listCheck l = .nil) (h1 : checkF f = 0) (h2 : ¬ thereF l f) (h3 : ¬ 60 ≤ l.length) : addE l f = .nil := by unfold addE; rw [if_neg (by simp [h]), if_neg (by simp [h1]), if_neg h2, if_neg h3]
theorem addL_bad {l : List Fl} {f : Fl} (h : addE l f ≠ .nil) : addL l f = [] := if_neg h

set_option maxHeartbeats 1000000 in
set_option maxRecDepth 20000 in
theorem listAdd_any (E : Nat → Addr) (B : Nat) (v : Value) (l : List Fl) (f : Fl) (w : World) (hE : Errs [2, 4, 5, 7, 8, 9] E B w) (hT : LNum B w) (hM : LMax B w) (hl : FilesAt w v l) (hs : ∀ x ∈ l, midF x) (hf : midF f) (hn : l.length ≤ 10000) :
    Calls Tryz.prog 35 #[v, fileV f] w fun e w' => ∃ u ev, e = .returned (.tuple #[u, ev]) ∧ FilesAt w' u (addL l f) ∧ ErV E w' ev (addE l f) ∧ Below w.heap.size w w' := by
  have hBw := hE.le
  have hif := isIfaceE
  obtain ⟨a, c, rfl, -, -⟩ := hl.form'
  have hba : Below w.heap.size w (w.alloc (.cells #[S f.path, S f.part, .int .i64 f.n, .int .i64 f.lo, .int .i64 f.hi, .int .i64 f.seq] 50)) := (Below.refl _ _).alloc (Nat.le_refl _) _
  have Cs := Lib.hid (fun w6 (h : Below (w.alloc (.cells #[S f.path, S f.part, .int .i64 f.n, .int .i64 f.lo, .int .i64 f.hi, .int .i64 f.seq] 50)).heap.size (w.alloc (.cells #[S f.path, S f.part, .int .i64 f.n, .int .i64 f.lo, .int .i64 f.hi, .int .i64 f.seq] 50)) w6) => fileCells rfl h)
  have hE1 := hE.below' hba hBw; have hT1 := hT.below' hba hBw; have hM1 := hM.below' hba hBw
  have hl1 := hl.below hba
  go_enter Tryz.func35, Tryz.ntmps35
  go_wp2_with fail
  generalize w.alloc (.cells #[S f.path, S f.part, .int .i64 f.n, .int .i64 f.lo, .int .i64 f.hi, .int .i64 f.seq] 50) = w1 at *
  refine (listCheck_any E B _ l _ (hE1.sub (by decide)) hT1 hM1 hl1 hs).mono ?_
  rintro e w2 ⟨ev, rfl, hev, hb2⟩
  have hb2' := hba.trans (hb2.mono hba.size)
  by_cases hck : listCheck l = .nil
  case neg =>
    have HA := Lib.hid (addE_bad (f := f) hck)
    have HL : Hid (addL l f = []) := Lib.hid (addL_bad (by rw [HA.out]; exact hck))
    obtain ⟨u, x, rfl⟩ := hev.iface hck
    have He := Lib.hid hev; clear hev hck
    go_wp2_with fail
    go_ret2
    exact ⟨_, _, rfl, by rw [HL.out]; exact At.nil _ _ _, by rw [HA.out]; exact He.out, hb2'⟩
  rw [hck] at hev
  obtain rfl : ev = .nilIface := hev
  have HC := Lib.hid hck; clear hck
  obtain ⟨c0, c1, c2, c3, c4, c5⟩ := Cs.out w2 hb2
  go_wp2_with fail
  refine (fileCheck_any E B f _ ((hE1.sub (by decide)).below' hb2 hE1.le) (hT1.below' hb2 hE1.le) (hM1.below' hb2 hE1.le) hf).mono ?_
  rintro e w3 ⟨ev, rfl, hev, hb3⟩
  have hb3' := hb2.trans (hb3.mono hb2.size)
  have hb3w := hba.trans (hb3'.mono hba.size)
  clear c0 c1 c2 c3 c4 c5
  by_cases hfc : checkF f = 0
  case neg =>
    have HA := Lib.hid (addE_file HC.out hfc)
    have HL : Hid (addL l f = []) := Lib.hid (addL_bad (by rw [HA.out]; exact fun h => by cases h))
    rw [fileEr_bad rfl hfc] at hev
    obtain ⟨hcr, rfl⟩ := hev
    have HF := Lib.hid hfc; clear hfc
    go_wp2_with fail
    go_ret2
    exact ⟨_, _, rfl, by rw [HL.out]; exact At.nil _ _ _, by rw [HA.out]; exact ⟨hcr, rfl⟩, hb3w⟩
  rw [fileEr_nil hfc] at hev
  obtain rfl : ev = .nilIface := hev
  have HF := Lib.hid hfc; clear hfc
  have HR := Lib.hid ((right_iff l).1 HC.out)
  obtain ⟨c0, c1, c2, c3, c4, c5⟩ := Cs.out w3 hb3'
  have hl3 := hl1.below hb3'
  have V0 := fun w6 (h : Below w1.heap.size w1 w6) => (⟨(hE1.below' h hE1.le).var 7 (by decide), (hE1.below' h hE1.le).var 8 (by decide)⟩ : _ ∧ _)
  simp only [errG] at V0
  have V := Lib.hid V0
  clear V0
  go_wp2_with fail
  refine (bsearchF_any _ _ f w3.heap.size w3 _ l _ clo_add1 (fun W x hx hbW hle => ?_) hl3 (by omega) HR.out.ris (Below.refl _ _) (Nat.le_refl _)).mono ?_
  · have hbW' := hb3'.trans (hbW.mono hb3'.size)
    exact add1_any E B x f W ((hE1.sub (by decide)).below' hbW' hE1.le) (hT1.below' hbW' hE1.le) (hM1.below' hbW' hE1.le) (hs x hx) hf
  rintro e w4 ⟨k, rfl, hpl, hb4⟩
  have hb4' := hb3'.trans (hb4.mono hb3'.size)
  have hb4w := hba.trans (hb4'.mono hba.size)
  clear c0 c1 c2 c3 c4 c5
  obtain ⟨v7, v8⟩ := V.out w4 hb4'
  by_cases hth : thereF l f
  case pos =>
    have HA := Lib.hid (addE_there HC.out HF.out hth)
    have HL : Hid (addL l f = []) := Lib.hid (addL_bad (by rw [HA.out]; exact fun h => by cases h))
    rw [decide_eq_true hth]
    have HTH := Lib.hid hth; clear hth
    go_wp2_with fail
    go_quiet (fail)
    go_wp2_with fail
    go_ret2
    exact ⟨_, _, rfl, by rw [HL.out]; exact At.nil _ _ _, by rw [HA.out]; exact ⟨by decide, rfl⟩, Bdn hb4w _⟩
  rw [decide_eq_false hth]
  have HTH := Lib.hid hth; clear hth
  by_cases h60 : 60 ≤ l.length
  case pos =>
    have HA := Lib.hid (addE_full HC.out HF.out HTH.out h60)
    have HL : Hid (addL l f = []) := Lib.hid (addL_bad (by rw [HA.out]; exact fun h => by cases h))
    have g60 : (60 : Int) ≤ (l.length : Int) := by omega
    clear h60
    go_wp2_with fail
    go_quiet (fail)
    go_wp2_with fail
    go_ret2
    exact ⟨_, _, rfl, by rw [HL.out]; exact At.nil _ _ _, by rw [HA.out]; exact ⟨by decide, rfl⟩, Bdn hb4w _⟩
  have HA := Lib.hid (addE_nil HC.out HF.out HTH.out h60)
  have HL : Hid (addL l f = l.take k ++ f :: l.drop k) := Lib.hid (by unfold addL; rw [if_pos HA.out, placeF_at hpl])
  have g60 : decide ((60 : Int) ≤ (l.length : Int)) = false := by simp; omega
  have hkl := hpl.le
  clear h60 hpl
  have hl4 := hl1.below hb4'
  obtain ⟨d0, d1, d2, d3, d4, d5⟩ := Cs.out w4 hb4'
  go_wp2_with fail
  go_region_held3 (fun w' => w'.cell? ⟨w.heap.size, 0, none⟩ = some (S f.path) ∧ w'.cell? ⟨w.heap.size, 1, none⟩ = some (S f.part) ∧ w'.cell? ⟨w.heap.size, 2, none⟩ = some (.int .i64 f.n) ∧ w'.cell? ⟨w.heap.size, 3, none⟩ = some (.int .i64 f.lo) ∧ w'.cell? ⟨w.heap.size, 4, none⟩ = some (.int .i64 f.hi) ∧ w'.cell? ⟨w.heap.size, 5, none⟩ = some (.int .i64 f.seq))
    (first | exact ⟨d0, d1, d2, d3, d4, d5⟩ | exact Cs.out _ (hb4'.drew.alloc hb4'.size _) | exact Cs.out _ (hb5'.alloc hb5'.size _))
    (first
      | (go_at_call 93; refine (cloneF_any _ l _ (hl1.below (by first | exact hb4'.drew | exact hb4'.drew.alloc hb4'.size _)) (by omega)).mono ?_; rintro e w5 ⟨v5, rfl, hown5, hb5⟩; have hb5' : Below w1.heap.size w1 w5 := (by first | exact hb4'.drew.trans (hb5.mono hb4'.size) | exact (hb4'.drew.alloc hb4'.size _).trans (hb5.mono (Nat.le_trans hb4'.size (by simp)))); clear d0 d1 d2 d3 d4 d5; obtain ⟨d0, d1, d2, d3, d4, d5⟩ := Cs.out w5 hb5')
      | (go_at_call 92; refine (insertF_any w4.heap.size _ l f k w5.heap.size _ (hown5.alloc _) hkl hn (by have := hb5.size; simp at this ⊢; omega) (heap_alloc_new w5 _) (fun h => absurd (World.ownsRow.lt hown5 _ h).2 (Nat.lt_irrefl _))).mono ?_; rintro e w6 ⟨v6, rfl, hown6, hb6⟩; have hb6w : Below w.heap.size w w6 := hba.trans (((hb5'.alloc hb5'.size _).trans (hb6.mono hb4'.size)).mono hba.size); have hat6 := Lib.hid (hown6.at encF_enc); clear d0 d1 d2 d3 d4 d5; obtain ⟨d0, d1, d2, d3, d4, d5⟩ := Cs.out w6 ((hb5'.alloc hb5'.size _).trans (hb6.mono hb4'.size)))
      | (go_at_call 92; refine (insertF_any _ _ l f k w4.heap.size _ hown5 hkl hn hb5.size ((hb5.block w4.heap.size (by simp)).trans (heap_alloc_new w4.drew _)) (fun h => absurd (World.ownsRow.lt hown5 _ h).1 (by simp))).mono ?_; rintro e w6 ⟨v6, rfl, hown6, hb6⟩; have hb6' : Below w1.heap.size w1 w6 := hb5'.trans (hb6.mono (Nat.le_trans hb4'.size (by simp))); have hb6w : Below w.heap.size w w6 := hba.trans (hb6'.mono hba.size); have hat6 := Lib.hid (hown6.at encF_enc); clear d0 d1 d2 d3 d4 d5; obtain ⟨d0, d1, d2, d3, d4, d5⟩ := Cs.out w6 hb6'))
  all_goals
    go_wp2_with fail
    go_ret2
    exact ⟨_, _, rfl, by rw [HL.out]; exact hat6.out, by rw [HA.out]; rfl, hb6w⟩

theorem removeE_bad {l : List Fl} {p : Str} (h : listCheck l ≠ .nil) : removeE l p = listCheck l := if_pos h
theorem removeE_none {l : List Fl} {p : Str} (h : listCheck l = .nil) (h1 : findF l p = none) : removeE l p = .bare 6 := by unfold removeE; rw [if_neg (by simp [h]), if_pos (by rw [h1]; rfl)]
theorem removeE_nil {l : List Fl} {p : Str} {k : Nat} (h : listCheck l = .nil) (h1 : findF l p = some k) : removeE l p = .nil := by unfold removeE; rw [if_neg (by simp [h]), if_neg (by rw [h1]; simp)]
theorem removeL_bad {l : List Fl} {p : Str} (h : removeE l p ≠ .nil) : removeL l p = [] := if_neg h
theorem findF_some {l : List Fl} {p : Str} {k : Nat} (h : findF l p = some k) : ∃ x, l[k]? = some x ∧ x.path = p := by
  unfold findF at h
  obtain ⟨hk, h1, -⟩ := List.findIdx?_eq_some_iff_getElem.1 h
  exact ⟨l[k], List.getElem?_eq_getElem hk, by simpa using h1⟩
theorem findV_some {l : List Fl} {p : Str} {k : Nat} (h : findF l p = some k) : findV l p = k := by
  unfold findF at h; unfold findV idxVal; rw [h]
theorem findV_none {l : List Fl} {p : Str} (h : findF l p = none) : findV l p = -1 := by
  unfold findF at h; unfold findV idxVal; rw [h]
set_option maxHeartbeats 1000000 in
set_option maxRecDepth 20000 in
theorem listRemove_any (E : Nat → Addr) (B : Nat) (v : Value) (l : List Fl) (p : Str) (w : World) (hE : Errs [2, 4, 5, 6, 8, 9] E B w) (hT : LNum B w) (hM : LMax B w) (hl : FilesAt w v l) (hs : ∀ x ∈ l, midF x) :
    Calls Tryz.prog 38 #[v, S p] w fun e w' => ∃ u ev, e = .returned (.tuple #[u, ev]) ∧ FilesAt w' u (removeL l p) ∧ ErV E w' ev (removeE l p) ∧ Below w.heap.size w w' := by
  have hBw := hE.le
  have hif := isIfaceE
  have hl0 := hl
  obtain ⟨a, c, rfl, -, -⟩ := hl.form'
  have V0 := fun w6 (h : Below w.heap.size w w6) => (hE.below' h hBw).var 6 (by decide)
  simp only [errG] at V0
  have V := Lib.hid V0
  clear V0
  go_enter Tryz.func38, Tryz.ntmps38
  go_wp2_with fail
  refine (listCheck_any E B _ l _ (hE.sub (by decide)) hT hM hl hs).mono ?_
  rintro e w2 ⟨ev, rfl, hev, hb2⟩
  by_cases hck : listCheck l = .nil
  case neg =>
    have HA := Lib.hid (removeE_bad (p := p) hck)
    have HL : Hid (removeL l p = []) := Lib.hid (removeL_bad (by rw [HA.out]; exact hck))
    obtain ⟨u, x, rfl⟩ := hev.iface hck
    have He := Lib.hid hev; clear hev hck
    go_wp2_with fail
    go_ret2
    exact ⟨_, _, rfl, by rw [HL.out]; exact At.nil _ _ _, by rw [HA.out]; exact He.out, hb2⟩
  rw [hck] at hev
  obtain rfl : ev = .nilIface := hev
  have HC := Lib.hid hck; clear hck
  have hl2 := hl.below hb2
  go_wp2_with fail
  refine (listFind_any _ l p _ hl2).mono ?_
  rintro e w3 ⟨rfl, hb3⟩
  have hb3' := hb2.trans (hb3.mono hb2.size)
  cases hfi : findF l p with
  | none =>
    have HA := Lib.hid (removeE_none HC.out hfi)
    have HL : Hid (removeL l p = []) := Lib.hid (removeL_bad (by rw [HA.out]; exact fun h => by cases h))
    rw [findV_none hfi]
    clear hfi
    have v6 := V.out w3 hb3'
    go_wp2_with fail
    go_quiet (fail)
    go_wp2_with fail
    go_ret2
    exact ⟨_, _, rfl, by rw [HL.out]; exact At.nil _ _ _, by rw [HA.out]; exact ⟨by decide, rfl⟩, Bdn hb3' _⟩
  | some k =>
    have HA := Lib.hid (removeE_nil HC.out hfi)
    obtain ⟨x, hxk, hxp⟩ := findF_some hfi
    have HR := Lib.hid ((right_iff l).1 HC.out)
    have HL : Hid (removeL l p = l.take k ++ l.drop (k + 1)) := Lib.hid (by unfold removeL; rw [if_pos HA.out, ← hxp, dropF_at HR.out.ris hxk])
    rw [findV_some hfi]
    obtain ⟨hk, -⟩ := List.getElem?_eq_some_iff.1 hxk
    have h60 := HR.out.len
    clear hfi hxk hxp
    have hl3 := hl.below hb3'
    have hkn : ((k : Int) < 0) = False := by simp
    go_wp2_with fail
    refine (cloneF_any _ l _ hl3 (by omega)).mono ?_
    rintro e w4 ⟨v4, rfl, hown, hb4⟩
    have hb4' := hb3'.trans (hb4.mono hb3'.size)
    obtain ⟨a4, c4, rfl, -, -⟩ := (hown.at encF_enc).form'
    have hwk : IntKind.i64.wrap ((k : Int) + 1) = (k : Int) + 1 := by rw [IntKind.wrap_i64]; omega
    have hD := deleteF_any w3.heap.size _ l k w4 hown hk (by omega) hb4.size
    have HD := Lib.hid hD; clear hD
    go_wp2_with fail
    refine HD.out.mono ?_
    rintro e w5 ⟨v5, rfl, hown5, hb5⟩
    have Ho := Lib.hid (hown5.at encF_enc)
    go_wp2_with fail
    go_ret2
    exact ⟨_, _, rfl, by rw [HL.out]; exact Ho.out, by rw [HA.out]; rfl, hb4'.trans (hb5.mono hb3'.size)⟩
end Go.Proofs.YtpicofkmeijioaaGreatDoor
