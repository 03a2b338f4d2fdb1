/- store: Put. -/
import Derived.Test.YtepdedfmdafnkaaGreatDoorStoreBytes
import Derived.Test.YtepdedfmdafnkaaGreatDoorStoreDrop
import Derived.Test.YtepdedfmdafnkaaGreatDoorStoreName
namespace Go.Proofs.YtepdedfmdafnkaaGreatDoor
open Go.RowKit Go.Maps

theorem len_run {w : World} {sb mb : Nat} {s : St} (h : StoreAt w sb mb s) (ty : TypeId) : (Builtin.len_ #[76] ty #[.map (some mb)]).run Tryz.prog w = .ok (.int .i64 (s.objs.length : Int)) w := by
  have := h.own.len Tryz.underlying76 ty
  rwa [size_mapD] at this
theorem St.Ok.put {s : St} (h : s.Ok) {n t : Str} {d : Int} (hn : n.length ≤ 20000) (ht : t.length ≤ 20000) (hg : getO s.objs n = none) (hl : s.objs.length < 200) : St.Ok { s with objs := putO ⟨n, t, d⟩ s.objs } :=
  { ris := putO_rising h.ris hg, day0 := h.day0, day1 := h.day1, cut0 := h.cut0, cut1 := h.cut1, hd := h.hd
    txt := fun o ho => by
      rcases mem_putO.1 ho with rfl | ho
      · exact ht
      · exact h.txt o ho
    nam := fun o ho => by
      rcases mem_putO.1 ho with rfl | ho
      · exact hn
      · exact h.nam o ho
    num := by rw [putO_length]; omega }
/-- m[n] = object. -/
theorem mapSet_any {w : World} {sb mb : Nat} {s : St} (h : StoreAt w sb mb s) {n t : Str} {d : Int} (hn : n.length ≤ 20000) (ht : t.length ≤ 20000) (hg : getO s.objs n = none) (hl : s.objs.length < 200) :
    ∃ w', (Instr.mapUpdate 76 (.map (some mb)) (S n) (.agg #[S t, .int .i64 d])).run Tryz.prog w = .ok () w' ∧ StoreAt w' sb mb { s with objs := putO ⟨n, t, d⟩ s.objs } ∧ But2 sb mb w w' := by
  obtain ⟨w', h1, h2, h3⟩ := h.own.store (string_keyed Tryz.underlying9) Tryz.underlying76 (by unfold maxLen; omega) (keyStr (n := n) (by omega)) (objElem_mk (t := t) (d := d) (by unfold maxLen; omega))
  refine ⟨w', h1, ⟨(mapTurned_blk h3 h.ne h.lt).trans h.blk, ?_, h.ok.put hn ht hg hl⟩, mapTurned_but h3⟩
  rw [put_mapD (x := ⟨n, t, d⟩) hg] at h2
  have := ownsMap_tight h2
  rwa [size_mapD] at this

def putE (s : St) (n t : Str) : Er :=
  if nameOk n = false then .bare 5 else if 20000 < t.length then .bare 2 else if s.off = true then .bare 12 else if (getO s.objs n).isSome = true then .bare 7
  else if 200 ≤ s.objs.length ∨ 262144 < total s.objs + t.length then .bare 8 else if (aft s t.length).off = true then .bare 12 else .nil
def putS (s : St) (n t : Str) : St :=
  if nameOk n = false ∨ 20000 < t.length ∨ s.off = true ∨ (getO s.objs n).isSome = true ∨ 200 ≤ s.objs.length ∨ 262144 < total s.objs + t.length then s
  else { aft s t.length with objs := putO ⟨n, t.take (wrote s t.length), s.day⟩ s.objs }
theorem Bal {w w1 : World} {o : Obj} (h : Below (w.alloc o).heap.size (w.alloc o) w1) : Below w.heap.size w w1 := ((Below.refl _ w).alloc (Nat.le_refl _) o).trans (h.mono (by simp))
theorem take_ext (t : Str) (k : Nat) : S (t.take k) = .string ((ByteArray.mk t.toArray).extract 0 k) := by
  rw [ByteArray.extract_mk]
  simp
theorem Bd1 {B : Nat} {a w : World} (h : Below B a w) : Below B a w.drew := Bdn h 1
theorem obV_shape (o : Option Ob) : ∃ (t : Str) (d : Int), obV o = .agg #[S t, .int .i64 d] := by
  cases o with
  | none => exact ⟨[], 0, rfl⟩
  | some o => exact ⟨_, _, rfl⟩
theorem nameOk_len {n : Str} (h : nameOk n = true) : n.length ≤ 16 := by simp [nameOk] at h; exact h.2.1
theorem aft_objs (s : St) (k : Nat) : (aft s k).objs = s.objs := by unfold aft; split <;> (try split) <;> rfl
theorem aft_day (s : St) (k : Nat) : (aft s k).day = s.day := by unfold aft; split <;> (try split) <;> rfl

set_option maxRecDepth 20000 in
set_option maxHeartbeats 1000000 in
theorem put_any (E : Nat → Addr) (B : Nat) (sb mb : Nat) (s : St) (n t : Str) (w : World) (hE : Errs [2, 5, 7, 8, 12] E B w) (h : StoreAt w sb mb s) (hn : n.length ≤ 100000) (ht : t.length ≤ 100000) (hB : B ≤ sb) (hB2 : B ≤ mb) :
    Calls Tryz.prog 10 #[stP sb, S n, S t] w fun e w' => ∃ ev, e = .returned ev ∧ ErV E w' ev (putE s n t) ∧ StoreAt w' sb mb (putS s n t) ∧ But2 sb mb w w' := by
  have c0 := h.c0
  have hl := look_any h n hn
  have hE1 := fun w1 (hb : But2 sb mb w w1) => hE.below ((Below.refl B w).trans ⟨hb.os, hb.tape, hb.output, hb.size, fun k hk => hb.block k (Nat.lt_of_lt_of_le hk hE.le) (by omega) (by omega)⟩)
  obtain ⟨tx, dx, hov⟩ := obV_shape (getO s.objs n)
  rw [hov] at hl
  generalize hib : (getO s.objs n).isSome = ib at hl
  have HI := Lib.hid hib; have HE := Lib.hid hE1; have H := Lib.hid h; have HL := Lib.hid hl
  clear hov hE1
  unfold putE putS
  rw [HI.out]
  by_cases g1 : nameOk n = true
  case neg =>
    have g1 : nameOk n = false := by simpa using g1
    simp only [g1, if_true, true_or]
    clear hib h
    go_enter Tryz.func10, Tryz.ntmps10
    go_wp2_with fail
    refine (name_any n _ hn).mono ?_
    rintro e w1 ⟨rfl, hb1⟩
    have hb1 := Bal hb1
    have v5 := (HE.out w1 (.of hb1)).var 5 (by decide)
    simp only [errG] at v5
    rw [g1]
    go_wp2_with fail
    go_ret
    exact ⟨_, rfl, ⟨by decide, rfl⟩, H.out.below hb1, .of hb1⟩
  have hn16 := nameOk_len g1
  by_cases g2 : 20000 < t.length
  case pos =>
    simp only [g1, g2, if_true, true_or, or_true, Bool.true_eq_false, if_false]
    have g2 : (20000 : Int) < (t.length : Int) := by omega
    clear hib h
    go_enter Tryz.func10, Tryz.ntmps10
    go_wp2_with fail
    refine (name_any n _ hn).mono ?_
    rintro e w1 ⟨rfl, hb1⟩
    have hb1 := Bal hb1
    have v2 := (HE.out w1 (.of hb1)).var 2 (by decide)
    simp only [errG] at v2
    rw [g1]
    go_wp2_with fail
    go_ret
    exact ⟨_, rfl, ⟨by decide, rfl⟩, H.out.below hb1, .of hb1⟩
  have k2 : (t.length : Int) ≤ 20000 := by omega
  by_cases g3 : s.off = true
  case pos =>
    simp only [g1, g2, g3, if_true, true_or, or_true, Bool.true_eq_false, if_false]
    clear hib h
    go_enter Tryz.func10, Tryz.ntmps10
    go_wp2_with fail
    refine (name_any n _ hn).mono ?_
    rintro e w1 ⟨rfl, hb1⟩
    have hb1 := Bal hb1
    have v12 := (HE.out w1 (.of hb1)).var 12 (by decide)
    simp only [errG] at v12
    have c3 := (H.out.below hb1).c3
    rw [g3] at c3
    rw [g1]
    go_wp2_with fail
    go_ret
    exact ⟨_, rfl, ⟨by decide, rfl⟩, H.out.below hb1, .of hb1⟩
  have g3 : s.off = false := by simpa using g3
  by_cases g4 : ib = true
  case pos =>
    subst g4
    simp only [g1, g2, g3, if_true, true_or, or_true, Bool.true_eq_false, if_false, Bool.false_eq_true]
    clear hib h
    go_enter Tryz.func10, Tryz.ntmps10
    go_wp2_with fail
    refine (name_any n _ hn).mono ?_
    rintro e w1 ⟨rfl, hb1⟩
    have hb1 := Bal hb1
    have v7 := (HE.out w1 (.of hb1)).var 7 (by decide)
    simp only [errG] at v7
    have c3 := (H.out.below hb1).c3
    rw [g3] at c3
    rw [g1]
    go_wp2_with fail
    go_ret
    exact ⟨_, rfl, ⟨by decide, rfl⟩, H.out.below hb1, .of hb1⟩
  obtain rfl : ib = false := by simpa using g4
  have hg : getO s.objs n = none := by simpa using hib
  by_cases g5 : 200 ≤ s.objs.length
  case pos =>
    simp only [g1, g2, g3, g5, if_true, true_or, or_true, Bool.true_eq_false, if_false, Bool.false_eq_true]
    have g5 : (200 : Int) ≤ (s.objs.length : Int) := by omega
    clear hib h hg
    go_enter Tryz.func10, Tryz.ntmps10
    go_wp2_with fail
    refine (name_any n _ hn).mono ?_
    rintro e w1 ⟨rfl, hb1⟩
    have hb1 := Bal hb1
    have v8 := (HE.out w1 (.of hb1)).var 8 (by decide)
    simp only [errG] at v8
    have c3 := (H.out.below hb1).c3
    have c0' := (H.out.below hb1).c0
    have hlen := len_run (H.out.below hb1)
    rw [g3] at c3
    rw [g1]
    go_wp2_with fail
    go_ret
    exact ⟨_, rfl, ⟨by decide, rfl⟩, H.out.below hb1, .of hb1⟩
  have k5 : decide ((200 : Int) ≤ (s.objs.length : Int)) = false := by simp; omega
  have k5' : (s.objs.length : Int) < 200 := by omega
  have htot := total_le H.out.ok
  by_cases g6 : 262144 < total s.objs + t.length
  case pos =>
    simp only [g1, g2, g3, g6, if_true, or_true, Bool.true_eq_false, if_false, Bool.false_eq_true]
    have g6 : (262144 : Int) < (total s.objs : Int) + (t.length : Int) := by omega
    clear hib h hg
    go_enter Tryz.func10, Tryz.ntmps10
    go_wp2_with fail
    refine (name_any n _ hn).mono ?_
    rintro e w1 ⟨rfl, hb1⟩
    have hb1 := Bal hb1
    have c3 := (H.out.below hb1).c3
    have c0' := (H.out.below hb1).c0
    have hlen := len_run (H.out.below hb1)
    rw [g3] at c3
    rw [g1]
    go_wp2_with fail
    refine (bytes_any sb mb s _ (H.out.below hb1)).mono ?_
    rintro e w2 ⟨rfl, hb2⟩
    have hb2' := hb1.trans (hb2.mono hb1.size)
    have v8 := (HE.out w2 (.of hb2')).var 8 (by decide)
    simp only [errG] at v8
    generalize total s.objs = tt at *
    go_wp2_with fail
    go_ret
    exact ⟨_, rfl, ⟨by decide, rfl⟩, H.out.below hb2', .of hb2'⟩
  have k6 : decide ((262144 : Int) < (total s.objs : Int) + (t.length : Int)) = false := by simp; omega
  have k6' : (total s.objs : Int) + (t.length : Int) ≤ 262144 := by omega
  simp only [g1, g2, g3, g5, g6, Bool.true_eq_false, if_false, Bool.false_eq_true, false_or]
  have k5n : s.objs.length < 200 := by omega
  obtain ⟨af, haf⟩ : ∃ af, (aft s t.length).off = af := ⟨_, rfl⟩
  rw [haf]
  have HF := Lib.hid haf
  clear haf
  have Hg := Lib.hid hg
  have K5 := Lib.hid k5n
  have HT := Lib.hid htot
  clear hib h hg g2 g5 g6 k5n htot
  go_enter Tryz.func10, Tryz.ntmps10
  go_wp2_with fail
  refine (name_any n _ hn).mono ?_
  rintro e w1 ⟨rfl, hb1⟩
  have hb1 := Bal hb1
  have c3 := (H.out.below hb1).c3
  have c0' := (H.out.below hb1).c0
  have hlen := len_run (H.out.below hb1)
  rw [g3] at c3
  rw [g1]
  go_wp2_with fail
  refine (bytes_any sb mb s _ (H.out.below hb1)).mono ?_
  rintro e w2 ⟨rfl, hb2⟩
  have hb2' := hb1.trans (hb2.mono hb1.size)
  have hd := H.out.below (Bd1 hb2')
  have HD := Lib.hid hd
  have c0'' := hd.c0
  have c2'' := hd.c2
  have HB := Lib.hid (But2.of (sb := sb) (mb := mb) (Bd1 hb2'))
  clear c0 c0' c3 hlen HL hd
  generalize total s.objs = tt at *
  go_wp2_with fail
  go_region_with (go_at_call 46; refine (write_any sb mb s t.length _ HD.out ht).mono ?_; rintro e w3 ⟨rfl, h3, hb3⟩; have hwl := wrote_le s t.length; have c2 := h3.c2; rw [aft_day] at c2; have c0 := h3.c0; clear c0'' c2''; obtain ⟨w4, hrun, h4, hb4⟩ := mapSet_any h3 (n := n) (t := t.take (wrote s t.length)) (d := s.day) (by omega) (by rw [List.length_take]; omega) (by rw [aft_objs]; exact Hg.out) (by rw [aft_objs]; exact K5.out); have hb4' := (HB.out.trans hb3).trans hb4; rw [aft_objs, HF.out] at h4; have c3' := h4.c3; simp only at c3'; have v12 := (HE.out w4 hb4').var 12 (by decide); simp only [errG] at v12; have H4 := Lib.hid h4; have HB4 := Lib.hid hb4'; clear h3 hb3 h4 hb4 hb4'; rw [take_ext] at hrun; obtain ⟨wr, hwr⟩ : ∃ wr, wrote s t.length = wr := ⟨_, rfl⟩; rw [hwr] at hwl hrun; rw [hwr]; have HW := Lib.hid hwr; clear hwr)
  all_goals
    clear HF
    cases af with
    | true =>
      go_wp2_with fail
      go_ret
      exact ⟨_, rfl, ⟨by decide, rfl⟩, HW.out ▸ H4.out, HB4.out⟩
    | false =>
      go_wp2_with fail
      go_ret
      exact ⟨_, rfl, rfl, HW.out ▸ H4.out, HB4.out⟩
end Go.Proofs.YtepdedfmdafnkaaGreatDoor
