/- store: Put. The model of a store: isObject, Put. The model of a store: Put. Rising lists of texts without doubles: a text more; sorted and compacted. Of no program. Package meta in plain words: of no program. -/
import Derived.Test.YtefoaeamfkbgbaaGreatDoorP4
import Derived.Test.YtefoaeamfkbgbaaGreatDoorP2
import Derived.Deep.CutBlock
import Derived.Deep.DeepCutAuto
import Derived.Deep.RegionLaw
import Derived.Test.YtefoaeamfkbgbaaGreatDoorP1
import Derived.Lib.SlicesCompact
namespace Go.Proofs.YtefoaeamfkbgbaaGreatDoor
open Go.RowKit Go.Maps

theorem len_run {w : World} {sb mb : Nat} {s : St} (h : StoreAt w sb mb s) (ty : TypeId) : (Builtin.len_ #[124] ty #[.map (some mb)]).run Tryz.prog w = .ok (.int .i64 (s.objs.length : Int)) w := by
  have := h.own.len Tryz.underlying124 ty
  rwa [size_mapD] at this
theorem St.Ok.put {s : St} (h : s.Ok) {n t : Str} {d : Int} (hn : n.length ≤ 20000) (ht : t.length ≤ 20000) (hg : getO s.objs n = none) (hl : s.objs.length < 200) : St.Ok { s with objs := putO ⟨n, t, d⟩ s.objs } :=
  { ris := putO_rising h.ris hg, day0 := h.day0, day1 := h.day1, cut0 := h.cut0, cut1 := h.cut1, hd := h.hd
    txt := fun o ho => by
      rcases mem_putO.1 ho with rfl | ho
      · exact ht
      · exact h.txt o ho
    nam := fun o ho => by
      rcases mem_putO.1 ho with rfl | ho
      · exact hn
      · exact h.nam o ho
    num := by rw [putO_length]; omega }
/-- m[n] = object. -/
theorem mapSet_any {w : World} {sb mb : Nat} {s : St} (h : StoreAt w sb mb s) {n t : Str} {d : Int} (hn : n.length ≤ 20000) (ht : t.length ≤ 20000) (hg : getO s.objs n = none) (hl : s.objs.length < 200) :
    ∃ w', (Instr.mapUpdate 124 (.map (some mb)) (S n) (.agg #[S t, .int .i64 d])).run Tryz.prog w = .ok () w' ∧ StoreAt w' sb mb { s with objs := putO ⟨n, t, d⟩ s.objs } ∧ But2 sb mb w w' := by
  obtain ⟨w', h1, h2, h3⟩ := h.own.store (string_keyed Tryz.underlying9) Tryz.underlying124 (by unfold maxLen; omega) (keyStr (n := n) (by omega)) (objElem_mk (t := t) (d := d) (by unfold maxLen; omega))
  refine ⟨w', h1, ⟨(mapTurned_blk h3 h.ne h.lt).trans h.blk, ?_, h.ok.put hn ht hg hl⟩, mapTurned_but h3⟩
  rw [put_mapD (x := ⟨n, t, d⟩) hg] at h2
  have := ownsMap_tight h2
  rwa [size_mapD] at this

def putE (s : St) (n t : Str) : Er :=
  if nameOkS n = false then .bare 5 else if 20000 < t.length then .bare 2 else if s.off = true then .bare 12 else if (getO s.objs n).isSome = true then .bare 7
  else if 200 ≤ s.objs.length ∨ 262144 < total s.objs + t.length then .bare 8 else if (aft s t.length).off = true then .bare 12 else .nil
def putS (s : St) (n t : Str) : St :=
  if nameOkS n = false ∨ 20000 < t.length ∨ s.off = true ∨ (getO s.objs n).isSome = true ∨ 200 ≤ s.objs.length ∨ 262144 < total s.objs + t.length then s
  else { aft s t.length with objs := putO ⟨n, t.take (wrote s t.length), s.day⟩ s.objs }
theorem Bal {w w1 : World} {o : Obj} (h : Below (w.alloc o).heap.size (w.alloc o) w1) : Below w.heap.size w w1 := ((Below.refl _ w).alloc (Nat.le_refl _) o).trans (h.mono (by simp))
theorem take_ext (t : Str) (k : Nat) : S (t.take k) = .string ((ByteArray.mk t.toArray).extract 0 k) := by
  rw [ByteArray.extract_mk]
  simp
theorem Bd1 {B : Nat} {a w : World} (h : Below B a w) : Below B a w.drew := Bdn h 1
theorem obV_shape (o : Option Ob) : ∃ (t : Str) (d : Int), obV o = .agg #[S t, .int .i64 d] := by
  cases o with
  | none => exact ⟨[], 0, rfl⟩
  | some o => exact ⟨_, _, rfl⟩
theorem nameOk_len {n : Str} (h : nameOkS n = true) : n.length ≤ 16 := by simp [nameOkS] at h; exact h.2.1
theorem aft_objs (s : St) (k : Nat) : (aft s k).objs = s.objs := by unfold aft; split <;> (try split) <;> rfl
theorem aft_day (s : St) (k : Nat) : (aft s k).day = s.day := by unfold aft; split <;> (try split) <;> rfl

set_option maxRecDepth 20000 in
set_option maxHeartbeats 1000000 in
theorem put_any (E : Nat → Addr) (B : Nat) (sb mb : Nat) (s : St) (n t : Str) (w : World) (hE : Errs [2, 5, 7, 8, 12] E B w) (h : StoreAt w sb mb s) (hn : n.length ≤ 100000) (ht : t.length ≤ 100000) (hB : B ≤ sb) (hB2 : B ≤ mb) :
    Calls Tryz.prog 37 #[stP sb, S n, S t] w fun e w' => ∃ ev, e = .returned ev ∧ ErV E w' ev (putE s n t) ∧ StoreAt w' sb mb (putS s n t) ∧ But2 sb mb w w' := by
  have c0 := h.c0
  have hl := look_any h n hn
  have hE1 := fun w1 (hb : But2 sb mb w w1) => hE.below ((Below.refl B w).trans ⟨hb.os, hb.tape, hb.output, hb.size, fun k hk => hb.block k (Nat.lt_of_lt_of_le hk hE.le) (by omega) (by omega)⟩)
  obtain ⟨tx, dx, hov⟩ := obV_shape (getO s.objs n)
  rw [hov] at hl
  generalize hib : (getO s.objs n).isSome = ib at hl
  have HI := Lib.hid hib; have HE := Lib.hid hE1; have H := Lib.hid h; have HL := Lib.hid hl
  clear hov hE1
  unfold putE putS
  rw [HI.out]
  by_cases g1 : nameOkS n = true
  case neg =>
    have g1 : nameOkS n = false := by simpa using g1
    simp only [g1, if_true, true_or]
    clear hib h
    go_enter Tryz.func37, Tryz.ntmps37
    go_wp2_with fail
    refine (name_any n _ hn).mono ?_
    rintro e w1 ⟨rfl, hb1⟩
    have hb1 := Bal hb1
    have v5 := (HE.out w1 (.of hb1)).var 5 (by decide)
    simp only [errG] at v5
    rw [g1]
    go_wp2_with fail
    go_ret
    exact ⟨_, rfl, ⟨by decide, rfl⟩, H.out.below hb1, .of hb1⟩
  have hn16 := nameOk_len g1
  by_cases g2 : 20000 < t.length
  case pos =>
    simp only [g1, g2, if_true, true_or, or_true, Bool.true_eq_false, if_false]
    have g2 : (20000 : Int) < (t.length : Int) := by omega
    clear hib h
    go_enter Tryz.func37, Tryz.ntmps37
    go_wp2_with fail
    refine (name_any n _ hn).mono ?_
    rintro e w1 ⟨rfl, hb1⟩
    have hb1 := Bal hb1
    have v2 := (HE.out w1 (.of hb1)).var 2 (by decide)
    simp only [errG] at v2
    rw [g1]
    go_wp2_with fail
    go_ret
    exact ⟨_, rfl, ⟨by decide, rfl⟩, H.out.below hb1, .of hb1⟩
  have k2 : (t.length : Int) ≤ 20000 := by omega
  by_cases g3 : s.off = true
  case pos =>
    simp only [g1, g2, g3, if_true, true_or, or_true, Bool.true_eq_false, if_false]
    clear hib h
    go_enter Tryz.func37, Tryz.ntmps37
    go_wp2_with fail
    refine (name_any n _ hn).mono ?_
    rintro e w1 ⟨rfl, hb1⟩
    have hb1 := Bal hb1
    have v12 := (HE.out w1 (.of hb1)).var 12 (by decide)
    simp only [errG] at v12
    have c3 := (H.out.below hb1).c3
    rw [g3] at c3
    rw [g1]
    go_wp2_with fail
    go_ret
    exact ⟨_, rfl, ⟨by decide, rfl⟩, H.out.below hb1, .of hb1⟩
  have g3 : s.off = false := by simpa using g3
  by_cases g4 : ib = true
  case pos =>
    subst g4
    simp only [g1, g2, g3, if_true, true_or, or_true, Bool.true_eq_false, if_false, Bool.false_eq_true]
    clear hib h
    go_enter Tryz.func37, Tryz.ntmps37
    go_wp2_with fail
    refine (name_any n _ hn).mono ?_
    rintro e w1 ⟨rfl, hb1⟩
    have hb1 := Bal hb1
    have v7 := (HE.out w1 (.of hb1)).var 7 (by decide)
    simp only [errG] at v7
    have c3 := (H.out.below hb1).c3
    rw [g3] at c3
    rw [g1]
    go_wp2_with fail
    go_ret
    exact ⟨_, rfl, ⟨by decide, rfl⟩, H.out.below hb1, .of hb1⟩
  obtain rfl : ib = false := by simpa using g4
  have hg : getO s.objs n = none := by simpa using hib
  by_cases g5 : 200 ≤ s.objs.length
  case pos =>
    simp only [g1, g2, g3, g5, if_true, true_or, or_true, Bool.true_eq_false, if_false, Bool.false_eq_true]
    have g5 : (200 : Int) ≤ (s.objs.length : Int) := by omega
    clear hib h hg
    go_enter Tryz.func37, Tryz.ntmps37
    go_wp2_with fail
    refine (name_any n _ hn).mono ?_
    rintro e w1 ⟨rfl, hb1⟩
    have hb1 := Bal hb1
    have v8 := (HE.out w1 (.of hb1)).var 8 (by decide)
    simp only [errG] at v8
    have c3 := (H.out.below hb1).c3
    have c0' := (H.out.below hb1).c0
    have hlen := len_run (H.out.below hb1)
    rw [g3] at c3
    rw [g1]
    go_wp2_with fail
    go_ret
    exact ⟨_, rfl, ⟨by decide, rfl⟩, H.out.below hb1, .of hb1⟩
  have k5 : decide ((200 : Int) ≤ (s.objs.length : Int)) = false := by simp; omega
  have k5' : (s.objs.length : Int) < 200 := by omega
  have htot := total_le H.out.ok
  by_cases g6 : 262144 < total s.objs + t.length
  case pos =>
    simp only [g1, g2, g3, g6, if_true, or_true, Bool.true_eq_false, if_false, Bool.false_eq_true]
    have g6 : (262144 : Int) < (total s.objs : Int) + (t.length : Int) := by omega
    clear hib h hg
    go_enter Tryz.func37, Tryz.ntmps37
    go_wp2_with fail
    refine (name_any n _ hn).mono ?_
    rintro e w1 ⟨rfl, hb1⟩
    have hb1 := Bal hb1
    have c3 := (H.out.below hb1).c3
    have c0' := (H.out.below hb1).c0
    have hlen := len_run (H.out.below hb1)
    rw [g3] at c3
    rw [g1]
    go_wp2_with fail
    refine (bytes_any sb mb s _ (H.out.below hb1)).mono ?_
    rintro e w2 ⟨rfl, hb2⟩
    have hb2' := hb1.trans (hb2.mono hb1.size)
    have v8 := (HE.out w2 (.of hb2')).var 8 (by decide)
    simp only [errG] at v8
    generalize total s.objs = tt at *
    go_wp2_with fail
    go_ret
    exact ⟨_, rfl, ⟨by decide, rfl⟩, H.out.below hb2', .of hb2'⟩
  have k6 : decide ((262144 : Int) < (total s.objs : Int) + (t.length : Int)) = false := by simp; omega
  have k6' : (total s.objs : Int) + (t.length : Int) ≤ 262144 := by omega
  simp only [g1, g2, g3, g5, g6, Bool.true_eq_false, if_false, Bool.false_eq_true, false_or]
  have k5n : s.objs.length < 200 := by omega
  obtain ⟨af, haf⟩ : ∃ af, (aft s t.length).off = af := ⟨_, rfl⟩
  rw [haf]
  have HF := Lib.hid haf
  clear haf
  have Hg := Lib.hid hg
  have K5 := Lib.hid k5n
  have HT := Lib.hid htot
  clear hib h hg g2 g5 g6 k5n htot
  go_enter Tryz.func37, Tryz.ntmps37
  go_wp2_with fail
  refine (name_any n _ hn).mono ?_
  rintro e w1 ⟨rfl, hb1⟩
  have hb1 := Bal hb1
  have c3 := (H.out.below hb1).c3
  have c0' := (H.out.below hb1).c0
  have hlen := len_run (H.out.below hb1)
  rw [g3] at c3
  rw [g1]
  go_wp2_with fail
  refine (bytes_any sb mb s _ (H.out.below hb1)).mono ?_
  rintro e w2 ⟨rfl, hb2⟩
  have hb2' := hb1.trans (hb2.mono hb1.size)
  have hd := H.out.below (Bd1 hb2')
  have HD := Lib.hid hd
  have c0'' := hd.c0
  have c2'' := hd.c2
  have HB := Lib.hid (But2.of (sb := sb) (mb := mb) (Bd1 hb2'))
  clear c0 c0' c3 hlen HL hd
  generalize total s.objs = tt at *
  go_wp2_with fail
  go_region_with (go_at_call 90; refine (write_any sb mb s t.length _ HD.out ht).mono ?_; rintro e w3 ⟨rfl, h3, hb3⟩; have hwl := wrote_le s t.length; have c2 := h3.c2; rw [aft_day] at c2; have c0 := h3.c0; clear c0'' c2''; obtain ⟨w4, hrun, h4, hb4⟩ := mapSet_any h3 (n := n) (t := t.take (wrote s t.length)) (d := s.day) (by omega) (by rw [List.length_take]; omega) (by rw [aft_objs]; exact Hg.out) (by rw [aft_objs]; exact K5.out); have hb4' := (HB.out.trans hb3).trans hb4; rw [aft_objs, HF.out] at h4; have c3' := h4.c3; simp only at c3'; have v12 := (HE.out w4 hb4').var 12 (by decide); simp only [errG] at v12; have H4 := Lib.hid h4; have HB4 := Lib.hid hb4'; clear h3 hb3 h4 hb4 hb4'; rw [take_ext] at hrun; obtain ⟨wr, hwr⟩ : ∃ wr, wrote s t.length = wr := ⟨_, rfl⟩; rw [hwr] at hwl hrun; rw [hwr]; have HW := Lib.hid hwr; clear hwr)
  all_goals
    clear HF
    cases af with
    | true =>
      go_wp2_with fail
      go_ret
      exact ⟨_, rfl, ⟨by decide, rfl⟩, HW.out ▸ H4.out, HB4.out⟩
    | false =>
      go_wp2_with fail
      go_ret
      exact ⟨_, rfl, rfl, HW.out ▸ H4.out, HB4.out⟩
end Go.Proofs.YtefoaeamfkbgbaaGreatDoor
namespace Go.Proofs.YtefoaeamfkbgbaaGreatDoor
open Go.RowKit Go.Maps
attribute [local go_sem] bget bapp

def signP (b : UInt8) : Prop := (97 ≤ b.toNat ∧ b.toNat ≤ 122) ∨ (48 ≤ b.toNat ∧ b.toNat ≤ 57) ∨ b.toNat = 47
instance (b : UInt8) : Decidable (signP b) := inferInstanceAs (Decidable (_ ∨ _))
theorem sign_iff (b : UInt8) : nameSigns.contains b = decide (signP b) := by
  have h : ∀ n : Fin 256, nameSigns.contains (UInt8.ofNat n.val) = decide (signP (UInt8.ofNat n.val)) := by decide +kernel
  have := h ⟨b.toNat, b.toNat_lt⟩
  simpa using this
theorem nameOk_iff (s : Str) : nameOkS s = (decide (1 ≤ s.length) && decide (s.length ≤ 16) && s.all (fun b => decide (signP b))) := by
  unfold nameOkS
  have h1 : (fun b => nameSigns.contains b) = fun b => decide (signP b) := funext sign_iff
  rw [h1]
  cases s with
  | nil => rfl
  | cons a r => simp

set_option maxRecDepth 20000 in
theorem isObject_any (s : Str) (w : World) (hs : s.length ≤ 100000) :
    Calls Tryz.prog 91 #[S s] w fun e w' => e = .returned (.bool (nameOkS s)) ∧ Below w.heap.size w w' := by
  rw [nameOk_iff]
  go_enter Tryz.func91, Tryz.ntmps91
  go_wp2_with fail
  go_loopw [3] (fun i wr => ∃ k : Nat, k ≤ s.length ∧ i = .int .i64 k ∧ Hid (∀ j < k, ∀ x, s[j]? = some x → signP x) ∧ Below w.heap.size w wr) (fun i _ => s.length - (intOf i).toNat)
  case atStart => exact ⟨0, by omega, rfl, Lib.hid fun j hj => absurd hj (by omega), Below.refl _ _⟩
  case round =>
    obtain ⟨k, hk, rfl, hj, hb⟩ := hrel
    by_cases hlt : k < s.length
    case neg =>
      have f : decide ((k : Int) < (s.length : Int)) = false := by simp; omega
      have hall : s.all (fun b => decide (signP b)) = true := by
        rw [List.all_eq_true]
        intro x hx
        obtain ⟨j, hj'⟩ := List.getElem?_of_mem hx
        exact decide_eq_true (hj.out j (by have := (List.getElem?_eq_some_iff.1 hj').1; omega) x hj')
      have HA := Lib.hid hall; clear hall
      go_wp2_with fail
      all_goals
        go_ret
        refine ⟨ret_bool ?_, hb⟩
        rw [HA.out, Bool.eq_iff_iff]
        simp
        omega
    have f : (k : Int) < (s.length : Int) := by omega
    have hgk : s[k]? = some s[k] := by simp [hlt]
    go_wp2_with fail
    all_goals first
      | (refine ⟨⟨k + 1, by omega, by go_num, Lib.hid fun j hj' y hy => ?_, hb⟩, by simp [intOf]; omega⟩
         rcases Nat.lt_or_ge j k with h | h
         · exact hj.out j h y hy
         · obtain rfl : j = k := by omega
           rw [hgk] at hy
           cases hy
           clear hj hb hgk hk hj'
           unfold signP
           simp at *
           omega)
      | (go_ret
         refine ⟨ret_bool ?_, hb⟩
         have key : ¬ signP s[k] := by
           clear hj hb hgk hk
           unfold signP
           simp at *
           omega
         have hall : (s.all fun b => decide (signP b)) = false := by
           rw [List.all_eq_false]
           exact ⟨s[k], List.getElem_mem hlt, by simpa using key⟩
         rw [hall, Bool.and_false])
end Go.Proofs.YtefoaeamfkbgbaaGreatDoor
namespace Go.Proofs.YtefoaeamfkbgbaaGreatDoor
open Go.RowKit Go.Maps

theorem putO_at {x : Ob} : ∀ {l : List Ob} {k : Nat}, k ≤ l.length → (∀ j < k, ∀ o, l[j]? = some o → bef x.name o.name = false) → (∀ o, l[k]? = some o → bef x.name o.name = true) → putO x l = l.take k ++ x :: l.drop k
  | [], 0, _, _, _ => rfl
  | [], _ + 1, h, _, _ => by simp at h
  | a :: r, 0, _, _, h => by unfold putO; rw [if_pos (h a rfl)]; rfl
  | a :: r, k + 1, hk, h, h2 => by
    unfold putO
    rw [if_neg (by rw [h 0 (by omega) a rfl]; decide)]
    rw [putO_at (k := k) (by simpa using hk) (fun j hj o ho => h (j + 1) (by omega) o (by simpa using ho)) (fun o ho => h2 o (by simpa using ho))]
    rfl
theorem less_bef : ∀ a b : Str, Op.bytesLess a b = bef a b
  | [], [] => by simp [Op.bytesLess, bytesBefore]
  | [], _ :: _ => by simp [Op.bytesLess, bytesBefore]
  | _ :: _, [] => by simp [Op.bytesLess, bytesBefore]
  | a :: r, b :: s => by
    have ih := less_bef r s
    show Op.bytesLess (a :: r) (b :: s) = (decide (a < b) || (a == b && bytesBefore r s))
    unfold Op.bytesLess
    rw [ih]
theorem bef_asym {a b : Str} (h : bef a b = true) : bef b a = false := by
  cases hb : bef b a with
  | false => rfl
  | true =>
    have := bef_trans h hb
    rw [bef_irr] at this; cases this
theorem own_base {α : Type} {enc : α → List Value} {e : TypeId} {sz B B' : Nat} {w : World} {v : Value} {l : List α} (h : Own enc e sz B' w v l) (hB : B ≤ B') : Own enc e sz B w v l := by
  obtain ⟨h1, h2⟩ := h
  refine ⟨h1, ?_⟩
  rcases h2 with h0 | ⟨g, cap, cur, hv, hg, rest⟩
  · exact .inl h0
  · exact .inr ⟨g, cap, cur, hv, Nat.le_trans hB hg, rest⟩
theorem own_shape {α : Type} {enc : α → List Value} {e : TypeId} {sz B : Nat} {w : World} {v : Value} {l : List α} (h : Own enc e sz B w v l) : (v = .slice none 0 0 ∧ l = []) ∨ ∃ g cap, v = .slice (some ⟨g, 0, none⟩) l.length cap ∧ l.length ≤ cap ∧ cap ≤ maxLen := by
  obtain ⟨h1, h2⟩ := h
  rcases h2 with ⟨rfl, h0⟩ | ⟨g, cap, cur, hv, _, _, hn, hm, _⟩
  · exact .inl ⟨rfl, List.eq_nil_of_length_eq_zero h0⟩
  · exact .inr ⟨g, cap, hv, hn, hm⟩
section
variable {α : Type} {enc : α → List Value} {sz n cap g k : Nat} {w : World} {l : List α}
theorem At.takeS (h : At enc sz w (.slice (some ⟨g, 0, none⟩) n cap) l) (hk : k ≤ l.length) : At enc sz w (.slice (some ⟨g, 0, none⟩) k cap) (l.take k) := by
  obtain ⟨a, c, b, o, hv, ha, hc, hm, hx⟩ := h
  cases hv
  have hl : (l.take k).length = k := by rw [List.length_take]; omega
  refine ⟨some ⟨g, 0, none⟩, cap, b, o, by rw [hl], fun h0 => ha (by omega), by omega, hm, fun i x hi j u hu => hx i x ?_ j u hu⟩
  rw [List.getElem?_take] at hi
  split at hi
  · exact hi
  · cases hi
theorem At.dropS (h : At enc sz w (.slice (some ⟨g, 0, none⟩) n cap) l) (hk : k ≤ l.length) : At enc sz w (.slice (some ⟨g, k * sz, none⟩) (l.length - k) (cap - k)) (l.drop k) := by
  obtain ⟨a, c, b, o, hv, ha, hc, hm, hx⟩ := h
  cases hv
  have hl : (l.drop k).length = l.length - k := List.length_drop
  refine ⟨some ⟨g, k * sz, none⟩, cap - k, g, k * sz, by rw [hl], fun _ => rfl, by omega, by omega, fun i x hi j u hu => ?_⟩
  rw [List.getElem?_drop] at hi
  have hlt := (List.getElem?_eq_some_iff.1 hi).1
  have h1 := hx _ x hi j u hu
  have h2 := ha (by omega)
  cases h2
  rw [show k * sz + i * sz + j = 0 + (k + i) * sz + j by rw [Nat.add_mul]; omega]
  exact h1
end
theorem wpList_here {P : Program} {w : World} {ops : Array Oper} {l : List Oper} {a : Act} {Q : Exit → Act → World → Prop} (h : wpList P ops Q l a w ∧ True) : wpList P ops Q l a w := h.1
theorem elOb : ElemInfo Tryz.prog 127 146 3 40 := elemInfo_of Tryz.underlying127 (z := .agg #[.string ByteArray.empty, .string ByteArray.empty, .int .i64 0]) (by kernel_rfl) rfl (by decide)
/-- append, as a step of a region that draws its order. -/
theorem step_app {P : Program} {ops : Array Oper} {o : Oper} {a : Act} {w : World} {K : Act → World → Prop} {Q : Exit → Act → World → Prop} {E : Prop} (hgd : o.guard = none) (s x : Operand) (t : TypeId)
    (ho : o.op = .call { callee := .builtin .append, args := #[s, x], argTypes := #[t, t] }) (base : Nat) {e : TypeId} {size bytes : Nat} (hE : ElemInfo P t e size bytes)
    (v : Value) (n : Nat) (xs : List Value) (hs : a.eval s = v) (hown : w.ownsRow base e size v n xs) (xv : Value) (m : Nat) (news : List Value) (hx : a.eval x = xv) (hsrc : SrcAt w size xv m news)
    (h63 : n + m ≤ maxLen) (hbytes : (n + m) * bytes ≤ 140737488355328) (hbase : base ≤ w.heap.size)
    (hK : ∀ v' w', w'.ownsRow base e size v' (n + m) (xs ++ news) → w.grownBy w' v.ownBlock → (v'.ownBlock = v.ownBlock ∨ v'.ownBlock = some w.heap.size) → K (a.put o.dst v') w') :
    if Region.wanted o (yielded ops a.tmps) = true then Oper.wp P o a w K Q else E := by
  have hw : Region.wanted o (yielded ops a.tmps) = true := by simp [Region.wanted, hgd]
  rw [if_pos hw]
  obtain ⟨v', w', hr, h2, h3, h4⟩ := run_app (P := P) w base t o.type e size bytes hE v n xs hown xv m news hsrc h63 hbytes hbase
  unfold Oper.wp execOp
  simp only [ho, resolve, invoke, builtin, Sem.run_bind, Sem.run_pure, Result.andThen_ok, List.map_toArray, List.map_cons, List.map_nil, hs, hx, hr]
  exact hK _ _ h2 h3 h4
theorem total_take {l : List Ob} {k : Nat} {x : Ob} (h : l[k]? = some x) : total (l.take (k + 1)) = total (l.take k) + x.text.length := by
  unfold total
  rw [List.take_add_one, h]
  simp

set_option maxRecDepth 20000 in
set_option maxHeartbeats 4000000 in
theorem putM_any (B xb : Nat) (v : Value) (s : St) (n t : Str) (w : World) (h : ModAt w B xb v s) (hn : n.length ≤ 100000) (ht : t.length ≤ 100000) (hB : B ≤ w.heap.size) :
    Calls Tryz.prog 38 #[stP xb, S n, S t] w fun e w' => ∃ v', e = .returned (.int .i64 ((putE s n t).code : Int)) ∧ ModAt w' B xb v' (putS s n t) ∧ But2 xb xb w w' := by
  have H := Lib.hid h
  unfold putE putS
  by_cases g1 : nameOkS n = true
  case neg =>
    have g1 : nameOkS n = false := by simpa using g1
    simp only [g1, if_true, true_or]
    go_enter Tryz.func38, Tryz.ntmps38
    go_wp2_with fail
    refine (isObject_any n _ hn).mono ?_
    rintro e w1 ⟨rfl, hb1⟩
    rw [g1]
    go_wp2_with fail
    go_ret
    exact ⟨_, rfl, H.out.below hb1, .of hb1⟩
  have hn16 := nameOk_len g1
  by_cases g2 : 20000 < t.length
  case pos =>
    simp only [g1, g2, if_true, true_or, or_true, Bool.true_eq_false, if_false]
    have g2 : (20000 : Int) < (t.length : Int) := by omega
    clear h
    go_enter Tryz.func38, Tryz.ntmps38
    go_wp2_with fail
    refine (isObject_any n _ hn).mono ?_
    rintro e w1 ⟨rfl, hb1⟩
    rw [g1]
    go_wp2_with fail
    go_ret
    exact ⟨_, rfl, H.out.below hb1, .of hb1⟩
  have k2 : (t.length : Int) ≤ 20000 := by omega
  by_cases g3 : s.off = true
  case pos =>
    simp only [g1, g2, g3, if_true, true_or, or_true, Bool.true_eq_false, if_false]
    clear h
    go_enter Tryz.func38, Tryz.ntmps38
    go_wp2_with fail
    refine (isObject_any n _ hn).mono ?_
    rintro e w1 ⟨rfl, hb1⟩
    have c3 := (H.out.below hb1).c3
    rw [g3] at c3
    rw [g1]
    go_wp2_with fail
    go_ret
    exact ⟨_, rfl, H.out.below hb1, .of hb1⟩
  have g3 : s.off = false := by simpa using g3
  cases hg : getO s.objs n with
  | some y =>
    simp only [g1, g2, g3, Option.isSome_some, if_true, true_or, or_true, Bool.true_eq_false, if_false, Bool.false_eq_true]
    clear h
    go_enter Tryz.func38, Tryz.ntmps38
    go_wp2_with fail
    refine (isObject_any n _ hn).mono ?_
    rintro e w1 ⟨rfl, hb1⟩
    have H1 := Lib.hid (H.out.below hb1)
    have c3 := H1.out.c3
    rw [g3] at c3
    rw [g1]
    go_wp2_with fail
    refine (findM_any B xb v s n _ H1.out).mono ?_
    rintro e w2 ⟨r, rfl, hr, hb2⟩
    rcases hr.got H.out.ok.ris with ⟨k, x, rfl, hk, hxk, hnm, hg2⟩ | ⟨rfl, hg2⟩
    · clear hr hxk hnm hg hg2 hk
      go_wp2_with fail
      go_ret
      exact ⟨_, rfl, H1.out.below hb2, .of (hb1.trans (hb2.mono hb1.size))⟩
    · rw [hg] at hg2; cases hg2
  | none =>
    have HG := Lib.hid hg
    have hnum := h.ok.num
    have htot := total_le h.ok
    obtain ⟨a, c, b, o, hv, ha, -, hm, hx⟩ := h.own.at encO_enc
    subst hv
    unfold maxLen at hm
    simp only [g1, g2, g3, Option.isSome_none, Bool.true_eq_false, if_false, Bool.false_eq_true, false_or]
    go_enter Tryz.func38, Tryz.ntmps38
    go_wp2_with fail
    refine (isObject_any n _ hn).mono ?_
    rintro e w1 ⟨rfl, hb1⟩
    have H1 := Lib.hid (H.out.below hb1)
    have c3 := H1.out.c3
    rw [g3] at c3
    rw [g1]
    go_wp2_with fail
    refine (findM_any B xb _ s n _ H1.out).mono ?_
    rintro e w2 ⟨r, rfl, hr, hb2⟩
    have hb2' := hb1.trans (hb2.mono hb1.size)
    rcases hr.got H.out.ok.ris with ⟨k, x, rfl, hk, hxk, hnm, hg2⟩ | ⟨rfl, hg2⟩
    · rw [hg] at hg2; cases hg2
    clear hr hg hg2 c3 hb1 hb2 h
    have c0 := (H.out.below hb2').c0
    go_wp2_with fail
    go_loopw [8, 9] (fun nv i wr => ∃ k : Nat, k ≤ s.objs.length ∧ i = .int .i64 k ∧ nv = .int .i64 ((t.length : Int) + (total (s.objs.take k) : Int)) ∧ Below w.heap.size w wr) (fun _ i _ => s.objs.length - (intOf i).toNat)
    case atStart => exact ⟨0, by omega, rfl, by simp [total], hb2'⟩
    case round =>
      obtain ⟨k, hk, rfl, rfl, hb⟩ := hrel
      clear c0
      have c0 := (H.out.below hb).c0
      by_cases hlt : k < s.objs.length
      case pos =>
        have f : (k : Int) < (s.objs.length : Int) := by omega
        obtain ⟨x, hxk⟩ := get_ex hlt
        have q1 := hx k x hxk 1 _ rfl
        have q1 := (hb.cell (World.block_lt_of_cell? w _ q1)).trans q1
        have i1 := idx_at (c := c) 3 Tryz.underlying127 szOb ha k hlt
        have htt := total_take hxk
        have hxl := H.out.ok.txt x (List.mem_of_getElem? hxk)
        have hle : total (s.objs.take (k + 1)) ≤ 4000000 := Nat.le_trans (by
          have := total_len (l := s.objs.take (k + 1)) (fun o ho => H.out.ok.txt o (List.mem_of_mem_take ho))
          rw [List.length_take] at this
          exact Nat.le_trans this (Nat.mul_le_mul_right _ (by omega))) (by omega : 200 * 20000 ≤ 4000000)
        have HT := Lib.hid htt
        have b1 : (total (s.objs.take k) : Int) + (x.text.length : Int) ≤ 4000000 := by omega
        clear hxk htt hle
        go_wp2_with fail
        exact ⟨⟨k + 1, by omega, by go_num, congrArg (Value.int .i64) (by have := HT.out; omega), hb⟩, by simp [intOf]; omega⟩
      case neg =>
        have f : decide ((k : Int) < (s.objs.length : Int)) = false := by simp; omega
        obtain rfl : k = s.objs.length := by omega
        rw [List.take_length]
        by_cases g5 : 200 ≤ s.objs.length
        case pos =>
          have g5' : (200 : Int) ≤ (s.objs.length : Int) := by omega
          have gf : 200 ≤ s.objs.length ∨ 262144 < total s.objs + t.length := .inl g5
          go_wp2_with fail
          go_ret
          exact ⟨rfl, ⟨_, H.out.below hb⟩, .of hb⟩
        by_cases g6 : 262144 < total s.objs + t.length
        case pos =>
          have g5' : decide ((200 : Int) ≤ (s.objs.length : Int)) = false := by simp; omega
          have g6' : (262144 : Int) < (t.length : Int) + (total s.objs : Int) := by omega
          have gf : 200 ≤ s.objs.length ∨ 262144 < total s.objs + t.length := .inr g6
          go_wp2_with fail
          go_ret
          exact ⟨rfl, ⟨_, H.out.below hb⟩, .of hb⟩
        have g5' : decide ((200 : Int) ≤ (s.objs.length : Int)) = false := by simp; omega
        have g6' : decide ((262144 : Int) < (t.length : Int) + (total s.objs : Int)) = false := by simp; omega
        have g7 : ¬ (200 ≤ s.objs.length ∨ 262144 < total s.objs + t.length) := by omega
        go_upto_block 2 with fail
        go_cut [10] (fun u wx => ∃ k : Nat, u = .int .i64 k ∧ k ≤ s.objs.length ∧ (∀ j < k, ∀ x, s.objs[j]? = some x → bef n x.name = false) ∧ (∀ x, s.objs[k]? = some x → bef n x.name = true) ∧ Below w.heap.size w wx)
        case first =>
          go_wp2_with fail
          go_loopw [10] (fun u wx => ∃ k : Nat, u = .int .i64 k ∧ k ≤ s.objs.length ∧ Hid (∀ j < k, ∀ x, s.objs[j]? = some x → bef n x.name = false) ∧ Below w.heap.size w wx) (fun i _ => s.objs.length - (intOf i).toNat)
          case atStart => exact ⟨0, rfl, by omega, Lib.hid fun j hj => absurd hj (by omega), hb⟩
          case round =>
            obtain ⟨k, rfl, hk, hj, hb⟩ := hrel
            clear c0
            have c0 := (H.out.below hb).c0
            by_cases hlt : k < s.objs.length
            case neg =>
              have f : decide ((k : Int) < (s.objs.length : Int)) = false := by simp; omega
              go_wp2_with fail
              go_meet
              refine ⟨k, rfl, hk, hj.out, ?_, hb⟩
              intro x hx
              rw [List.getElem?_eq_none (by omega)] at hx
              cases hx
            have f : (k : Int) < (s.objs.length : Int) := by omega
            obtain ⟨x, hxk⟩ := get_ex hlt
            have q0 := hx k x hxk 0 _ rfl
            have q0 := (hb.cell (World.block_lt_of_cell? w _ q0)).trans q0
            have i1 := idx_at (c := c) 3 Tryz.underlying127 szOb ha k hlt
            simp only [Nat.add_zero] at q0
            have HX := Lib.hid hxk
            clear hxk
            go_wp2_with fail
            · rename_i hle
              refine ⟨⟨k + 1, by go_num, by omega, Lib.hid fun j hj' y hy => ?_, hb⟩, by simp [intOf]; omega⟩
              rcases Nat.lt_or_ge j k with h | h
              · exact hj.out j h y hy
              · obtain rfl : j = k := by omega
                rw [HX.out] at hy
                cases hy
                exact bef_asym ((less_bef _ _).symm.trans hle)
            · rename_i hle
              go_meet
              refine ⟨k, rfl, hk, hj.out, fun y hy => ?_, hb⟩
              rw [HX.out] at hy
              cases hy
              exact bef_tri (fun e => getO_none.1 HG.out _ (List.mem_of_getElem? HX.out) e) ((less_bef _ _).symm.trans hle)
        case rest =>
          obtain ⟨k, rfl, hk, hj, hk2, hb⟩ := hcut
          have hput := putO_at (x := ⟨n, t.take (wrote s t.length), s.day⟩) hk hj hk2
          have HP := Lib.hid hput
          have HB := Lib.hid hb
          clear hj hk2 hput
          go_wp2_with fail
          refine (written_any B xb _ s t.length _ (H.out.below hb) ht).mono ?_
          rintro e w3 ⟨rfl, h3, hb3⟩
          have hwl := wrote_le s t.length
          clear c0
          have c0 := h3.c0
          have c2 := h3.c2
          rw [aft_day] at c2
          have H3 := Lib.hid h3
          have hs23 : _ ≤ w3.heap.size := hb3.size
          have HB3 := Lib.hid ((But2.of (sb := xb) (mb := xb) hb).trans hb3)
          clear h3 hb3 hb
          have hsh := own_shape H.out.own
          rcases hsh with ⟨hv, hnil⟩ | ⟨g, cap, hv, hcap, hcm⟩
          · have hl0 : s.objs.length = 0 := by rw [hnil]; rfl
            obtain hk0 : k = 0 := by omega
            have HNIL := Lib.hid hnil
            clear hnil
            simp only [Value.slice.injEq] at hv
            obtain ⟨rfl, -, rfl⟩ := hv
            rw [hl0] at c0
            subst hk0
            have hsn : ∀ (W : World) (a' : Option Addr) (c' : Nat), SrcAt W 3 (.slice a' 0 c') 0 [] := fun W a' c' => ⟨a', c', rfl, rfl, fun u hu => (by cases hu), fun h0 => absurd h0 (by decide)⟩
            have htl : (s.objs.take 0).length = 0 := by rw [List.length_take]; omega
            have hdl : (s.objs.drop 0).length = s.objs.length - 0 := List.length_drop
            have htk : s.objs.take 0 = [] := rfl
            have hdk : s.objs.drop 0 = [] := by rw [HNIL.out]; rfl
            go_wp2_with (at_builtin; refine wpList_app rfl _ _ _ rfl w3.heap.size elOb (.slice none 0 0) 0 [] rfl (Own.nil encO _ 3 _ _) _ 0 [] rfl (hsn _ _ _) (by unfold maxLen; omega) (by omega) (Nat.le_refl _) ?_; intro u4 w4 ho4 hg4 hn4)
            have hb4 : Below w3.heap.size w3 w4 := Bapp (Below.refl _ w3) (Own.nil encO 146 3 w3.heap.size w3) hg4 (Nat.le_refl _) (Nat.le_refl _)
            have ho4 : Own encO 146 3 w3.heap.size w4 u4 (s.objs.take 0) := by rw [htk]; unfold Own; simpa using ho4
            clear hg4 hn4
            have H4 := Lib.hid (H3.out.below (Bd1 hb4))
            have ho4 := ho4.drewN 1
            have hb4 : Below w3.heap.size w3 (w4.drewN 1) := Bdn hb4 1
            clear c0 c2
            have c0 := H4.out.c0
            rw [hl0] at c0
            have c2 := H4.out.c2
            rw [aft_day] at c2
            obtain ⟨wr', hwr'⟩ : ∃ m, wrote s t.length = m := ⟨_, rfl⟩
            rw [hwr']
            have hwi : (wr' : Int) ≤ (t.length : Int) := by omega
            have HWR := Lib.hid hwr'
            clear hwr'
            have ho4' : w4.drew.ownsRow w3.heap.size 146 3 u4 0 ((s.objs.take 0).flatMap encO) := by
              have : w4.drew.ownsRow w3.heap.size 146 3 u4 (s.objs.take 0).length ((s.objs.take 0).flatMap encO) := ho4
              rwa [htl] at this
            have hs34 : w3.heap.size ≤ w4.heap.size := hb4.size
            have hsrc : SrcAt ((w4.alloc (.cells #[S n, .string ((ByteArray.mk t.toArray).extract 0 wr'), .int .i64 s.day] 146)).drew) 3 (.slice (some ⟨w4.heap.size, 0, none⟩) 1 1) 1 [S n, .string ((ByteArray.mk t.toArray).extract 0 wr'), .int .i64 s.day] := src_one (w := w4) rfl rfl (by simp [Value.oneCell'])
            go_region_law ((refine step_app rfl _ _ _ rfl w3.heap.size elOb u4 0 _ rfl (World.ownsRow.alloc ho4' _) (.slice (some ⟨w4.heap.size, 0, none⟩) 1 1) 1 _ rfl hsrc (by unfold maxLen; omega) (by omega) (by simp; omega) ?_; intro u5 w5 ho5 hg5 hn5))
            have hb5 : Below w3.heap.size w3 w5 := Bapp (hb4.alloc hb4.size _) (Own.alloc (Own.drewN ho4 0) _) hg5 (Nat.le_refl _) (by simp; omega)
            clear hg5 hn5 hsrc c0 c2 ho4'
            have H5 := Lib.hid (H3.out.below hb5)
            have c0 := H5.out.c0
            rw [hl0] at c0
            have f0 := H5.out.fz 0
            have hx5 : (take_ext t wr').symm = (take_ext t wr').symm := rfl
            rw [← take_ext] at ho5
            have ho5 : Own encO 146 3 w3.heap.size w5 u5 (s.objs.take 0 ++ [⟨n, t.take wr', s.day⟩]) := Own.snoc (x := (⟨n, t.take wr', s.day⟩ : Ob)) (by rw [htl]; exact ho5)
            have hl5 : (s.objs.take 0 ++ [(⟨n, t.take wr', s.day⟩ : Ob)]).length = 0 + 1 := by simp
            clear hx5
            have hs35 : w3.heap.size ≤ w5.heap.size := hb5.size
            have ho5' : w5.ownsRow w3.heap.size 146 3 u5 (0 + 1) ((s.objs.take 0 ++ [(⟨n, t.take wr', s.day⟩ : Ob)]).flatMap encO) := by
              have := ho5
              unfold Own at this
              rwa [hl5] at this
            go_wp2_with (at_builtin; refine wpList_here ?_)
            all_goals
              refine ⟨?_, trivial⟩
              refine wpList_app rfl _ _ _ rfl w3.heap.size elOb u5 (0 + 1) _ rfl ho5' _ 0 [] rfl (hsn _ _ _) (by unfold maxLen; omega) (by omega) (by omega) ?_
              intro u6 w6 ho6 hg6 hn6
              have hb6 := Bapp hb5 ho5 hg6 (Nat.le_refl _) hs35
              have H6 := Lib.hid (H3.out.below hb6)
              have c0' := H6.out.c0
              rw [hl0] at c0'
              have f0' := H6.out.fz 0
              have hl6 : ((s.objs.take 0 ++ [(⟨n, t.take wr', s.day⟩ : Ob)]) ++ s.objs.drop 0).length = 0 + 1 + (s.objs.length - 0) := by rw [List.length_append, hl5, List.length_drop]
              have ho6' : Own encO 146 3 w3.heap.size w6 u6 ((s.objs.take 0 ++ [(⟨n, t.take wr', s.day⟩ : Ob)]) ++ s.objs.drop 0) := by
                unfold Own
                rw [hl6, List.flatMap_append, hdk, hl0]
                exact ho6
              have hlist : (s.objs.take 0 ++ [(⟨n, t.take wr', s.day⟩ : Ob)]) ++ s.objs.drop 0 = putO ⟨n, t.take (wrote s t.length), s.day⟩ s.objs := by
                rw [HP.out, HWR.out]; simp
              rw [hlist] at ho6'
              have hxb3 : xb < w3.heap.size := H3.out.lt
              have hne6 : u6.ownBlock ≠ some xb := fun e => by
                have := (World.ownsRow.lt ho6' _ e).1
                omega
              have hbd : Own encO 146 3 B w6 u6 (putO ⟨n, t.take (wrote s t.length), s.day⟩ s.objs) := own_base ho6' (Nat.le_trans hB (Nat.le_trans HB.out.size (Nat.le_trans hs23 (Nat.le_refl _))))
              have hokf : St.Ok { aft s t.length with objs := putO ⟨n, t.take (wrote s t.length), s.day⟩ s.objs } := by
                have := H3.out.ok.put (n := n) (t := t.take (wrote s t.length)) (d := s.day) (by omega) (by rw [List.length_take]; omega) (by rw [aft_objs]; exact HG.out) (by rw [aft_objs]; omega)
                rwa [aft_objs] at this
              have hF : ModAt (w6.setCell ⟨xb, 0, none⟩ u6) B xb u6 { aft s t.length with objs := putO ⟨n, t.take (wrote s t.length), s.day⟩ s.objs } :=
                ⟨heap_setCell_same w6 xb 0 _ _ u6 H6.out.blk, own_but hbd hne6 hne6 (But2.set (mb := xb) w6 0 u6), hokf⟩
              have c3f := hF.c3
              simp only at c3f
              have HFF := Lib.hid hF
              have HBF := Lib.hid ((HB3.out.trans (.of hb6)).trans (But2.set (mb := xb) w6 0 u6))
              have hsh6 := own_shape ho6'
              rw [putO_length, hl0, Nat.zero_add] at hsh6
              clear hF hbd ho6' ho6 hg6 hn6 hlist hl6 c0 f0 hne6 hokf
              rcases hsh6 with ⟨_, he⟩ | ⟨g6, cap6, rfl, _, _⟩
              · have := congrArg List.length he
                rw [putO_length] at this
                simp at this
              obtain ⟨af, haf⟩ : ∃ af, (aft s t.length).off = af := ⟨_, rfl⟩
              rw [haf] at c3f
              have HAF := Lib.hid haf
              clear haf
              cases af with
              | true =>
                go_wp2_with fail
                all_goals first
                  | (go_ret
                     exact ⟨rfl, ⟨_, by have := HFF.out; rw [HAF.out] at this; exact this⟩, HBF.out⟩)
                  | (go_ret
                     exact ⟨by rw [HAF.out]; rfl, ⟨_, HFF.out⟩, HBF.out⟩)
                  | (go_ret
                     exact ⟨_, by rw [HAF.out]; rfl, HFF.out, HBF.out⟩)
                  | (exfalso
                     have h1 := HAF.out
                     first
                       | exact h h1
                       | (rw [h1] at h; cases h))
              | false =>
                go_wp2_with fail
                all_goals first
                  | (go_ret
                     exact ⟨rfl, ⟨_, by have := HFF.out; rw [HAF.out] at this; exact this⟩, HBF.out⟩)
                  | (go_ret
                     exact ⟨by rw [HAF.out]; rfl, ⟨_, HFF.out⟩, HBF.out⟩)
                  | (go_ret
                     exact ⟨_, by rw [HAF.out]; rfl, HFF.out, HBF.out⟩)
                  | (exfalso
                     have h1 := HAF.out
                     first
                       | exact h h1
                       | (rw [h1] at h; cases h))
          · cases hv
            have hA3 := Lib.hid (H3.out.own.at encO_enc)
            rw [aft_objs] at hA3
            have s1 := Lib.hid (At.src encO_enc (by decide) (hA3.out.takeS hk))
            have s2 := Lib.hid (At.src encO_enc (by decide) (hA3.out.dropS hk))
            have k1 : (k : Int) ≤ (s.objs.length : Int) := by omega
            have k2' : (s.objs.length : Int) ≤ (c : Int) := by omega
            have k3 : (k : Int) ≤ (c : Int) := by omega
            have htl : (s.objs.take k).length = k := by rw [List.length_take]; omega
            have hdl : (s.objs.drop k).length = s.objs.length - k := List.length_drop
            rw [htl] at s1
            rw [hdl] at s2
            go_wp2_with (at_builtin; refine wpList_app rfl _ _ _ rfl w3.heap.size elOb (.slice none 0 0) 0 [] rfl (Own.nil encO _ 3 _ _) (.slice (some ⟨g, 0, none⟩) k c) k _ rfl s1.out (by unfold maxLen; omega) (by omega) (Nat.le_refl _) ?_; intro u4 w4 ho4 hg4 hn4)
            have hb4 : Below w3.heap.size w3 w4 := Bapp (Below.refl _ w3) (Own.nil encO 146 3 w3.heap.size w3) hg4 (Nat.le_refl _) (Nat.le_refl _)
            have ho4 : Own encO 146 3 w3.heap.size w4 u4 (s.objs.take k) := by unfold Own; rw [htl]; simpa using ho4
            clear hg4 hn4
            have H4 := Lib.hid (H3.out.below (Bd1 hb4))
            have ho4 := ho4.drewN 1
            have hb4 : Below w3.heap.size w3 (w4.drewN 1) := Bdn hb4 1
            clear c0 c2
            have c0 := H4.out.c0
            have c2 := H4.out.c2
            rw [aft_day] at c2
            obtain ⟨wr', hwr'⟩ : ∃ m, wrote s t.length = m := ⟨_, rfl⟩
            rw [hwr']
            have hwi : (wr' : Int) ≤ (t.length : Int) := by omega
            have HWR := Lib.hid hwr'
            clear hwr'
            have ho4' : w4.drew.ownsRow w3.heap.size 146 3 u4 k ((s.objs.take k).flatMap encO) := by
              have : w4.drew.ownsRow w3.heap.size 146 3 u4 (s.objs.take k).length ((s.objs.take k).flatMap encO) := ho4
              rwa [htl] at this
            have hs34 : w3.heap.size ≤ w4.heap.size := hb4.size
            have hsrc : SrcAt ((w4.alloc (.cells #[S n, .string ((ByteArray.mk t.toArray).extract 0 wr'), .int .i64 s.day] 146)).drew) 3 (.slice (some ⟨w4.heap.size, 0, none⟩) 1 1) 1 [S n, .string ((ByteArray.mk t.toArray).extract 0 wr'), .int .i64 s.day] := src_one (w := w4) rfl rfl (by simp [Value.oneCell'])
            go_region_law ((refine step_app rfl _ _ _ rfl w3.heap.size elOb u4 k _ rfl (World.ownsRow.alloc ho4' _) (.slice (some ⟨w4.heap.size, 0, none⟩) 1 1) 1 _ rfl hsrc (by unfold maxLen; omega) (by omega) (by simp; omega) ?_; intro u5 w5 ho5 hg5 hn5))
            have hb5 : Below w3.heap.size w3 w5 := Bapp (hb4.alloc hb4.size _) (Own.alloc (Own.drewN ho4 0) _) hg5 (Nat.le_refl _) (by simp; omega)
            clear hg5 hn5 hsrc c0 c2 ho4'
            have H5 := Lib.hid (H3.out.below hb5)
            have c0 := H5.out.c0
            have f0 := H5.out.fz 0
            have hx5 : (take_ext t wr').symm = (take_ext t wr').symm := rfl
            rw [← take_ext] at ho5
            have ho5 : Own encO 146 3 w3.heap.size w5 u5 (s.objs.take k ++ [⟨n, t.take wr', s.day⟩]) := Own.snoc (x := (⟨n, t.take wr', s.day⟩ : Ob)) (by rw [htl]; exact ho5)
            have hl5 : (s.objs.take k ++ [(⟨n, t.take wr', s.day⟩ : Ob)]).length = k + 1 := by simp [htl]
            clear hx5
            have hA5 := H5.out.own.at encO_enc
            rw [aft_objs] at hA5
            have s5 := At.src encO_enc (by decide) (hA5.dropS hk)
            rw [hdl] at s5
            have s5'' : ∀ (a' : Option Addr) (c' : Nat), s.objs.length = k → SrcAt w5 3 (.slice a' (s.objs.length - k) c') (s.objs.length - k) ((s.objs.drop k).flatMap encO) := by
              intro a' c' he
              have hd : s.objs.drop k = [] := List.drop_eq_nil_of_le (by omega)
              rw [hd]
              exact ⟨a', c', rfl, by simp; omega, fun u hu => (by cases hu), fun h0 => absurd h0 (by omega)⟩
            clear hA5 s1 s2 hA3
            have hs35 : w3.heap.size ≤ w5.heap.size := hb5.size
            have ho5' : w5.ownsRow w3.heap.size 146 3 u5 (k + 1) ((s.objs.take k ++ [(⟨n, t.take wr', s.day⟩ : Ob)]).flatMap encO) := by
              have := ho5
              unfold Own at this
              rwa [hl5] at this
            go_wp2_with (at_builtin; refine wpList_here ?_)
            all_goals
              refine ⟨?_, trivial⟩
              refine wpList_app rfl _ _ _ rfl w3.heap.size elOb u5 (k + 1) _ rfl ho5' _ (s.objs.length - k) ((s.objs.drop k).flatMap encO) rfl (by first | exact s5 | exact s5'' _ _ (by omega)) (by unfold maxLen; omega) (by omega) (by omega) ?_
              intro u6 w6 ho6 hg6 hn6
              have hb6 := Bapp hb5 ho5 hg6 (Nat.le_refl _) hs35
              have H6 := Lib.hid (H3.out.below hb6)
              have c0' := H6.out.c0
              have f0' := H6.out.fz 0
              have hl6 : ((s.objs.take k ++ [(⟨n, t.take wr', s.day⟩ : Ob)]) ++ s.objs.drop k).length = k + 1 + (s.objs.length - k) := by rw [List.length_append, hl5, List.length_drop]
              have ho6' : Own encO 146 3 w3.heap.size w6 u6 ((s.objs.take k ++ [(⟨n, t.take wr', s.day⟩ : Ob)]) ++ s.objs.drop k) := by
                unfold Own
                rw [hl6, List.flatMap_append]
                exact ho6
              have hlist : (s.objs.take k ++ [(⟨n, t.take wr', s.day⟩ : Ob)]) ++ s.objs.drop k = putO ⟨n, t.take (wrote s t.length), s.day⟩ s.objs := by
                rw [HP.out, HWR.out]; simp
              rw [hlist] at ho6'
              have hxb3 : xb < w3.heap.size := H3.out.lt
              have hne6 : u6.ownBlock ≠ some xb := fun e => by
                have := (World.ownsRow.lt ho6' _ e).1
                omega
              have hbd : Own encO 146 3 B w6 u6 (putO ⟨n, t.take (wrote s t.length), s.day⟩ s.objs) := own_base ho6' (Nat.le_trans hB (Nat.le_trans HB.out.size (Nat.le_trans hs23 (Nat.le_refl _))))
              have hokf : St.Ok { aft s t.length with objs := putO ⟨n, t.take (wrote s t.length), s.day⟩ s.objs } := by
                have := H3.out.ok.put (n := n) (t := t.take (wrote s t.length)) (d := s.day) (by omega) (by rw [List.length_take]; omega) (by rw [aft_objs]; exact HG.out) (by rw [aft_objs]; omega)
                rwa [aft_objs] at this
              have hF : ModAt (w6.setCell ⟨xb, 0, none⟩ u6) B xb u6 { aft s t.length with objs := putO ⟨n, t.take (wrote s t.length), s.day⟩ s.objs } :=
                ⟨heap_setCell_same w6 xb 0 _ _ u6 H6.out.blk, own_but hbd hne6 hne6 (But2.set (mb := xb) w6 0 u6), hokf⟩
              have c3f := hF.c3
              simp only at c3f
              have HFF := Lib.hid hF
              have HBF := Lib.hid ((HB3.out.trans (.of hb6)).trans (But2.set (mb := xb) w6 0 u6))
              have hsh6 := own_shape ho6'
              rw [putO_length] at hsh6
              clear hF hbd ho6' ho6 hg6 hn6 hlist hl6 c0 f0 hne6 hokf
              rcases hsh6 with ⟨_, he⟩ | ⟨g6, cap6, rfl, _, _⟩
              · have := congrArg List.length he
                rw [putO_length] at this
                simp at this
              obtain ⟨af, haf⟩ : ∃ af, (aft s t.length).off = af := ⟨_, rfl⟩
              rw [haf] at c3f
              have HAF := Lib.hid haf
              clear haf
              cases af with
              | true =>
                go_wp2_with fail
                all_goals first
                  | (go_ret
                     exact ⟨rfl, ⟨_, by have := HFF.out; rw [HAF.out] at this; exact this⟩, HBF.out⟩)
                  | (go_ret
                     exact ⟨by rw [HAF.out]; rfl, ⟨_, HFF.out⟩, HBF.out⟩)
                  | (go_ret
                     exact ⟨_, by rw [HAF.out]; rfl, HFF.out, HBF.out⟩)
                  | (exfalso
                     have h1 := HAF.out
                     first
                       | exact h h1
                       | (rw [h1] at h; cases h))
              | false =>
                go_wp2_with fail
                all_goals first
                  | (go_ret
                     exact ⟨rfl, ⟨_, by have := HFF.out; rw [HAF.out] at this; exact this⟩, HBF.out⟩)
                  | (go_ret
                     exact ⟨by rw [HAF.out]; rfl, ⟨_, HFF.out⟩, HBF.out⟩)
                  | (go_ret
                     exact ⟨_, by rw [HAF.out]; rfl, HFF.out, HBF.out⟩)
                  | (exfalso
                     have h1 := HAF.out
                     first
                       | exact h h1
                       | (rw [h1] at h; cases h))
end Go.Proofs.YtefoaeamfkbgbaaGreatDoor
namespace Go.Proofs.YtefoaeamfkbgbaaGreatDoor
open Go.RowKit

/-- A text more, in a rising list without doubles. -/
def withL : List Str → Str → List Str
  | [], s => [s]
  | x :: r, s => if bef x s then x :: withL r s else if x = s then x :: r else s :: x :: r
theorem withL_at : ∀ {l : List Str} {s : Str} {k : Nat}, k ≤ l.length → (∀ j < k, ∀ x, l[j]? = some x → bef x s = true) → (∀ x, l[k]? = some x → bef x s = false) → withL l s = if l[k]? = some s then l else l.take k ++ s :: l.drop k
  | [], s, 0, _, _, _ => by simp [withL]
  | [], _, _ + 1, h, _, _ => by simp at h
  | x :: r, s, 0, _, _, h2 => by
    have hx := h2 x rfl
    unfold withL
    rw [if_neg (by rw [hx]; decide)]
    by_cases he : x = s
    · rw [if_pos he, if_pos (by simp [he])]
    · rw [if_neg he, if_neg (by simpa using he)]; rfl
  | x :: r, s, k + 1, h, h1, h2 => by
    have hx := h1 0 (by omega) x rfl
    unfold withL
    rw [if_pos hx, withL_at (k := k) (by simpa using h) (fun j hj y hy => h1 (j + 1) (by omega) y (by simpa using hy)) (fun y hy => h2 y (by simpa using hy))]
    rw [List.getElem?_cons_succ]
    split <;> rfl
theorem withL_len (l : List Str) (s : Str) : (withL l s).length ≤ l.length + 1 := by
  induction l with
  | nil => simp [withL]
  | cons x r ih =>
    unfold withL
    split
    · simpa using ih
    · split <;> simp
theorem mem_withL {x s : Str} {l : List Str} : x ∈ withL l s ↔ x = s ∨ x ∈ l := by
  induction l with
  | nil => simp [withL]
  | cons y r ih =>
    unfold withL
    split
    · rw [List.mem_cons, ih, List.mem_cons]
      exact ⟨fun h => by rcases h with h | h | h <;> simp [h], fun h => by rcases h with h | h | h <;> simp [h]⟩
    · split
      · rename_i h; subst h; simp
      · rw [List.mem_cons]
def upS (l : List Str) : Prop := l.Pairwise (fun a b => bef a b = true)
theorem up_withL {s : Str} : ∀ {l : List Str}, upS l → upS (withL l s)
  | [], _ => by simp [withL, upS]
  | x :: r, h => by
    obtain ⟨h1, h2⟩ := List.pairwise_cons.1 h
    unfold withL
    split
    · rename_i hb
      refine List.pairwise_cons.2 ⟨fun y hy => ?_, up_withL h2⟩
      rcases mem_withL.1 hy with rfl | hy
      · exact hb
      · exact h1 y hy
    · rename_i hb
      split
      · exact h
      · rename_i hne
        have hsx : bef s x = true := bef_tri hne (by simpa using hb)
        refine List.pairwise_cons.2 ⟨fun y hy => ?_, h⟩
        rcases List.mem_cons.1 hy with rfl | hy
        · exact hsx
        · exact bef_trans hsx (h1 y hy)
theorem up_asym {a b : Str} (h : bef a b = true) : bef b a = false := by
  cases hb : bef b a with
  | false => rfl
  | true =>
    have := bef_trans h hb
    rw [bef_irr] at this; cases this
theorem up_ext : ∀ {a b : List Str}, upS a → upS b → (∀ x, x ∈ a ↔ x ∈ b) → a = b
  | [], [], _, _, _ => rfl
  | [], y :: t, _, _, h => absurd ((h y).2 (by simp)) (by simp)
  | x :: r, [], _, _, h => absurd ((h x).1 (by simp)) (by simp)
  | x :: r, y :: t, ha, hb, h => by
    obtain ⟨ha1, ha2⟩ := List.pairwise_cons.1 ha
    obtain ⟨hb1, hb2⟩ := List.pairwise_cons.1 hb
    have hxy : x = y := by
      rcases List.mem_cons.1 ((h x).1 (by simp)) with e | e
      · exact e
      · rcases List.mem_cons.1 ((h y).2 (by simp)) with e' | e'
        · exact e'.symm
        · have k1 := hb1 x e
          have k2 := up_asym (ha1 y e')
          rw [k1] at k2; cases k2
    subst hxy
    congr 1
    refine up_ext ha2 hb2 fun z => ?_
    have hz := h z
    simp only [List.mem_cons] at hz
    constructor
    · intro m
      rcases hz.1 (.inr m) with e | e
      · have := ha1 z m
        rw [e, bef_irr] at this; cases this
      · exact e
    · intro m
      rcases hz.2 (.inr m) with e | e
      · have := hb1 z m
        rw [e, bef_irr] at this; cases this
      · exact e

theorem lt_of_bef : ∀ {a b : Str}, bef a b = true → a < b
  | [], [], h => by cases h
  | [], _ :: _, _ => List.nil_lt_cons _ _
  | _ :: _, [], h => by cases h
  | a :: r, b :: s, h => by
    have h : (decide (a < b) || (a == b && bytesBefore r s)) = true := h
    rw [List.cons_lt_cons_iff]
    simp only [Bool.or_eq_true, Bool.and_eq_true, decide_eq_true_eq, beq_iff_eq] at h
    rcases h with h | ⟨h1, h2⟩
    · exact .inl h
    · exact .inr ⟨h1, lt_of_bef h2⟩
theorem bef_of_le {a b : Str} (h : a ≤ b) (hne : a ≠ b) : bef a b = true := by
  cases hb : bef a b with
  | true => rfl
  | false => exact absurd (lt_of_bef (bef_tri hne hb)) (List.not_lt.2 h)
theorem mem_compactUpTo {d : Array Str} {x : Str} : ∀ {m : Nat}, x ∈ Lib.compactUpTo d m ↔ ∃ j < m, d[j]! = x
  | 0 => by simp [Lib.compactUpTo]
  | m + 1 => by
    rw [Lib.compactUpTo_succ, List.mem_append, mem_compactUpTo (m := m)]
    constructor
    · rintro (⟨j, h1, h2⟩ | h)
      · exact ⟨j, by omega, h2⟩
      · split at h
        · exact ⟨m, by omega, (List.mem_singleton.1 h).symm⟩
        · cases h
    · rintro ⟨j, h1, h2⟩
      rcases Nat.lt_or_ge j m with h | h
      · exact .inl ⟨j, h, h2⟩
      · obtain rfl : j = m := by omega
        cases hk : Lib.keeps d j with
        | true => exact .inr (by simp [h2])
        | false =>
          unfold Lib.keeps at hk
          have hk := of_decide_eq_false hk
          have h0 : j ≠ 0 := fun e => hk (.inl e)
          have h3 : d[j]! = d[j - 1]! := Decidable.byContradiction fun e => hk (.inr e)
          exact .inl ⟨j - 1, by omega, by rw [← h3, h2]⟩
theorem mem_compactS {l : List Str} {x : Str} : x ∈ Lib.compact l ↔ x ∈ l := by
  unfold Lib.compact
  rw [mem_compactUpTo]
  constructor
  · rintro ⟨j, h1, h2⟩
    rw [← h2]
    simp [h1]
  · intro h
    obtain ⟨j, h1, h2⟩ := List.getElem_of_mem h
    exact ⟨j, h1, by simp [h1, h2]⟩
theorem up_compact {l : List Str} (h : l.Pairwise (fun a b => a ≤ b)) : upS (Lib.compact l) := by
  have hi := List.pairwise_iff_getElem.1 h
  unfold Lib.compact Lib.compactUpTo upS
  refine List.pairwise_map.2 (List.pairwise_filter.2 ?_)
  refine List.Pairwise.imp_of_mem (fun {a b} ha hb hab => ?_) List.pairwise_lt_range
  intro _ hkb
  have ha' : a < l.length := List.mem_range.1 ha
  have hb' : b < l.length := List.mem_range.1 hb
  unfold Lib.keeps at hkb
  have hk := (of_decide_eq_true hkb).resolve_left (by omega)
  have e1 : ∀ j, j < l.length → l.toArray[j]! = l[j]! := fun j hj => by simp
  have g : ∀ j (hj : j < l.length), l.toArray[j]! = l[j] := fun j hj => by simp [hj]
  rw [g b hb', g (b - 1) (by omega)] at hk
  show bef l.toArray[a]! l.toArray[b]! = true
  rw [g a ha', g b hb']
  have k1 : bef (l[b - 1]'(by omega)) l[b] = true := bef_of_le (hi (b - 1) b (by omega) hb' (by omega)) (fun e => hk e.symm)
  rcases Nat.lt_or_ge a (b - 1) with hlt | hge
  · by_cases he : l[a] = l[b - 1]'(by omega)
    · rw [he]; exact k1
    · exact bef_trans (bef_of_le (hi a (b - 1) ha' (by omega) hlt) he) k1
  · have : a = b - 1 := by omega
    subst this
    exact k1

theorem foldW_up : ∀ (xs l : List Str), upS l → upS (xs.foldl withL l)
  | [], _, h => h
  | _ :: xs, _, h => foldW_up xs _ (up_withL h)
theorem mem_foldW {x : Str} : ∀ (xs l : List Str), x ∈ xs.foldl withL l ↔ x ∈ l ∨ x ∈ xs
  | [], l => by simp
  | y :: xs, l => by
    rw [List.foldl_cons, mem_foldW xs, mem_withL, List.mem_cons]
    exact ⟨fun h => by rcases h with (h | h) | h <;> simp [h], fun h => by rcases h with h | h | h <;> simp [h]⟩
theorem foldW_len : ∀ (xs l : List Str), (xs.foldl withL l).length ≤ l.length + xs.length
  | [], _ => Nat.le_refl _
  | x :: xs, l => by
    have h1 := foldW_len xs (withL l x)
    have h2 := withL_len l x
    rw [List.foldl_cons, List.length_cons]; omega
theorem mem_sortS {x : Str} {l : List Str} : x ∈ l.mergeSort (fun x y => decide (x ≤ y)) ↔ x ∈ l := (List.mergeSort_perm l _).mem_iff
theorem sorted_le (l : List Str) : (l.mergeSort fun x y => decide (x ≤ y)).Pairwise (fun a b => a ≤ b) := by
  have := List.pairwise_mergeSort (le := fun (x y : Str) => decide (x ≤ y)) (fun a b c h1 h2 => by simp only [decide_eq_true_eq] at *; exact List.le_trans h1 h2) (fun a b => by
    simp only [Bool.or_eq_true, decide_eq_true_eq]
    exact List.le_total a b) l
  exact this.imp fun {a b} h => of_decide_eq_true h
end Go.Proofs.YtefoaeamfkbgbaaGreatDoor
namespace Go.Proofs.YtefoaeamfkbgbaaGreatDoor

/-- The first fault of n things, by a number each (0: none). -/
def firstFrom (f : Nat → Nat) : Nat → Nat → Er
  | _, 0 => .nil
  | i, m + 1 => if f i = 0 then firstFrom f (i + 1) m else .loc (f i) i
def firstErr (f : Nat → Nat) (n : Nat) : Er := firstFrom f 0 n

theorem firstFrom_all {f : Nat → Nat} : ∀ {m i : Nat}, (∀ j, i ≤ j → j < i + m → f j = 0) → firstFrom f i m = .nil
  | 0, _, _ => rfl
  | m + 1, i, h => by rw [firstFrom, if_pos (h i (Nat.le_refl _) (by omega))]; exact firstFrom_all fun j h1 h2 => h j (by omega) (by omega)
theorem firstErr_all {f : Nat → Nat} {n : Nat} (h : ∀ j < n, f j = 0) : firstErr f n = .nil := firstFrom_all fun j _ h2 => h j (by omega)
theorem firstFrom_hit {f : Nat → Nat} : ∀ {m i k : Nat}, i ≤ k → k < i + m → (∀ j, i ≤ j → j < k → f j = 0) → f k ≠ 0 → firstFrom f i m = .loc (f k) k
  | 0, _, _, h1, h2, _, _ => by omega
  | m + 1, i, k, h1, h2, h3, h4 => by
    rw [firstFrom]
    rcases Nat.lt_or_ge i k with h | h
    · rw [if_pos (h3 i (Nat.le_refl _) h)]; exact firstFrom_hit h (by omega) (fun j h5 h6 => h3 j (by omega) h6) h4
    · obtain rfl : i = k := by omega
      rw [if_neg h4]
theorem firstErr_hit {f : Nat → Nat} {n k : Nat} (hk : k < n) (h : ∀ j < k, f j = 0) (h4 : f k ≠ 0) : firstErr f n = .loc (f k) k := firstFrom_hit (Nat.zero_le _) (by omega) (fun j _ h2 => h j h2) h4
theorem firstFrom_nil {f : Nat → Nat} : ∀ {m i : Nat}, firstFrom f i m = .nil → ∀ j, i ≤ j → j < i + m → f j = 0
  | 0, _, _, j, h1, h2 => by omega
  | m + 1, i, h, j, h1, h2 => by
    rw [firstFrom] at h
    split at h
    · rename_i h0
      rcases Nat.lt_or_ge i j with hj | hj
      · exact firstFrom_nil h j hj (by omega)
      · obtain rfl : j = i := by omega
        exact h0
    · cases h
theorem firstErr_nil {f : Nat → Nat} {n : Nat} (h : firstErr f n = .nil) : ∀ j < n, f j = 0 := fun j hj => firstFrom_nil h j (Nat.zero_le _) (by omega)

/-- An ID's fault at its place. -/
def idFault (ids : List Int) (i : Nat) : Nat :=
  match ids[i]? with
  | none => 0
  | some n => if n < 1 ∨ 1073741824 < n then 2 else if 0 < i ∧ ∃ m, ids[i - 1]? = some m ∧ n ≤ m then 9 else 0
def metaCheck (ids : List Int) : Er := if ids.length = 0 then .bare 6 else if 40 < ids.length then .bare 8 else firstErr (idFault ids) ids.length
def metaNow (ids : List Int) : Int := ids.getLast?.getD 0
end Go.Proofs.YtefoaeamfkbgbaaGreatDoor
