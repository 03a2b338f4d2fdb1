/- store: Put. The model of a store: isObject, Put. The model of a store: Put. The model of a store: Drop. -/
import Derived.Test.YtikboodjfanjkaaGreatDoorBx13
import Derived.Test.YtikboodjfanjkaaGreatDoorBx10
import Derived.Deep.CutBlock
import Derived.Deep.DeepCutAuto
import Derived.Deep.RegionLaw
namespace Go.Proofs.YtikboodjfanjkaaGreatDoor
open Go.RowKit Go.Maps

theorem len_run {w : World} {sb mb : Nat} {s : St} (h : StoreAt w sb mb s) (ty : TypeId) : (Builtin.len_ #[98] ty #[.map (some mb)]).run Tryz.prog w = .ok (.int .i64 (s.objs.length : Int)) w := by
  have := h.own.len Tryz.underlying98 ty
  rwa [size_mapD] at this
theorem St.Ok.put {s : St} (h : s.Ok) {n t : Str} {d : Int} (hn : n.length ≤ 20000) (ht : t.length ≤ 20000) (hg : getO s.objs n = none) (hl : s.objs.length < 200) : St.Ok { s with objs := putO ⟨n, t, d⟩ s.objs } :=
  { ris := putO_rising h.ris hg, day0 := h.day0, day1 := h.day1, cut0 := h.cut0, cut1 := h.cut1, hd := h.hd
    txt := fun o ho => by
      rcases mem_putO.1 ho with rfl | ho
      · exact ht
      · exact h.txt o ho
    nam := fun o ho => by
      rcases mem_putO.1 ho with rfl | ho
      · exact hn
      · exact h.nam o ho
    num := by rw [putO_length]; omega }
/-- m[n] = object. -/
theorem mapSet_any {w : World} {sb mb : Nat} {s : St} (h : StoreAt w sb mb s) {n t : Str} {d : Int} (hn : n.length ≤ 20000) (ht : t.length ≤ 20000) (hg : getO s.objs n = none) (hl : s.objs.length < 200) :
    ∃ w', (Instr.mapUpdate 98 (.map (some mb)) (S n) (.agg #[S t, .int .i64 d])).run Tryz.prog w = .ok () w' ∧ StoreAt w' sb mb { s with objs := putO ⟨n, t, d⟩ s.objs } ∧ But2 sb mb w w' := by
  obtain ⟨w', h1, h2, h3⟩ := h.own.store (string_keyed Tryz.underlying9) Tryz.underlying98 (by unfold maxLen; omega) (keyStr (n := n) (by omega)) (objElem_mk (t := t) (d := d) (by unfold maxLen; omega))
  refine ⟨w', h1, ⟨(mapTurned_blk h3 h.ne h.lt).trans h.blk, ?_, h.ok.put hn ht hg hl⟩, mapTurned_but h3⟩
  rw [put_mapD (x := ⟨n, t, d⟩) hg] at h2
  have := ownsMap_tight h2
  rwa [size_mapD] at this

def putE (s : St) (n t : Str) : Er :=
  if nameOk n = false then .bare 5 else if 20000 < t.length then .bare 2 else if s.off = true then .bare 12 else if (getO s.objs n).isSome = true then .bare 7
  else if 200 ≤ s.objs.length ∨ 262144 < total s.objs + t.length then .bare 8 else if (aft s t.length).off = true then .bare 12 else .nil
def putS (s : St) (n t : Str) : St :=
  if nameOk n = false ∨ 20000 < t.length ∨ s.off = true ∨ (getO s.objs n).isSome = true ∨ 200 ≤ s.objs.length ∨ 262144 < total s.objs + t.length then s
  else { aft s t.length with objs := putO ⟨n, t.take (wrote s t.length), s.day⟩ s.objs }
theorem Bal {w w1 : World} {o : Obj} (h : Below (w.alloc o).heap.size (w.alloc o) w1) : Below w.heap.size w w1 := ((Below.refl _ w).alloc (Nat.le_refl _) o).trans (h.mono (by simp))
theorem take_ext (t : Str) (k : Nat) : S (t.take k) = .string ((ByteArray.mk t.toArray).extract 0 k) := by
  rw [ByteArray.extract_mk]
  simp
theorem Bd1 {B : Nat} {a w : World} (h : Below B a w) : Below B a w.drew := Bdn h 1
theorem obV_shape (o : Option Ob) : ∃ (t : Str) (d : Int), obV o = .agg #[S t, .int .i64 d] := by
  cases o with
  | none => exact ⟨[], 0, rfl⟩
  | some o => exact ⟨_, _, rfl⟩
theorem nameOk_len {n : Str} (h : nameOk n = true) : n.length ≤ 16 := by simp [nameOk] at h; exact h.2.1
theorem aft_objs (s : St) (k : Nat) : (aft s k).objs = s.objs := by unfold aft; split <;> (try split) <;> rfl
theorem aft_day (s : St) (k : Nat) : (aft s k).day = s.day := by unfold aft; split <;> (try split) <;> rfl

set_option maxRecDepth 20000 in
set_option maxHeartbeats 1000000 in
theorem put_any (E : Nat → Addr) (B : Nat) (sb mb : Nat) (s : St) (n t : Str) (w : World) (hE : Errs [2, 5, 7, 8, 12] E B w) (h : StoreAt w sb mb s) (hn : n.length ≤ 100000) (ht : t.length ≤ 100000) (hB : B ≤ sb) (hB2 : B ≤ mb) :
    Calls Tryz.prog 65 #[stP sb, S n, S t] w fun e w' => ∃ ev, e = .returned ev ∧ ErV E w' ev (putE s n t) ∧ StoreAt w' sb mb (putS s n t) ∧ But2 sb mb w w' := by
  have c0 := h.c0
  have hl := look_any h n hn
  have hE1 := fun w1 (hb : But2 sb mb w w1) => hE.below ((Below.refl B w).trans ⟨hb.os, hb.tape, hb.output, hb.size, fun k hk => hb.block k (Nat.lt_of_lt_of_le hk hE.le) (by omega) (by omega)⟩)
  obtain ⟨tx, dx, hov⟩ := obV_shape (getO s.objs n)
  rw [hov] at hl
  generalize hib : (getO s.objs n).isSome = ib at hl
  have HI := Lib.hid hib; have HE := Lib.hid hE1; have H := Lib.hid h; have HL := Lib.hid hl
  clear hov hE1
  unfold putE putS
  rw [HI.out]
  by_cases g1 : nameOk n = true
  case neg =>
    have g1 : nameOk n = false := by simpa using g1
    simp only [g1, if_true, true_or]
    clear hib h
    go_enter Tryz.func65, Tryz.ntmps65
    go_wp2_with fail
    refine (name_any n _ hn).mono ?_
    rintro e w1 ⟨rfl, hb1⟩
    have hb1 := Bal hb1
    have v5 := (HE.out w1 (.of hb1)).var 5 (by decide)
    simp only [errG] at v5
    rw [g1]
    go_wp2_with fail
    go_ret
    exact ⟨_, rfl, ⟨by decide, rfl⟩, H.out.below hb1, .of hb1⟩
  have hn16 := nameOk_len g1
  by_cases g2 : 20000 < t.length
  case pos =>
    simp only [g1, g2, if_true, true_or, or_true, Bool.true_eq_false, if_false]
    have g2 : (20000 : Int) < (t.length : Int) := by omega
    clear hib h
    go_enter Tryz.func65, Tryz.ntmps65
    go_wp2_with fail
    refine (name_any n _ hn).mono ?_
    rintro e w1 ⟨rfl, hb1⟩
    have hb1 := Bal hb1
    have v2 := (HE.out w1 (.of hb1)).var 2 (by decide)
    simp only [errG] at v2
    rw [g1]
    go_wp2_with fail
    go_ret
    exact ⟨_, rfl, ⟨by decide, rfl⟩, H.out.below hb1, .of hb1⟩
  have k2 : (t.length : Int) ≤ 20000 := by omega
  by_cases g3 : s.off = true
  case pos =>
    simp only [g1, g2, g3, if_true, true_or, or_true, Bool.true_eq_false, if_false]
    clear hib h
    go_enter Tryz.func65, Tryz.ntmps65
    go_wp2_with fail
    refine (name_any n _ hn).mono ?_
    rintro e w1 ⟨rfl, hb1⟩
    have hb1 := Bal hb1
    have v12 := (HE.out w1 (.of hb1)).var 12 (by decide)
    simp only [errG] at v12
    have c3 := (H.out.below hb1).c3
    rw [g3] at c3
    rw [g1]
    go_wp2_with fail
    go_ret
    exact ⟨_, rfl, ⟨by decide, rfl⟩, H.out.below hb1, .of hb1⟩
  have g3 : s.off = false := by simpa using g3
  by_cases g4 : ib = true
  case pos =>
    subst g4
    simp only [g1, g2, g3, if_true, true_or, or_true, Bool.true_eq_false, if_false, Bool.false_eq_true]
    clear hib h
    go_enter Tryz.func65, Tryz.ntmps65
    go_wp2_with fail
    refine (name_any n _ hn).mono ?_
    rintro e w1 ⟨rfl, hb1⟩
    have hb1 := Bal hb1
    have v7 := (HE.out w1 (.of hb1)).var 7 (by decide)
    simp only [errG] at v7
    have c3 := (H.out.below hb1).c3
    rw [g3] at c3
    rw [g1]
    go_wp2_with fail
    go_ret
    exact ⟨_, rfl, ⟨by decide, rfl⟩, H.out.below hb1, .of hb1⟩
  obtain rfl : ib = false := by simpa using g4
  have hg : getO s.objs n = none := by simpa using hib
  by_cases g5 : 200 ≤ s.objs.length
  case pos =>
    simp only [g1, g2, g3, g5, if_true, true_or, or_true, Bool.true_eq_false, if_false, Bool.false_eq_true]
    have g5 : (200 : Int) ≤ (s.objs.length : Int) := by omega
    clear hib h hg
    go_enter Tryz.func65, Tryz.ntmps65
    go_wp2_with fail
    refine (name_any n _ hn).mono ?_
    rintro e w1 ⟨rfl, hb1⟩
    have hb1 := Bal hb1
    have v8 := (HE.out w1 (.of hb1)).var 8 (by decide)
    simp only [errG] at v8
    have c3 := (H.out.below hb1).c3
    have c0' := (H.out.below hb1).c0
    have hlen := len_run (H.out.below hb1)
    rw [g3] at c3
    rw [g1]
    go_wp2_with fail
    go_ret
    exact ⟨_, rfl, ⟨by decide, rfl⟩, H.out.below hb1, .of hb1⟩
  have k5 : decide ((200 : Int) ≤ (s.objs.length : Int)) = false := by simp; omega
  have k5' : (s.objs.length : Int) < 200 := by omega
  have htot := total_le H.out.ok
  by_cases g6 : 262144 < total s.objs + t.length
  case pos =>
    simp only [g1, g2, g3, g6, if_true, or_true, Bool.true_eq_false, if_false, Bool.false_eq_true]
    have g6 : (262144 : Int) < (total s.objs : Int) + (t.length : Int) := by omega
    clear hib h hg
    go_enter Tryz.func65, Tryz.ntmps65
    go_wp2_with fail
    refine (name_any n _ hn).mono ?_
    rintro e w1 ⟨rfl, hb1⟩
    have hb1 := Bal hb1
    have c3 := (H.out.below hb1).c3
    have c0' := (H.out.below hb1).c0
    have hlen := len_run (H.out.below hb1)
    rw [g3] at c3
    rw [g1]
    go_wp2_with fail
    refine (bytes_any sb mb s _ (H.out.below hb1)).mono ?_
    rintro e w2 ⟨rfl, hb2⟩
    have hb2' := hb1.trans (hb2.mono hb1.size)
    have v8 := (HE.out w2 (.of hb2')).var 8 (by decide)
    simp only [errG] at v8
    generalize total s.objs = tt at *
    go_wp2_with fail
    go_ret
    exact ⟨_, rfl, ⟨by decide, rfl⟩, H.out.below hb2', .of hb2'⟩
  have k6 : decide ((262144 : Int) < (total s.objs : Int) + (t.length : Int)) = false := by simp; omega
  have k6' : (total s.objs : Int) + (t.length : Int) ≤ 262144 := by omega
  simp only [g1, g2, g3, g5, g6, Bool.true_eq_false, if_false, Bool.false_eq_true, false_or]
  have k5n : s.objs.length < 200 := by omega
  obtain ⟨af, haf⟩ : ∃ af, (aft s t.length).off = af := ⟨_, rfl⟩
  rw [haf]
  have HF := Lib.hid haf
  clear haf
  have Hg := Lib.hid hg
  have K5 := Lib.hid k5n
  have HT := Lib.hid htot
  clear hib h hg g2 g5 g6 k5n htot
  go_enter Tryz.func65, Tryz.ntmps65
  go_wp2_with fail
  refine (name_any n _ hn).mono ?_
  rintro e w1 ⟨rfl, hb1⟩
  have hb1 := Bal hb1
  have c3 := (H.out.below hb1).c3
  have c0' := (H.out.below hb1).c0
  have hlen := len_run (H.out.below hb1)
  rw [g3] at c3
  rw [g1]
  go_wp2_with fail
  refine (bytes_any sb mb s _ (H.out.below hb1)).mono ?_
  rintro e w2 ⟨rfl, hb2⟩
  have hb2' := hb1.trans (hb2.mono hb1.size)
  have hd := H.out.below (Bd1 hb2')
  have HD := Lib.hid hd
  have c0'' := hd.c0
  have c2'' := hd.c2
  have HB := Lib.hid (But2.of (sb := sb) (mb := mb) (Bd1 hb2'))
  clear c0 c0' c3 hlen HL hd
  generalize total s.objs = tt at *
  go_wp2_with fail
  go_region_with (go_at_call 129; refine (write_any sb mb s t.length _ HD.out ht).mono ?_; rintro e w3 ⟨rfl, h3, hb3⟩; have hwl := wrote_le s t.length; have c2 := h3.c2; rw [aft_day] at c2; have c0 := h3.c0; clear c0'' c2''; obtain ⟨w4, hrun, h4, hb4⟩ := mapSet_any h3 (n := n) (t := t.take (wrote s t.length)) (d := s.day) (by omega) (by rw [List.length_take]; omega) (by rw [aft_objs]; exact Hg.out) (by rw [aft_objs]; exact K5.out); have hb4' := (HB.out.trans hb3).trans hb4; rw [aft_objs, HF.out] at h4; have c3' := h4.c3; simp only at c3'; have v12 := (HE.out w4 hb4').var 12 (by decide); simp only [errG] at v12; have H4 := Lib.hid h4; have HB4 := Lib.hid hb4'; clear h3 hb3 h4 hb4 hb4'; rw [take_ext] at hrun; obtain ⟨wr, hwr⟩ : ∃ wr, wrote s t.length = wr := ⟨_, rfl⟩; rw [hwr] at hwl hrun; rw [hwr]; have HW := Lib.hid hwr; clear hwr)
  all_goals
    clear HF
    cases af with
    | true =>
      go_wp2_with fail
      go_ret
      exact ⟨_, rfl, ⟨by decide, rfl⟩, HW.out ▸ H4.out, HB4.out⟩
    | false =>
      go_wp2_with fail
      go_ret
      exact ⟨_, rfl, rfl, HW.out ▸ H4.out, HB4.out⟩
end Go.Proofs.YtikboodjfanjkaaGreatDoor
namespace Go.Proofs.YtikboodjfanjkaaGreatDoor
open Go.RowKit Go.Maps
attribute [local go_sem] bget bapp

def signP (b : UInt8) : Prop := (97 ≤ b.toNat ∧ b.toNat ≤ 122) ∨ (48 ≤ b.toNat ∧ b.toNat ≤ 57) ∨ b.toNat = 47
instance (b : UInt8) : Decidable (signP b) := inferInstanceAs (Decidable (_ ∨ _))
theorem sign_iff (b : UInt8) : nameSigns.contains b = decide (signP b) := by
  have h : ∀ n : Fin 256, nameSigns.contains (UInt8.ofNat n.val) = decide (signP (UInt8.ofNat n.val)) := by decide +kernel
  have := h ⟨b.toNat, b.toNat_lt⟩
  simpa using this
theorem nameOk_iff (s : Str) : nameOk s = (decide (1 ≤ s.length) && decide (s.length ≤ 16) && s.all (fun b => decide (signP b))) := by
  unfold nameOk
  have h1 : (fun b => nameSigns.contains b) = fun b => decide (signP b) := funext sign_iff
  rw [h1]
  cases s with
  | nil => rfl
  | cons a r => simp

set_option maxRecDepth 20000 in
theorem isObject_any (s : Str) (w : World) (hs : s.length ≤ 100000) :
    Calls Tryz.prog 130 #[S s] w fun e w' => e = .returned (.bool (nameOk s)) ∧ Below w.heap.size w w' := by
  rw [nameOk_iff]
  go_enter Tryz.func130, Tryz.ntmps130
  go_wp2_with fail
  go_loopw [3] (fun i wr => ∃ k : Nat, k ≤ s.length ∧ i = .int .i64 k ∧ Hid (∀ j < k, ∀ x, s[j]? = some x → signP x) ∧ Below w.heap.size w wr) (fun i _ => s.length - (intOf i).toNat)
  case atStart => exact ⟨0, by omega, rfl, Lib.hid fun j hj => absurd hj (by omega), Below.refl _ _⟩
  case round =>
    obtain ⟨k, hk, rfl, hj, hb⟩ := hrel
    by_cases hlt : k < s.length
    case neg =>
      have f : decide ((k : Int) < (s.length : Int)) = false := by simp; omega
      have hall : s.all (fun b => decide (signP b)) = true := by
        rw [List.all_eq_true]
        intro x hx
        obtain ⟨j, hj'⟩ := List.getElem?_of_mem hx
        exact decide_eq_true (hj.out j (by have := (List.getElem?_eq_some_iff.1 hj').1; omega) x hj')
      have HA := Lib.hid hall; clear hall
      go_wp2_with fail
      all_goals
        go_ret
        refine ⟨ret_bool ?_, hb⟩
        rw [HA.out, Bool.eq_iff_iff]
        simp
        omega
    have f : (k : Int) < (s.length : Int) := by omega
    have hgk : s[k]? = some s[k] := by simp [hlt]
    go_wp2_with fail
    all_goals first
      | (refine ⟨⟨k + 1, by omega, by go_num, Lib.hid fun j hj' y hy => ?_, hb⟩, by simp [intOf]; omega⟩
         rcases Nat.lt_or_ge j k with h | h
         · exact hj.out j h y hy
         · obtain rfl : j = k := by omega
           rw [hgk] at hy
           cases hy
           clear hj hb hgk hk hj'
           unfold signP
           simp at *
           omega)
      | (go_ret
         refine ⟨ret_bool ?_, hb⟩
         have key : ¬ signP s[k] := by
           clear hj hb hgk hk
           unfold signP
           simp at *
           omega
         have hall : (s.all fun b => decide (signP b)) = false := by
           rw [List.all_eq_false]
           exact ⟨s[k], List.getElem_mem hlt, by simpa using key⟩
         rw [hall, Bool.and_false])
end Go.Proofs.YtikboodjfanjkaaGreatDoor
namespace Go.Proofs.YtikboodjfanjkaaGreatDoor
open Go.RowKit Go.Maps

theorem putO_at {x : Ob} : ∀ {l : List Ob} {k : Nat}, k ≤ l.length → (∀ j < k, ∀ o, l[j]? = some o → bef x.name o.name = false) → (∀ o, l[k]? = some o → bef x.name o.name = true) → putO x l = l.take k ++ x :: l.drop k
  | [], 0, _, _, _ => rfl
  | [], _ + 1, h, _, _ => by simp at h
  | a :: r, 0, _, _, h => by unfold putO; rw [if_pos (h a rfl)]; rfl
  | a :: r, k + 1, hk, h, h2 => by
    unfold putO
    rw [if_neg (by rw [h 0 (by omega) a rfl]; decide)]
    rw [putO_at (k := k) (by simpa using hk) (fun j hj o ho => h (j + 1) (by omega) o (by simpa using ho)) (fun o ho => h2 o (by simpa using ho))]
    rfl
theorem less_bef : ∀ a b : Str, Op.bytesLess a b = bef a b
  | [], [] => by simp [Op.bytesLess, bytesBefore]
  | [], _ :: _ => by simp [Op.bytesLess, bytesBefore]
  | _ :: _, [] => by simp [Op.bytesLess, bytesBefore]
  | a :: r, b :: s => by
    have ih := less_bef r s
    show Op.bytesLess (a :: r) (b :: s) = (decide (a < b) || (a == b && bytesBefore r s))
    unfold Op.bytesLess
    rw [ih]
theorem bef_asym {a b : Str} (h : bef a b = true) : bef b a = false := by
  cases hb : bef b a with
  | false => rfl
  | true =>
    have := bef_trans h hb
    rw [bef_irr] at this; cases this
theorem own_base {α : Type} {enc : α → List Value} {e : TypeId} {sz B B' : Nat} {w : World} {v : Value} {l : List α} (h : Own enc e sz B' w v l) (hB : B ≤ B') : Own enc e sz B w v l := by
  obtain ⟨h1, h2⟩ := h
  refine ⟨h1, ?_⟩
  rcases h2 with h0 | ⟨g, cap, cur, hv, hg, rest⟩
  · exact .inl h0
  · exact .inr ⟨g, cap, cur, hv, Nat.le_trans hB hg, rest⟩
theorem own_shape {α : Type} {enc : α → List Value} {e : TypeId} {sz B : Nat} {w : World} {v : Value} {l : List α} (h : Own enc e sz B w v l) : (v = .slice none 0 0 ∧ l = []) ∨ ∃ g cap, v = .slice (some ⟨g, 0, none⟩) l.length cap ∧ l.length ≤ cap ∧ cap ≤ maxLen := by
  obtain ⟨h1, h2⟩ := h
  rcases h2 with ⟨rfl, h0⟩ | ⟨g, cap, cur, hv, _, _, hn, hm, _⟩
  · exact .inl ⟨rfl, List.eq_nil_of_length_eq_zero h0⟩
  · exact .inr ⟨g, cap, hv, hn, hm⟩
section
variable {α : Type} {enc : α → List Value} {sz n cap g k : Nat} {w : World} {l : List α}
theorem At.takeS (h : At enc sz w (.slice (some ⟨g, 0, none⟩) n cap) l) (hk : k ≤ l.length) : At enc sz w (.slice (some ⟨g, 0, none⟩) k cap) (l.take k) := by
  obtain ⟨a, c, b, o, hv, ha, hc, hm, hx⟩ := h
  cases hv
  have hl : (l.take k).length = k := by rw [List.length_take]; omega
  refine ⟨some ⟨g, 0, none⟩, cap, b, o, by rw [hl], fun h0 => ha (by omega), by omega, hm, fun i x hi j u hu => hx i x ?_ j u hu⟩
  rw [List.getElem?_take] at hi
  split at hi
  · exact hi
  · cases hi
theorem At.dropS (h : At enc sz w (.slice (some ⟨g, 0, none⟩) n cap) l) (hk : k ≤ l.length) : At enc sz w (.slice (some ⟨g, k * sz, none⟩) (l.length - k) (cap - k)) (l.drop k) := by
  obtain ⟨a, c, b, o, hv, ha, hc, hm, hx⟩ := h
  cases hv
  have hl : (l.drop k).length = l.length - k := List.length_drop
  refine ⟨some ⟨g, k * sz, none⟩, cap - k, g, k * sz, by rw [hl], fun _ => rfl, by omega, by omega, fun i x hi j u hu => ?_⟩
  rw [List.getElem?_drop] at hi
  have hlt := (List.getElem?_eq_some_iff.1 hi).1
  have h1 := hx _ x hi j u hu
  have h2 := ha (by omega)
  cases h2
  rw [show k * sz + i * sz + j = 0 + (k + i) * sz + j by rw [Nat.add_mul]; omega]
  exact h1
end
theorem wpList_here {P : Program} {w : World} {ops : Array Oper} {l : List Oper} {a : Act} {Q : Exit → Act → World → Prop} (h : wpList P ops Q l a w ∧ True) : wpList P ops Q l a w := h.1
theorem elOb : ElemInfo Tryz.prog 101 121 3 40 := elemInfo_of Tryz.underlying101 (z := .agg #[.string ByteArray.empty, .string ByteArray.empty, .int .i64 0]) (by kernel_rfl) rfl (by decide)
/-- append, as a step of a region that draws its order. -/
theorem step_app {P : Program} {ops : Array Oper} {o : Oper} {a : Act} {w : World} {K : Act → World → Prop} {Q : Exit → Act → World → Prop} {E : Prop} (hgd : o.guard = none) (s x : Operand) (t : TypeId)
    (ho : o.op = .call { callee := .builtin .append, args := #[s, x], argTypes := #[t, t] }) (base : Nat) {e : TypeId} {size bytes : Nat} (hE : ElemInfo P t e size bytes)
    (v : Value) (n : Nat) (xs : List Value) (hs : a.eval s = v) (hown : w.ownsRow base e size v n xs) (xv : Value) (m : Nat) (news : List Value) (hx : a.eval x = xv) (hsrc : SrcAt w size xv m news)
    (h63 : n + m ≤ maxLen) (hbytes : (n + m) * bytes ≤ 140737488355328) (hbase : base ≤ w.heap.size)
    (hK : ∀ v' w', w'.ownsRow base e size v' (n + m) (xs ++ news) → w.grownBy w' v.ownBlock → (v'.ownBlock = v.ownBlock ∨ v'.ownBlock = some w.heap.size) → K (a.put o.dst v') w') :
    if Region.wanted o (yielded ops a.tmps) = true then Oper.wp P o a w K Q else E := by
  have hw : Region.wanted o (yielded ops a.tmps) = true := by simp [Region.wanted, hgd]
  rw [if_pos hw]
  obtain ⟨v', w', hr, h2, h3, h4⟩ := run_app (P := P) w base t o.type e size bytes hE v n xs hown xv m news hsrc h63 hbytes hbase
  unfold Oper.wp execOp
  simp only [ho, resolve, invoke, builtin, Sem.run_bind, Sem.run_pure, Result.andThen_ok, List.map_toArray, List.map_cons, List.map_nil, hs, hx, hr]
  exact hK _ _ h2 h3 h4
theorem total_take {l : List Ob} {k : Nat} {x : Ob} (h : l[k]? = some x) : total (l.take (k + 1)) = total (l.take k) + x.text.length := by
  unfold total
  rw [List.take_add_one, h]
  simp

set_option maxRecDepth 20000 in
set_option maxHeartbeats 4000000 in
theorem putM_any (B xb : Nat) (v : Value) (s : St) (n t : Str) (w : World) (h : ModAt w B xb v s) (hn : n.length ≤ 100000) (ht : t.length ≤ 100000) (hB : B ≤ w.heap.size) :
    Calls Tryz.prog 66 #[stP xb, S n, S t] w fun e w' => ∃ v', e = .returned (.int .i64 ((putE s n t).code : Int)) ∧ ModAt w' B xb v' (putS s n t) ∧ But2 xb xb w w' := by
  have H := Lib.hid h
  unfold putE putS
  by_cases g1 : nameOk n = true
  case neg =>
    have g1 : nameOk n = false := by simpa using g1
    simp only [g1, if_true, true_or]
    go_enter Tryz.func66, Tryz.ntmps66
    go_wp2_with fail
    refine (isObject_any n _ hn).mono ?_
    rintro e w1 ⟨rfl, hb1⟩
    rw [g1]
    go_wp2_with fail
    go_ret
    exact ⟨_, rfl, H.out.below hb1, .of hb1⟩
  have hn16 := nameOk_len g1
  by_cases g2 : 20000 < t.length
  case pos =>
    simp only [g1, g2, if_true, true_or, or_true, Bool.true_eq_false, if_false]
    have g2 : (20000 : Int) < (t.length : Int) := by omega
    clear h
    go_enter Tryz.func66, Tryz.ntmps66
    go_wp2_with fail
    refine (isObject_any n _ hn).mono ?_
    rintro e w1 ⟨rfl, hb1⟩
    rw [g1]
    go_wp2_with fail
    go_ret
    exact ⟨_, rfl, H.out.below hb1, .of hb1⟩
  have k2 : (t.length : Int) ≤ 20000 := by omega
  by_cases g3 : s.off = true
  case pos =>
    simp only [g1, g2, g3, if_true, true_or, or_true, Bool.true_eq_false, if_false]
    clear h
    go_enter Tryz.func66, Tryz.ntmps66
    go_wp2_with fail
    refine (isObject_any n _ hn).mono ?_
    rintro e w1 ⟨rfl, hb1⟩
    have c3 := (H.out.below hb1).c3
    rw [g3] at c3
    rw [g1]
    go_wp2_with fail
    go_ret
    exact ⟨_, rfl, H.out.below hb1, .of hb1⟩
  have g3 : s.off = false := by simpa using g3
  cases hg : getO s.objs n with
  | some y =>
    simp only [g1, g2, g3, Option.isSome_some, if_true, true_or, or_true, Bool.true_eq_false, if_false, Bool.false_eq_true]
    clear h
    go_enter Tryz.func66, Tryz.ntmps66
    go_wp2_with fail
    refine (isObject_any n _ hn).mono ?_
    rintro e w1 ⟨rfl, hb1⟩
    have H1 := Lib.hid (H.out.below hb1)
    have c3 := H1.out.c3
    rw [g3] at c3
    rw [g1]
    go_wp2_with fail
    refine (findM_any B xb v s n _ H1.out).mono ?_
    rintro e w2 ⟨r, rfl, hr, hb2⟩
    rcases hr.got H.out.ok.ris with ⟨k, x, rfl, hk, hxk, hnm, hg2⟩ | ⟨rfl, hg2⟩
    · clear hr hxk hnm hg hg2 hk
      go_wp2_with fail
      go_ret
      exact ⟨_, rfl, H1.out.below hb2, .of (hb1.trans (hb2.mono hb1.size))⟩
    · rw [hg] at hg2; cases hg2
  | none =>
    have HG := Lib.hid hg
    have hnum := h.ok.num
    have htot := total_le h.ok
    obtain ⟨a, c, b, o, hv, ha, -, hm, hx⟩ := h.own.at encO_enc
    subst hv
    unfold maxLen at hm
    simp only [g1, g2, g3, Option.isSome_none, Bool.true_eq_false, if_false, Bool.false_eq_true, false_or]
    go_enter Tryz.func66, Tryz.ntmps66
    go_wp2_with fail
    refine (isObject_any n _ hn).mono ?_
    rintro e w1 ⟨rfl, hb1⟩
    have H1 := Lib.hid (H.out.below hb1)
    have c3 := H1.out.c3
    rw [g3] at c3
    rw [g1]
    go_wp2_with fail
    refine (findM_any B xb _ s n _ H1.out).mono ?_
    rintro e w2 ⟨r, rfl, hr, hb2⟩
    have hb2' := hb1.trans (hb2.mono hb1.size)
    rcases hr.got H.out.ok.ris with ⟨k, x, rfl, hk, hxk, hnm, hg2⟩ | ⟨rfl, hg2⟩
    · rw [hg] at hg2; cases hg2
    clear hr hg hg2 c3 hb1 hb2 h
    have c0 := (H.out.below hb2').c0
    go_wp2_with fail
    go_loopw [8, 9] (fun nv i wr => ∃ k : Nat, k ≤ s.objs.length ∧ i = .int .i64 k ∧ nv = .int .i64 ((t.length : Int) + (total (s.objs.take k) : Int)) ∧ Below w.heap.size w wr) (fun _ i _ => s.objs.length - (intOf i).toNat)
    case atStart => exact ⟨0, by omega, rfl, by simp [total], hb2'⟩
    case round =>
      obtain ⟨k, hk, rfl, rfl, hb⟩ := hrel
      clear c0
      have c0 := (H.out.below hb).c0
      by_cases hlt : k < s.objs.length
      case pos =>
        have f : (k : Int) < (s.objs.length : Int) := by omega
        obtain ⟨x, hxk⟩ := get_ex hlt
        have q1 := hx k x hxk 1 _ rfl
        have q1 := (hb.cell (World.block_lt_of_cell? w _ q1)).trans q1
        have i1 := idx_at (c := c) 3 Tryz.underlying101 szOb ha k hlt
        have htt := total_take hxk
        have hxl := H.out.ok.txt x (List.mem_of_getElem? hxk)
        have hle : total (s.objs.take (k + 1)) ≤ 4000000 := Nat.le_trans (by
          have := total_len (l := s.objs.take (k + 1)) (fun o ho => H.out.ok.txt o (List.mem_of_mem_take ho))
          rw [List.length_take] at this
          exact Nat.le_trans this (Nat.mul_le_mul_right _ (by omega))) (by omega : 200 * 20000 ≤ 4000000)
        have HT := Lib.hid htt
        have b1 : (total (s.objs.take k) : Int) + (x.text.length : Int) ≤ 4000000 := by omega
        clear hxk htt hle
        go_wp2_with fail
        exact ⟨⟨k + 1, by omega, by go_num, congrArg (Value.int .i64) (by have := HT.out; omega), hb⟩, by simp [intOf]; omega⟩
      case neg =>
        have f : decide ((k : Int) < (s.objs.length : Int)) = false := by simp; omega
        obtain rfl : k = s.objs.length := by omega
        rw [List.take_length]
        by_cases g5 : 200 ≤ s.objs.length
        case pos =>
          have g5' : (200 : Int) ≤ (s.objs.length : Int) := by omega
          have gf : 200 ≤ s.objs.length ∨ 262144 < total s.objs + t.length := .inl g5
          go_wp2_with fail
          go_ret
          exact ⟨rfl, ⟨_, H.out.below hb⟩, .of hb⟩
        by_cases g6 : 262144 < total s.objs + t.length
        case pos =>
          have g5' : decide ((200 : Int) ≤ (s.objs.length : Int)) = false := by simp; omega
          have g6' : (262144 : Int) < (t.length : Int) + (total s.objs : Int) := by omega
          have gf : 200 ≤ s.objs.length ∨ 262144 < total s.objs + t.length := .inr g6
          go_wp2_with fail
          go_ret
          exact ⟨rfl, ⟨_, H.out.below hb⟩, .of hb⟩
        have g5' : decide ((200 : Int) ≤ (s.objs.length : Int)) = false := by simp; omega
        have g6' : decide ((262144 : Int) < (t.length : Int) + (total s.objs : Int)) = false := by simp; omega
        have g7 : ¬ (200 ≤ s.objs.length ∨ 262144 < total s.objs + t.length) := by omega
        go_upto_block 2 with fail
        go_cut [10] (fun u wx => ∃ k : Nat, u = .int .i64 k ∧ k ≤ s.objs.length ∧ (∀ j < k, ∀ x, s.objs[j]? = some x → bef n x.name = false) ∧ (∀ x, s.objs[k]? = some x → bef n x.name = true) ∧ Below w.heap.size w wx)
        case first =>
          go_wp2_with fail
          go_loopw [10] (fun u wx => ∃ k : Nat, u = .int .i64 k ∧ k ≤ s.objs.length ∧ Hid (∀ j < k, ∀ x, s.objs[j]? = some x → bef n x.name = false) ∧ Below w.heap.size w wx) (fun i _ => s.objs.length - (intOf i).toNat)
          case atStart => exact ⟨0, rfl, by omega, Lib.hid fun j hj => absurd hj (by omega), hb⟩
          case round =>
            obtain ⟨k, rfl, hk, hj, hb⟩ := hrel
            clear c0
            have c0 := (H.out.below hb).c0
            by_cases hlt : k < s.objs.length
            case neg =>
              have f : decide ((k : Int) < (s.objs.length : Int)) = false := by simp; omega
              go_wp2_with fail
              go_meet
              refine ⟨k, rfl, hk, hj.out, ?_, hb⟩
              intro x hx
              rw [List.getElem?_eq_none (by omega)] at hx
              cases hx
            have f : (k : Int) < (s.objs.length : Int) := by omega
            obtain ⟨x, hxk⟩ := get_ex hlt
            have q0 := hx k x hxk 0 _ rfl
            have q0 := (hb.cell (World.block_lt_of_cell? w _ q0)).trans q0
            have i1 := idx_at (c := c) 3 Tryz.underlying101 szOb ha k hlt
            simp only [Nat.add_zero] at q0
            have HX := Lib.hid hxk
            clear hxk
            go_wp2_with fail
            · rename_i hle
              refine ⟨⟨k + 1, by go_num, by omega, Lib.hid fun j hj' y hy => ?_, hb⟩, by simp [intOf]; omega⟩
              rcases Nat.lt_or_ge j k with h | h
              · exact hj.out j h y hy
              · obtain rfl : j = k := by omega
                rw [HX.out] at hy
                cases hy
                exact bef_asym ((less_bef _ _).symm.trans hle)
            · rename_i hle
              go_meet
              refine ⟨k, rfl, hk, hj.out, fun y hy => ?_, hb⟩
              rw [HX.out] at hy
              cases hy
              exact bef_tri (fun e => getO_none.1 HG.out _ (List.mem_of_getElem? HX.out) e) ((less_bef _ _).symm.trans hle)
        case rest =>
          obtain ⟨k, rfl, hk, hj, hk2, hb⟩ := hcut
          have hput := putO_at (x := ⟨n, t.take (wrote s t.length), s.day⟩) hk hj hk2
          have HP := Lib.hid hput
          have HB := Lib.hid hb
          clear hj hk2 hput
          go_wp2_with fail
          refine (written_any B xb _ s t.length _ (H.out.below hb) ht).mono ?_
          rintro e w3 ⟨rfl, h3, hb3⟩
          have hwl := wrote_le s t.length
          clear c0
          have c0 := h3.c0
          have c2 := h3.c2
          rw [aft_day] at c2
          have H3 := Lib.hid h3
          have hs23 : _ ≤ w3.heap.size := hb3.size
          have HB3 := Lib.hid ((But2.of (sb := xb) (mb := xb) hb).trans hb3)
          clear h3 hb3 hb
          have hsh := own_shape H.out.own
          rcases hsh with ⟨hv, hnil⟩ | ⟨g, cap, hv, hcap, hcm⟩
          · have hl0 : s.objs.length = 0 := by rw [hnil]; rfl
            obtain hk0 : k = 0 := by omega
            have HNIL := Lib.hid hnil
            clear hnil
            simp only [Value.slice.injEq] at hv
            obtain ⟨rfl, -, rfl⟩ := hv
            rw [hl0] at c0
            subst hk0
            have hsn : ∀ (W : World) (a' : Option Addr) (c' : Nat), SrcAt W 3 (.slice a' 0 c') 0 [] := fun W a' c' => ⟨a', c', rfl, rfl, fun u hu => (by cases hu), fun h0 => absurd h0 (by decide)⟩
            have htl : (s.objs.take 0).length = 0 := by rw [List.length_take]; omega
            have hdl : (s.objs.drop 0).length = s.objs.length - 0 := List.length_drop
            have htk : s.objs.take 0 = [] := rfl
            have hdk : s.objs.drop 0 = [] := by rw [HNIL.out]; rfl
            go_wp2_with (at_builtin; refine wpList_app rfl _ _ _ rfl w3.heap.size elOb (.slice none 0 0) 0 [] rfl (Own.nil encO _ 3 _ _) _ 0 [] rfl (hsn _ _ _) (by unfold maxLen; omega) (by omega) (Nat.le_refl _) ?_; intro u4 w4 ho4 hg4 hn4)
            have hb4 : Below w3.heap.size w3 w4 := Bapp (Below.refl _ w3) (Own.nil encO 121 3 w3.heap.size w3) hg4 (Nat.le_refl _) (Nat.le_refl _)
            have ho4 : Own encO 121 3 w3.heap.size w4 u4 (s.objs.take 0) := by rw [htk]; unfold Own; simpa using ho4
            clear hg4 hn4
            have H4 := Lib.hid (H3.out.below (Bd1 hb4))
            have ho4 := ho4.drewN 1
            have hb4 : Below w3.heap.size w3 (w4.drewN 1) := Bdn hb4 1
            clear c0 c2
            have c0 := H4.out.c0
            rw [hl0] at c0
            have c2 := H4.out.c2
            rw [aft_day] at c2
            obtain ⟨wr', hwr'⟩ : ∃ m, wrote s t.length = m := ⟨_, rfl⟩
            rw [hwr']
            have hwi : (wr' : Int) ≤ (t.length : Int) := by omega
            have HWR := Lib.hid hwr'
            clear hwr'
            have ho4' : w4.drew.ownsRow w3.heap.size 121 3 u4 0 ((s.objs.take 0).flatMap encO) := by
              have : w4.drew.ownsRow w3.heap.size 121 3 u4 (s.objs.take 0).length ((s.objs.take 0).flatMap encO) := ho4
              rwa [htl] at this
            have hs34 : w3.heap.size ≤ w4.heap.size := hb4.size
            have hsrc : SrcAt ((w4.alloc (.cells #[S n, .string ((ByteArray.mk t.toArray).extract 0 wr'), .int .i64 s.day] 121)).drew) 3 (.slice (some ⟨w4.heap.size, 0, none⟩) 1 1) 1 [S n, .string ((ByteArray.mk t.toArray).extract 0 wr'), .int .i64 s.day] := src_one (w := w4) rfl rfl (by simp [Value.oneCell'])
            go_region_law ((refine step_app rfl _ _ _ rfl w3.heap.size elOb u4 0 _ rfl (World.ownsRow.alloc ho4' _) (.slice (some ⟨w4.heap.size, 0, none⟩) 1 1) 1 _ rfl hsrc (by unfold maxLen; omega) (by omega) (by simp; omega) ?_; intro u5 w5 ho5 hg5 hn5))
            have hb5 : Below w3.heap.size w3 w5 := Bapp (hb4.alloc hb4.size _) (Own.alloc (Own.drewN ho4 0) _) hg5 (Nat.le_refl _) (by simp; omega)
            clear hg5 hn5 hsrc c0 c2 ho4'
            have H5 := Lib.hid (H3.out.below hb5)
            have c0 := H5.out.c0
            rw [hl0] at c0
            have f0 := H5.out.fz 0
            have hx5 : (take_ext t wr').symm = (take_ext t wr').symm := rfl
            rw [← take_ext] at ho5
            have ho5 : Own encO 121 3 w3.heap.size w5 u5 (s.objs.take 0 ++ [⟨n, t.take wr', s.day⟩]) := Own.snoc (x := (⟨n, t.take wr', s.day⟩ : Ob)) (by rw [htl]; exact ho5)
            have hl5 : (s.objs.take 0 ++ [(⟨n, t.take wr', s.day⟩ : Ob)]).length = 0 + 1 := by simp
            clear hx5
            have hs35 : w3.heap.size ≤ w5.heap.size := hb5.size
            have ho5' : w5.ownsRow w3.heap.size 121 3 u5 (0 + 1) ((s.objs.take 0 ++ [(⟨n, t.take wr', s.day⟩ : Ob)]).flatMap encO) := by
              have := ho5
              unfold Own at this
              rwa [hl5] at this
            go_wp2_with (at_builtin; refine wpList_here ?_)
            all_goals
              refine ⟨?_, trivial⟩
              refine wpList_app rfl _ _ _ rfl w3.heap.size elOb u5 (0 + 1) _ rfl ho5' _ 0 [] rfl (hsn _ _ _) (by unfold maxLen; omega) (by omega) (by omega) ?_
              intro u6 w6 ho6 hg6 hn6
              have hb6 := Bapp hb5 ho5 hg6 (Nat.le_refl _) hs35
              have H6 := Lib.hid (H3.out.below hb6)
              have c0' := H6.out.c0
              rw [hl0] at c0'
              have f0' := H6.out.fz 0
              have hl6 : ((s.objs.take 0 ++ [(⟨n, t.take wr', s.day⟩ : Ob)]) ++ s.objs.drop 0).length = 0 + 1 + (s.objs.length - 0) := by rw [List.length_append, hl5, List.length_drop]
              have ho6' : Own encO 121 3 w3.heap.size w6 u6 ((s.objs.take 0 ++ [(⟨n, t.take wr', s.day⟩ : Ob)]) ++ s.objs.drop 0) := by
                unfold Own
                rw [hl6, List.flatMap_append, hdk, hl0]
                exact ho6
              have hlist : (s.objs.take 0 ++ [(⟨n, t.take wr', s.day⟩ : Ob)]) ++ s.objs.drop 0 = putO ⟨n, t.take (wrote s t.length), s.day⟩ s.objs := by
                rw [HP.out, HWR.out]; simp
              rw [hlist] at ho6'
              have hxb3 : xb < w3.heap.size := H3.out.lt
              have hne6 : u6.ownBlock ≠ some xb := fun e => by
                have := (World.ownsRow.lt ho6' _ e).1
                omega
              have hbd : Own encO 121 3 B w6 u6 (putO ⟨n, t.take (wrote s t.length), s.day⟩ s.objs) := own_base ho6' (Nat.le_trans hB (Nat.le_trans HB.out.size (Nat.le_trans hs23 (Nat.le_refl _))))
              have hokf : St.Ok { aft s t.length with objs := putO ⟨n, t.take (wrote s t.length), s.day⟩ s.objs } := by
                have := H3.out.ok.put (n := n) (t := t.take (wrote s t.length)) (d := s.day) (by omega) (by rw [List.length_take]; omega) (by rw [aft_objs]; exact HG.out) (by rw [aft_objs]; omega)
                rwa [aft_objs] at this
              have hF : ModAt (w6.setCell ⟨xb, 0, none⟩ u6) B xb u6 { aft s t.length with objs := putO ⟨n, t.take (wrote s t.length), s.day⟩ s.objs } :=
                ⟨heap_setCell_same w6 xb 0 _ _ u6 H6.out.blk, own_but hbd hne6 hne6 (But2.set (mb := xb) w6 0 u6), hokf⟩
              have c3f := hF.c3
              simp only at c3f
              have HFF := Lib.hid hF
              have HBF := Lib.hid ((HB3.out.trans (.of hb6)).trans (But2.set (mb := xb) w6 0 u6))
              have hsh6 := own_shape ho6'
              rw [putO_length, hl0, Nat.zero_add] at hsh6
              clear hF hbd ho6' ho6 hg6 hn6 hlist hl6 c0 f0 hne6 hokf
              rcases hsh6 with ⟨_, he⟩ | ⟨g6, cap6, rfl, _, _⟩
              · have := congrArg List.length he
                rw [putO_length] at this
                simp at this
              obtain ⟨af, haf⟩ : ∃ af, (aft s t.length).off = af := ⟨_, rfl⟩
              rw [haf] at c3f
              have HAF := Lib.hid haf
              clear haf
              cases af with
              | true =>
                go_wp2_with fail
                all_goals first
                  | (go_ret
                     exact ⟨rfl, ⟨_, by have := HFF.out; rw [HAF.out] at this; exact this⟩, HBF.out⟩)
                  | (go_ret
                     exact ⟨by rw [HAF.out]; rfl, ⟨_, HFF.out⟩, HBF.out⟩)
                  | (go_ret
                     exact ⟨_, by rw [HAF.out]; rfl, HFF.out, HBF.out⟩)
                  | (exfalso
                     have h1 := HAF.out
                     first
                       | exact h h1
                       | (rw [h1] at h; cases h))
              | false =>
                go_wp2_with fail
                all_goals first
                  | (go_ret
                     exact ⟨rfl, ⟨_, by have := HFF.out; rw [HAF.out] at this; exact this⟩, HBF.out⟩)
                  | (go_ret
                     exact ⟨by rw [HAF.out]; rfl, ⟨_, HFF.out⟩, HBF.out⟩)
                  | (go_ret
                     exact ⟨_, by rw [HAF.out]; rfl, HFF.out, HBF.out⟩)
                  | (exfalso
                     have h1 := HAF.out
                     first
                       | exact h h1
                       | (rw [h1] at h; cases h))
          · cases hv
            have hA3 := Lib.hid (H3.out.own.at encO_enc)
            rw [aft_objs] at hA3
            have s1 := Lib.hid (At.src encO_enc (by decide) (hA3.out.takeS hk))
            have s2 := Lib.hid (At.src encO_enc (by decide) (hA3.out.dropS hk))
            have k1 : (k : Int) ≤ (s.objs.length : Int) := by omega
            have k2' : (s.objs.length : Int) ≤ (c : Int) := by omega
            have k3 : (k : Int) ≤ (c : Int) := by omega
            have htl : (s.objs.take k).length = k := by rw [List.length_take]; omega
            have hdl : (s.objs.drop k).length = s.objs.length - k := List.length_drop
            rw [htl] at s1
            rw [hdl] at s2
            go_wp2_with (at_builtin; refine wpList_app rfl _ _ _ rfl w3.heap.size elOb (.slice none 0 0) 0 [] rfl (Own.nil encO _ 3 _ _) (.slice (some ⟨g, 0, none⟩) k c) k _ rfl s1.out (by unfold maxLen; omega) (by omega) (Nat.le_refl _) ?_; intro u4 w4 ho4 hg4 hn4)
            have hb4 : Below w3.heap.size w3 w4 := Bapp (Below.refl _ w3) (Own.nil encO 121 3 w3.heap.size w3) hg4 (Nat.le_refl _) (Nat.le_refl _)
            have ho4 : Own encO 121 3 w3.heap.size w4 u4 (s.objs.take k) := by unfold Own; rw [htl]; simpa using ho4
            clear hg4 hn4
            have H4 := Lib.hid (H3.out.below (Bd1 hb4))
            have ho4 := ho4.drewN 1
            have hb4 : Below w3.heap.size w3 (w4.drewN 1) := Bdn hb4 1
            clear c0 c2
            have c0 := H4.out.c0
            have c2 := H4.out.c2
            rw [aft_day] at c2
            obtain ⟨wr', hwr'⟩ : ∃ m, wrote s t.length = m := ⟨_, rfl⟩
            rw [hwr']
            have hwi : (wr' : Int) ≤ (t.length : Int) := by omega
            have HWR := Lib.hid hwr'
            clear hwr'
            have ho4' : w4.drew.ownsRow w3.heap.size 121 3 u4 k ((s.objs.take k).flatMap encO) := by
              have : w4.drew.ownsRow w3.heap.size 121 3 u4 (s.objs.take k).length ((s.objs.take k).flatMap encO) := ho4
              rwa [htl] at this
            have hs34 : w3.heap.size ≤ w4.heap.size := hb4.size
            have hsrc : SrcAt ((w4.alloc (.cells #[S n, .string ((ByteArray.mk t.toArray).extract 0 wr'), .int .i64 s.day] 121)).drew) 3 (.slice (some ⟨w4.heap.size, 0, none⟩) 1 1) 1 [S n, .string ((ByteArray.mk t.toArray).extract 0 wr'), .int .i64 s.day] := src_one (w := w4) rfl rfl (by simp [Value.oneCell'])
            go_region_law ((refine step_app rfl _ _ _ rfl w3.heap.size elOb u4 k _ rfl (World.ownsRow.alloc ho4' _) (.slice (some ⟨w4.heap.size, 0, none⟩) 1 1) 1 _ rfl hsrc (by unfold maxLen; omega) (by omega) (by simp; omega) ?_; intro u5 w5 ho5 hg5 hn5))
            have hb5 : Below w3.heap.size w3 w5 := Bapp (hb4.alloc hb4.size _) (Own.alloc (Own.drewN ho4 0) _) hg5 (Nat.le_refl _) (by simp; omega)
            clear hg5 hn5 hsrc c0 c2 ho4'
            have H5 := Lib.hid (H3.out.below hb5)
            have c0 := H5.out.c0
            have f0 := H5.out.fz 0
            have hx5 : (take_ext t wr').symm = (take_ext t wr').symm := rfl
            rw [← take_ext] at ho5
            have ho5 : Own encO 121 3 w3.heap.size w5 u5 (s.objs.take k ++ [⟨n, t.take wr', s.day⟩]) := Own.snoc (x := (⟨n, t.take wr', s.day⟩ : Ob)) (by rw [htl]; exact ho5)
            have hl5 : (s.objs.take k ++ [(⟨n, t.take wr', s.day⟩ : Ob)]).length = k + 1 := by simp [htl]
            clear hx5
            have hA5 := H5.out.own.at encO_enc
            rw [aft_objs] at hA5
            have s5 := At.src encO_enc (by decide) (hA5.dropS hk)
            rw [hdl] at s5
            have s5'' : ∀ (a' : Option Addr) (c' : Nat), s.objs.length = k → SrcAt w5 3 (.slice a' (s.objs.length - k) c') (s.objs.length - k) ((s.objs.drop k).flatMap encO) := by
              intro a' c' he
              have hd : s.objs.drop k = [] := List.drop_eq_nil_of_le (by omega)
              rw [hd]
              exact ⟨a', c', rfl, by simp; omega, fun u hu => (by cases hu), fun h0 => absurd h0 (by omega)⟩
            clear hA5 s1 s2 hA3
            have hs35 : w3.heap.size ≤ w5.heap.size := hb5.size
            have ho5' : w5.ownsRow w3.heap.size 121 3 u5 (k + 1) ((s.objs.take k ++ [(⟨n, t.take wr', s.day⟩ : Ob)]).flatMap encO) := by
              have := ho5
              unfold Own at this
              rwa [hl5] at this
            go_wp2_with (at_builtin; refine wpList_here ?_)
            all_goals
              refine ⟨?_, trivial⟩
              refine wpList_app rfl _ _ _ rfl w3.heap.size elOb u5 (k + 1) _ rfl ho5' _ (s.objs.length - k) ((s.objs.drop k).flatMap encO) rfl (by first | exact s5 | exact s5'' _ _ (by omega)) (by unfold maxLen; omega) (by omega) (by omega) ?_
              intro u6 w6 ho6 hg6 hn6
              have hb6 := Bapp hb5 ho5 hg6 (Nat.le_refl _) hs35
              have H6 := Lib.hid (H3.out.below hb6)
              have c0' := H6.out.c0
              have f0' := H6.out.fz 0
              have hl6 : ((s.objs.take k ++ [(⟨n, t.take wr', s.day⟩ : Ob)]) ++ s.objs.drop k).length = k + 1 + (s.objs.length - k) := by rw [List.length_append, hl5, List.length_drop]
              have ho6' : Own encO 121 3 w3.heap.size w6 u6 ((s.objs.take k ++ [(⟨n, t.take wr', s.day⟩ : Ob)]) ++ s.objs.drop k) := by
                unfold Own
                rw [hl6, List.flatMap_append]
                exact ho6
              have hlist : (s.objs.take k ++ [(⟨n, t.take wr', s.day⟩ : Ob)]) ++ s.objs.drop k = putO ⟨n, t.take (wrote s t.length), s.day⟩ s.objs := by
                rw [HP.out, HWR.out]; simp
              rw [hlist] at ho6'
              have hxb3 : xb < w3.heap.size := H3.out.lt
              have hne6 : u6.ownBlock ≠ some xb := fun e => by
                have := (World.ownsRow.lt ho6' _ e).1
                omega
              have hbd : Own encO 121 3 B w6 u6 (putO ⟨n, t.take (wrote s t.length), s.day⟩ s.objs) := own_base ho6' (Nat.le_trans hB (Nat.le_trans HB.out.size (Nat.le_trans hs23 (Nat.le_refl _))))
              have hokf : St.Ok { aft s t.length with objs := putO ⟨n, t.take (wrote s t.length), s.day⟩ s.objs } := by
                have := H3.out.ok.put (n := n) (t := t.take (wrote s t.length)) (d := s.day) (by omega) (by rw [List.length_take]; omega) (by rw [aft_objs]; exact HG.out) (by rw [aft_objs]; omega)
                rwa [aft_objs] at this
              have hF : ModAt (w6.setCell ⟨xb, 0, none⟩ u6) B xb u6 { aft s t.length with objs := putO ⟨n, t.take (wrote s t.length), s.day⟩ s.objs } :=
                ⟨heap_setCell_same w6 xb 0 _ _ u6 H6.out.blk, own_but hbd hne6 hne6 (But2.set (mb := xb) w6 0 u6), hokf⟩
              have c3f := hF.c3
              simp only at c3f
              have HFF := Lib.hid hF
              have HBF := Lib.hid ((HB3.out.trans (.of hb6)).trans (But2.set (mb := xb) w6 0 u6))
              have hsh6 := own_shape ho6'
              rw [putO_length] at hsh6
              clear hF hbd ho6' ho6 hg6 hn6 hlist hl6 c0 f0 hne6 hokf
              rcases hsh6 with ⟨_, he⟩ | ⟨g6, cap6, rfl, _, _⟩
              · have := congrArg List.length he
                rw [putO_length] at this
                simp at this
              obtain ⟨af, haf⟩ : ∃ af, (aft s t.length).off = af := ⟨_, rfl⟩
              rw [haf] at c3f
              have HAF := Lib.hid haf
              clear haf
              cases af with
              | true =>
                go_wp2_with fail
                all_goals first
                  | (go_ret
                     exact ⟨rfl, ⟨_, by have := HFF.out; rw [HAF.out] at this; exact this⟩, HBF.out⟩)
                  | (go_ret
                     exact ⟨by rw [HAF.out]; rfl, ⟨_, HFF.out⟩, HBF.out⟩)
                  | (go_ret
                     exact ⟨_, by rw [HAF.out]; rfl, HFF.out, HBF.out⟩)
                  | (exfalso
                     have h1 := HAF.out
                     first
                       | exact h h1
                       | (rw [h1] at h; cases h))
              | false =>
                go_wp2_with fail
                all_goals first
                  | (go_ret
                     exact ⟨rfl, ⟨_, by have := HFF.out; rw [HAF.out] at this; exact this⟩, HBF.out⟩)
                  | (go_ret
                     exact ⟨by rw [HAF.out]; rfl, ⟨_, HFF.out⟩, HBF.out⟩)
                  | (go_ret
                     exact ⟨_, by rw [HAF.out]; rfl, HFF.out, HBF.out⟩)
                  | (exfalso
                     have h1 := HAF.out
                     first
                       | exact h h1
                       | (rw [h1] at h; cases h))
end Go.Proofs.YtikboodjfanjkaaGreatDoor
namespace Go.Proofs.YtikboodjfanjkaaGreatDoor
open Go.RowKit Go.Maps

theorem dropO_at : ∀ {l : List Ob} {k : Nat} {x : Ob}, Rising l → l[k]? = some x → dropO l x.name = l.take k ++ l.drop (k + 1)
  | [], k, x, _, h => by simp at h
  | a :: r, 0, x, hr, h => by
    obtain rfl : a = x := by simpa using h
    have ha := (List.pairwise_cons.1 hr.apart).1
    unfold dropO
    rw [List.filter_cons_of_neg (by simp)]
    simp only [List.take_zero, List.drop_succ_cons, List.drop_zero, List.nil_append]
    exact List.filter_eq_self.2 fun o ho => by simpa using (ha o ho).symm
  | a :: r, k + 1, x, hr, h => by
    have ha := (List.pairwise_cons.1 hr.apart).1
    have hx : r[k]? = some x := by simpa using h
    have ih := dropO_at (List.pairwise_cons.1 hr).2 hx
    unfold dropO at ih ⊢
    rw [List.filter_cons_of_pos (by simpa using ha x (List.mem_of_getElem? hx))]
    rw [ih]
    rfl

set_option maxRecDepth 20000 in
set_option maxHeartbeats 4000000 in
theorem dropM_any (B xb : Nat) (v : Value) (s : St) (n : Str) (w : World) (h : ModAt w B xb v s) (hB : B ≤ w.heap.size) :
    Calls Tryz.prog 70 #[stP xb, S n] w fun e w' => ∃ v', e = .returned (.int .i64 ((dropE s n).code : Int)) ∧ ModAt w' B xb v' (dropS s n) ∧ But2 xb xb w w' := by
  have H := Lib.hid h
  have c3 := h.c3
  unfold dropE dropS
  cases ho : s.off with
  | true =>
    rw [ho] at c3
    simp only [if_true, true_or]
    clear h ho
    go_enter Tryz.func70, Tryz.ntmps70
    go_wp2_with fail
    go_ret
    exact ⟨_, rfl, H.out, .of (Below.refl _ _)⟩
  | false =>
    rw [ho] at c3
    cases hg : getO s.objs n with
    | none =>
      simp only [if_true, or_true, Bool.false_eq_true, if_false]
      clear h ho
      go_enter Tryz.func70, Tryz.ntmps70
      go_wp2_with fail
      refine (findM_any B xb v s n _ H.out).mono ?_
      rintro e w1 ⟨r, rfl, hr, hb⟩
      rcases hr.got H.out.ok.ris with ⟨k, x, rfl, hk, hxk, hnm, hg2⟩ | ⟨rfl, hg2⟩
      · rw [hg] at hg2; cases hg2
      · clear hr hg hg2
        go_wp2_with fail
        go_ret
        exact ⟨_, rfl, H.out.below hb, .of hb⟩
    | some y =>
      simp only [Bool.false_eq_true, if_false, or_false, reduceCtorEq]
      have hnum := h.ok.num
      rcases own_shape h.own with ⟨rfl, hnil⟩ | ⟨g, c, rfl, hcap, hcm⟩
      · rw [hnil] at hg; cases hg
      unfold maxLen at hcm
      have HO := Lib.hid ho
      clear h ho
      go_enter Tryz.func70, Tryz.ntmps70
      go_wp2_with fail
      refine (findM_any B xb _ s n _ H.out).mono ?_
      rintro e w3 ⟨r, rfl, hr, hb⟩
      rcases hr.got H.out.ok.ris with ⟨k, x, rfl, hk, hxk, hnm, hg2⟩ | ⟨rfl, hg2⟩
      case inr => rw [hg] at hg2; cases hg2
      have hdr := dropO_at H.out.ok.ris hxk
      rw [hnm] at hdr
      have HD := Lib.hid hdr
      have H3 := Lib.hid (H.out.below hb)
      have HB := Lib.hid hb
      clear hr hg hg2 hxk hnm hdr c3 hb
      have c0 := H3.out.c0
      have hA3 := Lib.hid (H3.out.own.at encO_enc)
      have s1 := Lib.hid (At.src encO_enc (by decide) (hA3.out.takeS (Nat.le_of_lt hk)))
      have k1 : (k : Int) < (s.objs.length : Int) := by omega
      have k2 : (s.objs.length : Int) ≤ (c : Int) := by omega
      have k3 : (k : Int) ≤ (c : Int) := by omega
      have k4 : (k : Int) + 1 ≤ (s.objs.length : Int) := by omega
      have k5 : (k : Int) + 1 ≤ (c : Int) := by omega
      have htl : (s.objs.take k).length = k := by rw [List.length_take]; omega
      have hdl : (s.objs.drop (k + 1)).length = s.objs.length - (k + 1) := List.length_drop
      rw [htl] at s1
      go_wp2_with
       (first
        | (at_builtin
           refine wpList_app rfl _ _ _ rfl w3.heap.size elOb (.slice none 0 0) 0 [] rfl (Own.nil encO _ 3 _ _) (.slice (some ⟨g, 0, none⟩) k c) k _ rfl s1.out (by unfold maxLen; omega) (by omega) (Nat.le_refl _) ?_
           intro u4 w4 ho4 hg4 hn4
           have hb4 : Below w3.heap.size w3 w4 := Bapp (Below.refl _ w3) (Own.nil encO 121 3 w3.heap.size w3) hg4 (Nat.le_refl _) (Nat.le_refl _)
           have ho4 : Own encO 121 3 w3.heap.size w4 u4 (s.objs.take k) := by unfold Own; rw [htl]; simpa using ho4
           clear hg4 hn4
           have H4 := Lib.hid (H3.out.below hb4)
           clear c0
           have c0 := H4.out.c0
           have f0 := H4.out.fz 0
           have hA4 := H4.out.own.at encO_enc
           have s5 := At.src encO_enc (by decide) (hA4.dropS (k := k + 1) (by omega))
           rw [hdl] at s5
           have s5'' : ∀ (a' : Option Addr) (c' : Nat), s.objs.length = k + 1 → SrcAt w4 3 (.slice a' (s.objs.length - (k + 1)) c') (s.objs.length - (k + 1)) ((s.objs.drop (k + 1)).flatMap encO) := by
             intro a' c' he
             have hd : s.objs.drop (k + 1) = [] := List.drop_eq_nil_of_le (by omega)
             rw [hd]
             exact ⟨a', c', rfl, by simp; omega, fun u hu => (by cases hu), fun h0 => absurd h0 (by omega)⟩
           clear hA4 s1 hA3
           have hs34 : w3.heap.size ≤ w4.heap.size := hb4.size
           have ho4' : w4.ownsRow w3.heap.size 121 3 u4 k ((s.objs.take k).flatMap encO) := by
             have := ho4
             unfold Own at this
             rwa [htl] at this)
        | (at_builtin; refine wpList_here ?_))
      all_goals
        refine ⟨?_, trivial⟩
        refine wpList_app rfl _ _ _ rfl w3.heap.size elOb u4 k _ rfl ho4' _ (s.objs.length - (k + 1)) ((s.objs.drop (k + 1)).flatMap encO) rfl (by first | exact s5 | exact s5'' _ _ (by omega)) (by unfold maxLen; omega) (by omega) (by omega) ?_
        intro u6 w6 ho6 hg6 hn6
        have hb6 := Bapp hb4 ho4 hg6 (Nat.le_refl _) hs34
        have H6 := Lib.hid (H3.out.below hb6)
        have c0' := H6.out.c0
        have f0' := H6.out.fz 0
        have hl6 : (s.objs.take k ++ s.objs.drop (k + 1)).length = k + (s.objs.length - (k + 1)) := by rw [List.length_append, htl, hdl]
        have ho6' : Own encO 121 3 w3.heap.size w6 u6 (s.objs.take k ++ s.objs.drop (k + 1)) := by
          unfold Own
          rw [hl6, List.flatMap_append]
          exact ho6
        have hne6 : u6.ownBlock ≠ some xb := fun e => by
          have := (World.ownsRow.lt ho6' _ e).1
          have := H3.out.lt
          omega
        rw [← HD.out] at ho6'
        have hbd : Own encO 121 3 B w6 u6 (dropO s.objs n) := own_base ho6' (Nat.le_trans hB HB.out.size)
        have hF : ModAt (w6.setCell ⟨xb, 0, none⟩ u6) B xb u6 { s with objs := dropO s.objs n } :=
          ⟨heap_setCell_same w6 xb 0 _ _ u6 H6.out.blk, own_but hbd hne6 hne6 (But2.set (mb := xb) w6 0 u6), H.out.ok.drop n⟩
        have HFF := Lib.hid hF
        have HBF := Lib.hid (((But2.of (sb := xb) (mb := xb) HB.out).trans (.of hb6)).trans (But2.set (mb := xb) w6 0 u6))
        have hsh6 := own_shape ho6'
        clear hF hbd ho6' ho6 hg6 hn6 hl6 c0 f0 hne6
        rcases hsh6 with ⟨rfl, _⟩ | ⟨g6, cap6, rfl, _, _⟩
        all_goals
          go_wp2_with fail
          go_ret
          exact ⟨_, rfl, by have := HFF.out; rw [HO.out] at this; exact this, HBF.out⟩
end Go.Proofs.YtikboodjfanjkaaGreatDoor
