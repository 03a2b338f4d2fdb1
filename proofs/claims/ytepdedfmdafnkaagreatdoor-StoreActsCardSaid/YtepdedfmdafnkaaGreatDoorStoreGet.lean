/- store: Get, Born, Next, write, Swap, Drop. -/
import Derived.Test.YtepdedfmdafnkaaGreatDoorStoreM
namespace Go.Proofs.YtepdedfmdafnkaaGreatDoor
open Go.RowKit Go.Maps

def obV : Option Ob → Value
  | some o => .agg #[S o.text, .int .i64 o.day]
  | none => .agg #[.string ⟨#[]⟩, .int .i64 0]
theorem zeroOb (w : World) : (zeroValue 81).run Tryz.prog w = .ok (.agg #[.string ⟨#[]⟩, .int .i64 0]) w := by kernel_rfl
theorem keyStr {n : Str} (h : n.length ≤ 100000) : keyOf Tryz.prog 9 (S n) = some (.string n) := by
  have := WideMaps.keyOf_string_mk Tryz.underlying9 (s := ⟨n.toArray⟩) (by show n.toArray.size ≤ _; unfold maxLen; simp; omega)
  exact this
theorem look_any {w : World} {sb mb : Nat} {s : St} (h : StoreAt w sb mb s) (n : Str) (hn : n.length ≤ 100000) :
    (Instr.lookup 76 (.map (some mb)) (S n) true).run Tryz.prog w = .ok (.tuple #[obV (getO s.objs n), .bool (getO s.objs n).isSome]) w := by
  obtain ⟨v, ps, hrun, hv⟩ := h.own.look_ok (string_keyed Tryz.underlying9) Tryz.underlying76 (zeroOb w) (zd := obT [] 0) (zp := []) (objElem_mk (t := []) (by decide)) (keyStr hn)
  rw [hrun, has_mapD]
  rw [at_mapD] at hv
  cases hg : getO s.objs n with
  | none => rw [hg] at hv; rw [objElem_inv hv]; rfl
  | some o => rw [hg] at hv; rw [objElem_inv hv]; rfl

set_option maxRecDepth 20000 in
theorem get_any (E : Nat → Addr) (B : Nat) (sb mb : Nat) (s : St) (n : Str) (w : World) (hE : Errs [6] E B w) (h : StoreAt w sb mb s) (hn : n.length ≤ 100000) :
    Calls Tryz.prog 11 #[stP sb, S n] w fun e w' => ∃ ev, e = .returned (.tuple #[S (((getO s.objs n).map (·.text)).getD []), ev]) ∧ ErV E w' ev (if (getO s.objs n).isSome then .nil else .bare 6) ∧ Below w.heap.size w w' := by
  have v6 := fun o => (hE.below' ((Below.refl _ w).alloc (Nat.le_refl _) o) hE.le).var 6 (by decide)
  simp only [errG] at v6
  have v6 := v6 (.cells #[.string ⟨#[]⟩, .int .i64 0] 81)
  have c0 := h.c0
  have hl := look_any h n hn
  cases hg : getO s.objs n with
  | none =>
    rw [hg] at hl
    simp only [obV, Option.isSome_none] at hl
    clear hg
    go_enter Tryz.func11, Tryz.ntmps11
    go_wp2_with fail
    go_quiet (fail)
    go_wp2_with fail
    go_ret2
    exact ⟨_, rfl, ⟨by decide, rfl⟩, Bdn ((Below.refl _ _).alloc (Nat.le_refl _) _) _⟩
  | some o =>
    rw [hg] at hl
    simp only [obV, Option.isSome_some] at hl
    clear hg
    go_enter Tryz.func11, Tryz.ntmps11
    go_wp2_with fail
    go_ret2
    exact ⟨_, rfl, rfl, (Below.refl _ _).alloc (Nat.le_refl _) _⟩

set_option maxRecDepth 20000 in
theorem born_any (sb mb : Nat) (s : St) (n : Str) (w : World) (h : StoreAt w sb mb s) (hn : n.length ≤ 100000) :
    Calls Tryz.prog 26 #[stP sb, S n] w fun e w' => e = .returned (.int .i64 (((getO s.objs n).map (·.day)).getD (-1))) ∧ Below w.heap.size w w' := by
  have c0 := h.c0
  have hl := look_any h n hn
  cases hg : getO s.objs n with
  | none =>
    rw [hg] at hl
    simp only [obV, Option.isSome_none] at hl
    clear hg
    go_enter Tryz.func26, Tryz.ntmps26
    go_wp2_with fail
    go_ret
    exact ⟨rfl, (Below.refl _ _).alloc (Nat.le_refl _) _⟩
  | some o =>
    rw [hg] at hl
    simp only [obV, Option.isSome_some] at hl
    clear hg
    go_enter Tryz.func26, Tryz.ntmps26
    go_wp2_with fail
    go_ret
    exact ⟨rfl, (Below.refl _ _).alloc (Nat.le_refl _) _⟩
theorem daySt_any (sb mb : Nat) (s : St) (w : World) (h : StoreAt w sb mb s) :
    Calls Tryz.prog 20 #[stP sb] w fun e w' => e = .returned (.int .i64 s.day) ∧ w = w' := by
  have c2 := h.c2
  go_enter Tryz.func20, Tryz.ntmps20
  go_wp2_with fail
  go_ret
  exact ⟨rfl, rfl⟩

/-- Days on. -/
def nextBad (s : St) (n : Int) : Prop := n < 0 ∨ 100000 - s.day < n
instance (s : St) (n : Int) : Decidable (nextBad s n) := inferInstanceAs (Decidable (_ ∨ _))
def nextS (s : St) (n : Int) : St := if nextBad s n then s else { s with day := s.day + n }
set_option maxRecDepth 20000 in
theorem next_any (E : Nat → Addr) (B : Nat) (sb mb : Nat) (s : St) (n : Int) (w : World) (hE : Errs [2] E B w) (h : StoreAt w sb mb s) :
    Calls Tryz.prog 19 #[stP sb, .int .i64 n] w fun e w' => ∃ ev, e = .returned (.tuple #[.int .i64 (if nextBad s n then 0 else s.day + n), ev]) ∧
      ErV E w' ev (if nextBad s n then .bare 2 else .nil) ∧ StoreAt w' sb mb (nextS s n) ∧ But2 sb mb w w' := by
  have v2 := hE.var 2 (by decide)
  simp only [errG] at v2
  have c2 := h.c2
  have f2 := h.fz 2
  have d0 := h.ok.day0
  have d1 := h.ok.day1
  unfold nextS
  by_cases hb : nextBad s n
  · simp only [hb, if_true]
    have H := Lib.hid h; clear h
    by_cases h0 : n < 0
    · clear hb
      go_enter Tryz.func19, Tryz.ntmps19
      go_wp2_with fail
      go_quiet (fail)
      go_wp2_with fail
      go_ret2
      exact ⟨_, rfl, ⟨by decide, rfl⟩, H.out.below (Bdn (Below.refl _ _) _), .of (Bdn (Below.refl _ _) _)⟩
    · have h1 : 100000 - s.day < n := hb.resolve_left h0
      have g0 : decide (n < 0) = false := by simpa using h0
      clear hb h0
      go_enter Tryz.func19, Tryz.ntmps19
      go_wp2_with fail
      go_quiet (fail)
      go_wp2_with fail
      go_ret2
      exact ⟨_, rfl, ⟨by decide, rfl⟩, H.out.below (Bdn (Below.refl _ _) _), .of (Bdn (Below.refl _ _) _)⟩
  · simp only [hb, if_false]
    have h0 : ¬ n < 0 := fun e => hb (.inl e)
    have h1 : ¬ 100000 - s.day < n := fun e => hb (.inr e)
    have g0 : decide (n < 0) = false := by simpa using h0
    have g1 : decide (100000 - s.day < n) = false := by simpa using h1
    have k0 : 0 ≤ n := by omega
    have k1 : n ≤ 100000 - s.day := by omega
    have H := Lib.hid (h.setDay (x := s.day + n) (by omega) (by omega))
    have hd : (w.setCell ⟨sb, 2, none⟩ (.int .i64 (s.day + n))).cell? ⟨sb, 2, none⟩ = some (.int .i64 (s.day + n)) := H.out.c2
    clear h hb h0 h1
    go_enter Tryz.func19, Tryz.ntmps19
    go_wp2_with fail
    go_ret2
    exact ⟨_, rfl, rfl, H.out, .set _ _ _⟩

/-- How much is written, and what is then. -/
def wrote (s : St) (n : Nat) : Nat := if s.cut < 0 then n else if s.cut < n then s.cut.toNat else n
def aft (s : St) (n : Nat) : St := if s.cut < 0 then s else if s.cut < n then { s with off := true } else { s with cut := s.cut - n }
theorem wrote_le (s : St) (n : Nat) : wrote s n ≤ n := by unfold wrote; split <;> (try split) <;> omega
set_option maxRecDepth 20000 in
theorem write_any (sb mb : Nat) (s : St) (n : Nat) (w : World) (h : StoreAt w sb mb s) (hn : n ≤ 100000) :
    Calls Tryz.prog 46 #[stP sb, .int .i64 (n : Int)] w fun e w' => e = .returned (.int .i64 (wrote s n : Int)) ∧ StoreAt w' sb mb (aft s n) ∧ But2 sb mb w w' := by
  have c3 := h.c3
  have c4 := h.c4
  have f3 := h.fz 3
  have f4 := h.fz 4
  have hc0 := h.ok.cut0
  have hc1 := h.ok.cut1
  unfold wrote aft
  by_cases h0 : s.cut < 0
  · simp only [h0, if_true]
    have H := Lib.hid h; clear h
    go_enter Tryz.func46, Tryz.ntmps46
    go_wp2_with fail
    go_ret
    exact ⟨rfl, H.out, .of (Below.refl _ _)⟩
  by_cases h1 : s.cut < n
  · simp only [h0, h1, if_true, if_false]
    have hk : ((s.cut.toNat : Nat) : Int) = s.cut := by omega
    have g0 : 0 ≤ s.cut := by omega
    rw [hk]
    have H := Lib.hid (h.setOff true)
    have hd : (w.setCell ⟨sb, 3, none⟩ (.bool true)).cell? ⟨sb, 4, none⟩ = some (.int .i64 s.cut) := H.out.c4
    clear h h0 hk
    go_enter Tryz.func46, Tryz.ntmps46
    go_wp2_with fail
    go_ret
    exact ⟨rfl, H.out, .set _ _ _⟩
  · simp only [h0, h1, if_false]
    have g0 : 0 ≤ s.cut := by omega
    have g1 : (n : Int) ≤ s.cut := by omega
    have H := Lib.hid (h.setCut (x := s.cut - n) (by omega) (by omega))
    clear h h0 h1
    go_enter Tryz.func46, Tryz.ntmps46
    go_wp2_with fail
    go_ret
    exact ⟨rfl, H.out, .set _ _ _⟩

/-- The head is swapped. -/
def swapE (s : St) (old text : Str) : Er := if 20000 < text.length then .bare 2 else if s.off = true then .bare 12 else if s.head ≠ old then .bare 11 else if wrote s text.length < text.length then .bare 12 else .nil
def swapS (s : St) (old text : Str) : St := if 20000 < text.length ∨ s.off = true ∨ s.head ≠ old then s else if wrote s text.length < text.length then aft s text.length else { aft s text.length with head := text }
set_option maxRecDepth 20000 in
theorem swap_any (E : Nat → Addr) (B : Nat) (sb mb : Nat) (s : St) (old text : Str) (w : World) (hE : Errs [2, 11, 12] E B w) (h : StoreAt w sb mb s) (ht : text.length ≤ 100000) (hB : B ≤ sb) (hB2 : B ≤ mb) :
    Calls Tryz.prog 14 #[stP sb, S old, S text] w fun e w' => ∃ ev, e = .returned ev ∧ ErV E w' ev (swapE s old text) ∧ StoreAt w' sb mb (swapS s old text) ∧ But2 sb mb w w' := by
  have v2 := hE.var 2 (by decide)
  have v11 := hE.var 11 (by decide)
  have v12 := hE.var 12 (by decide)
  simp only [errG] at v2 v11 v12
  have c1 := h.c1
  have c3 := h.c3
  unfold swapE swapS
  by_cases h0 : 20000 < text.length
  · simp only [h0, if_true, true_or]
    have g0 : (20000 : Int) < text.length := by omega
    have H := Lib.hid h; clear h
    go_enter Tryz.func14, Tryz.ntmps14
    go_wp2_with fail
    go_ret
    exact ⟨_, rfl, ⟨by decide, rfl⟩, H.out, .of (Below.refl _ _)⟩
  have g0 : (text.length : Int) ≤ 20000 := by omega
  cases ho : s.off with
  | true =>
    rw [ho] at c3
    simp only [h0, if_true, if_false, true_or, or_true]
    have H := Lib.hid h; clear h ho
    go_enter Tryz.func14, Tryz.ntmps14
    go_wp2_with fail
    go_ret
    exact ⟨_, rfl, ⟨by decide, rfl⟩, H.out, .of (Below.refl _ _)⟩
  | false =>
    rw [ho] at c3
    by_cases h1 : s.head = old
    · simp only [h0, h1, if_false, Bool.false_eq_true, false_or, ne_eq, not_true_eq_false]
      have g1 : (s.head == old) = true := by simpa using h1
      have hfin : ∀ w1, But2 sb mb w w1 → Errs [2, 11, 12] E B w1 := fun w1 hb2 => hE.below ((Below.refl B w).trans ⟨hb2.os, hb2.tape, hb2.output, hb2.size, fun k hk => hb2.block k (Nat.lt_of_lt_of_le hk hE.le) (by omega) (by omega)⟩)
      have H := Lib.hid h
      have H1 := Lib.hid h1
      have HE := Lib.hid hfin
      clear h ho h1 hfin
      by_cases hw : wrote s text.length < text.length
      · simp only [hw, if_true]
        have g2 : (wrote s text.length : Int) < text.length := by omega
        clear hw
        go_enter Tryz.func14, Tryz.ntmps14
        go_wp2_with fail
        refine (write_any sb mb s text.length _ H.out ht).mono ?_
        rintro e w1 ⟨rfl, h2, hb2⟩
        have v12' := (HE.out w1 hb2).var 12 (by decide)
        simp only [errG] at v12'
        have H2 := Lib.hid h2
        clear v2 v11 v12 h2 c1 c3
        generalize wrote s text.length = wr at *
        go_wp2_with fail
        go_ret
        exact ⟨_, rfl, ⟨by decide, rfl⟩, H2.out, hb2⟩
      · simp only [hw, if_false]
        have g2 : decide ((wrote s text.length : Int) < text.length) = false := by simp; omega
        have g3 : (text.length : Int) ≤ (wrote s text.length : Int) := by omega
        clear hw
        go_enter Tryz.func14, Tryz.ntmps14
        go_wp2_with fail
        refine (write_any sb mb s text.length _ H.out ht).mono ?_
        rintro e w1 ⟨rfl, h2, hb2⟩
        have c1' := h2.c1
        have f1' := h2.fz 1
        have H2 := Lib.hid (h2.setHead (x := text) (by omega))
        clear v2 v11 v12 h2 c1 c3
        generalize wrote s text.length = wr at *
        go_wp2_with fail
        go_ret
        exact ⟨_, rfl, rfl, H2.out, hb2.trans (But2.set _ _ _)⟩
    · simp only [h0, h1, if_true, if_false, Bool.false_eq_true, false_or, ne_eq, not_false_eq_true]
      have g1 : (s.head == old) = false := by simpa using h1
      have H := Lib.hid h; clear h ho h1
      go_enter Tryz.func14, Tryz.ntmps14
      go_wp2_with fail
      go_ret
      exact ⟨_, rfl, ⟨by decide, rfl⟩, H.out, .of (Below.refl _ _)⟩
end Go.Proofs.YtepdedfmdafnkaaGreatDoor
