/- Lists of files: the statements' own helpers: OwnFiles, LongFile, LongFiles. slices.Clone, Delete at []api.File. The shelf's contracts that the walks of this seat use, in plain declarations (written by the kit's tool, trimmed by a program). file.Check; list.Compare; list.Check. cmp.Or at int; list.Compare. A function value that answers by a plain predicate. The library's generic functions at []api.File: IndexFunc, Clone, Delete, Insert, BinarySearchFunc. list.Check. strings.Builder: WriteString and String, laid at this program by hand (the tool passes over copyCheck, whose body here names no text). file.Text; list.Text. data.Head, data.Whole, data.Fits: the walks; slices.Min, slices.Max, strings.Join as they use them. slices.Grow at the nil slice of texts, slices.Concat of two slices of texts; strings.Cut by one byte. file.Read: the walk. -/
import Derived.Test.YtefoaeamfkbgbaaGreatDoorP8
import Derived.Lib.AppendZeros
import Derived.Deep.RegionLaw
import Derived.Shelf.Strings.Builder1
import Derived.Shelf.Strings.Builder2
import Derived.Shelf.Strings.OnBuilder
import Derived.Shelf.Strings.Trim
import Derived.Shelf.Small.Utf8
import Derived.Shelf.Small.Bits
import Derived.Shelf.Small.Strs
import Derived.Shelf.Small.Wraps
import Derived.Shelf.Strconv.Atoi
import Derived.Shelf.Strconv.Itoa0
import Derived.Shelf.Strconv.Itoa1
import Derived.Shelf.LaysM
import Derived.Shelf.Strconv.Itoa2
import Derived.Shelf.Strconv.Itoa3
import Derived.Shelf.Strconv.AtoiErrFast
import Derived.Shelf.Strconv.ParseIntEmpty
import Derived.Shelf.Strconv.AtoiFail
import Derived.Shelf.Strconv.Clone
import Derived.Shelf.Strconv.SyntaxError
import Derived.Shelf.LaysC
import Derived.Shelf.Strconv.ToError
import Derived.Shelf.Strconv.Lower
import Derived.Shelf.Strconv.ParseUint10
import Derived.Shelf.Strconv.ParseUint10Empty
import Derived.Shelf.Strconv.ParseUint10Any
import Derived.Shelf.Strconv.ParseInt10
import Derived.Shelf.Strconv.AtoiLong
import Derived.Shelf.Strconv.AtoiInnerAll
import Derived.Shelf.Strconv.RangeError
import Derived.Shelf.Strconv.ToErrorRange
import Derived.Shelf.Strconv.AtoiAll
import Derived.Shelf.Strconv.ErrVarAll
import Derived.Shelf.Strings.Search1
import Derived.Shelf.Strings.Search2
import Derived.Shelf.Strings.Search3
import Derived.Shelf.Strings.Cut
import Derived.Shelf.Strings.Count
import Derived.Shelf.Strings.Shaped
import Derived.Shelf.Sort.Plain
import Derived.Shelf.Strings.Split
import Derived.Shelf.Strings.Runes
import Derived.Shelf.Strings.AsciiSet
import Derived.Shelf.Unicode.DecodeSlow
import Derived.Shelf.Slices.Turned
import Derived.Ground.Names2Prog
import Derived.Shelf.Slices.CompactI
import Derived.Shelf.Slices.SearchI
import Derived.Shelf.Slices.In.SortNone
import Derived.Shelf.Slices.Empties
import Derived.Test.YtefoaeamfkbgbaaGreatDoorProg
import Derived.Test.YtefoaeamfkbgbaaGreatDoorP3
import Derived.Outline
import Derived.Test.YtefoaeamfkbgbaaGreatDoorP2
import Derived.Deep.RegionHeld3
import Derived.Test.YtefoaeamfkbgbaaGreatDoorP1
import Derived.Test.YtefoaeamfkbgbaaGreatDoorP6
import Derived.Test.YtefoaeamfkbgbaaGreatDoorP7
import Derived.Test.YtefoaeamfkbgbaaGreatDoorP4
namespace Go.Proofs.YtefoaeamfkbgbaaGreatDoor
open Go.RowKit

theorem ownFiles_any (v : Value) (l : List Fl) (w : World) (hl : FilesAt w v l) (hn : l.length ≤ 100000) :
    Calls Tryz.prog 63 #[v] w fun e w' => ∃ v', e = .returned v' ∧ Own encF 44 6 w.heap.size w' v' l ∧ Below w.heap.size w w' := by
  have hs := hl.src encF_enc (by decide)
  go_enter Tryz.func63, Tryz.ntmps63
  go_wp2_with (at_builtin; refine wpList_app rfl _ _ _ rfl w.heap.size elFl (.slice none 0 0) 0 [] rfl (Own.nil encF _ 6 _ _) _ _ _ rfl hs (by unfold maxLen; omega) (by omega) (Nat.le_refl _) ?_; intro v' w1 hown hg _)
  go_ret
  exact ⟨_, rfl, by simpa [Own] using hown, (Below.refl _ _).grown hg (Nat.le_refl _) (fun k hk => by cases hk)⟩

def shortF (f : Fl) : Prop := f.path.length ≤ 30 ∧ f.part.length ≤ 30
instance (f : Fl) : Decidable (shortF f) := inferInstanceAs (Decidable (_ ∧ _))
def midF (f : Fl) : Prop := f.path.length ≤ 100000 ∧ f.part.length ≤ 100000
instance (f : Fl) : Decidable (midF f) := inferInstanceAs (Decidable (_ ∧ _))
theorem shortF.mid {f : Fl} (h : shortF f) : midF f := ⟨by have := h.1; omega, by have := h.2; omega⟩
set_option maxRecDepth 20000 in
theorem longFile_any (f : Fl) (w : World) :
    Calls Tryz.prog 76 #[fileV f] w fun e w' => e = .returned (.int .i64 (if shortF f then 0 else 1)) ∧ Below w.heap.size w w' := by
  have hb : Below w.heap.size w (w.alloc (fileO f)) := (Below.refl _ _).alloc (Nat.le_refl _) _
  by_cases h1 : f.path.length ≤ 30
  · have g1 : decide ((30 : Int) < (f.path.length : Int)) = false := by simp; omega
    by_cases h2 : f.part.length ≤ 30
    · rw [if_pos (show shortF f from ⟨h1, h2⟩)]
      have g2 : decide ((30 : Int) < (f.part.length : Int)) = false := by simp; omega
      go_enter Tryz.func76, Tryz.ntmps76
      go_wp2_with fail
      go_ret
      exact ⟨rfl, by first | exact hb | exact Below.refl _ _⟩
    · rw [if_neg (fun h : shortF f => h2 h.2)]
      have g2 : (30 : Int) < (f.part.length : Int) := by omega
      go_enter Tryz.func76, Tryz.ntmps76
      go_wp2_with fail
      go_ret
      exact ⟨rfl, by first | exact hb | exact Below.refl _ _⟩
  · rw [if_neg (fun h : shortF f => h1 h.1)]
    have g1 : (30 : Int) < (f.path.length : Int) := by omega
    go_enter Tryz.func76, Tryz.ntmps76
    go_wp2_with fail
    go_ret
    exact ⟨rfl, by first | exact hb | exact Below.refl _ _⟩

set_option maxRecDepth 20000 in
theorem longFiles_any (v : Value) (l : List Fl) (w : World) (hl : FilesAt w v l) :
    Calls Tryz.prog 30 #[v] w fun e w' => (e = .returned (.int .i64 1) ∨ (e = .returned (.int .i64 0) ∧ l.length ≤ 61 ∧ ∀ f ∈ l, shortF f)) ∧ Below w.heap.size w w' := by
  obtain ⟨a, c, b, o, rfl, ha, hc, hcm, hx⟩ := hl
  unfold maxLen at hcm
  by_cases h61 : l.length ≤ 40 ∨ l.length = 60 ∨ l.length = 61
  case neg =>
    have g1 : (40 : Int) < (l.length : Int) := by omega
    have g2 : ((l.length : Int) != 60) = true := by simp; omega
    have g3 : ((l.length : Int) != 61) = true := by simp; omega
    go_enter Tryz.func30, Tryz.ntmps30
    go_wp2_with fail
    go_ret
    exact ⟨.inl rfl, Below.refl _ _⟩
  have h61' : l.length ≤ 61 := by omega
  have hg : decide ((40 : Int) < (l.length : Int)) = false ∨ (decide ((40 : Int) < (l.length : Int)) = true ∧ (((l.length : Int) != 60) = false ∨ (((l.length : Int) != 60) = true ∧ ((l.length : Int) != 61) = false))) := by
    rcases h61 with h | h | h
    · exact .inl (by simp; omega)
    · exact .inr ⟨by simp; omega, .inl (by simp; omega)⟩
    · exact .inr ⟨by simp; omega, .inr ⟨by simp; omega, by simp; omega⟩⟩
  clear h61
  go_enter Tryz.func30, Tryz.ntmps30
  rcases hg with g1 | ⟨g1, g2 | ⟨g2, g3⟩⟩
  all_goals
    go_wp2_with fail
    go_loopw [3] (fun i wr => ∃ k : Nat, k ≤ l.length ∧ i = .int .i64 k ∧ Hid (∀ j < k, ∀ x, l[j]? = some x → shortF x) ∧ Below w.heap.size w wr) (fun i _ => l.length - (intOf i).toNat)
    case atStart => exact ⟨0, by omega, rfl, Lib.hid fun j hj => absurd hj (by omega), Below.refl _ _⟩
    case round =>
      obtain ⟨k, hk, rfl, hj, hb⟩ := hrel
      clear g1
      by_cases hlt : k < l.length
      case neg =>
        have f : decide ((k : Int) < (l.length : Int)) = false := by simp; omega
        go_wp2_with fail
        go_ret
        exact ⟨.inr ⟨rfl, h61', fun x hx => by
          obtain ⟨j, hj'⟩ := List.getElem?_of_mem hx
          exact hj.out j (by have := (List.getElem?_eq_some_iff.1 hj').1; omega) x hj'⟩, hb⟩
      obtain ⟨x, hxk⟩ := get_ex hlt
      have c0 := hx k x hxk 0 _ rfl
      have c1 := hx k x hxk 1 _ rfl
      have c2 := hx k x hxk 2 _ rfl
      have c3 := hx k x hxk 3 _ rfl
      have c4 := hx k x hxk 4 _ rfl
      have c5 := hx k x hxk 5 _ rfl
      have c0 := (hb.cell (World.block_lt_of_cell? w _ c0)).trans c0
      have c1 := (hb.cell (World.block_lt_of_cell? w _ c1)).trans c1
      have c2 := (hb.cell (World.block_lt_of_cell? w _ c2)).trans c2
      have c3 := (hb.cell (World.block_lt_of_cell? w _ c3)).trans c3
      have c4 := (hb.cell (World.block_lt_of_cell? w _ c4)).trans c4
      have c5 := (hb.cell (World.block_lt_of_cell? w _ c5)).trans c5
      have i1 := idx_at (c := c) 6 Tryz.underlying23 szFl ha k hlt
      have f : (k : Int) < (l.length : Int) := by omega
      simp only [Nat.add_zero] at c0
      have Hx := Lib.hid hxk; clear hxk
      go_wp2_with fail
      refine (longFile_any x _).mono ?_
      rintro e w1 ⟨rfl, hb1⟩
      have hb' := hb.trans (hb1.mono hb.size)
      by_cases e1 : shortF x
      · rw [if_pos e1]
        have K1 := Lib.hid e1; clear e1
        go_wp2_with fail
        refine ⟨⟨k + 1, by omega, by go_num, Lib.hid fun j hj' y hy => by
          rcases Nat.lt_or_ge j k with h | h
          · exact hj.out j h y hy
          · obtain rfl : j = k := by omega
            rw [Hx.out] at hy
            cases hy
            exact K1.out, hb'⟩, ?_⟩
        simp [intOf]; omega
      · rw [if_neg e1]
        clear e1
        go_wp2_with fail
        go_ret
        exact ⟨.inl rfl, hb'⟩
end Go.Proofs.YtefoaeamfkbgbaaGreatDoor
namespace Go.Proofs.YtefoaeamfkbgbaaGreatDoor
open Go.RowKit

theorem own_empty {α : Type} (enc : α → List Value) (e : TypeId) (sz B g : Nat) (w : World) (hB : B ≤ g) (hg : w.heap[g]? = some (.cells #[] e (0, 0))) : Own enc e sz B w (.slice (some ⟨g, 0, none⟩) 0 0) [] :=
  ⟨by simp, .inr ⟨g, 0, #[], rfl, hB, hg, Nat.le_refl _, Nat.zero_le _, by simp, by simp⟩⟩
theorem At.form' {α : Type} {enc : α → List Value} {sz : Nat} {w : World} {v : Value} {l : List α} (h : At enc sz w v l) : ∃ a c, v = .slice a l.length c ∧ (a = none → l = []) ∧ c ≤ maxLen := by
  obtain ⟨a, c, b, o, hv, ha, _, hm, _⟩ := h
  exact ⟨a, c, hv, fun h => List.eq_nil_of_length_eq_zero (by
    rcases Nat.eq_zero_or_pos l.length with h0 | h0
    · exact h0
    · have := ha h0; rw [h] at this; cases this), hm⟩

set_option maxRecDepth 20000 in
theorem cloneF_any (v : Value) (l : List Fl) (w : World) (hl : FilesAt w v l) (hn : l.length ≤ 100000) :
    Calls Tryz.prog 106 #[v] w fun e w' => ∃ v', e = .returned v' ∧ Own encF 44 6 w.heap.size w' v' l ∧ Below w.heap.size w w' := by
  obtain ⟨a, c, rfl, hnil, hcm⟩ := hl.form'
  have hq := fun w' => Lib.run_eql_slice_nil (P := Tryz.prog) w' 23 44 a l.length c 0 0 Tryz.underlying23
  cases a with
  | none =>
    obtain rfl := hnil rfl
    simp only [Option.isNone_none, List.length_nil] at hq
    go_enter Tryz.func106, Tryz.ntmps106
    go_wp2_with fail
    go_ret
    exact ⟨_, rfl, Own.nil _ _ _ _ _, Below.refl _ _⟩
  | some ad =>
    simp only [Option.isNone_some] at hq
    have hba : Below w.heap.size w (w.alloc (.cells #[] 44)) := (Below.refl _ _).alloc (Nat.le_refl _) _
    have hs := (hl.below hba).src encF_enc (by decide)
    have ho : Own encF 44 6 w.heap.size (w.alloc (.cells #[] 44)) (.slice (some ⟨w.heap.size, 0, none⟩) 0 0) [] := own_empty encF _ 6 _ _ _ (Nat.le_refl _) (heap_alloc_new w _)
    go_enter Tryz.func106, Tryz.ntmps106
    go_wp2_with (at_builtin; refine wpList_app rfl _ _ _ rfl w.heap.size elFl (.slice (some ⟨w.heap.size, 0, none⟩) 0 0) 0 [] rfl ho _ _ _ rfl hs (by unfold maxLen; omega) (by omega) (by simp) ?_; intro v' w1 hown hg _)
    go_ret
    exact ⟨_, rfl, by simpa [Own] using hown, hba.grown hg (by simp) (fun k hk => by cases hk; exact Nat.le_refl _)⟩

theorem flZero : (Tryz.prog.info? 44).bind (·.zero) = some (.agg #[.string ByteArray.empty, .string ByteArray.empty, .int .i64 0, .int .i64 0, .int .i64 0, .int .i64 0]) := by kernel_rfl
theorem flZero1 : ∀ z, (Tryz.prog.info? 44).bind (·.zero) = some z → ∀ u ∈ z.cells.toList, u.oneCell' = true := by
  intro z hz u hu
  rw [flZero] at hz
  cases hz
  simp [Value.cells] at hu
  rcases hu with rfl | rfl <;> rfl

end Go.Proofs.YtefoaeamfkbgbaaGreatDoor
namespace Go.Proofs
end Go.Proofs
namespace Go.Proofs.YtefoaeamfkbgbaaGreatDoor
open Go.RowKit

theorem fileCells {w w1 w6 : World} {f : Fl} (hw : w1 = w.alloc (fileO f)) (h6 : Below w1.heap.size w1 w6) :
    w6.cell? ⟨w.heap.size, 0, none⟩ = some (S f.path) ∧ w6.cell? ⟨w.heap.size, 1, none⟩ = some (S f.part) ∧ w6.cell? ⟨w.heap.size, 2, none⟩ = some (.int .i64 f.n) ∧ w6.cell? ⟨w.heap.size, 3, none⟩ = some (.int .i64 f.lo) ∧ w6.cell? ⟨w.heap.size, 4, none⟩ = some (.int .i64 f.hi) ∧ w6.cell? ⟨w.heap.size, 5, none⟩ = some (.int .i64 f.seq) := by
  subst hw
  have h := heap_alloc_new w (.cells #[S f.path, S f.part, .int .i64 f.n, .int .i64 f.lo, .int .i64 f.hi, .int .i64 f.seq] 44)
  have h' := (h6.block w.heap.size (by simp)).trans h
  refine ⟨?_, ?_, ?_, ?_, ?_, ?_⟩ <;> (rw [cell_of_row w6 _ _ _ _ (0, 0) h']; rfl)

/-- A file's error. -/
def fileEr (f : Fl) : Er := if checkF f = 0 then .nil else .bare (checkF f)
theorem fileEr_nil {f : Fl} (h : checkF f = 0) : fileEr f = .nil := if_pos h
theorem fileEr_bad {f : Fl} {c : Nat} (h : checkF f = c) (h0 : c ≠ 0) : fileEr f = .bare c := by unfold fileEr; rw [if_neg (by omega), h]
theorem fileEr_iff {f : Fl} : fileEr f = .nil ↔ checkF f = 0 := by
  unfold fileEr; split
  · simp [*]
  · simp [*]
theorem checkF_none {f : Fl} (h : pathF f.path = none) : checkF f = 5 := by unfold checkF; rw [if_pos h]
theorem checkF_part {f : Fl} {kn} (h : pathF f.path = some kn) (h2 : partOk (kindF f.path) f.part = false) : checkF f = 4 := by unfold checkF; rw [if_neg (by rw [h]; simp), if_pos h2]
theorem checkF_bound {f : Fl} {kn} (h : pathF f.path = some kn) (h2 : partOk (kindF f.path) f.part = true) (h3 : boundF f) : checkF f = 2 := by unfold checkF; rw [if_neg (by rw [h]; simp), if_neg (by rw [h2]; decide), if_pos h3]
theorem checkF_right {f : Fl} {kn} (h : pathF f.path = some kn) (h2 : partOk (kindF f.path) f.part = true) (h3 : ¬ boundF f) : checkF f = 0 := by unfold checkF; rw [if_neg (by rw [h]; simp), if_neg (by rw [h2]; decide), if_neg h3]

set_option maxHeartbeats 2000000 in
set_option maxRecDepth 20000 in
theorem fileCheck_any (E : Nat → Addr) (B : Nat) (f : Fl) (w : World) (hE : Errs [2, 4, 5] E B w) (hT : LNum B w) (hM : LMax B w) (hs : midF f) :
    Calls Tryz.prog 118 #[fileV f] w fun e w' => ∃ ev, e = .returned ev ∧ ErV E w' ev (fileEr f) ∧ Below w.heap.size w w' := by
  have hBw := hE.le
  obtain ⟨hs1, hs2⟩ := hs
  have hb0 : Below w.heap.size w (w.alloc (.cells #[S f.path, S f.part, .int .i64 f.n, .int .i64 f.lo, .int .i64 f.hi, .int .i64 f.seq] 44)) := (Below.refl _ _).alloc (Nat.le_refl _) _
  have Cs := Lib.hid (fun w6 (h : Below (w.alloc (.cells #[S f.path, S f.part, .int .i64 f.n, .int .i64 f.lo, .int .i64 f.hi, .int .i64 f.seq] 44)).heap.size (w.alloc (.cells #[S f.path, S f.part, .int .i64 f.n, .int .i64 f.lo, .int .i64 f.hi, .int .i64 f.seq] 44)) w6) => fileCells rfl h)
  have hE1 := hE.below' hb0 hE.le; have hT1 := hT.below' hb0 hE.le; have hM1 := hM.below' hb0 hE.le
  have V0 := fun w6 (h : Below (w.alloc (.cells #[S f.path, S f.part, .int .i64 f.n, .int .i64 f.lo, .int .i64 f.hi, .int .i64 f.seq] 44)).heap.size (w.alloc (.cells #[S f.path, S f.part, .int .i64 f.n, .int .i64 f.lo, .int .i64 f.hi, .int .i64 f.seq] 44)) w6) => (⟨(hE1.below' h hE1.le).var 2 (by decide), (hE1.below' h hE1.le).var 4 (by decide)⟩ : _ ∧ _)
  simp only [errG] at V0
  have V := Lib.hid V0
  clear V0
  obtain ⟨c0, c1, c2, c3, c4, c5⟩ := Cs.out _ (Below.refl _ _)
  go_enter Tryz.func118, Tryz.ntmps118
  go_wp2_with fail
  generalize w.alloc (.cells #[S f.path, S f.part, .int .i64 f.n, .int .i64 f.lo, .int .i64 f.hi, .int .i64 f.seq] 44) = w1 at *
  refine (fileNumber_any E B f.path _ (hE1.sub (by decide)) hT1 hM1 (by omega)).mono ?_
  rintro e w2 ⟨ev, rfl, hev, hb2⟩
  clear c0 c1 c2 c3 c4 c5
  obtain ⟨c0, c1, c2, c3, c4, c5⟩ := Cs.out w2 hb2
  have hb2' := hb0.trans (hb2.mono hb0.size)
  cases hpf : pathF f.path with
  | none =>
    rw [hpf] at hev
    obtain ⟨-, rfl⟩ := hev
    have HF := Lib.hid (fileEr_bad (checkF_none hpf) (by decide))
    clear hpf
    go_wp2_with fail
    go_ret
    exact ⟨_, rfl, by rw [HF.out]; exact ⟨by decide, rfl⟩, hb2'⟩
  | some kn =>
    rw [hpf] at hev
    obtain rfl : ev = .nilIface := hev
    have HP := Lib.hid hpf
    clear hpf
    go_wp2_with fail
    refine (part_any (kindF f.path) f.part _ (by omega)).mono ?_
    rintro e w3 ⟨rfl, hb3⟩
    have hb3' := hb2.trans (hb3.mono hb2.size)
    have hb3w := hb2'.trans (hb3.mono hb2'.size)
    clear c0 c1 c2 c3 c4 c5
    obtain ⟨c0, c1, c2, c3, c4, c5⟩ := Cs.out w3 hb3'
    obtain ⟨v2, v4⟩ := V.out w3 hb3'
    generalize hpk : partOk (kindF f.path) f.part = pk
    have HK := Lib.hid hpk
    clear hpk hb2 hb3 hb2' hb3'
    cases pk with
    | false =>
      have HF := Lib.hid (fileEr_bad (checkF_part HP.out HK.out) (by decide))
      go_wp2_with fail
      go_ret
      exact ⟨_, rfl, by rw [HF.out]; exact ⟨by decide, rfl⟩, hb3w⟩
    | true =>
      by_cases b1 : f.n < 1
      · have HF := Lib.hid (fileEr_bad (checkF_bound HP.out HK.out (.inl b1)) (by decide))
        go_wp2_with fail
        go_ret
        exact ⟨_, rfl, by rw [HF.out]; exact ⟨by decide, rfl⟩, hb3w⟩
      have g1 : decide (f.n < 1) = false := by simpa using b1
      by_cases b2 : 40 < f.n
      · have HF := Lib.hid (fileEr_bad (checkF_bound HP.out HK.out (.inr (.inl b2))) (by decide))
        clear b1
        go_wp2_with fail
        go_ret
        exact ⟨_, rfl, by rw [HF.out]; exact ⟨by decide, rfl⟩, hb3w⟩
      have g2 : decide (40 < f.n) = false := by simpa using b2
      have B12 := Lib.hid (⟨b1, b2⟩ : _ ∧ _)
      clear b1 b2
      go_wp2_with fail
      refine (far_any f.lo _).mono ?_
      rintro e w4 ⟨rfl, rfl⟩
      by_cases b3 : farN f.lo
      · have HF := Lib.hid (fileEr_bad (checkF_bound HP.out HK.out (.inr (.inr (.inl b3)))) (by decide))
        rw [decide_eq_true b3]
        clear b3
        go_wp2_with fail
        go_ret
        exact ⟨_, rfl, by rw [HF.out]; exact ⟨by decide, rfl⟩, hb3w⟩
      rw [decide_eq_false b3]
      have B3 := Lib.hid b3
      clear b3
      go_wp2_with fail
      refine (far_any f.hi _).mono ?_
      rintro e w4 ⟨rfl, rfl⟩
      by_cases b4 : farN f.hi
      · have HF := Lib.hid (fileEr_bad (checkF_bound HP.out HK.out (.inr (.inr (.inr (.inl b4))))) (by decide))
        rw [decide_eq_true b4]
        clear b4
        go_wp2_with fail
        go_ret
        exact ⟨_, rfl, by rw [HF.out]; exact ⟨by decide, rfl⟩, hb3w⟩
      rw [decide_eq_false b4]
      have B4 := Lib.hid b4
      clear b4
      by_cases b5 : f.hi < f.lo
      · have HF := Lib.hid (fileEr_bad (checkF_bound HP.out HK.out (.inr (.inr (.inr (.inr (.inl b5)))))) (by decide))
        go_wp2_with fail
        go_ret
        exact ⟨_, rfl, by rw [HF.out]; exact ⟨by decide, rfl⟩, hb3w⟩
      have g5 : decide (f.hi < f.lo) = false := by simpa using b5
      by_cases b6 : f.seq < 1
      · have HF := Lib.hid (fileEr_bad (checkF_bound HP.out HK.out (.inr (.inr (.inr (.inr (.inr (.inl b6))))))) (by decide))
        clear b5
        go_wp2_with fail
        go_ret
        exact ⟨_, rfl, by rw [HF.out]; exact ⟨by decide, rfl⟩, hb3w⟩
      have g6 : decide (f.seq < 1) = false := by simpa using b6
      by_cases b7 : 1073741824 < f.seq
      · have HF := Lib.hid (fileEr_bad (checkF_bound HP.out HK.out (.inr (.inr (.inr (.inr (.inr (.inr b7))))))) (by decide))
        clear b5 b6
        go_wp2_with fail
        go_ret
        exact ⟨_, rfl, by rw [HF.out]; exact ⟨by decide, rfl⟩, hb3w⟩
      have g7 : decide (1073741824 < f.seq) = false := by simpa using b7
      have HF := Lib.hid (fileEr_nil (checkF_right HP.out HK.out (by
        rintro (h | h | h | h | h | h | h)
        · have := B12.out.1; omega
        · have := B12.out.2; omega
        · exact B3.out h
        · exact B4.out h
        · exact b5 h
        · exact b6 h
        · exact b7 h)))
      clear b5 b6 b7
      go_wp2_with fail
      go_ret
      exact ⟨_, rfl, by rw [HF.out]; rfl, hb3w⟩
end Go.Proofs.YtefoaeamfkbgbaaGreatDoor
namespace Go.Proofs.YtefoaeamfkbgbaaGreatDoor
open Go.RowKit

/-- A slice of numbers written out in a new block. -/
theorem ints_new (l : List Int) (w : World) (t : TypeId) (H n : Nat) (cs : Array Value) (hH : w.heap.size = H) (hcs : cs = (l.map (Value.int .i64)).toArray) (hn : l.length = n) (hm : n ≤ 100000) : IntsAt (w.alloc (.cells cs t)) (.slice (some ⟨H, 0, none⟩) n n) l := by
  subst hH hcs hn
  refine ⟨_, _, w.heap.size, 0, rfl, fun _ => rfl, Nat.le_refl _, by unfold maxLen; omega, fun k z hk j u hu => ?_⟩
  obtain rfl : j = 0 := by
    rcases Nat.eq_zero_or_pos j with h | h
    · exact h
    · rw [List.getElem?_eq_none (by simp; omega)] at hu; cases hu
  obtain rfl : .int .i64 z = u := by simpa using hu
  rw [cell_of_row (w.alloc _) w.heap.size _ _ t (0, 0) (heap_alloc_new w _)]
  simp [hk]

/-- The first number that is not 0. -/
def orOf (l : List Int) : Int := (l.find? (fun x => x != 0)).getD 0
theorem orOf_hit {l : List Int} {k : Nat} {x : Int} (hk : l[k]? = some x) (hx : x ≠ 0) (h : ∀ (j : Nat), j < k → ∀ y, l[j]? = some y → y = 0) : orOf l = x := by
  unfold orOf
  obtain ⟨h1, h2⟩ := List.getElem?_eq_some_iff.1 hk
  have : l.find? (fun x => x != 0) = some x := by
    rw [List.find?_eq_some_iff_getElem]
    refine ⟨by simpa using hx, k, h1, h2, fun j hj => ?_⟩
    have := h j hj l[j] (by simp)
    simp [this]
  rw [this]; rfl
theorem orOf_none {l : List Int} (h : ∀ (j : Nat) (y : Int), l[j]? = some y → y = 0) : orOf l = 0 := by
  unfold orOf
  have : l.find? (fun x => x != 0) = none := List.find?_eq_none.2 fun x hx => by
    obtain ⟨j, hj⟩ := List.getElem?_of_mem hx
    simp [h j x hj]
  rw [this]; rfl

theorem cmpOr_any (v : Value) (l : List Int) (w : World) (hl : IntsAt w v l) :
    Calls Tryz.prog 162 #[v] w fun e w' => e = .returned (.int .i64 (orOf l)) ∧ w = w' := by
  obtain ⟨a, c, b, o, rfl, ha, hc, hcm, hx⟩ := hl
  unfold maxLen at hcm
  go_enter Tryz.func162, Tryz.ntmps162
  go_wp2_with fail
  go_loop [8] (fun i => ∃ k : Nat, k ≤ l.length ∧ i = .int .i64 k ∧ Hid (∀ (j : Nat), j < k → ∀ y, l[j]? = some y → y = 0)) (fun i => l.length - (intOf i).toNat)
  case atStart => exact ⟨0, by omega, rfl, Lib.hid fun j hj => absurd hj (by omega)⟩
  case round =>
    obtain ⟨k, hk, rfl, hj⟩ := hrel
    by_cases hlt : k < l.length
    · obtain ⟨x, hxk⟩ := get_ex hlt
      have c1 := hx k x hxk 0 _ rfl
      have i1 := idx_at (c := c) 1 Tryz.underlying26 szInt ha k hlt
      have hk1 : (k : Int) < (l.length : Int) := by omega
      simp only [Nat.mul_one, Nat.add_zero] at c1 i1
      have Hx := Lib.hid hxk; clear hxk
      by_cases h0 : x = 0
      · subst h0
        go_wp2_with fail
        go_round
        case rel => exact ⟨k + 1, by omega, by go_num, Lib.hid fun j hj' y hy => by
          rcases Nat.lt_or_ge j k with h | h
          · exact hj.out j h y hy
          · obtain rfl : j = k := by omega
            rw [Hx.out] at hy
            exact (Option.some.inj hy).symm⟩
        case measure => simp [intOf]; omega
      · have g : (x != 0) = true := by simpa using h0
        have H := Lib.hid (orOf_hit Hx.out h0 hj.out)
        clear h0
        go_wp2_with fail
        go_ret
        exact ⟨by rw [H.out]; rfl, rfl⟩
    · obtain rfl : k = l.length := by omega
      go_wp2_with fail
      go_ret
      exact ⟨by rw [orOf_none fun j y hy => hj.out j (List.getElem?_eq_some_iff.1 hy).1 y hy]; rfl, rfl⟩

theorem strCompare_any (a b : Str) (w : World) : Calls Tryz.prog 204 #[S a, S b] w fun e w' => e = .returned (.int .i64 (Lib.compareBytes a b)) ∧ w = w' :=
  (Tryz.strings_Compare ⟨a.toArray⟩ ⟨b.toArray⟩ w).mono fun _ _ ⟨h1, h2⟩ => ⟨by simpa using h1, h2.symm⟩
theorem orOf_two (x y : Int) : orOf [x, y] = if x ≠ 0 then x else y := by
  unfold orOf
  by_cases h : x = 0
  · subst h
    by_cases h2 : y = 0
    · subst h2; decide
    · rw [if_neg (by simp)]
      simp [h2]
  · rw [if_pos h]
    simp [h]
theorem numF_bound (p : Str) : 0 ≤ numF p ∧ numF p ≤ 1073741824 := by
  rcases path_ways p with ⟨-, -, h, -⟩ | ⟨n, h1, h2, -, h, -⟩ | ⟨n, h1, h2, -, h, -⟩ <;> rw [h] <;> omega
set_option maxRecDepth 20000 in
theorem listCompare_any (E : Nat → Addr) (B : Nat) (a b : Str) (w : World) (hE : Errs [5] E B w) (hT : LNum B w) (hM : LMax B w) (ha : a.length ≤ 100000) (hb : b.length ≤ 100000) :
    Calls Tryz.prog 148 #[S a, S b] w fun e w' => e = .returned (.int .i64 (cmpP a b)) ∧ Below w.heap.size w w' := by
  obtain ⟨n1, n2⟩ := numF_bound a
  obtain ⟨m1, m2⟩ := numF_bound b
  have hc : cmpP a b = orOf [Lib.compareBytes (kindF a) (kindF b), numF a - numF b] := by rw [orOf_two]; rfl
  have HC := Lib.hid hc
  clear hc
  go_enter Tryz.func148, Tryz.ntmps148
  go_wp2_with fail
  refine (fileNumber_any E B a _ hE hT hM ha).mono ?_
  rintro e w1 ⟨ev1, rfl, -, hb1⟩
  go_wp2_with fail
  refine (fileNumber_any E B b _ (hE.below' hb1 hE.le) (hT.below' hb1 hT.le) (hM.below' hb1 hM.le) hb).mono ?_
  rintro e w2 ⟨ev2, rfl, -, hb2⟩
  have hb2' := hb1.trans (hb2.mono hb1.size)
  clear hb1 hb2
  generalize hk1 : kindF a = k1
  generalize hk2 : kindF b = k2
  generalize hn1 : numF a = x1 at n1 n2 ⊢
  generalize hn2 : numF b = x2 at m1 m2 ⊢
  rw [hk1, hk2, hn1, hn2] at HC
  clear hk1 hk2 hn1 hn2
  go_wp2_with fail
  refine (strCompare_any k1 k2 _).mono ?_
  rintro e w3 ⟨rfl, rfl⟩
  generalize Lib.compareBytes k1 k2 = c at HC ⊢
  go_wp2_with fail
  refine (cmpOr_any _ [c, x1 - x2] _ (ints_new _ w2 _ _ 2 _ rfl rfl rfl (by decide))).mono ?_
  rintro e w4 ⟨rfl, rfl⟩
  go_wp2_with fail
  go_ret
  exact ⟨by rw [HC.out]; rfl, hb2'.alloc hb2'.size _⟩
end Go.Proofs.YtefoaeamfkbgbaaGreatDoor
namespace Go.Proofs.YtefoaeamfkbgbaaGreatDoor
open Go.RowKit

/-- A function value's call enters its body. -/
def Clo (P : Program) (f : FuncId) : Prop := ∀ args W, (callFunc f args).run P W = .ok (.enter f args) W
/-- The function value f, with what it captured, answers p of each element of l, in every world that is as w0 was below base. -/
def PredOn {α : Type} (P : Program) (f : FuncId) (caps : Array Value) (val : α → Value) (l : List α) (p : α → Bool) (base : Nat) (w0 : World) : Prop :=
  ∀ W x, x ∈ l → Below base w0 W → base ≤ W.heap.size → Calls P f (#[val x] ++ caps) W fun e W' => e = .returned (.bool (p x)) ∧ Below W.heap.size W W'

theorem PredOn.sub {α : Type} {P : Program} {f : FuncId} {caps : Array Value} {val : α → Value} {l m : List α} {p : α → Bool} {base : Nat} {w0 : World} (h : PredOn P f caps val l p base w0) (hm : ∀ x ∈ m, x ∈ l) : PredOn P f caps val m p base w0 :=
  fun W x hx => h W x (hm x hx)

def idxVal {α : Type} (p : α → Bool) (l : List α) : Int := match l.findIdx? p with | none => -1 | some i => i

theorem idxVal_none {α : Type} {p : α → Bool} {l : List α} (h : ∀ (j : Nat) (x : α), l[j]? = some x → p x = false) : idxVal p l = -1 := by
  unfold idxVal
  have : l.findIdx? p = none := List.findIdx?_eq_none_iff.2 fun x hx => by
    obtain ⟨j, hj, he⟩ := List.getElem_of_mem hx
    exact h j x (by simp [hj, he])
  rw [this]
theorem idxVal_some {α : Type} {p : α → Bool} {l : List α} {k : Nat} {x : α} (hk : l[k]? = some x) (hp : p x = true) (h : ∀ (j : Nat) (y : α), j < k → l[j]? = some y → p y = false) : idxVal p l = k := by
  unfold idxVal
  have hlt : k < l.length := by
    rcases Nat.lt_or_ge k l.length with h' | h'
    · exact h'
    · rw [List.getElem?_eq_none h'] at hk; cases hk
  have hx : l[k] = x := by rw [List.getElem?_eq_getElem hlt] at hk; exact Option.some.inj hk
  have : l.findIdx? p = some k := List.findIdx?_eq_some_iff_getElem.2 ⟨hlt, by rw [hx]; exact hp, fun j hj => by
    have := h j l[j] hj (by simp)
    simpa using this⟩
  rw [this]
end Go.Proofs.YtefoaeamfkbgbaaGreatDoor
namespace Go.Proofs.YtefoaeamfkbgbaaGreatDoor
open Go.RowKit

/-- A round's cells. -/
theorem flCells {w w' : World} {b o : Nat} {l : List Fl} {k : Nat} {x : Fl} (hx : ∀ (k : Nat) (x : Fl), l[k]? = some x → ∀ (j : Nat) (u : Value), (encF x)[j]? = some u → w.cell? ⟨b, o + k * 6 + j, none⟩ = some u) (hb : Below w.heap.size w w') (hk : l[k]? = some x) :
    w'.cell? ⟨b, o + k * 6, none⟩ = some (S x.path) ∧ w'.cell? ⟨b, o + k * 6 + 1, none⟩ = some (S x.part) ∧ w'.cell? ⟨b, o + k * 6 + 2, none⟩ = some (.int .i64 x.n) ∧ w'.cell? ⟨b, o + k * 6 + 3, none⟩ = some (.int .i64 x.lo) ∧ w'.cell? ⟨b, o + k * 6 + 4, none⟩ = some (.int .i64 x.hi) ∧ w'.cell? ⟨b, o + k * 6 + 5, none⟩ = some (.int .i64 x.seq) := by
  have h := fun j u hu => by
    have := hx k x hk j u hu
    exact (hb.cell (World.block_lt_of_cell? w _ this)).trans this
  exact ⟨h 0 _ rfl, h 1 _ rfl, h 2 _ rfl, h 3 _ rfl, h 4 _ rfl, h 5 _ rfl⟩

theorem indexFuncF_any (f : FuncId) (caps : Array Value) (p : Fl → Bool) (base : Nat) (w0 : World) (v : Value) (l : List Fl) (w : World) (hf : Clo Tryz.prog f) (hp : PredOn Tryz.prog f caps fileV l p base w0)
    (hl : FilesAt w v l) (hw : Below base w0 w) (hB : base ≤ w.heap.size) :
    Calls Tryz.prog 54 #[v, .func (.func f) #[] caps] w fun e w' => e = .returned (.int .i64 (idxVal p l)) ∧ Below w.heap.size w w' := by
  obtain ⟨a, c, b, o, rfl, ha, hc, hcm, hx⟩ := hl
  unfold maxLen at hcm
  have hf' := hf
  unfold Clo at hf'
  go_enter Tryz.func54, Tryz.ntmps54
  go_wp2_with fail
  go_loopw [8] (fun i wr => ∃ k : Nat, k ≤ l.length ∧ i = .int .i64 k ∧ Hid (∀ j y, j < k → l[j]? = some y → p y = false) ∧ Below w.heap.size w wr) (fun i _ => l.length - (intOf i).toNat)
  case atStart => exact ⟨0, by omega, rfl, Lib.hid fun j y hj => absurd hj (by omega), Below.refl _ _⟩
  case round =>
    obtain ⟨k, hk, rfl, hj, hb⟩ := hrel
    by_cases hlt : k < l.length
    · obtain ⟨x, hxk⟩ := get_ex hlt
      obtain ⟨c0, c1, c2, c3, c4, c5⟩ := flCells hx hb hxk
      have i1 := idx_at (c := c) 6 Tryz.underlying23 szFl ha k hlt
      have hk1 : (k : Int) < (l.length : Int) := by omega
      have hpx := hp wr x (List.mem_of_getElem? hxk) (hw.trans (hb.mono hB)) (Nat.le_trans hB hb.size)
      have Hp := Lib.hid hpx; clear hpx
      have Hx := Lib.hid hxk; clear hxk
      go_wp2_with fail
      refine Hp.out.mono ?_
      rintro e w1 ⟨rfl, hb1⟩
      have hb2 := hb.trans (hb1.mono hb.size)
      cases hpv : p x with
      | true =>
        have Hpv := Lib.hid hpv; clear hpv
        go_wp2_with fail
        go_ret
        refine ⟨?_, hb2⟩
        rw [idxVal_some Hx.out Hpv.out hj.out]; rfl
      | false =>
        have Hpv := Lib.hid hpv; clear hpv
        go_wp2_with fail
        go_roundw
        case rel => exact ⟨k + 1, by omega, by go_num, (Lib.hid fun j y hj' hy => by
          rcases Nat.lt_or_ge j k with h | h
          · exact hj.out j y h hy
          · obtain rfl : j = k := by omega
            rw [Hx.out] at hy
            obtain rfl := Option.some.inj hy
            exact Hpv.out), hb2⟩
        case measure => simp [intOf]; omega
    · obtain rfl : k = l.length := by omega
      go_wp2_with fail
      go_ret
      refine ⟨?_, hb⟩
      rw [idxVal_none fun j x hj' => hj.out j x (by
        rcases Nat.lt_or_ge j l.length with h | h
        · exact h
        · rw [List.getElem?_eq_none h] at hj'; cases hj') hj']
      rfl
end Go.Proofs.YtefoaeamfkbgbaaGreatDoor
namespace Go.Proofs.YtefoaeamfkbgbaaGreatDoor
open Go.RowKit

set_option maxHeartbeats 1000000 in
set_option maxRecDepth 20000 in
theorem listCheck_any (E : Nat → Addr) (B : Nat) (v : Value) (l : List Fl) (w : World) (hE : Errs [2, 4, 5, 8, 9] E B w) (hT : LNum B w) (hM : LMax B w) (hl : FilesAt w v l) (hs : ∀ f ∈ l, midF f) :
    Calls Tryz.prog 104 #[v] w fun e w' => ∃ ev, e = .returned ev ∧ ErV E w' ev (listCheck l) ∧ Below w.heap.size w w' := by
  obtain ⟨a, c, b, o, rfl, ha, hc, hcm, hx⟩ := hl
  unfold maxLen at hcm
  have hif := isIfaceE
  have hBw := hE.le
  by_cases h60 : 60 < l.length
  · have g : (60 : Int) < (l.length : Int) := by omega
    have v8 := hE.var 8 (by decide)
    simp only [errG] at v8
    have HF : Hid (listCheck l = .bare 8) := Lib.hid (if_pos h60)
    go_enter Tryz.func104, Tryz.ntmps104
    go_wp2_with fail
    go_ret
    exact ⟨_, rfl, by rw [HF.out]; exact ⟨by decide, rfl⟩, Below.refl _ _⟩
  have g60 : (l.length : Int) ≤ 60 := by omega
  have HF : Hid (listCheck l = firstErr (fileFault l) l.length) := Lib.hid (if_neg h60)
  clear h60
  have V0 := fun w6 (h : Below w.heap.size w w6) => (hE.below' h hBw).var 9 (by decide)
  simp only [errG] at V0
  have V := Lib.hid V0
  clear V0
  have Hs := Lib.hid hs
  clear hs
  go_enter Tryz.func104, Tryz.ntmps104
  go_wp2_with fail
  go_loopw [12] (fun i wr => ∃ k : Nat, k ≤ l.length ∧ i = .int .i64 k ∧ Hid (∀ j < k, fileFault l j = 0) ∧ Below w.heap.size w wr) (fun i _ => l.length - (intOf i).toNat)
  case atStart => exact ⟨0, by omega, rfl, Lib.hid fun j hj => absurd hj (by omega), Below.refl _ _⟩
  case round =>
    obtain ⟨k, hk, rfl, hj, hb⟩ := hrel
    by_cases hlt : k < l.length
    case neg =>
      obtain rfl : k = l.length := by omega
      have f : decide ((l.length : Int) < (l.length : Int)) = false := by simp
      go_wp2_with fail
      go_ret
      exact ⟨_, rfl, by rw [HF.out, firstErr_all hj.out]; rfl, hb⟩
    obtain ⟨x, hxk⟩ := get_ex hlt
    obtain ⟨c0, c1, c2, c3, c4, c5⟩ := flCells hx hb hxk
    have i1 := idx_at (c := c) 6 Tryz.underlying23 szFl ha k hlt
    have hk1 : (k : Int) < (l.length : Int) := by omega
    have hsx := Hs.out x (List.mem_of_getElem? hxk)
    have Hx := Lib.hid hxk; clear hxk
    have hb0 : Below w.heap.size w (wr.alloc (.cells #[S x.path, S x.part, .int .i64 x.n, .int .i64 x.lo, .int .i64 x.hi, .int .i64 x.seq] 44)) := hb.alloc hb.size _
    have Cs := Lib.hid (fun w6 (h : Below (wr.alloc (.cells #[S x.path, S x.part, .int .i64 x.n, .int .i64 x.lo, .int .i64 x.hi, .int .i64 x.seq] 44)).heap.size (wr.alloc (.cells #[S x.path, S x.part, .int .i64 x.n, .int .i64 x.lo, .int .i64 x.hi, .int .i64 x.seq] 44)) w6) => (fileCells rfl h).1)
    go_wp2_with fail
    generalize wr.alloc (.cells #[S x.path, S x.part, .int .i64 x.n, .int .i64 x.lo, .int .i64 x.hi, .int .i64 x.seq] 44) = w1 at *
    refine (fileCheck_any E B x _ ((hE.sub (by decide)).below' hb0 hBw) (hT.below' hb0 hBw) (hM.below' hb0 hBw) hsx).mono ?_
    rintro e w2 ⟨ev, rfl, hev, hb2⟩
    have p0 := Cs.out w2 hb2
    have hb2' := hb0.trans (hb2.mono hb0.size)
    clear c0 c1 c2 c3 c4 c5 i1 Cs
    by_cases hck : checkF x = 0
    case neg =>
      have hf : fileFault l k = checkF x := by unfold fileFault; rw [Hx.out]; simp only; rw [if_pos hck]
      have hfe : fileEr x = .bare (checkF x) := fileEr_bad rfl hck
      rw [hfe] at hev
      obtain ⟨hcr, rfl⟩ := hev
      have HK := Lib.hid hck
      have Hf := Lib.hid hf
      have HL : Hid (listCheck l = .loc (checkF x) k) := Lib.hid (HF.out.trans ((firstErr_hit hlt hj.out (by rw [hf]; exact hck)).trans (by rw [hf])))
      clear hf hfe hck
      generalize checkF x = cx at *
      go_wp2_with fail
      go_quiet (fail)
      go_wp2_with fail
      go_ret
      exact ⟨_, rfl, by rw [HL.out]; exact ErV.fresh hcr _ _ _ _ rfl, (Bdn hb2' _).alloc hb2'.size _⟩
    have hfe := fileEr_nil hck
    rw [hfe] at hev
    obtain rfl : ev = .nilIface := hev
    have HK := Lib.hid hck
    clear hck hfe
    by_cases h0 : k = 0
    · have hf : fileFault l k = 0 := by unfold fileFault; rw [Hx.out]; simp only; rw [if_neg (by simp [HK.out]), if_neg (by simp [h0])]
      have gk : decide (0 < k) = false := by simp [h0]
      have Hf := Lib.hid hf
      have H0 := Lib.hid h0
      clear hf h0
      go_wp2_with fail
      go_quiet (fail)
      go_wp2_with fail
      go_roundw
      case rel => exact ⟨k + 1, by omega, by go_num, (Lib.hid fun j hj' => by
        obtain rfl : j = k := by have := H0.out; omega
        exact Hf.out), Bdn hb2' _⟩
      case measure => simp [intOf]; omega
    obtain ⟨y, hyk⟩ := get_ex (l := l) (k := k - 1) (by omega)
    have hsy := Hs.out y (List.mem_of_getElem? hyk)
    obtain ⟨d0, -⟩ := flCells hx hb2' hyk
    have i2 := idx_at (c := c) 6 Tryz.underlying23 szFl ha (k - 1) (by omega)
    have hcast : ((k - 1 : Nat) : Int) = (k : Int) - 1 := by omega
    simp only [hcast] at i2
    have hk0 : 0 < k := by omega
    have gk : decide (0 < k) = true := decide_eq_true hk0
    have hk01 : (1 : Int) ≤ k := by omega
    have hk02 : (0 : Int) ≤ (k : Int) - 1 := by omega
    have hk03 : (k : Int) - 1 < l.length := by omega
    have Hy := Lib.hid hyk
    clear hyk hcast h0
    have hb2d := hb2'.drew
    have hwk : IntKind.i64.wrap ((k : Int) - 1) = (k : Int) - 1 := by rw [IntKind.wrap_i64]; omega
    have hC := listCompare_any E B x.path y.path w2.drew ((hE.sub (by decide)).below' hb2d hBw) (hT.below' hb2d hBw) (hM.below' hb2d hBw) (by have := hsx.1; omega) (by have := hsy.1; omega)
    obtain ⟨cv, hcv⟩ : ∃ cv, cmpP x.path y.path = cv := ⟨_, rfl⟩
    rw [hcv] at hC
    have HC := Lib.hid hC
    clear hC
    by_cases hle : cv ≤ 0
    · have hf : fileFault l k = 9 := by
        unfold fileFault; rw [Hx.out]; simp only
        rw [if_neg (by simp [HK.out]), if_pos ⟨hk0, y, Hy.out, by rw [hcv]; exact hle⟩]
      have HL : Hid (listCheck l = .loc 9 k) := Lib.hid (HF.out.trans ((firstErr_hit hlt hj.out (by rw [hf]; decide)).trans (by rw [hf])))
      clear hf hcv
      go_wp2_with fail
      go_region_held3 (fun w' => w'.cell? ⟨wr.heap.size, 0, none⟩ = some (S x.path) ∧ w'.cell? ⟨b, o + (k - 1) * 6, none⟩ = some (S y.path)) (exact ⟨p0, d0⟩) (first | (go_at_call 148; refine HC.out.mono ?_; rintro e w3 ⟨rfl, hb3⟩; have hb3' := hb2d.trans (hb3.mono hb2d.size); have q0 := (hb3.cell (World.block_lt_of_cell? w2 _ p0)).trans p0; have e0 := (hb3.cell (World.block_lt_of_cell? w2 _ d0)).trans d0; clear p0 d0; have p0 := q0; have d0 := e0; have v9 := V.out _ hb3'))
      go_wp2_with fail
      go_ret
      exact ⟨_, rfl, by rw [HL.out]; exact ErV.fresh (by decide) _ _ _ _ rfl, hb3'.alloc hb3'.size _⟩
    · have hf : fileFault l k = 0 := by
        unfold fileFault; rw [Hx.out]; simp only
        rw [if_neg (by simp [HK.out]), if_neg]
        rintro ⟨_, g, hg, hle'⟩
        rw [Hy.out] at hg
        obtain rfl := Option.some.inj hg
        rw [hcv] at hle'
        exact hle hle'
      have Hf := Lib.hid hf
      have hgt : 0 < cv := by omega
      clear hf hcv hle
      go_wp2_with fail
      go_region_held3 (fun w' => w'.cell? ⟨wr.heap.size, 0, none⟩ = some (S x.path) ∧ w'.cell? ⟨b, o + (k - 1) * 6, none⟩ = some (S y.path)) (exact ⟨p0, d0⟩) (first | (go_at_call 148; refine HC.out.mono ?_; rintro e w3 ⟨rfl, hb3⟩; have hb3' := hb2d.trans (hb3.mono hb2d.size); have q0 := (hb3.cell (World.block_lt_of_cell? w2 _ p0)).trans p0; have e0 := (hb3.cell (World.block_lt_of_cell? w2 _ d0)).trans d0; clear p0 d0; have p0 := q0; have d0 := e0))
      go_wp2_with fail
      go_roundw
      case rel => exact ⟨k + 1, by omega, by go_num, (Lib.hid fun j hj' => by
        rcases Nat.lt_or_ge j k with h | h
        · exact hj.out j h
        · obtain rfl : j = k := by omega
          exact Hf.out), hb3'⟩
      case measure => simp [intOf]; omega
end Go.Proofs.YtefoaeamfkbgbaaGreatDoor
namespace Go.Proofs
open Go.Shelf
def Tryz.bld166_ren : Go.Shelf.Ren := ⟨fun | 166 => 143 | 240 => 200 | 276 => 228 | n => n, fun | 0 => 0 | 3 => 3 | 4 => 4 | 5 => 5 | 9 => 9 | 20 => 20 | 37 => 199 | 70 => 198 | 72 => 201 | 75 => 35 | 80 => 204 | 164 => 226 | n => n, fun | n => n⟩
theorem Tryz.bld166 : Go.Proofs.Lays.n166 Tryz.prog Tryz.bld166_ren := {
  mixed := by kernel_rfl
  f166 := Tryz.func143.trans (congrArg some (by kernel_rfl))
  f240 := Tryz.func200.trans (congrArg some (by kernel_rfl))
  f276 := Tryz.func228.trans (congrArg some (by kernel_rfl))
  t0 := Tryz.underlying0
  a0 := Tryz.isAgg0
  z0 := Tryz.sizeOf0
  v0 := Tryz.zeroValue0
  t3 := Tryz.underlying3
  a3 := Tryz.isAgg3
  z3 := Tryz.sizeOf3
  v3 := Tryz.zeroValue3
  t4 := Tryz.underlying4
  a4 := Tryz.isAgg4
  z4 := Tryz.sizeOf4
  v4 := Tryz.zeroValue4
  t9 := Tryz.underlying9
  a9 := Tryz.isAgg9
  z9 := Tryz.sizeOf9
  v9 := Tryz.zeroValue9
  t20 := Tryz.underlying20
  a20 := Tryz.isAgg20
  z20 := Tryz.sizeOf20
  v20 := Tryz.zeroValue20
  t37 := Tryz.underlying199
  a37 := Tryz.isAgg199
  z37 := Tryz.sizeOf199
  v37 := Tryz.zeroValue199
  t70 := Tryz.underlying198
  a70 := Tryz.isAgg198
  z70 := Tryz.sizeOf198
  v70 := Tryz.zeroValue198
  t72 := Tryz.underlying201
  a72 := Tryz.isAgg201
  z72 := Tryz.sizeOf201
  v72 := Tryz.zeroValue201
  t75 := Tryz.underlying35
  a75 := Tryz.isAgg35
  z75 := Tryz.sizeOf35
  v75 := Tryz.zeroValue35
  t164 := Tryz.underlying226
  a164 := Tryz.isAgg226
  z164 := Tryz.sizeOf226
  v164 := Tryz.zeroValue226 }
theorem Tryz.bldX166 : Builder.Extra Tryz.prog Tryz.bld166_ren where
  sizeBuilder := by kernel_rfl
  liesBuilder := by kernel_rfl
  t5 := Tryz.underlying5
  a5 := Tryz.isAgg5
  z5 := Tryz.sizeOf5
  v5 := Tryz.zeroValue5
  infoByte := by kernel_rfl
  cellsByte := by kernel_rfl
  sizeByte := by kernel_rfl
  neB5 := by decide
end Go.Proofs
namespace Go.Proofs.YtefoaeamfkbgbaaGreatDoor
open Go.RowKit
/-- A builder of the call's own that holds the text s. -/
abbrev BldAt (B b : Nat) (s : Str) (w : World) : Prop := Lib.IsBuilder 201 5 B b (Lib.byteCells s) w
theorem bldWrite_any (B b : Nat) (s t : Str) (w : World) (h : BldAt B b s w) (hl : s.length + t.length ≤ 1000000) (hB : B ≤ w.heap.size) :
    Calls Tryz.prog 143 #[.pointer (some ⟨b, 0, none⟩), S t] w fun e w' => e = .returned (.tuple #[.int .i64 t.length, .nilIface]) ∧ BldAt B b (s ++ t) w' ∧ Below B w w' := by
  refine (Any.Builder_WriteString Tryz.bld166 Tryz.bldX166 B b (Lib.byteCells s) ⟨t.toArray⟩ w h (by simp [Lib.byteCells, ByteArray.size]; omega) hB).mono ?_
  rintro e w' ⟨rfl, h1, h2⟩
  refine ⟨by simp [ByteArray.size], .inr ?_, h2⟩
  have e1 : Lib.byteCells s ++ Lib.strCells ⟨t.toArray⟩ = Lib.byteCells (s ++ t) := by simp [Lib.byteCells, Lib.strCells]
  rw [← e1]
  exact h1
theorem bldString_any (B b : Nat) (s : Str) (w : World) (h : BldAt B b s w) (hB : B ≤ w.heap.size) :
    Calls Tryz.prog 144 #[.pointer (some ⟨b, 0, none⟩)] w fun e w' => e = .returned (S s) ∧ Below B w w' :=
  Tryz.Builder_String_any B b s w h hB
end Go.Proofs.YtefoaeamfkbgbaaGreatDoor
namespace Go.Proofs.YtefoaeamfkbgbaaGreatDoor
open Go.RowKit
attribute [local go_sem] bapp

theorem numsTail_snoc (l : List Int) (x : Int) : numsTail (l ++ [x]) = numsTail l ++ 32 :: Lib.itoa x := by simp [numsTail]
theorem numsTail_len (l : List Int) (h : ∀ x ∈ l, -9223372036854775808 ≤ x ∧ x ≤ 9223372036854775807) : (numsTail l).length ≤ l.length * 22 := by
  induction l with
  | nil => simp [numsTail]
  | cons x r ih =>
    have h1 := h x (by simp)
    have h2 := itoa_len x (by omega) (by omega)
    have h3 := ih fun y hy => h y (by simp [hy])
    simp only [numsTail, List.flatMap_cons, List.length_append, List.length_cons] at h3 ⊢
    omega

theorem cat_run (a b : ByteArray) (n m : Nat) (ha : a.size = n) (hb : b.size = m) (h : n + m ≤ 1000000) : ∀ w, (Op.stringOp .add a b).run Tryz.prog w = .ok (.string (a ++ b)) w := fun w => run_string_add_sum w a b (by omega)

end Go.Proofs.YtefoaeamfkbgbaaGreatDoor
namespace Go.Proofs.YtefoaeamfkbgbaaGreatDoor
open Go.RowKit

theorem getD_of {l : List Int} {j : Nat} (hj : j < l.length) : l[j]? = some (l.getD j 0) := by
  rw [List.getD_eq_getElem?_getD, List.getElem?_eq_getElem hj]; rfl
theorem minI_any (v : Value) (l : List Int) (w : World) (hl : IntsAt w v l) (hn : l ≠ []) (hb : l.length ≤ 100000) :
    Calls Tryz.prog 98 #[v] w fun e w' => e = .returned (.int .i64 (endsI l).1) ∧ w = w' := by
  obtain ⟨a, c, b, o, rfl, ha, hc, hcm, hx⟩ := hl
  have hpos : 0 < l.length := List.length_pos_iff.2 hn
  obtain rfl := ha hpos
  refine (Tryz.slices_Min_int b o l.length c l w hpos (Nat.le_refl _) (by omega) (fun j hj => ?_)).mono ?_
  · have := hx j _ (getD_of hj) 0 _ rfl
    simpa using this
  · rintro e w' ⟨rfl, rfl⟩
    refine ⟨?_, rfl⟩
    rw [List.take_length]
    unfold endsI
    rw [if_neg hn]
theorem maxI_any (v : Value) (l : List Int) (w : World) (hl : IntsAt w v l) (hn : l ≠ []) (hb : l.length ≤ 100000) :
    Calls Tryz.prog 99 #[v] w fun e w' => e = .returned (.int .i64 (endsI l).2) ∧ w = w' := by
  obtain ⟨a, c, b, o, rfl, ha, hc, hcm, hx⟩ := hl
  have hpos : 0 < l.length := List.length_pos_iff.2 hn
  obtain rfl := ha hpos
  refine (Tryz.slices_Max_int b o l.length c l w hpos (Nat.le_refl _) (by omega) (fun j hj => ?_)).mono ?_
  · have := hx j _ (getD_of hj) 0 _ rfl
    simpa using this
  · rintro e w' ⟨rfl, rfl⟩
    refine ⟨?_, rfl⟩
    rw [List.take_length]
    unfold endsI
    rw [if_neg hn]
theorem join_plain (c : UInt8) : ∀ l : List Str, Lib.join l [c] = joinC c l
  | [] => by simp [Lib.join, joinC]
  | [x] => by simp [Lib.join, joinC]
  | x :: y :: r => by
    have ih := join_plain c (y :: r)
    rw [joinC_two, ← ih]
    simp [Lib.join]
theorem join_any (c : UInt8) (v : Value) (l : List Str) (w : World) (hl : StrsAt w v l) (hn : l.length ≤ 100000) (hlen : (joinC c l).length ≤ 1000000) :
    Calls Tryz.prog 100 #[v, .string ⟨#[c]⟩] w fun e w' => e = .returned (S (joinC c l)) ∧ Below w.heap.size w w' := by
  obtain ⟨a, cp, b, o, rfl, ha, hc, hcm, hx⟩ := hl
  rcases Nat.eq_zero_or_pos l.length with h0 | hpos
  · obtain rfl := List.eq_nil_of_length_eq_zero h0
    refine (Tryz.strings_Join_none a cp ⟨#[c]⟩ w).mono ?_
    rintro e w' ⟨rfl, rfl⟩
    exact ⟨rfl, Below.refl _ _⟩
  · obtain rfl := ha hpos
    have hm : (l.map fun s => (⟨s.toArray⟩ : ByteArray)).map (·.data.toList) = l := by simp [List.map_map, Function.comp_def]
    have hblk : b < w.heap.size := by
      obtain ⟨x, hxk⟩ := get_ex hpos
      exact World.block_lt_of_cell? w ⟨b, o + 0 * 1 + 0, none⟩ (hx 0 x hxk 0 _ rfl)
    have h := Tryz.strings_Join b o cp (l.map fun s => (⟨s.toArray⟩ : ByteArray)) ⟨#[c]⟩ w (fun j x hj => by
      rw [List.getElem?_map] at hj
      cases hs : l[j]? with
      | none => rw [hs] at hj; cases hj
      | some s =>
        rw [hs] at hj
        cases hj
        have := hx j s hs 0 _ rfl
        simpa using this) hblk (by simp; omega) (by simpa using hc) (by
        rw [hm]
        show (Lib.join l [c]).length ≤ _
        rw [join_plain]; omega)
    rw [hm] at h
    rw [List.length_map] at h
    refine h.mono ?_
    rintro e w' ⟨rfl, hb⟩
    refine ⟨?_, hb⟩
    show Ending.returned (.string ⟨(Lib.join l [c]).toArray⟩) = _
    rw [join_plain]
theorem strs_newD (w : World) (t : TypeId) (l : List Str) (n : Nat) (hl : l.length = n) (hn : n ≤ 100000) {H : Nat} (hH : w.heap.size = H) : StrsAt (w.alloc (.cells (l.map S).toArray t)) (.slice (some ⟨H, 0, none⟩) n n) l := by
  subst hl
  subst hH
  refine ⟨_, l.length, w.heap.size, 0, rfl, fun _ => rfl, Nat.le_refl _, by unfold maxLen; omega, fun k x hk j u hu => ?_⟩
  have hj : j = 0 := by
    have := (List.getElem?_eq_some_iff.1 hu).1
    simpa using this
  subst hj
  have hu' : u = S x := by simpa using hu.symm
  rw [cell_of_row (w.alloc _) w.heap.size _ (l.map S).toArray t (0, 0) (heap_alloc_new w _)]
  simp [hk, hu']
theorem S_app (a b : Str) : (⟨a.toArray⟩ : ByteArray) ++ ⟨b.toArray⟩ = ⟨(a ++ b).toArray⟩ := bapp a b
set_option maxHeartbeats 1000000 in
theorem dataHead_any (B : Nat) (word : Str) (n lo hi : Int) (body : Str) (w : World) (hT : LNum B w) (hw : word.length ≤ 10) (hn : -9223372036854775808 ≤ n ∧ n ≤ 9223372036854775807) (hlo : -9223372036854775808 ≤ lo ∧ lo ≤ 9223372036854775807) (hhi : -9223372036854775808 ≤ hi ∧ hi ≤ 9223372036854775807) (hb : body.length ≤ 100000) :
    Calls Tryz.prog 101 #[S word, .int .i64 n, .int .i64 lo, .int .i64 hi, S body] w fun e w' => e = .returned (S (headT word n lo hi (sumOf body) ++ [10])) ∧ Below w.heap.size w w' := by
  have X := Lib.hid (fun W (h : Below w.heap.size w W) => hT.below' h hT.le)
  have hsl := sumOf_lt body
  have hhl := blk_head_len (word := word) n lo hi (sumOf body) hw hn hlo hhi (by omega)
  have hj : joinC 32 [word, Lib.itoa n, Lib.itoa lo, Lib.itoa hi, Lib.itoa (sumOf body)] = headT word n lo hi (sumOf body) := joinC_itoa word [n, lo, hi, (sumOf body : Int)]
  have hu : (((sumOf body : Nat) : Int) % 18446744073709551616) = ((sumOf body : Nat) : Int) := by omega
  have HI := Lib.hid (fun m (h0 : -9223372036854775808 ≤ m) (h1 : m ≤ 9223372036854775807) W (h : Below w.heap.size w W) => itoa_any B m h0 h1 W (X.out W h))
  have HSm := Lib.hid (fun W => sum_any body W hb)
  have HFm := Lib.hid (fun W (h : Below w.heap.size w W) => formatUint_any B (sumOf body) (by omega) W (X.out W h))
  have HJn := Lib.hid (fun v W (h : StrsAt W v [word, Lib.itoa n, Lib.itoa lo, Lib.itoa hi, Lib.itoa (sumOf body)]) => join_any 32 v _ W h (by simp) (by rw [hj]; omega))
  have hcat := cat_run ⟨(headT word n lo hi (sumOf body)).toArray⟩ ⟨#[10]⟩ (headT word n lo hi (sumOf body)).length 1 rfl rfl (by omega)
  rw [hj] at HJn
  have hca : (⟨(headT word n lo hi (sumOf body)).toArray⟩ : ByteArray) ++ ⟨#[10]⟩ = ⟨(headT word n lo hi (sumOf body) ++ [10]).toArray⟩ := S_app _ [10]
  rw [hca] at hcat
  clear hca
  have Hsl := Lib.hid hsl
  clear hj hhl hT hsl
  generalize headT word n lo hi (sumOf body) = hd at *
  generalize sumOf body = sm at *
  go_enter Tryz.func101, Tryz.ntmps101
  go_wp2_with fail
  refine (HI.out n hn.1 hn.2 _ (Below.refl _ _)).mono ?_
  rintro e w1 ⟨rfl, hb1⟩
  go_wp2_with fail
  refine (HI.out lo hlo.1 hlo.2 _ hb1).mono ?_
  rintro e w2 ⟨rfl, hb2⟩
  have hb2' := hb1.trans (hb2.mono hb1.size)
  go_wp2_with fail
  refine (HI.out hi hhi.1 hhi.2 _ hb2').mono ?_
  rintro e w3 ⟨rfl, hb3⟩
  have hb3' := hb2'.trans (hb3.mono hb2'.size)
  go_wp2_with fail
  refine (HSm.out _).mono ?_
  rintro e w4 ⟨rfl, hb4⟩
  have hb4' := hb3'.trans (hb4.mono hb3'.size)
  go_wp2_with fail
  refine (HFm.out _ hb4').mono ?_
  rintro e w5 ⟨rfl, hb5⟩
  have hb5' := hb4'.trans (hb5.mono hb4'.size)
  go_wp2_with fail
  refine (HJn.out _ _ (strs_newD w5 9 [word, Lib.itoa n, Lib.itoa lo, Lib.itoa hi, Lib.itoa sm] 5 rfl (by decide) rfl)).mono ?_
  rintro e w6 ⟨rfl, hb6⟩
  have hba := hb5'.alloc hb5'.size (.cells ([word, Lib.itoa n, Lib.itoa lo, Lib.itoa hi, Lib.itoa sm].map S).toArray 9)
  go_wp2_with fail
  go_ret
  exact ⟨rfl, hba.trans (hb6.mono hba.size)⟩
theorem bodyT_join : ∀ {ls : List Str}, ls ≠ [] → bodyT ls = joinC 10 ls ++ [10]
  | [], h => absurd rfl h
  | [x], _ => by simp [bodyT, joinC]
  | x :: y :: r, _ => by
    have ih := bodyT_join (ls := y :: r) (by simp)
    have : bodyT (x :: y :: r) = x ++ 10 :: bodyT (y :: r) := by simp [bodyT]
    rw [this, ih, joinC_two]
    simp
set_option maxHeartbeats 1000000 in
theorem dataWhole_any (B : Nat) (word : Str) (v : Value) (keys : List Int) (u : Value) (ls : List Str) (w : World) (hT : LNum B w) (hw : word.length ≤ 10) (hk : IntsAt w v keys) (hl : StrsAt w u ls) (hkn : keys.length ≤ 1000) (hln : ls.length ≤ 1000) (hend : (-9223372036854775808 ≤ (endsI keys).1 ∧ (endsI keys).1 ≤ 9223372036854775807) ∧ (-9223372036854775808 ≤ (endsI keys).2 ∧ (endsI keys).2 ≤ 9223372036854775807)) (hb : (bodyT ls).length ≤ 100000) :
    Calls Tryz.prog 43 #[S word, v, u] w fun e w' => e = .returned (S (wholeT word keys (bodyT ls))) ∧ Below w.heap.size w w' := by
  have X := Lib.hid (fun W (h : Below w.heap.size w W) => (⟨hT.below' h hT.le, hk.below h, hl.below h⟩ : LNum B W ∧ IntsAt W v keys ∧ StrsAt W u ls))
  obtain ⟨a, c, rfl, -, -⟩ := hk.form'
  obtain ⟨a2, c2, rfl, -, -⟩ := hl.form'
  have hsl := sumOf_lt (bodyT ls)
  have hhl := blk_head_len (word := word) keys.length (endsI keys).1 (endsI keys).2 (sumOf (bodyT ls)) hw (by omega) hend.1 hend.2 (by omega)
  have HHd := Lib.hid (fun W (h : Below w.heap.size w W) => dataHead_any B word keys.length (endsI keys).1 (endsI keys).2 (bodyT ls) W (X.out W h).1 hw (by omega) hend.1 hend.2 hb)
  have HMin := Lib.hid (fun (h0 : keys ≠ []) W (h : Below w.heap.size w W) => minI_any _ keys W (X.out W h).2.1 h0 (by omega))
  have HMax := Lib.hid (fun (h0 : keys ≠ []) W (h : Below w.heap.size w W) => maxI_any _ keys W (X.out W h).2.1 h0 (by omega))
  have HWh : Hid (wholeT word keys (bodyT ls) = (headT word keys.length (endsI keys).1 (endsI keys).2 (sumOf (bodyT ls)) ++ [10]) ++ bodyT ls) := Lib.hid (by unfold wholeT; simp)
  have hcat := cat_run ⟨(headT word keys.length (endsI keys).1 (endsI keys).2 (sumOf (bodyT ls)) ++ [10]).toArray⟩ ⟨(bodyT ls).toArray⟩ (headT word keys.length (endsI keys).1 (endsI keys).2 (sumOf (bodyT ls)) ++ [10]).length (bodyT ls).length rfl rfl (by rw [List.length_append]; simp only [List.length_cons, List.length_nil]; omega)
  rw [S_app] at hcat
  rw [HWh.out]
  have HE0 : Hid (keys = [] → (endsI keys).1 = 0 ∧ (endsI keys).2 = 0) := Lib.hid fun h => by rw [h]; exact ⟨rfl, rfl⟩
  have HB0 : Hid (ls = [] → bodyT ls = []) := Lib.hid fun h => by rw [h]; rfl
  have HBj : Hid (ls ≠ [] → bodyT ls = joinC 10 ls ++ [10]) := Lib.hid bodyT_join
  clear HWh hsl hhl
  generalize headT word keys.length (endsI keys).1 (endsI keys).2 (sumOf (bodyT ls)) ++ [10] = hd at *
  obtain ⟨lo, hlo⟩ : ∃ lo, (endsI keys).1 = lo := ⟨_, rfl⟩
  obtain ⟨hi, hhi⟩ : ∃ hi, (endsI keys).2 = hi := ⟨_, rfl⟩
  simp only [hlo, hhi] at HHd HMin HMax HE0
  clear hlo hhi hend hk hl
  obtain ⟨body, hbody⟩ : ∃ body, bodyT ls = body := ⟨_, rfl⟩
  rw [hbody] at HHd HB0 HBj hcat hb ⊢
  clear hbody
  have hlens : Hid (ls ≠ [] → (joinC 10 ls).length ≤ 1000000) := Lib.hid fun h => by
    have := congrArg List.length (HBj.out h)
    rw [List.length_append] at this
    omega
  have HJn := Lib.hid (fun (h0 : ls ≠ []) W (h : Below w.heap.size w W) => join_any 10 _ ls W (X.out W h).2.2 (by omega) (hlens.out h0))
  have hj : ls ≠ [] → ∀ w, (Op.stringOp .add ⟨(joinC 10 ls).toArray⟩ ⟨#[10]⟩).run Tryz.prog w = .ok (S body) w := fun h0 => by
    have := cat_run ⟨(joinC 10 ls).toArray⟩ ⟨#[10]⟩ (joinC 10 ls).length 1 rfl rfl (by have := congrArg List.length (HBj.out h0); rw [List.length_append] at this; simp only [List.length_cons, List.length_nil] at this; omega)
    have e := S_app (joinC 10 ls) [10]
    rw [← HBj.out h0] at e
    have e' : (⟨(joinC 10 ls).toArray⟩ : ByteArray) ++ ⟨#[10]⟩ = ⟨body.toArray⟩ := e
    rwa [e'] at this
  have HJ := Lib.hid hj
  clear hj HBj hlens
  generalize joinC 10 ls = js at *
  by_cases hk0 : keys = []
  case' pos =>
    obtain ⟨rfl, rfl⟩ := HE0.out hk0
    have f1 : decide ((0 : Int) < (keys.length : Int)) = false := by rw [hk0]; rfl
    have f1' : decide (0 < keys.length) = false := by rw [hk0]; rfl
    clear hk0
    go_enter Tryz.func43, Tryz.ntmps43
    go_upto_region 4 with fail
  case' neg =>
    have hkp : 0 < keys.length := List.length_pos_iff.2 hk0
    have f1 : (0 : Int) < (keys.length : Int) := by omega
    have HMi := Lib.hid (HMin.out hk0 w (Below.refl _ _))
    have HMa := Lib.hid (HMax.out hk0 w (Below.refl _ _))
    clear hk0
    go_enter Tryz.func43, Tryz.ntmps43
    go_wp2_with fail
    refine HMi.out.mono ?_
    rintro e w1 ⟨rfl, rfl⟩
    go_wp2_with fail
    refine HMa.out.mono ?_
    rintro e w1 ⟨rfl, rfl⟩
    go_upto_region 4 with fail
  all_goals
    by_cases hl0 : ls = []
    case' pos =>
      have f2 : decide ((0 : Int) < (ls.length : Int)) = false := by rw [hl0]; rfl
      have f2' : decide (0 < ls.length) = false := by rw [hl0]; rfl
      obtain rfl := HB0.out hl0
      have hbw : Below w.heap.size w w := Below.refl _ _
      clear hl0
      go_wp2_with fail
    case' neg =>
      have hlp : 0 < ls.length := List.length_pos_iff.2 hl0
      have f2 : (0 : Int) < (ls.length : Int) := by omega
      have HJo := Lib.hid (HJn.out hl0 w (Below.refl _ _))
      have hjr := HJ.out hl0
      clear hl0
      go_wp2_with fail
      refine HJo.out.mono ?_
      rintro e w2 ⟨rfl, hbw⟩
      go_wp2_with fail
    all_goals
      refine (HHd.out _ hbw).mono ?_
      rintro e w3 ⟨rfl, hb3⟩
      go_wp2_with fail
      go_ret
      exact ⟨by first | rfl | (rw [List.append_nil]; rfl), hbw.trans (hb3.mono hbw.size)⟩
end Go.Proofs.YtefoaeamfkbgbaaGreatDoor
namespace Go.Proofs.YtefoaeamfkbgbaaGreatDoor
open Go.RowKit

theorem cut1_any (c : UInt8) (B : Nat) (s : Str) (w : World) (hM : LMax B w) (hs : s.length ≤ 100000) :
    Calls Tryz.prog 165 #[S s, .string ⟨#[c]⟩] w fun e w' => e = .returned (.tuple #[S (Lib.cut s [c]).1, S (Lib.cut s [c]).2.1, .bool (Lib.cut s [c]).2.2]) ∧ Below w.heap.size w w' := by
  obtain ⟨m, hm⟩ := hM.max
  refine (Tryz.strings_Cut ⟨s.toArray⟩ ⟨#[c]⟩ m w (by show s.toArray.size < _; simp; omega) hm).mono ?_
  rintro e w' ⟨rfl, n, rfl⟩
  exact ⟨rfl, Bdn (Below.refl _ _) n⟩
end Go.Proofs.YtefoaeamfkbgbaaGreatDoor
namespace Go.Proofs.YtefoaeamfkbgbaaGreatDoor
open Go.RowKit

def erOf (c : Nat) : Er := if c = 0 then .nil else .bare c
theorem fileRead_none {s : Str} (h : fileOf (cutAt 32 s) = none) : fileRead s = (zeroF, 1) := by unfold fileRead; rw [h]
theorem fileRead_some {s : Str} {f : Fl} (h : fileOf (cutAt 32 s) = some f) : fileRead s = if checkF f = 0 then (f, 0) else (zeroF, checkF f) := by unfold fileRead; rw [h]
theorem fileOf_len {l : List Str} (h : l.length ≠ 6) : fileOf l = none := by
  unfold fileOf
  split
  · exact absurd rfl h
  · rfl
theorem six_strs {l : List Str} (h : l.length = 6) : ∃ p q a b c d, l = [p, q, a, b, c, d] := by
  match l, h with
  | [p, q, a, b, c, d], _ => exact ⟨p, q, a, b, c, d, rfl⟩
theorem four_ints {l : List Int} (h : l.length = 4) : ∃ a b c d, l = [a, b, c, d] := by
  match l, h with
  | [a, b, c, d], _ => exact ⟨a, b, c, d, rfl⟩

end Go.Proofs.YtefoaeamfkbgbaaGreatDoor
