/- Files in memory; a path's number; a part; a file's check. Lists of files: the statements' own helpers: OwnFiles, LongFile, LongFiles. slices.Clone, Delete at []api.File. The shelf's contracts that the walks of this seat use, in plain declarations (written by the kit's tool, trimmed by a program). file.Check; list.Compare; list.Check. cmp.Or at int; list.Compare. A function value that answers by a plain predicate. The library's generic functions at []api.File: IndexFunc, Clone, Delete, Insert, BinarySearchFunc. list.Check. strings.Builder: WriteString and String, laid at this program by hand (the tool passes over copyCheck, whose body here names no text). file.Text; list.Text. data.Head, data.Whole, data.Fits: the walks; slices.Min, slices.Max, strings.Join as they use them. slices.Grow at the nil slice of texts, slices.Concat of two slices of texts; strings.Cut by one byte. file.Read: the walk. -/
import Derived.Test.YtpfohfihkmjnaaaGreatDoorP5
import Derived.Test.YtpfohfihkmjnaaaGreatDoorP7
import Derived.Test.YtpfohfihkmjnaaaGreatDoorP2
import Derived.Test.YtpfohfihkmjnaaaGreatDoorP3
import Derived.Shelf.Strings.SlTrimAscii
import Derived.Lib.AppendZeros
import Derived.Deep.RegionLaw
import Derived.Shelf.Strings.Trim
import Derived.Shelf.Small.Utf8
import Derived.Shelf.Small.Bits
import Derived.Shelf.Small.Strs
import Derived.Shelf.Small.Wraps
import Derived.Shelf.Utf8.RuneCount
import Derived.Shelf.Strconv.Atoi
import Derived.Shelf.Strconv.Itoa0
import Derived.Shelf.Strconv.Itoa1
import Derived.Shelf.LaysM
import Derived.Shelf.Strconv.Itoa2
import Derived.Shelf.Strconv.Itoa3
import Derived.Shelf.Strconv.AtoiErrFast
import Derived.Shelf.Strconv.ParseIntEmpty
import Derived.Shelf.Strconv.AtoiFail
import Derived.Shelf.Strconv.Clone
import Derived.Shelf.Strconv.SyntaxError
import Derived.Shelf.LaysC
import Derived.Shelf.Strconv.ToError
import Derived.Shelf.Strconv.Lower
import Derived.Shelf.Strconv.ParseUint10
import Derived.Shelf.Strconv.ParseUint10Empty
import Derived.Shelf.Strconv.ParseUint10Any
import Derived.Shelf.Strconv.ParseInt10
import Derived.Shelf.Strconv.AtoiLong
import Derived.Shelf.Strconv.AtoiInnerAll
import Derived.Shelf.Strconv.RangeError
import Derived.Shelf.Strconv.ToErrorRange
import Derived.Shelf.Strconv.AtoiAll
import Derived.Shelf.Strconv.ErrVarAll
import Derived.Shelf.Strconv.ParseUintEmpty
import Derived.Shelf.Strconv.ParseUint10b64
import Derived.Shelf.Strconv.ParseUint10b32
import Derived.Shelf.Strconv.ParseUint10b16
import Derived.Shelf.Strconv.ParseUint10b8
import Derived.Shelf.Strings.Search1
import Derived.Shelf.Strings.Search2
import Derived.Shelf.Strings.Search3
import Derived.Shelf.Strings.Cut
import Derived.Shelf.Strings.Count
import Derived.Shelf.Strings.Shaped
import Derived.Shelf.Strings.Split
import Derived.Shelf.Strings.SplitShaped
import Derived.Shelf.Unicode.Decode
import Derived.Shelf.Strings.Runes
import Derived.Shelf.Strings.RuneCount
import Derived.Shelf.Strings.AsciiSet
import Derived.Shelf.Strings.Explode
import Derived.Shelf.Unicode.DecodeSlow
import Derived.Shelf.Unicode.DecodeAny
import Derived.Shelf.Unicode.DecodeLast
import Derived.Shelf.Slices.Turned
import Derived.Ground.Names2Prog
import Derived.Shelf.Slices.SearchI
import Derived.Shelf.Slices.Empties
import Derived.Test.YtpfohfihkmjnaaaGreatDoorProg
import Derived.Outline
import Derived.Test.YtpfohfihkmjnaaaGreatDoorP1
import Derived.Deep.RegionHeld3
import Derived.Shelf.Strings.Builder1
import Derived.Test.YtpfohfihkmjnaaaGreatDoorP6
namespace Go.Proofs.YtpfohfihkmjnaaaGreatDoor
open Go.RowKit

abbrev encF (f : Fl) : List Value := [S f.path, S f.part, .int .i64 f.n, .int .i64 f.lo, .int .i64 f.hi, .int .i64 f.seq]
theorem encF_enc : Enc encF 6 := fun x => ⟨rfl, by simp [Value.oneCell']⟩
abbrev FilesAt (w : World) (v : Value) (l : List Fl) : Prop := At encF 6 w v l
theorem szFl (w : World) : (sizeOf 43).run Tryz.prog w = .ok 6 w := by kernel_rfl
theorem elFl : ElemInfo Tryz.prog 23 43 6 64 := elemInfo_of Tryz.underlying23 (z := .agg #[.string ByteArray.empty, .string ByteArray.empty, .int .i64 0, .int .i64 0, .int .i64 0, .int .i64 0]) (by kernel_rfl) rfl (by decide)
abbrev fileV (f : Fl) : Value := .agg #[S f.path, S f.part, .int .i64 f.n, .int .i64 f.lo, .int .i64 f.hi, .int .i64 f.seq]
abbrev fileO (f : Fl) : Obj := .cells #[S f.path, S f.part, .int .i64 f.n, .int .i64 f.lo, .int .i64 f.hi, .int .i64 f.seq] 43

theorem cutSl_any (B : Nat) (s : Str) (w : World) (hM : LMax B w) (hs : s.length ≤ 100000) :
    Calls Tryz.prog 168 #[S s, .string ⟨#[47]⟩] w fun e w' => e = .returned (.tuple #[S (Lib.cut s [47]).1, S (Lib.cut s [47]).2.1, .bool (Lib.cut s [47]).2.2]) ∧ Below w.heap.size w w' := by
  obtain ⟨m, hm⟩ := hM.max
  refine (Tryz.strings_Cut ⟨s.toArray⟩ ⟨#[47]⟩ m w (by show s.toArray.size < _; simp; omega) hm).mono ?_
  rintro e w' ⟨rfl, n, rfl⟩
  exact ⟨rfl, Bdn (Below.refl _ _) n⟩
theorem cut_len (s sep : Str) : (Lib.cut s sep).1.length ≤ s.length ∧ (Lib.cut s sep).2.1.length ≤ s.length := by
  unfold Lib.cut
  split
  · simp; omega
  · simp

set_option maxRecDepth 20000 in
theorem fileNumber_any (E : Nat → Addr) (B : Nat) (p : Str) (w : World) (hE : Errs [5] E B w) (hT : LNum B w) (hM : LMax B w) (hs : p.length ≤ 100000) :
    Calls Tryz.prog 125 #[S p] w fun e w' => ∃ ev, e = .returned (.tuple #[S (kindF p), .int .i64 (numF p), ev]) ∧ ErV E w' ev (if (pathF p).isSome then .nil else .bare 5) ∧ Below w.heap.size w w' := by
  have hcl := (cut_len p [47]).2
  have hpf : pathF p = if (Lib.cut p [47]).2.2 = true ∧ ((Lib.cut p [47]).1 = kData ∨ (Lib.cut p [47]).1 = kGone) then
    (numOf (Lib.cut p [47]).2.1).bind fun n => if n < 1 ∨ 1073741824 < n then none else some ((Lib.cut p [47]).1, n) else none := rfl
  have hk : kindF p = ((pathF p).getD ([], 0)).1 := rfl
  have hn : numF p = ((pathF p).getD ([], 0)).2 := rfl
  have hcut := cutSl_any B p w hM hs
  generalize (Lib.cut p [47]).1 = k at *
  generalize (Lib.cut p [47]).2.1 = d at *
  generalize (Lib.cut p [47]).2.2 = is at *
  generalize pathF p = pf at *
  have hE1 := fun w1 (hb : Below w.heap.size w w1) => (hE.below' hb hE.le).var 5 (by decide)
  simp only [errG] at hE1
  have HE1 := Lib.hid hE1
  clear hE1
  have HK := Lib.hid hk; have HN := Lib.hid hn; have HP := Lib.hid hpf; have HC := Lib.hid hcut
  clear hk hn hpf hcut
  go_enter Tryz.func125, Tryz.ntmps125
  go_wp2_with fail
  refine HC.out.mono ?_
  rintro e w1 ⟨rfl, hb1⟩
  go_wp2_with fail
  refine (number_any B d _ (hT.below' hb1 hT.le) (by omega)).mono ?_
  rintro e w2 ⟨rfl, hb2⟩
  have hb2' := hb1.trans (hb2.mono hb1.size)
  have v5 := HE1.out _ hb2'
  obtain ⟨m, hm⟩ : ∃ m, atoiN d = m := ⟨_, rfl⟩
  obtain ⟨o, ho⟩ : ∃ o, numOf d = o := ⟨_, rfl⟩
  have hom : ∀ n, o = some n → m = n := fun n h => by rw [← hm, ← numOf_atoiN (ho.trans h)]
  rw [hm, ho]
  have HO := Lib.hid ho
  clear hm ho hb1 hb2
  cases is with
  | false =>
    have hp : pf = none := by rw [HP.out]; simp
    subst hp
    have HK' := Lib.hid (HK.out.trans rfl); have HN' := Lib.hid (HN.out.trans rfl)
    clear hom
    go_wp2_with fail
    go_quiet (fail)
    go_wp2_with fail
    go_ret3
    exact ⟨_, by rw [HK'.out, HN'.out]; rfl, ⟨by decide, rfl⟩, Bdn hb2' _⟩
  | true =>
    by_cases hk1 : k = kData ∨ k = kGone
    case neg =>
      have g1 : (k == kData) = false := by simp only [beq_eq_false_iff_ne]; exact fun e => hk1 (.inl e)
      have g2 : (k == kGone) = false := by simp only [beq_eq_false_iff_ne]; exact fun e => hk1 (.inr e)
      have hp : pf = none := by rw [HP.out, if_neg (fun h => hk1 h.2)]
      subst hp
      clear hom hk1
      have HK' := Lib.hid (HK.out.trans rfl); have HN' := Lib.hid (HN.out.trans rfl)
      go_wp2_with fail
      go_quiet (fail)
      go_wp2_with fail
      go_ret3
      exact ⟨_, by rw [HK'.out, HN'.out]; rfl, ⟨by decide, rfl⟩, Bdn hb2' _⟩
    have hp0 : pf = o.bind fun n => if n < 1 ∨ 1073741824 < n then none else some (k, n) := by rw [HP.out, if_pos ⟨rfl, hk1⟩, HO.out]
    have HP0 := Lib.hid hp0
    have hkk : k.length ≤ 4 := by rcases hk1 with rfl | rfl <;> decide
    rcases hk1 with rfl | rfl
    all_goals
      clear hp0
      cases o with
      | none =>
        have hp : pf = none := by rw [HP0.out]; rfl
        subst hp
        clear hom
        have HK' := Lib.hid (HK.out.trans rfl); have HN' := Lib.hid (HN.out.trans rfl)
        go_wp2_with fail
        go_quiet (fail)
        go_wp2_with fail
        go_ret3
        exact ⟨_, by rw [HK'.out, HN'.out]; rfl, ⟨by decide, rfl⟩, Bdn hb2' _⟩
      | some n =>
        obtain rfl : m = n := hom n rfl
        clear hom
        by_cases h1 : m < 1
        case pos =>
          have hp : pf = none := by rw [HP0.out, Option.bind_some, if_pos (.inl h1)]
          subst hp
          have HK' := Lib.hid (HK.out.trans rfl); have HN' := Lib.hid (HN.out.trans rfl)
          go_wp2_with fail
          go_quiet (fail)
          go_wp2_with fail
          go_ret3
          exact ⟨_, by rw [HK'.out, HN'.out]; rfl, ⟨by decide, rfl⟩, Bdn hb2' _⟩
        by_cases h2 : 1073741824 < m
        case pos =>
          have hp : pf = none := by rw [HP0.out, Option.bind_some, if_pos (.inr h2)]
          subst hp
          have g1 : decide (m < 1) = false := by simpa using h1
          have HK' := Lib.hid (HK.out.trans rfl); have HN' := Lib.hid (HN.out.trans rfl)
          go_wp2_with fail
          go_quiet (fail)
          go_wp2_with fail
          go_ret3
          exact ⟨_, by rw [HK'.out, HN'.out]; rfl, ⟨by decide, rfl⟩, Bdn hb2' _⟩
        have hp := HP0.out
        rw [Option.bind_some, if_neg (by omega)] at hp
        subst hp
        have g1 : decide (m < 1) = false := by simpa using h1
        have g2 : decide (1073741824 < m) = false := by simpa using h2
        have HK' := Lib.hid (HK.out.trans rfl); have HN' := Lib.hid (HN.out.trans rfl)
        go_wp2_with fail
        go_ret3
        exact ⟨_, by rw [HK'.out, HN'.out]; rfl, rfl, hb2'⟩

theorem trimPart_any (s : Str) (w : World) (hs : s.length ≤ 100000) :
    Calls Tryz.prog 123 #[S s, .string ⟨#[97, 98, 99, 100, 101, 102, 103, 104, 105, 106, 107, 108, 109, 110, 111, 112, 113, 114, 115, 116, 117, 118, 119, 120, 121, 122, 48, 49, 50, 51, 52, 53, 54, 55, 56, 57]⟩] w
      fun e w' => e = .returned (S (Lib.trimS s partSigns)) ∧ Below w.heap.size w w' := by
  have h := Any.strings_Trim_laid Tryz.lays160 (by kernel_rfl) ⟨s.toArray⟩ ⟨partSigns.toArray⟩ w (by simp [ByteArray.size]; omega) (by decide) (ascii_of_all (by decide))
  exact h
set_option maxRecDepth 20000 in
theorem part_any (k s : Str) (w : World) (hs : s.length ≤ 100000) :
    Calls Tryz.prog 126 #[S k, S s] w fun e w' => e = .returned (.bool (partOk k s)) ∧ Below w.heap.size w w' := by
  unfold partOk
  by_cases hk : k = kGone
  · subst hk
    rw [if_pos rfl]
    go_enter Tryz.func126, Tryz.ntmps126
    go_wp2_with fail
    go_ret
    exact ⟨rfl, Below.refl _ _⟩
  rw [if_neg hk]
  have gk : (k == kGone) = false := by simpa using hk
  by_cases h0 : s = []
  · subst h0
    go_enter Tryz.func126, Tryz.ntmps126
    go_wp2_with fail
    go_ret
    exact ⟨rfl, Below.refl _ _⟩
  have g0 : (!s.isEmpty) = true := by simpa using h0
  have e0 : decide (s ≠ []) = true := by simpa using h0
  rw [e0, Bool.true_and]
  by_cases h1 : s.length ≤ 12
  · have g1 : decide ((s.length : Int) ≤ 12) = true := by simp; omega
    have g2 : (s.length : Int) ≤ 12 := by omega
    have e1 : decide (s.length ≤ 12) = true := by simpa using h1
    rw [e1, Bool.true_and]
    go_enter Tryz.func126, Tryz.ntmps126
    go_wp2_with fail
    refine (trimPart_any s _ hs).mono ?_
    rintro e w1 ⟨rfl, hb1⟩
    have hT : (Lib.trimS s partSigns).isEmpty = s.all (fun b => partSigns.contains b) := by
      rw [Bool.eq_iff_iff, List.isEmpty_iff, trimS_nilP]
    have HT := Lib.hid hT; clear hT
    generalize Lib.trimS s partSigns = T at *
    go_wp2_with fail
    go_ret
    exact ⟨ret_bool (by first | exact HT.out | (rw [← HT.out]; cases T <;> rfl)), hb1⟩
  · have g1 : decide ((s.length : Int) ≤ 12) = false := by simp; omega
    have e1 : decide (s.length ≤ 12) = false := by simpa using h1
    rw [e1, Bool.false_and]
    go_enter Tryz.func126, Tryz.ntmps126
    go_wp2_with fail
    go_ret
    exact ⟨rfl, Below.refl _ _⟩
theorem far_any (n : Int) (w : World) :
    Calls Tryz.prog 127 #[.int .i64 n] w fun e w' => e = .returned (.bool (decide (farN n))) ∧ w = w' := by
  by_cases h1 : n < -1073741824
  · have g : decide (farN n) = true := decide_eq_true (.inl h1)
    rw [g]
    clear g
    go_enter Tryz.func127, Tryz.ntmps127
    go_wp2_with fail
    go_ret
    exact ⟨rfl, rfl⟩
  · have g1 : decide (n < -1073741824) = false := by simpa using h1
    by_cases h2 : 1073741824 < n
    · have g : decide (farN n) = true := decide_eq_true (.inr h2)
      rw [g]
      clear g h1
      go_enter Tryz.func127, Tryz.ntmps127
      go_wp2_with fail
      go_ret
      exact ⟨rfl, rfl⟩
    · have g : decide (farN n) = false := decide_eq_false (fun h => h.elim h1 h2)
      have g2 : decide (1073741824 < n) = false := by simpa using h2
      rw [g]
      clear g h1 h2
      go_enter Tryz.func127, Tryz.ntmps127
      go_wp2_with fail
      go_ret
      exact ⟨rfl, rfl⟩
end Go.Proofs.YtpfohfihkmjnaaaGreatDoor
namespace Go.Proofs.YtpfohfihkmjnaaaGreatDoor
open Go.RowKit

theorem ownFiles_any (v : Value) (l : List Fl) (w : World) (hl : FilesAt w v l) (hn : l.length ≤ 100000) :
    Calls Tryz.prog 11 #[v] w fun e w' => ∃ v', e = .returned v' ∧ Own encF 43 6 w.heap.size w' v' l ∧ Below w.heap.size w w' := by
  have hs := hl.src encF_enc (by decide)
  go_enter Tryz.func11, Tryz.ntmps11
  go_wp2_with (at_builtin; refine wpList_app rfl _ _ _ rfl w.heap.size elFl (.slice none 0 0) 0 [] rfl (Own.nil encF _ 6 _ _) _ _ _ rfl hs (by unfold maxLen; omega) (by omega) (Nat.le_refl _) ?_; intro v' w1 hown hg _)
  go_ret
  exact ⟨_, rfl, by simpa [Own] using hown, (Below.refl _ _).grown hg (Nat.le_refl _) (fun k hk => by cases hk)⟩

def shortF (f : Fl) : Prop := f.path.length ≤ 30 ∧ f.part.length ≤ 30
instance (f : Fl) : Decidable (shortF f) := inferInstanceAs (Decidable (_ ∧ _))
def midF (f : Fl) : Prop := f.path.length ≤ 100000 ∧ f.part.length ≤ 100000
instance (f : Fl) : Decidable (midF f) := inferInstanceAs (Decidable (_ ∧ _))
theorem shortF.mid {f : Fl} (h : shortF f) : midF f := ⟨by have := h.1; omega, by have := h.2; omega⟩
set_option maxRecDepth 20000 in
theorem longFile_any (f : Fl) (w : World) :
    Calls Tryz.prog 63 #[fileV f] w fun e w' => e = .returned (.int .i64 (if shortF f then 0 else 1)) ∧ Below w.heap.size w w' := by
  have hb : Below w.heap.size w (w.alloc (fileO f)) := (Below.refl _ _).alloc (Nat.le_refl _) _
  by_cases h1 : f.path.length ≤ 30
  · have g1 : decide ((30 : Int) < (f.path.length : Int)) = false := by simp; omega
    by_cases h2 : f.part.length ≤ 30
    · rw [if_pos (show shortF f from ⟨h1, h2⟩)]
      have g2 : decide ((30 : Int) < (f.part.length : Int)) = false := by simp; omega
      go_enter Tryz.func63, Tryz.ntmps63
      go_wp2_with fail
      go_ret
      exact ⟨rfl, by first | exact hb | exact Below.refl _ _⟩
    · rw [if_neg (fun h : shortF f => h2 h.2)]
      have g2 : (30 : Int) < (f.part.length : Int) := by omega
      go_enter Tryz.func63, Tryz.ntmps63
      go_wp2_with fail
      go_ret
      exact ⟨rfl, by first | exact hb | exact Below.refl _ _⟩
  · rw [if_neg (fun h : shortF f => h1 h.1)]
    have g1 : (30 : Int) < (f.path.length : Int) := by omega
    go_enter Tryz.func63, Tryz.ntmps63
    go_wp2_with fail
    go_ret
    exact ⟨rfl, by first | exact hb | exact Below.refl _ _⟩

set_option maxRecDepth 20000 in
theorem longFiles_any (v : Value) (l : List Fl) (w : World) (hl : FilesAt w v l) :
    Calls Tryz.prog 21 #[v] w fun e w' => (e = .returned (.int .i64 1) ∨ (e = .returned (.int .i64 0) ∧ l.length ≤ 61 ∧ ∀ f ∈ l, shortF f)) ∧ Below w.heap.size w w' := by
  obtain ⟨a, c, b, o, rfl, ha, hc, hcm, hx⟩ := hl
  unfold maxLen at hcm
  by_cases h61 : l.length ≤ 40 ∨ l.length = 60 ∨ l.length = 61
  case neg =>
    have g1 : (40 : Int) < (l.length : Int) := by omega
    have g2 : ((l.length : Int) != 60) = true := by simp; omega
    have g3 : ((l.length : Int) != 61) = true := by simp; omega
    go_enter Tryz.func21, Tryz.ntmps21
    go_wp2_with fail
    go_ret
    exact ⟨.inl rfl, Below.refl _ _⟩
  have h61' : l.length ≤ 61 := by omega
  have hg : decide ((40 : Int) < (l.length : Int)) = false ∨ (decide ((40 : Int) < (l.length : Int)) = true ∧ (((l.length : Int) != 60) = false ∨ (((l.length : Int) != 60) = true ∧ ((l.length : Int) != 61) = false))) := by
    rcases h61 with h | h | h
    · exact .inl (by simp; omega)
    · exact .inr ⟨by simp; omega, .inl (by simp; omega)⟩
    · exact .inr ⟨by simp; omega, .inr ⟨by simp; omega, by simp; omega⟩⟩
  clear h61
  go_enter Tryz.func21, Tryz.ntmps21
  rcases hg with g1 | ⟨g1, g2 | ⟨g2, g3⟩⟩
  all_goals
    go_wp2_with fail
    go_loopw [3] (fun i wr => ∃ k : Nat, k ≤ l.length ∧ i = .int .i64 k ∧ Hid (∀ j < k, ∀ x, l[j]? = some x → shortF x) ∧ Below w.heap.size w wr) (fun i _ => l.length - (intOf i).toNat)
    case atStart => exact ⟨0, by omega, rfl, Lib.hid fun j hj => absurd hj (by omega), Below.refl _ _⟩
    case round =>
      obtain ⟨k, hk, rfl, hj, hb⟩ := hrel
      clear g1
      by_cases hlt : k < l.length
      case neg =>
        have f : decide ((k : Int) < (l.length : Int)) = false := by simp; omega
        go_wp2_with fail
        go_ret
        exact ⟨.inr ⟨rfl, h61', fun x hx => by
          obtain ⟨j, hj'⟩ := List.getElem?_of_mem hx
          exact hj.out j (by have := (List.getElem?_eq_some_iff.1 hj').1; omega) x hj'⟩, hb⟩
      obtain ⟨x, hxk⟩ := get_ex hlt
      have c0 := hx k x hxk 0 _ rfl
      have c1 := hx k x hxk 1 _ rfl
      have c2 := hx k x hxk 2 _ rfl
      have c3 := hx k x hxk 3 _ rfl
      have c4 := hx k x hxk 4 _ rfl
      have c5 := hx k x hxk 5 _ rfl
      have c0 := (hb.cell (World.block_lt_of_cell? w _ c0)).trans c0
      have c1 := (hb.cell (World.block_lt_of_cell? w _ c1)).trans c1
      have c2 := (hb.cell (World.block_lt_of_cell? w _ c2)).trans c2
      have c3 := (hb.cell (World.block_lt_of_cell? w _ c3)).trans c3
      have c4 := (hb.cell (World.block_lt_of_cell? w _ c4)).trans c4
      have c5 := (hb.cell (World.block_lt_of_cell? w _ c5)).trans c5
      have i1 := idx_at (c := c) 6 Tryz.underlying23 szFl ha k hlt
      have f : (k : Int) < (l.length : Int) := by omega
      simp only [Nat.add_zero] at c0
      have Hx := Lib.hid hxk; clear hxk
      go_wp2_with fail
      refine (longFile_any x _).mono ?_
      rintro e w1 ⟨rfl, hb1⟩
      have hb' := hb.trans (hb1.mono hb.size)
      by_cases e1 : shortF x
      · rw [if_pos e1]
        have K1 := Lib.hid e1; clear e1
        go_wp2_with fail
        refine ⟨⟨k + 1, by omega, by go_num, Lib.hid fun j hj' y hy => by
          rcases Nat.lt_or_ge j k with h | h
          · exact hj.out j h y hy
          · obtain rfl : j = k := by omega
            rw [Hx.out] at hy
            cases hy
            exact K1.out, hb'⟩, ?_⟩
        simp [intOf]; omega
      · rw [if_neg e1]
        clear e1
        go_wp2_with fail
        go_ret
        exact ⟨.inl rfl, hb'⟩
end Go.Proofs.YtpfohfihkmjnaaaGreatDoor
namespace Go.Proofs.YtpfohfihkmjnaaaGreatDoor
open Go.RowKit

theorem own_empty {α : Type} (enc : α → List Value) (e : TypeId) (sz B g : Nat) (w : World) (hB : B ≤ g) (hg : w.heap[g]? = some (.cells #[] e (0, 0))) : Own enc e sz B w (.slice (some ⟨g, 0, none⟩) 0 0) [] :=
  ⟨by simp, .inr ⟨g, 0, #[], rfl, hB, hg, Nat.le_refl _, Nat.zero_le _, by simp, by simp⟩⟩
theorem At.form' {α : Type} {enc : α → List Value} {sz : Nat} {w : World} {v : Value} {l : List α} (h : At enc sz w v l) : ∃ a c, v = .slice a l.length c ∧ (a = none → l = []) ∧ c ≤ maxLen := by
  obtain ⟨a, c, b, o, hv, ha, _, hm, _⟩ := h
  exact ⟨a, c, hv, fun h => List.eq_nil_of_length_eq_zero (by
    rcases Nat.eq_zero_or_pos l.length with h0 | h0
    · exact h0
    · have := ha h0; rw [h] at this; cases this), hm⟩

set_option maxRecDepth 20000 in
theorem cloneF_any (v : Value) (l : List Fl) (w : World) (hl : FilesAt w v l) (hn : l.length ≤ 100000) :
    Calls Tryz.prog 57 #[v] w fun e w' => ∃ v', e = .returned v' ∧ Own encF 43 6 w.heap.size w' v' l ∧ Below w.heap.size w w' := by
  obtain ⟨a, c, rfl, hnil, hcm⟩ := hl.form'
  have hq := fun w' => Lib.run_eql_slice_nil (P := Tryz.prog) w' 23 43 a l.length c 0 0 Tryz.underlying23
  cases a with
  | none =>
    obtain rfl := hnil rfl
    simp only [Option.isNone_none, List.length_nil] at hq
    go_enter Tryz.func57, Tryz.ntmps57
    go_wp2_with fail
    go_ret
    exact ⟨_, rfl, Own.nil _ _ _ _ _, Below.refl _ _⟩
  | some ad =>
    simp only [Option.isNone_some] at hq
    have hba : Below w.heap.size w (w.alloc (.cells #[] 43)) := (Below.refl _ _).alloc (Nat.le_refl _) _
    have hs := (hl.below hba).src encF_enc (by decide)
    have ho : Own encF 43 6 w.heap.size (w.alloc (.cells #[] 43)) (.slice (some ⟨w.heap.size, 0, none⟩) 0 0) [] := own_empty encF _ 6 _ _ _ (Nat.le_refl _) (heap_alloc_new w _)
    go_enter Tryz.func57, Tryz.ntmps57
    go_wp2_with (at_builtin; refine wpList_app rfl _ _ _ rfl w.heap.size elFl (.slice (some ⟨w.heap.size, 0, none⟩) 0 0) 0 [] rfl ho _ _ _ rfl hs (by unfold maxLen; omega) (by omega) (by simp) ?_; intro v' w1 hown hg _)
    go_ret
    exact ⟨_, rfl, by simpa [Own] using hown, hba.grown hg (by simp) (fun k hk => by cases hk; exact Nat.le_refl _)⟩

theorem flZero : (Tryz.prog.info? 43).bind (·.zero) = some (.agg #[.string ByteArray.empty, .string ByteArray.empty, .int .i64 0, .int .i64 0, .int .i64 0, .int .i64 0]) := by kernel_rfl
theorem flZero1 : ∀ z, (Tryz.prog.info? 43).bind (·.zero) = some z → ∀ u ∈ z.cells.toList, u.oneCell' = true := by
  intro z hz u hu
  rw [flZero] at hz
  cases hz
  simp [Value.cells] at hu
  rcases hu with rfl | rfl <;> rfl
set_option maxRecDepth 20000 in
set_option maxHeartbeats 1000000 in
theorem deleteF_any (base : Nat) (v : Value) (l : List Fl) (k : Nat) (w : World) (hl : Own encF 43 6 base w v l) (hk : k < l.length) (hn : l.length ≤ 100000) (hB : base ≤ w.heap.size) :
    Calls Tryz.prog 62 #[v, .int .i64 k, .int .i64 ((k : Int) + 1)] w fun e w' => ∃ v', e = .returned v' ∧ Own encF 43 6 base w' v' (l.take k ++ l.drop (k + 1)) ∧ Below base w w' := by
  obtain ⟨g, cap, cur, rfl, hBg, hg, hcap, hm, hs, ht⟩ := hl.open (by omega)
  unfold maxLen at hm
  obtain ⟨r, hr⟩ : ∃ r, k + (l.length - (k + 1)) = r := ⟨_, rfl⟩
  have hct := hl.cut' encF_enc (k := k) (by omega)
  have hfr := hl.from encF_enc (k + 1)
  have hr1 : r + 1 ≤ l.length := by omega
  have hr2 : l.length ≤ r + 1 := by omega
  have HCT := Lib.hid hct
  have HFR := Lib.hid hfr
  have HR := Lib.hid hr
  have hlt : (l.take k).length = k := by rw [List.length_take]; omega
  have hld : ((l.drop (k + 1)).flatMap encF).length = (l.length - (k + 1)) * 6 := by rw [flat_length encF_enc, List.length_drop]
  have h1c : ∀ u ∈ (l.drop (k + 1)).flatMap encF, u.oneCell' = true := fun u hu => by
    obtain ⟨x, _, hux⟩ := List.mem_flatMap.1 hu
    exact (encF_enc x).2 u hux
  have HLT := Lib.hid hlt
  have HLD := Lib.hid hld
  have H1C := Lib.hid h1c
  have b1 : ((k : Int) == (k : Int) + 1) = false := beq_eq_false_iff_ne.2 (by omega)
  have b8 : (0 : Int) ≤ (k : Int) + 1 := by omega
  have b9 : (k : Int) ≤ (k : Int) + 1 := by omega
  have b2 : (k : Int) + 1 ≤ l.length := by omega
  have b3 : (l.length : Int) ≤ cap := by omega
  have b4 : ¬ (l.length = k) := by omega
  have b5 : (k : Int) + 1 ≤ cap := by omega
  have b6 : (k : Int) ≤ cap := by omega
  have b7 : (k : Int) ≤ l.length := by omega
  clear hct hfr hr hlt hld h1c hs ht hg
  go_enter Tryz.func62, Tryz.ntmps62
  by_cases hcj : cap = k + 1
  · subst hcj
    have hlk : l.length = k + 1 := by omega
    have hdn : l.drop (k + 1) = [] := List.drop_eq_nil_of_le (by omega)
    have HLK := Lib.hid hlk
    have HDN := Lib.hid hdn
    clear hlk hdn
    go_wp2_with fail
    go_region
    have ho1 : Own encF 43 6 base w.drew (.slice (some ⟨g, 0, none⟩) k (k + 1)) (l.take k ++ l.drop (k + 1)) := by
      rw [HDN.out, List.append_nil]
      exact HCT.out
    have hb1 : Below base w w.drew := (Below.refl base w).drew
    obtain ⟨cs, hrun, ho2⟩ := run_clear_behind (c := 1) elFl encF_enc flZero1 ho1 (m := l.length - k) (by have := HLK.out; omega) (by have := HLK.out; omega)
    have Ho2 := Lib.hid ho2
    have hcr : ¬ (k + 1 = k) := by omega
    clear ho2 ho1
    go_wp2_with fail
    go_ret
    exact ⟨_, rfl, Ho2.out, Bset hb1 hBg _⟩
  · go_wp2_with fail
    go_region_law ((refine step_fits rfl (.tmp 22) (.tmp 25) 23 rfl elFl base g k cap _ (by simp [Act.eval, Act.put]) (by have := HCT.out; unfold Own at this; rw [HLT.out] at this; exact this) ⟨g, (k + 1) * 6, none⟩ (l.length - (k + 1)) (cap - (k + 1)) r ((l.drop (k + 1)).flatMap encF) (by simp [Act.eval, Act.put]) HLD.out (by intro j u hu; rw [add_lit]; exact HFR.out j u hu) H1C.out (by omega) HR.out ?_; intro w1 h1 hg1))
    have ho1 : Own encF 43 6 base w1 (.slice (some ⟨g, 0, none⟩) r cap) (l.take k ++ l.drop (k + 1)) := by
      unfold Own
      have e : (l.take k ++ l.drop (k + 1)).length = r := by rw [List.length_append, HLT.out, List.length_drop]; exact HR.out
      rw [e, List.flatMap_append]
      exact h1
    have hb1 : Below base w w1 := (Below.refl base w).drew.grown hg1 hB (fun k' hk' => by cases hk'; exact hBg)
    obtain ⟨cs, hrun, ho2⟩ := run_clear_behind (c := cap - r) elFl encF_enc flZero1 ho1 (m := l.length - r) (by omega) (by omega)
    have Ho2 := Lib.hid ho2
    have hcr : ¬ (cap = r) := by omega
    have b10 : (r : Int) ≤ l.length := by omega
    clear ho2 ho1 h1 hg1
    go_wp2_with fail
    go_ret
    exact ⟨_, rfl, Ho2.out, Bset hb1 hBg _⟩

end Go.Proofs.YtpfohfihkmjnaaaGreatDoor
namespace Go.Proofs
end Go.Proofs
namespace Go.Proofs.YtpfohfihkmjnaaaGreatDoor
open Go.RowKit

theorem fileCells {w w1 w6 : World} {f : Fl} (hw : w1 = w.alloc (fileO f)) (h6 : Below w1.heap.size w1 w6) :
    w6.cell? ⟨w.heap.size, 0, none⟩ = some (S f.path) ∧ w6.cell? ⟨w.heap.size, 1, none⟩ = some (S f.part) ∧ w6.cell? ⟨w.heap.size, 2, none⟩ = some (.int .i64 f.n) ∧ w6.cell? ⟨w.heap.size, 3, none⟩ = some (.int .i64 f.lo) ∧ w6.cell? ⟨w.heap.size, 4, none⟩ = some (.int .i64 f.hi) ∧ w6.cell? ⟨w.heap.size, 5, none⟩ = some (.int .i64 f.seq) := by
  subst hw
  have h := heap_alloc_new w (.cells #[S f.path, S f.part, .int .i64 f.n, .int .i64 f.lo, .int .i64 f.hi, .int .i64 f.seq] 43)
  have h' := (h6.block w.heap.size (by simp)).trans h
  refine ⟨?_, ?_, ?_, ?_, ?_, ?_⟩ <;> (rw [cell_of_row w6 _ _ _ _ (0, 0) h']; rfl)

/-- A file's error. -/
def fileEr (f : Fl) : Er := if checkF f = 0 then .nil else .bare (checkF f)
theorem fileEr_nil {f : Fl} (h : checkF f = 0) : fileEr f = .nil := if_pos h
theorem fileEr_bad {f : Fl} {c : Nat} (h : checkF f = c) (h0 : c ≠ 0) : fileEr f = .bare c := by unfold fileEr; rw [if_neg (by omega), h]
theorem fileEr_iff {f : Fl} : fileEr f = .nil ↔ checkF f = 0 := by
  unfold fileEr; split
  · simp [*]
  · simp [*]
theorem checkF_none {f : Fl} (h : pathF f.path = none) : checkF f = 5 := by unfold checkF; rw [if_pos h]
theorem checkF_part {f : Fl} {kn} (h : pathF f.path = some kn) (h2 : partOk (kindF f.path) f.part = false) : checkF f = 4 := by unfold checkF; rw [if_neg (by rw [h]; simp), if_pos h2]
theorem checkF_bound {f : Fl} {kn} (h : pathF f.path = some kn) (h2 : partOk (kindF f.path) f.part = true) (h3 : boundF f) : checkF f = 2 := by unfold checkF; rw [if_neg (by rw [h]; simp), if_neg (by rw [h2]; decide), if_pos h3]
theorem checkF_right {f : Fl} {kn} (h : pathF f.path = some kn) (h2 : partOk (kindF f.path) f.part = true) (h3 : ¬ boundF f) : checkF f = 0 := by unfold checkF; rw [if_neg (by rw [h]; simp), if_neg (by rw [h2]; decide), if_neg h3]

set_option maxHeartbeats 2000000 in
set_option maxRecDepth 20000 in
theorem fileCheck_any (E : Nat → Addr) (B : Nat) (f : Fl) (w : World) (hE : Errs [2, 4, 5] E B w) (hT : LNum B w) (hM : LMax B w) (hs : midF f) :
    Calls Tryz.prog 89 #[fileV f] w fun e w' => ∃ ev, e = .returned ev ∧ ErV E w' ev (fileEr f) ∧ Below w.heap.size w w' := by
  have hBw := hE.le
  obtain ⟨hs1, hs2⟩ := hs
  have hb0 : Below w.heap.size w (w.alloc (.cells #[S f.path, S f.part, .int .i64 f.n, .int .i64 f.lo, .int .i64 f.hi, .int .i64 f.seq] 43)) := (Below.refl _ _).alloc (Nat.le_refl _) _
  have Cs := Lib.hid (fun w6 (h : Below (w.alloc (.cells #[S f.path, S f.part, .int .i64 f.n, .int .i64 f.lo, .int .i64 f.hi, .int .i64 f.seq] 43)).heap.size (w.alloc (.cells #[S f.path, S f.part, .int .i64 f.n, .int .i64 f.lo, .int .i64 f.hi, .int .i64 f.seq] 43)) w6) => fileCells rfl h)
  have hE1 := hE.below' hb0 hE.le; have hT1 := hT.below' hb0 hE.le; have hM1 := hM.below' hb0 hE.le
  have V0 := fun w6 (h : Below (w.alloc (.cells #[S f.path, S f.part, .int .i64 f.n, .int .i64 f.lo, .int .i64 f.hi, .int .i64 f.seq] 43)).heap.size (w.alloc (.cells #[S f.path, S f.part, .int .i64 f.n, .int .i64 f.lo, .int .i64 f.hi, .int .i64 f.seq] 43)) w6) => (⟨(hE1.below' h hE1.le).var 2 (by decide), (hE1.below' h hE1.le).var 4 (by decide)⟩ : _ ∧ _)
  simp only [errG] at V0
  have V := Lib.hid V0
  clear V0
  obtain ⟨c0, c1, c2, c3, c4, c5⟩ := Cs.out _ (Below.refl _ _)
  go_enter Tryz.func89, Tryz.ntmps89
  go_wp2_with fail
  generalize w.alloc (.cells #[S f.path, S f.part, .int .i64 f.n, .int .i64 f.lo, .int .i64 f.hi, .int .i64 f.seq] 43) = w1 at *
  refine (fileNumber_any E B f.path _ (hE1.sub (by decide)) hT1 hM1 (by omega)).mono ?_
  rintro e w2 ⟨ev, rfl, hev, hb2⟩
  clear c0 c1 c2 c3 c4 c5
  obtain ⟨c0, c1, c2, c3, c4, c5⟩ := Cs.out w2 hb2
  have hb2' := hb0.trans (hb2.mono hb0.size)
  cases hpf : pathF f.path with
  | none =>
    rw [hpf] at hev
    obtain ⟨-, rfl⟩ := hev
    have HF := Lib.hid (fileEr_bad (checkF_none hpf) (by decide))
    clear hpf
    go_wp2_with fail
    go_ret
    exact ⟨_, rfl, by rw [HF.out]; exact ⟨by decide, rfl⟩, hb2'⟩
  | some kn =>
    rw [hpf] at hev
    obtain rfl : ev = .nilIface := hev
    have HP := Lib.hid hpf
    clear hpf
    go_wp2_with fail
    refine (part_any (kindF f.path) f.part _ (by omega)).mono ?_
    rintro e w3 ⟨rfl, hb3⟩
    have hb3' := hb2.trans (hb3.mono hb2.size)
    have hb3w := hb2'.trans (hb3.mono hb2'.size)
    clear c0 c1 c2 c3 c4 c5
    obtain ⟨c0, c1, c2, c3, c4, c5⟩ := Cs.out w3 hb3'
    obtain ⟨v2, v4⟩ := V.out w3 hb3'
    generalize hpk : partOk (kindF f.path) f.part = pk
    have HK := Lib.hid hpk
    clear hpk hb2 hb3 hb2' hb3'
    cases pk with
    | false =>
      have HF := Lib.hid (fileEr_bad (checkF_part HP.out HK.out) (by decide))
      go_wp2_with fail
      go_ret
      exact ⟨_, rfl, by rw [HF.out]; exact ⟨by decide, rfl⟩, hb3w⟩
    | true =>
      by_cases b1 : f.n < 1
      · have HF := Lib.hid (fileEr_bad (checkF_bound HP.out HK.out (.inl b1)) (by decide))
        go_wp2_with fail
        go_ret
        exact ⟨_, rfl, by rw [HF.out]; exact ⟨by decide, rfl⟩, hb3w⟩
      have g1 : decide (f.n < 1) = false := by simpa using b1
      by_cases b2 : 40 < f.n
      · have HF := Lib.hid (fileEr_bad (checkF_bound HP.out HK.out (.inr (.inl b2))) (by decide))
        clear b1
        go_wp2_with fail
        go_ret
        exact ⟨_, rfl, by rw [HF.out]; exact ⟨by decide, rfl⟩, hb3w⟩
      have g2 : decide (40 < f.n) = false := by simpa using b2
      have B12 := Lib.hid (⟨b1, b2⟩ : _ ∧ _)
      clear b1 b2
      go_wp2_with fail
      refine (far_any f.lo _).mono ?_
      rintro e w4 ⟨rfl, rfl⟩
      by_cases b3 : farN f.lo
      · have HF := Lib.hid (fileEr_bad (checkF_bound HP.out HK.out (.inr (.inr (.inl b3)))) (by decide))
        rw [decide_eq_true b3]
        clear b3
        go_wp2_with fail
        go_ret
        exact ⟨_, rfl, by rw [HF.out]; exact ⟨by decide, rfl⟩, hb3w⟩
      rw [decide_eq_false b3]
      have B3 := Lib.hid b3
      clear b3
      go_wp2_with fail
      refine (far_any f.hi _).mono ?_
      rintro e w4 ⟨rfl, rfl⟩
      by_cases b4 : farN f.hi
      · have HF := Lib.hid (fileEr_bad (checkF_bound HP.out HK.out (.inr (.inr (.inr (.inl b4))))) (by decide))
        rw [decide_eq_true b4]
        clear b4
        go_wp2_with fail
        go_ret
        exact ⟨_, rfl, by rw [HF.out]; exact ⟨by decide, rfl⟩, hb3w⟩
      rw [decide_eq_false b4]
      have B4 := Lib.hid b4
      clear b4
      by_cases b5 : f.hi < f.lo
      · have HF := Lib.hid (fileEr_bad (checkF_bound HP.out HK.out (.inr (.inr (.inr (.inr (.inl b5)))))) (by decide))
        go_wp2_with fail
        go_ret
        exact ⟨_, rfl, by rw [HF.out]; exact ⟨by decide, rfl⟩, hb3w⟩
      have g5 : decide (f.hi < f.lo) = false := by simpa using b5
      by_cases b6 : f.seq < 1
      · have HF := Lib.hid (fileEr_bad (checkF_bound HP.out HK.out (.inr (.inr (.inr (.inr (.inr (.inl b6))))))) (by decide))
        clear b5
        go_wp2_with fail
        go_ret
        exact ⟨_, rfl, by rw [HF.out]; exact ⟨by decide, rfl⟩, hb3w⟩
      have g6 : decide (f.seq < 1) = false := by simpa using b6
      by_cases b7 : 1073741824 < f.seq
      · have HF := Lib.hid (fileEr_bad (checkF_bound HP.out HK.out (.inr (.inr (.inr (.inr (.inr (.inr b7))))))) (by decide))
        clear b5 b6
        go_wp2_with fail
        go_ret
        exact ⟨_, rfl, by rw [HF.out]; exact ⟨by decide, rfl⟩, hb3w⟩
      have g7 : decide (1073741824 < f.seq) = false := by simpa using b7
      have HF := Lib.hid (fileEr_nil (checkF_right HP.out HK.out (by
        rintro (h | h | h | h | h | h | h)
        · have := B12.out.1; omega
        · have := B12.out.2; omega
        · exact B3.out h
        · exact B4.out h
        · exact b5 h
        · exact b6 h
        · exact b7 h)))
      clear b5 b6 b7
      go_wp2_with fail
      go_ret
      exact ⟨_, rfl, by rw [HF.out]; rfl, hb3w⟩
end Go.Proofs.YtpfohfihkmjnaaaGreatDoor
namespace Go.Proofs.YtpfohfihkmjnaaaGreatDoor
open Go.RowKit

/-- A slice of numbers written out in a new block. -/
theorem ints_new (l : List Int) (w : World) (t : TypeId) (H n : Nat) (cs : Array Value) (hH : w.heap.size = H) (hcs : cs = (l.map (Value.int .i64)).toArray) (hn : l.length = n) (hm : n ≤ 100000) : IntsAt (w.alloc (.cells cs t)) (.slice (some ⟨H, 0, none⟩) n n) l := by
  subst hH hcs hn
  refine ⟨_, _, w.heap.size, 0, rfl, fun _ => rfl, Nat.le_refl _, by unfold maxLen; omega, fun k z hk j u hu => ?_⟩
  obtain rfl : j = 0 := by
    rcases Nat.eq_zero_or_pos j with h | h
    · exact h
    · rw [List.getElem?_eq_none (by simp; omega)] at hu; cases hu
  obtain rfl : .int .i64 z = u := by simpa using hu
  rw [cell_of_row (w.alloc _) w.heap.size _ _ t (0, 0) (heap_alloc_new w _)]
  simp [hk]

/-- The first number that is not 0. -/
def orOf (l : List Int) : Int := (l.find? (fun x => x != 0)).getD 0
theorem orOf_hit {l : List Int} {k : Nat} {x : Int} (hk : l[k]? = some x) (hx : x ≠ 0) (h : ∀ (j : Nat), j < k → ∀ y, l[j]? = some y → y = 0) : orOf l = x := by
  unfold orOf
  obtain ⟨h1, h2⟩ := List.getElem?_eq_some_iff.1 hk
  have : l.find? (fun x => x != 0) = some x := by
    rw [List.find?_eq_some_iff_getElem]
    refine ⟨by simpa using hx, k, h1, h2, fun j hj => ?_⟩
    have := h j hj l[j] (by simp)
    simp [this]
  rw [this]; rfl
theorem orOf_none {l : List Int} (h : ∀ (j : Nat) (y : Int), l[j]? = some y → y = 0) : orOf l = 0 := by
  unfold orOf
  have : l.find? (fun x => x != 0) = none := List.find?_eq_none.2 fun x hx => by
    obtain ⟨j, hj⟩ := List.getElem?_of_mem hx
    simp [h j x hj]
  rw [this]; rfl

theorem cmpOr_any (v : Value) (l : List Int) (w : World) (hl : IntsAt w v l) :
    Calls Tryz.prog 128 #[v] w fun e w' => e = .returned (.int .i64 (orOf l)) ∧ w = w' := by
  obtain ⟨a, c, b, o, rfl, ha, hc, hcm, hx⟩ := hl
  unfold maxLen at hcm
  go_enter Tryz.func128, Tryz.ntmps128
  go_wp2_with fail
  go_loop [8] (fun i => ∃ k : Nat, k ≤ l.length ∧ i = .int .i64 k ∧ Hid (∀ (j : Nat), j < k → ∀ y, l[j]? = some y → y = 0)) (fun i => l.length - (intOf i).toNat)
  case atStart => exact ⟨0, by omega, rfl, Lib.hid fun j hj => absurd hj (by omega)⟩
  case round =>
    obtain ⟨k, hk, rfl, hj⟩ := hrel
    by_cases hlt : k < l.length
    · obtain ⟨x, hxk⟩ := get_ex hlt
      have c1 := hx k x hxk 0 _ rfl
      have i1 := idx_at (c := c) 1 Tryz.underlying69 szInt ha k hlt
      have hk1 : (k : Int) < (l.length : Int) := by omega
      simp only [Nat.mul_one, Nat.add_zero] at c1 i1
      have Hx := Lib.hid hxk; clear hxk
      by_cases h0 : x = 0
      · subst h0
        go_wp2_with fail
        go_round
        case rel => exact ⟨k + 1, by omega, by go_num, Lib.hid fun j hj' y hy => by
          rcases Nat.lt_or_ge j k with h | h
          · exact hj.out j h y hy
          · obtain rfl : j = k := by omega
            rw [Hx.out] at hy
            exact (Option.some.inj hy).symm⟩
        case measure => simp [intOf]; omega
      · have g : (x != 0) = true := by simpa using h0
        have H := Lib.hid (orOf_hit Hx.out h0 hj.out)
        clear h0
        go_wp2_with fail
        go_ret
        exact ⟨by rw [H.out]; rfl, rfl⟩
    · obtain rfl : k = l.length := by omega
      go_wp2_with fail
      go_ret
      exact ⟨by rw [orOf_none fun j y hy => hj.out j (List.getElem?_eq_some_iff.1 hy).1 y hy]; rfl, rfl⟩

theorem strCompare_any (a b : Str) (w : World) : Calls Tryz.prog 43 #[S a, S b] w fun e w' => e = .returned (.int .i64 (Lib.compareBytes a b)) ∧ w = w' :=
  (Tryz.strings_Compare ⟨a.toArray⟩ ⟨b.toArray⟩ w).mono fun _ _ ⟨h1, h2⟩ => ⟨by simpa using h1, h2.symm⟩
theorem orOf_two (x y : Int) : orOf [x, y] = if x ≠ 0 then x else y := by
  unfold orOf
  by_cases h : x = 0
  · subst h
    by_cases h2 : y = 0
    · subst h2; decide
    · rw [if_neg (by simp)]
      simp [h2]
  · rw [if_pos h]
    simp [h]
theorem numF_bound (p : Str) : 0 ≤ numF p ∧ numF p ≤ 1073741824 := by
  rcases path_ways p with ⟨-, -, h, -⟩ | ⟨n, h1, h2, -, h, -⟩ | ⟨n, h1, h2, -, h, -⟩ <;> rw [h] <;> omega
set_option maxRecDepth 20000 in
theorem listCompare_any (E : Nat → Addr) (B : Nat) (a b : Str) (w : World) (hE : Errs [5] E B w) (hT : LNum B w) (hM : LMax B w) (ha : a.length ≤ 100000) (hb : b.length ≤ 100000) :
    Calls Tryz.prog 90 #[S a, S b] w fun e w' => e = .returned (.int .i64 (cmpP a b)) ∧ Below w.heap.size w w' := by
  obtain ⟨n1, n2⟩ := numF_bound a
  obtain ⟨m1, m2⟩ := numF_bound b
  have hc : cmpP a b = orOf [Lib.compareBytes (kindF a) (kindF b), numF a - numF b] := by rw [orOf_two]; rfl
  have HC := Lib.hid hc
  clear hc
  go_enter Tryz.func90, Tryz.ntmps90
  go_wp2_with fail
  refine (fileNumber_any E B a _ hE hT hM ha).mono ?_
  rintro e w1 ⟨ev1, rfl, -, hb1⟩
  go_wp2_with fail
  refine (fileNumber_any E B b _ (hE.below' hb1 hE.le) (hT.below' hb1 hT.le) (hM.below' hb1 hM.le) hb).mono ?_
  rintro e w2 ⟨ev2, rfl, -, hb2⟩
  have hb2' := hb1.trans (hb2.mono hb1.size)
  clear hb1 hb2
  generalize hk1 : kindF a = k1
  generalize hk2 : kindF b = k2
  generalize hn1 : numF a = x1 at n1 n2 ⊢
  generalize hn2 : numF b = x2 at m1 m2 ⊢
  rw [hk1, hk2, hn1, hn2] at HC
  clear hk1 hk2 hn1 hn2
  go_wp2_with fail
  refine (strCompare_any k1 k2 _).mono ?_
  rintro e w3 ⟨rfl, rfl⟩
  generalize Lib.compareBytes k1 k2 = c at HC ⊢
  go_wp2_with fail
  refine (cmpOr_any _ [c, x1 - x2] _ (ints_new _ w2 _ _ 2 _ rfl rfl rfl (by decide))).mono ?_
  rintro e w4 ⟨rfl, rfl⟩
  go_wp2_with fail
  go_ret
  exact ⟨by rw [HC.out]; rfl, hb2'.alloc hb2'.size _⟩
end Go.Proofs.YtpfohfihkmjnaaaGreatDoor
namespace Go.Proofs.YtpfohfihkmjnaaaGreatDoor
open Go.RowKit

/-- A function value's call enters its body. -/
def Clo (P : Program) (f : FuncId) : Prop := ∀ args W, (callFunc f args).run P W = .ok (.enter f args) W
/-- The function value f, with what it captured, answers p of each element of l, in every world that is as w0 was below base. -/
def PredOn {α : Type} (P : Program) (f : FuncId) (caps : Array Value) (val : α → Value) (l : List α) (p : α → Bool) (base : Nat) (w0 : World) : Prop :=
  ∀ W x, x ∈ l → Below base w0 W → base ≤ W.heap.size → Calls P f (#[val x] ++ caps) W fun e W' => e = .returned (.bool (p x)) ∧ Below W.heap.size W W'

theorem PredOn.sub {α : Type} {P : Program} {f : FuncId} {caps : Array Value} {val : α → Value} {l m : List α} {p : α → Bool} {base : Nat} {w0 : World} (h : PredOn P f caps val l p base w0) (hm : ∀ x ∈ m, x ∈ l) : PredOn P f caps val m p base w0 :=
  fun W x hx => h W x (hm x hx)

def idxVal {α : Type} (p : α → Bool) (l : List α) : Int := match l.findIdx? p with | none => -1 | some i => i

theorem idxVal_none {α : Type} {p : α → Bool} {l : List α} (h : ∀ (j : Nat) (x : α), l[j]? = some x → p x = false) : idxVal p l = -1 := by
  unfold idxVal
  have : l.findIdx? p = none := List.findIdx?_eq_none_iff.2 fun x hx => by
    obtain ⟨j, hj, he⟩ := List.getElem_of_mem hx
    exact h j x (by simp [hj, he])
  rw [this]
theorem idxVal_some {α : Type} {p : α → Bool} {l : List α} {k : Nat} {x : α} (hk : l[k]? = some x) (hp : p x = true) (h : ∀ (j : Nat) (y : α), j < k → l[j]? = some y → p y = false) : idxVal p l = k := by
  unfold idxVal
  have hlt : k < l.length := by
    rcases Nat.lt_or_ge k l.length with h' | h'
    · exact h'
    · rw [List.getElem?_eq_none h'] at hk; cases hk
  have hx : l[k] = x := by rw [List.getElem?_eq_getElem hlt] at hk; exact Option.some.inj hk
  have : l.findIdx? p = some k := List.findIdx?_eq_some_iff_getElem.2 ⟨hlt, by rw [hx]; exact hp, fun j hj => by
    have := h j l[j] hj (by simp)
    simpa using this⟩
  rw [this]
end Go.Proofs.YtpfohfihkmjnaaaGreatDoor
namespace Go.Proofs.YtpfohfihkmjnaaaGreatDoor
open Go.RowKit

/-- A round's cells. -/
theorem flCells {w w' : World} {b o : Nat} {l : List Fl} {k : Nat} {x : Fl} (hx : ∀ (k : Nat) (x : Fl), l[k]? = some x → ∀ (j : Nat) (u : Value), (encF x)[j]? = some u → w.cell? ⟨b, o + k * 6 + j, none⟩ = some u) (hb : Below w.heap.size w w') (hk : l[k]? = some x) :
    w'.cell? ⟨b, o + k * 6, none⟩ = some (S x.path) ∧ w'.cell? ⟨b, o + k * 6 + 1, none⟩ = some (S x.part) ∧ w'.cell? ⟨b, o + k * 6 + 2, none⟩ = some (.int .i64 x.n) ∧ w'.cell? ⟨b, o + k * 6 + 3, none⟩ = some (.int .i64 x.lo) ∧ w'.cell? ⟨b, o + k * 6 + 4, none⟩ = some (.int .i64 x.hi) ∧ w'.cell? ⟨b, o + k * 6 + 5, none⟩ = some (.int .i64 x.seq) := by
  have h := fun j u hu => by
    have := hx k x hk j u hu
    exact (hb.cell (World.block_lt_of_cell? w _ this)).trans this
  exact ⟨h 0 _ rfl, h 1 _ rfl, h 2 _ rfl, h 3 _ rfl, h 4 _ rfl, h 5 _ rfl⟩

theorem indexFuncF_any (f : FuncId) (caps : Array Value) (p : Fl → Bool) (base : Nat) (w0 : World) (v : Value) (l : List Fl) (w : World) (hf : Clo Tryz.prog f) (hp : PredOn Tryz.prog f caps fileV l p base w0)
    (hl : FilesAt w v l) (hw : Below base w0 w) (hB : base ≤ w.heap.size) :
    Calls Tryz.prog 99 #[v, .func (.func f) #[] caps] w fun e w' => e = .returned (.int .i64 (idxVal p l)) ∧ Below w.heap.size w w' := by
  obtain ⟨a, c, b, o, rfl, ha, hc, hcm, hx⟩ := hl
  unfold maxLen at hcm
  have hf' := hf
  unfold Clo at hf'
  go_enter Tryz.func99, Tryz.ntmps99
  go_wp2_with fail
  go_loopw [8] (fun i wr => ∃ k : Nat, k ≤ l.length ∧ i = .int .i64 k ∧ Hid (∀ j y, j < k → l[j]? = some y → p y = false) ∧ Below w.heap.size w wr) (fun i _ => l.length - (intOf i).toNat)
  case atStart => exact ⟨0, by omega, rfl, Lib.hid fun j y hj => absurd hj (by omega), Below.refl _ _⟩
  case round =>
    obtain ⟨k, hk, rfl, hj, hb⟩ := hrel
    by_cases hlt : k < l.length
    · obtain ⟨x, hxk⟩ := get_ex hlt
      obtain ⟨c0, c1, c2, c3, c4, c5⟩ := flCells hx hb hxk
      have i1 := idx_at (c := c) 6 Tryz.underlying23 szFl ha k hlt
      have hk1 : (k : Int) < (l.length : Int) := by omega
      have hpx := hp wr x (List.mem_of_getElem? hxk) (hw.trans (hb.mono hB)) (Nat.le_trans hB hb.size)
      have Hp := Lib.hid hpx; clear hpx
      have Hx := Lib.hid hxk; clear hxk
      go_wp2_with fail
      refine Hp.out.mono ?_
      rintro e w1 ⟨rfl, hb1⟩
      have hb2 := hb.trans (hb1.mono hb.size)
      cases hpv : p x with
      | true =>
        have Hpv := Lib.hid hpv; clear hpv
        go_wp2_with fail
        go_ret
        refine ⟨?_, hb2⟩
        rw [idxVal_some Hx.out Hpv.out hj.out]; rfl
      | false =>
        have Hpv := Lib.hid hpv; clear hpv
        go_wp2_with fail
        go_roundw
        case rel => exact ⟨k + 1, by omega, by go_num, (Lib.hid fun j y hj' hy => by
          rcases Nat.lt_or_ge j k with h | h
          · exact hj.out j y h hy
          · obtain rfl : j = k := by omega
            rw [Hx.out] at hy
            obtain rfl := Option.some.inj hy
            exact Hpv.out), hb2⟩
        case measure => simp [intOf]; omega
    · obtain rfl : k = l.length := by omega
      go_wp2_with fail
      go_ret
      refine ⟨?_, hb⟩
      rw [idxVal_none fun j x hj' => hj.out j x (by
        rcases Nat.lt_or_ge j l.length with h | h
        · exact h
        · rw [List.getElem?_eq_none h] at hj'; cases hj') hj']
      rfl
end Go.Proofs.YtpfohfihkmjnaaaGreatDoor
namespace Go.Proofs.YtpfohfihkmjnaaaGreatDoor
open Go.RowKit

set_option maxHeartbeats 1000000 in
set_option maxRecDepth 20000 in
theorem listCheck_any (E : Nat → Addr) (B : Nat) (v : Value) (l : List Fl) (w : World) (hE : Errs [2, 4, 5, 8, 9] E B w) (hT : LNum B w) (hM : LMax B w) (hl : FilesAt w v l) (hs : ∀ f ∈ l, midF f) :
    Calls Tryz.prog 38 #[v] w fun e w' => ∃ ev, e = .returned ev ∧ ErV E w' ev (listCheck l) ∧ Below w.heap.size w w' := by
  obtain ⟨a, c, b, o, rfl, ha, hc, hcm, hx⟩ := hl
  unfold maxLen at hcm
  have hif := isIfaceE
  have hBw := hE.le
  by_cases h60 : 60 < l.length
  · have g : (60 : Int) < (l.length : Int) := by omega
    have v8 := hE.var 8 (by decide)
    simp only [errG] at v8
    have HF : Hid (listCheck l = .bare 8) := Lib.hid (if_pos h60)
    go_enter Tryz.func38, Tryz.ntmps38
    go_wp2_with fail
    go_ret
    exact ⟨_, rfl, by rw [HF.out]; exact ⟨by decide, rfl⟩, Below.refl _ _⟩
  have g60 : (l.length : Int) ≤ 60 := by omega
  have HF : Hid (listCheck l = firstErr (fileFault l) l.length) := Lib.hid (if_neg h60)
  clear h60
  have V0 := fun w6 (h : Below w.heap.size w w6) => (hE.below' h hBw).var 9 (by decide)
  simp only [errG] at V0
  have V := Lib.hid V0
  clear V0
  have Hs := Lib.hid hs
  clear hs
  go_enter Tryz.func38, Tryz.ntmps38
  go_wp2_with fail
  go_loopw [12] (fun i wr => ∃ k : Nat, k ≤ l.length ∧ i = .int .i64 k ∧ Hid (∀ j < k, fileFault l j = 0) ∧ Below w.heap.size w wr) (fun i _ => l.length - (intOf i).toNat)
  case atStart => exact ⟨0, by omega, rfl, Lib.hid fun j hj => absurd hj (by omega), Below.refl _ _⟩
  case round =>
    obtain ⟨k, hk, rfl, hj, hb⟩ := hrel
    by_cases hlt : k < l.length
    case neg =>
      obtain rfl : k = l.length := by omega
      have f : decide ((l.length : Int) < (l.length : Int)) = false := by simp
      go_wp2_with fail
      go_ret
      exact ⟨_, rfl, by rw [HF.out, firstErr_all hj.out]; rfl, hb⟩
    obtain ⟨x, hxk⟩ := get_ex hlt
    obtain ⟨c0, c1, c2, c3, c4, c5⟩ := flCells hx hb hxk
    have i1 := idx_at (c := c) 6 Tryz.underlying23 szFl ha k hlt
    have hk1 : (k : Int) < (l.length : Int) := by omega
    have hsx := Hs.out x (List.mem_of_getElem? hxk)
    have Hx := Lib.hid hxk; clear hxk
    have hb0 : Below w.heap.size w (wr.alloc (.cells #[S x.path, S x.part, .int .i64 x.n, .int .i64 x.lo, .int .i64 x.hi, .int .i64 x.seq] 43)) := hb.alloc hb.size _
    have Cs := Lib.hid (fun w6 (h : Below (wr.alloc (.cells #[S x.path, S x.part, .int .i64 x.n, .int .i64 x.lo, .int .i64 x.hi, .int .i64 x.seq] 43)).heap.size (wr.alloc (.cells #[S x.path, S x.part, .int .i64 x.n, .int .i64 x.lo, .int .i64 x.hi, .int .i64 x.seq] 43)) w6) => (fileCells rfl h).1)
    go_wp2_with fail
    generalize wr.alloc (.cells #[S x.path, S x.part, .int .i64 x.n, .int .i64 x.lo, .int .i64 x.hi, .int .i64 x.seq] 43) = w1 at *
    refine (fileCheck_any E B x _ ((hE.sub (by decide)).below' hb0 hBw) (hT.below' hb0 hBw) (hM.below' hb0 hBw) hsx).mono ?_
    rintro e w2 ⟨ev, rfl, hev, hb2⟩
    have p0 := Cs.out w2 hb2
    have hb2' := hb0.trans (hb2.mono hb0.size)
    clear c0 c1 c2 c3 c4 c5 i1 Cs
    by_cases hck : checkF x = 0
    case neg =>
      have hf : fileFault l k = checkF x := by unfold fileFault; rw [Hx.out]; simp only; rw [if_pos hck]
      have hfe : fileEr x = .bare (checkF x) := fileEr_bad rfl hck
      rw [hfe] at hev
      obtain ⟨hcr, rfl⟩ := hev
      have HK := Lib.hid hck
      have Hf := Lib.hid hf
      have HL : Hid (listCheck l = .loc (checkF x) k) := Lib.hid (HF.out.trans ((firstErr_hit hlt hj.out (by rw [hf]; exact hck)).trans (by rw [hf])))
      clear hf hfe hck
      generalize checkF x = cx at *
      go_wp2_with fail
      go_quiet (fail)
      go_wp2_with fail
      go_ret
      exact ⟨_, rfl, by rw [HL.out]; exact ErV.fresh hcr _ _ _ _ rfl, (Bdn hb2' _).alloc hb2'.size _⟩
    have hfe := fileEr_nil hck
    rw [hfe] at hev
    obtain rfl : ev = .nilIface := hev
    have HK := Lib.hid hck
    clear hck hfe
    by_cases h0 : k = 0
    · have hf : fileFault l k = 0 := by unfold fileFault; rw [Hx.out]; simp only; rw [if_neg (by simp [HK.out]), if_neg (by simp [h0])]
      have gk : decide (0 < k) = false := by simp [h0]
      have Hf := Lib.hid hf
      have H0 := Lib.hid h0
      clear hf h0
      go_wp2_with fail
      go_quiet (fail)
      go_wp2_with fail
      go_roundw
      case rel => exact ⟨k + 1, by omega, by go_num, (Lib.hid fun j hj' => by
        obtain rfl : j = k := by have := H0.out; omega
        exact Hf.out), Bdn hb2' _⟩
      case measure => simp [intOf]; omega
    obtain ⟨y, hyk⟩ := get_ex (l := l) (k := k - 1) (by omega)
    have hsy := Hs.out y (List.mem_of_getElem? hyk)
    obtain ⟨d0, -⟩ := flCells hx hb2' hyk
    have i2 := idx_at (c := c) 6 Tryz.underlying23 szFl ha (k - 1) (by omega)
    have hcast : ((k - 1 : Nat) : Int) = (k : Int) - 1 := by omega
    simp only [hcast] at i2
    have hk0 : 0 < k := by omega
    have gk : decide (0 < k) = true := decide_eq_true hk0
    have hk01 : (1 : Int) ≤ k := by omega
    have hk02 : (0 : Int) ≤ (k : Int) - 1 := by omega
    have hk03 : (k : Int) - 1 < l.length := by omega
    have Hy := Lib.hid hyk
    clear hyk hcast h0
    have hb2d := hb2'.drew
    have hwk : IntKind.i64.wrap ((k : Int) - 1) = (k : Int) - 1 := by rw [IntKind.wrap_i64]; omega
    have hC := listCompare_any E B x.path y.path w2.drew ((hE.sub (by decide)).below' hb2d hBw) (hT.below' hb2d hBw) (hM.below' hb2d hBw) (by have := hsx.1; omega) (by have := hsy.1; omega)
    obtain ⟨cv, hcv⟩ : ∃ cv, cmpP x.path y.path = cv := ⟨_, rfl⟩
    rw [hcv] at hC
    have HC := Lib.hid hC
    clear hC
    by_cases hle : cv ≤ 0
    · have hf : fileFault l k = 9 := by
        unfold fileFault; rw [Hx.out]; simp only
        rw [if_neg (by simp [HK.out]), if_pos ⟨hk0, y, Hy.out, by rw [hcv]; exact hle⟩]
      have HL : Hid (listCheck l = .loc 9 k) := Lib.hid (HF.out.trans ((firstErr_hit hlt hj.out (by rw [hf]; decide)).trans (by rw [hf])))
      clear hf hcv
      go_wp2_with fail
      go_region_held3 (fun w' => w'.cell? ⟨wr.heap.size, 0, none⟩ = some (S x.path) ∧ w'.cell? ⟨b, o + (k - 1) * 6, none⟩ = some (S y.path)) (exact ⟨p0, d0⟩) (first | (go_at_call 90; refine HC.out.mono ?_; rintro e w3 ⟨rfl, hb3⟩; have hb3' := hb2d.trans (hb3.mono hb2d.size); have q0 := (hb3.cell (World.block_lt_of_cell? w2 _ p0)).trans p0; have e0 := (hb3.cell (World.block_lt_of_cell? w2 _ d0)).trans d0; clear p0 d0; have p0 := q0; have d0 := e0; have v9 := V.out _ hb3'))
      go_wp2_with fail
      go_ret
      exact ⟨_, rfl, by rw [HL.out]; exact ErV.fresh (by decide) _ _ _ _ rfl, hb3'.alloc hb3'.size _⟩
    · have hf : fileFault l k = 0 := by
        unfold fileFault; rw [Hx.out]; simp only
        rw [if_neg (by simp [HK.out]), if_neg]
        rintro ⟨_, g, hg, hle'⟩
        rw [Hy.out] at hg
        obtain rfl := Option.some.inj hg
        rw [hcv] at hle'
        exact hle hle'
      have Hf := Lib.hid hf
      have hgt : 0 < cv := by omega
      clear hf hcv hle
      go_wp2_with fail
      go_region_held3 (fun w' => w'.cell? ⟨wr.heap.size, 0, none⟩ = some (S x.path) ∧ w'.cell? ⟨b, o + (k - 1) * 6, none⟩ = some (S y.path)) (exact ⟨p0, d0⟩) (first | (go_at_call 90; refine HC.out.mono ?_; rintro e w3 ⟨rfl, hb3⟩; have hb3' := hb2d.trans (hb3.mono hb2d.size); have q0 := (hb3.cell (World.block_lt_of_cell? w2 _ p0)).trans p0; have e0 := (hb3.cell (World.block_lt_of_cell? w2 _ d0)).trans d0; clear p0 d0; have p0 := q0; have d0 := e0))
      go_wp2_with fail
      go_roundw
      case rel => exact ⟨k + 1, by omega, by go_num, (Lib.hid fun j hj' => by
        rcases Nat.lt_or_ge j k with h | h
        · exact hj.out j h
        · obtain rfl : j = k := by omega
          exact Hf.out), hb3'⟩
      case measure => simp [intOf]; omega
end Go.Proofs.YtpfohfihkmjnaaaGreatDoor
namespace Go.Proofs
open Go.Shelf
end Go.Proofs
namespace Go.Proofs.YtpfohfihkmjnaaaGreatDoor
open Go.RowKit
end Go.Proofs.YtpfohfihkmjnaaaGreatDoor
namespace Go.Proofs.YtpfohfihkmjnaaaGreatDoor
open Go.RowKit
attribute [local go_sem] bapp

theorem numsTail_snoc (l : List Int) (x : Int) : numsTail (l ++ [x]) = numsTail l ++ 32 :: Lib.itoa x := by simp [numsTail]
theorem numsTail_len (l : List Int) (h : ∀ x ∈ l, -9223372036854775808 ≤ x ∧ x ≤ 9223372036854775807) : (numsTail l).length ≤ l.length * 22 := by
  induction l with
  | nil => simp [numsTail]
  | cons x r ih =>
    have h1 := h x (by simp)
    have h2 := itoa_len x (by omega) (by omega)
    have h3 := ih fun y hy => h y (by simp [hy])
    simp only [numsTail, List.flatMap_cons, List.length_append, List.length_cons] at h3 ⊢
    omega

theorem cat_run (a b : ByteArray) (n m : Nat) (ha : a.size = n) (hb : b.size = m) (h : n + m ≤ 1000000) : ∀ w, (Op.stringOp .add a b).run Tryz.prog w = .ok (.string (a ++ b)) w := fun w => run_string_add_sum w a b (by omega)

end Go.Proofs.YtpfohfihkmjnaaaGreatDoor
namespace Go.Proofs.YtpfohfihkmjnaaaGreatDoor
open Go.RowKit

theorem getD_of {l : List Int} {j : Nat} (hj : j < l.length) : l[j]? = some (l.getD j 0) := by
  rw [List.getD_eq_getElem?_getD, List.getElem?_eq_getElem hj]; rfl
theorem minI_any (v : Value) (l : List Int) (w : World) (hl : IntsAt w v l) (hn : l ≠ []) (hb : l.length ≤ 100000) :
    Calls Tryz.prog 133 #[v] w fun e w' => e = .returned (.int .i64 (endsI l).1) ∧ w = w' := by
  obtain ⟨a, c, b, o, rfl, ha, hc, hcm, hx⟩ := hl
  have hpos : 0 < l.length := List.length_pos_iff.2 hn
  obtain rfl := ha hpos
  refine (Tryz.slices_Min_int b o l.length c l w hpos (Nat.le_refl _) (by omega) (fun j hj => ?_)).mono ?_
  · have := hx j _ (getD_of hj) 0 _ rfl
    simpa using this
  · rintro e w' ⟨rfl, rfl⟩
    refine ⟨?_, rfl⟩
    rw [List.take_length]
    unfold endsI
    rw [if_neg hn]
theorem maxI_any (v : Value) (l : List Int) (w : World) (hl : IntsAt w v l) (hn : l ≠ []) (hb : l.length ≤ 100000) :
    Calls Tryz.prog 134 #[v] w fun e w' => e = .returned (.int .i64 (endsI l).2) ∧ w = w' := by
  obtain ⟨a, c, b, o, rfl, ha, hc, hcm, hx⟩ := hl
  have hpos : 0 < l.length := List.length_pos_iff.2 hn
  obtain rfl := ha hpos
  refine (Tryz.slices_Max_int b o l.length c l w hpos (Nat.le_refl _) (by omega) (fun j hj => ?_)).mono ?_
  · have := hx j _ (getD_of hj) 0 _ rfl
    simpa using this
  · rintro e w' ⟨rfl, rfl⟩
    refine ⟨?_, rfl⟩
    rw [List.take_length]
    unfold endsI
    rw [if_neg hn]
theorem strs_newD (w : World) (t : TypeId) (l : List Str) (n : Nat) (hl : l.length = n) (hn : n ≤ 100000) {H : Nat} (hH : w.heap.size = H) : StrsAt (w.alloc (.cells (l.map S).toArray t)) (.slice (some ⟨H, 0, none⟩) n n) l := by
  subst hl
  subst hH
  refine ⟨_, l.length, w.heap.size, 0, rfl, fun _ => rfl, Nat.le_refl _, by unfold maxLen; omega, fun k x hk j u hu => ?_⟩
  have hj : j = 0 := by
    have := (List.getElem?_eq_some_iff.1 hu).1
    simpa using this
  subst hj
  have hu' : u = S x := by simpa using hu.symm
  rw [cell_of_row (w.alloc _) w.heap.size _ (l.map S).toArray t (0, 0) (heap_alloc_new w _)]
  simp [hk, hu']
theorem S_app (a b : Str) : (⟨a.toArray⟩ : ByteArray) ++ ⟨b.toArray⟩ = ⟨(a ++ b).toArray⟩ := bapp a b
theorem bodyT_join : ∀ {ls : List Str}, ls ≠ [] → bodyT ls = joinC 10 ls ++ [10]
  | [], h => absurd rfl h
  | [x], _ => by simp [bodyT, joinC]
  | x :: y :: r, _ => by
    have ih := bodyT_join (ls := y :: r) (by simp)
    have : bodyT (x :: y :: r) = x ++ 10 :: bodyT (y :: r) := by simp [bodyT]
    rw [this, ih, joinC_two]
    simp
end Go.Proofs.YtpfohfihkmjnaaaGreatDoor
namespace Go.Proofs.YtpfohfihkmjnaaaGreatDoor
open Go.RowKit

theorem cut1_any (c : UInt8) (B : Nat) (s : Str) (w : World) (hM : LMax B w) (hs : s.length ≤ 100000) :
    Calls Tryz.prog 168 #[S s, .string ⟨#[c]⟩] w fun e w' => e = .returned (.tuple #[S (Lib.cut s [c]).1, S (Lib.cut s [c]).2.1, .bool (Lib.cut s [c]).2.2]) ∧ Below w.heap.size w w' := by
  obtain ⟨m, hm⟩ := hM.max
  refine (Tryz.strings_Cut ⟨s.toArray⟩ ⟨#[c]⟩ m w (by show s.toArray.size < _; simp; omega) hm).mono ?_
  rintro e w' ⟨rfl, n, rfl⟩
  exact ⟨rfl, Bdn (Below.refl _ _) n⟩
end Go.Proofs.YtpfohfihkmjnaaaGreatDoor
namespace Go.Proofs.YtpfohfihkmjnaaaGreatDoor
open Go.RowKit

def erOf (c : Nat) : Er := if c = 0 then .nil else .bare c
theorem fileRead_none {s : Str} (h : fileOf (cutAt 32 s) = none) : fileRead s = (zeroF, 1) := by unfold fileRead; rw [h]
theorem fileRead_some {s : Str} {f : Fl} (h : fileOf (cutAt 32 s) = some f) : fileRead s = if checkF f = 0 then (f, 0) else (zeroF, checkF f) := by unfold fileRead; rw [h]
theorem fileOf_len {l : List Str} (h : l.length ≠ 6) : fileOf l = none := by
  unfold fileOf
  split
  · exact absurd rfl h
  · rfl
theorem six_strs {l : List Str} (h : l.length = 6) : ∃ p q a b c d, l = [p, q, a, b, c, d] := by
  match l, h with
  | [p, q, a, b, c, d], _ => exact ⟨p, q, a, b, c, d, rfl⟩
theorem four_ints {l : List Int} (h : l.length = 4) : ∃ a b c d, l = [a, b, c, d] := by
  match l, h with
  | [a, b, c, d], _ => exact ⟨a, b, c, d, rfl⟩

end Go.Proofs.YtpfohfihkmjnaaaGreatDoor
