/- Lists of files in plain words: of no program. row.Numbers: the walk. Texts as lists of bytes: how the walk's forms are brought to them. A text cut by a byte: strings.Split by one byte, in plain words. strings.Split by one byte; slices of slices. A slice that the call owns: opened, cut, written to, cleared behind. Of no program. strings.Trim to nothing, in plain words. Files in memory; a path's number; a part; a file's check. Lists of files: the statements' own helpers: OwnFiles, LongFile, LongFiles. -/
import Derived.Test.YtikboodjfanjkaaGreatDoorP1
import Derived.Test.YtikboodjfanjkaaGreatDoorP2
import Derived.Lib.ItoaLen
import Derived.Lib.SplitLaws
import Derived.Shelf.Strings.SlTrimAscii
namespace Go.Proofs.YtikboodjfanjkaaGreatDoor
open Go.RowKit

/-- What is known of a file. -/
structure Fl where
  path : Str
  part : Str
  n : Int
  lo : Int
  hi : Int
  seq : Int
  deriving DecidableEq

abbrev kData : Str := [100, 97, 116, 97]
abbrev kGone : Str := [103, 111, 110, 101]

/-- A right path's kind and number. -/
def pathF (p : Str) : Option (Str × Int) :=
  if (Lib.cut p [47]).2.2 = true ∧ ((Lib.cut p [47]).1 = kData ∨ (Lib.cut p [47]).1 = kGone) then
    (numOf (Lib.cut p [47]).2.1).bind fun n => if n < 1 ∨ 1073741824 < n then none else some ((Lib.cut p [47]).1, n)
  else none
theorem pathF_some {p k : Str} {n : Int} (h : pathF p = some (k, n)) : (k = kData ∨ k = kGone) ∧ 1 ≤ n ∧ n ≤ 1073741824 := by
  unfold pathF at h
  split at h
  · rename_i hc
    cases hn : numOf (Lib.cut p [47]).2.1 with
    | none => rw [hn] at h; cases h
    | some m =>
      rw [hn, Option.bind_some] at h
      split at h
      · cases h
      · simp only [Option.some.injEq, Prod.mk.injEq] at h
        obtain ⟨h1, h2⟩ := h
        rw [← h1, ← h2]
        exact ⟨hc.2, by omega, by omega⟩
  · cases h
def kindF (p : Str) : Str := ((pathF p).getD ([], 0)).1
def numF (p : Str) : Int := ((pathF p).getD ([], 0)).2

/-- How two paths stand to one another. -/
def cmpP (a b : Str) : Int := if Lib.compareBytes (kindF a) (kindF b) ≠ 0 then Lib.compareBytes (kindF a) (kindF b) else numF a - numF b
/-- A number for a path: paths stand as these numbers do. -/
def keyP (p : Str) : Int :=
  match pathF p with
  | none => 0
  | some (k, n) => if k = kData then 2147483648 + n else 4294967296 + n
theorem path_ways (p : Str) : (pathF p = none ∧ kindF p = [] ∧ numF p = 0 ∧ keyP p = 0) ∨ (∃ n, 1 ≤ n ∧ n ≤ 1073741824 ∧ kindF p = kData ∧ numF p = n ∧ keyP p = 2147483648 + n) ∨ (∃ n, 1 ≤ n ∧ n ≤ 1073741824 ∧ kindF p = kGone ∧ numF p = n ∧ keyP p = 4294967296 + n) := by
  cases h : pathF p with
  | none => exact .inl ⟨rfl, by simp [kindF, h], by simp [numF, h], by simp [keyP, h]⟩
  | some kn =>
    obtain ⟨k, n⟩ := kn
    obtain ⟨h1, h2, h3⟩ := pathF_some h
    rcases h1 with rfl | rfl
    · exact .inr (.inl ⟨n, h2, h3, by simp [kindF, h], by simp [numF, h], by simp [keyP, h]⟩)
    · exact .inr (.inr ⟨n, h2, h3, by simp [kindF, h], by simp [numF, h], by simp [keyP, h]⟩)
theorem cmpP_key (a b : Str) : (cmpP a b < 0 ↔ keyP a < keyP b) ∧ (cmpP a b = 0 ↔ keyP a = keyP b) := by
  have e1 : Lib.compareBytes ([] : Str) [] = 0 := by decide
  have e2 : Lib.compareBytes ([] : Str) kData = -1 := by decide
  have e3 : Lib.compareBytes ([] : Str) kGone = -1 := by decide
  have e4 : Lib.compareBytes kData ([] : Str) = 1 := by decide
  have e5 : Lib.compareBytes kData kData = 0 := by decide
  have e6 : Lib.compareBytes kData kGone = -1 := by decide
  have e7 : Lib.compareBytes kGone ([] : Str) = 1 := by decide
  have e8 : Lib.compareBytes kGone kData = 1 := by decide
  have e9 : Lib.compareBytes kGone kGone = 0 := by decide
  unfold cmpP
  rcases path_ways a with ⟨-, a1, a2, a3⟩ | ⟨n, an1, an2, a1, a2, a3⟩ | ⟨n, an1, an2, a1, a2, a3⟩ <;> rcases path_ways b with ⟨-, b1, b2, b3⟩ | ⟨m, bn1, bn2, b1, b2, b3⟩ | ⟨m, bn1, bn2, b1, b2, b3⟩ <;>
    rw [a1, a2, a3, b1, b2, b3] <;> (first | rw [e1] | rw [e2] | rw [e3] | rw [e4] | rw [e5] | rw [e6] | rw [e7] | rw [e8] | rw [e9]) <;> (first | rw [if_pos (by decide)] | rw [if_neg (by decide)]) <;> omega
theorem cmpP_lt {a b : Str} : cmpP a b < 0 ↔ keyP a < keyP b := (cmpP_key a b).1
theorem cmpP_eq {a b : Str} : cmpP a b = 0 ↔ keyP a = keyP b := (cmpP_key a b).2
theorem cmpP_le {a b : Str} : cmpP a b ≤ 0 ↔ keyP a ≤ keyP b := by have := @cmpP_lt a b; have := @cmpP_eq a b; omega
theorem cmpP_bound (a b : Str) : -2147483648 ≤ cmpP a b ∧ cmpP a b ≤ 2147483648 := by
  have hn : ∀ p, 0 ≤ numF p ∧ numF p ≤ 1073741824 := fun p => by
    rcases path_ways p with ⟨-, -, h, -⟩ | ⟨n, h1, h2, -, h, -⟩ | ⟨n, h1, h2, -, h, -⟩ <;> rw [h] <;> omega
  have hc : ∀ a b : Str, -1 ≤ Lib.compareBytes a b ∧ Lib.compareBytes a b ≤ 1 := by
    intro a
    induction a with
    | nil => intro b; cases b <;> simp [Lib.compareBytes]
    | cons x r ih =>
      intro b
      cases b with
      | nil => simp [Lib.compareBytes]
      | cons y t =>
        unfold Lib.compareBytes
        split
        · omega
        · split
          · omega
          · exact ih t
  unfold cmpP
  have h1 := hn a; have h2 := hn b; have h3 := hc (kindF a) (kindF b)
  split <;> omega

def partSigns : Str := [97, 98, 99, 100, 101, 102, 103, 104, 105, 106, 107, 108, 109, 110, 111, 112, 113, 114, 115, 116, 117, 118, 119, 120, 121, 122, 48, 49, 50, 51, 52, 53, 54, 55, 56, 57]
/-- Is a text a part, of a kind? -/
def partOk (kind s : Str) : Bool := if kind = kGone then s == [45] else decide (s ≠ []) && (decide (s.length ≤ 12) && s.all (fun b => partSigns.contains b))
def farN (n : Int) : Prop := n < -1073741824 ∨ 1073741824 < n
instance (n : Int) : Decidable (farN n) := inferInstanceAs (Decidable (_ ∨ _))
def boundF (f : Fl) : Prop := f.n < 1 ∨ 40 < f.n ∨ farN f.lo ∨ farN f.hi ∨ f.hi < f.lo ∨ f.seq < 1 ∨ 1073741824 < f.seq
instance (f : Fl) : Decidable (boundF f) := inferInstanceAs (Decidable (_ ∨ _))
/-- A file's fault, by its number. -/
def checkF (f : Fl) : Nat :=
  if pathF f.path = none then 5 else if partOk (kindF f.path) f.part = false then 4 else if boundF f then 2 else 0

/-- A list's fault at a place. -/
def fileFault (l : List Fl) (i : Nat) : Nat :=
  match l[i]? with
  | none => 0
  | some f => if checkF f ≠ 0 then checkF f else if 0 < i ∧ ∃ g, l[i - 1]? = some g ∧ cmpP f.path g.path ≤ 0 then 9 else 0
def listCheck (l : List Fl) : Er := if 60 < l.length then .bare 8 else firstErr (fileFault l) l.length

/-- A right list. -/
structure RightL (l : List Fl) : Prop where
  len : l.length ≤ 60
  ok : ∀ f ∈ l, checkF f = 0
  ris : l.Pairwise (fun a b => keyP a.path < keyP b.path)

theorem pair_next {l : List Fl} (h : ∀ (i : Nat) (a b : Fl), l[i]? = some a → l[i + 1]? = some b → keyP a.path < keyP b.path) : l.Pairwise (fun a b => keyP a.path < keyP b.path) := by
  induction l with
  | nil => exact List.Pairwise.nil
  | cons x r ih =>
    have hr := ih fun i a b ha hb => h (i + 1) a b ha hb
    refine List.pairwise_cons.2 ⟨fun y hy => ?_, hr⟩
    cases r with
    | nil => cases hy
    | cons z t =>
      have h0 := h 0 x z rfl rfl
      rcases List.mem_cons.1 hy with rfl | hy
      · exact h0
      · exact Int.lt_trans h0 ((List.pairwise_cons.1 hr).1 y hy)
theorem right_iff (l : List Fl) : listCheck l = .nil ↔ RightL l := by
  unfold listCheck
  constructor
  · intro h
    split at h
    · cases h
    · rename_i hl
      have hf := firstErr_nil h
      have hat : ∀ (i : Nat) (f : Fl), l[i]? = some f → checkF f = 0 ∧ (0 < i → ∀ g, l[i - 1]? = some g → ¬ cmpP f.path g.path ≤ 0) := by
        intro i f hif
        have := hf i (List.getElem?_eq_some_iff.1 hif).1
        unfold fileFault at this
        rw [hif] at this
        simp only at this
        split at this
        · rename_i h1; exact absurd this h1
        · rename_i h1
          split at this
          · cases this
          · rename_i h2
            exact ⟨Decidable.not_not.1 h1, fun hi g hg hc => h2 ⟨hi, g, hg, hc⟩⟩
      refine ⟨by omega, fun f hf => ?_, pair_next fun i a b ha hb => ?_⟩
      · obtain ⟨i, hi⟩ := List.getElem?_of_mem hf
        exact (hat i f hi).1
      · have := (hat (i + 1) b hb).2 (by omega) a ha
        rw [cmpP_le] at this
        omega
  · intro h
    rw [if_neg (by have := h.len; omega)]
    refine firstErr_all fun j hj => ?_
    unfold fileFault
    obtain ⟨f, hf⟩ : ∃ f, l[j]? = some f := ⟨l[j], List.getElem?_eq_getElem hj⟩
    rw [hf]
    simp only
    rw [if_neg (by simpa using h.ok f (List.mem_of_getElem? hf)), if_neg ?_]
    rintro ⟨hj0, g, hg, hc⟩
    rw [cmpP_le] at hc
    obtain ⟨h1, h2⟩ := List.getElem?_eq_some_iff.1 hf
    obtain ⟨h3, h4⟩ := List.getElem?_eq_some_iff.1 hg
    have := List.pairwise_iff_getElem.1 h.ris (j - 1) j h3 h1 (by omega)
    rw [h2, h4] at this
    omega

/-- Where a path is; none: nowhere. -/
def findF (l : List Fl) (p : Str) : Option Nat := l.findIdx? (fun f => f.path == p)
/-- A file placed where it comes. -/
def placeF (f : Fl) : List Fl → List Fl
  | [] => [f]
  | g :: r => if keyP f.path ≤ keyP g.path then f :: g :: r else g :: placeF f r
def dropF (l : List Fl) (p : Str) : List Fl := l.filter (fun f => !(f.path == p))
def thereF (l : List Fl) (f : Fl) : Prop := ∃ g ∈ l, keyP g.path = keyP f.path
instance (l : List Fl) (f : Fl) : Decidable (thereF l f) := inferInstanceAs (Decidable (∃ g ∈ l, _))
def addE (l : List Fl) (f : Fl) : Er :=
  if listCheck l ≠ .nil then listCheck l else if checkF f ≠ 0 then .bare (checkF f) else if thereF l f then .bare 7 else if 60 ≤ l.length then .bare 8 else .nil
def addL (l : List Fl) (f : Fl) : List Fl := if addE l f = .nil then placeF f l else []
def removeE (l : List Fl) (p : Str) : Er := if listCheck l ≠ .nil then listCheck l else if (findF l p).isNone then .bare 6 else .nil
def removeL (l : List Fl) (p : Str) : List Fl := if removeE l p = .nil then dropF l p else []

/-- The place of a file among others. -/
structure PlaceAt (l : List Fl) (f : Fl) (k : Nat) : Prop where
  le : k ≤ l.length
  low : ∀ (j : Nat) (g : Fl), j < k → l[j]? = some g → keyP g.path < keyP f.path
  high : ∀ (j : Nat) (g : Fl), k ≤ j → l[j]? = some g → keyP f.path ≤ keyP g.path
theorem placeF_at {f : Fl} : ∀ {l : List Fl} {k : Nat}, PlaceAt l f k → placeF f l = l.take k ++ f :: l.drop k
  | [], k, h => by
    obtain rfl : k = 0 := Nat.le_zero.1 h.le
    rfl
  | g :: r, 0, h => by
    have := h.high 0 g (Nat.le_refl _) rfl
    unfold placeF
    rw [if_pos this]
    rfl
  | g :: r, k + 1, h => by
    have := h.low 0 g (by omega) rfl
    unfold placeF
    rw [if_neg (by omega), List.take_succ_cons, List.drop_succ_cons, List.cons_append]
    congr 1
    exact placeF_at ⟨by have := h.le; simp at this; omega, fun j x hj hx => h.low (j + 1) x (by omega) hx, fun j x hj hx => h.high (j + 1) x (by omega) hx⟩
theorem PlaceAt.there {l : List Fl} {f : Fl} {k : Nat} (h : PlaceAt l f k) (hr : l.Pairwise (fun a b => keyP a.path < keyP b.path)) : thereF l f ↔ ∃ g, l[k]? = some g ∧ cmpP g.path f.path = 0 := by
  constructor
  · rintro ⟨g, hg, he⟩
    obtain ⟨j, hj⟩ := List.getElem?_of_mem hg
    obtain ⟨hj1, hj2⟩ := List.getElem?_eq_some_iff.1 hj
    rcases Nat.lt_trichotomy j k with h1 | rfl | h1
    · have := h.low j g h1 hj; omega
    · exact ⟨g, hj, cmpP_eq.2 he⟩
    · have hk : k < l.length := by omega
      have h2 := h.high k l[k] (Nat.le_refl _) (List.getElem?_eq_getElem hk)
      have h3 := List.pairwise_iff_getElem.1 hr k j hk hj1 h1
      rw [hj2] at h3
      omega
  · rintro ⟨g, hg, he⟩
    exact ⟨g, List.mem_of_getElem? hg, cmpP_eq.1 he⟩

theorem dropF_at : ∀ {l : List Fl} {k : Nat} {x : Fl}, l.Pairwise (fun a b => keyP a.path < keyP b.path) → l[k]? = some x → dropF l x.path = l.take k ++ l.drop (k + 1)
  | [], k, x, _, h => by simp at h
  | a :: r, 0, x, hr, h => by
    obtain rfl : a = x := by simpa using h
    have ha := (List.pairwise_cons.1 hr).1
    unfold dropF
    rw [List.filter_cons_of_neg (by simp)]
    simp only [List.take_zero, List.drop_succ_cons, List.drop_zero, List.nil_append]
    exact List.filter_eq_self.2 fun o ho => by
      have := ha o ho
      simp only [Bool.not_eq_true', beq_eq_false_iff_ne]
      intro e; rw [e] at this; omega
  | a :: r, k + 1, x, hr, h => by
    have ha := (List.pairwise_cons.1 hr).1
    have hx : r[k]? = some x := by simpa using h
    have ih := dropF_at (List.pairwise_cons.1 hr).2 hx
    unfold dropF at ih ⊢
    have hne := ha x (List.mem_of_getElem? hx)
    rw [List.filter_cons_of_pos (by simp only [Bool.not_eq_true', beq_eq_false_iff_ne]; intro e; rw [e] at hne; omega)]
    rw [ih]
    rfl
theorem findF_at {l : List Fl} {k : Nat} {x : Fl} (hr : l.Pairwise (fun a b => keyP a.path < keyP b.path)) (h : l[k]? = some x) : findF l x.path = some k := by
  obtain ⟨hk, hx⟩ := List.getElem?_eq_some_iff.1 h
  unfold findF
  rw [List.findIdx?_eq_some_iff_getElem]
  refine ⟨hk, by rw [hx]; simp, fun j hj => ?_⟩
  have := List.pairwise_iff_getElem.1 hr j k (by omega) hk hj
  rw [hx] at this
  simp only [Bool.not_eq_true, beq_eq_false_iff_ne]
  intro e; rw [e] at this; omega
theorem findF_none {l : List Fl} {p : Str} : findF l p = none ↔ ∀ f ∈ l, f.path ≠ p := by
  unfold findF
  rw [List.findIdx?_eq_none_iff]
  simp
theorem place_ex (l : List Fl) (f : Fl) (hr : l.Pairwise (fun a b => keyP a.path < keyP b.path)) : ∃ k, PlaceAt l f k := by
  induction l with
  | nil => exact ⟨0, Nat.le_refl _, fun j g hj => absurd hj (by omega), fun j g _ h => by simp at h⟩
  | cons a r ih =>
    obtain ⟨h1, h2⟩ := List.pairwise_cons.1 hr
    by_cases h : keyP a.path < keyP f.path
    · obtain ⟨k, hk⟩ := ih h2
      refine ⟨k + 1, by have := hk.le; simp; omega, fun j g hj hg => ?_, fun j g hj hg => ?_⟩
      · cases j with
        | zero => obtain rfl : a = g := by simpa using hg
                  exact h
        | succ j => exact hk.low j g (by omega) (by simpa using hg)
      · cases j with
        | zero => omega
        | succ j => exact hk.high j g (by omega) (by simpa using hg)
    · refine ⟨0, Nat.zero_le _, fun j g hj => absurd hj (by omega), fun j g _ hg => ?_⟩
      cases j with
      | zero => obtain rfl : a = g := by simpa using hg
                omega
      | succ j =>
        have := h1 g (List.mem_of_getElem? (i := j) (by simpa using hg))
        omega

/-- A right list is a head ahead of a right list. -/
theorem RightL.tail {a : Fl} {l : List Fl} (h : RightL (a :: l)) : RightL l :=
  ⟨by have := h.len; simp at this; omega, fun f hf => h.ok f (List.mem_cons_of_mem _ hf), (List.pairwise_cons.1 h.ris).2⟩
theorem RightL.drop {l : List Fl} (h : RightL l) : ∀ k, RightL (l.drop k)
  | 0 => h
  | k + 1 => by
    rcases Nat.lt_or_ge k l.length with hk | hk
    · have := RightL.drop h k
      rw [List.drop_eq_getElem_cons hk] at this
      exact this.tail
    · rw [List.drop_eq_nil_of_le (by omega)]
      exact ⟨Nat.zero_le _, fun _ h => (by cases h), List.Pairwise.nil⟩
theorem add_head {a : Fl} {l : List Fl} (h : RightL (a :: l)) : addE l a = .nil ∧ addL l a = a :: l := by
  have hl := (right_iff l).2 h.tail
  have ha := h.ok a (List.mem_cons_self ..)
  obtain ⟨h1, h2⟩ := List.pairwise_cons.1 h.ris
  have he : addE l a = .nil := by
    unfold addE
    rw [if_neg (by simp [hl]), if_neg (by simp [ha]), if_neg ?_, if_neg (by have := h.len; simp at this; omega)]
    rintro ⟨g, hg, e⟩
    have := h1 g hg; omega
  refine ⟨he, ?_⟩
  unfold addL
  rw [if_pos he]
  cases l with
  | nil => rfl
  | cons b r =>
    unfold placeF
    rw [if_pos (by have := h1 b (List.mem_cons_self ..); omega)]
theorem RightL.dropF {l : List Fl} (h : RightL l) (p : Str) : RightL (dropF l p) :=
  ⟨Nat.le_trans (List.length_filter_le ..) h.len, fun f hf => h.ok f (List.mem_filter.1 hf).1, h.ris.filter _⟩
/-- One less, and that one added. -/
theorem remove_add {l : List Fl} {k : Nat} {x : Fl} (h : RightL l) (hx : l[k]? = some x) :
    removeE l x.path = .nil ∧ removeL l x.path = l.take k ++ l.drop (k + 1) ∧ findF (removeL l x.path) x.path = none ∧ addE (removeL l x.path) x = .nil ∧ addL (removeL l x.path) x = l := by
  obtain ⟨hk, hxe⟩ := List.getElem?_eq_some_iff.1 hx
  have he : removeE l x.path = .nil := by
    unfold removeE
    rw [if_neg (by simp [(right_iff l).2 h]), findF_at h.ris hx, if_neg (by simp)]
  have hd := dropF_at h.ris hx
  have hr : removeL l x.path = l.take k ++ l.drop (k + 1) := by unfold removeL; rw [if_pos he, hd]
  have hR : RightL (l.take k ++ l.drop (k + 1)) := hd ▸ h.dropF x.path
  have hlen : (l.take k ++ l.drop (k + 1)).length = l.length - 1 := by rw [List.length_append, List.length_take, List.length_drop]; omega
  have hne : ∀ g ∈ l.take k ++ l.drop (k + 1), keyP g.path ≠ keyP x.path := by
    intro g hg
    rcases List.mem_append.1 hg with h1 | h1
    · obtain ⟨j, hj, rfl⟩ := List.getElem_of_mem h1
      rw [List.length_take] at hj
      have := List.pairwise_iff_getElem.1 h.ris j k (by omega) hk (by omega)
      rw [hxe] at this
      rw [List.getElem_take]; omega
    · obtain ⟨j, hj, rfl⟩ := List.getElem_of_mem h1
      rw [List.length_drop] at hj
      have := List.pairwise_iff_getElem.1 h.ris k (k + 1 + j) hk (by omega) (by omega)
      rw [hxe] at this
      rw [List.getElem_drop]; omega
  have hadd : addE (l.take k ++ l.drop (k + 1)) x = .nil := by
    unfold addE
    rw [if_neg (by simp [(right_iff _).2 hR]), if_neg (by simp [h.ok x (List.mem_of_getElem? hx)]), if_neg ?_, if_neg (by rw [hlen]; have := h.len; omega)]
    rintro ⟨g, hg, e⟩
    exact hne g hg e
  have hpl : PlaceAt (l.take k ++ l.drop (k + 1)) x k := by
    refine ⟨by rw [hlen]; omega, fun j g hj hg => ?_, fun j g hj hg => ?_⟩
    · rw [List.getElem?_append_left (by rw [List.length_take]; omega), List.getElem?_take, if_pos hj] at hg
      obtain ⟨h1, h2⟩ := List.getElem?_eq_some_iff.1 hg
      have := List.pairwise_iff_getElem.1 h.ris j k h1 hk hj
      rw [hxe, h2] at this
      exact this
    · rw [List.getElem?_append_right (by rw [List.length_take]; omega), List.getElem?_drop, List.length_take, Nat.min_eq_left (by omega)] at hg
      obtain ⟨h1, h2⟩ := List.getElem?_eq_some_iff.1 hg
      have := List.pairwise_iff_getElem.1 h.ris k _ hk h1 (by omega)
      rw [hxe, h2] at this
      omega
  refine ⟨he, hr, ?_, ?_, ?_⟩
  · rw [hr, findF_none]
    intro f hf e
    exact hne f hf (by rw [e])
  · rw [hr]; exact hadd
  · rw [hr]
    unfold addL
    rw [if_pos hadd, placeF_at hpl]
    have ht : (l.take k ++ l.drop (k + 1)).take k = l.take k := by
      rw [List.take_append_of_le_length (by rw [List.length_take]; omega), List.take_take, Nat.min_self]
    have hdr : (l.take k ++ l.drop (k + 1)).drop k = l.drop (k + 1) := by
      rw [List.drop_append_of_le_length (by rw [List.length_take]; omega), List.drop_eq_nil_of_le (by rw [List.length_take]; omega), List.nil_append]
    rw [ht, hdr, ← hxe, ← List.drop_eq_getElem_cons hk, List.take_append_drop]
end Go.Proofs.YtikboodjfanjkaaGreatDoor
namespace Go.Proofs.YtikboodjfanjkaaGreatDoor
open Go.RowKit

def numsOf (l : List Str) : Option (List Int) := l.mapM numOf

theorem mapM_snoc {α β : Type} (f : α → Option β) (l : List α) (x : α) : (l ++ [x]).mapM f = (l.mapM f).bind fun ys => (f x).map fun y => ys ++ [y] := by
  induction l with
  | nil => cases h : f x <;> simp [h]
  | cons a r ih =>
    cases h : f a with
    | none => simp [h]
    | some b =>
      simp only [List.cons_append, List.mapM_cons, h, Option.bind_eq_bind, Option.bind_some, ih]
      cases h2 : r.mapM f with
      | none => simp
      | some ys => cases f x <;> simp
theorem mapM_take_none {α β : Type} (f : α → Option β) (l : List α) (k : Nat) (h : (l.take k).mapM f = none) : l.mapM f = none := by
  have e : l = l.take k ++ l.drop k := (List.take_append_drop k l).symm
  rw [e, List.mapM_append, h]; rfl
theorem mapM_len {α β : Type} (f : α → Option β) : ∀ {l : List α} {ys : List β}, l.mapM f = some ys → ys.length = l.length
  | [], ys, h => by simp at h; subst h; rfl
  | a :: r, ys, h => by
    rw [List.mapM_cons] at h
    cases h1 : f a with
    | none => simp [h1] at h
    | some b =>
      cases h2 : r.mapM f with
      | none => simp [h1, h2] at h
      | some zs =>
        simp [h1, h2] at h
        subst h
        simp [mapM_len f h2]
theorem take_snoc' {α : Type} {l : List α} {k : Nat} {x : α} (h : l[k]? = some x) : l.take (k + 1) = l.take k ++ [x] := by
  rw [List.take_add_one, h]; rfl

theorem numbers_any (B : Nat) (v : Value) (l : List Str) (w : World) (hT : LNum B w) (hl : StrsAt w v l) (hn : l.length ≤ 100000) (hs : ∀ s ∈ l, s.length ≤ 100000) :
    Calls Tryz.prog 120 #[v] w fun e w' => ∃ v', e = .returned (.tuple #[v', .bool (numsOf l).isSome]) ∧ (∀ ns, numsOf l = some ns → Own encI 3 1 w.heap.size w' v' ns) ∧ (numsOf l = none → v' = .slice none 0 0) ∧ Below w.heap.size w w' := by
  obtain ⟨a, c, b, o, rfl, ha, hc, hcm, hx⟩ := hl
  unfold maxLen at hcm
  go_enter Tryz.func120, Tryz.ntmps120
  go_wp2_with fail
  go_loopw [2, 3, 4, 11] (fun r1 r2 out i wr => r1 = .slice none 0 0 ∧ r2 = .bool false ∧ ∃ (k : Nat) (ns : List Int), k ≤ l.length ∧ i = .int .i64 k ∧ Hid ((l.take k).mapM numOf = some ns) ∧ Own encI 3 1 w.heap.size wr out ns ∧ Below w.heap.size w wr) (fun _ _ _ i _ => l.length - (intOf i).toNat)
  case atStart => exact ⟨rfl, rfl, 0, [], by omega, rfl, rfl, Own.nil _ _ _ _ _, Below.refl _ _⟩
  case round =>
    obtain ⟨rfl, rfl, k, ns, hk, rfl, hm, ho, hb⟩ := hrel
    by_cases hlt : k < l.length
    · obtain ⟨x, hxk⟩ := get_ex hlt
      have c1 := hx k x hxk 0 _ rfl
      have c1 := (hb.cell (World.block_lt_of_cell? w _ c1)).trans c1
      have i1 := idx_at (c := c) 1 Tryz.underlying24 szStr ha k hlt
      have hk1 : (k : Int) < (l.length : Int) := by omega
      simp only [Nat.mul_one, Nat.add_zero] at c1 i1
      have hxs : x.length ≤ 100000 := hs x (List.mem_of_getElem? hxk)
      have hsn := take_snoc' hxk
      have hlen : ns.length = k := by have := mapM_len _ hm.out; simp at this; omega
      have Hx := Lib.hid hsn; clear hsn hxk
      have Hlen := Lib.hid hlen; clear hlen
      cases hx0 : numOf x with
      | none =>
        have hN : numsOf l = none := by
          refine mapM_take_none _ _ (k + 1) ?_
          rw [Hx.out, mapM_snoc, hm.out]; simp [hx0]
        have h2 : (numOf x).isSome = false := by rw [hx0]; rfl
        have HN := Lib.hid hN; clear hN
        have H0 := Lib.hid hx0; clear hx0
        go_wp2_with fail
        refine (number_any B x _ (hT.below' hb hT.le) hxs).mono ?_
        rintro e w1 ⟨rfl, hb1⟩
        go_wp2_with fail
        go_ret2
        exact ⟨_, by rw [HN.out]; rfl, (fun ns h => by rw [HN.out] at h; cases h), (fun _ => rfl), hb.trans (hb1.mono hb.size)⟩
      | some n =>
        have h2 : (numOf x).isSome = true := by rw [hx0]; rfl
        have h3 : atoiN x = n := numOf_atoiN hx0
        have hm2 : (l.take (k + 1)).mapM numOf = some (ns ++ [n]) := by rw [Hx.out, mapM_snoc, hm.out]; simp [hx0]
        have HM := Lib.hid hm2; clear hm2
        have H0 := Lib.hid hx0; clear hx0
        have H3 := Lib.hid h3; clear h3
        go_wp2_with fail
        refine (number_any B x _ (hT.below' hb hT.le) hxs).mono ?_
        rintro e w1 ⟨rfl, hb1⟩
        rw [H3.out]
        have ho1 : Own encI 3 1 w.heap.size w1 _ ns := ho.below hb1
        have hb2 := hb.trans (hb1.mono hb.size)
        go_wp2_with (at_builtin; refine wpList_app rfl _ _ _ rfl w.heap.size elInt _ ns.length _ rfl (ho1.alloc _) (.slice (some ⟨w1.heap.size, 0, none⟩) 1 1) 1 (encI n) rfl (src_one rfl rfl (by simp [Value.oneCell'])) (by rw [Hlen.out]; unfold maxLen; omega) (by rw [Hlen.out]; omega) (by have := hb2.size; simp; omega) ?_; intro v' w2 hown hg _)
        go_roundw
        case rel => exact ⟨rfl, rfl, k + 1, ns ++ [n], by omega, by go_num, HM.out, Own.snoc hown, Bapp (hb2.alloc hb2.size _) (ho1.alloc _) hg (Nat.le_refl _) (by have := hb2.size; simp; omega)⟩
        case measure => simp [intOf]; omega
    · obtain rfl : k = l.length := by omega
      have hN : numsOf l = some ns := by have := hm.out; rwa [List.take_length] at this
      have HN := Lib.hid hN; clear hN
      go_wp2_with fail
      go_ret2
      exact ⟨_, by rw [HN.out]; rfl, (fun ms h => by rw [HN.out] at h; cases h; exact ho), (fun h => by rw [HN.out] at h; cases h), hb⟩
end Go.Proofs.YtikboodjfanjkaaGreatDoor
namespace Go.Proofs.YtikboodjfanjkaaGreatDoor
open Go.RowKit

theorem itoa_len (n : Int) (h0 : -9223372036854775808 ≤ n) (h1 : n ≤ 9223372036854775807) : (Lib.itoa n).length ≤ 21 := Lib.itoa_length_le n h0 h1
end Go.Proofs.YtikboodjfanjkaaGreatDoor
namespace Go.Proofs.YtikboodjfanjkaaGreatDoor
open Go.RowKit

/-- s cut at each byte c. -/
def cutAt (c : UInt8) : Str → List Str
  | [] => [[]]
  | x :: r => if x = c then [] :: cutAt c r else
    match cutAt c r with
    | h :: t => (x :: h) :: t
    | [] => [[x]]

theorem cutAt_ne (c : UInt8) (s : Str) : cutAt c s ≠ [] := by
  cases s with
  | nil => simp [cutAt]
  | cons x r =>
    unfold cutAt
    split
    · simp
    · split <;> simp

theorem cutAt_none {c : UInt8} : ∀ {s : Str}, c ∉ s → cutAt c s = [s]
  | [], _ => rfl
  | x :: r, h => by
    have hx : x ≠ c := fun e => h (by simp [e])
    have hr : c ∉ r := fun e => h (by simp [e])
    rw [cutAt, if_neg hx, cutAt_none hr]
theorem cutAt_app {c : UInt8} : ∀ {p : Str} {q : Str}, c ∉ p → cutAt c (p ++ c :: q) = p :: cutAt c q
  | [], q, _ => by simp [cutAt]
  | x :: r, q, h => by
    have hx : x ≠ c := fun e => h (by simp [e])
    have hr : c ∉ r := fun e => h (by simp [e])
    rw [List.cons_append, cutAt, if_neg hx, cutAt_app hr]

theorem occ1 (c x : UInt8) (s : Str) (i : Nat) (h : s[i]? = some x) : Lib.occAt s [c] i = (x == c) := by
  unfold Lib.occAt
  have hlt : i < s.length := by
    rcases Nat.lt_or_ge i s.length with h' | h'
    · exact h'
    · rw [List.getElem?_eq_none h'] at h; cases h
  rw [List.drop_eq_getElem_cons hlt]
  have : s[i] = x := by rw [List.getElem?_eq_getElem hlt] at h; exact Option.some.inj h
  rw [this]
  simp [List.isPrefixOf, Bool.beq_comm]
theorem index_none1 {c : UInt8} {s : Str} (h : c ∉ s) : Lib.index s [c] = -1 := by
  refine Lib.index_none fun j hj => ?_
  cases hs : s[j]? with
  | none =>
    unfold Lib.occAt
    rw [List.drop_of_length_le (List.getElem?_eq_none_iff.1 hs)]; rfl
  | some x =>
    rw [occ1 c x s j hs]
    exact beq_eq_false_iff_ne.2 fun e => h (by rw [← e]; exact List.mem_of_getElem? hs)
theorem index_app1 {c : UInt8} {p q : Str} (h : c ∉ p) : Lib.index (p ++ c :: q) [c] = p.length := by
  refine Lib.index_first (by simp) ?_ fun j hj => ?_
  · rw [occ1 c c _ _ (by simp)]; simp
  · rw [occ1 c p[j] _ _ (by rw [List.getElem?_append_left hj]; simp)]
    exact beq_eq_false_iff_ne.2 fun e => h (by rw [← e]; exact List.getElem_mem _)

theorem splitK_cut (c : UInt8) : ∀ (k : Nat) (s : Str), s.count c = k → Lib.splitK [c] 0 k s = cutAt c s
  | 0, s, h => by
    rw [cutAt_none (List.count_eq_zero.1 h)]; rfl
  | k + 1, s, h => by
    have hm : c ∈ s := List.count_pos_iff.1 (by omega)
    obtain ⟨p, q, hpq, hp⟩ := List.eq_append_cons_of_mem hm
    subst hpq
    rw [cutAt_app hp, Lib.splitK, index_app1 hp]
    have hne : ((p.length : Int) == -1) = false := beq_eq_false_iff_ne.2 (by omega)
    rw [if_neg (by rw [hne]; decide)]
    have hc : q.count c = k := by
      rw [List.count_append, List.count_eq_zero.2 hp, List.count_cons_self] at h; omega
    rw [Int.toNat_natCast, Nat.add_zero, List.take_left' rfl, show p.length + [c].length = p.length + 1 from rfl, ← List.drop_drop, List.drop_left' rfl, List.drop_one, List.tail_cons, splitK_cut c k q hc]

theorem splitB_cut (c : UInt8) (s : Str) : (Lib.splitB ⟨#[c]⟩ 0 (Lib.countB ⟨s.toArray⟩ ⟨#[c]⟩) ⟨s.toArray⟩).map Value.string = (cutAt c s).map S := by
  have hc : Lib.countB ⟨s.toArray⟩ ⟨#[c]⟩ = s.count c := by
    unfold Lib.countB; simpa using Lib.count_one c s
  have h := Lib.splitB_data ⟨#[c]⟩ 0 (Lib.countB ⟨s.toArray⟩ ⟨#[c]⟩) ⟨s.toArray⟩
  rw [hc] at h ⊢
  have h2 : Lib.splitK [c] 0 (s.count c) s = cutAt c s := splitK_cut c _ s rfl
  have h3 : (Lib.splitB ⟨#[c]⟩ 0 (s.count c) ⟨s.toArray⟩).map (·.data.toList) = cutAt c s := by simpa [h2] using h
  rw [← h3, List.map_map]
  refine List.map_congr_left fun x _ => ?_
  simp [S]
theorem cutAt_length (c : UInt8) (s : Str) : (cutAt c s).length = s.count c + 1 := by
  have h := splitB_cut c s
  have h1 := congrArg List.length h
  simp only [List.length_map] at h1
  rw [← h1, Lib.splitB_all ⟨#[c]⟩ (Nat.le_refl 1) 0 _ _ rfl]
  unfold Lib.countB; simp [Lib.count_one]
theorem cutAt_mem_len {c : UInt8} : ∀ {s p : Str}, p ∈ cutAt c s → p.length ≤ s.length
  | [], p, h => by simp [cutAt] at h; subst h; simp
  | x :: r, p, h => by
    unfold cutAt at h
    split at h
    · rcases List.mem_cons.1 h with rfl | h
      · simp
      · have := cutAt_mem_len h; simp; omega
    · split at h
      · rename_i hd tl he
        rcases List.mem_cons.1 h with rfl | h
        · have := cutAt_mem_len (s := r) (p := hd) (c := c) (by rw [he]; simp); simp; omega
        · have := cutAt_mem_len (s := r) (p := p) (c := c) (by rw [he]; simp [h]); simp; omega
      · simp at h; subst h; simp
end Go.Proofs.YtikboodjfanjkaaGreatDoor
namespace Go.Proofs.YtikboodjfanjkaaGreatDoor
open Go.RowKit

/-- What the library's search reads: some number. -/
structure LMax (B : Nat) (w : World) : Prop where
  max : ∃ m, w.cell? ⟨13, 0, none⟩ = some (.int .i64 m)
  low : 21 ≤ B
  le : B ≤ w.heap.size
theorem LMax.below {B : Nat} {w w' : World} (h : LMax B w) (hb : Below B w w') : LMax B w' := by
  obtain ⟨m, hm⟩ := h.max
  have := h.low
  exact ⟨⟨m, (hb.cell (p := ⟨13, 0, none⟩) (by simp; omega)).trans hm⟩, h.low, Nat.le_trans h.le hb.size⟩
theorem LMax.below' {B B' : Nat} {w w' : World} (h : LMax B w) (hb : Below B' w w') (hB : B ≤ B') : LMax B w' := h.below (hb.mono hB)

theorem encS_map (l : List Str) : l.map S = l.flatMap encS := by
  induction l with
  | nil => rfl
  | cons x r ih => simp [ih]

/-- strings.Split(s, c), c one byte. -/
theorem split1_any (B : Nat) (s : Str) (c : UInt8) (w : World) (hM : LMax B w) (hs : s.length ≤ 100000) :
    Calls Tryz.prog 99 #[S s, .string ⟨#[c]⟩] w fun e w' => e = .returned (.slice (some ⟨w.heap.size, 0, none⟩) (cutAt c s).length (cutAt c s).length) ∧ Own encS 9 1 w.heap.size w' (.slice (some ⟨w.heap.size, 0, none⟩) (cutAt c s).length (cutAt c s).length) (cutAt c s) ∧ Below w.heap.size w w' := by
  obtain ⟨m, hm⟩ := hM.max
  refine (Tryz.strings_Split ⟨s.toArray⟩ ⟨#[c]⟩ m w (by show s.toArray.size < _; simp; omega) hm (Nat.le_refl 1)).mono ?_
  rintro e w' ⟨rfl, rfl⟩
  have hlen : Lib.countB ⟨s.toArray⟩ ⟨#[c]⟩ + 1 = (cutAt c s).length := by
    rw [cutAt_length]; unfold Lib.countB; simp [Lib.count_one]
  rw [hlen]
  refine ⟨rfl, ?_, (Below.refl _ _).alloc (Nat.le_refl _) _⟩
  have hc := splitB_cut c s
  refine ⟨by rw [← encS_map]; simp, .inr ⟨w.heap.size, _, _, rfl, Nat.le_refl _, heap_alloc_new w _, Nat.le_refl _, ?_, ?_, ?_⟩⟩
  · have := cutAt_length c s
    have h2 : s.count c ≤ s.length := List.count_le_length
    unfold maxLen; omega
  · have := congrArg List.length hc
    simp at this ⊢; omega
  · rw [← encS_map, ← hc]
    have := congrArg List.length hc
    simp only [List.length_map] at this
    rw [List.take_of_length_le (by simp; omega)]

/-- s[k:] of a slice. -/
theorem slice_from {α : Type} {P : Program} {t e : TypeId} {enc : α → List Value} {sz : Nat} {w : World} {a : Option Addr} {c b o : Nat} {l : List α} (ht : P.underlying t = some (.slice e)) (hsz : ∀ w, (sizeOf e).run P w = .ok sz w)
    (ha : 0 < l.length → a = some ⟨b, o, none⟩) (hc : l.length ≤ c) (hcm : c ≤ maxLen) (hx : ∀ k x, l[k]? = some x → ∀ j u, (enc x)[j]? = some u → w.cell? ⟨b, o + k * sz + j, none⟩ = some u) (k : Nat) (hk : k ≤ l.length) (hk0 : 0 < l.length) :
    ∃ b' o' c', (∀ W, (Instr.slice t (.slice a l.length c) (some (.int .i64 (k : Int))) none none).run P W = .ok (.slice (some ⟨b', o', none⟩) (l.length - k) c') W) ∧ At enc sz w (.slice (some ⟨b', o', none⟩) (l.length - k) c') (l.drop k) := by
  obtain rfl := ha hk0
  have hu : P.elem t = e := by simp [Program.elem, ht]
  have hadd : (⟨b, o, none⟩ : Addr).add (k * sz) = ⟨b, o + k * sz, none⟩ := by unfold Addr.add; split <;> simp_all
  by_cases h : c = k
  · refine ⟨b, o, c - k, fun W => ?_, ?_⟩
    · have hk' : (k : Int) ≤ l.length := by omega
      simp [Instr.slice, Instr.sliceBounds, run_underlying ht, hsz, hk, h, go_sem]
    · have hl : l.length = k := by omega
      refine ⟨_, c - k, b, o, by rw [List.length_drop], fun _ => rfl, by simp; omega, by omega, fun i x hi j u hu => ?_⟩
      rw [List.drop_of_length_le (by omega)] at hi; simp at hi
  · refine ⟨b, o + k * sz, c - k, fun W => ?_, ?_⟩
    · have hk' : (k : Int) ≤ l.length := by omega
      simp [Instr.slice, Instr.sliceBounds, run_underlying ht, hsz, hk, h, go_sem]
    · refine ⟨_, c - k, b, o + k * sz, by rw [List.length_drop], fun _ => rfl, by simp; omega, by omega, fun i x hi j u hu => ?_⟩
      rw [List.getElem?_drop] at hi
      have := hx (k + i) x hi j u hu
      rwa [show o + k * sz + i * sz + j = o + (k + i) * sz + j by rw [Nat.add_mul]; omega]
end Go.Proofs.YtikboodjfanjkaaGreatDoor
namespace Go.Proofs.YtikboodjfanjkaaGreatDoor
open Go.RowKit

section
variable {α : Type} {enc : α → List Value} {e : TypeId} {sz B : Nat} {w : World} {v : Value} {l : List α}

theorem Own.open (h : Own enc e sz B w v l) (hpos : 0 < l.length) : ∃ g cap cur, v = .slice (some ⟨g, 0, none⟩) l.length cap ∧ B ≤ g ∧ w.heap[g]? = some (.cells cur e (0, 0)) ∧ l.length ≤ cap ∧ cap ≤ maxLen ∧ cur.size = cap * sz ∧ cur.toList.take (l.length * sz) = l.flatMap enc := by
  obtain ⟨_, h2⟩ := h
  rcases h2 with ⟨_, h0⟩ | ⟨g, cap, cur, h⟩
  · omega
  · exact ⟨g, cap, cur, h⟩
theorem Own.mk {g cap n : Nat} {cur : Array Value} (hen : Enc enc sz) (hn : l.length = n) (hB : B ≤ g) (hg : w.heap[g]? = some (.cells cur e (0, 0))) (hc : n ≤ cap) (hm : cap ≤ maxLen) (hs : cur.size = cap * sz) (ht : cur.toList.take (n * sz) = l.flatMap enc) : Own enc e sz B w (.slice (some ⟨g, 0, none⟩) n cap) l := by
  subst hn
  exact ⟨flat_length hen l, .inr ⟨g, cap, cur, rfl, hB, hg, hc, hm, hs, ht⟩⟩

/-- s[:k] of such a slice. -/
theorem Own.cut {g n cap k : Nat} (hen : Enc enc sz) (h : Own enc e sz B w (.slice (some ⟨g, 0, none⟩) n cap) l) (hk : k ≤ l.length) (hpos : 0 < l.length) : Own enc e sz B w (.slice (some ⟨g, 0, none⟩) k cap) (l.take k) := by
  obtain ⟨g', cap', cur, hv, hB, hg, hc, hm, hs, ht⟩ := h.open hpos
  cases hv
  refine Own.mk hen (by simp; omega) hB hg (by omega) hm hs ?_
  have : l.flatMap enc = (l.take k).flatMap enc ++ (l.drop k).flatMap enc := by rw [← List.flatMap_append, List.take_append_drop]
  have hl : ((l.take k).flatMap enc).length = k * sz := by rw [flat_length hen, List.length_take, Nat.min_eq_left hk]
  have h1 : (cur.toList.take (l.length * sz)).take (k * sz) = cur.toList.take (k * sz) := by
    rw [List.take_take, Nat.min_eq_left (Nat.mul_le_mul_right _ hk)]
  rw [← h1, ht, this, ← hl, List.take_left]

theorem frozen_row {g i : Nat} {cur : Array Value} (hg : w.heap[g]? = some (.cells cur e (0, 0))) : w.frozen? ⟨g, i, none⟩ = false := by
  simp [World.frozen?, hg]
end

theorem flat_one {α : Type} (val : α → Value) (l : List α) : l.flatMap (fun x => [val x]) = l.map val := by
  induction l with
  | nil => rfl
  | cons x r ih => simp [ih]

/-- One element of one cell is written. -/
theorem Own.set1 {α : Type} {val : α → Value} {e : TypeId} {B : Nat} {w : World} {g n cap i : Nat} {l : List α} (hen : Enc (fun x => [val x]) 1) (h : Own (fun x => [val x]) e 1 B w (.slice (some ⟨g, 0, none⟩) n cap) l) (hi : i < l.length) (x : α) :
    Own (fun x => [val x]) e 1 B (w.setCell ⟨g, i, none⟩ (val x)) (.slice (some ⟨g, 0, none⟩) n cap) (l.set i x) := by
  obtain ⟨g', cap', cur, hv, hB, hg, hc, hm, hs, ht⟩ := h.open (by omega)
  cases hv
  have hlt : g < w.heap.size := (Array.getElem?_eq_some_iff.1 hg).1
  refine Own.mk (cur := cur.setIfInBounds i (val x)) hen (by simp) hB ?_ (by omega) hm (by simpa using hs) ?_
  · simp only [World.setCell, Array.getElem?_modify, hg]
    rfl
  · rw [flat_one] at ht ⊢
    simp only [Nat.mul_one] at ht ⊢
    rw [Array.toList_setIfInBounds, List.take_set, ht, List.map_set]

/-- The cells behind are cleared: what lies ahead stays. -/
theorem Own.setRow {α : Type} {enc : α → List Value} {e : TypeId} {sz B : Nat} {w : World} {g n cap k : Nat} {l : List α} {cs : Array Value} (hen : Enc enc sz) (h : Own enc e sz B w (.slice (some ⟨g, 0, none⟩) n cap) l) (hpos : 0 < l.length) (hk : k ≤ l.length) (hsz : cs.size = cap * sz)
    (ht : ∀ cur, w.heap[g]? = some (.cells cur e (0, 0)) → cs.toList.take (k * sz) = cur.toList.take (k * sz)) : Own enc e sz B (w.setRow g cs) (.slice (some ⟨g, 0, none⟩) k cap) (l.take k) := by
  have h' := h.cut (k := k) hen hk hpos
  obtain ⟨g', cap', cur, hv, hB, hg, hc, hm, hs, ht'⟩ := h.open hpos
  cases hv
  refine Own.mk (cur := cs) hen (by simp; omega) hB (setRow_heap w g cur cs e _ hg) (by omega) hm hsz ?_
  rw [ht cur hg]
  have : l.flatMap enc = (l.take k).flatMap enc ++ (l.drop k).flatMap enc := by rw [← List.flatMap_append, List.take_append_drop]
  have hl : ((l.take k).flatMap enc).length = k * sz := by rw [flat_length hen, List.length_take, Nat.min_eq_left hk]
  have h1 : (cur.toList.take (l.length * sz)).take (k * sz) = cur.toList.take (k * sz) := by
    rw [List.take_take, Nat.min_eq_left (Nat.mul_le_mul_right _ hk)]
  rw [← h1, ht', this, ← hl, List.take_left]
theorem Bset {B : Nat} {a w : World} (h : Below B a w) {g : Nat} (hg : B ≤ g) (cs : Array Value) : Below B a (w.setRow g cs) :=
  h.trans ⟨rfl, rfl, rfl, by simp [World.setRow], fun k hk => setRow_other w g k cs (by omega)⟩

/-- clear(s[k:]) of such a slice. -/
theorem run_clear_own {α : Type} {P : Program} {enc : α → List Value} {t e : TypeId} {sz bytes B : Nat} {w : World} {g n cap k : Nat} {l : List α} (hE : ElemInfo P t e sz bytes) (hen : Enc enc sz) (hz1 : ∀ z, (P.info? e).bind (·.zero) = some z → ∀ u ∈ z.cells.toList, u.oneCell' = true)
    (h : Own enc e sz B w (.slice (some ⟨g, 0, none⟩) n cap) l) (hk : k < l.length) (c : Nat) :
    ∃ cs : Array Value, (∀ ty, (Builtin.clear_ #[t] ty #[.slice (some ⟨g, k * sz, none⟩) (n - k) c]).run P w = .ok (.tuple #[]) (w.setRow g cs)) ∧ Own enc e sz B (w.setRow g cs) (.slice (some ⟨g, 0, none⟩) k cap) (l.take k) := by
  obtain ⟨i, z, ht, hi, hz, hsize, hby, hzs, hsz⟩ := hE
  obtain ⟨g', cap', cur, hv, hB, hg, hc, hm, hs, ht'⟩ := h.open (by omega)
  cases hv
  have hnz : (Builtin.zeroCells z.cells (l.length - k)).size = (l.length - k) * sz := by rw [size_zeroCells, hzs]
  have hone : ∀ u ∈ (Builtin.zeroCells z.cells (l.length - k)).toList, u.oneCell' = true := by
    intro u hu
    have hz' := hz1 z (by rw [hi]; exact hz)
    obtain ⟨j, hj, rfl⟩ := Array.getElem_of_mem (Array.mem_def.2 hu)
    simp only [Builtin.zeroCells, Array.getElem_map, Array.getElem_range]
    rw [getElem!_pos z.cells (j % z.cells.size) (Nat.mod_lt _ (by omega))]
    exact hz' _ (by simp)
  have hmul : k * sz + (l.length - k) * sz = l.length * sz := by rw [← Nat.add_mul]; congr 1; omega
  have hle : l.length * sz ≤ cap * sz := Nat.mul_le_mul_right _ hc
  have hrun := run_storeCells_at P g (k * sz) e (Builtin.zeroCells z.cells (l.length - k)).toList 0 cur w hg (by rw [Array.length_toList, hnz]; omega) hone
  simp only [Nat.add_zero] at hrun
  refine ⟨(cur.toList.take (k * sz) ++ (Builtin.zeroCells z.cells (l.length - k)).toList ++ cur.toList.drop (k * sz + (Builtin.zeroCells z.cells (l.length - k)).toList.length)).toArray, fun ty => ?_, h.setRow hen (by omega) (by omega) ?_ ?_⟩
  · obtain ⟨d, hd⟩ : ∃ d, l.length - k = d + 1 := ⟨l.length - k - 1, by omega⟩
    rw [hd] at hrun ⊢
    simp [Builtin.clear_, run_underlying ht, zeroValue, typeInfo, hi, hz, hrun]
  · simp [hnz, Array.length_toList]; omega
  · intro cur' hg'
    rw [hg] at hg'
    cases hg'
    simp only [List.append_assoc]
    rw [List.take_append_of_le_length (by simp; omega), List.take_take, Nat.min_self]
end Go.Proofs.YtikboodjfanjkaaGreatDoor
namespace Go.Proofs.YtikboodjfanjkaaGreatDoor
open Go.RowKit

theorem dropWhile_nilP {α : Type} {p : α → Bool} : ∀ {l : List α}, l.dropWhile p = [] ↔ l.all p = true
  | [] => by simp
  | a :: r => by
    rw [List.dropWhile_cons, List.all_cons]
    cases h : p a with
    | true => simp [dropWhile_nilP (l := r)]
    | false => simp
theorem trimS_nilP (l cs : Str) : Lib.trimS l cs = [] ↔ l.all (fun b => cs.contains b) = true := by
  have hr : Lib.trimRightS l cs = [] ↔ l.all (fun b => cs.contains b) = true := by
    unfold Lib.trimRightS
    rw [List.reverse_eq_nil_iff, dropWhile_nilP, List.all_reverse]
  unfold Lib.trimS
  constructor
  · intro h
    refine hr.1 ?_
    unfold Lib.trimLeftS at h
    rw [dropWhile_nilP] at h
    cases hd : l.reverse.dropWhile (fun b => cs.contains b) with
    | nil => unfold Lib.trimRightS; rw [hd]; rfl
    | cons a r =>
      have ha : cs.contains a = false := by
        have := List.head?_dropWhile_not (fun b => cs.contains b) l.reverse
        rw [hd] at this
        simpa using this
      have hm : a ∈ Lib.trimRightS l cs := by unfold Lib.trimRightS; rw [hd]; simp
      have := List.all_eq_true.1 h a hm
      rw [ha] at this; cases this
  · intro h
    rw [hr.2 h]; rfl
end Go.Proofs.YtikboodjfanjkaaGreatDoor
namespace Go.Proofs.YtikboodjfanjkaaGreatDoor
open Go.RowKit

abbrev encF (f : Fl) : List Value := [S f.path, S f.part, .int .i64 f.n, .int .i64 f.lo, .int .i64 f.hi, .int .i64 f.seq]
theorem encF_enc : Enc encF 6 := fun x => ⟨rfl, by simp [Value.oneCell']⟩
abbrev FilesAt (w : World) (v : Value) (l : List Fl) : Prop := At encF 6 w v l
theorem szFl (w : World) : (sizeOf 50).run Tryz.prog w = .ok 6 w := by kernel_rfl
theorem elFl : ElemInfo Tryz.prog 28 50 6 64 := elemInfo_of Tryz.underlying28 (z := .agg #[.string ByteArray.empty, .string ByteArray.empty, .int .i64 0, .int .i64 0, .int .i64 0, .int .i64 0]) (by kernel_rfl) rfl (by decide)
abbrev fileV (f : Fl) : Value := .agg #[S f.path, S f.part, .int .i64 f.n, .int .i64 f.lo, .int .i64 f.hi, .int .i64 f.seq]
abbrev fileO (f : Fl) : Obj := .cells #[S f.path, S f.part, .int .i64 f.n, .int .i64 f.lo, .int .i64 f.hi, .int .i64 f.seq] 50

theorem cutSl_any (B : Nat) (s : Str) (w : World) (hM : LMax B w) (hs : s.length ≤ 100000) :
    Calls Tryz.prog 119 #[S s, .string ⟨#[47]⟩] w fun e w' => e = .returned (.tuple #[S (Lib.cut s [47]).1, S (Lib.cut s [47]).2.1, .bool (Lib.cut s [47]).2.2]) ∧ Below w.heap.size w w' := by
  obtain ⟨m, hm⟩ := hM.max
  refine (Tryz.strings_Cut ⟨s.toArray⟩ ⟨#[47]⟩ m w (by show s.toArray.size < _; simp; omega) hm).mono ?_
  rintro e w' ⟨rfl, n, rfl⟩
  exact ⟨rfl, Bdn (Below.refl _ _) n⟩
theorem cut_len (s sep : Str) : (Lib.cut s sep).1.length ≤ s.length ∧ (Lib.cut s sep).2.1.length ≤ s.length := by
  unfold Lib.cut
  split
  · simp; omega
  · simp

set_option maxRecDepth 20000 in
theorem fileNumber_any (E : Nat → Addr) (B : Nat) (p : Str) (w : World) (hE : Errs [5] E B w) (hT : LNum B w) (hM : LMax B w) (hs : p.length ≤ 100000) :
    Calls Tryz.prog 143 #[S p] w fun e w' => ∃ ev, e = .returned (.tuple #[S (kindF p), .int .i64 (numF p), ev]) ∧ ErV E w' ev (if (pathF p).isSome then .nil else .bare 5) ∧ Below w.heap.size w w' := by
  have hcl := (cut_len p [47]).2
  have hpf : pathF p = if (Lib.cut p [47]).2.2 = true ∧ ((Lib.cut p [47]).1 = kData ∨ (Lib.cut p [47]).1 = kGone) then
    (numOf (Lib.cut p [47]).2.1).bind fun n => if n < 1 ∨ 1073741824 < n then none else some ((Lib.cut p [47]).1, n) else none := rfl
  have hk : kindF p = ((pathF p).getD ([], 0)).1 := rfl
  have hn : numF p = ((pathF p).getD ([], 0)).2 := rfl
  have hcut := cutSl_any B p w hM hs
  generalize (Lib.cut p [47]).1 = k at *
  generalize (Lib.cut p [47]).2.1 = d at *
  generalize (Lib.cut p [47]).2.2 = is at *
  generalize pathF p = pf at *
  have hE1 := fun w1 (hb : Below w.heap.size w w1) => (hE.below' hb hE.le).var 5 (by decide)
  simp only [errG] at hE1
  have HE1 := Lib.hid hE1
  clear hE1
  have HK := Lib.hid hk; have HN := Lib.hid hn; have HP := Lib.hid hpf; have HC := Lib.hid hcut
  clear hk hn hpf hcut
  go_enter Tryz.func143, Tryz.ntmps143
  go_wp2_with fail
  refine HC.out.mono ?_
  rintro e w1 ⟨rfl, hb1⟩
  go_wp2_with fail
  refine (number_any B d _ (hT.below' hb1 hT.le) (by omega)).mono ?_
  rintro e w2 ⟨rfl, hb2⟩
  have hb2' := hb1.trans (hb2.mono hb1.size)
  have v5 := HE1.out _ hb2'
  obtain ⟨m, hm⟩ : ∃ m, atoiN d = m := ⟨_, rfl⟩
  obtain ⟨o, ho⟩ : ∃ o, numOf d = o := ⟨_, rfl⟩
  have hom : ∀ n, o = some n → m = n := fun n h => by rw [← hm, ← numOf_atoiN (ho.trans h)]
  rw [hm, ho]
  have HO := Lib.hid ho
  clear hm ho hb1 hb2
  cases is with
  | false =>
    have hp : pf = none := by rw [HP.out]; simp
    subst hp
    have HK' := Lib.hid (HK.out.trans rfl); have HN' := Lib.hid (HN.out.trans rfl)
    clear hom
    go_wp2_with fail
    go_quiet (fail)
    go_wp2_with fail
    go_ret3
    exact ⟨_, by rw [HK'.out, HN'.out]; rfl, ⟨by decide, rfl⟩, Bdn hb2' _⟩
  | true =>
    by_cases hk1 : k = kData ∨ k = kGone
    case neg =>
      have g1 : (k == kData) = false := by simp only [beq_eq_false_iff_ne]; exact fun e => hk1 (.inl e)
      have g2 : (k == kGone) = false := by simp only [beq_eq_false_iff_ne]; exact fun e => hk1 (.inr e)
      have hp : pf = none := by rw [HP.out, if_neg (fun h => hk1 h.2)]
      subst hp
      clear hom hk1
      have HK' := Lib.hid (HK.out.trans rfl); have HN' := Lib.hid (HN.out.trans rfl)
      go_wp2_with fail
      go_quiet (fail)
      go_wp2_with fail
      go_ret3
      exact ⟨_, by rw [HK'.out, HN'.out]; rfl, ⟨by decide, rfl⟩, Bdn hb2' _⟩
    have hp0 : pf = o.bind fun n => if n < 1 ∨ 1073741824 < n then none else some (k, n) := by rw [HP.out, if_pos ⟨rfl, hk1⟩, HO.out]
    have HP0 := Lib.hid hp0
    have hkk : k.length ≤ 4 := by rcases hk1 with rfl | rfl <;> decide
    rcases hk1 with rfl | rfl
    all_goals
      clear hp0
      cases o with
      | none =>
        have hp : pf = none := by rw [HP0.out]; rfl
        subst hp
        clear hom
        have HK' := Lib.hid (HK.out.trans rfl); have HN' := Lib.hid (HN.out.trans rfl)
        go_wp2_with fail
        go_quiet (fail)
        go_wp2_with fail
        go_ret3
        exact ⟨_, by rw [HK'.out, HN'.out]; rfl, ⟨by decide, rfl⟩, Bdn hb2' _⟩
      | some n =>
        obtain rfl : m = n := hom n rfl
        clear hom
        by_cases h1 : m < 1
        case pos =>
          have hp : pf = none := by rw [HP0.out, Option.bind_some, if_pos (.inl h1)]
          subst hp
          have HK' := Lib.hid (HK.out.trans rfl); have HN' := Lib.hid (HN.out.trans rfl)
          go_wp2_with fail
          go_quiet (fail)
          go_wp2_with fail
          go_ret3
          exact ⟨_, by rw [HK'.out, HN'.out]; rfl, ⟨by decide, rfl⟩, Bdn hb2' _⟩
        by_cases h2 : 1073741824 < m
        case pos =>
          have hp : pf = none := by rw [HP0.out, Option.bind_some, if_pos (.inr h2)]
          subst hp
          have g1 : decide (m < 1) = false := by simpa using h1
          have HK' := Lib.hid (HK.out.trans rfl); have HN' := Lib.hid (HN.out.trans rfl)
          go_wp2_with fail
          go_quiet (fail)
          go_wp2_with fail
          go_ret3
          exact ⟨_, by rw [HK'.out, HN'.out]; rfl, ⟨by decide, rfl⟩, Bdn hb2' _⟩
        have hp := HP0.out
        rw [Option.bind_some, if_neg (by omega)] at hp
        subst hp
        have g1 : decide (m < 1) = false := by simpa using h1
        have g2 : decide (1073741824 < m) = false := by simpa using h2
        have HK' := Lib.hid (HK.out.trans rfl); have HN' := Lib.hid (HN.out.trans rfl)
        go_wp2_with fail
        go_ret3
        exact ⟨_, by rw [HK'.out, HN'.out]; rfl, rfl, hb2'⟩

theorem trimPart_any (s : Str) (w : World) (hs : s.length ≤ 100000) :
    Calls Tryz.prog 168 #[S s, .string ⟨#[97, 98, 99, 100, 101, 102, 103, 104, 105, 106, 107, 108, 109, 110, 111, 112, 113, 114, 115, 116, 117, 118, 119, 120, 121, 122, 48, 49, 50, 51, 52, 53, 54, 55, 56, 57]⟩] w
      fun e w' => e = .returned (S (Lib.trimS s partSigns)) ∧ Below w.heap.size w w' := by
  have h := Any.strings_Trim_laid Tryz.lays160 (by kernel_rfl) ⟨s.toArray⟩ ⟨partSigns.toArray⟩ w (by simp [ByteArray.size]; omega) (by decide) (ascii_of_all (by decide))
  exact h
set_option maxRecDepth 20000 in
theorem part_any (k s : Str) (w : World) (hs : s.length ≤ 100000) :
    Calls Tryz.prog 144 #[S k, S s] w fun e w' => e = .returned (.bool (partOk k s)) ∧ Below w.heap.size w w' := by
  unfold partOk
  by_cases hk : k = kGone
  · subst hk
    rw [if_pos rfl]
    go_enter Tryz.func144, Tryz.ntmps144
    go_wp2_with fail
    go_ret
    exact ⟨rfl, Below.refl _ _⟩
  rw [if_neg hk]
  have gk : (k == kGone) = false := by simpa using hk
  by_cases h0 : s = []
  · subst h0
    go_enter Tryz.func144, Tryz.ntmps144
    go_wp2_with fail
    go_ret
    exact ⟨rfl, Below.refl _ _⟩
  have g0 : (!s.isEmpty) = true := by simpa using h0
  have e0 : decide (s ≠ []) = true := by simpa using h0
  rw [e0, Bool.true_and]
  by_cases h1 : s.length ≤ 12
  · have g1 : decide ((s.length : Int) ≤ 12) = true := by simp; omega
    have g2 : (s.length : Int) ≤ 12 := by omega
    have e1 : decide (s.length ≤ 12) = true := by simpa using h1
    rw [e1, Bool.true_and]
    go_enter Tryz.func144, Tryz.ntmps144
    go_wp2_with fail
    refine (trimPart_any s _ hs).mono ?_
    rintro e w1 ⟨rfl, hb1⟩
    have hT : (Lib.trimS s partSigns).isEmpty = s.all (fun b => partSigns.contains b) := by
      rw [Bool.eq_iff_iff, List.isEmpty_iff, trimS_nilP]
    have HT := Lib.hid hT; clear hT
    generalize Lib.trimS s partSigns = T at *
    go_wp2_with fail
    go_ret
    exact ⟨ret_bool (by first | exact HT.out | (rw [← HT.out]; cases T <;> rfl)), hb1⟩
  · have g1 : decide ((s.length : Int) ≤ 12) = false := by simp; omega
    have e1 : decide (s.length ≤ 12) = false := by simpa using h1
    rw [e1, Bool.false_and]
    go_enter Tryz.func144, Tryz.ntmps144
    go_wp2_with fail
    go_ret
    exact ⟨rfl, Below.refl _ _⟩
theorem far_any (n : Int) (w : World) :
    Calls Tryz.prog 57 #[.int .i64 n] w fun e w' => e = .returned (.bool (decide (farN n))) ∧ w = w' := by
  by_cases h1 : n < -1073741824
  · have g : decide (farN n) = true := decide_eq_true (.inl h1)
    rw [g]
    clear g
    go_enter Tryz.func57, Tryz.ntmps57
    go_wp2_with fail
    go_ret
    exact ⟨rfl, rfl⟩
  · have g1 : decide (n < -1073741824) = false := by simpa using h1
    by_cases h2 : 1073741824 < n
    · have g : decide (farN n) = true := decide_eq_true (.inr h2)
      rw [g]
      clear g h1
      go_enter Tryz.func57, Tryz.ntmps57
      go_wp2_with fail
      go_ret
      exact ⟨rfl, rfl⟩
    · have g : decide (farN n) = false := decide_eq_false (fun h => h.elim h1 h2)
      have g2 : decide (1073741824 < n) = false := by simpa using h2
      rw [g]
      clear g h1 h2
      go_enter Tryz.func57, Tryz.ntmps57
      go_wp2_with fail
      go_ret
      exact ⟨rfl, rfl⟩
end Go.Proofs.YtikboodjfanjkaaGreatDoor
namespace Go.Proofs.YtikboodjfanjkaaGreatDoor
open Go.RowKit

theorem ownFiles_any (v : Value) (l : List Fl) (w : World) (hl : FilesAt w v l) (hn : l.length ≤ 100000) :
    Calls Tryz.prog 30 #[v] w fun e w' => ∃ v', e = .returned v' ∧ Own encF 50 6 w.heap.size w' v' l ∧ Below w.heap.size w w' := by
  have hs := hl.src encF_enc (by decide)
  go_enter Tryz.func30, Tryz.ntmps30
  go_wp2_with (at_builtin; refine wpList_app rfl _ _ _ rfl w.heap.size elFl (.slice none 0 0) 0 [] rfl (Own.nil encF _ 6 _ _) _ _ _ rfl hs (by unfold maxLen; omega) (by omega) (Nat.le_refl _) ?_; intro v' w1 hown hg _)
  go_ret
  exact ⟨_, rfl, by simpa [Own] using hown, (Below.refl _ _).grown hg (Nat.le_refl _) (fun k hk => by cases hk)⟩

def shortF (f : Fl) : Prop := f.path.length ≤ 30 ∧ f.part.length ≤ 30
instance (f : Fl) : Decidable (shortF f) := inferInstanceAs (Decidable (_ ∧ _))
def midF (f : Fl) : Prop := f.path.length ≤ 100000 ∧ f.part.length ≤ 100000
instance (f : Fl) : Decidable (midF f) := inferInstanceAs (Decidable (_ ∧ _))
theorem shortF.mid {f : Fl} (h : shortF f) : midF f := ⟨by have := h.1; omega, by have := h.2; omega⟩
set_option maxRecDepth 20000 in
theorem longFile_any (f : Fl) (w : World) :
    Calls Tryz.prog 29 #[fileV f] w fun e w' => e = .returned (.int .i64 (if shortF f then 0 else 1)) ∧ Below w.heap.size w w' := by
  have hb : Below w.heap.size w (w.alloc (fileO f)) := (Below.refl _ _).alloc (Nat.le_refl _) _
  by_cases h1 : f.path.length ≤ 30
  · have g1 : decide ((30 : Int) < (f.path.length : Int)) = false := by simp; omega
    by_cases h2 : f.part.length ≤ 30
    · rw [if_pos (show shortF f from ⟨h1, h2⟩)]
      have g2 : decide ((30 : Int) < (f.part.length : Int)) = false := by simp; omega
      go_enter Tryz.func29, Tryz.ntmps29
      go_wp2_with fail
      go_ret
      exact ⟨rfl, by first | exact hb | exact Below.refl _ _⟩
    · rw [if_neg (fun h : shortF f => h2 h.2)]
      have g2 : (30 : Int) < (f.part.length : Int) := by omega
      go_enter Tryz.func29, Tryz.ntmps29
      go_wp2_with fail
      go_ret
      exact ⟨rfl, by first | exact hb | exact Below.refl _ _⟩
  · rw [if_neg (fun h : shortF f => h1 h.1)]
    have g1 : (30 : Int) < (f.path.length : Int) := by omega
    go_enter Tryz.func29, Tryz.ntmps29
    go_wp2_with fail
    go_ret
    exact ⟨rfl, by first | exact hb | exact Below.refl _ _⟩

set_option maxRecDepth 20000 in
theorem longFiles_any (v : Value) (l : List Fl) (w : World) (hl : FilesAt w v l) :
    Calls Tryz.prog 28 #[v] w fun e w' => (e = .returned (.int .i64 1) ∨ (e = .returned (.int .i64 0) ∧ l.length ≤ 61 ∧ ∀ f ∈ l, shortF f)) ∧ Below w.heap.size w w' := by
  obtain ⟨a, c, b, o, rfl, ha, hc, hcm, hx⟩ := hl
  unfold maxLen at hcm
  by_cases h61 : l.length ≤ 40 ∨ l.length = 60 ∨ l.length = 61
  case neg =>
    have g1 : (40 : Int) < (l.length : Int) := by omega
    have g2 : ((l.length : Int) != 60) = true := by simp; omega
    have g3 : ((l.length : Int) != 61) = true := by simp; omega
    go_enter Tryz.func28, Tryz.ntmps28
    go_wp2_with fail
    go_ret
    exact ⟨.inl rfl, Below.refl _ _⟩
  have h61' : l.length ≤ 61 := by omega
  have hg : decide ((40 : Int) < (l.length : Int)) = false ∨ (decide ((40 : Int) < (l.length : Int)) = true ∧ (((l.length : Int) != 60) = false ∨ (((l.length : Int) != 60) = true ∧ ((l.length : Int) != 61) = false))) := by
    rcases h61 with h | h | h
    · exact .inl (by simp; omega)
    · exact .inr ⟨by simp; omega, .inl (by simp; omega)⟩
    · exact .inr ⟨by simp; omega, .inr ⟨by simp; omega, by simp; omega⟩⟩
  clear h61
  go_enter Tryz.func28, Tryz.ntmps28
  rcases hg with g1 | ⟨g1, g2 | ⟨g2, g3⟩⟩
  all_goals
    go_wp2_with fail
    go_loopw [3] (fun i wr => ∃ k : Nat, k ≤ l.length ∧ i = .int .i64 k ∧ Hid (∀ j < k, ∀ x, l[j]? = some x → shortF x) ∧ Below w.heap.size w wr) (fun i _ => l.length - (intOf i).toNat)
    case atStart => exact ⟨0, by omega, rfl, Lib.hid fun j hj => absurd hj (by omega), Below.refl _ _⟩
    case round =>
      obtain ⟨k, hk, rfl, hj, hb⟩ := hrel
      clear g1
      by_cases hlt : k < l.length
      case neg =>
        have f : decide ((k : Int) < (l.length : Int)) = false := by simp; omega
        go_wp2_with fail
        go_ret
        exact ⟨.inr ⟨rfl, h61', fun x hx => by
          obtain ⟨j, hj'⟩ := List.getElem?_of_mem hx
          exact hj.out j (by have := (List.getElem?_eq_some_iff.1 hj').1; omega) x hj'⟩, hb⟩
      obtain ⟨x, hxk⟩ := get_ex hlt
      have c0 := hx k x hxk 0 _ rfl
      have c1 := hx k x hxk 1 _ rfl
      have c2 := hx k x hxk 2 _ rfl
      have c3 := hx k x hxk 3 _ rfl
      have c4 := hx k x hxk 4 _ rfl
      have c5 := hx k x hxk 5 _ rfl
      have c0 := (hb.cell (World.block_lt_of_cell? w _ c0)).trans c0
      have c1 := (hb.cell (World.block_lt_of_cell? w _ c1)).trans c1
      have c2 := (hb.cell (World.block_lt_of_cell? w _ c2)).trans c2
      have c3 := (hb.cell (World.block_lt_of_cell? w _ c3)).trans c3
      have c4 := (hb.cell (World.block_lt_of_cell? w _ c4)).trans c4
      have c5 := (hb.cell (World.block_lt_of_cell? w _ c5)).trans c5
      have i1 := idx_at (c := c) 6 Tryz.underlying28 szFl ha k hlt
      have f : (k : Int) < (l.length : Int) := by omega
      simp only [Nat.add_zero] at c0
      have Hx := Lib.hid hxk; clear hxk
      go_wp2_with fail
      refine (longFile_any x _).mono ?_
      rintro e w1 ⟨rfl, hb1⟩
      have hb' := hb.trans (hb1.mono hb.size)
      by_cases e1 : shortF x
      · rw [if_pos e1]
        have K1 := Lib.hid e1; clear e1
        go_wp2_with fail
        refine ⟨⟨k + 1, by omega, by go_num, Lib.hid fun j hj' y hy => by
          rcases Nat.lt_or_ge j k with h | h
          · exact hj.out j h y hy
          · obtain rfl : j = k := by omega
            rw [Hx.out] at hy
            cases hy
            exact K1.out, hb'⟩, ?_⟩
        simp [intOf]; omega
      · rw [if_neg e1]
        clear e1
        go_wp2_with fail
        go_ret
        exact ⟨.inl rfl, hb'⟩
end Go.Proofs.YtikboodjfanjkaaGreatDoor
