/- Lists of files in plain words: of no program. A text cut by a byte: strings.Split by one byte, in plain words. Lists of files written and read, in plain words. Of no program. The checksum in plain words: of each byte what its bits make; one byte another one, and the sum is another one. Of no program. Texts in a block: a head of a word and four numbers, a body of lines; one byte of it turned. In plain words. -/
import Derived.Test.YtefoaeamfkbgbaaGreatDoorP5
import Derived.Test.YtefoaeamfkbgbaaGreatDoorP3
import Derived.Test.YtefoaeamfkbgbaaGreatDoorP4
import Derived.Lib.SplitLaws
import Derived.Test.YtefoaeamfkbgbaaGreatDoorP1
namespace Go.Proofs.YtefoaeamfkbgbaaGreatDoor
open Go.RowKit

/-- What is known of a file. -/
structure Fl where
  path : Str
  part : Str
  n : Int
  lo : Int
  hi : Int
  seq : Int
  deriving DecidableEq

abbrev kData : Str := [100, 97, 116, 97]
abbrev kGone : Str := [103, 111, 110, 101]

/-- A right path's kind and number. -/
def pathF (p : Str) : Option (Str × Int) :=
  if (Lib.cut p [47]).2.2 = true ∧ ((Lib.cut p [47]).1 = kData ∨ (Lib.cut p [47]).1 = kGone) then
    (numOf (Lib.cut p [47]).2.1).bind fun n => if n < 1 ∨ 1073741824 < n then none else some ((Lib.cut p [47]).1, n)
  else none
theorem pathF_some {p k : Str} {n : Int} (h : pathF p = some (k, n)) : (k = kData ∨ k = kGone) ∧ 1 ≤ n ∧ n ≤ 1073741824 := by
  unfold pathF at h
  split at h
  · rename_i hc
    cases hn : numOf (Lib.cut p [47]).2.1 with
    | none => rw [hn] at h; cases h
    | some m =>
      rw [hn, Option.bind_some] at h
      split at h
      · cases h
      · simp only [Option.some.injEq, Prod.mk.injEq] at h
        obtain ⟨h1, h2⟩ := h
        rw [← h1, ← h2]
        exact ⟨hc.2, by omega, by omega⟩
  · cases h
def kindF (p : Str) : Str := ((pathF p).getD ([], 0)).1
def numF (p : Str) : Int := ((pathF p).getD ([], 0)).2

/-- How two paths stand to one another. -/
def cmpP (a b : Str) : Int := if Lib.compareBytes (kindF a) (kindF b) ≠ 0 then Lib.compareBytes (kindF a) (kindF b) else numF a - numF b
/-- A number for a path: paths stand as these numbers do. -/
def keyP (p : Str) : Int :=
  match pathF p with
  | none => 0
  | some (k, n) => if k = kData then 2147483648 + n else 4294967296 + n
theorem path_ways (p : Str) : (pathF p = none ∧ kindF p = [] ∧ numF p = 0 ∧ keyP p = 0) ∨ (∃ n, 1 ≤ n ∧ n ≤ 1073741824 ∧ kindF p = kData ∧ numF p = n ∧ keyP p = 2147483648 + n) ∨ (∃ n, 1 ≤ n ∧ n ≤ 1073741824 ∧ kindF p = kGone ∧ numF p = n ∧ keyP p = 4294967296 + n) := by
  cases h : pathF p with
  | none => exact .inl ⟨rfl, by simp [kindF, h], by simp [numF, h], by simp [keyP, h]⟩
  | some kn =>
    obtain ⟨k, n⟩ := kn
    obtain ⟨h1, h2, h3⟩ := pathF_some h
    rcases h1 with rfl | rfl
    · exact .inr (.inl ⟨n, h2, h3, by simp [kindF, h], by simp [numF, h], by simp [keyP, h]⟩)
    · exact .inr (.inr ⟨n, h2, h3, by simp [kindF, h], by simp [numF, h], by simp [keyP, h]⟩)
theorem cmpP_key (a b : Str) : (cmpP a b < 0 ↔ keyP a < keyP b) ∧ (cmpP a b = 0 ↔ keyP a = keyP b) := by
  have e1 : Lib.compareBytes ([] : Str) [] = 0 := by decide
  have e2 : Lib.compareBytes ([] : Str) kData = -1 := by decide
  have e3 : Lib.compareBytes ([] : Str) kGone = -1 := by decide
  have e4 : Lib.compareBytes kData ([] : Str) = 1 := by decide
  have e5 : Lib.compareBytes kData kData = 0 := by decide
  have e6 : Lib.compareBytes kData kGone = -1 := by decide
  have e7 : Lib.compareBytes kGone ([] : Str) = 1 := by decide
  have e8 : Lib.compareBytes kGone kData = 1 := by decide
  have e9 : Lib.compareBytes kGone kGone = 0 := by decide
  unfold cmpP
  rcases path_ways a with ⟨-, a1, a2, a3⟩ | ⟨n, an1, an2, a1, a2, a3⟩ | ⟨n, an1, an2, a1, a2, a3⟩ <;> rcases path_ways b with ⟨-, b1, b2, b3⟩ | ⟨m, bn1, bn2, b1, b2, b3⟩ | ⟨m, bn1, bn2, b1, b2, b3⟩ <;>
    rw [a1, a2, a3, b1, b2, b3] <;> (first | rw [e1] | rw [e2] | rw [e3] | rw [e4] | rw [e5] | rw [e6] | rw [e7] | rw [e8] | rw [e9]) <;> (first | rw [if_pos (by decide)] | rw [if_neg (by decide)]) <;> omega
theorem cmpP_lt {a b : Str} : cmpP a b < 0 ↔ keyP a < keyP b := (cmpP_key a b).1
theorem cmpP_eq {a b : Str} : cmpP a b = 0 ↔ keyP a = keyP b := (cmpP_key a b).2
theorem cmpP_le {a b : Str} : cmpP a b ≤ 0 ↔ keyP a ≤ keyP b := by have := @cmpP_lt a b; have := @cmpP_eq a b; omega
theorem cmpP_bound (a b : Str) : -2147483648 ≤ cmpP a b ∧ cmpP a b ≤ 2147483648 := by
  have hn : ∀ p, 0 ≤ numF p ∧ numF p ≤ 1073741824 := fun p => by
    rcases path_ways p with ⟨-, -, h, -⟩ | ⟨n, h1, h2, -, h, -⟩ | ⟨n, h1, h2, -, h, -⟩ <;> rw [h] <;> omega
  have hc : ∀ a b : Str, -1 ≤ Lib.compareBytes a b ∧ Lib.compareBytes a b ≤ 1 := by
    intro a
    induction a with
    | nil => intro b; cases b <;> simp [Lib.compareBytes]
    | cons x r ih =>
      intro b
      cases b with
      | nil => simp [Lib.compareBytes]
      | cons y t =>
        unfold Lib.compareBytes
        split
        · omega
        · split
          · omega
          · exact ih t
  unfold cmpP
  have h1 := hn a; have h2 := hn b; have h3 := hc (kindF a) (kindF b)
  split <;> omega

def partSigns : Str := [97, 98, 99, 100, 101, 102, 103, 104, 105, 106, 107, 108, 109, 110, 111, 112, 113, 114, 115, 116, 117, 118, 119, 120, 121, 122, 48, 49, 50, 51, 52, 53, 54, 55, 56, 57]
/-- Is a text a part, of a kind? -/
def partOk (kind s : Str) : Bool := if kind = kGone then s == [45] else decide (s ≠ []) && (decide (s.length ≤ 12) && s.all (fun b => partSigns.contains b))
def farN (n : Int) : Prop := n < -1073741824 ∨ 1073741824 < n
instance (n : Int) : Decidable (farN n) := inferInstanceAs (Decidable (_ ∨ _))
def boundF (f : Fl) : Prop := f.n < 1 ∨ 40 < f.n ∨ farN f.lo ∨ farN f.hi ∨ f.hi < f.lo ∨ f.seq < 1 ∨ 1073741824 < f.seq
instance (f : Fl) : Decidable (boundF f) := inferInstanceAs (Decidable (_ ∨ _))
/-- A file's fault, by its number. -/
def checkF (f : Fl) : Nat :=
  if pathF f.path = none then 5 else if partOk (kindF f.path) f.part = false then 4 else if boundF f then 2 else 0

/-- A list's fault at a place. -/
def fileFault (l : List Fl) (i : Nat) : Nat :=
  match l[i]? with
  | none => 0
  | some f => if checkF f ≠ 0 then checkF f else if 0 < i ∧ ∃ g, l[i - 1]? = some g ∧ cmpP f.path g.path ≤ 0 then 9 else 0
def listCheck (l : List Fl) : Er := if 60 < l.length then .bare 8 else firstErr (fileFault l) l.length

/-- A right list. -/
structure RightL (l : List Fl) : Prop where
  len : l.length ≤ 60
  ok : ∀ f ∈ l, checkF f = 0
  ris : l.Pairwise (fun a b => keyP a.path < keyP b.path)

theorem pair_next {l : List Fl} (h : ∀ (i : Nat) (a b : Fl), l[i]? = some a → l[i + 1]? = some b → keyP a.path < keyP b.path) : l.Pairwise (fun a b => keyP a.path < keyP b.path) := by
  induction l with
  | nil => exact List.Pairwise.nil
  | cons x r ih =>
    have hr := ih fun i a b ha hb => h (i + 1) a b ha hb
    refine List.pairwise_cons.2 ⟨fun y hy => ?_, hr⟩
    cases r with
    | nil => cases hy
    | cons z t =>
      have h0 := h 0 x z rfl rfl
      rcases List.mem_cons.1 hy with rfl | hy
      · exact h0
      · exact Int.lt_trans h0 ((List.pairwise_cons.1 hr).1 y hy)
theorem right_iff (l : List Fl) : listCheck l = .nil ↔ RightL l := by
  unfold listCheck
  constructor
  · intro h
    split at h
    · cases h
    · rename_i hl
      have hf := firstErr_nil h
      have hat : ∀ (i : Nat) (f : Fl), l[i]? = some f → checkF f = 0 ∧ (0 < i → ∀ g, l[i - 1]? = some g → ¬ cmpP f.path g.path ≤ 0) := by
        intro i f hif
        have := hf i (List.getElem?_eq_some_iff.1 hif).1
        unfold fileFault at this
        rw [hif] at this
        simp only at this
        split at this
        · rename_i h1; exact absurd this h1
        · rename_i h1
          split at this
          · cases this
          · rename_i h2
            exact ⟨Decidable.not_not.1 h1, fun hi g hg hc => h2 ⟨hi, g, hg, hc⟩⟩
      refine ⟨by omega, fun f hf => ?_, pair_next fun i a b ha hb => ?_⟩
      · obtain ⟨i, hi⟩ := List.getElem?_of_mem hf
        exact (hat i f hi).1
      · have := (hat (i + 1) b hb).2 (by omega) a ha
        rw [cmpP_le] at this
        omega
  · intro h
    rw [if_neg (by have := h.len; omega)]
    refine firstErr_all fun j hj => ?_
    unfold fileFault
    obtain ⟨f, hf⟩ : ∃ f, l[j]? = some f := ⟨l[j], List.getElem?_eq_getElem hj⟩
    rw [hf]
    simp only
    rw [if_neg (by simpa using h.ok f (List.mem_of_getElem? hf)), if_neg ?_]
    rintro ⟨hj0, g, hg, hc⟩
    rw [cmpP_le] at hc
    obtain ⟨h1, h2⟩ := List.getElem?_eq_some_iff.1 hf
    obtain ⟨h3, h4⟩ := List.getElem?_eq_some_iff.1 hg
    have := List.pairwise_iff_getElem.1 h.ris (j - 1) j h3 h1 (by omega)
    rw [h2, h4] at this
    omega

/-- Where a path is; none: nowhere. -/
def findF (l : List Fl) (p : Str) : Option Nat := l.findIdx? (fun f => f.path == p)
/-- A file placed where it comes. -/
def placeF (f : Fl) : List Fl → List Fl
  | [] => [f]
  | g :: r => if keyP f.path ≤ keyP g.path then f :: g :: r else g :: placeF f r
def dropF (l : List Fl) (p : Str) : List Fl := l.filter (fun f => !(f.path == p))
def thereF (l : List Fl) (f : Fl) : Prop := ∃ g ∈ l, keyP g.path = keyP f.path
instance (l : List Fl) (f : Fl) : Decidable (thereF l f) := inferInstanceAs (Decidable (∃ g ∈ l, _))
def addE (l : List Fl) (f : Fl) : Er :=
  if listCheck l ≠ .nil then listCheck l else if checkF f ≠ 0 then .bare (checkF f) else if thereF l f then .bare 7 else if 60 ≤ l.length then .bare 8 else .nil
def addL (l : List Fl) (f : Fl) : List Fl := if addE l f = .nil then placeF f l else []
def removeE (l : List Fl) (p : Str) : Er := if listCheck l ≠ .nil then listCheck l else if (findF l p).isNone then .bare 6 else .nil
def removeL (l : List Fl) (p : Str) : List Fl := if removeE l p = .nil then dropF l p else []

/-- The place of a file among others. -/
structure PlaceAt (l : List Fl) (f : Fl) (k : Nat) : Prop where
  le : k ≤ l.length
  low : ∀ (j : Nat) (g : Fl), j < k → l[j]? = some g → keyP g.path < keyP f.path
  high : ∀ (j : Nat) (g : Fl), k ≤ j → l[j]? = some g → keyP f.path ≤ keyP g.path
theorem placeF_at {f : Fl} : ∀ {l : List Fl} {k : Nat}, PlaceAt l f k → placeF f l = l.take k ++ f :: l.drop k
  | [], k, h => by
    obtain rfl : k = 0 := Nat.le_zero.1 h.le
    rfl
  | g :: r, 0, h => by
    have := h.high 0 g (Nat.le_refl _) rfl
    unfold placeF
    rw [if_pos this]
    rfl
  | g :: r, k + 1, h => by
    have := h.low 0 g (by omega) rfl
    unfold placeF
    rw [if_neg (by omega), List.take_succ_cons, List.drop_succ_cons, List.cons_append]
    congr 1
    exact placeF_at ⟨by have := h.le; simp at this; omega, fun j x hj hx => h.low (j + 1) x (by omega) hx, fun j x hj hx => h.high (j + 1) x (by omega) hx⟩
theorem PlaceAt.there {l : List Fl} {f : Fl} {k : Nat} (h : PlaceAt l f k) (hr : l.Pairwise (fun a b => keyP a.path < keyP b.path)) : thereF l f ↔ ∃ g, l[k]? = some g ∧ cmpP g.path f.path = 0 := by
  constructor
  · rintro ⟨g, hg, he⟩
    obtain ⟨j, hj⟩ := List.getElem?_of_mem hg
    obtain ⟨hj1, hj2⟩ := List.getElem?_eq_some_iff.1 hj
    rcases Nat.lt_trichotomy j k with h1 | rfl | h1
    · have := h.low j g h1 hj; omega
    · exact ⟨g, hj, cmpP_eq.2 he⟩
    · have hk : k < l.length := by omega
      have h2 := h.high k l[k] (Nat.le_refl _) (List.getElem?_eq_getElem hk)
      have h3 := List.pairwise_iff_getElem.1 hr k j hk hj1 h1
      rw [hj2] at h3
      omega
  · rintro ⟨g, hg, he⟩
    exact ⟨g, List.mem_of_getElem? hg, cmpP_eq.1 he⟩

theorem dropF_at : ∀ {l : List Fl} {k : Nat} {x : Fl}, l.Pairwise (fun a b => keyP a.path < keyP b.path) → l[k]? = some x → dropF l x.path = l.take k ++ l.drop (k + 1)
  | [], k, x, _, h => by simp at h
  | a :: r, 0, x, hr, h => by
    obtain rfl : a = x := by simpa using h
    have ha := (List.pairwise_cons.1 hr).1
    unfold dropF
    rw [List.filter_cons_of_neg (by simp)]
    simp only [List.take_zero, List.drop_succ_cons, List.drop_zero, List.nil_append]
    exact List.filter_eq_self.2 fun o ho => by
      have := ha o ho
      simp only [Bool.not_eq_true', beq_eq_false_iff_ne]
      intro e; rw [e] at this; omega
  | a :: r, k + 1, x, hr, h => by
    have ha := (List.pairwise_cons.1 hr).1
    have hx : r[k]? = some x := by simpa using h
    have ih := dropF_at (List.pairwise_cons.1 hr).2 hx
    unfold dropF at ih ⊢
    have hne := ha x (List.mem_of_getElem? hx)
    rw [List.filter_cons_of_pos (by simp only [Bool.not_eq_true', beq_eq_false_iff_ne]; intro e; rw [e] at hne; omega)]
    rw [ih]
    rfl
theorem findF_at {l : List Fl} {k : Nat} {x : Fl} (hr : l.Pairwise (fun a b => keyP a.path < keyP b.path)) (h : l[k]? = some x) : findF l x.path = some k := by
  obtain ⟨hk, hx⟩ := List.getElem?_eq_some_iff.1 h
  unfold findF
  rw [List.findIdx?_eq_some_iff_getElem]
  refine ⟨hk, by rw [hx]; simp, fun j hj => ?_⟩
  have := List.pairwise_iff_getElem.1 hr j k (by omega) hk hj
  rw [hx] at this
  simp only [Bool.not_eq_true, beq_eq_false_iff_ne]
  intro e; rw [e] at this; omega
theorem findF_none {l : List Fl} {p : Str} : findF l p = none ↔ ∀ f ∈ l, f.path ≠ p := by
  unfold findF
  rw [List.findIdx?_eq_none_iff]
  simp
theorem place_ex (l : List Fl) (f : Fl) (hr : l.Pairwise (fun a b => keyP a.path < keyP b.path)) : ∃ k, PlaceAt l f k := by
  induction l with
  | nil => exact ⟨0, Nat.le_refl _, fun j g hj => absurd hj (by omega), fun j g _ h => by simp at h⟩
  | cons a r ih =>
    obtain ⟨h1, h2⟩ := List.pairwise_cons.1 hr
    by_cases h : keyP a.path < keyP f.path
    · obtain ⟨k, hk⟩ := ih h2
      refine ⟨k + 1, by have := hk.le; simp; omega, fun j g hj hg => ?_, fun j g hj hg => ?_⟩
      · cases j with
        | zero => obtain rfl : a = g := by simpa using hg
                  exact h
        | succ j => exact hk.low j g (by omega) (by simpa using hg)
      · cases j with
        | zero => omega
        | succ j => exact hk.high j g (by omega) (by simpa using hg)
    · refine ⟨0, Nat.zero_le _, fun j g hj => absurd hj (by omega), fun j g _ hg => ?_⟩
      cases j with
      | zero => obtain rfl : a = g := by simpa using hg
                omega
      | succ j =>
        have := h1 g (List.mem_of_getElem? (i := j) (by simpa using hg))
        omega

/-- A right list is a head ahead of a right list. -/
theorem RightL.tail {a : Fl} {l : List Fl} (h : RightL (a :: l)) : RightL l :=
  ⟨by have := h.len; simp at this; omega, fun f hf => h.ok f (List.mem_cons_of_mem _ hf), (List.pairwise_cons.1 h.ris).2⟩
theorem RightL.drop {l : List Fl} (h : RightL l) : ∀ k, RightL (l.drop k)
  | 0 => h
  | k + 1 => by
    rcases Nat.lt_or_ge k l.length with hk | hk
    · have := RightL.drop h k
      rw [List.drop_eq_getElem_cons hk] at this
      exact this.tail
    · rw [List.drop_eq_nil_of_le (by omega)]
      exact ⟨Nat.zero_le _, fun _ h => (by cases h), List.Pairwise.nil⟩
theorem add_head {a : Fl} {l : List Fl} (h : RightL (a :: l)) : addE l a = .nil ∧ addL l a = a :: l := by
  have hl := (right_iff l).2 h.tail
  have ha := h.ok a (List.mem_cons_self ..)
  obtain ⟨h1, h2⟩ := List.pairwise_cons.1 h.ris
  have he : addE l a = .nil := by
    unfold addE
    rw [if_neg (by simp [hl]), if_neg (by simp [ha]), if_neg ?_, if_neg (by have := h.len; simp at this; omega)]
    rintro ⟨g, hg, e⟩
    have := h1 g hg; omega
  refine ⟨he, ?_⟩
  unfold addL
  rw [if_pos he]
  cases l with
  | nil => rfl
  | cons b r =>
    unfold placeF
    rw [if_pos (by have := h1 b (List.mem_cons_self ..); omega)]
theorem RightL.dropF {l : List Fl} (h : RightL l) (p : Str) : RightL (dropF l p) :=
  ⟨Nat.le_trans (List.length_filter_le ..) h.len, fun f hf => h.ok f (List.mem_filter.1 hf).1, h.ris.filter _⟩
/-- One less, and that one added. -/
theorem remove_add {l : List Fl} {k : Nat} {x : Fl} (h : RightL l) (hx : l[k]? = some x) :
    removeE l x.path = .nil ∧ removeL l x.path = l.take k ++ l.drop (k + 1) ∧ findF (removeL l x.path) x.path = none ∧ addE (removeL l x.path) x = .nil ∧ addL (removeL l x.path) x = l := by
  obtain ⟨hk, hxe⟩ := List.getElem?_eq_some_iff.1 hx
  have he : removeE l x.path = .nil := by
    unfold removeE
    rw [if_neg (by simp [(right_iff l).2 h]), findF_at h.ris hx, if_neg (by simp)]
  have hd := dropF_at h.ris hx
  have hr : removeL l x.path = l.take k ++ l.drop (k + 1) := by unfold removeL; rw [if_pos he, hd]
  have hR : RightL (l.take k ++ l.drop (k + 1)) := hd ▸ h.dropF x.path
  have hlen : (l.take k ++ l.drop (k + 1)).length = l.length - 1 := by rw [List.length_append, List.length_take, List.length_drop]; omega
  have hne : ∀ g ∈ l.take k ++ l.drop (k + 1), keyP g.path ≠ keyP x.path := by
    intro g hg
    rcases List.mem_append.1 hg with h1 | h1
    · obtain ⟨j, hj, rfl⟩ := List.getElem_of_mem h1
      rw [List.length_take] at hj
      have := List.pairwise_iff_getElem.1 h.ris j k (by omega) hk (by omega)
      rw [hxe] at this
      rw [List.getElem_take]; omega
    · obtain ⟨j, hj, rfl⟩ := List.getElem_of_mem h1
      rw [List.length_drop] at hj
      have := List.pairwise_iff_getElem.1 h.ris k (k + 1 + j) hk (by omega) (by omega)
      rw [hxe] at this
      rw [List.getElem_drop]; omega
  have hadd : addE (l.take k ++ l.drop (k + 1)) x = .nil := by
    unfold addE
    rw [if_neg (by simp [(right_iff _).2 hR]), if_neg (by simp [h.ok x (List.mem_of_getElem? hx)]), if_neg ?_, if_neg (by rw [hlen]; have := h.len; omega)]
    rintro ⟨g, hg, e⟩
    exact hne g hg e
  have hpl : PlaceAt (l.take k ++ l.drop (k + 1)) x k := by
    refine ⟨by rw [hlen]; omega, fun j g hj hg => ?_, fun j g hj hg => ?_⟩
    · rw [List.getElem?_append_left (by rw [List.length_take]; omega), List.getElem?_take, if_pos hj] at hg
      obtain ⟨h1, h2⟩ := List.getElem?_eq_some_iff.1 hg
      have := List.pairwise_iff_getElem.1 h.ris j k h1 hk hj
      rw [hxe, h2] at this
      exact this
    · rw [List.getElem?_append_right (by rw [List.length_take]; omega), List.getElem?_drop, List.length_take, Nat.min_eq_left (by omega)] at hg
      obtain ⟨h1, h2⟩ := List.getElem?_eq_some_iff.1 hg
      have := List.pairwise_iff_getElem.1 h.ris k _ hk h1 (by omega)
      rw [hxe, h2] at this
      omega
  refine ⟨he, hr, ?_, ?_, ?_⟩
  · rw [hr, findF_none]
    intro f hf e
    exact hne f hf (by rw [e])
  · rw [hr]; exact hadd
  · rw [hr]
    unfold addL
    rw [if_pos hadd, placeF_at hpl]
    have ht : (l.take k ++ l.drop (k + 1)).take k = l.take k := by
      rw [List.take_append_of_le_length (by rw [List.length_take]; omega), List.take_take, Nat.min_self]
    have hdr : (l.take k ++ l.drop (k + 1)).drop k = l.drop (k + 1) := by
      rw [List.drop_append_of_le_length (by rw [List.length_take]; omega), List.drop_eq_nil_of_le (by rw [List.length_take]; omega), List.nil_append]
    rw [ht, hdr, ← hxe, ← List.drop_eq_getElem_cons hk, List.take_append_drop]
end Go.Proofs.YtefoaeamfkbgbaaGreatDoor
namespace Go.Proofs.YtefoaeamfkbgbaaGreatDoor
open Go.RowKit

/-- s cut at each byte c. -/
def cutAt (c : UInt8) : Str → List Str
  | [] => [[]]
  | x :: r => if x = c then [] :: cutAt c r else
    match cutAt c r with
    | h :: t => (x :: h) :: t
    | [] => [[x]]

theorem cutAt_ne (c : UInt8) (s : Str) : cutAt c s ≠ [] := by
  cases s with
  | nil => simp [cutAt]
  | cons x r =>
    unfold cutAt
    split
    · simp
    · split <;> simp

theorem cutAt_none {c : UInt8} : ∀ {s : Str}, c ∉ s → cutAt c s = [s]
  | [], _ => rfl
  | x :: r, h => by
    have hx : x ≠ c := fun e => h (by simp [e])
    have hr : c ∉ r := fun e => h (by simp [e])
    rw [cutAt, if_neg hx, cutAt_none hr]
theorem cutAt_app {c : UInt8} : ∀ {p : Str} {q : Str}, c ∉ p → cutAt c (p ++ c :: q) = p :: cutAt c q
  | [], q, _ => by simp [cutAt]
  | x :: r, q, h => by
    have hx : x ≠ c := fun e => h (by simp [e])
    have hr : c ∉ r := fun e => h (by simp [e])
    rw [List.cons_append, cutAt, if_neg hx, cutAt_app hr]

theorem occ1 (c x : UInt8) (s : Str) (i : Nat) (h : s[i]? = some x) : Lib.occAt s [c] i = (x == c) := by
  unfold Lib.occAt
  have hlt : i < s.length := by
    rcases Nat.lt_or_ge i s.length with h' | h'
    · exact h'
    · rw [List.getElem?_eq_none h'] at h; cases h
  rw [List.drop_eq_getElem_cons hlt]
  have : s[i] = x := by rw [List.getElem?_eq_getElem hlt] at h; exact Option.some.inj h
  rw [this]
  simp [List.isPrefixOf, Bool.beq_comm]
theorem index_none1 {c : UInt8} {s : Str} (h : c ∉ s) : Lib.index s [c] = -1 := by
  refine Lib.index_none fun j hj => ?_
  cases hs : s[j]? with
  | none =>
    unfold Lib.occAt
    rw [List.drop_of_length_le (List.getElem?_eq_none_iff.1 hs)]; rfl
  | some x =>
    rw [occ1 c x s j hs]
    exact beq_eq_false_iff_ne.2 fun e => h (by rw [← e]; exact List.mem_of_getElem? hs)
theorem index_app1 {c : UInt8} {p q : Str} (h : c ∉ p) : Lib.index (p ++ c :: q) [c] = p.length := by
  refine Lib.index_first (by simp) ?_ fun j hj => ?_
  · rw [occ1 c c _ _ (by simp)]; simp
  · rw [occ1 c p[j] _ _ (by rw [List.getElem?_append_left hj]; simp)]
    exact beq_eq_false_iff_ne.2 fun e => h (by rw [← e]; exact List.getElem_mem _)

theorem splitK_cut (c : UInt8) : ∀ (k : Nat) (s : Str), s.count c = k → Lib.splitK [c] 0 k s = cutAt c s
  | 0, s, h => by
    rw [cutAt_none (List.count_eq_zero.1 h)]; rfl
  | k + 1, s, h => by
    have hm : c ∈ s := List.count_pos_iff.1 (by omega)
    obtain ⟨p, q, hpq, hp⟩ := List.eq_append_cons_of_mem hm
    subst hpq
    rw [cutAt_app hp, Lib.splitK, index_app1 hp]
    have hne : ((p.length : Int) == -1) = false := beq_eq_false_iff_ne.2 (by omega)
    rw [if_neg (by rw [hne]; decide)]
    have hc : q.count c = k := by
      rw [List.count_append, List.count_eq_zero.2 hp, List.count_cons_self] at h; omega
    rw [Int.toNat_natCast, Nat.add_zero, List.take_left' rfl, show p.length + [c].length = p.length + 1 from rfl, ← List.drop_drop, List.drop_left' rfl, List.drop_one, List.tail_cons, splitK_cut c k q hc]

theorem splitB_cut (c : UInt8) (s : Str) : (Lib.splitB ⟨#[c]⟩ 0 (Lib.countB ⟨s.toArray⟩ ⟨#[c]⟩) ⟨s.toArray⟩).map Value.string = (cutAt c s).map S := by
  have hc : Lib.countB ⟨s.toArray⟩ ⟨#[c]⟩ = s.count c := by
    unfold Lib.countB; simpa using Lib.count_one c s
  have h := Lib.splitB_data ⟨#[c]⟩ 0 (Lib.countB ⟨s.toArray⟩ ⟨#[c]⟩) ⟨s.toArray⟩
  rw [hc] at h ⊢
  have h2 : Lib.splitK [c] 0 (s.count c) s = cutAt c s := splitK_cut c _ s rfl
  have h3 : (Lib.splitB ⟨#[c]⟩ 0 (s.count c) ⟨s.toArray⟩).map (·.data.toList) = cutAt c s := by simpa [h2] using h
  rw [← h3, List.map_map]
  refine List.map_congr_left fun x _ => ?_
  simp [S]
theorem cutAt_length (c : UInt8) (s : Str) : (cutAt c s).length = s.count c + 1 := by
  have h := splitB_cut c s
  have h1 := congrArg List.length h
  simp only [List.length_map] at h1
  rw [← h1, Lib.splitB_all ⟨#[c]⟩ (Nat.le_refl 1) 0 _ _ rfl]
  unfold Lib.countB; simp [Lib.count_one]
theorem cutAt_mem_len {c : UInt8} : ∀ {s p : Str}, p ∈ cutAt c s → p.length ≤ s.length
  | [], p, h => by simp [cutAt] at h; subst h; simp
  | x :: r, p, h => by
    unfold cutAt at h
    split at h
    · rcases List.mem_cons.1 h with rfl | h
      · simp
      · have := cutAt_mem_len h; simp; omega
    · split at h
      · rename_i hd tl he
        rcases List.mem_cons.1 h with rfl | h
        · have := cutAt_mem_len (s := r) (p := hd) (c := c) (by rw [he]; simp); simp; omega
        · have := cutAt_mem_len (s := r) (p := p) (c := c) (by rw [he]; simp [h]); simp; omega
      · simp at h; subst h; simp
end Go.Proofs.YtefoaeamfkbgbaaGreatDoor
namespace Go.Proofs.YtefoaeamfkbgbaaGreatDoor
open Go.RowKit

theorem cut_app1 {c : UInt8} {p q : Str} (h : c ∉ p) : Lib.cut (p ++ c :: q) [c] = (p, q, true) := by
  unfold Lib.cut
  rw [index_app1 h, if_pos (by omega), Int.toNat_natCast, List.take_left' rfl, show p.length + [c].length = p.length + 1 from rfl, ← List.drop_drop, List.drop_left' rfl]
  rfl
theorem cut_none1 {c : UInt8} {s : Str} (h : c ∉ s) : Lib.cut s [c] = (s, [], false) := by
  unfold Lib.cut
  rw [index_none1 h, if_neg (by omega)]

/-- What numbers follow, a blank ahead of each. -/
def numsTail (l : List Int) : Str := l.flatMap fun n => 32 :: Lib.itoa n
def fileLine (f : Fl) : Str := f.path ++ 32 :: f.part ++ numsTail [f.n, f.lo, f.hi, f.seq]
def fileText (f : Fl) : Str := if checkF f = 0 then fileLine f else []
def zeroF : Fl := ⟨[], [], 0, 0, 0, 0⟩
/-- A file of six words. -/
def fileOf : List Str → Option Fl
  | [p, q, a, b, c, d] =>
    match numsOf [a, b, c, d] with
    | some [n, lo, hi, seq] => some ⟨p, q, n, lo, hi, seq⟩
    | _ => none
  | _ => none
/-- A file read: an error's number. -/
def fileRead (s : Str) : Fl × Nat :=
  match fileOf (cutAt 32 s) with
  | none => (zeroF, 1)
  | some f => if checkF f = 0 then (f, 0) else (zeroF, checkF f)

theorem cut_nums : ∀ (l : List Int) (p : Str), (32 : UInt8) ∉ p → cutAt 32 (p ++ numsTail l) = p :: l.map Lib.itoa
  | [], p, hp => by simp [numsTail, cutAt_none hp]
  | n :: r, p, hp => by
    have e : p ++ numsTail (n :: r) = p ++ 32 :: (Lib.itoa n ++ numsTail r) := by simp [numsTail]
    rw [e, cutAt_app hp, cut_nums r _ (not_mem_itoa' (by decide) (by decide))]
    rfl
theorem numsOf_map : ∀ (l : List Int), (∀ x ∈ l, -10000000000 < x ∧ x < 10000000000) → numsOf (l.map Lib.itoa) = some l
  | [], _ => rfl
  | n :: r, hl => by
    have h1 := hl n (by simp)
    have h2 := numsOf_map r (fun x hx => hl x (by simp [hx]))
    unfold numsOf at h2 ⊢
    simp [List.mapM_cons, numOf_itoa' h1.1 h1.2, h2]

theorem checkF_zero {f : Fl} (h : checkF f = 0) : ∃ k n, pathF f.path = some (k, n) ∧ partOk k f.part = true ∧ ¬ boundF f := by
  unfold checkF at h
  split at h
  · cases h
  · rename_i h1
    split at h
    · cases h
    · rename_i h2
      split at h
      · cases h
      · rename_i h3
        cases hp : pathF f.path with
        | none => exact absurd hp h1
        | some kn =>
          obtain ⟨k, n⟩ := kn
          refine ⟨k, n, rfl, ?_, h3⟩
          have : kindF f.path = k := by simp [kindF, hp]
          rw [this] at h2
          simpa using h2
/-- A right path is its kind, a stroke, a numeral. -/
theorem pathF_form {p k : Str} {n : Int} (h : pathF p = some (k, n)) : p = k ++ 47 :: Lib.itoa n ∧ (k = kData ∨ k = kGone) ∧ 1 ≤ n ∧ n ≤ 1073741824 := by
  obtain ⟨h1, h2, h3⟩ := pathF_some h
  refine ⟨?_, h1, h2, h3⟩
  unfold pathF at h
  split at h
  · rename_i hc
    by_cases hm : (47 : UInt8) ∈ p
    · obtain ⟨a, b, hab, ha⟩ := List.eq_append_cons_of_mem hm
      subst hab
      rw [cut_app1 ha] at h hc
      simp only at h hc
      cases hn : numOf b with
      | none => rw [hn] at h; cases h
      | some m =>
        rw [hn, Option.bind_some] at h
        split at h
        · cases h
        · simp only [Option.some.injEq, Prod.mk.injEq] at h
          obtain ⟨rfl, rfl⟩ := h
          rw [numOf_text hn]
    · rw [cut_none1 hm] at hc
      exact absurd hc.1 (by simp)
  · cases h
theorem path_sign {p k : Str} {n : Int} (h : pathF p = some (k, n)) : ∀ c ∈ p, c = 45 ∨ 47 ≤ c.toNat := by
  obtain ⟨rfl, hk, h1, h2⟩ := pathF_form h
  intro c hc
  rcases List.mem_append.1 hc with h | h
  · rcases hk with rfl | rfl <;> (simp at h; rcases h with rfl | rfl | rfl | rfl <;> decide)
  · rcases List.mem_cons.1 h with rfl | h
    · decide
    · rcases itoa_sign n c h with h | h
      · exact .inl h
      · exact .inr (by omega)
theorem part_sign {k s : Str} (h : partOk k s = true) : ∀ c ∈ s, c = 45 ∨ 47 ≤ c.toNat := by
  unfold partOk at h
  intro c hc
  split at h
  · have : s = [45] := by simpa using h
    subst this
    simp at hc; exact .inl hc
  · simp only [Bool.and_eq_true, List.all_eq_true] at h
    have := h.2.2 c hc
    have hm : c ∈ partSigns := by simpa using this
    refine .inr ?_
    simp only [partSigns, List.mem_cons, List.mem_nil_iff, or_false] at hm
    rcases hm with rfl | rfl | rfl | rfl | rfl | rfl | rfl | rfl | rfl | rfl | rfl | rfl | rfl | rfl | rfl | rfl | rfl | rfl | rfl | rfl | rfl | rfl | rfl | rfl | rfl | rfl | rfl | rfl | rfl | rfl | rfl | rfl | rfl | rfl | rfl | rfl <;> decide
theorem not_mem_sign {s : Str} (h : ∀ c ∈ s, c = 45 ∨ 47 ≤ c.toNat) {c : UInt8} (h1 : c ≠ 45) (h2 : c.toNat < 47) : c ∉ s := fun hc => (h c hc).elim h1 (by omega)

/-- A file is read as it was written. -/
theorem fileRead_line {f : Fl} (h : checkF f = 0) : fileRead (fileLine f) = (f, 0) := by
  obtain ⟨k, n, hp, hq, hb⟩ := checkF_zero h
  have h1 := not_mem_sign (path_sign hp) (c := 32) (by decide) (by decide)
  have h2 := not_mem_sign (part_sign hq) (c := 32) (by decide) (by decide)
  have hc : cutAt 32 (fileLine f) = f.path :: f.part :: [f.n, f.lo, f.hi, f.seq].map Lib.itoa := by
    unfold fileLine
    rw [List.append_assoc, List.cons_append, cutAt_app h1, cut_nums _ _ h2]
  have hn : numsOf ([f.n, f.lo, f.hi, f.seq].map Lib.itoa) = some [f.n, f.lo, f.hi, f.seq] := numsOf_map _ fun x hx => by
    unfold boundF farN at hb
    simp only [List.mem_cons, List.mem_nil_iff, or_false] at hx
    rcases hx with rfl | rfl | rfl | rfl <;> omega
  simp only [List.map_cons, List.map_nil] at hc hn
  unfold fileRead
  rw [hc]
  simp only [fileOf, hn]
  rw [if_pos h]
theorem nums_sign (l : List Int) : ∀ c ∈ numsTail l, c = 32 ∨ c = 45 ∨ 47 ≤ c.toNat := by
  intro c hc
  obtain ⟨n, _, h⟩ := List.mem_flatMap.1 hc
  rcases List.mem_cons.1 h with h | h
  · exact .inl h
  · rcases itoa_sign n c h with h | h
    · exact .inr (.inl h)
    · exact .inr (.inr (by omega))
theorem line_none {f : Fl} (h : checkF f = 0) : (10 : UInt8) ∉ fileLine f := by
  obtain ⟨k, n, hp, hq, hb⟩ := checkF_zero h
  have h1 := not_mem_sign (path_sign hp) (c := 10) (by decide) (by decide)
  have h2 := not_mem_sign (part_sign hq) (c := 10) (by decide) (by decide)
  unfold fileLine
  intro hc
  simp only [List.append_assoc, List.mem_append, List.cons_append, List.mem_cons] at hc
  rcases hc with hc | hc | hc | hc
  · exact h1 hc
  · exact absurd hc (by decide)
  · exact h2 hc
  · rcases nums_sign _ _ hc with h | h | h
    · exact absurd h (by decide)
    · exact absurd h (by decide)
    · exact absurd h (by decide)
theorem fileLine_len {f : Fl} (h : checkF f = 0) : (fileLine f).length ≤ 150 := by
  obtain ⟨k, n, hp, hq, hb⟩ := checkF_zero h
  obtain ⟨h1, hk, hn1, hn2⟩ := pathF_form hp
  have hl : ∀ m : Int, -1073741824 ≤ m → m ≤ 1073741824 → (Lib.itoa m).length ≤ 21 := fun m a b => itoa_len m (by omega) (by omega)
  have e1 : f.path.length ≤ 26 := by
    have h2 := hl n (by omega) (by omega)
    rw [h1]
    rcases hk with rfl | rfl <;> simp <;> omega
  have e2 : f.part.length ≤ 12 := by
    unfold partOk at hq
    split at hq
    · have : f.part = [45] := by simpa using hq
      rw [this]; decide
    · simp only [Bool.and_eq_true, decide_eq_true_eq] at hq
      exact hq.2.1
  unfold boundF farN at hb
  have a1 := hl f.n (by omega) (by omega)
  have a2 := hl f.lo (by omega) (by omega)
  have a3 := hl f.hi (by omega) (by omega)
  have a4 := hl f.seq (by omega) (by omega)
  unfold fileLine numsTail
  simp only [List.flatMap_cons, List.flatMap_nil, List.append_nil, List.length_append, List.length_cons]
  omega

def listText (l : List Fl) : Str := l.flatMap fun f => fileLine f ++ [10]
theorem listText_snoc (l : List Fl) (f : Fl) : listText (l ++ [f]) = listText l ++ (fileLine f ++ [10]) := by simp [listText]
theorem listText_len {l : List Fl} (h : ∀ f ∈ l, checkF f = 0) : (listText l).length ≤ l.length * 151 := by
  induction l with
  | nil => simp [listText]
  | cons x r ih =>
    have h1 := fileLine_len (h x (by simp))
    have h2 := ih fun f hf => h f (by simp [hf])
    simp only [listText, List.flatMap_cons, List.length_append, List.length_cons, List.length_nil] at h2 ⊢
    omega
theorem cut_list : ∀ {l : List Fl}, (∀ f ∈ l, checkF f = 0) → cutAt 10 (listText l) = l.map fileLine ++ [[]]
  | [], _ => rfl
  | f :: r, h => by
    have e : listText (f :: r) = fileLine f ++ 10 :: listText r := by simp [listText]
    rw [e, cutAt_app (line_none (h f (by simp))), cut_list fun g hg => h g (by simp [hg])]
    rfl

/-- How many lines are files' lines. -/
def manyL (lines : List Str) : Nat := if lines.getLast?.getD [] = [] then lines.length - 1 else lines.length
/-- A line's fault at its place. -/
def lineFault (lines : List Str) (i : Nat) : Nat :=
  match lines[i]? with
  | none => 0
  | some s =>
    if i + 1 = lines.length then 1
    else if (fileRead s).2 ≠ 0 then (fileRead s).2
    else if 0 < i ∧ ∃ g, lines[i - 1]? = some g ∧ cmpP (fileRead s).1.path (fileRead g).1.path ≤ 0 then 9 else 0
def linesE (lines : List Str) : Er := if 60 < manyL lines then .bare 8 else firstErr (lineFault lines) (manyL lines)
def listReadE (s : Str) : Er := linesE (cutAt 10 s)
def listReadL (s : Str) : List Fl := if listReadE s = .nil then ((cutAt 10 s).take (manyL (cutAt 10 s))).map (fun x => (fileRead x).1) else []

theorem fileRead_check {s : Str} (h : (fileRead s).2 = 0) : checkF (fileRead s).1 = 0 := by
  unfold fileRead at h ⊢
  split
  · rename_i h1; rw [h1] at h; cases h
  · rename_i f h1
    rw [h1] at h
    simp only at h ⊢
    split
    · assumption
    · rename_i h2; rw [if_neg h2] at h; exact absurd h h2
/-- What is read is a right list. -/
theorem listRead_right {s : Str} (h : listReadE s = .nil) : RightL (listReadL s) := by
  unfold listReadL
  rw [if_pos h]
  unfold listReadE linesE at h
  generalize cutAt 10 s = lines at *
  split at h
  · cases h
  rename_i hm
  have hf := firstErr_nil h
  have hml : manyL lines ≤ lines.length := by unfold manyL; split <;> omega
  have hat : ∀ (i : Nat) (x : Str), i < manyL lines → lines[i]? = some x → (fileRead x).2 = 0 ∧ (0 < i → ∀ g, lines[i - 1]? = some g → ¬ cmpP (fileRead x).1.path (fileRead g).1.path ≤ 0) := by
    intro i x hi hx
    have := hf i hi
    unfold lineFault at this
    rw [hx] at this
    simp only at this
    split at this
    · cases this
    · split at this
      · rename_i h1; exact absurd this h1
      · rename_i h1
        split at this
        · cases this
        · rename_i h2
          exact ⟨Decidable.not_not.1 h1, fun h0 g hg hc => h2 ⟨h0, g, hg, hc⟩⟩
  refine ⟨by rw [List.length_map, List.length_take]; omega, fun f hf => ?_, pair_next fun i a b ha hb => ?_⟩
  · obtain ⟨x, hx, rfl⟩ := List.mem_map.1 hf
    obtain ⟨i, hi⟩ := List.getElem?_of_mem hx
    rw [List.getElem?_take] at hi
    split at hi
    · exact fileRead_check (hat i x (by assumption) hi).1
    · cases hi
  · rw [List.getElem?_map] at ha hb
    cases hx : (lines.take (manyL lines))[i]? with
    | none => rw [hx] at ha; cases ha
    | some x =>
      cases hy : (lines.take (manyL lines))[i + 1]? with
      | none => rw [hy] at hb; cases hb
      | some y =>
        rw [hx] at ha; rw [hy] at hb
        obtain rfl : (fileRead x).1 = a := by simpa using ha
        obtain rfl : (fileRead y).1 = b := by simpa using hb
        rw [List.getElem?_take] at hx hy
        split at hx
        · split at hy
          · have := (hat (i + 1) y (by assumption) hy).2 (by omega) x hx
            rw [cmpP_le] at this
            omega
          · cases hy
        · cases hx

/-- A list is read as it was written. -/
theorem listRead_text {l : List Fl} (h : RightL l) : listReadE (listText l) = .nil ∧ listReadL (listText l) = l := by
  have hc := cut_list h.ok
  have hlen : (l.map fileLine ++ [[]]).length = l.length + 1 := by simp
  have hm : manyL (l.map fileLine ++ [[]]) = l.length := by
    unfold manyL
    rw [if_pos (by simp), hlen]; omega
  have hget : ∀ i, i < l.length → ∀ f, l[i]? = some f → (l.map fileLine ++ [[]])[i]? = some (fileLine f) := fun i hi f hf => by
    rw [List.getElem?_append_left (by simpa using hi), List.getElem?_map, hf]; rfl
  have he : listReadE (listText l) = .nil := by
    unfold listReadE linesE
    rw [hc, hm, if_neg (by have := h.len; omega)]
    refine firstErr_all fun j hj => ?_
    have hj' := List.getElem?_eq_getElem hj
    unfold lineFault
    rw [hget j hj _ hj', hlen]
    have hr := fileRead_line (h.ok _ (List.getElem_mem hj))
    simp only [hr]
    rw [if_neg (by omega), if_neg (by simp), if_neg]
    rintro ⟨h0, g, hg, hcm⟩
    have hj1 : j - 1 < l.length := by omega
    rw [hget (j - 1) hj1 _ (List.getElem?_eq_getElem hj1)] at hg
    obtain rfl := Option.some.inj hg
    have hr1 := fileRead_line (h.ok _ (List.getElem_mem hj1))
    rw [hr1, cmpP_le] at hcm
    have := List.pairwise_iff_getElem.1 h.ris (j - 1) j hj1 hj (by omega)
    simp only at hcm
    omega
  refine ⟨he, ?_⟩
  unfold listReadL
  rw [if_pos he, hc, hm, List.take_left' (by simp), List.map_map]
  have : ∀ f ∈ l, ((fun x => (fileRead x).1) ∘ fileLine) f = f := fun f hf => by
    simp only [Function.comp, fileRead_line (h.ok f hf)]
  rw [List.map_congr_left this]
  simp

/-- Added, and removed: what was. -/
theorem add_remove {l : List Fl} {f : Fl} (h : addE l f = .nil) : RightL (addL l f) ∧ (addL l f).length = l.length + 1 ∧ f ∈ addL l f ∧ removeE (addL l f) f.path = .nil ∧ removeL (addL l f) f.path = l := by
  have h0 := h
  unfold addE at h
  split at h
  · rename_i h1; exact absurd h h1
  rename_i h1
  split at h
  · cases h
  rename_i h2
  split at h
  · cases h
  rename_i h3
  split at h
  · cases h
  rename_i h4
  have hR := (right_iff l).1 (Decidable.not_not.1 h1)
  obtain ⟨k, hk⟩ := place_ex l f hR.ris
  have hl : addL l f = l.take k ++ f :: l.drop k := by unfold addL; rw [if_pos h0, placeF_at hk]
  have hlow : ∀ g ∈ l.take k, keyP g.path < keyP f.path := fun g hg => by
    obtain ⟨j, hj, he⟩ := List.getElem_of_mem hg
    rw [List.length_take] at hj
    rw [List.getElem_take] at he
    exact hk.low j g (by omega) (by rw [← he]; exact List.getElem?_eq_getElem (by omega))
  have hhigh : ∀ g ∈ l.drop k, keyP f.path < keyP g.path := fun g hg => by
    obtain ⟨j, hj, he⟩ := List.getElem_of_mem hg
    rw [List.length_drop] at hj
    rw [List.getElem_drop] at he
    have := hk.high (k + j) g (by omega) (by rw [← he]; exact List.getElem?_eq_getElem (by omega))
    have hne : keyP g.path ≠ keyP f.path := fun e => h3 ⟨g, List.mem_of_mem_drop hg, e⟩
    omega
  have hlen : (l.take k ++ f :: l.drop k).length = l.length + 1 := by
    rw [List.length_append, List.length_cons, List.length_take, List.length_drop]; have := hk.le; omega
  have hris : (l.take k ++ f :: l.drop k).Pairwise (fun a b => keyP a.path < keyP b.path) := by
    refine List.pairwise_append.2 ⟨hR.ris.sublist (List.take_sublist ..), List.pairwise_cons.2 ⟨hhigh, hR.ris.sublist (List.drop_sublist ..)⟩, fun a ha b hb => ?_⟩
    rcases List.mem_cons.1 hb with rfl | hb
    · exact hlow a ha
    · exact Int.lt_trans (hlow a ha) (hhigh b hb)
  have hR2 : RightL (l.take k ++ f :: l.drop k) := ⟨by omega, fun g hg => by
    rcases List.mem_append.1 hg with hg | hg
    · exact hR.ok g (List.mem_of_mem_take hg)
    · rcases List.mem_cons.1 hg with rfl | hg
      · exact Decidable.not_not.1 h2
      · exact hR.ok g (List.mem_of_mem_drop hg), hris⟩
  have hkk : (l.take k).length = k := by rw [List.length_take]; have := hk.le; omega
  have hfk : (l.take k ++ f :: l.drop k)[k]? = some f := by
    rw [List.getElem?_append_right (by omega), hkk, Nat.sub_self]; rfl
  have hre : removeE (l.take k ++ f :: l.drop k) f.path = .nil := by
    unfold removeE
    rw [if_neg (by simp [(right_iff _).2 hR2]), findF_at hris hfk, if_neg (by simp)]
  rw [hl]
  refine ⟨hR2, hlen, by simp, hre, ?_⟩
  unfold removeL
  rw [if_pos hre, dropF_at hris hfk, List.take_left' hkk, ← List.drop_drop, List.drop_left' hkk, List.drop_one, List.tail_cons, List.take_append_drop]
end Go.Proofs.YtefoaeamfkbgbaaGreatDoor
namespace Go.Proofs.YtefoaeamfkbgbaaGreatDoor

def crcP : Nat := 3988292384
def crcBit (x : Nat) : Nat := if x % 2 = 1 then x / 2 ^^^ crcP else x / 2
def crcIter : Nat → Nat → Nat
  | 0, x => x
  | k + 1, x => crcIter k (crcBit x)
def crcStep (c : Nat) (b : UInt8) : Nat := crcIter 8 (c ^^^ b.toNat)
def crcFold (c : Nat) (s : Str) : Nat := s.foldl crcStep c
def sumOf (s : Str) : Nat := crcFold 4294967295 s ^^^ 4294967295

theorem xor_canc {a b c : Nat} (h : a ^^^ c = b ^^^ c) : a = b := by
  have := congrArg (· ^^^ c) h
  simpa [Nat.xor_assoc] using this
theorem xor_cancl {a b c : Nat} (h : c ^^^ a = c ^^^ b) : a = b := xor_canc (c := c) (by rw [Nat.xor_comm a, Nat.xor_comm b]; exact h)
theorem crcBit_lt {x : Nat} (h : x < 4294967296) : crcBit x < 4294967296 := by
  unfold crcBit crcP
  split
  · exact Nat.xor_lt_two_pow (n := 32) (by omega) (by omega)
  · omega
theorem crcBit_inj {x y : Nat} (hx : x < 4294967296) (hy : y < 4294967296) (h : crcBit x = crcBit y) : x = y := by
  have t : ∀ a : Nat, a < 2 ^ 31 → (a ^^^ crcP).testBit 31 = true := fun a ha => by
    rw [Nat.testBit_xor, Nat.testBit_lt_two_pow ha]; decide
  have f : ∀ a : Nat, a < 2 ^ 31 → a.testBit 31 = false := fun a ha => Nat.testBit_lt_two_pow ha
  unfold crcBit at h
  split at h <;> split at h
  · have := xor_canc h; omega
  · have h1 := t (x / 2) (by omega); rw [h, f (y / 2) (by omega)] at h1; cases h1
  · have h1 := t (y / 2) (by omega); rw [← h, f (x / 2) (by omega)] at h1; cases h1
  · omega
theorem crcIter_lt : ∀ (k : Nat) {x : Nat}, x < 4294967296 → crcIter k x < 4294967296
  | 0, _, h => h
  | k + 1, _, h => crcIter_lt k (crcBit_lt h)
theorem crcIter_inj : ∀ (k : Nat) {x y : Nat}, x < 4294967296 → y < 4294967296 → crcIter k x = crcIter k y → x = y
  | 0, _, _, _, _, h => h
  | k + 1, _, _, hx, hy, h => crcBit_inj hx hy (crcIter_inj k (crcBit_lt hx) (crcBit_lt hy) h)
theorem byte_lt (b : UInt8) : b.toNat < 256 := b.toNat_lt
theorem xor_byte {c : Nat} (h : c < 4294967296) (b : UInt8) : c ^^^ b.toNat < 4294967296 :=
  Nat.xor_lt_two_pow (n := 32) h (by have := byte_lt b; omega)
theorem crcStep_lt {c : Nat} (h : c < 4294967296) (b : UInt8) : crcStep c b < 4294967296 := crcIter_lt 8 (xor_byte h b)
theorem crcStep_state {c d : Nat} {b : UInt8} (hc : c < 4294967296) (hd : d < 4294967296) (h : crcStep c b = crcStep d b) : c = d :=
  xor_canc (crcIter_inj 8 (xor_byte hc b) (xor_byte hd b) h)
theorem crcStep_byte {c : Nat} {a b : UInt8} (hc : c < 4294967296) (h : crcStep c a = crcStep c b) : a = b :=
  UInt8.toNat_inj.1 (xor_cancl (crcIter_inj 8 (xor_byte hc a) (xor_byte hc b) h))
theorem crcFold_lt : ∀ (s : Str) {c : Nat}, c < 4294967296 → crcFold c s < 4294967296
  | [], _, h => h
  | b :: r, _, h => crcFold_lt r (crcStep_lt h b)
theorem crcFold_inj : ∀ (s : Str) {c d : Nat}, c < 4294967296 → d < 4294967296 → crcFold c s = crcFold d s → c = d
  | [], _, _, _, _, h => h
  | b :: r, _, _, hc, hd, h => crcStep_state hc hd (crcFold_inj r (crcStep_lt hc b) (crcStep_lt hd b) h)
theorem crcFold_app (c : Nat) (p q : Str) : crcFold c (p ++ q) = crcFold (crcFold c p) q := List.foldl_append
theorem crcFold_snoc (c : Nat) (p : Str) (b : UInt8) : crcFold c (p ++ [b]) = crcStep (crcFold c p) b := by rw [crcFold_app]; rfl
theorem sumOf_lt (s : Str) : sumOf s < 4294967296 := Nat.xor_lt_two_pow (n := 32) (crcFold_lt s (by omega)) (by omega)
/-- One byte another one: another sum. -/
theorem sumOf_one {p q : Str} {a b : UInt8} (h : sumOf (p ++ a :: q) = sumOf (p ++ b :: q)) : a = b := by
  have h1 := xor_canc h
  rw [crcFold_app, crcFold_app] at h1
  have hc := crcFold_lt p (c := 4294967295) (by omega)
  exact crcStep_byte hc (crcFold_inj q (crcStep_lt hc a) (crcStep_lt hc b) h1)
theorem sumOf_set {s : Str} {i : Nat} {c x : UInt8} (hx : s[i]? = some x) (hne : x ≠ c) : sumOf (s.set i c) ≠ sumOf s := by
  obtain ⟨hi, rfl⟩ := List.getElem?_eq_some_iff.1 hx
  intro h
  have e1 : s.set i c = s.take i ++ c :: s.drop (i + 1) := List.set_eq_take_append_cons_drop.trans (if_pos hi)
  have e2 : s = s.take i ++ s[i] :: s.drop (i + 1) := by rw [← List.drop_eq_getElem_cons hi, List.take_append_drop]
  have e3 : sumOf s = sumOf (s.take i ++ s[i] :: s.drop (i + 1)) := congrArg sumOf e2
  rw [e1, e3] at h
  exact hne (sumOf_one h).symm

theorem crcIter_high : ∀ (k x h : Nat), crcIter k (x ^^^ 2 ^ k * h) = crcIter k x ^^^ h
  | 0, x, h => by simp [crcIter]
  | k + 1, x, h => by
    have e : crcBit (x ^^^ 2 ^ (k + 1) * h) = crcBit x ^^^ 2 ^ k * h := by
      have e0 : 2 ^ (k + 1) * h = 2 * (2 ^ k * h) := by rw [Nat.pow_succ, Nat.mul_comm (2 ^ k) 2, Nat.mul_assoc]
      rw [e0]
      generalize 2 ^ k * h = m
      have hm : (x ^^^ 2 * m) % 2 = x % 2 := by
        have := Nat.xor_mod_two_pow (a := x) (b := 2 * m) (n := 1)
        rw [Nat.pow_one, Nat.mul_mod_right, Nat.xor_zero] at this
        exact this
      have hd : (x ^^^ 2 * m) / 2 = x / 2 ^^^ m := by
        rw [Nat.xor_div_two]; congr 1; omega
      unfold crcBit
      rw [hm, hd]
      split
      · rw [Nat.xor_assoc, Nat.xor_comm m crcP, ← Nat.xor_assoc]
      · rfl
    rw [crcIter, e, crcIter_high k, crcIter]
theorem low_high (c : Nat) : c = c % 256 ^^^ 2 ^ 8 * (c / 256) := by
  apply Nat.eq_of_testBit_eq
  intro i
  rw [Nat.testBit_xor, Nat.testBit_two_pow_mul, show (256 : Nat) = 2 ^ 8 from rfl, Nat.testBit_mod_two_pow, Nat.testBit_div_two_pow]
  by_cases h : i < 8
  · have h' : ¬ 8 ≤ i := by omega
    simp [h, h']
  · have h' : 8 ≤ i := by omega
    simp [h, h']
/-- A round by the table. -/
theorem crc_table (c : Nat) (b : UInt8) : c / 256 ^^^ crcIter 8 (c % 256 ^^^ b.toNat) = crcStep c b := by
  unfold crcStep
  have e : c ^^^ b.toNat = (c % 256 ^^^ b.toNat) ^^^ 2 ^ 8 * (c / 256) := by
    rw [Nat.xor_assoc, Nat.xor_comm b.toNat, ← Nat.xor_assoc, ← low_high]
  rw [e, crcIter_high, Nat.xor_comm]
theorem crcIter_succ (k x : Nat) : crcIter (k + 1) x = crcBit (crcIter k x) := by
  induction k generalizing x with
  | zero => rfl
  | succ k ih => rw [crcIter, ih, crcIter]
end Go.Proofs.YtefoaeamfkbgbaaGreatDoor
namespace Go.Proofs.YtefoaeamfkbgbaaGreatDoor
open Go.RowKit

/-- The parts of a text that was cut, joined again. -/
def joinC (c : UInt8) : List Str → Str
  | [] => []
  | [x] => x
  | x :: y :: r => x ++ c :: joinC c (y :: r)
theorem joinC_head (c y : UInt8) (a : Str) : ∀ t : List Str, joinC c ((y :: a) :: t) = y :: joinC c (a :: t)
  | [] => rfl
  | _ :: _ => rfl
theorem join_cut (c : UInt8) : ∀ s : Str, joinC c (cutAt c s) = s
  | [] => rfl
  | x :: r => by
    have ih := join_cut c r
    have hne := cutAt_ne c r
    unfold cutAt
    cases hc : cutAt c r with
    | nil => exact absurd hc hne
    | cons a t =>
      rw [hc] at ih
      by_cases h : x = c
      · rw [if_pos h, h]
        show [] ++ c :: joinC c (a :: t) = c :: r
        rw [ih]; rfl
      · rw [if_neg h]
        show joinC c ((x :: a) :: t) = x :: r
        rw [joinC_head, ih]
theorem cutAt_inj {c : UInt8} {s t : Str} (h : cutAt c s = cutAt c t) : s = t := by rw [← join_cut c s, h, join_cut]
/-- A part ahead of the last one is there whatever follows. -/
theorem cutAt_pre {c : UInt8} : ∀ (p q : Str) (j : Nat), j + 1 < (cutAt c p).length → (cutAt c (p ++ q))[j]? = (cutAt c p)[j]?
  | [], q, j, h => by simp [cutAt] at h
  | x :: r, q, j, h => by
    have ih := cutAt_pre (c := c) r q
    have hne := cutAt_ne c r
    have hne2 := cutAt_ne c (r ++ q)
    rw [List.cons_append]
    unfold cutAt at h ⊢
    by_cases hx : x = c
    · rw [if_pos hx] at h ⊢
      rw [if_pos hx]
      cases j with
      | zero => rfl
      | succ j => simpa using ih j (by simpa using h)
    · rw [if_neg hx] at h ⊢
      rw [if_neg hx]
      cases hc : cutAt c r with
      | nil => exact absurd hc hne
      | cons a t =>
        cases hc2 : cutAt c (r ++ q) with
        | nil => exact absurd hc2 hne2
        | cons a2 t2 =>
          rw [hc] at h
          simp only [hc, hc2] at ih
          simp only [List.length_cons] at h ih
          cases j with
          | zero =>
            have := ih 0 (by omega)
            simp only [List.getElem?_cons_zero, Option.some.injEq] at this
            simp [this]
          | succ j =>
            have := ih (j + 1) (by omega)
            simpa using this
theorem joinC_two (c : UInt8) (x y : Str) (r : List Str) : joinC c (x :: y :: r) = x ++ c :: joinC c (y :: r) := rfl
theorem joinC_itoa (p : Str) : ∀ l : List Int, joinC 32 (p :: l.map Lib.itoa) = p ++ numsTail l
  | [] => by simp [joinC, numsTail]
  | n :: r => by
    rw [List.map_cons, joinC_two, joinC_itoa (Lib.itoa n) r]
    simp [numsTail]

/-- The least and the greatest of numbers (none: 0, 0). -/
def endsI (l : List Int) : Int × Int := if l = [] then (0, 0) else (Lib.minOf l, Lib.maxOf l)
def bodyT (ls : List Str) : Str := ls.flatMap fun s => s ++ [10]
def headT (word : Str) (n lo hi sum : Int) : Str := word ++ numsTail [n, lo, hi, sum]
def wholeT (word : Str) (keys : List Int) (body : Str) : Str := headT word keys.length (endsI keys).1 (endsI keys).2 (sumOf body) ++ 10 :: body
theorem bodyT_snoc (ls : List Str) (s : Str) : bodyT (ls ++ [s]) = bodyT ls ++ (s ++ [10]) := by simp [bodyT]
theorem cut_body : ∀ {ls : List Str}, (∀ s ∈ ls, (10 : UInt8) ∉ s) → cutAt 10 (bodyT ls) = ls ++ [[]]
  | [], _ => rfl
  | s :: r, h => by
    have ih := cut_body (ls := r) fun x hx => h x (by simp [hx])
    have : bodyT (s :: r) = s ++ 10 :: bodyT r := by simp [bodyT]
    rw [this, cutAt_app (h s (by simp)), ih]; rfl
theorem body_inj {l m : List Str} (hl : ∀ s ∈ l, (10 : UInt8) ∉ s) (hm : ∀ s ∈ m, (10 : UInt8) ∉ s) (h : bodyT l = bodyT m) : l = m := by
  have h1 := cut_body hl
  rw [h, cut_body hm] at h1
  exact (List.append_cancel_right h1).symm
theorem body_count : ∀ {ls : List Str}, (∀ s ∈ ls, (10 : UInt8) ∉ s) → (bodyT ls).count 10 = ls.length
  | [], _ => rfl
  | s :: r, h => by
    have ih := body_count (ls := r) fun x hx => h x (by simp [hx])
    have : bodyT (s :: r) = s ++ 10 :: bodyT r := by simp [bodyT]
    rw [this, List.count_append, List.count_cons_self, ih, List.count_eq_zero.2 (h s (by simp))]
    simp
theorem head_clean {word : Str} (hw : (10 : UInt8) ∉ word) (n lo hi sum : Int) : (10 : UInt8) ∉ headT word n lo hi sum := by
  unfold headT
  intro h
  rcases List.mem_append.1 h with h | h
  · exact hw h
  · rcases nums_sign _ _ h with e | e | e
    · revert e; decide
    · revert e; decide
    · revert e; decide
theorem blk_cut_head {word : Str} (hw : (32 : UInt8) ∉ word) (n lo hi sum : Int) : cutAt 32 (headT word n lo hi sum) = [word, Lib.itoa n, Lib.itoa lo, Lib.itoa hi, Lib.itoa sum] := cut_nums _ _ hw
theorem itoa_inj' {n m : Int} (h : Lib.itoa n = Lib.itoa m) : n = m := by
  have h1 := atoi_itoa n
  rw [h, atoi_itoa] at h1
  exact (Option.some.inj h1).symm
/-- A text is cut once at its first newline. -/
theorem first_cut {p q p' q' : Str} (h : p ++ 10 :: q = p' ++ 10 :: q') (hp : (10 : UInt8) ∉ p) (hp' : (10 : UInt8) ∉ p') : p = p' ∧ q = q' := by
  have h1 := cut_app1 (c := 10) (q := q) hp
  rw [h, cut_app1 hp'] at h1
  simp only [Prod.mk.injEq, and_true] at h1
  exact ⟨h1.1.symm, h1.2.symm⟩
theorem set_take_drop {α : Type} : ∀ {s : List α} {i : Nat} (c : α), i < s.length → s.set i c = s.take i ++ c :: s.drop (i + 1)
  | [], _, _, h => by simp at h
  | x :: r, 0, c, _ => rfl
  | x :: r, i + 1, c, h => by simp [set_take_drop (s := r) (i := i) c (by simpa using h)]
theorem count_take_drop {s : Str} {i : Nat} {x c : UInt8} (hx : s[i]? = some x) : (s.set i c).count 10 + (if x = 10 then 1 else 0) = s.count 10 + (if c = 10 then 1 else 0) := by
  obtain ⟨hi, hg⟩ := List.getElem?_eq_some_iff.1 hx
  have h1 := set_take_drop (s := s) c hi
  have h2 : s = s.take i ++ x :: s.drop (i + 1) := by rw [← hg, List.getElem_cons_drop, List.take_append_drop]
  rw [h1]
  conv => rhs; rw [h2]
  simp only [List.count_append, List.count_cons, beq_iff_eq]
  omega
/-- ONE BYTE TURNED: what comes of it is no such text. -/
theorem block_one {word : Str} {k k' : List Int} {ls ls' : List Str} {i : Nat} {c x : UInt8} (hw : (32 : UInt8) ∉ word) (hw10 : (10 : UInt8) ∉ word) (hl : ls.length = k.length) (hl' : ls'.length = k'.length) (h10 : ∀ s ∈ ls, (10 : UInt8) ∉ s) (h10' : ∀ s ∈ ls', (10 : UInt8) ∉ s)
    (hk : ls = ls' → k = k') (hx : (wholeT word k (bodyT ls))[i]? = some x) (hne : x ≠ c) : (wholeT word k (bodyT ls)).set i c ≠ wholeT word k' (bodyT ls') := by
  intro he
  have hcnt := count_take_drop (c := c) hx
  rw [he] at hcnt
  unfold wholeT at he hx hcnt
  have hH := head_clean hw10 k.length (endsI k).1 (endsI k).2 (sumOf (bodyT ls))
  have hH' := head_clean hw10 k'.length (endsI k').1 (endsI k').2 (sumOf (bodyT ls'))
  have cH := blk_cut_head hw k.length (endsI k).1 (endsI k).2 (sumOf (bodyT ls))
  have cH' := blk_cut_head hw k'.length (endsI k').1 (endsI k').2 (sumOf (bodyT ls'))
  have hsame : ls = ls' → headT word k.length (endsI k).1 (endsI k).2 (sumOf (bodyT ls)) = headT word k'.length (endsI k').1 (endsI k').2 (sumOf (bodyT ls')) := fun e => by rw [hk e, e]
  generalize headT word k.length (endsI k).1 (endsI k).2 (sumOf (bodyT ls)) = H at *
  generalize headT word k'.length (endsI k').1 (endsI k').2 (sumOf (bodyT ls')) = H' at *
  have hcB := body_count h10
  have hcB' := body_count h10'
  have hn0 : H.count 10 = 0 := List.count_eq_zero.2 hH
  have hn0' : H'.count 10 = 0 := List.count_eq_zero.2 hH'
  simp only [List.count_append, List.count_cons_self, hn0, hn0', hcB, hcB'] at hcnt
  rcases Nat.lt_trichotomy i H.length with hi | hi | hi
  · -- in the head
    rw [List.set_append_left _ _ hi] at he
    rw [List.getElem?_append_left hi] at hx
    have hx10 : x ≠ 10 := fun e => hH (e ▸ List.mem_of_getElem? hx)
    rw [if_neg hx10] at hcnt
    by_cases hc : c = 10
    · rw [if_pos hc] at hcnt
      rw [set_take_drop c hi, hc, List.append_assoc, List.cons_append] at he
      obtain ⟨e1, -⟩ := first_cut he (fun h => hH (List.mem_of_mem_take h)) hH'
      have h2 := cutAt_pre (c := 32) H' (H.drop i) 1 (by rw [cH']; simp)
      rw [← e1, List.take_append_drop, cH, e1, cH'] at h2
      have := itoa_inj' (Option.some.inj h2)
      omega
    · have hcl : (10 : UInt8) ∉ H.set i c := fun h => by
        rcases List.mem_or_eq_of_mem_set h with h | h
        · exact hH h
        · exact hc h.symm
      obtain ⟨e1, e2⟩ := first_cut he hcl hH'
      have e3 := body_inj h10 h10' e2
      rw [← hsame e3] at e1
      have : (H.set i c)[i]? = some c := by simp [hi]
      rw [e1, hx] at this
      exact hne (Option.some.inj this)
  · -- the head's end
    subst hi
    have hx' : x = 10 := by simpa using hx.symm
    have hc : c ≠ 10 := fun e => hne (hx'.trans e.symm)
    rw [if_pos hx', if_neg hc] at hcnt
    have e0 : (H ++ 10 :: bodyT ls).set H.length c = H ++ c :: bodyT ls := by simp
    rw [e0] at he
    have h1 := cutAt_pre (c := 32) H (c :: bodyT ls) 1 (by rw [cH]; simp)
    have h2 := cutAt_pre (c := 32) H' (10 :: bodyT ls') 1 (by rw [cH']; simp)
    rw [he, h2, cH, cH'] at h1
    have := itoa_inj' (Option.some.inj h1)
    omega
  · -- in the body
    obtain ⟨j, rfl⟩ : ∃ j, i = H.length + (j + 1) := ⟨i - H.length - 1, by omega⟩
    have e0 : (H ++ 10 :: bodyT ls).set (H.length + (j + 1)) c = H ++ 10 :: (bodyT ls).set j c := by
      rw [List.set_append_right _ _ (by omega)]; simp
    have hxj : (bodyT ls)[j]? = some x := by
      rw [List.getElem?_append_right (by omega)] at hx
      simpa using hx
    rw [e0] at he
    obtain ⟨e1, e2⟩ := first_cut he hH hH'
    rw [e1, cH'] at cH
    simp only [List.cons.injEq, and_true, true_and] at cH
    have hs := itoa_inj' cH.2.2.2
    rw [← e2] at hs
    exact sumOf_set hxj hne (by omega)
end Go.Proofs.YtefoaeamfkbgbaaGreatDoor
