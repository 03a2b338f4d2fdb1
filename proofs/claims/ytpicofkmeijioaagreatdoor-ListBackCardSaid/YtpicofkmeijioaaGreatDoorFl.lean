/- Lists of files in plain words: of no program. -/
import Derived.Test.YtpicofkmeijioaaGreatDoorMetaSpec
import Derived.Test.YtpicofkmeijioaaGreatDoorNum
namespace Go.Proofs.YtpicofkmeijioaaGreatDoor
open Go.RowKit

/-- What is known of a file. -/
structure Fl where
  path : Str
  part : Str
  n : Int
  lo : Int
  hi : Int
  seq : Int
  deriving DecidableEq

abbrev kData : Str := [100, 97, 116, 97]
abbrev kGone : Str := [103, 111, 110, 101]

/-- A right path's kind and number. -/
def pathF (p : Str) : Option (Str × Int) :=
  if (Lib.cut p [47]).2.2 = true ∧ ((Lib.cut p [47]).1 = kData ∨ (Lib.cut p [47]).1 = kGone) then
    (numOf (Lib.cut p [47]).2.1).bind fun n => if n < 1 ∨ 1073741824 < n then none else some ((Lib.cut p [47]).1, n)
  else none
theorem pathF_some {p k : Str} {n : Int} (h : pathF p = some (k, n)) : (k = kData ∨ k = kGone) ∧ 1 ≤ n ∧ n ≤ 1073741824 := by
  unfold pathF at h
  split at h
  · rename_i hc
    cases hn : numOf (Lib.cut p [47]).2.1 with
    | none => rw [hn] at h; cases h
    | some m =>
      rw [hn, Option.bind_some] at h
      split at h
      · cases h
      · simp only [Option.some.injEq, Prod.mk.injEq] at h
        obtain ⟨h1, h2⟩ := h
        rw [← h1, ← h2]
        exact ⟨hc.2, by omega, by omega⟩
  · cases h
def kindF (p : Str) : Str := ((pathF p).getD ([], 0)).1
def numF (p : Str) : Int := ((pathF p).getD ([], 0)).2

/-- How two paths stand to one another. -/
def cmpP (a b : Str) : Int := if Lib.compareBytes (kindF a) (kindF b) ≠ 0 then Lib.compareBytes (kindF a) (kindF b) else numF a - numF b
/-- A number for a path: paths stand as these numbers do. -/
def keyP (p : Str) : Int :=
  match pathF p with
  | none => 0
  | some (k, n) => if k = kData then 2147483648 + n else 4294967296 + n
theorem path_ways (p : Str) : (pathF p = none ∧ kindF p = [] ∧ numF p = 0 ∧ keyP p = 0) ∨ (∃ n, 1 ≤ n ∧ n ≤ 1073741824 ∧ kindF p = kData ∧ numF p = n ∧ keyP p = 2147483648 + n) ∨ (∃ n, 1 ≤ n ∧ n ≤ 1073741824 ∧ kindF p = kGone ∧ numF p = n ∧ keyP p = 4294967296 + n) := by
  cases h : pathF p with
  | none => exact .inl ⟨rfl, by simp [kindF, h], by simp [numF, h], by simp [keyP, h]⟩
  | some kn =>
    obtain ⟨k, n⟩ := kn
    obtain ⟨h1, h2, h3⟩ := pathF_some h
    rcases h1 with rfl | rfl
    · exact .inr (.inl ⟨n, h2, h3, by simp [kindF, h], by simp [numF, h], by simp [keyP, h]⟩)
    · exact .inr (.inr ⟨n, h2, h3, by simp [kindF, h], by simp [numF, h], by simp [keyP, h]⟩)
theorem cmpP_key (a b : Str) : (cmpP a b < 0 ↔ keyP a < keyP b) ∧ (cmpP a b = 0 ↔ keyP a = keyP b) := by
  have e1 : Lib.compareBytes ([] : Str) [] = 0 := by decide
  have e2 : Lib.compareBytes ([] : Str) kData = -1 := by decide
  have e3 : Lib.compareBytes ([] : Str) kGone = -1 := by decide
  have e4 : Lib.compareBytes kData ([] : Str) = 1 := by decide
  have e5 : Lib.compareBytes kData kData = 0 := by decide
  have e6 : Lib.compareBytes kData kGone = -1 := by decide
  have e7 : Lib.compareBytes kGone ([] : Str) = 1 := by decide
  have e8 : Lib.compareBytes kGone kData = 1 := by decide
  have e9 : Lib.compareBytes kGone kGone = 0 := by decide
  unfold cmpP
  rcases path_ways a with ⟨-, a1, a2, a3⟩ | ⟨n, an1, an2, a1, a2, a3⟩ | ⟨n, an1, an2, a1, a2, a3⟩ <;> rcases path_ways b with ⟨-, b1, b2, b3⟩ | ⟨m, bn1, bn2, b1, b2, b3⟩ | ⟨m, bn1, bn2, b1, b2, b3⟩ <;>
    rw [a1, a2, a3, b1, b2, b3] <;> (first | rw [e1] | rw [e2] | rw [e3] | rw [e4] | rw [e5] | rw [e6] | rw [e7] | rw [e8] | rw [e9]) <;> (first | rw [if_pos (by decide)] | rw [if_neg (by decide)]) <;> omega
theorem cmpP_lt {a b : Str} : cmpP a b < 0 ↔ keyP a < keyP b := (cmpP_key a b).1
theorem cmpP_eq {a b : Str} : cmpP a b = 0 ↔ keyP a = keyP b := (cmpP_key a b).2
theorem cmpP_le {a b : Str} : cmpP a b ≤ 0 ↔ keyP a ≤ keyP b := by have := @cmpP_lt a b; have := @cmpP_eq a b; omega
theorem cmpP_bound (a b : Str) : -2147483648 ≤ cmpP a b ∧ cmpP a b ≤ 2147483648 := by
  have hn : ∀ p, 0 ≤ numF p ∧ numF p ≤ 1073741824 := fun p => by
    rcases path_ways p with ⟨-, -, h, -⟩ | ⟨n, h1, h2, -, h, -⟩ | ⟨n, h1, h2, -, h, -⟩ <;> rw [h] <;> omega
  have hc : ∀ a b : Str, -1 ≤ Lib.compareBytes a b ∧ Lib.compareBytes a b ≤ 1 := by
    intro a
    induction a with
    | nil => intro b; cases b <;> simp [Lib.compareBytes]
    | cons x r ih =>
      intro b
      cases b with
      | nil => simp [Lib.compareBytes]
      | cons y t =>
        unfold Lib.compareBytes
        split
        · omega
        · split
          · omega
          · exact ih t
  unfold cmpP
  have h1 := hn a; have h2 := hn b; have h3 := hc (kindF a) (kindF b)
  split <;> omega

def partSigns : Str := [97, 98, 99, 100, 101, 102, 103, 104, 105, 106, 107, 108, 109, 110, 111, 112, 113, 114, 115, 116, 117, 118, 119, 120, 121, 122, 48, 49, 50, 51, 52, 53, 54, 55, 56, 57]
/-- Is a text a part, of a kind? -/
def partOk (kind s : Str) : Bool := if kind = kGone then s == [45] else decide (s ≠ []) && (decide (s.length ≤ 12) && s.all (fun b => partSigns.contains b))
def farN (n : Int) : Prop := n < -1073741824 ∨ 1073741824 < n
instance (n : Int) : Decidable (farN n) := inferInstanceAs (Decidable (_ ∨ _))
def boundF (f : Fl) : Prop := f.n < 1 ∨ 40 < f.n ∨ farN f.lo ∨ farN f.hi ∨ f.hi < f.lo ∨ f.seq < 1 ∨ 1073741824 < f.seq
instance (f : Fl) : Decidable (boundF f) := inferInstanceAs (Decidable (_ ∨ _))
/-- A file's fault, by its number. -/
def checkF (f : Fl) : Nat :=
  if pathF f.path = none then 5 else if partOk (kindF f.path) f.part = false then 4 else if boundF f then 2 else 0

/-- A list's fault at a place. -/
def fileFault (l : List Fl) (i : Nat) : Nat :=
  match l[i]? with
  | none => 0
  | some f => if checkF f ≠ 0 then checkF f else if 0 < i ∧ ∃ g, l[i - 1]? = some g ∧ cmpP f.path g.path ≤ 0 then 9 else 0
def listCheck (l : List Fl) : Er := if 60 < l.length then .bare 8 else firstErr (fileFault l) l.length

/-- A right list. -/
structure RightL (l : List Fl) : Prop where
  len : l.length ≤ 60
  ok : ∀ f ∈ l, checkF f = 0
  ris : l.Pairwise (fun a b => keyP a.path < keyP b.path)

theorem pair_next {l : List Fl} (h : ∀ (i : Nat) (a b : Fl), l[i]? = some a → l[i + 1]? = some b → keyP a.path < keyP b.path) : l.Pairwise (fun a b => keyP a.path < keyP b.path) := by
  induction l with
  | nil => exact List.Pairwise.nil
  | cons x r ih =>
    have hr := ih fun i a b ha hb => h (i + 1) a b ha hb
    refine List.pairwise_cons.2 ⟨fun y hy => ?_, hr⟩
    cases r with
    | nil => cases hy
    | cons z t =>
      have h0 := h 0 x z rfl rfl
      rcases List.mem_cons.1 hy with rfl | hy
      · exact h0
      · exact Int.lt_trans h0 ((List.pairwise_cons.1 hr).1 y hy)
theorem right_iff (l : List Fl) : listCheck l = .nil ↔ RightL l := by
  unfold listCheck
  constructor
  · intro h
    split at h
    · cases h
    · rename_i hl
      have hf := firstErr_nil h
      have hat : ∀ (i : Nat) (f : Fl), l[i]? = some f → checkF f = 0 ∧ (0 < i → ∀ g, l[i - 1]? = some g → ¬ cmpP f.path g.path ≤ 0) := by
        intro i f hif
        have := hf i (List.getElem?_eq_some_iff.1 hif).1
        unfold fileFault at this
        rw [hif] at this
        simp only at this
        split at this
        · rename_i h1; exact absurd this h1
        · rename_i h1
          split at this
          · cases this
          · rename_i h2
            exact ⟨Decidable.not_not.1 h1, fun hi g hg hc => h2 ⟨hi, g, hg, hc⟩⟩
      refine ⟨by omega, fun f hf => ?_, pair_next fun i a b ha hb => ?_⟩
      · obtain ⟨i, hi⟩ := List.getElem?_of_mem hf
        exact (hat i f hi).1
      · have := (hat (i + 1) b hb).2 (by omega) a ha
        rw [cmpP_le] at this
        omega
  · intro h
    rw [if_neg (by have := h.len; omega)]
    refine firstErr_all fun j hj => ?_
    unfold fileFault
    obtain ⟨f, hf⟩ : ∃ f, l[j]? = some f := ⟨l[j], List.getElem?_eq_getElem hj⟩
    rw [hf]
    simp only
    rw [if_neg (by simpa using h.ok f (List.mem_of_getElem? hf)), if_neg ?_]
    rintro ⟨hj0, g, hg, hc⟩
    rw [cmpP_le] at hc
    obtain ⟨h1, h2⟩ := List.getElem?_eq_some_iff.1 hf
    obtain ⟨h3, h4⟩ := List.getElem?_eq_some_iff.1 hg
    have := List.pairwise_iff_getElem.1 h.ris (j - 1) j h3 h1 (by omega)
    rw [h2, h4] at this
    omega

/-- Where a path is; none: nowhere. -/
def findF (l : List Fl) (p : Str) : Option Nat := l.findIdx? (fun f => f.path == p)
/-- A file placed where it comes. -/
def placeF (f : Fl) : List Fl → List Fl
  | [] => [f]
  | g :: r => if keyP f.path ≤ keyP g.path then f :: g :: r else g :: placeF f r
def dropF (l : List Fl) (p : Str) : List Fl := l.filter (fun f => !(f.path == p))
def thereF (l : List Fl) (f : Fl) : Prop := ∃ g ∈ l, keyP g.path = keyP f.path
instance (l : List Fl) (f : Fl) : Decidable (thereF l f) := inferInstanceAs (Decidable (∃ g ∈ l, _))
def addE (l : List Fl) (f : Fl) : Er :=
  if listCheck l ≠ .nil then listCheck l else if checkF f ≠ 0 then .bare (checkF f) else if thereF l f then .bare 7 else if 60 ≤ l.length then .bare 8 else .nil
def addL (l : List Fl) (f : Fl) : List Fl := if addE l f = .nil then placeF f l else []
def removeE (l : List Fl) (p : Str) : Er := if listCheck l ≠ .nil then listCheck l else if (findF l p).isNone then .bare 6 else .nil
def removeL (l : List Fl) (p : Str) : List Fl := if removeE l p = .nil then dropF l p else []

/-- The place of a file among others. -/
structure PlaceAt (l : List Fl) (f : Fl) (k : Nat) : Prop where
  le : k ≤ l.length
  low : ∀ (j : Nat) (g : Fl), j < k → l[j]? = some g → keyP g.path < keyP f.path
  high : ∀ (j : Nat) (g : Fl), k ≤ j → l[j]? = some g → keyP f.path ≤ keyP g.path
theorem placeF_at {f : Fl} : ∀ {l : List Fl} {k : Nat}, PlaceAt l f k → placeF f l = l.take k ++ f :: l.drop k
  | [], k, h => by
    obtain rfl : k = 0 := Nat.le_zero.1 h.le
    rfl
  | g :: r, 0, h => by
    have := h.high 0 g (Nat.le_refl _) rfl
    unfold placeF
    rw [if_pos this]
    rfl
  | g :: r, k + 1, h => by
    have := h.low 0 g (by omega) rfl
    unfold placeF
    rw [if_neg (by omega), List.take_succ_cons, List.drop_succ_cons, List.cons_append]
    congr 1
    exact placeF_at ⟨by have := h.le; simp at this; omega, fun j x hj hx => h.low (j + 1) x (by omega) hx, fun j x hj hx => h.high (j + 1) x (by omega) hx⟩
theorem PlaceAt.there {l : List Fl} {f : Fl} {k : Nat} (h : PlaceAt l f k) (hr : l.Pairwise (fun a b => keyP a.path < keyP b.path)) : thereF l f ↔ ∃ g, l[k]? = some g ∧ cmpP g.path f.path = 0 := by
  constructor
  · rintro ⟨g, hg, he⟩
    obtain ⟨j, hj⟩ := List.getElem?_of_mem hg
    obtain ⟨hj1, hj2⟩ := List.getElem?_eq_some_iff.1 hj
    rcases Nat.lt_trichotomy j k with h1 | rfl | h1
    · have := h.low j g h1 hj; omega
    · exact ⟨g, hj, cmpP_eq.2 he⟩
    · have hk : k < l.length := by omega
      have h2 := h.high k l[k] (Nat.le_refl _) (List.getElem?_eq_getElem hk)
      have h3 := List.pairwise_iff_getElem.1 hr k j hk hj1 h1
      rw [hj2] at h3
      omega
  · rintro ⟨g, hg, he⟩
    exact ⟨g, List.mem_of_getElem? hg, cmpP_eq.1 he⟩

theorem dropF_at : ∀ {l : List Fl} {k : Nat} {x : Fl}, l.Pairwise (fun a b => keyP a.path < keyP b.path) → l[k]? = some x → dropF l x.path = l.take k ++ l.drop (k + 1)
  | [], k, x, _, h => by simp at h
  | a :: r, 0, x, hr, h => by
    obtain rfl : a = x := by simpa using h
    have ha := (List.pairwise_cons.1 hr).1
    unfold dropF
    rw [List.filter_cons_of_neg (by simp)]
    simp only [List.take_zero, List.drop_succ_cons, List.drop_zero, List.nil_append]
    exact List.filter_eq_self.2 fun o ho => by
      have := ha o ho
      simp only [Bool.not_eq_true', beq_eq_false_iff_ne]
      intro e; rw [e] at this; omega
  | a :: r, k + 1, x, hr, h => by
    have ha := (List.pairwise_cons.1 hr).1
    have hx : r[k]? = some x := by simpa using h
    have ih := dropF_at (List.pairwise_cons.1 hr).2 hx
    unfold dropF at ih ⊢
    have hne := ha x (List.mem_of_getElem? hx)
    rw [List.filter_cons_of_pos (by simp only [Bool.not_eq_true', beq_eq_false_iff_ne]; intro e; rw [e] at hne; omega)]
    rw [ih]
    rfl
theorem findF_at {l : List Fl} {k : Nat} {x : Fl} (hr : l.Pairwise (fun a b => keyP a.path < keyP b.path)) (h : l[k]? = some x) : findF l x.path = some k := by
  obtain ⟨hk, hx⟩ := List.getElem?_eq_some_iff.1 h
  unfold findF
  rw [List.findIdx?_eq_some_iff_getElem]
  refine ⟨hk, by rw [hx]; simp, fun j hj => ?_⟩
  have := List.pairwise_iff_getElem.1 hr j k (by omega) hk hj
  rw [hx] at this
  simp only [Bool.not_eq_true, beq_eq_false_iff_ne]
  intro e; rw [e] at this; omega
theorem findF_none {l : List Fl} {p : Str} : findF l p = none ↔ ∀ f ∈ l, f.path ≠ p := by
  unfold findF
  rw [List.findIdx?_eq_none_iff]
  simp
theorem place_ex (l : List Fl) (f : Fl) (hr : l.Pairwise (fun a b => keyP a.path < keyP b.path)) : ∃ k, PlaceAt l f k := by
  induction l with
  | nil => exact ⟨0, Nat.le_refl _, fun j g hj => absurd hj (by omega), fun j g _ h => by simp at h⟩
  | cons a r ih =>
    obtain ⟨h1, h2⟩ := List.pairwise_cons.1 hr
    by_cases h : keyP a.path < keyP f.path
    · obtain ⟨k, hk⟩ := ih h2
      refine ⟨k + 1, by have := hk.le; simp; omega, fun j g hj hg => ?_, fun j g hj hg => ?_⟩
      · cases j with
        | zero => obtain rfl : a = g := by simpa using hg
                  exact h
        | succ j => exact hk.low j g (by omega) (by simpa using hg)
      · cases j with
        | zero => omega
        | succ j => exact hk.high j g (by omega) (by simpa using hg)
    · refine ⟨0, Nat.zero_le _, fun j g hj => absurd hj (by omega), fun j g _ hg => ?_⟩
      cases j with
      | zero => obtain rfl : a = g := by simpa using hg
                omega
      | succ j =>
        have := h1 g (List.mem_of_getElem? (i := j) (by simpa using hg))
        omega

/-- A right list is a head ahead of a right list. -/
theorem RightL.tail {a : Fl} {l : List Fl} (h : RightL (a :: l)) : RightL l :=
  ⟨by have := h.len; simp at this; omega, fun f hf => h.ok f (List.mem_cons_of_mem _ hf), (List.pairwise_cons.1 h.ris).2⟩
theorem RightL.drop {l : List Fl} (h : RightL l) : ∀ k, RightL (l.drop k)
  | 0 => h
  | k + 1 => by
    rcases Nat.lt_or_ge k l.length with hk | hk
    · have := RightL.drop h k
      rw [List.drop_eq_getElem_cons hk] at this
      exact this.tail
    · rw [List.drop_eq_nil_of_le (by omega)]
      exact ⟨Nat.zero_le _, fun _ h => (by cases h), List.Pairwise.nil⟩
theorem add_head {a : Fl} {l : List Fl} (h : RightL (a :: l)) : addE l a = .nil ∧ addL l a = a :: l := by
  have hl := (right_iff l).2 h.tail
  have ha := h.ok a (List.mem_cons_self ..)
  obtain ⟨h1, h2⟩ := List.pairwise_cons.1 h.ris
  have he : addE l a = .nil := by
    unfold addE
    rw [if_neg (by simp [hl]), if_neg (by simp [ha]), if_neg ?_, if_neg (by have := h.len; simp at this; omega)]
    rintro ⟨g, hg, e⟩
    have := h1 g hg; omega
  refine ⟨he, ?_⟩
  unfold addL
  rw [if_pos he]
  cases l with
  | nil => rfl
  | cons b r =>
    unfold placeF
    rw [if_pos (by have := h1 b (List.mem_cons_self ..); omega)]
theorem RightL.dropF {l : List Fl} (h : RightL l) (p : Str) : RightL (dropF l p) :=
  ⟨Nat.le_trans (List.length_filter_le ..) h.len, fun f hf => h.ok f (List.mem_filter.1 hf).1, h.ris.filter _⟩
/-- One less, and that one added. -/
theorem remove_add {l : List Fl} {k : Nat} {x : Fl} (h : RightL l) (hx : l[k]? = some x) :
    removeE l x.path = .nil ∧ removeL l x.path = l.take k ++ l.drop (k + 1) ∧ findF (removeL l x.path) x.path = none ∧ addE (removeL l x.path) x = .nil ∧ addL (removeL l x.path) x = l := by
  obtain ⟨hk, hxe⟩ := List.getElem?_eq_some_iff.1 hx
  have he : removeE l x.path = .nil := by
    unfold removeE
    rw [if_neg (by simp [(right_iff l).2 h]), findF_at h.ris hx, if_neg (by simp)]
  have hd := dropF_at h.ris hx
  have hr : removeL l x.path = l.take k ++ l.drop (k + 1) := by unfold removeL; rw [if_pos he, hd]
  have hR : RightL (l.take k ++ l.drop (k + 1)) := hd ▸ h.dropF x.path
  have hlen : (l.take k ++ l.drop (k + 1)).length = l.length - 1 := by rw [List.length_append, List.length_take, List.length_drop]; omega
  have hne : ∀ g ∈ l.take k ++ l.drop (k + 1), keyP g.path ≠ keyP x.path := by
    intro g hg
    rcases List.mem_append.1 hg with h1 | h1
    · obtain ⟨j, hj, rfl⟩ := List.getElem_of_mem h1
      rw [List.length_take] at hj
      have := List.pairwise_iff_getElem.1 h.ris j k (by omega) hk (by omega)
      rw [hxe] at this
      rw [List.getElem_take]; omega
    · obtain ⟨j, hj, rfl⟩ := List.getElem_of_mem h1
      rw [List.length_drop] at hj
      have := List.pairwise_iff_getElem.1 h.ris k (k + 1 + j) hk (by omega) (by omega)
      rw [hxe] at this
      rw [List.getElem_drop]; omega
  have hadd : addE (l.take k ++ l.drop (k + 1)) x = .nil := by
    unfold addE
    rw [if_neg (by simp [(right_iff _).2 hR]), if_neg (by simp [h.ok x (List.mem_of_getElem? hx)]), if_neg ?_, if_neg (by rw [hlen]; have := h.len; omega)]
    rintro ⟨g, hg, e⟩
    exact hne g hg e
  have hpl : PlaceAt (l.take k ++ l.drop (k + 1)) x k := by
    refine ⟨by rw [hlen]; omega, fun j g hj hg => ?_, fun j g hj hg => ?_⟩
    · rw [List.getElem?_append_left (by rw [List.length_take]; omega), List.getElem?_take, if_pos hj] at hg
      obtain ⟨h1, h2⟩ := List.getElem?_eq_some_iff.1 hg
      have := List.pairwise_iff_getElem.1 h.ris j k h1 hk hj
      rw [hxe, h2] at this
      exact this
    · rw [List.getElem?_append_right (by rw [List.length_take]; omega), List.getElem?_drop, List.length_take, Nat.min_eq_left (by omega)] at hg
      obtain ⟨h1, h2⟩ := List.getElem?_eq_some_iff.1 hg
      have := List.pairwise_iff_getElem.1 h.ris k _ hk h1 (by omega)
      rw [hxe, h2] at this
      omega
  refine ⟨he, hr, ?_, ?_, ?_⟩
  · rw [hr, findF_none]
    intro f hf e
    exact hne f hf (by rw [e])
  · rw [hr]; exact hadd
  · rw [hr]
    unfold addL
    rw [if_pos hadd, placeF_at hpl]
    have ht : (l.take k ++ l.drop (k + 1)).take k = l.take k := by
      rw [List.take_append_of_le_length (by rw [List.length_take]; omega), List.take_take, Nat.min_self]
    have hdr : (l.take k ++ l.drop (k + 1)).drop k = l.drop (k + 1) := by
      rw [List.drop_append_of_le_length (by rw [List.length_take]; omega), List.drop_eq_nil_of_le (by rw [List.length_take]; omega), List.nil_append]
    rw [ht, hdr, ← hxe, ← List.drop_eq_getElem_cons hk, List.take_append_drop]
end Go.Proofs.YtpicofkmeijioaaGreatDoor
