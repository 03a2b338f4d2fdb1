/- Rows in plain words: of no program. Parts in plain words: a spec, a row's group. Files of keys in plain words: a head and lines; what is made, what is read; the two agree. A row of elements of any size that the call owns: copied into, an element written, appended to within its capacity. Of no program. A struct of six cells written cell by cell; a result that lies in a block. Of no program. data.table, data.Sum: the walks: the table has of each byte what its bits make; the sum is the sum in plain words. strconv.FormatUint in base ten: the walk. strings.Split by one byte; slices of slices. strings.Trim to nothing, in plain words. Files in memory; a path's number; a part; a file's check. Lists of files: the statements' own helpers: OwnFiles, LongFile, LongFiles. slices.Clone, Delete at []api.File. The shelf's contracts that the walks of this seat use, in plain declarations (written by the kit's tool, trimmed by a program). -/
import Derived.Test.YtpfohfihkmjnaaaGreatDoorPk4
import Derived.Test.YtpfohfihkmjnaaaGreatDoorPk2
import Derived.Test.YtpfohfihkmjnaaaGreatDoorPk1
import Derived.Laws.CopyRow
import Derived.Laws.CopyOwn
import Derived.Lib.AppendZeros
import Derived.Lib.Overlaps
import Derived.Laws.ResultCell
import Derived.Laws.Rows
import Derived.Deep.WholeRow
import Derived.Laws.Tables
import Derived.Laws.BitsAll
import Derived.Outline
import Derived.Lib.AppendIntMem
import Derived.Shelf.Strings.SlTrimAscii
import Derived.Deep.RegionLaw
import Derived.Shelf.Strings.Trim
import Derived.Shelf.Small.Utf8
import Derived.Shelf.Small.Bits
import Derived.Shelf.Small.Strs
import Derived.Shelf.Small.Wraps
import Derived.Shelf.Strconv.Atoi
import Derived.Shelf.Strconv.Itoa0
import Derived.Shelf.Strconv.Itoa1
import Derived.Shelf.LaysM
import Derived.Shelf.Strconv.Itoa2
import Derived.Shelf.Strconv.Itoa3
import Derived.Shelf.Strconv.AtoiErrFast
import Derived.Shelf.Strconv.ParseIntEmpty
import Derived.Shelf.Strconv.AtoiFail
import Derived.Shelf.Strconv.Clone
import Derived.Shelf.Strconv.SyntaxError
import Derived.Shelf.LaysC
import Derived.Shelf.Strconv.ToError
import Derived.Shelf.Strconv.Lower
import Derived.Shelf.Strconv.ParseUint10
import Derived.Shelf.Strconv.ParseUint10Empty
import Derived.Shelf.Strconv.ParseUint10Any
import Derived.Shelf.Strconv.ParseInt10
import Derived.Shelf.Strconv.AtoiLong
import Derived.Shelf.Strconv.AtoiInnerAll
import Derived.Shelf.Strconv.RangeError
import Derived.Shelf.Strconv.ToErrorRange
import Derived.Shelf.Strconv.AtoiAll
import Derived.Shelf.Strconv.ErrVarAll
import Derived.Shelf.Strings.Search1
import Derived.Shelf.Strings.Search2
import Derived.Shelf.Strings.Search3
import Derived.Shelf.Strings.Cut
import Derived.Shelf.Strings.Count
import Derived.Shelf.Strings.Shaped
import Derived.Shelf.Strings.Split
import Derived.Shelf.Strings.Runes
import Derived.Shelf.Strings.AsciiSet
import Derived.Shelf.Unicode.DecodeSlow
import Derived.Shelf.Slices.Turned
import Derived.Ground.Names2Prog
import Derived.Shelf.Slices.SearchI
import Derived.Shelf.Slices.Empties
import Derived.Test.YtpfohfihkmjnaaaGreatDoorProg
namespace Go.Proofs.YtpfohfihkmjnaaaGreatDoor
open Go.RowKit
/-- A row. -/
structure Rw where
  part : Str
  key : Int
  val : Int
  deriving DecidableEq, Inhabited
/-- Is a text a name? -/
def nameOk (s : Str) : Bool := decide (s ≠ []) && (decide (s.length ≤ 8) && s.all (fun b => partSigns.contains b))
/-- A row's fault, by its number. -/
def rowCheck (r : Rw) : Nat := if nameOk r.part = false then 5 else if farN r.key ∨ farN r.val then 2 else 0
def rowLine (r : Rw) : Str := r.part ++ numsTail [r.key, r.val]
def rowText (r : Rw) : Str := if rowCheck r = 0 then rowLine r else []
def zeroR : Rw := ⟨[], 0, 0⟩
def rowOf : List Str → Option Rw
  | [p, a, b] =>
    match numsOf [a, b] with
    | some [k, v] => some ⟨p, k, v⟩
    | _ => none
  | _ => none
def rowRead (s : Str) : Rw × Nat :=
  match rowOf (cutAt 32 s) with
  | none => (zeroR, 1)
  | some r => if rowCheck r = 0 then (r, 0) else (zeroR, rowCheck r)
theorem rowCheck_zero {r : Rw} (h : rowCheck r = 0) : nameOk r.part = true ∧ ¬ farN r.key ∧ ¬ farN r.val := by
  unfold rowCheck at h
  split at h
  · cases h
  · rename_i h1
    split at h
    · cases h
    · rename_i h2
      exact ⟨by simpa using h1, fun h => h2 (.inl h), fun h => h2 (.inr h)⟩
theorem name_sign {s : Str} (h : nameOk s = true) : (∀ c ∈ s, c = 45 ∨ 47 ≤ c.toNat) ∧ 1 ≤ s.length ∧ s.length ≤ 8 := by
  simp only [nameOk, Bool.and_eq_true, decide_eq_true_eq, List.all_eq_true] at h
  obtain ⟨h1, h2, h3⟩ := h
  refine ⟨fun c hc => ?_, by cases s with | nil => exact absurd rfl h1 | cons _ _ => simp, h2⟩
  have h4 := h3 c hc
  have h5 : ∀ d ∈ partSigns, d = 45 ∨ 47 ≤ d.toNat := by decide
  exact h5 c (by simpa using h4)
theorem rowRead_none {s : Str} (h : rowOf (cutAt 32 s) = none) : rowRead s = (zeroR, 1) := by unfold rowRead; rw [h]
theorem rowRead_some {s : Str} {r : Rw} (h : rowOf (cutAt 32 s) = some r) : rowRead s = if rowCheck r = 0 then (r, 0) else (zeroR, rowCheck r) := by unfold rowRead; rw [h]
theorem rowOf_len {l : List Str} (h : l.length ≠ 3) : rowOf l = none := by
  match l, h with
  | [], _ => rfl
  | [_], _ => rfl
  | [_, _], _ => rfl
  | [_, _, _], h => exact absurd rfl h
  | _ :: _ :: _ :: _ :: _, _ => rfl
theorem three_strs {l : List Str} (h : l.length = 3) : ∃ p a b, l = [p, a, b] := by
  match l, h with
  | [p, a, b], _ => exact ⟨p, a, b, rfl⟩
theorem two_ints {l : List Int} (h : l.length = 2) : ∃ a b, l = [a, b] := by
  match l, h with
  | [a, b], _ => exact ⟨a, b, rfl⟩
/-- The order of rows. -/
def lessR (a b : Rw) : Bool := if a.part ≠ b.part then bef a.part b.part else if a.key ≠ b.key then decide (a.key < b.key) else decide (a.val < b.val)
def cmpI (a b : Int) : Int := if a < b then -1 else if b < a then 1 else 0
def cmpS (a b : Str) : Int := if bef a b = true then -1 else if bef b a = true then 1 else 0
def cmpR (a b : Rw) : Int := if cmpS a.part b.part ≠ 0 then cmpS a.part b.part else if cmpI a.key b.key ≠ 0 then cmpI a.key b.key else cmpI a.val b.val
theorem bef_irrefl (a : Str) : bef a a = false := by
  cases h : bef a a with
  | false => rfl
  | true => have := up_asym h; rw [h] at this; exact this
theorem bef_or : ∀ {a b : Str}, a ≠ b → bef a b = true ∨ bef b a = true
  | [], [], h => absurd rfl h
  | [], _ :: _, _ => .inl rfl
  | _ :: _, [], _ => .inr rfl
  | a :: r, b :: s, h => by
    show (decide (a < b) || (a == b && bytesBefore r s)) = true ∨ (decide (b < a) || (b == a && bytesBefore s r)) = true
    by_cases hab : a = b
    · subst hab
      have hrs : r ≠ s := fun e => h (by rw [e])
      rcases bef_or hrs with h1 | h1
      · left; have h1 : bytesBefore r s = true := h1; simp [h1]
      · right; have h1 : bytesBefore s r = true := h1; simp [h1]
    · rcases Nat.lt_or_gt_of_ne (fun e => hab (UInt8.toNat_inj.1 e)) with h1 | h1
      · left; simp [UInt8.lt_iff_toNat_lt, h1]
      · right; simp [UInt8.lt_iff_toNat_lt, h1]
theorem cmpS_zero {a b : Str} : cmpS a b = 0 ↔ a = b := by
  unfold cmpS
  constructor
  · intro h
    by_cases hab : a = b
    · exact hab
    · rcases bef_or hab with h1 | h1
      · rw [if_pos h1] at h; cases h
      · rw [if_neg (by rw [up_asym h1]; decide), if_pos h1] at h; cases h
  · rintro rfl
    rw [if_neg (by rw [bef_irrefl]; decide), if_neg (by rw [bef_irrefl]; decide)]
theorem cmpI_zero {a b : Int} : cmpI a b = 0 ↔ a = b := by
  unfold cmpI
  split
  · omega
  · split <;> omega
theorem cmpR_less (a b : Rw) : decide (cmpR a b < 0) = lessR a b := by
  unfold cmpR lessR
  by_cases h1 : a.part = b.part
  · rw [if_neg (fun h : cmpS a.part b.part ≠ 0 => h (cmpS_zero.2 h1)), if_neg (fun h : a.part ≠ b.part => h h1)]
    by_cases h2 : a.key = b.key
    · rw [if_neg (fun h : cmpI a.key b.key ≠ 0 => h (cmpI_zero.2 h2)), if_neg (fun h : a.key ≠ b.key => h h2)]
      unfold cmpI
      by_cases h3 : a.val < b.val
      · simp [h3]
      · by_cases h4 : b.val < a.val <;> simp [h3, h4]
    · rw [if_pos (show cmpI a.key b.key ≠ 0 from fun e => h2 (cmpI_zero.1 e)), if_pos (show a.key ≠ b.key from h2)]
      unfold cmpI
      by_cases h3 : a.key < b.key
      · simp [h3]
      · by_cases h4 : b.key < a.key <;> simp [h3, h4]
  · rw [if_pos (show cmpS a.part b.part ≠ 0 from fun e => h1 (cmpS_zero.1 e)), if_pos (show a.part ≠ b.part from h1)]
    unfold cmpS
    cases h3 : bef a.part b.part with
    | true => simp
    | false =>
      rcases bef_or h1 with h4 | h4
      · rw [h3] at h4; cases h4
      · simp [h4]
theorem less_irrefl (a : Rw) : lessR a a = false := by simp [lessR]
theorem less_trans {a b c : Rw} (h1 : lessR a b = true) (h2 : lessR b c = true) : lessR a c = true := by
  unfold lessR at *
  by_cases e1 : a.part = b.part
  · by_cases e2 : b.part = c.part
    · rw [if_neg (fun h : a.part ≠ b.part => h e1)] at h1
      rw [if_neg (fun h : b.part ≠ c.part => h e2)] at h2
      rw [if_neg (fun h : a.part ≠ c.part => h (e1.trans e2))]
      by_cases k1 : a.key = b.key <;> by_cases k2 : b.key = c.key
      · rw [if_neg (fun h : a.key ≠ b.key => h k1)] at h1
        rw [if_neg (fun h : b.key ≠ c.key => h k2)] at h2
        rw [if_neg (fun h : a.key ≠ c.key => h (k1.trans k2))]
        simp only [decide_eq_true_eq] at *; omega
      · rw [if_pos k2] at h2
        rw [if_pos (by rw [k1]; exact k2)]
        simp only [decide_eq_true_eq] at *; omega
      · rw [if_pos k1] at h1
        rw [if_pos (by rw [← k2]; exact k1)]
        simp only [decide_eq_true_eq] at *; omega
      · rw [if_pos k1] at h1
        rw [if_pos k2] at h2
        simp only [decide_eq_true_eq] at h1 h2
        rw [if_pos (by omega)]
        simp only [decide_eq_true_eq]; omega
    · rw [if_pos e2] at h2
      rw [if_pos (by rw [e1]; exact e2), e1]; exact h2
  · rw [if_pos e1] at h1
    by_cases e2 : b.part = c.part
    · rw [if_pos (by rw [← e2]; exact e1), ← e2]; exact h1
    · rw [if_pos e2] at h2
      have h3 := bef_trans h1 h2
      rw [if_pos (by rintro e; rw [e, bef_irrefl] at h3; cases h3)]; exact h3
theorem less_or {a b : Rw} (h : a ≠ b) : lessR a b = true ∨ lessR b a = true := by
  unfold lessR
  by_cases e1 : a.part = b.part
  · rw [if_neg (fun h : a.part ≠ b.part => h e1), if_neg (fun h : b.part ≠ a.part => h e1.symm)]
    by_cases e2 : a.key = b.key
    · rw [if_neg (fun h : a.key ≠ b.key => h e2), if_neg (fun h : b.key ≠ a.key => h e2.symm)]
      have e3 : a.val ≠ b.val := fun e3 => h (by cases a; cases b; simp_all)
      simp only [decide_eq_true_eq]; omega
    · rw [if_pos (show a.key ≠ b.key from e2), if_pos (show b.key ≠ a.key from fun e => e2 e.symm)]
      simp only [decide_eq_true_eq]; omega
  · rw [if_pos (show a.part ≠ b.part from e1), if_pos (show b.part ≠ a.part from fun e => e1 e.symm)]
    exact bef_or e1
theorem less_asym {a b : Rw} (h : lessR a b = true) : lessR b a = false := by
  cases h2 : lessR b a with
  | false => rfl
  | true => have := less_trans h h2; rw [less_irrefl] at this; cases this
/-- No later one comes ahead of an earlier one. -/
def upR (l : List Rw) : Prop := l.Pairwise (fun a b => lessR b a = false)
theorem le_trans' {a b c : Rw} (h1 : lessR b a = false) (h2 : lessR c b = false) : lessR c a = false := by
  cases h : lessR c a with
  | false => rfl
  | true =>
    by_cases hab : a = b
    · subst hab; rw [h] at h2; exact h2
    · rcases less_or hab with h3 | h3
      · have := less_trans h h3; rw [h2] at this; cases this
      · rw [h1] at h3; cases h3
theorem up_unique {l m : List Rw} (hl : upR l) (hm : upR m) (hp : l.Perm m) : l = m :=
  List.Perm.eq_of_pairwise (le := fun a b => lessR b a = false) (fun a b _ _ h1 h2 => by
    by_cases hab : a = b
    · exact hab
    · rcases less_or hab with h3 | h3
      · rw [h3] at h2; cases h2
      · rw [h3] at h1; cases h1) hl hm hp
/-- One row more in a rising list. -/
def insR (x : Rw) : List Rw → List Rw
  | [] => [x]
  | y :: r => if lessR x y = true then x :: y :: r else y :: insR x r
theorem insR_perm (x : Rw) : ∀ l : List Rw, (insR x l).Perm (x :: l)
  | [] => .refl _
  | y :: r => by
    unfold insR
    split
    · exact .refl _
    · exact ((insR_perm x r).cons y).trans (.swap x y r)
theorem insR_up {x : Rw} : ∀ {l : List Rw}, upR l → upR (insR x l)
  | [], _ => by simp [insR, upR]
  | y :: r, h => by
    obtain ⟨h1, h2⟩ := List.pairwise_cons.1 h
    unfold insR
    split
    · rename_i hb
      refine List.pairwise_cons.2 ⟨fun z hz => ?_, h⟩
      rcases List.mem_cons.1 hz with rfl | hz
      · exact less_asym hb
      · exact le_trans' (less_asym hb) (h1 z hz)
    · rename_i hb
      refine List.pairwise_cons.2 ⟨fun z hz => ?_, insR_up h2⟩
      rcases List.mem_cons.1 ((insR_perm x r).mem_iff.1 hz) with rfl | hz
      · simpa using hb
      · exact h1 z hz
theorem insR_at {x : Rw} : ∀ {l : List Rw} {k : Nat}, k ≤ l.length → (∀ j < k, ∀ y, l[j]? = some y → lessR x y = false) → (∀ y, l[k]? = some y → lessR x y = true) → insR x l = l.take k ++ x :: l.drop k
  | [], 0, _, _, _ => rfl
  | [], _ + 1, h, _, _ => by simp at h
  | y :: r, 0, _, _, h2 => by
    unfold insR
    rw [if_pos (h2 y rfl)]; rfl
  | y :: r, k + 1, h, h1, h2 => by
    unfold insR
    rw [if_neg (by rw [h1 0 (by omega) y rfl]; decide), insR_at (k := k) (by simpa using h) (fun j hj z hz => h1 (j + 1) (by omega) z (by simpa using hz)) (fun z hz => h2 z (by simpa using hz))]
    rfl
def sortR (l : List Rw) : List Rw := l.foldl (fun a x => insR x a) []
theorem sort_fold : ∀ (l a : List Rw), upR a → upR (l.foldl (fun a x => insR x a) a) ∧ (l.foldl (fun a x => insR x a) a).Perm (a ++ l)
  | [], a, h => ⟨h, by simp⟩
  | x :: r, a, h => by
    obtain ⟨h1, h2⟩ := sort_fold r (insR x a) (insR_up h)
    refine ⟨h1, h2.trans ?_⟩
    refine ((insR_perm x a).append_right r).trans ?_
    exact (List.perm_middle).symm
theorem sort_up (l : List Rw) : upR (sortR l) := (sort_fold l [] .nil).1
theorem sort_perm (l : List Rw) : (sortR l).Perm l := by simpa [sortR] using (sort_fold l [] .nil).2
theorem sort_of {l m : List Rw} (h : upR m) (hp : m.Perm l) : m = sortR l := up_unique h (sort_up l) (hp.trans (sort_perm l).symm)
theorem sort_len (l : List Rw) : (sortR l).length = l.length := (sort_perm l).length_eq
theorem sort_eq {l m : List Rw} : sortR l = sortR m ↔ l.Perm m := by
  constructor
  · intro h
    have := sort_perm l
    rw [h] at this
    exact this.symm.trans (sort_perm m)
  · intro h
    exact sort_of (sort_up l) ((sort_perm l).trans h)
theorem sort_snoc (l : List Rw) (x : Rw) : sortR (l ++ [x]) = insR x (sortR l) := by simp [sortR, List.foldl_append]
def withinP (lo hi : Int) (r : Rw) : Bool := decide (r.key < lo) || decide (hi < r.key)
def withinR (l : List Rw) (lo hi : Int) : List Rw := l.filter fun r => !withinP lo hi r
end Go.Proofs.YtpfohfihkmjnaaaGreatDoor
namespace Go.Proofs.YtpfohfihkmjnaaaGreatDoor
open Go.RowKit
theorem first_at {c : UInt8} : ∀ {s : Str}, c ∈ s → ∃ p q, s = p ++ c :: q ∧ c ∉ p
  | x :: r, h => by
    by_cases hx : x = c
    · exact ⟨[], r, by rw [hx]; rfl, by simp⟩
    · obtain ⟨p, q, e, hp⟩ := first_at (s := r) (by
        rcases List.mem_cons.1 h with h | h
        · exact absurd h.symm hx
        · exact h)
      exact ⟨x :: p, q, by rw [e]; rfl, by simp only [List.mem_cons, not_or]; exact ⟨fun h => hx h.symm, hp⟩⟩
end Go.Proofs.YtpfohfihkmjnaaaGreatDoor
namespace Go.Proofs.YtpfohfihkmjnaaaGreatDoor
open Go.RowKit
/-- The numbers of a head, of a word. -/
def headN (word s : Str) : Option (List Int) :=
  if (Lib.cut s [10]).2.2 = true then
    match cutAt 32 (Lib.cut s [10]).1 with
    | [t, a, b, c, d] => if t = word then numsOf [a, b, c, d] else none
    | _ => none
  else none
def splitE (word s : Str) : Er :=
  if 20000 < s.length then .bare 2 else
  match headN word s with
  | none => .bare 1
  | some n => if n.getD 3 0 = (sumOf (Lib.cut s [10]).2.1 : Int) then .nil else .bare 10
def splitN (word s : Str) : List Int := (headN word s).getD []
def splitL (s : Str) : List Str := cutAt 10 (Lib.cut s [10]).2.1
/-- A line's fault: the last one is empty. -/
def lineF (bad : Nat → Nat) (ls : List Str) (i : Nat) : Nat := if i + 1 = ls.length then (if ls[i]? = some [] then 0 else 1) else bad i
def eachEr (bad : Nat → Nat) (ls : List Str) : Er := firstErr (lineF bad ls) ls.length
def fitsI (n keys : List Int) : Prop := n.getD 0 0 = keys.length ∧ n.getD 1 0 = (endsI keys).1 ∧ n.getD 2 0 = (endsI keys).2
instance (n keys : List Int) : Decidable (fitsI n keys) := by unfold fitsI; infer_instance
/-- What a reading of a block answers. -/
def readEr (word s : Str) (bad : List Str → Nat → Nat) (keys : List Str → List Int) : Er :=
  if splitE word s ≠ .nil then splitE word s
  else if eachEr (bad (splitL s)) (splitL s) ≠ .nil then eachEr (bad (splitL s)) (splitL s)
  else if 40 < (keys (splitL s).dropLast).length then .bare 8
  else if fitsI (splitN word s) (keys (splitL s).dropLast) then .nil else .bare 3
theorem cut_true {c : UInt8} {s : Str} (h : (Lib.cut s [c]).2.2 = true) : s = (Lib.cut s [c]).1 ++ c :: (Lib.cut s [c]).2.1 ∧ c ∉ (Lib.cut s [c]).1 := by
  by_cases hc : c ∈ s
  · obtain ⟨p, q, e, hp⟩ := first_at hc
    have h1 := cut_app1 (c := c) (q := q) hp
    rw [← e] at h1
    rw [h1]
    exact ⟨e, hp⟩
  · rw [cut_none1 hc] at h; cases h
theorem numsOf_inv : ∀ {l : List Str} {ns : List Int}, numsOf l = some ns → l = ns.map Lib.itoa
  | [], ns, h => by
    have : ns = [] := by simpa [numsOf] using h.symm
    rw [this]; rfl
  | a :: r, ns, h => by
    unfold numsOf at h
    rw [List.mapM_cons] at h
    cases ha : numOf a with
    | none => rw [ha] at h; cases h
    | some x =>
      rw [ha] at h
      cases hr : r.mapM numOf with
      | none => rw [hr] at h; cases h
      | some xs =>
        rw [hr] at h
        have e : ns = x :: xs := (Option.some.inj h).symm
        rw [e, List.map_cons, ((numOf_iff a x).1 ha).2, ← numsOf_inv (l := r) (ns := xs) hr]
theorem headN_some {word s : Str} {n : List Int} (h : headN word s = some n) : ∃ n0 n1 n2 n3, n = [n0, n1, n2, n3] ∧ s = headT word n0 n1 n2 n3 ++ 10 :: (Lib.cut s [10]).2.1 ∧ (10 : UInt8) ∉ headT word n0 n1 n2 n3 := by
  unfold headN at h
  split at h
  · rename_i hc
    obtain ⟨e, hn⟩ := cut_true hc
    split at h
    · rename_i t a b c d hcut
      split at h
      · rename_i ht
        subst ht
        have hl := mapM_len _ h
        have hi := numsOf_inv h
        match n, hl with
        | [n0, n1, n2, n3], _ =>
          have hj := join_cut 32 (Lib.cut s [10]).1
          rw [hcut, hi, joinC_itoa] at hj
          refine ⟨n0, n1, n2, n3, rfl, ?_, ?_⟩
          · unfold headT
            rw [hj]; exact e
          · unfold headT
            rw [hj]; exact hn
      · cases h
    · cases h
  · cases h
theorem joinC_body : ∀ ls : List Str, joinC 10 (ls ++ [[]]) = bodyT ls
  | [] => rfl
  | x :: r => by
    have ih := joinC_body r
    have : bodyT (x :: r) = x ++ 10 :: bodyT r := by simp [bodyT]
    rw [this, ← ih]
    cases r with
    | nil => rfl
    | cons y t => rfl
theorem cutAt_clean {c : UInt8} : ∀ {s p : Str}, p ∈ cutAt c s → c ∉ p
  | [], p, h => by
    rw [show p = [] by simpa [cutAt] using h]; simp
  | x :: r, p, h => by
    have ih := fun q hq => cutAt_clean (c := c) (s := r) (p := q) hq
    unfold cutAt at h
    split at h
    · rcases List.mem_cons.1 h with rfl | h
      · simp
      · exact ih p h
    · rename_i hx
      cases hc : cutAt c r with
      | nil => exact absurd hc (cutAt_ne c r)
      | cons a t =>
        rw [hc] at h ih
        rcases List.mem_cons.1 h with rfl | h
        · intro hm
          rcases List.mem_cons.1 hm with e | e
          · exact hx e.symm
          · exact ih a (by simp) e
        · exact ih p (by simp [h])
theorem eachEr_last {bad : Nat → Nat} {ls : List Str} (hne : ls ≠ []) (h : eachEr bad ls = .nil) : ls = ls.dropLast ++ [[]] ∧ ∀ i, i + 1 < ls.length → bad i = 0 := by
  have hz := firstErr_nil h
  have hpos : 0 < ls.length := List.length_pos_iff.2 hne
  constructor
  · have h1 := hz (ls.length - 1) (by omega)
    unfold lineF at h1
    rw [if_pos (by omega)] at h1
    split at h1
    · rename_i h2
      have h3 : ls.getLast hne = [] := by
        rw [List.getLast_eq_getElem]
        obtain ⟨_, h4⟩ := List.getElem?_eq_some_iff.1 h2
        exact h4
      conv => lhs; rw [← List.dropLast_concat_getLast hne, h3]
    · cases h1
  · intro i hi
    have h1 := hz i (by omega)
    unfold lineF at h1
    rwa [if_neg (by omega)] at h1
/-- WHAT IS READ WITHOUT AN ERROR IS A BLOCK's TEXT. -/
theorem readEr_text {word s : Str} {bad : List Str → Nat → Nat} {keys : List Str → List Int} (h : readEr word s bad keys = .nil) :
    s = wholeT word (keys (splitL s).dropLast) (bodyT (splitL s).dropLast) ∧ splitL s = (splitL s).dropLast ++ [[]] ∧ (∀ x ∈ (splitL s).dropLast, (10 : UInt8) ∉ x) ∧ (∀ i, i + 1 < (splitL s).length → bad (splitL s) i = 0) ∧ (keys (splitL s).dropLast).length ≤ 40 := by
  unfold readEr at h
  by_cases h1 : splitE word s = .nil
  case neg => rw [if_pos h1] at h; exact absurd h h1
  rw [if_neg (by simpa using h1)] at h
  by_cases h2 : eachEr (bad (splitL s)) (splitL s) = .nil
  case neg => rw [if_pos h2] at h; exact absurd h h2
  rw [if_neg (by simpa using h2)] at h
  by_cases h3 : 40 < (keys (splitL s).dropLast).length
  · rw [if_pos h3] at h; cases h
  rw [if_neg h3] at h
  by_cases h4 : fitsI (splitN word s) (keys (splitL s).dropLast)
  case neg => rw [if_neg h4] at h; cases h
  have hne : splitL s ≠ [] := cutAt_ne 10 _
  obtain ⟨e1, e2⟩ := eachEr_last hne h2
  refine ⟨?_, e1, fun x hx => cutAt_clean ((List.dropLast_subset _) hx), e2, by omega⟩
  unfold splitE at h1
  split at h1
  · cases h1
  cases hn : headN word s with
  | none => rw [hn] at h1; cases h1
  | some n =>
    rw [hn] at h1
    obtain ⟨n0, n1, n2, n3, rfl, hs, -⟩ := headN_some hn
    simp only at h1
    split at h1
    · rename_i hsum
      have hb : (Lib.cut s [10]).2.1 = bodyT (splitL s).dropLast := by
        have h := join_cut 10 (Lib.cut s [10]).2.1
        have e1' : cutAt 10 (Lib.cut s [10]).2.1 = (splitL s).dropLast ++ [[]] := e1
        rw [e1', joinC_body] at h
        exact h.symm
      have hN : splitN word s = [n0, n1, n2, n3] := by unfold splitN; rw [hn]; rfl
      rw [hN] at h4
      obtain ⟨f0, f1, f2⟩ := h4
      simp only [List.getD_cons_zero, List.getD_cons_succ] at f0 f1 f2 hsum
      rw [hb] at hs hsum
      rw [f0, f1, f2, hsum] at hs
      exact hs
    · cases h1
/-- A line's number. -/
def numD (s : Str) : Int := (numOf s).getD 0
def goneBad (ls : List Str) (i : Nat) : Nat :=
  match ls[i]? with
  | none => 0
  | some s => if (numOf s).isNone then 1 else if farN (numD s) then 2 else if 0 < i ∧ ∃ t, ls[i - 1]? = some t ∧ numD s ≤ numD t then 9 else 0
def goneE (s : Str) : Er := readEr kGone s goneBad (fun l => l.map numD)
def goneL (s : Str) : List Int := if goneE s = .nil then (splitL s).dropLast.map numD else []
/-- What is made of keys. -/
def farF (l : List Int) (i : Nat) : Nat := match l[i]? with | none => 0 | some k => if farN k then 2 else 0
def madeE (l : List Int) : Er := if 40 < (risOf l).length then .bare 8 else firstErr (farF l) l.length
def goneText (ks : List Int) : Str := wholeT kGone ks (bodyT (ks.map Lib.itoa))
def madeT (l : List Int) : Str := if madeE l = .nil then goneText (risOf l) else []
theorem fold_min : ∀ (l : List Int) (a : Int), l.foldl min a ∈ a :: l ∧ ∀ x ∈ a :: l, l.foldl min a ≤ x
  | [], a => by simp
  | x :: r, a => by
    obtain ⟨h1, h2⟩ := fold_min r (min a x)
    rw [List.foldl_cons]
    constructor
    · rcases List.mem_cons.1 h1 with e | e
      · rw [e]
        rcases Int.le_total a x with h | h
        · rw [Int.min_eq_left h]; simp
        · rw [Int.min_eq_right h]; simp
      · exact List.mem_cons_of_mem _ (List.mem_cons_of_mem _ e)
    · intro y hy
      have h3 := h2 (min a x) (by simp)
      rcases List.mem_cons.1 hy with rfl | hy
      · omega
      · rcases List.mem_cons.1 hy with rfl | hy
        · omega
        · exact h2 y (List.mem_cons_of_mem _ hy)
theorem fold_max : ∀ (l : List Int) (a : Int), l.foldl max a ∈ a :: l ∧ ∀ x ∈ a :: l, x ≤ l.foldl max a
  | [], a => by simp
  | x :: r, a => by
    obtain ⟨h1, h2⟩ := fold_max r (max a x)
    rw [List.foldl_cons]
    constructor
    · rcases List.mem_cons.1 h1 with e | e
      · rw [e]
        rcases Int.le_total a x with h | h
        · rw [Int.max_eq_right h]; simp
        · rw [Int.max_eq_left h]; simp
      · exact List.mem_cons_of_mem _ (List.mem_cons_of_mem _ e)
    · intro y hy
      have h3 := h2 (max a x) (by simp)
      rcases List.mem_cons.1 hy with rfl | hy
      · omega
      · rcases List.mem_cons.1 hy with rfl | hy
        · omega
        · exact h2 y (List.mem_cons_of_mem _ hy)
/-- The ends are among them, and bound them. -/
theorem ends_mem {l : List Int} (h : l ≠ []) : (endsI l).1 ∈ l ∧ (endsI l).2 ∈ l ∧ ∀ x ∈ l, (endsI l).1 ≤ x ∧ x ≤ (endsI l).2 := by
  unfold endsI
  rw [if_neg h]
  match l, h with
  | a :: r, _ =>
    obtain ⟨h1, h2⟩ := fold_min r a
    obtain ⟨h3, h4⟩ := fold_max r a
    have e1 : Lib.minOf (a :: r) = r.foldl min a := by show (a :: r).foldl min a = _; rw [List.foldl_cons, Int.min_self]
    have e2 : Lib.maxOf (a :: r) = r.foldl max a := by show (a :: r).foldl max a = _; rw [List.foldl_cons, Int.max_self]
    simp only [e1, e2]
    exact ⟨h1, h3, fun x hx => ⟨h2 x hx, h4 x hx⟩⟩
theorem ends_within {l : List Int} {B : Int} (hB : 0 ≤ B) (h : ∀ x ∈ l, -B ≤ x ∧ x ≤ B) : (-B ≤ (endsI l).1 ∧ (endsI l).1 ≤ B) ∧ (-B ≤ (endsI l).2 ∧ (endsI l).2 ≤ B) := by
  by_cases hl : l = []
  · rw [hl]; unfold endsI; simp; omega
  · obtain ⟨h1, h2, -⟩ := ends_mem hl
    exact ⟨h _ h1, h _ h2⟩
theorem body_len {m : Nat} : ∀ {ls : List Str}, (∀ s ∈ ls, s.length ≤ m) → (bodyT ls).length ≤ ls.length * (m + 1)
  | [], _ => by simp [bodyT]
  | s :: r, h => by
    have ih := body_len (ls := r) fun x hx => h x (by simp [hx])
    have h1 := h s (by simp)
    have : bodyT (s :: r) = s ++ 10 :: bodyT r := by simp [bodyT]
    rw [this]
    simp only [List.length_append, List.length_cons, Nat.add_mul, Nat.one_mul]
    omega
theorem blk_head_len {word : Str} (n lo hi sum : Int) (hw : word.length ≤ 10) (h0 : -9223372036854775808 ≤ n ∧ n ≤ 9223372036854775807) (h1 : -9223372036854775808 ≤ lo ∧ lo ≤ 9223372036854775807) (h2 : -9223372036854775808 ≤ hi ∧ hi ≤ 9223372036854775807) (h3 : -9223372036854775808 ≤ sum ∧ sum ≤ 9223372036854775807) : (headT word n lo hi sum).length ≤ 110 := by
  have l0 := itoa_len n h0.1 h0.2
  have l1 := itoa_len lo h1.1 h1.2
  have l2 := itoa_len hi h2.1 h2.2
  have l3 := itoa_len sum h3.1 h3.2
  unfold headT numsTail
  simp only [List.flatMap_cons, List.flatMap_nil, List.append_nil, List.length_append, List.length_cons]
  omega
theorem near {n : Int} (h : ¬ farN n) : -1073741824 ≤ n ∧ n ≤ 1073741824 := by unfold farN at h; omega
theorem goneText_len {ks : List Int} (h : ∀ n ∈ ks, ¬ farN n) (hk : ks.length ≤ 40) : (goneText ks).length ≤ 1100 := by
  have hs := sumOf_lt (bodyT (ks.map Lib.itoa))
  obtain ⟨e1, e2⟩ := ends_within (B := 1073741824) (by omega) fun x hx => near (h x hx)
  have h1 := blk_head_len (word := kGone) ks.length (endsI ks).1 (endsI ks).2 (sumOf (bodyT (ks.map Lib.itoa))) (by decide) (by omega) (by omega) (by omega) (by omega)
  have h2 := body_len (m := 21) (ls := ks.map Lib.itoa) fun s hs => by
    obtain ⟨n, hn, rfl⟩ := List.mem_map.1 hs
    have := near (h n hn)
    exact itoa_len n (by omega) (by omega)
  rw [List.length_map] at h2
  unfold goneText wholeT
  rw [List.length_append, List.length_cons]
  omega
theorem madeE_nil {l : List Int} (h : madeE l = .nil) : (risOf l).length ≤ 40 ∧ ∀ n ∈ risOf l, ¬ farN n := by
  unfold madeE at h
  split at h
  · cases h
  refine ⟨by omega, fun n hn hf => ?_⟩
  obtain ⟨j, hj, he⟩ := List.getElem_of_mem (mem_risOf.1 hn)
  have := firstErr_nil h j hj
  unfold farF at this
  rw [List.getElem?_eq_getElem hj, he] at this
  simp only at this
  rw [if_pos hf] at this
  cases this
end Go.Proofs.YtpfohfihkmjnaaaGreatDoor
namespace Go.Proofs.YtpfohfihkmjnaaaGreatDoor
open Go.RowKit
theorem grown_setRow (w : World) (g : Nat) (cs : Array Value) : w.grownBy (w.setRow g cs) (some g) := ⟨rfl, rfl, rfl, by simp [World.setRow], fun k _ hk => setRow_other w g k cs (fun e => hk (by rw [e]))⟩
section
variable {α : Type} {enc : α → List Value} {e : TypeId} {sz B : Nat} {w : World} {v : Value} {l : List α}
/-- The cells of the elements from k on. -/
theorem Own.from {g n cap : Nat} (hen : Enc enc sz) (h : Own enc e sz B w (.slice (some ⟨g, 0, none⟩) n cap) l) (k : Nat) : ∀ j u, ((l.drop k).flatMap enc)[j]? = some u → w.cell? ⟨g, k * sz + j, none⟩ = some u := by
  intro j u hu
  have hne : l.drop k ≠ [] := fun e => by rw [e] at hu; simp at hu
  have hpos : 0 < l.length := by
    rcases Nat.eq_zero_or_pos l.length with h0 | h0
    · rw [List.eq_nil_of_length_eq_zero h0] at hne; simp at hne
    · exact h0
  obtain ⟨g', cap', cur, hv, hB, hg, hc, hm, hs, ht⟩ := h.open hpos
  cases hv
  have hkl : k ≤ l.length := by
    rcases Nat.lt_or_ge l.length k with h0 | h0
    · rw [List.drop_eq_nil_of_le (by omega)] at hne; exact absurd rfl hne
    · exact h0
  have hsplit : l.flatMap enc = (l.take k).flatMap enc ++ (l.drop k).flatMap enc := by rw [← List.flatMap_append, List.take_append_drop]
  have hl : ((l.take k).flatMap enc).length = k * sz := by rw [flat_length hen, List.length_take, Nat.min_eq_left hkl]
  have h1 : (l.flatMap enc)[k * sz + j]? = some u := by
    rw [hsplit, List.getElem?_append_right (by omega), hl, show k * sz + j - k * sz = j by omega]; exact hu
  rw [← ht, List.getElem?_take] at h1
  split at h1
  · rw [cell_of_row w g _ cur e (0, 0) hg]; simpa using h1
  · cases h1
/-- A row set anew. -/
theorem Own.anew {g n cap m : Nat} {cs : Array Value} {l' : List α} (hen : Enc enc sz) (h : Own enc e sz B w (.slice (some ⟨g, 0, none⟩) n cap) l) (hpos : 0 < l.length) (hm' : l'.length = m) (hc : m ≤ cap) (hsz : cs.size = cap * sz) (ht : cs.toList.take (m * sz) = l'.flatMap enc) :
    Own enc e sz B (w.setRow g cs) (.slice (some ⟨g, 0, none⟩) m cap) l' := by
  obtain ⟨g', cap', cur, hv, hB, hg, hc', hm, hs, ht'⟩ := h.open hpos
  cases hv
  exact Own.mk hen hm' hB (setRow_heap w g cur cs e _ hg) hc hm hsz ht
end
theorem Own.row {α : Type} {enc : α → List Value} {e : TypeId} {sz B : Nat} {w : World} {l : List α} {g n cap : Nat} (h : Own enc e sz B w (.slice (some ⟨g, 0, none⟩) n cap) l) : ∃ cur : Array Value, B ≤ g ∧ w.heap[g]? = some (.cells cur e (0, 0)) ∧ l.length = n ∧ n ≤ cap ∧ cap ≤ maxLen ∧ cur.size = cap * sz ∧ cur.toList.take (n * sz) = l.flatMap enc := by
  obtain ⟨_, h2⟩ := h
  rcases h2 with ⟨hv, _⟩ | ⟨g', cap', cur, hv, hB, hg, hc, hm, hs, ht⟩
  · cases hv
  · cases hv
    exact ⟨cur, hB, hg, rfl, hc, hm, hs, ht⟩
theorem Own.put {α : Type} {enc : α → List Value} {e : TypeId} {sz B : Nat} {w : World} {l : List α} {g n cap : Nat} {cur : Array Value} (hen : Enc enc sz) (hn : l.length = n) (hB : B ≤ g) (hg : w.heap[g]? = some (.cells cur e (0, 0))) (hc : n ≤ cap) (hm : cap ≤ maxLen) (hs : cur.size = cap * sz) (ht : cur.toList.take (n * sz) = l.flatMap enc) : Own enc e sz B w (.slice (some ⟨g, 0, none⟩) n cap) l := Own.mk hen hn hB hg hc hm hs ht
section
variable {α : Type} {enc : α → List Value} {e : TypeId} {sz B g cap : Nat} {cur : Array Value} {l : List α} {f : α} {k : Nat}
end
end Go.Proofs.YtpfohfihkmjnaaaGreatDoor
namespace Go.Proofs.YtpfohfihkmjnaaaGreatDoor
open Go.RowKit
theorem row_setCell {w : World} {g i : Nat} {cur : Array Value} {t : TypeId} {fr : Nat × Nat} (hg : w.heap[g]? = some (.cells cur t fr)) (v : Value) : (w.setCell ⟨g, i, none⟩ v).heap[g]? = some (.cells (cur.setIfInBounds i v) t fr) := by
  simp only [World.setCell, Array.getElem?_modify, hg]
  rfl
/-- A struct of six cells, written cell by cell. -/
abbrev six (w : World) (g o : Nat) (b0 b1 b2 b3 b4 b5 : Value) : World := (((((w.setCell ⟨g, o, none⟩ b0).setCell ⟨g, o + 1, none⟩ b1).setCell ⟨g, o + 2, none⟩ b2).setCell ⟨g, o + 3, none⟩ b3).setCell ⟨g, o + 4, none⟩ b4).setCell ⟨g, o + 5, none⟩ b5
theorem six_row {w : World} {g o : Nat} {t : TypeId} {fr : Nat × Nat} {cur : Array Value} (hg : w.heap[g]? = some (.cells cur t fr)) (b0 b1 b2 b3 b4 b5 : Value) : (six w g o b0 b1 b2 b3 b4 b5).heap[g]? = some (.cells ((((((cur.setIfInBounds o b0).setIfInBounds (o + 1) b1).setIfInBounds (o + 2) b2).setIfInBounds (o + 3) b3).setIfInBounds (o + 4) b4).setIfInBounds (o + 5) b5) t fr) :=
  row_setCell (row_setCell (row_setCell (row_setCell (row_setCell (row_setCell hg b0) b1) b2) b3) b4) b5
theorem six_below {B : Nat} {w0 w : World} {g o : Nat} (hb : Below B w0 w) (hB : B ≤ g) (b0 b1 b2 b3 b4 b5 : Value) : Below B w0 (six w g o b0 b1 b2 b3 b4 b5) :=
  (((((hb.setCell (p := ⟨g, o, none⟩) hB _).setCell (p := ⟨g, o + 1, none⟩) hB _).setCell (p := ⟨g, o + 2, none⟩) hB _).setCell (p := ⟨g, o + 3, none⟩) hB _).setCell (p := ⟨g, o + 4, none⟩) hB _).setCell (p := ⟨g, o + 5, none⟩) hB _
theorem six_new {w : World} {g : Nat} {t : TypeId} {fr : Nat × Nat} {a0 a1 a2 a3 a4 a5 : Value} (hg : w.heap[g]? = some (.cells #[a0, a1, a2, a3, a4, a5] t fr)) (b0 b1 b2 b3 b4 b5 : Value) : (six w g 0 b0 b1 b2 b3 b4 b5).heap[g]? = some (.cells #[b0, b1, b2, b3, b4, b5] t fr) := six_row hg _ _ _ _ _ _
theorem World.heap_drew (w : World) : w.drew.heap = w.heap := rfl
theorem ret_row {P : Program} {fn : Func} {p u : Tmp} {ty : TypeId} (h : fn.results = #[.cell p ty, .tmp u]) (tmps : Array Value) (w : World) (g : Nat) (t : TypeId) (cs : Array Value) (fr : Nat × Nat) (d : TypeDesc) (hp : tmps.getD p undef = .pointer (some ⟨g, 0, none⟩)) (hg : w.heap[g]? = some (.cells cs t fr))
    (hu : P.underlying ty = some d) (hd : (match d with | .struct _ | .array _ _ => true | _ => false) = true) (hi : (P.info? ty).map (·.size) = some cs.size) : (results fn tmps).run P w = .ok (.tuple #[.agg cs, tmps.getD u undef]) w := by
  rw [results_cell_tmp h, hp]
  simp [asAddr, run_loadVar_row w g t ty cs fr d hg hu hd hi, Result.andThen]
end Go.Proofs.YtpfohfihkmjnaaaGreatDoor
namespace Go.Proofs.YtpfohfihkmjnaaaGreatDoor
open Go.RowKit
theorem zero256 : Tryz.zeroCells270 = (List.replicate 256 (Value.int .u32 0)).toArray := by kernel_rfl
/-- The table's cells when k of them are laid. -/
def tabCells (k : Nat) : List Value := (List.range 256).map fun i => Value.int .u32 (if i < k then (crcIter 8 i : Nat) else 0)
theorem tab_zero : (List.replicate 256 (Value.int .u32 0)) = tabCells 0 := by
  unfold tabCells
  generalize 256 = n
  apply List.ext_getElem
  · simp
  · intro i h1 h2; simp
theorem tab_len (k : Nat) : (tabCells k).length = 256 := by simp [tabCells]
theorem tab_set {k : Nat} : (tabCells k).set k (.int .u32 (crcIter 8 k : Nat)) = tabCells (k + 1) := by
  apply List.ext_getElem
  · simp [tabCells]
  · intro i h1 h2
    rw [List.getElem_set]
    split
    · rename_i h; subst h; simp [tabCells]
    · rename_i h
      simp only [tabCells, List.getElem_map, List.getElem_range]
      by_cases h3 : i < k
      · rw [if_pos h3, if_pos (by omega)]
      · rw [if_neg h3, if_neg (by omega)]
theorem tab_at {i : Nat} (hi : i < 256) : (tabCells 256)[i]? = some (.int .u32 (crcIter 8 i : Nat)) := by
  rw [List.getElem?_eq_getElem (by rw [tab_len]; exact hi)]
  simp [tabCells, hi]
theorem tab_one (k : Nat) : (tabCells k).toArray.all (·.oneCell') = true := by
  rw [Array.all_eq_true_iff_forall_mem]
  intro v hv
  simp only [tabCells, List.mem_toArray, List.mem_map] at hv
  obtain ⟨i, _, rfl⟩ := hv
  rfl
/-- The same as an array: not to be opened. -/
def tabA (k : Nat) : Array Value := (tabCells k).toArray
theorem tabA_size (k : Nat) : (tabA k).size = 256 := by unfold tabA; rw [List.size_toArray, tab_len]
theorem tabA_set (k : Nat) : (tabA k).setIfInBounds k (.int .u32 (crcIter 8 k : Nat)) = tabA (k + 1) := by
  unfold tabA; rw [List.setIfInBounds_toArray, tab_set]
theorem tabA_cell (k : Nat) (hk : k < 256) : (tabA k)[k]? = some (.int .u32 0) := by
  unfold tabA
  rw [List.getElem?_toArray, List.getElem?_eq_getElem (by rw [tab_len]; exact hk)]
  simp [tabCells]
theorem tabA_at {i : Nat} (hi : i < 256) : (tabA 256)[i]? = some (.int .u32 (crcIter 8 i : Nat)) := by
  unfold tabA; rw [List.getElem?_toArray, tab_at hi]
theorem tabA_one (k : Nat) : (tabA k).all (·.oneCell') = true := tab_one k
theorem tabA_zero : Tryz.zeroCells270 = tabA 0 := by rw [zero256, tab_zero]; rfl
theorem size256 : (Tryz.prog.info? 270).map (·.size) = some 256 := by kernel_rfl
/-- A bit's round, as the walk spells it. -/
theorem bit_round {c : Nat} (h : c < 4294967296) : bits .xor .u32 ((c : Int) / 2) (IntKind.u32.wrap (3988292384 * bits .and .u32 (c : Int) 1)) = (crcBit c : Nat) ∧ bits .xor .u32 ((c : Int) / 2) (3988292384 * bits .and .u32 (c : Int) 1 % 4294967296) = (crcBit c : Nat) := by
  rw [← IntKind.wrap_u32', and_self]
  have h1 : bits .and .u32 (c : Int) 1 = ((c % 2 : Nat) : Int) := by
    have := u32_and_nat c 1 h (by omega)
    rw [show ((1 : Nat) : Int) = 1 from rfl] at this
    rw [this, Nat.and_one_is_mod]
  rw [h1]
  have h2 : IntKind.u32.wrap (3988292384 * ((c % 2 : Nat) : Int)) = ((crcP * (c % 2) : Nat) : Int) := by
    rw [IntKind.wrap_u32']; unfold crcP; omega
  rw [h2, show ((c : Int) / 2) = ((c / 2 : Nat) : Int) by omega, u32_xor_nat _ _ (by omega) (by unfold crcP; omega)]
  congr 1
  unfold crcBit
  rcases Nat.mod_two_eq_zero_or_one c with h3 | h3
  · rw [h3, if_neg (by omega)]; simp
  · rw [h3, if_pos rfl]; simp
set_option maxHeartbeats 1000000 in
set_option maxRecDepth 20000 in
theorem table_any (w : World) :
    Calls Tryz.prog 190 #[] w fun e w' => e = .returned (.agg (tabA 256)) ∧ Below w.heap.size w w' := by
  have hg1 : ((w.alloc (.cells Tryz.zeroCells270 270)).alloc (.cells Tryz.zeroCells270 270)).heap[w.heap.size + 1]? = some (.cells (tabA 0) 270 (0, 0)) := by
    rw [heap_alloc2_new, tabA_zero]
  have hg0 : ((w.alloc (.cells Tryz.zeroCells270 270)).alloc (.cells Tryz.zeroCells270 270)).heap[w.heap.size]? = some (.cells (tabA 0) 270 (0, 0)) := by
    rw [heap_alloc2_old, tabA_zero]
  have hb0 : Below w.heap.size w ((w.alloc (.cells Tryz.zeroCells270 270)).alloc (.cells Tryz.zeroCells270 270)) := ((Below.refl _ _).alloc (Nat.le_refl _) _).alloc (by simp) _
  have G1 := Lib.hid hg1; have G0 := Lib.hid hg0
  clear hg1 hg0
  go_enter Tryz.func190, Tryz.ntmps190
  go_wp2_with fail
  generalize (w.alloc (.cells Tryz.zeroCells270 270)).alloc (.cells Tryz.zeroCells270 270) = w0 at *
  obtain ⟨H, hH⟩ : ∃ H, w.heap.size = H := ⟨_, rfl⟩
  rw [hH] at G1 G0 hb0 ⊢
  have HH := Lib.hid hH; clear hH
  go_loopw [2, 3, 4, 9] (fun _ _ i _ wr => ∃ k : Nat, k ≤ 256 ∧ i = .int .i64 k ∧ Hid (wr.heap[H + 1]? = some (.cells (tabA k) 270 (0, 0))) ∧ Hid (wr.heap[H]? = some (.cells (tabA 0) 270 (0, 0))) ∧ Below H w wr) (fun _ _ i _ _ => 256 - (intOf i).toNat)
  case atStart => exact ⟨0, by omega, rfl, G1, G0, hb0⟩
  case round =>
    obtain ⟨k, hk, rfl, hg1, hg0, hb⟩ := hrel
    clear G1 G0 hb0
    by_cases hlt : k < 256
    case neg =>
      have f : decide ((k : Int) < 256) = false := by simp; omega
      obtain rfl : k = 256 := by omega
      go_wp2_with (first | (refine wpList_load_row rfl 270 _ rfl (H + 1) rfl 270 (tabA 256) (0, 0) _ hg1.out Tryz.underlying270 rfl (by rw [tabA_size]; exact size256) ?_) | (refine wpList_store_row rfl _ _ _ rfl H (tabA 256) rfl rfl 270 (tabA 0) hg0.out (by rw [tabA_size]; exact size256) (by rw [tabA_size, tabA_size]) (tabA_one _) ?_))
      exact bodyPost_ret (results_cell_row rfl _ _ H 270 (tabA 256) (0, 0) _ rfl (setRow_heap _ H _ _ _ _ hg0.out) Tryz.underlying270 rfl (by rw [tabA_size]; exact size256)) rfl ⟨rfl, by rw [HH.out]; exact hb.grown (grown_setRow wr H _) (Nat.le_of_lt (Array.getElem?_eq_some_iff.1 hg0.out).1) (fun k hk => by cases hk; exact Nat.le_refl _)⟩
    have hlt' : (k : Int) < 256 := by omega
    have hcv : IntKind.u32.wrap (k : Int) = k := by rw [IntKind.wrap_u32']; omega
    go_wp2_with fail
    obtain ⟨wo, rfl⟩ : ∃ wo : World, wo = wr := ⟨_, rfl⟩
    go_loop [3, 9] (fun c j => ∃ m : Nat, m ≤ 8 ∧ j = .int .i64 m ∧ c = .int .u32 (crcIter m k : Nat)) (fun _ j => 8 - (intOf j).toNat)
    case atStart => exact ⟨0, by omega, rfl, rfl⟩
    case round =>
      obtain ⟨m, hm, rfl, rfl⟩ := hrel
      by_cases hm8 : m < 8
      · have hm8' : (m : Int) < 8 := by omega
        have hc : crcIter m k < 4294967296 := crcIter_lt m (by omega)
        have hsu : crcIter (m + 1) k = crcBit (crcIter m k) := crcIter_succ m k
        have HSu := Lib.hid hsu; clear hsu
        generalize crcIter m k = c at *
        have hbr := (bit_round hc).2
        have h1 : (0 : Int) ≤ c := by omega
        have h2 : (c : Int) < 4294967296 := by omega
        go_wp2_with fail
        refine ⟨⟨m + 1, by omega, by go_num, by rw [HSu.out]⟩, ?_⟩
        simp [intOf]; omega
      · obtain rfl : m = 8 := by omega
        have c0 := cell_of_row wo (H + 1) k _ _ _ hg1.out
        rw [tabA_cell k hlt] at c0
        have f0 : wo.frozen? ⟨H + 1, k, none⟩ = false := frozen_row hg1.out
        generalize hcr : crcIter 8 k = cr at *
        go_wp2_with fail
        go_roundw
        case rel => exact ⟨k + 1, by omega, by go_num, Lib.hid (by rw [row_setCell hg1.out, ← hcr, tabA_set]), Lib.hid ((heap_setCell_other _ _ _ _ (by simp)).trans hg0.out), hb.setCell (p := ⟨H + 1, k, none⟩) (by simp) _⟩
        case measure => simp [intOf]; omega
/-- A byte's round, as the walk spells it. -/
theorem sum_round (c : Nat) (b : UInt8) : bits .xor .u8 ((c : Int) % 256) (b.toNat : Int) = ((c % 256 ^^^ b.toNat : Nat) : Int) := by
  rw [show ((c : Int) % 256) = ((c % 256 : Nat) : Int) by omega]
  exact u8_xor_nat _ _ (by omega) (byte_lt b)
theorem sum_round2 {c : Nat} (h : c < 4294967296) (b : UInt8) : bits .xor .u32 ((c : Int) / 256) ((crcIter 8 (c % 256 ^^^ b.toNat) : Nat) : Int) = (crcStep c b : Nat) := by
  have hx : c % 256 ^^^ b.toNat < 2 ^ 8 := Nat.xor_lt_two_pow (by omega) (byte_lt b)
  rw [show ((c : Int) / 256) = ((c / 256 : Nat) : Int) by omega, u32_xor_nat _ _ (by omega) (crcIter_lt 8 (by omega)), crc_table]
set_option maxHeartbeats 1000000 in
set_option maxRecDepth 200000 in
theorem sum_any (s : Str) (w : World) (hs : s.length ≤ 100000) :
    Calls Tryz.prog 172 #[S s] w fun e w' => e = .returned (.int .u32 (sumOf s : Nat)) ∧ Below w.heap.size w w' := by
  go_enter Tryz.func172, Tryz.ntmps172
  go_wp2_with fail
  refine (table_any w).mono ?_
  rintro e w1 ⟨rfl, hb1⟩
  go_wp2_with (refine wpList_store_row rfl _ _ _ rfl w1.heap.size (tabA 256) rfl rfl 270 (tabA 0) (by rw [heap_alloc_new, tabA_zero]) (by rw [tabA_size]; exact size256) (by rw [tabA_size, tabA_size]) (tabA_one _) ?_)
  have hb2 : Below w.heap.size w ((w1.alloc (.cells Tryz.zeroCells270 270)).setRow w1.heap.size (tabA 256)) := (hb1.alloc hb1.size _).grown (grown_setRow _ _ _) (by have := hb1.size; simp; omega) (fun k hk => by cases hk; exact hb1.size)
  have hg2 := setRow_heap (w1.alloc (.cells Tryz.zeroCells270 270)) w1.heap.size _ (tabA 256) _ _ (heap_alloc_new w1 _)
  have G2 := Lib.hid hg2; clear hg2
  generalize (w1.alloc (.cells Tryz.zeroCells270 270)).setRow w1.heap.size (tabA 256) = w2 at *
  generalize w1.heap.size = g at *
  generalize htb : tabA 256 = tb at *
  have HTb := Lib.hid htb; clear htb
  go_loop [4, 9] (fun c i => ∃ k : Nat, k ≤ s.length ∧ i = .int .i64 k ∧ c = .int .u32 (crcFold 4294967295 (s.take k) : Nat)) (fun _ i => s.length - (intOf i).toNat)
  case atStart => exact ⟨0, by omega, rfl, rfl⟩
  case round =>
    obtain ⟨k, hk, rfl, rfl⟩ := hrel
    have hc : crcFold 4294967295 (s.take k) < 4294967296 := crcFold_lt _ (by omega)
    by_cases hlt : k < s.length
    · have hk1 : (k : Int) < s.length := by omega
      have hsn : crcFold 4294967295 (s.take (k + 1)) = crcStep (crcFold 4294967295 (s.take k)) s[k] := by
        rw [take_snoc' (x := s[k]) (by simp [hlt]), crcFold_snoc]
      have HSn := Lib.hid hsn; clear hsn
      generalize crcFold 4294967295 (s.take k) = c at *
      have hbk : (({ data := s.toArray } : ByteArray)[k]'(by simpa [ByteArray.size] using hlt)) = s[k] := rfl
      have hr1 := sum_round c s[k]
      have hr2 := sum_round2 hc s[k]
      have hx8 : c % 256 ^^^ s[k].toNat < 2 ^ 8 := Nat.xor_lt_two_pow (by omega) (byte_lt s[k])
      have hca := cell_of_row w2 g (c % 256 ^^^ s[k].toNat) _ _ _ G2.out
      rw [← HTb.out, tabA_at (by omega)] at hca
      have hx0 : (0 : Int) ≤ ((c % 256 ^^^ s[k].toNat : Nat) : Int) := by omega
      have hx1 : ((c % 256 ^^^ s[k].toNat : Nat) : Int) < 256 := by omega
      have h1 : (0 : Int) ≤ c := by omega
      have h2 : (c : Int) < 4294967296 := by omega
      generalize c % 256 ^^^ s[k].toNat = x at *
      clear hc hb1 hb2 h1 h2
      go_wp2_with fail
      refine ⟨⟨k + 1, by omega, by go_num, by rw [HSn.out]⟩, ?_⟩
      simp [intOf]; omega
    · obtain rfl : k = s.length := by omega
      have hf : bits .xor .u32 IntKind.u32.max ((crcFold 4294967295 (s.take s.length) : Nat) : Int) = (sumOf s : Nat) := by
        rw [List.take_length] at hc ⊢
        have := u32_xor_nat 4294967295 (crcFold 4294967295 s) (by omega) hc
        unfold sumOf
        rw [Nat.xor_comm]
        exact this
      have HF := Lib.hid hf; clear hf
      generalize crcFold 4294967295 (s.take s.length) = c at *
      have HB2 := Lib.hid hb2
      have HS := Lib.hid hs
      clear hc hb1 hb2 hs
      go_wp2_with fail
      go_ret
      exact ⟨show Ending.returned (.int .u32 (bits .xor .u32 IntKind.u32.max (c : Int))) = _ by rw [HF.out], HB2.out⟩
end Go.Proofs.YtpfohfihkmjnaaaGreatDoor
namespace Go.Proofs.YtpfohfihkmjnaaaGreatDoor
open Go.RowKit Go.Sort Go.Lib
end Go.Proofs.YtpfohfihkmjnaaaGreatDoor
namespace Go.Proofs.YtpfohfihkmjnaaaGreatDoor
open Go.RowKit
/-- What the library's search reads: some number. -/
structure LMax (B : Nat) (w : World) : Prop where
  max : ∃ m, w.cell? ⟨12, 0, none⟩ = some (.int .i64 m)
  low : 21 ≤ B
  le : B ≤ w.heap.size
theorem LMax.below {B : Nat} {w w' : World} (h : LMax B w) (hb : Below B w w') : LMax B w' := by
  obtain ⟨m, hm⟩ := h.max
  have := h.low
  exact ⟨⟨m, (hb.cell (p := ⟨12, 0, none⟩) (by simp; omega)).trans hm⟩, h.low, Nat.le_trans h.le hb.size⟩
theorem LMax.below' {B B' : Nat} {w w' : World} (h : LMax B w) (hb : Below B' w w') (hB : B ≤ B') : LMax B w' := h.below (hb.mono hB)
theorem encS_map (l : List Str) : l.map S = l.flatMap encS := by
  induction l with
  | nil => rfl
  | cons x r ih => simp [ih]
/-- strings.Split(s, c), c one byte. -/
theorem split1_any (B : Nat) (s : Str) (c : UInt8) (w : World) (hM : LMax B w) (hs : s.length ≤ 100000) :
    Calls Tryz.prog 170 #[S s, .string ⟨#[c]⟩] w fun e w' => e = .returned (.slice (some ⟨w.heap.size, 0, none⟩) (cutAt c s).length (cutAt c s).length) ∧ Own encS 9 1 w.heap.size w' (.slice (some ⟨w.heap.size, 0, none⟩) (cutAt c s).length (cutAt c s).length) (cutAt c s) ∧ Below w.heap.size w w' := by
  obtain ⟨m, hm⟩ := hM.max
  refine (Tryz.strings_Split ⟨s.toArray⟩ ⟨#[c]⟩ m w (by show s.toArray.size < _; simp; omega) hm (Nat.le_refl 1)).mono ?_
  rintro e w' ⟨rfl, rfl⟩
  have hlen : Lib.countB ⟨s.toArray⟩ ⟨#[c]⟩ + 1 = (cutAt c s).length := by
    rw [cutAt_length]; unfold Lib.countB; simp [Lib.count_one]
  rw [hlen]
  refine ⟨rfl, ?_, (Below.refl _ _).alloc (Nat.le_refl _) _⟩
  have hc := splitB_cut c s
  refine ⟨by rw [← encS_map]; simp, .inr ⟨w.heap.size, _, _, rfl, Nat.le_refl _, heap_alloc_new w _, Nat.le_refl _, ?_, ?_, ?_⟩⟩
  · have := cutAt_length c s
    have h2 : s.count c ≤ s.length := List.count_le_length
    unfold maxLen; omega
  · have := congrArg List.length hc
    simp at this ⊢; omega
  · rw [← encS_map, ← hc]
    have := congrArg List.length hc
    simp only [List.length_map] at this
    rw [List.take_of_length_le (by simp; omega)]
/-- s[k:] of a slice. -/
theorem slice_from {α : Type} {P : Program} {t e : TypeId} {enc : α → List Value} {sz : Nat} {w : World} {a : Option Addr} {c b o : Nat} {l : List α} (ht : P.underlying t = some (.slice e)) (hsz : ∀ w, (sizeOf e).run P w = .ok sz w)
    (ha : 0 < l.length → a = some ⟨b, o, none⟩) (hc : l.length ≤ c) (hcm : c ≤ maxLen) (hx : ∀ k x, l[k]? = some x → ∀ j u, (enc x)[j]? = some u → w.cell? ⟨b, o + k * sz + j, none⟩ = some u) (k : Nat) (hk : k ≤ l.length) (hk0 : 0 < l.length) :
    ∃ b' o' c', (∀ W, (Instr.slice t (.slice a l.length c) (some (.int .i64 (k : Int))) none none).run P W = .ok (.slice (some ⟨b', o', none⟩) (l.length - k) c') W) ∧ At enc sz w (.slice (some ⟨b', o', none⟩) (l.length - k) c') (l.drop k) := by
  obtain rfl := ha hk0
  have hu : P.elem t = e := by simp [Program.elem, ht]
  have hadd : (⟨b, o, none⟩ : Addr).add (k * sz) = ⟨b, o + k * sz, none⟩ := by unfold Addr.add; split <;> simp_all
  by_cases h : c = k
  · refine ⟨b, o, c - k, fun W => ?_, ?_⟩
    · have hk' : (k : Int) ≤ l.length := by omega
      simp [Instr.slice, Instr.sliceBounds, run_underlying ht, hsz, hk, h, go_sem]
    · have hl : l.length = k := by omega
      refine ⟨_, c - k, b, o, by rw [List.length_drop], fun _ => rfl, by simp; omega, by omega, fun i x hi j u hu => ?_⟩
      rw [List.drop_of_length_le (by omega)] at hi; simp at hi
  · refine ⟨b, o + k * sz, c - k, fun W => ?_, ?_⟩
    · have hk' : (k : Int) ≤ l.length := by omega
      simp [Instr.slice, Instr.sliceBounds, run_underlying ht, hsz, hk, h, go_sem]
    · refine ⟨_, c - k, b, o + k * sz, by rw [List.length_drop], fun _ => rfl, by simp; omega, by omega, fun i x hi j u hu => ?_⟩
      rw [List.getElem?_drop] at hi
      have := hx (k + i) x hi j u hu
      rwa [show o + k * sz + i * sz + j = o + (k + i) * sz + j by rw [Nat.add_mul]; omega]
end Go.Proofs.YtpfohfihkmjnaaaGreatDoor
namespace Go.Proofs.YtpfohfihkmjnaaaGreatDoor
open Go.RowKit
theorem dropWhile_nilP {α : Type} {p : α → Bool} : ∀ {l : List α}, l.dropWhile p = [] ↔ l.all p = true
  | [] => by simp
  | a :: r => by
    rw [List.dropWhile_cons, List.all_cons]
    cases h : p a with
    | true => simp [dropWhile_nilP (l := r)]
    | false => simp
theorem trimS_nilP (l cs : Str) : Lib.trimS l cs = [] ↔ l.all (fun b => cs.contains b) = true := by
  have hr : Lib.trimRightS l cs = [] ↔ l.all (fun b => cs.contains b) = true := by
    unfold Lib.trimRightS
    rw [List.reverse_eq_nil_iff, dropWhile_nilP, List.all_reverse]
  unfold Lib.trimS
  constructor
  · intro h
    refine hr.1 ?_
    unfold Lib.trimLeftS at h
    rw [dropWhile_nilP] at h
    cases hd : l.reverse.dropWhile (fun b => cs.contains b) with
    | nil => unfold Lib.trimRightS; rw [hd]; rfl
    | cons a r =>
      have ha : cs.contains a = false := by
        have := List.head?_dropWhile_not (fun b => cs.contains b) l.reverse
        rw [hd] at this
        simpa using this
      have hm : a ∈ Lib.trimRightS l cs := by unfold Lib.trimRightS; rw [hd]; simp
      have := List.all_eq_true.1 h a hm
      rw [ha] at this; cases this
  · intro h
    rw [hr.2 h]; rfl
end Go.Proofs.YtpfohfihkmjnaaaGreatDoor
namespace Go.Proofs.YtpfohfihkmjnaaaGreatDoor
open Go.RowKit
abbrev encF (f : Fl) : List Value := [S f.path, S f.part, .int .i64 f.n, .int .i64 f.lo, .int .i64 f.hi, .int .i64 f.seq]
theorem encF_enc : Enc encF 6 := fun x => ⟨rfl, by simp [Value.oneCell']⟩
abbrev FilesAt (w : World) (v : Value) (l : List Fl) : Prop := At encF 6 w v l
theorem szFl (w : World) : (sizeOf 43).run Tryz.prog w = .ok 6 w := by kernel_rfl
theorem elFl : ElemInfo Tryz.prog 23 43 6 64 := elemInfo_of Tryz.underlying23 (z := .agg #[.string ByteArray.empty, .string ByteArray.empty, .int .i64 0, .int .i64 0, .int .i64 0, .int .i64 0]) (by kernel_rfl) rfl (by decide)
abbrev fileV (f : Fl) : Value := .agg #[S f.path, S f.part, .int .i64 f.n, .int .i64 f.lo, .int .i64 f.hi, .int .i64 f.seq]
abbrev fileO (f : Fl) : Obj := .cells #[S f.path, S f.part, .int .i64 f.n, .int .i64 f.lo, .int .i64 f.hi, .int .i64 f.seq] 43
theorem cutSl_any (B : Nat) (s : Str) (w : World) (hM : LMax B w) (hs : s.length ≤ 100000) :
    Calls Tryz.prog 168 #[S s, .string ⟨#[47]⟩] w fun e w' => e = .returned (.tuple #[S (Lib.cut s [47]).1, S (Lib.cut s [47]).2.1, .bool (Lib.cut s [47]).2.2]) ∧ Below w.heap.size w w' := by
  obtain ⟨m, hm⟩ := hM.max
  refine (Tryz.strings_Cut ⟨s.toArray⟩ ⟨#[47]⟩ m w (by show s.toArray.size < _; simp; omega) hm).mono ?_
  rintro e w' ⟨rfl, n, rfl⟩
  exact ⟨rfl, Bdn (Below.refl _ _) n⟩
theorem cut_len (s sep : Str) : (Lib.cut s sep).1.length ≤ s.length ∧ (Lib.cut s sep).2.1.length ≤ s.length := by
  unfold Lib.cut
  split
  · simp; omega
  · simp
set_option maxRecDepth 20000 in
theorem fileNumber_any (E : Nat → Addr) (B : Nat) (p : Str) (w : World) (hE : Errs [5] E B w) (hT : LNum B w) (hM : LMax B w) (hs : p.length ≤ 100000) :
    Calls Tryz.prog 125 #[S p] w fun e w' => ∃ ev, e = .returned (.tuple #[S (kindF p), .int .i64 (numF p), ev]) ∧ ErV E w' ev (if (pathF p).isSome then .nil else .bare 5) ∧ Below w.heap.size w w' := by
  have hcl := (cut_len p [47]).2
  have hpf : pathF p = if (Lib.cut p [47]).2.2 = true ∧ ((Lib.cut p [47]).1 = kData ∨ (Lib.cut p [47]).1 = kGone) then
    (numOf (Lib.cut p [47]).2.1).bind fun n => if n < 1 ∨ 1073741824 < n then none else some ((Lib.cut p [47]).1, n) else none := rfl
  have hk : kindF p = ((pathF p).getD ([], 0)).1 := rfl
  have hn : numF p = ((pathF p).getD ([], 0)).2 := rfl
  have hcut := cutSl_any B p w hM hs
  generalize (Lib.cut p [47]).1 = k at *
  generalize (Lib.cut p [47]).2.1 = d at *
  generalize (Lib.cut p [47]).2.2 = is at *
  generalize pathF p = pf at *
  have hE1 := fun w1 (hb : Below w.heap.size w w1) => (hE.below' hb hE.le).var 5 (by decide)
  simp only [errG] at hE1
  have HE1 := Lib.hid hE1
  clear hE1
  have HK := Lib.hid hk; have HN := Lib.hid hn; have HP := Lib.hid hpf; have HC := Lib.hid hcut
  clear hk hn hpf hcut
  go_enter Tryz.func125, Tryz.ntmps125
  go_wp2_with fail
  refine HC.out.mono ?_
  rintro e w1 ⟨rfl, hb1⟩
  go_wp2_with fail
  refine (number_any B d _ (hT.below' hb1 hT.le) (by omega)).mono ?_
  rintro e w2 ⟨rfl, hb2⟩
  have hb2' := hb1.trans (hb2.mono hb1.size)
  have v5 := HE1.out _ hb2'
  obtain ⟨m, hm⟩ : ∃ m, atoiN d = m := ⟨_, rfl⟩
  obtain ⟨o, ho⟩ : ∃ o, numOf d = o := ⟨_, rfl⟩
  have hom : ∀ n, o = some n → m = n := fun n h => by rw [← hm, ← numOf_atoiN (ho.trans h)]
  rw [hm, ho]
  have HO := Lib.hid ho
  clear hm ho hb1 hb2
  cases is with
  | false =>
    have hp : pf = none := by rw [HP.out]; simp
    subst hp
    have HK' := Lib.hid (HK.out.trans rfl); have HN' := Lib.hid (HN.out.trans rfl)
    clear hom
    go_wp2_with fail
    go_quiet (fail)
    go_wp2_with fail
    go_ret3
    exact ⟨_, by rw [HK'.out, HN'.out]; rfl, ⟨by decide, rfl⟩, Bdn hb2' _⟩
  | true =>
    by_cases hk1 : k = kData ∨ k = kGone
    case neg =>
      have g1 : (k == kData) = false := by simp only [beq_eq_false_iff_ne]; exact fun e => hk1 (.inl e)
      have g2 : (k == kGone) = false := by simp only [beq_eq_false_iff_ne]; exact fun e => hk1 (.inr e)
      have hp : pf = none := by rw [HP.out, if_neg (fun h => hk1 h.2)]
      subst hp
      clear hom hk1
      have HK' := Lib.hid (HK.out.trans rfl); have HN' := Lib.hid (HN.out.trans rfl)
      go_wp2_with fail
      go_quiet (fail)
      go_wp2_with fail
      go_ret3
      exact ⟨_, by rw [HK'.out, HN'.out]; rfl, ⟨by decide, rfl⟩, Bdn hb2' _⟩
    have hp0 : pf = o.bind fun n => if n < 1 ∨ 1073741824 < n then none else some (k, n) := by rw [HP.out, if_pos ⟨rfl, hk1⟩, HO.out]
    have HP0 := Lib.hid hp0
    have hkk : k.length ≤ 4 := by rcases hk1 with rfl | rfl <;> decide
    rcases hk1 with rfl | rfl
    all_goals
      clear hp0
      cases o with
      | none =>
        have hp : pf = none := by rw [HP0.out]; rfl
        subst hp
        clear hom
        have HK' := Lib.hid (HK.out.trans rfl); have HN' := Lib.hid (HN.out.trans rfl)
        go_wp2_with fail
        go_quiet (fail)
        go_wp2_with fail
        go_ret3
        exact ⟨_, by rw [HK'.out, HN'.out]; rfl, ⟨by decide, rfl⟩, Bdn hb2' _⟩
      | some n =>
        obtain rfl : m = n := hom n rfl
        clear hom
        by_cases h1 : m < 1
        case pos =>
          have hp : pf = none := by rw [HP0.out, Option.bind_some, if_pos (.inl h1)]
          subst hp
          have HK' := Lib.hid (HK.out.trans rfl); have HN' := Lib.hid (HN.out.trans rfl)
          go_wp2_with fail
          go_quiet (fail)
          go_wp2_with fail
          go_ret3
          exact ⟨_, by rw [HK'.out, HN'.out]; rfl, ⟨by decide, rfl⟩, Bdn hb2' _⟩
        by_cases h2 : 1073741824 < m
        case pos =>
          have hp : pf = none := by rw [HP0.out, Option.bind_some, if_pos (.inr h2)]
          subst hp
          have g1 : decide (m < 1) = false := by simpa using h1
          have HK' := Lib.hid (HK.out.trans rfl); have HN' := Lib.hid (HN.out.trans rfl)
          go_wp2_with fail
          go_quiet (fail)
          go_wp2_with fail
          go_ret3
          exact ⟨_, by rw [HK'.out, HN'.out]; rfl, ⟨by decide, rfl⟩, Bdn hb2' _⟩
        have hp := HP0.out
        rw [Option.bind_some, if_neg (by omega)] at hp
        subst hp
        have g1 : decide (m < 1) = false := by simpa using h1
        have g2 : decide (1073741824 < m) = false := by simpa using h2
        have HK' := Lib.hid (HK.out.trans rfl); have HN' := Lib.hid (HN.out.trans rfl)
        go_wp2_with fail
        go_ret3
        exact ⟨_, by rw [HK'.out, HN'.out]; rfl, rfl, hb2'⟩
theorem trimPart_any (s : Str) (w : World) (hs : s.length ≤ 100000) :
    Calls Tryz.prog 123 #[S s, .string ⟨#[97, 98, 99, 100, 101, 102, 103, 104, 105, 106, 107, 108, 109, 110, 111, 112, 113, 114, 115, 116, 117, 118, 119, 120, 121, 122, 48, 49, 50, 51, 52, 53, 54, 55, 56, 57]⟩] w
      fun e w' => e = .returned (S (Lib.trimS s partSigns)) ∧ Below w.heap.size w w' := by
  have h := Any.strings_Trim_laid Tryz.lays160 (by kernel_rfl) ⟨s.toArray⟩ ⟨partSigns.toArray⟩ w (by simp [ByteArray.size]; omega) (by decide) (ascii_of_all (by decide))
  exact h
set_option maxRecDepth 20000 in
theorem part_any (k s : Str) (w : World) (hs : s.length ≤ 100000) :
    Calls Tryz.prog 126 #[S k, S s] w fun e w' => e = .returned (.bool (partOk k s)) ∧ Below w.heap.size w w' := by
  unfold partOk
  by_cases hk : k = kGone
  · subst hk
    rw [if_pos rfl]
    go_enter Tryz.func126, Tryz.ntmps126
    go_wp2_with fail
    go_ret
    exact ⟨rfl, Below.refl _ _⟩
  rw [if_neg hk]
  have gk : (k == kGone) = false := by simpa using hk
  by_cases h0 : s = []
  · subst h0
    go_enter Tryz.func126, Tryz.ntmps126
    go_wp2_with fail
    go_ret
    exact ⟨rfl, Below.refl _ _⟩
  have g0 : (!s.isEmpty) = true := by simpa using h0
  have e0 : decide (s ≠ []) = true := by simpa using h0
  rw [e0, Bool.true_and]
  by_cases h1 : s.length ≤ 12
  · have g1 : decide ((s.length : Int) ≤ 12) = true := by simp; omega
    have g2 : (s.length : Int) ≤ 12 := by omega
    have e1 : decide (s.length ≤ 12) = true := by simpa using h1
    rw [e1, Bool.true_and]
    go_enter Tryz.func126, Tryz.ntmps126
    go_wp2_with fail
    refine (trimPart_any s _ hs).mono ?_
    rintro e w1 ⟨rfl, hb1⟩
    have hT : (Lib.trimS s partSigns).isEmpty = s.all (fun b => partSigns.contains b) := by
      rw [Bool.eq_iff_iff, List.isEmpty_iff, trimS_nilP]
    have HT := Lib.hid hT; clear hT
    generalize Lib.trimS s partSigns = T at *
    go_wp2_with fail
    go_ret
    exact ⟨ret_bool (by first | exact HT.out | (rw [← HT.out]; cases T <;> rfl)), hb1⟩
  · have g1 : decide ((s.length : Int) ≤ 12) = false := by simp; omega
    have e1 : decide (s.length ≤ 12) = false := by simpa using h1
    rw [e1, Bool.false_and]
    go_enter Tryz.func126, Tryz.ntmps126
    go_wp2_with fail
    go_ret
    exact ⟨rfl, Below.refl _ _⟩
theorem far_any (n : Int) (w : World) :
    Calls Tryz.prog 127 #[.int .i64 n] w fun e w' => e = .returned (.bool (decide (farN n))) ∧ w = w' := by
  by_cases h1 : n < -1073741824
  · have g : decide (farN n) = true := decide_eq_true (.inl h1)
    rw [g]
    clear g
    go_enter Tryz.func127, Tryz.ntmps127
    go_wp2_with fail
    go_ret
    exact ⟨rfl, rfl⟩
  · have g1 : decide (n < -1073741824) = false := by simpa using h1
    by_cases h2 : 1073741824 < n
    · have g : decide (farN n) = true := decide_eq_true (.inr h2)
      rw [g]
      clear g h1
      go_enter Tryz.func127, Tryz.ntmps127
      go_wp2_with fail
      go_ret
      exact ⟨rfl, rfl⟩
    · have g : decide (farN n) = false := decide_eq_false (fun h => h.elim h1 h2)
      have g2 : decide (1073741824 < n) = false := by simpa using h2
      rw [g]
      clear g h1 h2
      go_enter Tryz.func127, Tryz.ntmps127
      go_wp2_with fail
      go_ret
      exact ⟨rfl, rfl⟩
end Go.Proofs.YtpfohfihkmjnaaaGreatDoor
namespace Go.Proofs.YtpfohfihkmjnaaaGreatDoor
open Go.RowKit
theorem ownFiles_any (v : Value) (l : List Fl) (w : World) (hl : FilesAt w v l) (hn : l.length ≤ 100000) :
    Calls Tryz.prog 11 #[v] w fun e w' => ∃ v', e = .returned v' ∧ Own encF 43 6 w.heap.size w' v' l ∧ Below w.heap.size w w' := by
  have hs := hl.src encF_enc (by decide)
  go_enter Tryz.func11, Tryz.ntmps11
  go_wp2_with (at_builtin; refine wpList_app rfl _ _ _ rfl w.heap.size elFl (.slice none 0 0) 0 [] rfl (Own.nil encF _ 6 _ _) _ _ _ rfl hs (by unfold maxLen; omega) (by omega) (Nat.le_refl _) ?_; intro v' w1 hown hg _)
  go_ret
  exact ⟨_, rfl, by simpa [Own] using hown, (Below.refl _ _).grown hg (Nat.le_refl _) (fun k hk => by cases hk)⟩
def shortF (f : Fl) : Prop := f.path.length ≤ 30 ∧ f.part.length ≤ 30
instance (f : Fl) : Decidable (shortF f) := inferInstanceAs (Decidable (_ ∧ _))
def midF (f : Fl) : Prop := f.path.length ≤ 100000 ∧ f.part.length ≤ 100000
instance (f : Fl) : Decidable (midF f) := inferInstanceAs (Decidable (_ ∧ _))
theorem shortF.mid {f : Fl} (h : shortF f) : midF f := ⟨by have := h.1; omega, by have := h.2; omega⟩
set_option maxRecDepth 20000 in
theorem longFile_any (f : Fl) (w : World) :
    Calls Tryz.prog 63 #[fileV f] w fun e w' => e = .returned (.int .i64 (if shortF f then 0 else 1)) ∧ Below w.heap.size w w' := by
  have hb : Below w.heap.size w (w.alloc (fileO f)) := (Below.refl _ _).alloc (Nat.le_refl _) _
  by_cases h1 : f.path.length ≤ 30
  · have g1 : decide ((30 : Int) < (f.path.length : Int)) = false := by simp; omega
    by_cases h2 : f.part.length ≤ 30
    · rw [if_pos (show shortF f from ⟨h1, h2⟩)]
      have g2 : decide ((30 : Int) < (f.part.length : Int)) = false := by simp; omega
      go_enter Tryz.func63, Tryz.ntmps63
      go_wp2_with fail
      go_ret
      exact ⟨rfl, by first | exact hb | exact Below.refl _ _⟩
    · rw [if_neg (fun h : shortF f => h2 h.2)]
      have g2 : (30 : Int) < (f.part.length : Int) := by omega
      go_enter Tryz.func63, Tryz.ntmps63
      go_wp2_with fail
      go_ret
      exact ⟨rfl, by first | exact hb | exact Below.refl _ _⟩
  · rw [if_neg (fun h : shortF f => h1 h.1)]
    have g1 : (30 : Int) < (f.path.length : Int) := by omega
    go_enter Tryz.func63, Tryz.ntmps63
    go_wp2_with fail
    go_ret
    exact ⟨rfl, by first | exact hb | exact Below.refl _ _⟩
end Go.Proofs.YtpfohfihkmjnaaaGreatDoor
namespace Go.Proofs.YtpfohfihkmjnaaaGreatDoor
open Go.RowKit
theorem own_empty {α : Type} (enc : α → List Value) (e : TypeId) (sz B g : Nat) (w : World) (hB : B ≤ g) (hg : w.heap[g]? = some (.cells #[] e (0, 0))) : Own enc e sz B w (.slice (some ⟨g, 0, none⟩) 0 0) [] :=
  ⟨by simp, .inr ⟨g, 0, #[], rfl, hB, hg, Nat.le_refl _, Nat.zero_le _, by simp, by simp⟩⟩
theorem At.form' {α : Type} {enc : α → List Value} {sz : Nat} {w : World} {v : Value} {l : List α} (h : At enc sz w v l) : ∃ a c, v = .slice a l.length c ∧ (a = none → l = []) ∧ c ≤ maxLen := by
  obtain ⟨a, c, b, o, hv, ha, _, hm, _⟩ := h
  exact ⟨a, c, hv, fun h => List.eq_nil_of_length_eq_zero (by
    rcases Nat.eq_zero_or_pos l.length with h0 | h0
    · exact h0
    · have := ha h0; rw [h] at this; cases this), hm⟩
set_option maxRecDepth 20000 in
theorem cloneF_any (v : Value) (l : List Fl) (w : World) (hl : FilesAt w v l) (hn : l.length ≤ 100000) :
    Calls Tryz.prog 57 #[v] w fun e w' => ∃ v', e = .returned v' ∧ Own encF 43 6 w.heap.size w' v' l ∧ Below w.heap.size w w' := by
  obtain ⟨a, c, rfl, hnil, hcm⟩ := hl.form'
  have hq := fun w' => Lib.run_eql_slice_nil (P := Tryz.prog) w' 23 43 a l.length c 0 0 Tryz.underlying23
  cases a with
  | none =>
    obtain rfl := hnil rfl
    simp only [Option.isNone_none, List.length_nil] at hq
    go_enter Tryz.func57, Tryz.ntmps57
    go_wp2_with fail
    go_ret
    exact ⟨_, rfl, Own.nil _ _ _ _ _, Below.refl _ _⟩
  | some ad =>
    simp only [Option.isNone_some] at hq
    have hba : Below w.heap.size w (w.alloc (.cells #[] 43)) := (Below.refl _ _).alloc (Nat.le_refl _) _
    have hs := (hl.below hba).src encF_enc (by decide)
    have ho : Own encF 43 6 w.heap.size (w.alloc (.cells #[] 43)) (.slice (some ⟨w.heap.size, 0, none⟩) 0 0) [] := own_empty encF _ 6 _ _ _ (Nat.le_refl _) (heap_alloc_new w _)
    go_enter Tryz.func57, Tryz.ntmps57
    go_wp2_with (at_builtin; refine wpList_app rfl _ _ _ rfl w.heap.size elFl (.slice (some ⟨w.heap.size, 0, none⟩) 0 0) 0 [] rfl ho _ _ _ rfl hs (by unfold maxLen; omega) (by omega) (by simp) ?_; intro v' w1 hown hg _)
    go_ret
    exact ⟨_, rfl, by simpa [Own] using hown, hba.grown hg (by simp) (fun k hk => by cases hk; exact Nat.le_refl _)⟩
theorem flZero : (Tryz.prog.info? 43).bind (·.zero) = some (.agg #[.string ByteArray.empty, .string ByteArray.empty, .int .i64 0, .int .i64 0, .int .i64 0, .int .i64 0]) := by kernel_rfl
theorem flZero1 : ∀ z, (Tryz.prog.info? 43).bind (·.zero) = some z → ∀ u ∈ z.cells.toList, u.oneCell' = true := by
  intro z hz u hu
  rw [flZero] at hz
  cases hz
  simp [Value.cells] at hu
  rcases hu with rfl | rfl <;> rfl
end Go.Proofs.YtpfohfihkmjnaaaGreatDoor
namespace Go.Proofs
end Go.Proofs
