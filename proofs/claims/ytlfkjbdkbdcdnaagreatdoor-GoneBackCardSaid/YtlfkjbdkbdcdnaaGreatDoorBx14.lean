/- Files of keys in plain words: a head and lines; what is made, what is read; the two agree. data.table, data.Sum: the walks: the table has of each byte what its bits make; the sum is the sum in plain words. strconv.FormatUint in base ten: the walk. The shelf's contracts that the walks of this seat use, in plain declarations (written by the kit's tool, trimmed by a program). -/
import Derived.Test.YtlfkjbdkbdcdnaaGreatDoorBx13
import Derived.Test.YtlfkjbdkbdcdnaaGreatDoorBx4
import Derived.Test.YtlfkjbdkbdcdnaaGreatDoorBx1
import Derived.Test.YtlfkjbdkbdcdnaaGreatDoorBx12
import Derived.Test.YtlfkjbdkbdcdnaaGreatDoorBx5
import Derived.Test.YtlfkjbdkbdcdnaaGreatDoorBx3
import Derived.Deep.WholeRow
import Derived.Laws.Tables
import Derived.Laws.Rows
import Derived.Laws.BitsAll
import Derived.Outline
import Derived.Test.YtlfkjbdkbdcdnaaGreatDoorBx2
import Derived.Lib.AppendIntMem
import Derived.Shelf.Strings.Builder1
import Derived.Shelf.Strings.Builder2
import Derived.Shelf.Strings.OnBuilder
import Derived.Shelf.Strings.Trim
import Derived.Shelf.Small.Utf8
import Derived.Shelf.Small.Bits
import Derived.Shelf.Small.Strs
import Derived.Shelf.Small.Wraps
import Derived.Shelf.Utf8.RuneCount
import Derived.Shelf.Strconv.Atoi
import Derived.Shelf.Strconv.Itoa0
import Derived.Shelf.Strconv.Itoa1
import Derived.Shelf.LaysM
import Derived.Shelf.Strconv.Itoa2
import Derived.Shelf.Strconv.Itoa3
import Derived.Shelf.Strconv.AtoiErrFast
import Derived.Shelf.Strconv.ParseIntEmpty
import Derived.Shelf.Strconv.AtoiFail
import Derived.Shelf.Strconv.Clone
import Derived.Shelf.Strconv.SyntaxError
import Derived.Shelf.LaysC
import Derived.Shelf.Strconv.ToError
import Derived.Shelf.Strconv.Lower
import Derived.Shelf.Strconv.ParseUint10
import Derived.Shelf.Strconv.ParseUint10Empty
import Derived.Shelf.Strconv.ParseUint10Any
import Derived.Shelf.Strconv.ParseInt10
import Derived.Shelf.Strconv.AtoiLong
import Derived.Shelf.Strconv.AtoiInnerAll
import Derived.Shelf.Strconv.RangeError
import Derived.Shelf.Strconv.ToErrorRange
import Derived.Shelf.Strconv.AtoiAll
import Derived.Shelf.Strconv.ErrVarAll
import Derived.Shelf.Strings.Search1
import Derived.Shelf.Strings.Search2
import Derived.Shelf.Strings.Search3
import Derived.Shelf.Strings.Cut
import Derived.Shelf.Strings.Count
import Derived.Shelf.Strings.Shaped
import Derived.Shelf.Sort.Plain
import Derived.Shelf.Strings.Split
import Derived.Shelf.Strings.SplitShaped
import Derived.Shelf.Unicode.Decode
import Derived.Shelf.Strings.Runes
import Derived.Shelf.Strings.RuneCount
import Derived.Shelf.Strings.AsciiSet
import Derived.Shelf.Strings.Explode
import Derived.Shelf.Unicode.DecodeSlow
import Derived.Shelf.Unicode.DecodeAny
import Derived.Shelf.Unicode.DecodeLast
import Derived.Shelf.Slices.Turned
import Derived.Ground.Names2Prog
import Derived.Shelf.Slices.CompactI
import Derived.Shelf.Slices.SearchI
import Derived.Shelf.Slices.Cells
import Derived.Shelf.Slices.In.SortNone
import Derived.Shelf.Slices.Empties
import Derived.Test.YtlfkjbdkbdcdnaaGreatDoorProg
namespace Go.Proofs.YtlfkjbdkbdcdnaaGreatDoor
open Go.RowKit

/-- The numbers of a head, of a word. -/
def headN (word s : Str) : Option (List Int) :=
  if (Lib.cut s [10]).2.2 = true then
    match cutAt 32 (Lib.cut s [10]).1 with
    | [t, a, b, c, d] => if t = word then numsOf [a, b, c, d] else none
    | _ => none
  else none
def splitE (word s : Str) : Er :=
  if 20000 < s.length then .bare 2 else
  match headN word s with
  | none => .bare 1
  | some n => if n.getD 3 0 = (sumOf (Lib.cut s [10]).2.1 : Int) then .nil else .bare 10
def splitN (word s : Str) : List Int := (headN word s).getD []
def splitL (s : Str) : List Str := cutAt 10 (Lib.cut s [10]).2.1
/-- A line's fault: the last one is empty. -/
def lineF (bad : Nat → Nat) (ls : List Str) (i : Nat) : Nat := if i + 1 = ls.length then (if ls[i]? = some [] then 0 else 1) else bad i
def eachEr (bad : Nat → Nat) (ls : List Str) : Er := firstErr (lineF bad ls) ls.length
def fitsI (n keys : List Int) : Prop := n.getD 0 0 = keys.length ∧ n.getD 1 0 = (endsI keys).1 ∧ n.getD 2 0 = (endsI keys).2
instance (n keys : List Int) : Decidable (fitsI n keys) := by unfold fitsI; infer_instance
/-- What a reading of a block answers. -/
def readEr (word s : Str) (bad : List Str → Nat → Nat) (keys : List Str → List Int) : Er :=
  if splitE word s ≠ .nil then splitE word s
  else if eachEr (bad (splitL s)) (splitL s) ≠ .nil then eachEr (bad (splitL s)) (splitL s)
  else if 40 < (keys (splitL s).dropLast).length then .bare 8
  else if fitsI (splitN word s) (keys (splitL s).dropLast) then .nil else .bare 3

theorem cut_true {c : UInt8} {s : Str} (h : (Lib.cut s [c]).2.2 = true) : s = (Lib.cut s [c]).1 ++ c :: (Lib.cut s [c]).2.1 ∧ c ∉ (Lib.cut s [c]).1 := by
  by_cases hc : c ∈ s
  · obtain ⟨p, q, e, hp⟩ := first_at hc
    have h1 := cut_app1 (c := c) (q := q) hp
    rw [← e] at h1
    rw [h1]
    exact ⟨e, hp⟩
  · rw [cut_none1 hc] at h; cases h
theorem numsOf_inv : ∀ {l : List Str} {ns : List Int}, numsOf l = some ns → l = ns.map Lib.itoa
  | [], ns, h => by
    have : ns = [] := by simpa [numsOf] using h.symm
    rw [this]; rfl
  | a :: r, ns, h => by
    unfold numsOf at h
    rw [List.mapM_cons] at h
    cases ha : numOf a with
    | none => rw [ha] at h; cases h
    | some x =>
      rw [ha] at h
      cases hr : r.mapM numOf with
      | none => rw [hr] at h; cases h
      | some xs =>
        rw [hr] at h
        have e : ns = x :: xs := (Option.some.inj h).symm
        rw [e, List.map_cons, ((numOf_iff a x).1 ha).2, ← numsOf_inv (l := r) (ns := xs) hr]
theorem headN_some {word s : Str} {n : List Int} (h : headN word s = some n) : ∃ n0 n1 n2 n3, n = [n0, n1, n2, n3] ∧ s = headT word n0 n1 n2 n3 ++ 10 :: (Lib.cut s [10]).2.1 ∧ (10 : UInt8) ∉ headT word n0 n1 n2 n3 := by
  unfold headN at h
  split at h
  · rename_i hc
    obtain ⟨e, hn⟩ := cut_true hc
    split at h
    · rename_i t a b c d hcut
      split at h
      · rename_i ht
        subst ht
        have hl := mapM_len _ h
        have hi := numsOf_inv h
        match n, hl with
        | [n0, n1, n2, n3], _ =>
          have hj := join_cut 32 (Lib.cut s [10]).1
          rw [hcut, hi, joinC_itoa] at hj
          refine ⟨n0, n1, n2, n3, rfl, ?_, ?_⟩
          · unfold headT
            rw [hj]; exact e
          · unfold headT
            rw [hj]; exact hn
      · cases h
    · cases h
  · cases h
theorem joinC_body : ∀ ls : List Str, joinC 10 (ls ++ [[]]) = bodyT ls
  | [] => rfl
  | x :: r => by
    have ih := joinC_body r
    have : bodyT (x :: r) = x ++ 10 :: bodyT r := by simp [bodyT]
    rw [this, ← ih]
    cases r with
    | nil => rfl
    | cons y t => rfl
theorem cutAt_clean {c : UInt8} : ∀ {s p : Str}, p ∈ cutAt c s → c ∉ p
  | [], p, h => by
    rw [show p = [] by simpa [cutAt] using h]; simp
  | x :: r, p, h => by
    have ih := fun q hq => cutAt_clean (c := c) (s := r) (p := q) hq
    unfold cutAt at h
    split at h
    · rcases List.mem_cons.1 h with rfl | h
      · simp
      · exact ih p h
    · rename_i hx
      cases hc : cutAt c r with
      | nil => exact absurd hc (cutAt_ne c r)
      | cons a t =>
        rw [hc] at h ih
        rcases List.mem_cons.1 h with rfl | h
        · intro hm
          rcases List.mem_cons.1 hm with e | e
          · exact hx e.symm
          · exact ih a (by simp) e
        · exact ih p (by simp [h])
theorem eachEr_last {bad : Nat → Nat} {ls : List Str} (hne : ls ≠ []) (h : eachEr bad ls = .nil) : ls = ls.dropLast ++ [[]] ∧ ∀ i, i + 1 < ls.length → bad i = 0 := by
  have hz := firstErr_nil h
  have hpos : 0 < ls.length := List.length_pos_iff.2 hne
  constructor
  · have h1 := hz (ls.length - 1) (by omega)
    unfold lineF at h1
    rw [if_pos (by omega)] at h1
    split at h1
    · rename_i h2
      have h3 : ls.getLast hne = [] := by
        rw [List.getLast_eq_getElem]
        obtain ⟨_, h4⟩ := List.getElem?_eq_some_iff.1 h2
        exact h4
      conv => lhs; rw [← List.dropLast_concat_getLast hne, h3]
    · cases h1
  · intro i hi
    have h1 := hz i (by omega)
    unfold lineF at h1
    rwa [if_neg (by omega)] at h1
/-- WHAT IS READ WITHOUT AN ERROR IS A BLOCK's TEXT. -/
theorem readEr_text {word s : Str} {bad : List Str → Nat → Nat} {keys : List Str → List Int} (h : readEr word s bad keys = .nil) :
    s = wholeT word (keys (splitL s).dropLast) (bodyT (splitL s).dropLast) ∧ splitL s = (splitL s).dropLast ++ [[]] ∧ (∀ x ∈ (splitL s).dropLast, (10 : UInt8) ∉ x) ∧ (∀ i, i + 1 < (splitL s).length → bad (splitL s) i = 0) ∧ (keys (splitL s).dropLast).length ≤ 40 := by
  unfold readEr at h
  by_cases h1 : splitE word s = .nil
  case neg => rw [if_pos h1] at h; exact absurd h h1
  rw [if_neg (by simpa using h1)] at h
  by_cases h2 : eachEr (bad (splitL s)) (splitL s) = .nil
  case neg => rw [if_pos h2] at h; exact absurd h h2
  rw [if_neg (by simpa using h2)] at h
  by_cases h3 : 40 < (keys (splitL s).dropLast).length
  · rw [if_pos h3] at h; cases h
  rw [if_neg h3] at h
  by_cases h4 : fitsI (splitN word s) (keys (splitL s).dropLast)
  case neg => rw [if_neg h4] at h; cases h
  have hne : splitL s ≠ [] := cutAt_ne 10 _
  obtain ⟨e1, e2⟩ := eachEr_last hne h2
  refine ⟨?_, e1, fun x hx => cutAt_clean ((List.dropLast_subset _) hx), e2, by omega⟩
  unfold splitE at h1
  split at h1
  · cases h1
  cases hn : headN word s with
  | none => rw [hn] at h1; cases h1
  | some n =>
    rw [hn] at h1
    obtain ⟨n0, n1, n2, n3, rfl, hs, -⟩ := headN_some hn
    simp only at h1
    split at h1
    · rename_i hsum
      have hb : (Lib.cut s [10]).2.1 = bodyT (splitL s).dropLast := by
        have h := join_cut 10 (Lib.cut s [10]).2.1
        have e1' : cutAt 10 (Lib.cut s [10]).2.1 = (splitL s).dropLast ++ [[]] := e1
        rw [e1', joinC_body] at h
        exact h.symm
      have hN : splitN word s = [n0, n1, n2, n3] := by unfold splitN; rw [hn]; rfl
      rw [hN] at h4
      obtain ⟨f0, f1, f2⟩ := h4
      simp only [List.getD_cons_zero, List.getD_cons_succ] at f0 f1 f2 hsum
      rw [hb] at hs hsum
      rw [f0, f1, f2, hsum] at hs
      exact hs
    · cases h1
/-- What is a block's text is read, where its lines are right. -/
theorem readEr_of {word : Str} {ls : List Str} {bad : List Str → Nat → Nat} {keys : List Str → List Int} (hw : (32 : UInt8) ∉ word) (hw10 : (10 : UInt8) ∉ word) (h10 : ∀ x ∈ ls, (10 : UInt8) ∉ x) (hlen : (wholeT word (keys ls) (bodyT ls)).length ≤ 20000)
    (hk : (keys ls).length ≤ 40) (hend : -10000000000 < (endsI (keys ls)).1 ∧ (endsI (keys ls)).1 < 10000000000 ∧ -10000000000 < (endsI (keys ls)).2 ∧ (endsI (keys ls)).2 < 10000000000) (hbad : ∀ i, i < ls.length → bad (ls ++ [[]]) i = 0) :
    readEr word (wholeT word (keys ls) (bodyT ls)) bad keys = .nil ∧ splitL (wholeT word (keys ls) (bodyT ls)) = ls ++ [[]] := by
  obtain ⟨s, hs⟩ : ∃ s, wholeT word (keys ls) (bodyT ls) = s := ⟨_, rfl⟩
  have hcut : Lib.cut s [10] = (headT word (keys ls).length (endsI (keys ls)).1 (endsI (keys ls)).2 (sumOf (bodyT ls)), bodyT ls, true) := by
    rw [← hs]; exact cut_app1 (head_clean hw10 _ _ _ _)
  have hsum := sumOf_lt (bodyT ls)
  have hL : splitL s = ls ++ [[]] := by unfold splitL; rw [hcut]; exact cut_body h10
  have hN : headN word s = some [((keys ls).length : Int), (endsI (keys ls)).1, (endsI (keys ls)).2, (sumOf (bodyT ls) : Int)] := by
    unfold headN
    rw [hcut]
    simp only [if_true, cut_head hw]
    have := numsOf_map [((keys ls).length : Int), (endsI (keys ls)).1, (endsI (keys ls)).2, (sumOf (bodyT ls) : Int)] (fun x hx => by
      simp only [List.mem_cons, List.mem_nil_iff, or_false] at hx
      rcases hx with rfl | rfl | rfl | rfl <;> omega)
    simpa using this
  rw [hs] at hlen ⊢
  refine ⟨?_, hL⟩
  have h1 : splitE word s = .nil := by
    unfold splitE
    rw [if_neg (by omega), hN]
    simp only [List.getD_cons_zero, List.getD_cons_succ]
    rw [hcut, if_pos rfl]
  have h2 : eachEr (bad (splitL s)) (splitL s) = .nil := by
    rw [hL]
    refine firstErr_all fun j hj => ?_
    unfold lineF
    split
    · rename_i h
      rw [if_pos]
      have : j = ls.length := by simpa using h
      rw [this]; simp
    · rename_i h
      refine hbad j ?_
      simp at hj h; omega
  unfold readEr
  rw [if_neg (by simpa using h1), if_neg (by simpa using h2), hL, List.dropLast_concat, if_neg (by omega), if_pos]
  unfold splitN
  rw [hN]
  exact ⟨rfl, rfl, rfl⟩

/-- A line's number. -/
def numD (s : Str) : Int := (numOf s).getD 0
def goneBad (ls : List Str) (i : Nat) : Nat :=
  match ls[i]? with
  | none => 0
  | some s => if (numOf s).isNone then 1 else if farN (numD s) then 2 else if 0 < i ∧ ∃ t, ls[i - 1]? = some t ∧ numD s ≤ numD t then 9 else 0
def goneE (s : Str) : Er := readEr kGone s goneBad (fun l => l.map numD)
def goneL (s : Str) : List Int := if goneE s = .nil then (splitL s).dropLast.map numD else []
/-- What is made of keys. -/
def farF (l : List Int) (i : Nat) : Nat := match l[i]? with | none => 0 | some k => if farN k then 2 else 0
def madeE (l : List Int) : Er := if 40 < (risOf l).length then .bare 8 else firstErr (farF l) l.length
def goneText (ks : List Int) : Str := wholeT kGone ks (bodyT (ks.map Lib.itoa))
def madeT (l : List Int) : Str := if madeE l = .nil then goneText (risOf l) else []

theorem fold_min : ∀ (l : List Int) (a : Int), l.foldl min a ∈ a :: l ∧ ∀ x ∈ a :: l, l.foldl min a ≤ x
  | [], a => by simp
  | x :: r, a => by
    obtain ⟨h1, h2⟩ := fold_min r (min a x)
    rw [List.foldl_cons]
    constructor
    · rcases List.mem_cons.1 h1 with e | e
      · rw [e]
        rcases Int.le_total a x with h | h
        · rw [Int.min_eq_left h]; simp
        · rw [Int.min_eq_right h]; simp
      · exact List.mem_cons_of_mem _ (List.mem_cons_of_mem _ e)
    · intro y hy
      have h3 := h2 (min a x) (by simp)
      rcases List.mem_cons.1 hy with rfl | hy
      · omega
      · rcases List.mem_cons.1 hy with rfl | hy
        · omega
        · exact h2 y (List.mem_cons_of_mem _ hy)
theorem fold_max : ∀ (l : List Int) (a : Int), l.foldl max a ∈ a :: l ∧ ∀ x ∈ a :: l, x ≤ l.foldl max a
  | [], a => by simp
  | x :: r, a => by
    obtain ⟨h1, h2⟩ := fold_max r (max a x)
    rw [List.foldl_cons]
    constructor
    · rcases List.mem_cons.1 h1 with e | e
      · rw [e]
        rcases Int.le_total a x with h | h
        · rw [Int.max_eq_right h]; simp
        · rw [Int.max_eq_left h]; simp
      · exact List.mem_cons_of_mem _ (List.mem_cons_of_mem _ e)
    · intro y hy
      have h3 := h2 (max a x) (by simp)
      rcases List.mem_cons.1 hy with rfl | hy
      · omega
      · rcases List.mem_cons.1 hy with rfl | hy
        · omega
        · exact h2 y (List.mem_cons_of_mem _ hy)
/-- The ends are among them, and bound them. -/
theorem ends_mem {l : List Int} (h : l ≠ []) : (endsI l).1 ∈ l ∧ (endsI l).2 ∈ l ∧ ∀ x ∈ l, (endsI l).1 ≤ x ∧ x ≤ (endsI l).2 := by
  unfold endsI
  rw [if_neg h]
  match l, h with
  | a :: r, _ =>
    obtain ⟨h1, h2⟩ := fold_min r a
    obtain ⟨h3, h4⟩ := fold_max r a
    have e1 : Lib.minOf (a :: r) = r.foldl min a := by show (a :: r).foldl min a = _; rw [List.foldl_cons, Int.min_self]
    have e2 : Lib.maxOf (a :: r) = r.foldl max a := by show (a :: r).foldl max a = _; rw [List.foldl_cons, Int.max_self]
    simp only [e1, e2]
    exact ⟨h1, h3, fun x hx => ⟨h2 x hx, h4 x hx⟩⟩
theorem ends_within {l : List Int} {B : Int} (hB : 0 ≤ B) (h : ∀ x ∈ l, -B ≤ x ∧ x ≤ B) : (-B ≤ (endsI l).1 ∧ (endsI l).1 ≤ B) ∧ (-B ≤ (endsI l).2 ∧ (endsI l).2 ≤ B) := by
  by_cases hl : l = []
  · rw [hl]; unfold endsI; simp; omega
  · obtain ⟨h1, h2, -⟩ := ends_mem hl
    exact ⟨h _ h1, h _ h2⟩
theorem numD_itoa {n : Int} (h : ¬ farN n) : numOf (Lib.itoa n) = some n ∧ numD (Lib.itoa n) = n := by
  have : numOf (Lib.itoa n) = some n := numOf_itoa' (by unfold farN at h; omega) (by unfold farN at h; omega)
  exact ⟨this, by unfold numD; rw [this]; rfl⟩
theorem map_numD {ks : List Int} (h : ∀ n ∈ ks, ¬ farN n) : (ks.map Lib.itoa).map numD = ks := by
  rw [List.map_map]
  conv => rhs; rw [← List.map_id ks]
  exact List.map_congr_left fun n hn => (numD_itoa (h n hn)).2
theorem gone_bad {ks : List Int} (hup : upI ks) (h : ∀ n ∈ ks, ¬ farN n) : ∀ i, i < (ks.map Lib.itoa).length → goneBad (ks.map Lib.itoa ++ [[]]) i = 0 := by
  intro i hi
  have hi' : i < ks.length := by simpa using hi
  unfold goneBad
  rw [List.getElem?_append_left hi, List.getElem?_map, List.getElem?_eq_getElem hi']
  simp only [Option.map_some]
  obtain ⟨e1, e2⟩ := numD_itoa (h _ (List.getElem_mem hi'))
  rw [e1, e2]
  simp only [Option.isNone_some, Bool.false_eq_true, if_false]
  rw [if_neg (h _ (List.getElem_mem hi')), if_neg]
  rintro ⟨h0, t, ht, hle⟩
  rw [List.getElem?_append_left (by omega), List.getElem?_map, List.getElem?_eq_getElem (show i - 1 < ks.length by omega)] at ht
  have : t = Lib.itoa (ks[i - 1]'(by omega)) := by simpa using ht.symm
  rw [this, (numD_itoa (h _ (List.getElem_mem (by omega)))).2] at hle
  have := List.pairwise_iff_getElem.1 hup (i - 1) i (by omega) hi' (by omega)
  omega
theorem itoa_clean (n : Int) : (10 : UInt8) ∉ Lib.itoa n := not_mem_itoa' (by decide) (by decide)
theorem body_len {m : Nat} : ∀ {ls : List Str}, (∀ s ∈ ls, s.length ≤ m) → (bodyT ls).length ≤ ls.length * (m + 1)
  | [], _ => by simp [bodyT]
  | s :: r, h => by
    have ih := body_len (ls := r) fun x hx => h x (by simp [hx])
    have h1 := h s (by simp)
    have : bodyT (s :: r) = s ++ 10 :: bodyT r := by simp [bodyT]
    rw [this]
    simp only [List.length_append, List.length_cons, Nat.add_mul, Nat.one_mul]
    omega
theorem head_len {word : Str} (n lo hi sum : Int) (hw : word.length ≤ 10) (h0 : -9223372036854775808 ≤ n ∧ n ≤ 9223372036854775807) (h1 : -9223372036854775808 ≤ lo ∧ lo ≤ 9223372036854775807) (h2 : -9223372036854775808 ≤ hi ∧ hi ≤ 9223372036854775807) (h3 : -9223372036854775808 ≤ sum ∧ sum ≤ 9223372036854775807) : (headT word n lo hi sum).length ≤ 110 := by
  have l0 := itoa_len n h0.1 h0.2
  have l1 := itoa_len lo h1.1 h1.2
  have l2 := itoa_len hi h2.1 h2.2
  have l3 := itoa_len sum h3.1 h3.2
  unfold headT numsTail
  simp only [List.flatMap_cons, List.flatMap_nil, List.append_nil, List.length_append, List.length_cons]
  omega
theorem near {n : Int} (h : ¬ farN n) : -1073741824 ≤ n ∧ n ≤ 1073741824 := by unfold farN at h; omega
theorem goneText_len {ks : List Int} (h : ∀ n ∈ ks, ¬ farN n) (hk : ks.length ≤ 40) : (goneText ks).length ≤ 1100 := by
  have hs := sumOf_lt (bodyT (ks.map Lib.itoa))
  obtain ⟨e1, e2⟩ := ends_within (B := 1073741824) (by omega) fun x hx => near (h x hx)
  have h1 := head_len (word := kGone) ks.length (endsI ks).1 (endsI ks).2 (sumOf (bodyT (ks.map Lib.itoa))) (by decide) (by omega) (by omega) (by omega) (by omega)
  have h2 := body_len (m := 21) (ls := ks.map Lib.itoa) fun s hs => by
    obtain ⟨n, hn, rfl⟩ := List.mem_map.1 hs
    have := near (h n hn)
    exact itoa_len n (by omega) (by omega)
  rw [List.length_map] at h2
  unfold goneText wholeT
  rw [List.length_append, List.length_cons]
  omega
theorem goneRead_text {ks : List Int} (hup : upI ks) (h : ∀ n ∈ ks, ¬ farN n) (hk : ks.length ≤ 40) : goneE (goneText ks) = .nil ∧ goneL (goneText ks) = ks := by
  have hm := map_numD h
  have hlen := goneText_len h hk
  unfold goneText at hlen
  have hr := readEr_of (word := kGone) (ls := ks.map Lib.itoa) (bad := goneBad) (keys := fun l => l.map numD) (by decide) (by decide) (fun x hx => by
      obtain ⟨n, -, rfl⟩ := List.mem_map.1 hx
      exact itoa_clean n) (by simp only [hm]; omega) (by simp only [hm]; exact hk) (by
      simp only [hm]
      obtain ⟨e1, e2⟩ := ends_within (B := 1073741824) (by omega) fun x hx => near (h x hx)
      omega) (gone_bad hup h)
  simp only [hm] at hr
  obtain ⟨h1, h2⟩ := hr
  have hE : goneE (goneText ks) = .nil := h1
  refine ⟨hE, ?_⟩
  unfold goneL
  rw [if_pos hE]
  unfold goneText
  rw [h2, List.dropLast_concat, hm]
/-- WHAT IS READ WITHOUT AN ERROR IS THE TEXT OF ITS KEYS. -/
theorem gone_text {s : Str} (h : goneE s = .nil) : s = goneText (goneL s) := by
  obtain ⟨e1, e2, -, e4, -⟩ := readEr_text h
  have hL : goneL s = (splitL s).dropLast.map numD := by unfold goneL; rw [if_pos h]
  have hlines : (goneL s).map Lib.itoa = (splitL s).dropLast := by
    rw [hL, List.map_map]
    apply List.ext_getElem?
    intro i
    rw [List.getElem?_map]
    rcases Nat.lt_or_ge i (splitL s).dropLast.length with hi | hi
    · rw [List.getElem?_eq_getElem hi]
      have hb := e4 i (by rw [List.length_dropLast] at hi; omega)
      have hg : (splitL s)[i]? = some (splitL s).dropLast[i] := by
        rw [List.getElem_dropLast, List.getElem?_eq_getElem]
      unfold goneBad at hb
      rw [hg] at hb
      simp only at hb
      cases hn : numOf (splitL s).dropLast[i] with
      | none => rw [hn] at hb; simp at hb
      | some k =>
        simp only [Option.map_some, Function.comp_apply]
        unfold numD
        rw [hn]
        simp only [Option.getD_some]
        rw [((numOf_iff _ k).1 hn).2]
    · rw [List.getElem?_eq_none hi]; rfl
  unfold goneText
  rw [hlines, hL]
  exact e1
theorem map_itoa_inj : ∀ {a b : List Int}, a.map Lib.itoa = b.map Lib.itoa → a = b
  | [], [], _ => rfl
  | x :: r, y :: t, h => by
    simp only [List.map_cons, List.cons.injEq] at h
    rw [itoa_inj' h.1, map_itoa_inj h.2]
/-- One byte another one: none. -/
theorem gone_one {ks : List Int} {i : Nat} {c x : UInt8} (hx : (goneText ks)[i]? = some x) (hne : x ≠ c) : goneE ((goneText ks).set i c) ≠ .nil := by
  intro h
  have e := gone_text h
  have hcl : ∀ (l : List Int), ∀ s ∈ l.map Lib.itoa, (10 : UInt8) ∉ s := fun l s hs => by
    obtain ⟨n, -, rfl⟩ := List.mem_map.1 hs
    exact itoa_clean n
  exact block_one (word := kGone) (by decide) (by decide) (by simp) (by simp) (hcl _) (hcl _) (fun e => map_itoa_inj e) hx hne e
theorem madeE_nil {l : List Int} (h : madeE l = .nil) : (risOf l).length ≤ 40 ∧ ∀ n ∈ risOf l, ¬ farN n := by
  unfold madeE at h
  split at h
  · cases h
  refine ⟨by omega, fun n hn hf => ?_⟩
  obtain ⟨j, hj, he⟩ := List.getElem_of_mem (mem_risOf.1 hn)
  have := firstErr_nil h j hj
  unfold farF at this
  rw [List.getElem?_eq_getElem hj, he] at this
  simp only at this
  rw [if_pos hf] at this
  cases this
end Go.Proofs.YtlfkjbdkbdcdnaaGreatDoor
namespace Go.Proofs.YtlfkjbdkbdcdnaaGreatDoor
open Go.RowKit

theorem zero256 : Tryz.zeroCells137 = (List.replicate 256 (Value.int .u32 0)).toArray := by kernel_rfl
/-- The table's cells when k of them are laid. -/
def tabCells (k : Nat) : List Value := (List.range 256).map fun i => Value.int .u32 (if i < k then (crcIter 8 i : Nat) else 0)
theorem tab_zero : (List.replicate 256 (Value.int .u32 0)) = tabCells 0 := by
  unfold tabCells
  generalize 256 = n
  apply List.ext_getElem
  · simp
  · intro i h1 h2; simp
theorem tab_len (k : Nat) : (tabCells k).length = 256 := by simp [tabCells]
theorem tab_set {k : Nat} : (tabCells k).set k (.int .u32 (crcIter 8 k : Nat)) = tabCells (k + 1) := by
  apply List.ext_getElem
  · simp [tabCells]
  · intro i h1 h2
    rw [List.getElem_set]
    split
    · rename_i h; subst h; simp [tabCells]
    · rename_i h
      simp only [tabCells, List.getElem_map, List.getElem_range]
      by_cases h3 : i < k
      · rw [if_pos h3, if_pos (by omega)]
      · rw [if_neg h3, if_neg (by omega)]
theorem tab_at {i : Nat} (hi : i < 256) : (tabCells 256)[i]? = some (.int .u32 (crcIter 8 i : Nat)) := by
  rw [List.getElem?_eq_getElem (by rw [tab_len]; exact hi)]
  simp [tabCells, hi]
theorem tab_one (k : Nat) : (tabCells k).toArray.all (·.oneCell') = true := by
  rw [Array.all_eq_true_iff_forall_mem]
  intro v hv
  simp only [tabCells, List.mem_toArray, List.mem_map] at hv
  obtain ⟨i, _, rfl⟩ := hv
  rfl
/-- The same as an array: not to be opened. -/
def tabA (k : Nat) : Array Value := (tabCells k).toArray
theorem tabA_size (k : Nat) : (tabA k).size = 256 := by unfold tabA; rw [List.size_toArray, tab_len]
theorem tabA_set (k : Nat) : (tabA k).setIfInBounds k (.int .u32 (crcIter 8 k : Nat)) = tabA (k + 1) := by
  unfold tabA; rw [List.setIfInBounds_toArray, tab_set]
theorem tabA_cell (k : Nat) (hk : k < 256) : (tabA k)[k]? = some (.int .u32 0) := by
  unfold tabA
  rw [List.getElem?_toArray, List.getElem?_eq_getElem (by rw [tab_len]; exact hk)]
  simp [tabCells]
theorem tabA_at {i : Nat} (hi : i < 256) : (tabA 256)[i]? = some (.int .u32 (crcIter 8 i : Nat)) := by
  unfold tabA; rw [List.getElem?_toArray, tab_at hi]
theorem tabA_one (k : Nat) : (tabA k).all (·.oneCell') = true := tab_one k
theorem tabA_zero : Tryz.zeroCells137 = tabA 0 := by rw [zero256, tab_zero]; rfl
theorem size256 : (Tryz.prog.info? 137).map (·.size) = some 256 := by kernel_rfl
/-- A bit's round, as the walk spells it. -/
theorem bit_round {c : Nat} (h : c < 4294967296) : bits .xor .u32 ((c : Int) / 2) (IntKind.u32.wrap (3988292384 * bits .and .u32 (c : Int) 1)) = (crcBit c : Nat) ∧ bits .xor .u32 ((c : Int) / 2) (3988292384 * bits .and .u32 (c : Int) 1 % 4294967296) = (crcBit c : Nat) := by
  rw [← IntKind.wrap_u32', and_self]
  have h1 : bits .and .u32 (c : Int) 1 = ((c % 2 : Nat) : Int) := by
    have := u32_and_nat c 1 h (by omega)
    rw [show ((1 : Nat) : Int) = 1 from rfl] at this
    rw [this, Nat.and_one_is_mod]
  rw [h1]
  have h2 : IntKind.u32.wrap (3988292384 * ((c % 2 : Nat) : Int)) = ((crcP * (c % 2) : Nat) : Int) := by
    rw [IntKind.wrap_u32']; unfold crcP; omega
  rw [h2, show ((c : Int) / 2) = ((c / 2 : Nat) : Int) by omega, u32_xor_nat _ _ (by omega) (by unfold crcP; omega)]
  congr 1
  unfold crcBit
  rcases Nat.mod_two_eq_zero_or_one c with h3 | h3
  · rw [h3, if_neg (by omega)]; simp
  · rw [h3, if_pos rfl]; simp
set_option maxHeartbeats 1000000 in
set_option maxRecDepth 20000 in
theorem table_any (w : World) :
    Calls Tryz.prog 95 #[] w fun e w' => e = .returned (.agg (tabA 256)) ∧ Below w.heap.size w w' := by
  have hg1 : ((w.alloc (.cells Tryz.zeroCells137 137)).alloc (.cells Tryz.zeroCells137 137)).heap[w.heap.size + 1]? = some (.cells (tabA 0) 137 (0, 0)) := by
    rw [heap_alloc2_new, tabA_zero]
  have hg0 : ((w.alloc (.cells Tryz.zeroCells137 137)).alloc (.cells Tryz.zeroCells137 137)).heap[w.heap.size]? = some (.cells (tabA 0) 137 (0, 0)) := by
    rw [heap_alloc2_old, tabA_zero]
  have hb0 : Below w.heap.size w ((w.alloc (.cells Tryz.zeroCells137 137)).alloc (.cells Tryz.zeroCells137 137)) := ((Below.refl _ _).alloc (Nat.le_refl _) _).alloc (by simp) _
  have G1 := Lib.hid hg1; have G0 := Lib.hid hg0
  clear hg1 hg0
  go_enter Tryz.func95, Tryz.ntmps95
  go_wp2_with fail
  generalize (w.alloc (.cells Tryz.zeroCells137 137)).alloc (.cells Tryz.zeroCells137 137) = w0 at *
  obtain ⟨H, hH⟩ : ∃ H, w.heap.size = H := ⟨_, rfl⟩
  rw [hH] at G1 G0 hb0 ⊢
  have HH := Lib.hid hH; clear hH
  go_loopw [2, 3, 4, 9] (fun _ _ i _ wr => ∃ k : Nat, k ≤ 256 ∧ i = .int .i64 k ∧ Hid (wr.heap[H + 1]? = some (.cells (tabA k) 137 (0, 0))) ∧ Hid (wr.heap[H]? = some (.cells (tabA 0) 137 (0, 0))) ∧ Below H w wr) (fun _ _ i _ _ => 256 - (intOf i).toNat)
  case atStart => exact ⟨0, by omega, rfl, G1, G0, hb0⟩
  case round =>
    obtain ⟨k, hk, rfl, hg1, hg0, hb⟩ := hrel
    clear G1 G0 hb0
    by_cases hlt : k < 256
    case neg =>
      have f : decide ((k : Int) < 256) = false := by simp; omega
      obtain rfl : k = 256 := by omega
      go_wp2_with (first | (refine wpList_load_row rfl 137 _ rfl (H + 1) rfl 137 (tabA 256) (0, 0) _ hg1.out Tryz.underlying137 rfl (by rw [tabA_size]; exact size256) ?_) | (refine wpList_store_row rfl _ _ _ rfl H (tabA 256) rfl rfl 137 (tabA 0) hg0.out (by rw [tabA_size]; exact size256) (by rw [tabA_size, tabA_size]) (tabA_one _) ?_))
      exact bodyPost_ret (results_cell_row rfl _ _ H 137 (tabA 256) (0, 0) _ rfl (setRow_heap _ H _ _ _ _ hg0.out) Tryz.underlying137 rfl (by rw [tabA_size]; exact size256)) rfl ⟨rfl, by rw [HH.out]; exact hb.grown (grown_setRow wr H _) (Nat.le_of_lt (Array.getElem?_eq_some_iff.1 hg0.out).1) (fun k hk => by cases hk; exact Nat.le_refl _)⟩
    have hlt' : (k : Int) < 256 := by omega
    have hcv : IntKind.u32.wrap (k : Int) = k := by rw [IntKind.wrap_u32']; omega
    go_wp2_with fail
    obtain ⟨wo, rfl⟩ : ∃ wo : World, wo = wr := ⟨_, rfl⟩
    go_loop [3, 9] (fun c j => ∃ m : Nat, m ≤ 8 ∧ j = .int .i64 m ∧ c = .int .u32 (crcIter m k : Nat)) (fun _ j => 8 - (intOf j).toNat)
    case atStart => exact ⟨0, by omega, rfl, rfl⟩
    case round =>
      obtain ⟨m, hm, rfl, rfl⟩ := hrel
      by_cases hm8 : m < 8
      · have hm8' : (m : Int) < 8 := by omega
        have hc : crcIter m k < 4294967296 := crcIter_lt m (by omega)
        have hsu : crcIter (m + 1) k = crcBit (crcIter m k) := crcIter_succ m k
        have HSu := Lib.hid hsu; clear hsu
        generalize crcIter m k = c at *
        have hbr := (bit_round hc).2
        have h1 : (0 : Int) ≤ c := by omega
        have h2 : (c : Int) < 4294967296 := by omega
        go_wp2_with fail
        refine ⟨⟨m + 1, by omega, by go_num, by rw [HSu.out]⟩, ?_⟩
        simp [intOf]; omega
      · obtain rfl : m = 8 := by omega
        have c0 := cell_of_row wo (H + 1) k _ _ _ hg1.out
        rw [tabA_cell k hlt] at c0
        have f0 : wo.frozen? ⟨H + 1, k, none⟩ = false := frozen_row hg1.out
        generalize hcr : crcIter 8 k = cr at *
        go_wp2_with fail
        go_roundw
        case rel => exact ⟨k + 1, by omega, by go_num, Lib.hid (by rw [row_setCell hg1.out, ← hcr, tabA_set]), Lib.hid ((heap_setCell_other _ _ _ _ (by simp)).trans hg0.out), hb.setCell (p := ⟨H + 1, k, none⟩) (by simp) _⟩
        case measure => simp [intOf]; omega
/-- A byte's round, as the walk spells it. -/
theorem sum_round (c : Nat) (b : UInt8) : bits .xor .u8 ((c : Int) % 256) (b.toNat : Int) = ((c % 256 ^^^ b.toNat : Nat) : Int) := by
  rw [show ((c : Int) % 256) = ((c % 256 : Nat) : Int) by omega]
  exact u8_xor_nat _ _ (by omega) (byte_lt b)
theorem sum_round2 {c : Nat} (h : c < 4294967296) (b : UInt8) : bits .xor .u32 ((c : Int) / 256) ((crcIter 8 (c % 256 ^^^ b.toNat) : Nat) : Int) = (crcStep c b : Nat) := by
  have hx : c % 256 ^^^ b.toNat < 2 ^ 8 := Nat.xor_lt_two_pow (by omega) (byte_lt b)
  rw [show ((c : Int) / 256) = ((c / 256 : Nat) : Int) by omega, u32_xor_nat _ _ (by omega) (crcIter_lt 8 (by omega)), crc_table]
set_option maxHeartbeats 1000000 in
set_option maxRecDepth 200000 in
theorem sum_any (s : Str) (w : World) (hs : s.length ≤ 100000) :
    Calls Tryz.prog 39 #[S s] w fun e w' => e = .returned (.int .u32 (sumOf s : Nat)) ∧ Below w.heap.size w w' := by
  go_enter Tryz.func39, Tryz.ntmps39
  go_wp2_with fail
  refine (table_any w).mono ?_
  rintro e w1 ⟨rfl, hb1⟩
  go_wp2_with (refine wpList_store_row rfl _ _ _ rfl w1.heap.size (tabA 256) rfl rfl 137 (tabA 0) (by rw [heap_alloc_new, tabA_zero]) (by rw [tabA_size]; exact size256) (by rw [tabA_size, tabA_size]) (tabA_one _) ?_)
  have hb2 : Below w.heap.size w ((w1.alloc (.cells Tryz.zeroCells137 137)).setRow w1.heap.size (tabA 256)) := (hb1.alloc hb1.size _).grown (grown_setRow _ _ _) (by have := hb1.size; simp; omega) (fun k hk => by cases hk; exact hb1.size)
  have hg2 := setRow_heap (w1.alloc (.cells Tryz.zeroCells137 137)) w1.heap.size _ (tabA 256) _ _ (heap_alloc_new w1 _)
  have G2 := Lib.hid hg2; clear hg2
  generalize (w1.alloc (.cells Tryz.zeroCells137 137)).setRow w1.heap.size (tabA 256) = w2 at *
  generalize w1.heap.size = g at *
  generalize htb : tabA 256 = tb at *
  have HTb := Lib.hid htb; clear htb
  go_loop [4, 9] (fun c i => ∃ k : Nat, k ≤ s.length ∧ i = .int .i64 k ∧ c = .int .u32 (crcFold 4294967295 (s.take k) : Nat)) (fun _ i => s.length - (intOf i).toNat)
  case atStart => exact ⟨0, by omega, rfl, rfl⟩
  case round =>
    obtain ⟨k, hk, rfl, rfl⟩ := hrel
    have hc : crcFold 4294967295 (s.take k) < 4294967296 := crcFold_lt _ (by omega)
    by_cases hlt : k < s.length
    · have hk1 : (k : Int) < s.length := by omega
      have hsn : crcFold 4294967295 (s.take (k + 1)) = crcStep (crcFold 4294967295 (s.take k)) s[k] := by
        rw [take_snoc' (x := s[k]) (by simp [hlt]), crcFold_snoc]
      have HSn := Lib.hid hsn; clear hsn
      generalize crcFold 4294967295 (s.take k) = c at *
      have hbk : (({ data := s.toArray } : ByteArray)[k]'(by simpa [ByteArray.size] using hlt)) = s[k] := rfl
      have hr1 := sum_round c s[k]
      have hr2 := sum_round2 hc s[k]
      have hx8 : c % 256 ^^^ s[k].toNat < 2 ^ 8 := Nat.xor_lt_two_pow (by omega) (byte_lt s[k])
      have hca := cell_of_row w2 g (c % 256 ^^^ s[k].toNat) _ _ _ G2.out
      rw [← HTb.out, tabA_at (by omega)] at hca
      have hx0 : (0 : Int) ≤ ((c % 256 ^^^ s[k].toNat : Nat) : Int) := by omega
      have hx1 : ((c % 256 ^^^ s[k].toNat : Nat) : Int) < 256 := by omega
      have h1 : (0 : Int) ≤ c := by omega
      have h2 : (c : Int) < 4294967296 := by omega
      generalize c % 256 ^^^ s[k].toNat = x at *
      clear hc hb1 hb2 h1 h2
      go_wp2_with fail
      refine ⟨⟨k + 1, by omega, by go_num, by rw [HSn.out]⟩, ?_⟩
      simp [intOf]; omega
    · obtain rfl : k = s.length := by omega
      have hf : bits .xor .u32 IntKind.u32.max ((crcFold 4294967295 (s.take s.length) : Nat) : Int) = (sumOf s : Nat) := by
        rw [List.take_length] at hc ⊢
        have := u32_xor_nat 4294967295 (crcFold 4294967295 s) (by omega) hc
        unfold sumOf
        rw [Nat.xor_comm]
        exact this
      have HF := Lib.hid hf; clear hf
      generalize crcFold 4294967295 (s.take s.length) = c at *
      have HB2 := Lib.hid hb2
      have HS := Lib.hid hs
      clear hc hb1 hb2 hs
      go_wp2_with fail
      go_ret
      exact ⟨show Ending.returned (.int .u32 (bits .xor .u32 IntKind.u32.max (c : Int))) = _ by rw [HF.out], HB2.out⟩
end Go.Proofs.YtlfkjbdkbdcdnaaGreatDoor
namespace Go.Proofs.YtlfkjbdkbdcdnaaGreatDoor
open Go.RowKit Go.Sort Go.Lib

theorem formatUintI_any (u : Nat) (hu64 : u < 18446744073709551616) (w : World) (htab : Lib.TabIs Tryz.prog w "internal/strconv.uint64pow10" .u64 Lib.pow10Tab) :
    Calls Tryz.prog 191 #[.int .u64 u, .int .i64 10] w fun e w' => e = .returned (.string ⟨(Lib.decDigits u).toArray⟩) ∧ Below w.heap.size w w' := by
  by_cases hs : u < 100
  · have g : (u : Int) < 100 := by omega
    have hc : IntKind.i64.wrap (u : Int) = u := by rw [IntKind.wrap_i64]; omega
    go_enter Tryz.func191, Tryz.ntmps191
    go_wp2_with (go_at_call 185; refine (Tryz.internal_strconv_small u hs _).mono ?_; rintro e w' ⟨rfl, rfl⟩)
    go_ret
    exact ⟨rfl, Below.refl _ _⟩
  · have hu1 : 1 ≤ u := by omega
    have g : decide ((u : Int) < 100) = false := by simp; omega
    have hnd20 : Lib.nDigits u ≤ 20 := by have := Lib.numDigits_eq u hu1 hu64; split at this <;> omega
    have hal : Tryz.prog.arrayLen 227 = 24 := by simp [Program.arrayLen, Tryz.underlying227]
    have hsl : ∀ W, (Instr.sliceAt 227 (.pointer (some ⟨w.heap.size, 0, none⟩)) none (some (.int .i64 (Lib.nDigits u : Int))) none).run Tryz.prog W = .ok (.slice (some ⟨w.heap.size, 0, none⟩) (Lib.nDigits u) 24) W := fun W => by
      rw [run_sliceAt_array_h W 227 ⟨w.heap.size, 0, none⟩ (by simp [Program.arrayLen, Program.elem, Tryz.underlying227]) .i64 (Lib.nDigits u : Int) (by omega) (by rw [hal]; omega)]
      go_simp
    have hH0 := Lib.holds_zero0 w 227 (Lib.nDigits u) (by omega)
    have hfmt := Tryz.internal_strconv_formatBase10 w.heap.size 0 24 u (Array.replicate (Lib.nDigits u) 0) (w.alloc (.cells Lib.zeros24 227)) hH0 (by rw [Array.size_replicate]; exact Lib.lt_pow_nDigits u) hu64 (by rw [Array.size_replicate]; omega)
    rw [Array.size_replicate] at hfmt
    have HH0 := Lib.hid hH0
    clear hH0 hal
    go_enter Tryz.func191, Tryz.ntmps191
    go_wp2_with (go_at_call 186; refine (Tryz.internal_strconv_numDigits u hu1 hu64 _ (Lib.tabIs_alloc htab _)).mono ?_; rintro e w' ⟨rfl, rfl⟩)
    refine hfmt.mono ?_
    rintro e w' ⟨rfl, k, v', dk, rfl, hF⟩
    have hcv : (convert 46 9 (.slice (some ⟨w.heap.size, 0, none⟩) (Lib.nDigits u) 24)).run Tryz.prog ((putRow (fun (b : UInt8) => Value.int .u8 (b.toNat : Int)) (w.alloc (.cells Lib.zeros24 227)) w.heap.size 0 dk).drewN k) = .ok (.string ⟨(Lib.decDigits u).toArray⟩) ((putRow (fun (b : UInt8) => Value.int .u8 (b.toNat : Int)) (w.alloc (.cells Lib.zeros24 227)) w.heap.size 0 dk).drewN k) := by
      have h := run_convert_bytes_back (P := Tryz.prog) ((putRow (fun (b : UInt8) => Value.int .u8 (b.toNat : Int)) (w.alloc (.cells Lib.zeros24 227)) w.heap.size 0 dk).drewN k) 46 9 5 ⟨w.heap.size, 0, none⟩ 24 (Lib.decDigits u) Tryz.underlying46 Tryz.underlying5 Tryz.underlying9 (fun j hj => by
        rw [Lib.row_is_numeral hF j hj, Lib.add_plain, World.cell?_drewN]
        exact cell?_putRow (fun (b : UInt8) => Value.int .u8 (b.toNat : Int)) _ w.heap.size 0 _ dk HH0.out (by rw [hF.size, Array.size_replicate]) j (by rw [hF.size]; rw [Lib.decDigits_length] at hj; exact hj))
      rw [Lib.decDigits_length] at h
      exact h
    go_wp2_with fail
    go_ret
    obtain ⟨os, eo⟩ := Lib.fin_at w (.cells Lib.zeros24 227) dk k 0
    refine ⟨rfl, ?_⟩
    rw [eo]
    exact Bgrow w k os
theorem formatUint_any (B : Nat) (u : Nat) (hu64 : u < 18446744073709551616) (w : World) (hT : LNum B w) :
    Calls Tryz.prog 153 #[.int .u64 u, .int .i64 10] w fun e w' => e = .returned (S (Lib.itoa u)) ∧ Below w.heap.size w w' := by
  have h := formatUintI_any u hu64 w hT.tab
  rw [show Lib.decDigits u = Lib.itoa u from (Lib.itoa_nonneg u).symm] at h
  go_enter Tryz.func153, Tryz.ntmps153
  go_wp2_with fail
  refine h.mono ?_
  rintro e w1 ⟨rfl, hb⟩
  go_wp2_with fail
  go_ret
  exact ⟨rfl, hb⟩
end Go.Proofs.YtlfkjbdkbdcdnaaGreatDoor
namespace Go.Proofs
open Go.Shelf
def Tryz.lays156_ren : Go.Shelf.Ren := ⟨fun | 156 => 117 | 165 => 150 | 166 => 151 | 169 => 152 | 240 => 189 | 241 => 190 | 276 => 230 | 277 => 231 | n => n, fun | 31 => 107 | 9 => 9 | 3 => 3 | 4 => 4 | 0 => 0 | 20 => 20 | 72 => 189 | 76 => 161 | 70 => 187 | 37 => 46 | 75 => 27 | 127 => 231 | 164 => 194 | 5 => 5 | 80 => 191 | n => n, fun | n => n⟩
theorem Tryz.lays156 : Go.Proofs.Lays.n156 Tryz.prog Tryz.lays156_ren := {
  mixed := by kernel_rfl
  f156 := Tryz.func117.trans (congrArg some (by kernel_rfl))
  f165 := Tryz.func150.trans (congrArg some (by kernel_rfl))
  f166 := Tryz.func151.trans (congrArg some (by kernel_rfl))
  f169 := Tryz.func152.trans (congrArg some (by kernel_rfl))
  f240 := Tryz.func189.trans (congrArg some (by kernel_rfl))
  f241 := Tryz.func190.trans (congrArg some (by kernel_rfl))
  f276 := Tryz.func230.trans (congrArg some (by kernel_rfl))
  f277 := Tryz.func231.trans (congrArg some (by kernel_rfl))
  t0 := Tryz.underlying0
  a0 := Tryz.isAgg0
  z0 := Tryz.sizeOf0
  v0 := Tryz.zeroValue0
  t3 := Tryz.underlying3
  a3 := Tryz.isAgg3
  z3 := Tryz.sizeOf3
  v3 := Tryz.zeroValue3
  t4 := Tryz.underlying4
  a4 := Tryz.isAgg4
  z4 := Tryz.sizeOf4
  v4 := Tryz.zeroValue4
  t9 := Tryz.underlying9
  a9 := Tryz.isAgg9
  z9 := Tryz.sizeOf9
  v9 := Tryz.zeroValue9
  t20 := Tryz.underlying20
  a20 := Tryz.isAgg20
  z20 := Tryz.sizeOf20
  v20 := Tryz.zeroValue20
  t31 := Tryz.underlying107
  a31 := Tryz.isAgg107
  z31 := Tryz.sizeOf107
  v31 := Tryz.zeroValue107
  t37 := Tryz.underlying46
  a37 := Tryz.isAgg46
  z37 := Tryz.sizeOf46
  v37 := Tryz.zeroValue46
  t70 := Tryz.underlying187
  a70 := Tryz.isAgg187
  z70 := Tryz.sizeOf187
  v70 := Tryz.zeroValue187
  t72 := Tryz.underlying189
  a72 := Tryz.isAgg189
  z72 := Tryz.sizeOf189
  v72 := Tryz.zeroValue189
  t75 := Tryz.underlying27
  a75 := Tryz.isAgg27
  z75 := Tryz.sizeOf27
  v75 := Tryz.zeroValue27
  t76 := Tryz.underlying161
  a76 := Tryz.isAgg161
  z76 := Tryz.sizeOf161
  v76 := Tryz.zeroValue161
  t127 := Tryz.underlying231
  a127 := Tryz.isAgg231
  z127 := Tryz.sizeOf231
  v127 := Tryz.zeroValue231
  t164 := Tryz.underlying194
  a164 := Tryz.isAgg194
  z164 := Tryz.sizeOf194
  v164 := Tryz.zeroValue194 }
theorem Tryz.Builder_Extra_156 : Builder.Extra Tryz.prog Tryz.lays156_ren := {
  sizeBuilder := by kernel_rfl
  liesBuilder := by kernel_rfl
  t5 := Tryz.underlying5
  a5 := Tryz.isAgg5
  z5 := Tryz.sizeOf5
  v5 := Tryz.zeroValue5
  infoByte := by kernel_rfl
  cellsByte := by kernel_rfl
  sizeByte := by kernel_rfl
  neB5 := by decide }
open Go.RowKit in
theorem Tryz.strings_Join_none (a : Option Addr) (c : Nat) (sep : ByteArray) (w : World) :
    Calls Tryz.prog 117 #[.slice a 0 c, .string sep] w fun e w' => e = .returned (.string ⟨#[]⟩) ∧ w' = w := Any.strings_Join_none Tryz.lays156 Tryz.Builder_Extra_156 a c sep w
open Go.RowKit in
theorem Tryz.strings_Join (bk o c : Nat) (xs : List ByteArray) (sep : ByteArray) (w : World) (hcells : ∀ (j : Nat) x, xs[j]? = some x → w.cell? ⟨bk, o + j, none⟩ = some (.string x)) (hbk : bk < w.heap.size) (hN : xs.length ≤ 140737488355328) (hcap : xs.length ≤ c) (hlen : (Lib.join (xs.map (·.data.toList)) sep.data.toList).length ≤ 140737488355328) :
    Calls Tryz.prog 117 #[.slice (some ⟨bk, o, none⟩) xs.length c, .string sep] w fun e w' => e = .returned (.string ⟨(Lib.join (xs.map (·.data.toList)) sep.data.toList).toArray⟩) ∧ Below w.heap.size w w' := Any.strings_Join Tryz.lays156 Tryz.Builder_Extra_156 bk o c xs sep w hcells hbk hN hcap hlen
def Tryz.lays189_ren : Go.Shelf.Ren := ⟨fun | 189 => 147 | 125 => 111 | 257 => 184 | 128 => 143 | 129 => 144 | 294 => 218 | 295 => 219 | 296 => 220 | 297 => 221 | 298 => 222 | 299 => 223 | 216 => 120 | 300 => 224 | 301 => 225 | 328 => 243 | 329 => 179 | 330 => 180 | 331 => 244 | 332 => 245 | 215 => 156 | 343 => 253 | n => n, fun | 28 => 39 | 3 => 3 | 46 => 139 | 0 => 0 | 51 => 72 | 53 => 184 | 4 => 4 | 183 => 177 | 182 => 176 | 131 => 113 | 5 => 5 | 9 => 9 | 218 => 219 | 222 => 223 | 228 => 264 | 229 => 118 | n => n, fun | n => n⟩
theorem Tryz.lays189 : Go.Proofs.Lays.n189 Tryz.prog Tryz.lays189_ren := {
  mixed := by kernel_rfl
  f125 := Tryz.func111.trans (congrArg some (by kernel_rfl))
  f128 := Tryz.func143.trans (congrArg some (by kernel_rfl))
  f129 := Tryz.func144.trans (congrArg some (by kernel_rfl))
  f189 := Tryz.func147.trans (congrArg some (by kernel_rfl))
  f215 := Tryz.func156.trans (congrArg some (by kernel_rfl))
  f216 := Tryz.func120.trans (congrArg some (by kernel_rfl))
  f257 := Tryz.func184.trans (congrArg some (by kernel_rfl))
  f294 := Tryz.func218.trans (congrArg some (by kernel_rfl))
  f295 := Tryz.func219.trans (congrArg some (by kernel_rfl))
  f296 := Tryz.func220.trans (congrArg some (by kernel_rfl))
  f297 := Tryz.func221.trans (congrArg some (by kernel_rfl))
  f298 := Tryz.func222.trans (congrArg some (by kernel_rfl))
  f299 := Tryz.func223.trans (congrArg some (by kernel_rfl))
  f300 := Tryz.func224.trans (congrArg some (by kernel_rfl))
  f301 := Tryz.func225.trans (congrArg some (by kernel_rfl))
  f328 := Tryz.func243.trans (congrArg some (by kernel_rfl))
  f329 := Tryz.func179.trans (congrArg some (by kernel_rfl))
  f330 := Tryz.func180.trans (congrArg some (by kernel_rfl))
  f331 := Tryz.func244.trans (congrArg some (by kernel_rfl))
  f332 := Tryz.func245.trans (congrArg some (by kernel_rfl))
  f343 := Tryz.func253.trans (congrArg some (by kernel_rfl))
  t0 := Tryz.underlying0
  a0 := Tryz.isAgg0
  z0 := Tryz.sizeOf0
  v0 := Tryz.zeroValue0
  t3 := Tryz.underlying3
  a3 := Tryz.isAgg3
  z3 := Tryz.sizeOf3
  v3 := Tryz.zeroValue3
  t4 := Tryz.underlying4
  a4 := Tryz.isAgg4
  z4 := Tryz.sizeOf4
  v4 := Tryz.zeroValue4
  t5 := Tryz.underlying5
  a5 := Tryz.isAgg5
  z5 := Tryz.sizeOf5
  v5 := Tryz.zeroValue5
  t9 := Tryz.underlying9
  a9 := Tryz.isAgg9
  z9 := Tryz.sizeOf9
  v9 := Tryz.zeroValue9
  t28 := Tryz.underlying39
  a28 := Tryz.isAgg39
  z28 := Tryz.sizeOf39
  v28 := Tryz.zeroValue39
  t46 := Tryz.underlying139
  a46 := Tryz.isAgg139
  z46 := Tryz.sizeOf139
  v46 := Tryz.zeroValue139
  t51 := Tryz.underlying72
  a51 := Tryz.isAgg72
  z51 := Tryz.sizeOf72
  v51 := Tryz.zeroValue72
  t53 := Tryz.underlying184
  a53 := Tryz.isAgg184
  z53 := Tryz.sizeOf184
  v53 := Tryz.zeroValue184
  t131 := Tryz.underlying113
  a131 := Tryz.isAgg113
  z131 := Tryz.sizeOf113
  v131 := Tryz.zeroValue113
  t182 := Tryz.underlying176
  a182 := Tryz.isAgg176
  z182 := Tryz.sizeOf176
  v182 := Tryz.zeroValue176
  t183 := Tryz.underlying177
  a183 := Tryz.isAgg177
  z183 := Tryz.sizeOf177
  v183 := Tryz.zeroValue177
  t218 := Tryz.underlying219
  a218 := Tryz.isAgg219
  z218 := Tryz.sizeOf219
  v218 := Tryz.zeroValue219
  t222 := Tryz.underlying223
  a222 := Tryz.isAgg223
  z222 := Tryz.sizeOf223
  v222 := Tryz.zeroValue223
  t228 := Tryz.underlying264
  a228 := Tryz.isAgg264
  z228 := Tryz.sizeOf264
  v228 := Tryz.zeroValue264
  t229 := Tryz.underlying118
  a229 := Tryz.isAgg118
  z229 := Tryz.sizeOf118
  v229 := Tryz.zeroValue118 }
open Go.Sort Go.RowKit in
theorem Tryz.slices_Sort_int (blk off cap : Nat) (zs : List Int) (w : World) (hH : Holds (Value.int .i64) w blk off zs.toArray) (hblk : blk < w.heap.size) (hsz : zs.length < 4611686018427387904) :
    Calls Tryz.prog 147 #[.slice (some ⟨blk, off, none⟩) zs.length cap] w fun e w' =>
      e = .returned (.tuple #[]) ∧ ∃ n os, w' = grow (putRow (Value.int .i64) (Sort.ahead w n) blk off (zs.mergeSort fun x y => decide (x ≤ y)).toArray) os := Any.slices_Sort_int Tryz.lays189 blk off cap zs w hH hblk hsz
def Tryz.lays113_ren : Go.Shelf.Ren := ⟨fun | 113 => 105 | n => n, fun | 28 => 39 | 3 => 3 | 4 => 4 | 9 => 9 | 20 => 20 | 0 => 0 | n => n, fun | n => n⟩
theorem Tryz.lays113 : Go.Proofs.Lays.n113 Tryz.prog Tryz.lays113_ren := {
  mixed := by kernel_rfl
  f113 := Tryz.func105.trans (congrArg some (by kernel_rfl))
  t0 := Tryz.underlying0
  a0 := Tryz.isAgg0
  z0 := Tryz.sizeOf0
  v0 := Tryz.zeroValue0
  t3 := Tryz.underlying3
  a3 := Tryz.isAgg3
  z3 := Tryz.sizeOf3
  v3 := Tryz.zeroValue3
  t4 := Tryz.underlying4
  a4 := Tryz.isAgg4
  z4 := Tryz.sizeOf4
  v4 := Tryz.zeroValue4
  t9 := Tryz.underlying9
  a9 := Tryz.isAgg9
  z9 := Tryz.sizeOf9
  v9 := Tryz.zeroValue9
  t20 := Tryz.underlying20
  a20 := Tryz.isAgg20
  z20 := Tryz.sizeOf20
  v20 := Tryz.zeroValue20
  t28 := Tryz.underlying39
  a28 := Tryz.isAgg39
  z28 := Tryz.sizeOf39
  v28 := Tryz.zeroValue39 }
open Go.Lib in
theorem Tryz.slices_Max_int (b off n c : Nat) (zs : List Int) (w : World) (hn : 0 < n) (hz : n ≤ zs.length) (hbig : n ≤ 9223372036854775807) (hc : ∀ j, j < zs.length → w.cell? ⟨b, off + j, none⟩ = some (.int .i64 (zs.getD j 0))) :
    Calls Tryz.prog 105 #[.slice (some ⟨b, off, none⟩) n c] w fun e w' => e = .returned (.int .i64 (Lib.maxOf (zs.take n))) ∧ w' = w := Any.slices_Max_int Tryz.lays113 b off n c zs w hn hz hbig hc
def Tryz.lays114_ren : Go.Shelf.Ren := ⟨fun | 114 => 104 | n => n, fun | 28 => 39 | 3 => 3 | 4 => 4 | 9 => 9 | 20 => 20 | 0 => 0 | n => n, fun | n => n⟩
theorem Tryz.lays114 : Go.Proofs.Lays.n114 Tryz.prog Tryz.lays114_ren := {
  mixed := by kernel_rfl
  f114 := Tryz.func104.trans (congrArg some (by kernel_rfl))
  t0 := Tryz.underlying0
  a0 := Tryz.isAgg0
  z0 := Tryz.sizeOf0
  v0 := Tryz.zeroValue0
  t3 := Tryz.underlying3
  a3 := Tryz.isAgg3
  z3 := Tryz.sizeOf3
  v3 := Tryz.zeroValue3
  t4 := Tryz.underlying4
  a4 := Tryz.isAgg4
  z4 := Tryz.sizeOf4
  v4 := Tryz.zeroValue4
  t9 := Tryz.underlying9
  a9 := Tryz.isAgg9
  z9 := Tryz.sizeOf9
  v9 := Tryz.zeroValue9
  t20 := Tryz.underlying20
  a20 := Tryz.isAgg20
  z20 := Tryz.sizeOf20
  v20 := Tryz.zeroValue20
  t28 := Tryz.underlying39
  a28 := Tryz.isAgg39
  z28 := Tryz.sizeOf39
  v28 := Tryz.zeroValue39 }
open Go.Lib in
theorem Tryz.slices_Min_int (b off n c : Nat) (zs : List Int) (w : World) (hn : 0 < n) (hz : n ≤ zs.length) (hbig : n ≤ 9223372036854775807) (hc : ∀ j, j < zs.length → w.cell? ⟨b, off + j, none⟩ = some (.int .i64 (zs.getD j 0))) :
    Calls Tryz.prog 104 #[.slice (some ⟨b, off, none⟩) n c] w fun e w' => e = .returned (.int .i64 (Lib.minOf (zs.take n))) ∧ w' = w := Any.slices_Min_int Tryz.lays114 b off n c zs w hn hz hbig hc
def Tryz.laysNm220_ren : Go.Shelf.Ren := ⟨fun | 20 => 115 | n => n, fun | 22 => 39 | 3 => 3 | 4 => 4 | 0 => 0 | n => n, fun | n => n⟩
theorem Tryz.laysNm220 : Go.Proofs.Lays2.n20 Tryz.prog Tryz.laysNm220_ren := {
  mixed := by kernel_rfl
  f20 := Tryz.func115.trans (congrArg some (by kernel_rfl))
  t0 := Tryz.underlying0
  a0 := Tryz.isAgg0
  z0 := Tryz.sizeOf0
  v0 := Tryz.zeroValue0
  t3 := Tryz.underlying3
  a3 := Tryz.isAgg3
  z3 := Tryz.sizeOf3
  v3 := Tryz.zeroValue3
  t4 := Tryz.underlying4
  a4 := Tryz.isAgg4
  z4 := Tryz.sizeOf4
  v4 := Tryz.zeroValue4
  t22 := Tryz.underlying39
  a22 := Tryz.isAgg39
  z22 := Tryz.sizeOf39
  v22 := Tryz.zeroValue39
  i3 := by kernel_rfl }
open Go.RowKit Go.Lib Go.Sort in
theorem Tryz.slices_Compact_int (blk off cap : Nat) (zs : List Int) (w : World) (hH : Holds (Value.int .i64) w blk off zs.toArray) (hsz : zs.length ≤ 9223372036854775807) (hcap : zs.length ≤ cap) :
    Calls Tryz.prog 115 #[.slice (some ⟨blk, off, none⟩) zs.length cap] w fun e w' => e = .returned (.slice (some ⟨blk, off, none⟩) (Lib.compact zs).length cap) ∧ ∃ q, w' = putRow (Value.int .i64) (Sort.ahead w q) blk off (Lib.compact zs ++ List.replicate (zs.length - (Lib.compact zs).length) 0).toArray := Any.slices_Compact_int Tryz.laysNm220 blk off cap zs w hH hsz hcap
open Go.RowKit Go.Lib Go.Sort in
theorem Tryz.slices_Compact_int_empty (a : Option Addr) (cap : Nat) (w : World) :
    Calls Tryz.prog 115 #[.slice a 0 cap] w fun e w' => e = .returned (.slice a 0 cap) ∧ w' = w := Any.slices_Compact_int_empty Tryz.laysNm220 a cap w
def Tryz.laysNm225_ren : Go.Shelf.Ren := ⟨fun | 25 => 72 | 31 => 120 | 32 => 121 | 37 => 156 | n => n, fun | 22 => 39 | 3 => 3 | 4 => 4 | 40 => 139 | 0 => 0 | n => n, fun | n => n⟩
theorem Tryz.laysNm225 : Go.Proofs.Lays2.n25 Tryz.prog Tryz.laysNm225_ren := {
  mixed := by kernel_rfl
  f25 := Tryz.func72.trans (congrArg some (by kernel_rfl))
  f31 := Tryz.func120.trans (congrArg some (by kernel_rfl))
  f32 := Tryz.func121.trans (congrArg some (by kernel_rfl))
  f37 := Tryz.func156.trans (congrArg some (by kernel_rfl))
  t0 := Tryz.underlying0
  a0 := Tryz.isAgg0
  z0 := Tryz.sizeOf0
  v0 := Tryz.zeroValue0
  t3 := Tryz.underlying3
  a3 := Tryz.isAgg3
  z3 := Tryz.sizeOf3
  v3 := Tryz.zeroValue3
  t4 := Tryz.underlying4
  a4 := Tryz.isAgg4
  z4 := Tryz.sizeOf4
  v4 := Tryz.zeroValue4
  t22 := Tryz.underlying39
  a22 := Tryz.isAgg39
  z22 := Tryz.sizeOf39
  v22 := Tryz.zeroValue39
  t40 := Tryz.underlying139
  a40 := Tryz.isAgg139
  z40 := Tryz.sizeOf139
  v40 := Tryz.zeroValue139 }
open Go.RowKit Go.Lib in
theorem Tryz.slices_BinarySearch_int (b off n c : Nat) (zs : List Int) (x : Int) (w : World) (hz : n ≤ zs.length) (hbig : n < 4611686018427387904) (hc : ∀ j, j < zs.length → w.cell? ⟨b, off + j, none⟩ = some (.int .i64 (zs.getD j 0))) (hs : (zs.take n).Pairwise (· ≤ ·)) :
    Calls Tryz.prog 72 #[.slice (some ⟨b, off, none⟩) n c, .int .i64 x] w fun e w' => e = .returned (.tuple #[.int .i64 ((zs.take n).countP (· < x) : Nat), .bool ((zs.take n).contains x)]) ∧ ∃ q, w' = w.drewN q := Any.slices_BinarySearch_int Tryz.laysNm225 b off n c zs x w hz hbig hc hs
open Go.RowKit Go.Sort in
theorem Tryz.slices_Sort_int_none (p : Option Addr) (cap : Nat) (w : World) :
    Calls Tryz.prog 147 #[.slice p 0 cap] w fun e w' => e = .returned (.tuple #[]) ∧ w' = w := Any.slices_Sort_int_none Tryz.lays189 p cap w
open Go.RowKit Go.Lib in
theorem Tryz.slices_BinarySearch_int_empty (a : Option Addr) (c : Nat) (x : Int) (w : World) :
    Calls Tryz.prog 72 #[.slice a 0 c, .int .i64 x] w fun e w' => e = .returned (.tuple #[.int .i64 0, .bool false]) ∧ w' = w := Any.slices_BinarySearch_int_empty Tryz.laysNm225 a c x w
end Go.Proofs
