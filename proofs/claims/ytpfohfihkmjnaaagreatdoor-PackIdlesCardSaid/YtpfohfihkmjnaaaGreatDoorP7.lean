/- Files of keys in plain words: a head and lines; what is made, what is read; the two agree. A row of elements of any size that the call owns: copied into, an element written, appended to within its capacity. Of no program. A struct of six cells written cell by cell; a result that lies in a block. Of no program. data.table, data.Sum: the walks: the table has of each byte what its bits make; the sum is the sum in plain words. strconv.FormatUint in base ten: the walk. strings.Split by one byte; slices of slices. strings.Trim to nothing, in plain words. -/
import Derived.Test.YtpfohfihkmjnaaaGreatDoorP6
import Derived.Test.YtpfohfihkmjnaaaGreatDoorP5
import Derived.Test.YtpfohfihkmjnaaaGreatDoorP2
import Derived.Laws.CopyRow
import Derived.Laws.CopyOwn
import Derived.Lib.AppendZeros
import Derived.Lib.Overlaps
import Derived.Laws.ResultCell
import Derived.Laws.Rows
import Derived.Test.YtpfohfihkmjnaaaGreatDoorP3
import Derived.Deep.WholeRow
import Derived.Laws.Tables
import Derived.Laws.BitsAll
import Derived.Outline
import Derived.Lib.AppendIntMem
import Derived.Test.YtpfohfihkmjnaaaGreatDoorP1
import Derived.Shelf.Strings.SlTrimAscii
namespace Go.Proofs.YtpfohfihkmjnaaaGreatDoor
open Go.RowKit

/-- The numbers of a head, of a word. -/
def headN (word s : Str) : Option (List Int) :=
  if (Lib.cut s [10]).2.2 = true then
    match cutAt 32 (Lib.cut s [10]).1 with
    | [t, a, b, c, d] => if t = word then numsOf [a, b, c, d] else none
    | _ => none
  else none
def splitE (word s : Str) : Er :=
  if 20000 < s.length then .bare 2 else
  match headN word s with
  | none => .bare 1
  | some n => if n.getD 3 0 = (sumOf (Lib.cut s [10]).2.1 : Int) then .nil else .bare 10
def splitN (word s : Str) : List Int := (headN word s).getD []
def splitL (s : Str) : List Str := cutAt 10 (Lib.cut s [10]).2.1
/-- A line's fault: the last one is empty. -/
def lineF (bad : Nat → Nat) (ls : List Str) (i : Nat) : Nat := if i + 1 = ls.length then (if ls[i]? = some [] then 0 else 1) else bad i
def eachEr (bad : Nat → Nat) (ls : List Str) : Er := firstErr (lineF bad ls) ls.length
def fitsI (n keys : List Int) : Prop := n.getD 0 0 = keys.length ∧ n.getD 1 0 = (endsI keys).1 ∧ n.getD 2 0 = (endsI keys).2
instance (n keys : List Int) : Decidable (fitsI n keys) := by unfold fitsI; infer_instance
/-- What a reading of a block answers. -/
def readEr (word s : Str) (bad : List Str → Nat → Nat) (keys : List Str → List Int) : Er :=
  if splitE word s ≠ .nil then splitE word s
  else if eachEr (bad (splitL s)) (splitL s) ≠ .nil then eachEr (bad (splitL s)) (splitL s)
  else if 40 < (keys (splitL s).dropLast).length then .bare 8
  else if fitsI (splitN word s) (keys (splitL s).dropLast) then .nil else .bare 3

theorem cut_true {c : UInt8} {s : Str} (h : (Lib.cut s [c]).2.2 = true) : s = (Lib.cut s [c]).1 ++ c :: (Lib.cut s [c]).2.1 ∧ c ∉ (Lib.cut s [c]).1 := by
  by_cases hc : c ∈ s
  · obtain ⟨p, q, e, hp⟩ := first_at hc
    have h1 := cut_app1 (c := c) (q := q) hp
    rw [← e] at h1
    rw [h1]
    exact ⟨e, hp⟩
  · rw [cut_none1 hc] at h; cases h
theorem numsOf_inv : ∀ {l : List Str} {ns : List Int}, numsOf l = some ns → l = ns.map Lib.itoa
  | [], ns, h => by
    have : ns = [] := by simpa [numsOf] using h.symm
    rw [this]; rfl
  | a :: r, ns, h => by
    unfold numsOf at h
    rw [List.mapM_cons] at h
    cases ha : numOf a with
    | none => rw [ha] at h; cases h
    | some x =>
      rw [ha] at h
      cases hr : r.mapM numOf with
      | none => rw [hr] at h; cases h
      | some xs =>
        rw [hr] at h
        have e : ns = x :: xs := (Option.some.inj h).symm
        rw [e, List.map_cons, ((numOf_iff a x).1 ha).2, ← numsOf_inv (l := r) (ns := xs) hr]
theorem headN_some {word s : Str} {n : List Int} (h : headN word s = some n) : ∃ n0 n1 n2 n3, n = [n0, n1, n2, n3] ∧ s = headT word n0 n1 n2 n3 ++ 10 :: (Lib.cut s [10]).2.1 ∧ (10 : UInt8) ∉ headT word n0 n1 n2 n3 := by
  unfold headN at h
  split at h
  · rename_i hc
    obtain ⟨e, hn⟩ := cut_true hc
    split at h
    · rename_i t a b c d hcut
      split at h
      · rename_i ht
        subst ht
        have hl := mapM_len _ h
        have hi := numsOf_inv h
        match n, hl with
        | [n0, n1, n2, n3], _ =>
          have hj := join_cut 32 (Lib.cut s [10]).1
          rw [hcut, hi, joinC_itoa] at hj
          refine ⟨n0, n1, n2, n3, rfl, ?_, ?_⟩
          · unfold headT
            rw [hj]; exact e
          · unfold headT
            rw [hj]; exact hn
      · cases h
    · cases h
  · cases h
theorem joinC_body : ∀ ls : List Str, joinC 10 (ls ++ [[]]) = bodyT ls
  | [] => rfl
  | x :: r => by
    have ih := joinC_body r
    have : bodyT (x :: r) = x ++ 10 :: bodyT r := by simp [bodyT]
    rw [this, ← ih]
    cases r with
    | nil => rfl
    | cons y t => rfl
theorem cutAt_clean {c : UInt8} : ∀ {s p : Str}, p ∈ cutAt c s → c ∉ p
  | [], p, h => by
    rw [show p = [] by simpa [cutAt] using h]; simp
  | x :: r, p, h => by
    have ih := fun q hq => cutAt_clean (c := c) (s := r) (p := q) hq
    unfold cutAt at h
    split at h
    · rcases List.mem_cons.1 h with rfl | h
      · simp
      · exact ih p h
    · rename_i hx
      cases hc : cutAt c r with
      | nil => exact absurd hc (cutAt_ne c r)
      | cons a t =>
        rw [hc] at h ih
        rcases List.mem_cons.1 h with rfl | h
        · intro hm
          rcases List.mem_cons.1 hm with e | e
          · exact hx e.symm
          · exact ih a (by simp) e
        · exact ih p (by simp [h])
theorem eachEr_last {bad : Nat → Nat} {ls : List Str} (hne : ls ≠ []) (h : eachEr bad ls = .nil) : ls = ls.dropLast ++ [[]] ∧ ∀ i, i + 1 < ls.length → bad i = 0 := by
  have hz := firstErr_nil h
  have hpos : 0 < ls.length := List.length_pos_iff.2 hne
  constructor
  · have h1 := hz (ls.length - 1) (by omega)
    unfold lineF at h1
    rw [if_pos (by omega)] at h1
    split at h1
    · rename_i h2
      have h3 : ls.getLast hne = [] := by
        rw [List.getLast_eq_getElem]
        obtain ⟨_, h4⟩ := List.getElem?_eq_some_iff.1 h2
        exact h4
      conv => lhs; rw [← List.dropLast_concat_getLast hne, h3]
    · cases h1
  · intro i hi
    have h1 := hz i (by omega)
    unfold lineF at h1
    rwa [if_neg (by omega)] at h1
/-- WHAT IS READ WITHOUT AN ERROR IS A BLOCK's TEXT. -/
theorem readEr_text {word s : Str} {bad : List Str → Nat → Nat} {keys : List Str → List Int} (h : readEr word s bad keys = .nil) :
    s = wholeT word (keys (splitL s).dropLast) (bodyT (splitL s).dropLast) ∧ splitL s = (splitL s).dropLast ++ [[]] ∧ (∀ x ∈ (splitL s).dropLast, (10 : UInt8) ∉ x) ∧ (∀ i, i + 1 < (splitL s).length → bad (splitL s) i = 0) ∧ (keys (splitL s).dropLast).length ≤ 40 := by
  unfold readEr at h
  by_cases h1 : splitE word s = .nil
  case neg => rw [if_pos h1] at h; exact absurd h h1
  rw [if_neg (by simpa using h1)] at h
  by_cases h2 : eachEr (bad (splitL s)) (splitL s) = .nil
  case neg => rw [if_pos h2] at h; exact absurd h h2
  rw [if_neg (by simpa using h2)] at h
  by_cases h3 : 40 < (keys (splitL s).dropLast).length
  · rw [if_pos h3] at h; cases h
  rw [if_neg h3] at h
  by_cases h4 : fitsI (splitN word s) (keys (splitL s).dropLast)
  case neg => rw [if_neg h4] at h; cases h
  have hne : splitL s ≠ [] := cutAt_ne 10 _
  obtain ⟨e1, e2⟩ := eachEr_last hne h2
  refine ⟨?_, e1, fun x hx => cutAt_clean ((List.dropLast_subset _) hx), e2, by omega⟩
  unfold splitE at h1
  split at h1
  · cases h1
  cases hn : headN word s with
  | none => rw [hn] at h1; cases h1
  | some n =>
    rw [hn] at h1
    obtain ⟨n0, n1, n2, n3, rfl, hs, -⟩ := headN_some hn
    simp only at h1
    split at h1
    · rename_i hsum
      have hb : (Lib.cut s [10]).2.1 = bodyT (splitL s).dropLast := by
        have h := join_cut 10 (Lib.cut s [10]).2.1
        have e1' : cutAt 10 (Lib.cut s [10]).2.1 = (splitL s).dropLast ++ [[]] := e1
        rw [e1', joinC_body] at h
        exact h.symm
      have hN : splitN word s = [n0, n1, n2, n3] := by unfold splitN; rw [hn]; rfl
      rw [hN] at h4
      obtain ⟨f0, f1, f2⟩ := h4
      simp only [List.getD_cons_zero, List.getD_cons_succ] at f0 f1 f2 hsum
      rw [hb] at hs hsum
      rw [f0, f1, f2, hsum] at hs
      exact hs
    · cases h1
/-- What is a block's text is read, where its lines are right. -/
theorem readEr_of {word : Str} {ls : List Str} {bad : List Str → Nat → Nat} {keys : List Str → List Int} (hw : (32 : UInt8) ∉ word) (hw10 : (10 : UInt8) ∉ word) (h10 : ∀ x ∈ ls, (10 : UInt8) ∉ x) (hlen : (wholeT word (keys ls) (bodyT ls)).length ≤ 20000)
    (hk : (keys ls).length ≤ 40) (hend : -10000000000 < (endsI (keys ls)).1 ∧ (endsI (keys ls)).1 < 10000000000 ∧ -10000000000 < (endsI (keys ls)).2 ∧ (endsI (keys ls)).2 < 10000000000) (hbad : ∀ i, i < ls.length → bad (ls ++ [[]]) i = 0) :
    readEr word (wholeT word (keys ls) (bodyT ls)) bad keys = .nil ∧ splitL (wholeT word (keys ls) (bodyT ls)) = ls ++ [[]] := by
  obtain ⟨s, hs⟩ : ∃ s, wholeT word (keys ls) (bodyT ls) = s := ⟨_, rfl⟩
  have hcut : Lib.cut s [10] = (headT word (keys ls).length (endsI (keys ls)).1 (endsI (keys ls)).2 (sumOf (bodyT ls)), bodyT ls, true) := by
    rw [← hs]; exact cut_app1 (head_clean hw10 _ _ _ _)
  have hsum := sumOf_lt (bodyT ls)
  have hL : splitL s = ls ++ [[]] := by unfold splitL; rw [hcut]; exact cut_body h10
  have hN : headN word s = some [((keys ls).length : Int), (endsI (keys ls)).1, (endsI (keys ls)).2, (sumOf (bodyT ls) : Int)] := by
    unfold headN
    rw [hcut]
    simp only [if_true, blk_cut_head hw]
    have := numsOf_map [((keys ls).length : Int), (endsI (keys ls)).1, (endsI (keys ls)).2, (sumOf (bodyT ls) : Int)] (fun x hx => by
      simp only [List.mem_cons, List.mem_nil_iff, or_false] at hx
      rcases hx with rfl | rfl | rfl | rfl <;> omega)
    simpa using this
  rw [hs] at hlen ⊢
  refine ⟨?_, hL⟩
  have h1 : splitE word s = .nil := by
    unfold splitE
    rw [if_neg (by omega), hN]
    simp only [List.getD_cons_zero, List.getD_cons_succ]
    rw [hcut, if_pos rfl]
  have h2 : eachEr (bad (splitL s)) (splitL s) = .nil := by
    rw [hL]
    refine firstErr_all fun j hj => ?_
    unfold lineF
    split
    · rename_i h
      rw [if_pos]
      have : j = ls.length := by simpa using h
      rw [this]; simp
    · rename_i h
      refine hbad j ?_
      simp at hj h; omega
  unfold readEr
  rw [if_neg (by simpa using h1), if_neg (by simpa using h2), hL, List.dropLast_concat, if_neg (by omega), if_pos]
  unfold splitN
  rw [hN]
  exact ⟨rfl, rfl, rfl⟩

/-- A line's number. -/
def numD (s : Str) : Int := (numOf s).getD 0
def goneBad (ls : List Str) (i : Nat) : Nat :=
  match ls[i]? with
  | none => 0
  | some s => if (numOf s).isNone then 1 else if farN (numD s) then 2 else if 0 < i ∧ ∃ t, ls[i - 1]? = some t ∧ numD s ≤ numD t then 9 else 0
def goneE (s : Str) : Er := readEr kGone s goneBad (fun l => l.map numD)
def goneL (s : Str) : List Int := if goneE s = .nil then (splitL s).dropLast.map numD else []
/-- What is made of keys. -/
def farF (l : List Int) (i : Nat) : Nat := match l[i]? with | none => 0 | some k => if farN k then 2 else 0
def madeE (l : List Int) : Er := if 40 < (risOf l).length then .bare 8 else firstErr (farF l) l.length
def goneText (ks : List Int) : Str := wholeT kGone ks (bodyT (ks.map Lib.itoa))
def madeT (l : List Int) : Str := if madeE l = .nil then goneText (risOf l) else []

theorem fold_min : ∀ (l : List Int) (a : Int), l.foldl min a ∈ a :: l ∧ ∀ x ∈ a :: l, l.foldl min a ≤ x
  | [], a => by simp
  | x :: r, a => by
    obtain ⟨h1, h2⟩ := fold_min r (min a x)
    rw [List.foldl_cons]
    constructor
    · rcases List.mem_cons.1 h1 with e | e
      · rw [e]
        rcases Int.le_total a x with h | h
        · rw [Int.min_eq_left h]; simp
        · rw [Int.min_eq_right h]; simp
      · exact List.mem_cons_of_mem _ (List.mem_cons_of_mem _ e)
    · intro y hy
      have h3 := h2 (min a x) (by simp)
      rcases List.mem_cons.1 hy with rfl | hy
      · omega
      · rcases List.mem_cons.1 hy with rfl | hy
        · omega
        · exact h2 y (List.mem_cons_of_mem _ hy)
theorem fold_max : ∀ (l : List Int) (a : Int), l.foldl max a ∈ a :: l ∧ ∀ x ∈ a :: l, x ≤ l.foldl max a
  | [], a => by simp
  | x :: r, a => by
    obtain ⟨h1, h2⟩ := fold_max r (max a x)
    rw [List.foldl_cons]
    constructor
    · rcases List.mem_cons.1 h1 with e | e
      · rw [e]
        rcases Int.le_total a x with h | h
        · rw [Int.max_eq_right h]; simp
        · rw [Int.max_eq_left h]; simp
      · exact List.mem_cons_of_mem _ (List.mem_cons_of_mem _ e)
    · intro y hy
      have h3 := h2 (max a x) (by simp)
      rcases List.mem_cons.1 hy with rfl | hy
      · omega
      · rcases List.mem_cons.1 hy with rfl | hy
        · omega
        · exact h2 y (List.mem_cons_of_mem _ hy)
/-- The ends are among them, and bound them. -/
theorem ends_mem {l : List Int} (h : l ≠ []) : (endsI l).1 ∈ l ∧ (endsI l).2 ∈ l ∧ ∀ x ∈ l, (endsI l).1 ≤ x ∧ x ≤ (endsI l).2 := by
  unfold endsI
  rw [if_neg h]
  match l, h with
  | a :: r, _ =>
    obtain ⟨h1, h2⟩ := fold_min r a
    obtain ⟨h3, h4⟩ := fold_max r a
    have e1 : Lib.minOf (a :: r) = r.foldl min a := by show (a :: r).foldl min a = _; rw [List.foldl_cons, Int.min_self]
    have e2 : Lib.maxOf (a :: r) = r.foldl max a := by show (a :: r).foldl max a = _; rw [List.foldl_cons, Int.max_self]
    simp only [e1, e2]
    exact ⟨h1, h3, fun x hx => ⟨h2 x hx, h4 x hx⟩⟩
theorem ends_within {l : List Int} {B : Int} (hB : 0 ≤ B) (h : ∀ x ∈ l, -B ≤ x ∧ x ≤ B) : (-B ≤ (endsI l).1 ∧ (endsI l).1 ≤ B) ∧ (-B ≤ (endsI l).2 ∧ (endsI l).2 ≤ B) := by
  by_cases hl : l = []
  · rw [hl]; unfold endsI; simp; omega
  · obtain ⟨h1, h2, -⟩ := ends_mem hl
    exact ⟨h _ h1, h _ h2⟩
theorem numD_itoa {n : Int} (h : ¬ farN n) : numOf (Lib.itoa n) = some n ∧ numD (Lib.itoa n) = n := by
  have : numOf (Lib.itoa n) = some n := numOf_itoa' (by unfold farN at h; omega) (by unfold farN at h; omega)
  exact ⟨this, by unfold numD; rw [this]; rfl⟩
theorem map_numD {ks : List Int} (h : ∀ n ∈ ks, ¬ farN n) : (ks.map Lib.itoa).map numD = ks := by
  rw [List.map_map]
  conv => rhs; rw [← List.map_id ks]
  exact List.map_congr_left fun n hn => (numD_itoa (h n hn)).2
theorem gone_bad {ks : List Int} (hup : upI ks) (h : ∀ n ∈ ks, ¬ farN n) : ∀ i, i < (ks.map Lib.itoa).length → goneBad (ks.map Lib.itoa ++ [[]]) i = 0 := by
  intro i hi
  have hi' : i < ks.length := by simpa using hi
  unfold goneBad
  rw [List.getElem?_append_left hi, List.getElem?_map, List.getElem?_eq_getElem hi']
  simp only [Option.map_some]
  obtain ⟨e1, e2⟩ := numD_itoa (h _ (List.getElem_mem hi'))
  rw [e1, e2]
  simp only [Option.isNone_some, Bool.false_eq_true, if_false]
  rw [if_neg (h _ (List.getElem_mem hi')), if_neg]
  rintro ⟨h0, t, ht, hle⟩
  rw [List.getElem?_append_left (by omega), List.getElem?_map, List.getElem?_eq_getElem (show i - 1 < ks.length by omega)] at ht
  have : t = Lib.itoa (ks[i - 1]'(by omega)) := by simpa using ht.symm
  rw [this, (numD_itoa (h _ (List.getElem_mem (by omega)))).2] at hle
  have := List.pairwise_iff_getElem.1 hup (i - 1) i (by omega) hi' (by omega)
  omega
theorem itoa_clean (n : Int) : (10 : UInt8) ∉ Lib.itoa n := not_mem_itoa' (by decide) (by decide)
theorem body_len {m : Nat} : ∀ {ls : List Str}, (∀ s ∈ ls, s.length ≤ m) → (bodyT ls).length ≤ ls.length * (m + 1)
  | [], _ => by simp [bodyT]
  | s :: r, h => by
    have ih := body_len (ls := r) fun x hx => h x (by simp [hx])
    have h1 := h s (by simp)
    have : bodyT (s :: r) = s ++ 10 :: bodyT r := by simp [bodyT]
    rw [this]
    simp only [List.length_append, List.length_cons, Nat.add_mul, Nat.one_mul]
    omega
theorem blk_head_len {word : Str} (n lo hi sum : Int) (hw : word.length ≤ 10) (h0 : -9223372036854775808 ≤ n ∧ n ≤ 9223372036854775807) (h1 : -9223372036854775808 ≤ lo ∧ lo ≤ 9223372036854775807) (h2 : -9223372036854775808 ≤ hi ∧ hi ≤ 9223372036854775807) (h3 : -9223372036854775808 ≤ sum ∧ sum ≤ 9223372036854775807) : (headT word n lo hi sum).length ≤ 110 := by
  have l0 := itoa_len n h0.1 h0.2
  have l1 := itoa_len lo h1.1 h1.2
  have l2 := itoa_len hi h2.1 h2.2
  have l3 := itoa_len sum h3.1 h3.2
  unfold headT numsTail
  simp only [List.flatMap_cons, List.flatMap_nil, List.append_nil, List.length_append, List.length_cons]
  omega
theorem near {n : Int} (h : ¬ farN n) : -1073741824 ≤ n ∧ n ≤ 1073741824 := by unfold farN at h; omega
theorem goneText_len {ks : List Int} (h : ∀ n ∈ ks, ¬ farN n) (hk : ks.length ≤ 40) : (goneText ks).length ≤ 1100 := by
  have hs := sumOf_lt (bodyT (ks.map Lib.itoa))
  obtain ⟨e1, e2⟩ := ends_within (B := 1073741824) (by omega) fun x hx => near (h x hx)
  have h1 := blk_head_len (word := kGone) ks.length (endsI ks).1 (endsI ks).2 (sumOf (bodyT (ks.map Lib.itoa))) (by decide) (by omega) (by omega) (by omega) (by omega)
  have h2 := body_len (m := 21) (ls := ks.map Lib.itoa) fun s hs => by
    obtain ⟨n, hn, rfl⟩ := List.mem_map.1 hs
    have := near (h n hn)
    exact itoa_len n (by omega) (by omega)
  rw [List.length_map] at h2
  unfold goneText wholeT
  rw [List.length_append, List.length_cons]
  omega
theorem goneRead_text {ks : List Int} (hup : upI ks) (h : ∀ n ∈ ks, ¬ farN n) (hk : ks.length ≤ 40) : goneE (goneText ks) = .nil ∧ goneL (goneText ks) = ks := by
  have hm := map_numD h
  have hlen := goneText_len h hk
  unfold goneText at hlen
  have hr := readEr_of (word := kGone) (ls := ks.map Lib.itoa) (bad := goneBad) (keys := fun l => l.map numD) (by decide) (by decide) (fun x hx => by
      obtain ⟨n, -, rfl⟩ := List.mem_map.1 hx
      exact itoa_clean n) (by simp only [hm]; omega) (by simp only [hm]; exact hk) (by
      simp only [hm]
      obtain ⟨e1, e2⟩ := ends_within (B := 1073741824) (by omega) fun x hx => near (h x hx)
      omega) (gone_bad hup h)
  simp only [hm] at hr
  obtain ⟨h1, h2⟩ := hr
  have hE : goneE (goneText ks) = .nil := h1
  refine ⟨hE, ?_⟩
  unfold goneL
  rw [if_pos hE]
  unfold goneText
  rw [h2, List.dropLast_concat, hm]
/-- WHAT IS READ WITHOUT AN ERROR IS THE TEXT OF ITS KEYS. -/
theorem gone_text {s : Str} (h : goneE s = .nil) : s = goneText (goneL s) := by
  obtain ⟨e1, e2, -, e4, -⟩ := readEr_text h
  have hL : goneL s = (splitL s).dropLast.map numD := by unfold goneL; rw [if_pos h]
  have hlines : (goneL s).map Lib.itoa = (splitL s).dropLast := by
    rw [hL, List.map_map]
    apply List.ext_getElem?
    intro i
    rw [List.getElem?_map]
    rcases Nat.lt_or_ge i (splitL s).dropLast.length with hi | hi
    · rw [List.getElem?_eq_getElem hi]
      have hb := e4 i (by rw [List.length_dropLast] at hi; omega)
      have hg : (splitL s)[i]? = some (splitL s).dropLast[i] := by
        rw [List.getElem_dropLast, List.getElem?_eq_getElem]
      unfold goneBad at hb
      rw [hg] at hb
      simp only at hb
      cases hn : numOf (splitL s).dropLast[i] with
      | none => rw [hn] at hb; simp at hb
      | some k =>
        simp only [Option.map_some, Function.comp_apply]
        unfold numD
        rw [hn]
        simp only [Option.getD_some]
        rw [((numOf_iff _ k).1 hn).2]
    · rw [List.getElem?_eq_none hi]; rfl
  unfold goneText
  rw [hlines, hL]
  exact e1
theorem map_itoa_inj : ∀ {a b : List Int}, a.map Lib.itoa = b.map Lib.itoa → a = b
  | [], [], _ => rfl
  | x :: r, y :: t, h => by
    simp only [List.map_cons, List.cons.injEq] at h
    rw [itoa_inj' h.1, map_itoa_inj h.2]
/-- One byte another one: none. -/
theorem gone_one {ks : List Int} {i : Nat} {c x : UInt8} (hx : (goneText ks)[i]? = some x) (hne : x ≠ c) : goneE ((goneText ks).set i c) ≠ .nil := by
  intro h
  have e := gone_text h
  have hcl : ∀ (l : List Int), ∀ s ∈ l.map Lib.itoa, (10 : UInt8) ∉ s := fun l s hs => by
    obtain ⟨n, -, rfl⟩ := List.mem_map.1 hs
    exact itoa_clean n
  exact block_one (word := kGone) (by decide) (by decide) (by simp) (by simp) (hcl _) (hcl _) (fun e => map_itoa_inj e) hx hne e
theorem madeE_nil {l : List Int} (h : madeE l = .nil) : (risOf l).length ≤ 40 ∧ ∀ n ∈ risOf l, ¬ farN n := by
  unfold madeE at h
  split at h
  · cases h
  refine ⟨by omega, fun n hn hf => ?_⟩
  obtain ⟨j, hj, he⟩ := List.getElem_of_mem (mem_risOf.1 hn)
  have := firstErr_nil h j hj
  unfold farF at this
  rw [List.getElem?_eq_getElem hj, he] at this
  simp only at this
  rw [if_pos hf] at this
  cases this
end Go.Proofs.YtpfohfihkmjnaaaGreatDoor
namespace Go.Proofs.YtpfohfihkmjnaaaGreatDoor
open Go.RowKit

/-- The walk stops here. -/
theorem wpList_stop {P : Program} {w : World} {ops : Array Oper} {l : List Oper} {a : Act} {Q : Exit → Act → World → Prop} (h : wpList P ops Q l a w ∧ True) : wpList P ops Q l a w := h.1
theorem grown_setRow (w : World) (g : Nat) (cs : Array Value) : w.grownBy (w.setRow g cs) (some g) := ⟨rfl, rfl, rfl, by simp [World.setRow], fun k _ hk => setRow_other w g k cs (fun e => hk (by rw [e]))⟩
theorem run_copyN {P : Program} {dT sT e ty : TypeId} {sz bytes : Nat} (hE : ElemInfo P dT e sz bytes) {g off dLen dCap sLen sCap n : Nat} {ad : Addr} {cur : Array Value} (w : World) (hg : w.heap[g]? = some (.cells cur e (0, 0)))
    (cs : List Value) (hn : n = Nat.min sLen dLen) (hcs : cs.length = n * sz) (hsrc : ∀ j v, cs[j]? = some v → w.cell? (ad.add j) = some v) (hfit : off + cs.length ≤ cur.size) (h1 : ∀ v ∈ cs, v.oneCell' = true) :
    (Builtin.copy_ #[dT, sT] ty #[.slice (some ⟨g, off, none⟩) dLen dCap, .slice (some ad) sLen sCap]).run P w = .ok (goInt n) (w.setRow g (splice cur.toList off cs).toArray) := by
  obtain ⟨i, z, ht, hi, hz, hsize, hby, hzs, hsz⟩ := hE
  subst hn
  have h2 := run_firstCells_some (P := P) w sz (Nat.min sLen dLen) ad sLen sCap cs hcs hsrc
  have h3 := run_storeCells_at P g off e cs 0 cur w hg (by simpa using hfit) h1
  simp only [Nat.add_zero] at h3
  simp [Builtin.copy_, run_underlying ht, Go.sizeOf, typeInfo, hi, hsize, Builtin.lenOf, h2, h3, splice]

/-- The same, the world behind it a letter. -/
theorem run_copyN_ex {P : Program} {dT e : TypeId} {sz bytes : Nat} (sT : TypeId) (hE : ElemInfo P dT e sz bytes) (g off dLen dCap sLen sCap n : Nat) (ad : Addr) (cur : Array Value) (w : World) (hg : w.heap[g]? = some (.cells cur e (0, 0)))
    (cs : List Value) (hn : n = Nat.min sLen dLen) (hcs : cs.length = n * sz) (hsrc : ∀ j v, cs[j]? = some v → w.cell? (ad.add j) = some v) (hfit : off + cs.length ≤ cur.size) (h1 : ∀ v ∈ cs, v.oneCell' = true) :
    ∃ w', (∀ ty, (Builtin.copy_ #[dT, sT] ty #[.slice (some ⟨g, off, none⟩) dLen dCap, .slice (some ad) sLen sCap]).run P w = .ok (goInt n) w') ∧ Hid (w'.heap[g]? = some (.cells (splice cur.toList off cs).toArray e (0, 0))) ∧ w.grownBy w' (some g) :=
  ⟨_, fun ty => run_copyN (ty := ty) hE w hg cs hn hcs hsrc hfit h1, Lib.hid (setRow_heap w g cur _ e _ hg), grown_setRow w g _⟩
theorem wpList_copyN {P : Program} {w : World} {ops : Array Oper} {rest : List Oper} {o : Oper} {a : Act} {Q : Exit → Act → World → Prop} (hgd : o.guard = none) (d s : Operand) (dT sT : TypeId)
    (ho : o.op = .call { callee := .builtin .copy, args := #[d, s], argTypes := #[dT, sT] }) {e : TypeId} {sz bytes : Nat} (hE : ElemInfo P dT e sz bytes)
    (g off dLen dCap sLen sCap n : Nat) (ad : Addr) (hd : a.eval d = .slice (some ⟨g, off, none⟩) dLen dCap) (hs : a.eval s = .slice (some ad) sLen sCap) (cur : Array Value) (hg : w.heap[g]? = some (.cells cur e (0, 0)))
    (cs : List Value) (hn : n = Nat.min sLen dLen) (hcs : cs.length = n * sz) (hsrc : ∀ j v, cs[j]? = some v → w.cell? (ad.add j) = some v) (hfit : off + cs.length ≤ cur.size) (h1 : ∀ v ∈ cs, v.oneCell' = true)
    (h : ∀ w', Hid (w'.heap[g]? = some (.cells (splice cur.toList off cs).toArray e (0, 0))) → w.grownBy w' (some g) → wpList P ops Q rest (a.put o.dst (goInt n)) w') : wpList P ops Q (o :: rest) a w :=
  wpList_plain hgd fun _ hK => by
    have h := h _ (Lib.hid (setRow_heap w g cur (splice cur.toList off cs).toArray e _ hg)) (grown_setRow w g _)
    have hr := fun ty => run_copyN (P := P) (sT := sT) (ty := ty) (sCap := sCap) (dCap := dCap) hE w hg cs hn hcs hsrc hfit h1
    unfold Oper.wp
    simp [execOp, ho, resolve, invoke, builtin, hd, hs, hr, Result.andThen]
    exact hK _ _ h

section
variable {α : Type} {enc : α → List Value} {e : TypeId} {sz B : Nat} {w : World} {v : Value} {l : List α}

/-- The cells of the elements from k on. -/
theorem Own.from {g n cap : Nat} (hen : Enc enc sz) (h : Own enc e sz B w (.slice (some ⟨g, 0, none⟩) n cap) l) (k : Nat) : ∀ j u, ((l.drop k).flatMap enc)[j]? = some u → w.cell? ⟨g, k * sz + j, none⟩ = some u := by
  intro j u hu
  have hne : l.drop k ≠ [] := fun e => by rw [e] at hu; simp at hu
  have hpos : 0 < l.length := by
    rcases Nat.eq_zero_or_pos l.length with h0 | h0
    · rw [List.eq_nil_of_length_eq_zero h0] at hne; simp at hne
    · exact h0
  obtain ⟨g', cap', cur, hv, hB, hg, hc, hm, hs, ht⟩ := h.open hpos
  cases hv
  have hkl : k ≤ l.length := by
    rcases Nat.lt_or_ge l.length k with h0 | h0
    · rw [List.drop_eq_nil_of_le (by omega)] at hne; exact absurd rfl hne
    · exact h0
  have hsplit : l.flatMap enc = (l.take k).flatMap enc ++ (l.drop k).flatMap enc := by rw [← List.flatMap_append, List.take_append_drop]
  have hl : ((l.take k).flatMap enc).length = k * sz := by rw [flat_length hen, List.length_take, Nat.min_eq_left hkl]
  have h1 : (l.flatMap enc)[k * sz + j]? = some u := by
    rw [hsplit, List.getElem?_append_right (by omega), hl, show k * sz + j - k * sz = j by omega]; exact hu
  rw [← ht, List.getElem?_take] at h1
  split at h1
  · rw [cell_of_row w g _ cur e (0, 0) hg]; simpa using h1
  · cases h1

/-- A row set anew. -/
theorem Own.anew {g n cap m : Nat} {cs : Array Value} {l' : List α} (hen : Enc enc sz) (h : Own enc e sz B w (.slice (some ⟨g, 0, none⟩) n cap) l) (hpos : 0 < l.length) (hm' : l'.length = m) (hc : m ≤ cap) (hsz : cs.size = cap * sz) (ht : cs.toList.take (m * sz) = l'.flatMap enc) :
    Own enc e sz B (w.setRow g cs) (.slice (some ⟨g, 0, none⟩) m cap) l' := by
  obtain ⟨g', cap', cur, hv, hB, hg, hc', hm, hs, ht'⟩ := h.open hpos
  cases hv
  exact Own.mk hen hm' hB (setRow_heap w g cur cs e _ hg) hc hm hsz ht
end
theorem Own.row {α : Type} {enc : α → List Value} {e : TypeId} {sz B : Nat} {w : World} {l : List α} {g n cap : Nat} (h : Own enc e sz B w (.slice (some ⟨g, 0, none⟩) n cap) l) : ∃ cur : Array Value, B ≤ g ∧ w.heap[g]? = some (.cells cur e (0, 0)) ∧ l.length = n ∧ n ≤ cap ∧ cap ≤ maxLen ∧ cur.size = cap * sz ∧ cur.toList.take (n * sz) = l.flatMap enc := by
  obtain ⟨_, h2⟩ := h
  rcases h2 with ⟨hv, _⟩ | ⟨g', cap', cur, hv, hB, hg, hc, hm, hs, ht⟩
  · cases hv
  · cases hv
    exact ⟨cur, hB, hg, rfl, hc, hm, hs, ht⟩
theorem Own.put {α : Type} {enc : α → List Value} {e : TypeId} {sz B : Nat} {w : World} {l : List α} {g n cap : Nat} {cur : Array Value} (hen : Enc enc sz) (hn : l.length = n) (hB : B ≤ g) (hg : w.heap[g]? = some (.cells cur e (0, 0))) (hc : n ≤ cap) (hm : cap ≤ maxLen) (hs : cur.size = cap * sz) (ht : cur.toList.take (n * sz) = l.flatMap enc) : Own enc e sz B w (.slice (some ⟨g, 0, none⟩) n cap) l := Own.mk hen hn hB hg hc hm hs ht
/-- s[:k] of such a slice. -/
theorem Own.cut' {α : Type} {enc : α → List Value} {e : TypeId} {sz B : Nat} {w : World} {l : List α} {g n cap k : Nat} (hen : Enc enc sz) (h : Own enc e sz B w (.slice (some ⟨g, 0, none⟩) n cap) l) (hk : k ≤ n) : Own enc e sz B w (.slice (some ⟨g, 0, none⟩) k cap) (l.take k) := by
  obtain ⟨cur, hB, hg, hl, hc, hm, hs, ht⟩ := h.row
  refine Own.put hen (by rw [List.length_take]; omega) hB hg (by omega) hm hs ?_
  have : l.flatMap enc = (l.take k).flatMap enc ++ (l.drop k).flatMap enc := by rw [← List.flatMap_append, List.take_append_drop]
  have hl' : ((l.take k).flatMap enc).length = k * sz := by rw [flat_length hen, List.length_take, Nat.min_eq_left (by omega)]
  have h1 : (cur.toList.take (n * sz)).take (k * sz) = cur.toList.take (k * sz) := by
    rw [List.take_take, Nat.min_eq_left (Nat.mul_le_mul_right _ hk)]
  rw [← h1, ht, this, ← hl', List.take_left]

/-- clear(s[n:n+m]) behind such a slice, within its capacity. -/
theorem run_clear_behind {α : Type} {P : Program} {enc : α → List Value} {t e : TypeId} {sz bytes B : Nat} {w : World} {g n cap m : Nat} {l : List α} (hE : ElemInfo P t e sz bytes) (hen : Enc enc sz) (hz1 : ∀ z, (P.info? e).bind (·.zero) = some z → ∀ u ∈ z.cells.toList, u.oneCell' = true)
    (h : Own enc e sz B w (.slice (some ⟨g, 0, none⟩) n cap) l) (hm : n + m ≤ cap) (hm0 : 0 < m) (c : Nat) :
    ∃ cs : Array Value, (∀ ty, (Builtin.clear_ #[t] ty #[.slice (some ⟨g, n * sz, none⟩) m c]).run P w = .ok (.tuple #[]) (w.setRow g cs)) ∧ Own enc e sz B (w.setRow g cs) (.slice (some ⟨g, 0, none⟩) n cap) l := by
  obtain ⟨i, z, ht, hi, hz, hsize, hby, hzs, hsz⟩ := hE
  obtain ⟨cur, hB, hg, hl, hc, hmx, hs, ht'⟩ := h.row
  have hnz : (Builtin.zeroCells z.cells m).size = m * sz := by rw [size_zeroCells, hzs]
  have hone : ∀ u ∈ (Builtin.zeroCells z.cells m).toList, u.oneCell' = true := by
    intro u hu
    have hz' := hz1 z (by rw [hi]; exact hz)
    obtain ⟨j, hj, rfl⟩ := Array.getElem_of_mem (Array.mem_def.2 hu)
    simp only [Builtin.zeroCells, Array.getElem_map, Array.getElem_range]
    rw [getElem!_pos z.cells (j % z.cells.size) (Nat.mod_lt _ (by omega))]
    exact hz' _ (by simp)
  have hle : n * sz + m * sz ≤ cap * sz := by rw [← Nat.add_mul]; exact Nat.mul_le_mul_right _ hm
  have hrun := run_storeCells_at P g (n * sz) e (Builtin.zeroCells z.cells m).toList 0 cur w hg (by rw [Array.length_toList, hnz]; omega) hone
  simp only [Nat.add_zero] at hrun
  refine ⟨_, fun ty => ?_, Own.put (cur := (cur.toList.take (n * sz) ++ (Builtin.zeroCells z.cells m).toList ++ cur.toList.drop (n * sz + (Builtin.zeroCells z.cells m).toList.length)).toArray) hen hl hB (setRow_heap w g cur _ e _ hg) hc hmx ?_ ?_⟩
  · obtain ⟨d, rfl⟩ : ∃ d, m = d + 1 := ⟨m - 1, by omega⟩
    simp [Builtin.clear_, run_underlying ht, zeroValue, typeInfo, hi, hz, hrun]
  · simp [hnz, Array.length_toList]; omega
  · simp only [List.append_assoc]
    rw [List.take_append_of_le_length (by simp; omega), List.take_take, Nat.min_self, ht']

/-- append(s[:k], ..) within the capacity, as one step of a region that draws. -/
theorem step_fits {P : Program} {ops : Array Oper} {o : Oper} {a : Act} {w : World} {K : Act → World → Prop} {Q : Exit → Act → World → Prop} {E : Prop} (hgd : o.guard = none) (s x : Operand) (t : TypeId)
    (ho : o.op = Op.call { callee := Callee.builtin Builtin.append, args := #[s, x], argTypes := #[t, t] }) {e : TypeId} {sz bytes : Nat} (hE : ElemInfo P t e sz bytes) (base g k cap : Nat) (xs : List Value)
    (hs : a.eval s = .slice (some ⟨g, 0, none⟩) k cap) (hown : w.ownsRow base e sz (.slice (some ⟨g, 0, none⟩) k cap) k xs) (ad : Addr) (m c r : Nat) (news : List Value) (hx : a.eval x = .slice (some ad) m c) (hl : news.length = m * sz) (hnews : ∀ j u, news[j]? = some u → w.cell? (ad.add j) = some u) (h1 : ∀ u ∈ news, u.oneCell' = true) (hroom : k + m ≤ cap) (hr : k + m = r)
    (hK : ∀ w', w'.ownsRow base e sz (.slice (some ⟨g, 0, none⟩) r cap) r (xs ++ news) → w.grownBy w' (some g) → K (a.put o.dst (.slice (some ⟨g, 0, none⟩) r cap)) w') :
    if Region.wanted o (yielded ops a.tmps) = true then Oper.wp P o a w K Q else E := by
  have hw : Region.wanted o (yielded ops a.tmps) = true := by simp [Region.wanted, hgd]
  rw [if_pos hw]
  obtain ⟨i, z, ht, hi, hz, hsize, hby, hzs, hsz⟩ := hE
  subst hr
  obtain ⟨w', hrun, r1, r2⟩ := run_append_fits (P := P) w base t o.type e i sz ht hi hsize g k cap xs hown ad m c news hl hnews h1 hroom
  unfold Oper.wp
  simp [execOp, ho, resolve, invoke, builtin, hs, hx, hrun, Result.andThen]
  exact hK w' r1 r2

/-- copy into a row that the call owns, as one step of a region that draws. -/
theorem step_copyN {P : Program} {ops : Array Oper} {o : Oper} {a : Act} {w : World} {K : Act → World → Prop} {Q : Exit → Act → World → Prop} {E : Prop} (hgd : o.guard = none) (d s : Operand) (dT sT : TypeId)
    (ho : o.op = .call { callee := .builtin .copy, args := #[d, s], argTypes := #[dT, sT] }) {e : TypeId} {sz bytes : Nat} (hE : ElemInfo P dT e sz bytes)
    (g off dLen dCap sLen sCap n : Nat) (ad : Addr) (hd : a.eval d = .slice (some ⟨g, off, none⟩) dLen dCap) (hs : a.eval s = .slice (some ad) sLen sCap) (cur : Array Value) (hg : w.heap[g]? = some (.cells cur e (0, 0)))
    (cs : List Value) (hn : n = Nat.min sLen dLen) (hcs : cs.length = n * sz) (hsrc : ∀ j v, cs[j]? = some v → w.cell? (ad.add j) = some v) (hfit : off + cs.length ≤ cur.size) (h1 : ∀ v ∈ cs, v.oneCell' = true)
    (hK' : ∀ w', Hid (w'.heap[g]? = some (.cells (splice cur.toList off cs).toArray e (0, 0))) → w.grownBy w' (some g) → K (a.put o.dst (goInt n)) w') :
    if Region.wanted o (yielded ops a.tmps) = true then Oper.wp P o a w K Q else E := by
  have hK := hK' _ (Lib.hid (setRow_heap w g cur (splice cur.toList off cs).toArray e _ hg)) (grown_setRow w g _)
  have hw : Region.wanted o (yielded ops a.tmps) = true := by simp [Region.wanted, hgd]
  rw [if_pos hw]
  have hr := fun ty => run_copyN (P := P) (sT := sT) (ty := ty) (sCap := sCap) (dCap := dCap) hE w hg cs hn hcs hsrc hfit h1
  unfold Oper.wp
  simp [execOp, ho, resolve, invoke, builtin, hd, hs, hr, Result.andThen]
  exact hK

/-- append(s[:k], make([]T, m)...), s[:k] a row of the call's own, no room: a new row. -/
theorem run_app_zeros {P : Program} {t tn ty e : TypeId} {sz bytes : Nat} (w : World) (hE : ElemInfo P t e sz bytes) (kn : IntKind) (htn : P.underlying tn = some (.int kn)) (base g k cap m : Nat) (xs : List Value)
    (hown : w.ownsRow base e sz (.slice (some ⟨g, 0, none⟩) k cap) k xs) (hm : 0 < m) (hno : cap < k + m) (hbytes : (k + m) * bytes ≤ 140737488355328) (h63 : k + m ≤ 100000) :
    ∃ cap' cur, (Builtin.append_ #[t, tn] ty #[.slice (some ⟨g, 0, none⟩) k cap, .int .i64 m]).run P w = .ok (.slice (some ⟨w.heap.size, 0, none⟩) (k + m) cap') (w.drew.alloc (.cells cur e)) ∧ k + m ≤ cap' ∧ cap' ≤ maxLen ∧ cur.size = cap' * sz ∧ cur.toList.take (k * sz) = xs := by
  obtain ⟨i, z, ht, hi, hz, hsize, hby, hzs, hsz⟩ := hE
  have hge := grownCap_ge w (k + m) cap e
  have hcm : grownCap w (k + m) cap e ≤ maxLen := grownCap_le_maxLen w (k + m) cap e (by unfold maxLen; omega)
  have holds : ∀ j u, xs[j]? = some u → w.cell? ((⟨g, 0, none⟩ : Addr).add j) = some u := hown.cells (g := g) rfl
  have hf := run_firstCells_some (P := P) w.drew sz k ⟨g, 0, none⟩ k cap xs hown.1 (by simpa using holds)
  have h48 := growslice_fits (need := k + m) (old := cap) (bytes := bytes) (by omega) hbytes
  have hn : m ≠ 0 := by omega
  have hw : IntKind.i64.wrap (m : Int) = m := by rw [IntKind.wrap_i64]; omega
  have hneg : ¬ ((m : Int) < 0) := by omega
  have h48i : ¬ (281474976710656 < (m : Int) * (i.bytes : Int)) := by
    rw [← Int.natCast_mul, hby]
    have : m * bytes ≤ (k + m) * bytes := Nat.mul_le_mul_right _ (by omega)
    omega
  have hns : ¬ (m * sz = 0) := Nat.mul_ne_zero hn (by omega)
  have hno' : ¬ (k + m ≤ cap) := by omega
  have h63' : ¬ (9223372036854775807 < ((k : Int) + (m : Int))) := by omega
  have h48' : ¬ (281474976710656 < Builtin.nextslicecap (k + m) cap * i.bytes) := by rw [hby]; omega
  refine ⟨grownCap w (k + m) cap e, xs.toArray ++ Builtin.zeroCells z.cells m ++ Builtin.zeroCells z.cells (grownCap w (k + m) cap e - (k + m)), ?_, hge, hcm, ?_, ?_⟩
  · simp [Builtin.append_, run_underlying ht, run_underlying htn, Go.sizeOf, typeInfo, zeroValue, hi, hz, hsize, asInt, asIntOf, hw, hneg, hns, h63', h48', h48i, hno', Question.forced, hf, newRow, grownCap]
  · simp only [Array.size_append, List.size_toArray, size_zeroCells, hzs, hown.1, ← Nat.add_mul]
    congr 1
    omega
  · simp only [Array.toList_append, List.append_assoc]
    rw [← hown.1]
    exact List.take_left
theorem wpList_app_zeros {P : Program} {w : World} {ops : Array Oper} {rest : List Oper} {o : Oper} {a : Act} {Q : Exit → Act → World → Prop} (hgd : o.guard = none) (s x : Operand) (t tn : TypeId)
    (ho : o.op = .call { callee := .builtin .append, args := #[s, x], argTypes := #[t, tn] }) {e : TypeId} {sz bytes : Nat} (hE : ElemInfo P t e sz bytes) (kn : IntKind) (htn : P.underlying tn = some (.int kn)) (base g k cap m : Nat) (xs : List Value) (M : Int) (hM : M = m)
    (hs : a.eval s = .slice (some ⟨g, 0, none⟩) k cap) (hx : a.eval x = .int .i64 M) (hown : w.ownsRow base e sz (.slice (some ⟨g, 0, none⟩) k cap) k xs) (hm : 0 < m) (hno : cap < k + m) (hbytes : (k + m) * bytes ≤ 140737488355328) (h63 : k + m ≤ 100000) (r : Nat) (hr : k + m = r)
    (h : ∀ cap' cur, r ≤ cap' → cap' ≤ maxLen → cur.size = cap' * sz → cur.toList.take (k * sz) = xs → ∀ w', Hid (w'.heap[w.heap.size]? = some (.cells cur e (0, 0))) → w.grownBy w' none → w.heap.size < w'.heap.size → wpList P ops Q rest (a.put o.dst (.slice (some ⟨w.heap.size, 0, none⟩) r cap')) w') : wpList P ops Q (o :: rest) a w :=
  wpList_plain hgd fun _ hK => by
    subst hM hr
    obtain ⟨cap', cur, hrun, h1, h2, h3, h4⟩ := run_app_zeros (P := P) (t := t) (tn := tn) (ty := o.type) w hE kn htn base g k cap m xs hown hm hno hbytes h63
    unfold Oper.wp execOp
    simp only [ho, resolve, invoke, builtin, Sem.run_bind, Sem.run_pure, Result.andThen_ok, List.map_toArray, List.map_cons, List.map_nil, hs, hx, hrun]
    exact hK _ _ (h cap' cur h1 h2 h3 h4 _ (Lib.hid (heap_alloc_new w.drew _)) ⟨rfl, rfl, rfl, by simp, fun k hk _ => heap_alloc_old w.drew _ hk⟩ (by simp))
theorem splice_len {α : Type} (L : List α) (off : Nat) (cs : List α) (h : off + cs.length ≤ L.length) : (splice L off cs).length = L.length := length_splice L off cs h
/-- A row's beginning kept, then new cells, then more. -/
theorem splice_new {α : Type} {cur p q r : List α} (hp : cur.take p.length = p) : (splice (splice cur p.length q) (p.length + q.length) r).take (p.length + q.length + r.length) = p ++ q ++ r := by
  have h1 : splice cur p.length q = p ++ q ++ cur.drop (p.length + q.length) := by unfold splice; rw [hp, List.append_assoc]
  rw [h1]
  unfold splice
  rw [List.take_left' (l₁ := p ++ q) (by simp), ← List.append_assoc, List.take_left' (l₁ := p ++ q ++ r) (by simp; omega)]
theorem splice_shift {α : Type} {cur p q r : List α} (hp : cur.take p.length = p) (hl : p.length + q.length + r.length ≤ cur.length) : (splice (splice cur (p.length + q.length) r) p.length q).take (p.length + q.length + r.length) = p ++ q ++ r := by
  have h1 : (splice cur (p.length + q.length) r).take p.length = p := by
    unfold splice
    rw [List.take_append_of_le_length (by simp; omega), List.take_take, Nat.min_eq_left (by omega), hp]
  have h2 : (splice cur (p.length + q.length) r).drop (p.length + q.length) = r ++ cur.drop (p.length + q.length + r.length) := by
    unfold splice
    rw [List.drop_left' (by simp; omega)]
  generalize splice cur (p.length + q.length) r = c at *
  unfold splice
  rw [h1, h2, ← List.append_assoc, ← List.append_assoc, List.take_left' (by simp; omega)]
section
variable {α : Type} {enc : α → List Value} {e : TypeId} {sz B g cap : Nat} {cur : Array Value} {l : List α} {f : α} {k : Nat}
theorem ins_flat (hen : Enc enc sz) (hk : k ≤ l.length) : ((l.take k).flatMap enc).length = k * sz ∧ (enc f).length = sz ∧ ((l.drop k).flatMap enc).length = (l.length - k) * sz ∧ (l.take k ++ f :: l.drop k).length = l.length + 1 ∧ (l.take k ++ f :: l.drop k).flatMap enc = (l.take k).flatMap enc ++ enc f ++ (l.drop k).flatMap enc ∧ k * sz + sz + (l.length - k) * sz = (l.length + 1) * sz := by
  refine ⟨by rw [flat_length hen, List.length_take, Nat.min_eq_left hk], (hen f).1, by rw [flat_length hen, List.length_drop], by rw [List.length_append, List.length_cons, List.length_take, List.length_drop]; omega, by simp, ?_⟩
  obtain ⟨d, hd⟩ : ∃ d, l.length = k + d := ⟨l.length - k, by omega⟩
  rw [hd, show k + d - k = d by omega, Nat.add_mul, Nat.add_mul]
  omega
/-- A row in which one more element was put: written anew. -/
theorem own_insNew (hen : Enc enc sz) (hB : B ≤ g) (hk : k ≤ l.length) (hc : l.length + 1 ≤ cap) (hm : cap ≤ maxLen) (hs : cur.size = cap * sz) (hp : cur.toList.take (k * sz) = (l.take k).flatMap enc) (w : World) (hg : w.heap[g]? = some (.cells (splice (splice cur.toList (k * sz) (enc f)) ((k + 1) * sz) ((l.drop k).flatMap enc)).toArray e (0, 0))) :
    Own enc e sz B w (.slice (some ⟨g, 0, none⟩) (l.length + 1) cap) (l.take k ++ f :: l.drop k) := by
  obtain ⟨h1, h2, h3, h4, h5, h6⟩ := ins_flat (f := f) hen hk
  have hle : (l.length + 1) * sz ≤ cap * sz := Nat.mul_le_mul_right _ hc
  have hsp := splice_new (cur := cur.toList) (p := (l.take k).flatMap enc) (q := enc f) (r := (l.drop k).flatMap enc) (by rw [h1]; exact hp)
  rw [h1, h2, h3, h6, ← h5, show k * sz + sz = (k + 1) * sz by rw [Nat.add_mul]; omega] at hsp
  refine Own.put hen h4 hB hg hc hm ?_ hsp
  have a1 : k * sz + (enc f).length ≤ cur.toList.length := by rw [h2, Array.length_toList (xs := cur), hs]; omega
  have a2 := length_splice cur.toList (k * sz) (enc f) a1
  rw [List.size_toArray, length_splice, a2, Array.length_toList (xs := cur), hs]
  rw [a2, h3, Array.length_toList (xs := cur), hs, Nat.add_mul]; omega
/-- A row in which one more element was put: shifted. -/
theorem own_insShift (hen : Enc enc sz) (hB : B ≤ g) (hk : k ≤ l.length) (hc : l.length + 1 ≤ cap) (hm : cap ≤ maxLen) (hs : cur.size = cap * sz) (hp : cur.toList.take (k * sz) = (l.take k).flatMap enc) (w : World) (hg : w.heap[g]? = some (.cells (splice (splice cur.toList ((k + 1) * sz) ((l.drop k).flatMap enc)) (k * sz) (enc f)).toArray e (0, 0))) :
    Own enc e sz B w (.slice (some ⟨g, 0, none⟩) (l.length + 1) cap) (l.take k ++ f :: l.drop k) := by
  obtain ⟨h1, h2, h3, h4, h5, h6⟩ := ins_flat (f := f) hen hk
  have hle : (l.length + 1) * sz ≤ cap * sz := Nat.mul_le_mul_right _ hc
  have hsp := splice_shift (cur := cur.toList) (p := (l.take k).flatMap enc) (q := enc f) (r := (l.drop k).flatMap enc) (by rw [h1]; exact hp) (by rw [h1, h2, h3, h6, Array.length_toList (xs := cur), hs]; exact hle)
  rw [h1, h2, h3, h6, ← h5, show k * sz + sz = (k + 1) * sz by rw [Nat.add_mul]; omega] at hsp
  refine Own.put hen h4 hB hg hc hm ?_ hsp
  have a1 : (k + 1) * sz + ((l.drop k).flatMap enc).length ≤ cur.toList.length := by rw [h3, Array.length_toList (xs := cur), hs, Nat.add_mul]; omega
  have a2 := length_splice cur.toList ((k + 1) * sz) ((l.drop k).flatMap enc) a1
  rw [List.size_toArray, length_splice, a2, Array.length_toList (xs := cur), hs]
  rw [a2, h2, Array.length_toList (xs := cur), hs]; omega
end
end Go.Proofs.YtpfohfihkmjnaaaGreatDoor
namespace Go.Proofs.YtpfohfihkmjnaaaGreatDoor
open Go.RowKit

theorem row_setCell {w : World} {g i : Nat} {cur : Array Value} {t : TypeId} {fr : Nat × Nat} (hg : w.heap[g]? = some (.cells cur t fr)) (v : Value) : (w.setCell ⟨g, i, none⟩ v).heap[g]? = some (.cells (cur.setIfInBounds i v) t fr) := by
  simp only [World.setCell, Array.getElem?_modify, hg]
  rfl
/-- A struct of six cells, written cell by cell. -/
abbrev six (w : World) (g o : Nat) (b0 b1 b2 b3 b4 b5 : Value) : World := (((((w.setCell ⟨g, o, none⟩ b0).setCell ⟨g, o + 1, none⟩ b1).setCell ⟨g, o + 2, none⟩ b2).setCell ⟨g, o + 3, none⟩ b3).setCell ⟨g, o + 4, none⟩ b4).setCell ⟨g, o + 5, none⟩ b5
theorem six_row {w : World} {g o : Nat} {t : TypeId} {fr : Nat × Nat} {cur : Array Value} (hg : w.heap[g]? = some (.cells cur t fr)) (b0 b1 b2 b3 b4 b5 : Value) : (six w g o b0 b1 b2 b3 b4 b5).heap[g]? = some (.cells ((((((cur.setIfInBounds o b0).setIfInBounds (o + 1) b1).setIfInBounds (o + 2) b2).setIfInBounds (o + 3) b3).setIfInBounds (o + 4) b4).setIfInBounds (o + 5) b5) t fr) :=
  row_setCell (row_setCell (row_setCell (row_setCell (row_setCell (row_setCell hg b0) b1) b2) b3) b4) b5
theorem six_below {B : Nat} {w0 w : World} {g o : Nat} (hb : Below B w0 w) (hB : B ≤ g) (b0 b1 b2 b3 b4 b5 : Value) : Below B w0 (six w g o b0 b1 b2 b3 b4 b5) :=
  (((((hb.setCell (p := ⟨g, o, none⟩) hB _).setCell (p := ⟨g, o + 1, none⟩) hB _).setCell (p := ⟨g, o + 2, none⟩) hB _).setCell (p := ⟨g, o + 3, none⟩) hB _).setCell (p := ⟨g, o + 4, none⟩) hB _).setCell (p := ⟨g, o + 5, none⟩) hB _
theorem six_new {w : World} {g : Nat} {t : TypeId} {fr : Nat × Nat} {a0 a1 a2 a3 a4 a5 : Value} (hg : w.heap[g]? = some (.cells #[a0, a1, a2, a3, a4, a5] t fr)) (b0 b1 b2 b3 b4 b5 : Value) : (six w g 0 b0 b1 b2 b3 b4 b5).heap[g]? = some (.cells #[b0, b1, b2, b3, b4, b5] t fr) := six_row hg _ _ _ _ _ _
theorem World.heap_drew (w : World) : w.drew.heap = w.heap := rfl
theorem ret_row {P : Program} {fn : Func} {p u : Tmp} {ty : TypeId} (h : fn.results = #[.cell p ty, .tmp u]) (tmps : Array Value) (w : World) (g : Nat) (t : TypeId) (cs : Array Value) (fr : Nat × Nat) (d : TypeDesc) (hp : tmps.getD p undef = .pointer (some ⟨g, 0, none⟩)) (hg : w.heap[g]? = some (.cells cs t fr))
    (hu : P.underlying ty = some d) (hd : (match d with | .struct _ | .array _ _ => true | _ => false) = true) (hi : (P.info? ty).map (·.size) = some cs.size) : (results fn tmps).run P w = .ok (.tuple #[.agg cs, tmps.getD u undef]) w := by
  rw [results_cell_tmp h, hp]
  simp [asAddr, run_loadVar_row w g t ty cs fr d hg hu hd hi, Result.andThen]
end Go.Proofs.YtpfohfihkmjnaaaGreatDoor
namespace Go.Proofs.YtpfohfihkmjnaaaGreatDoor
open Go.RowKit

theorem zero256 : Tryz.zeroCells270 = (List.replicate 256 (Value.int .u32 0)).toArray := by kernel_rfl
/-- The table's cells when k of them are laid. -/
def tabCells (k : Nat) : List Value := (List.range 256).map fun i => Value.int .u32 (if i < k then (crcIter 8 i : Nat) else 0)
theorem tab_zero : (List.replicate 256 (Value.int .u32 0)) = tabCells 0 := by
  unfold tabCells
  generalize 256 = n
  apply List.ext_getElem
  · simp
  · intro i h1 h2; simp
theorem tab_len (k : Nat) : (tabCells k).length = 256 := by simp [tabCells]
theorem tab_set {k : Nat} : (tabCells k).set k (.int .u32 (crcIter 8 k : Nat)) = tabCells (k + 1) := by
  apply List.ext_getElem
  · simp [tabCells]
  · intro i h1 h2
    rw [List.getElem_set]
    split
    · rename_i h; subst h; simp [tabCells]
    · rename_i h
      simp only [tabCells, List.getElem_map, List.getElem_range]
      by_cases h3 : i < k
      · rw [if_pos h3, if_pos (by omega)]
      · rw [if_neg h3, if_neg (by omega)]
theorem tab_at {i : Nat} (hi : i < 256) : (tabCells 256)[i]? = some (.int .u32 (crcIter 8 i : Nat)) := by
  rw [List.getElem?_eq_getElem (by rw [tab_len]; exact hi)]
  simp [tabCells, hi]
theorem tab_one (k : Nat) : (tabCells k).toArray.all (·.oneCell') = true := by
  rw [Array.all_eq_true_iff_forall_mem]
  intro v hv
  simp only [tabCells, List.mem_toArray, List.mem_map] at hv
  obtain ⟨i, _, rfl⟩ := hv
  rfl
/-- The same as an array: not to be opened. -/
def tabA (k : Nat) : Array Value := (tabCells k).toArray
theorem tabA_size (k : Nat) : (tabA k).size = 256 := by unfold tabA; rw [List.size_toArray, tab_len]
theorem tabA_set (k : Nat) : (tabA k).setIfInBounds k (.int .u32 (crcIter 8 k : Nat)) = tabA (k + 1) := by
  unfold tabA; rw [List.setIfInBounds_toArray, tab_set]
theorem tabA_cell (k : Nat) (hk : k < 256) : (tabA k)[k]? = some (.int .u32 0) := by
  unfold tabA
  rw [List.getElem?_toArray, List.getElem?_eq_getElem (by rw [tab_len]; exact hk)]
  simp [tabCells]
theorem tabA_at {i : Nat} (hi : i < 256) : (tabA 256)[i]? = some (.int .u32 (crcIter 8 i : Nat)) := by
  unfold tabA; rw [List.getElem?_toArray, tab_at hi]
theorem tabA_one (k : Nat) : (tabA k).all (·.oneCell') = true := tab_one k
theorem tabA_zero : Tryz.zeroCells270 = tabA 0 := by rw [zero256, tab_zero]; rfl
theorem size256 : (Tryz.prog.info? 270).map (·.size) = some 256 := by kernel_rfl
/-- A bit's round, as the walk spells it. -/
theorem bit_round {c : Nat} (h : c < 4294967296) : bits .xor .u32 ((c : Int) / 2) (IntKind.u32.wrap (3988292384 * bits .and .u32 (c : Int) 1)) = (crcBit c : Nat) ∧ bits .xor .u32 ((c : Int) / 2) (3988292384 * bits .and .u32 (c : Int) 1 % 4294967296) = (crcBit c : Nat) := by
  rw [← IntKind.wrap_u32', and_self]
  have h1 : bits .and .u32 (c : Int) 1 = ((c % 2 : Nat) : Int) := by
    have := u32_and_nat c 1 h (by omega)
    rw [show ((1 : Nat) : Int) = 1 from rfl] at this
    rw [this, Nat.and_one_is_mod]
  rw [h1]
  have h2 : IntKind.u32.wrap (3988292384 * ((c % 2 : Nat) : Int)) = ((crcP * (c % 2) : Nat) : Int) := by
    rw [IntKind.wrap_u32']; unfold crcP; omega
  rw [h2, show ((c : Int) / 2) = ((c / 2 : Nat) : Int) by omega, u32_xor_nat _ _ (by omega) (by unfold crcP; omega)]
  congr 1
  unfold crcBit
  rcases Nat.mod_two_eq_zero_or_one c with h3 | h3
  · rw [h3, if_neg (by omega)]; simp
  · rw [h3, if_pos rfl]; simp
set_option maxHeartbeats 1000000 in
set_option maxRecDepth 20000 in
theorem table_any (w : World) :
    Calls Tryz.prog 190 #[] w fun e w' => e = .returned (.agg (tabA 256)) ∧ Below w.heap.size w w' := by
  have hg1 : ((w.alloc (.cells Tryz.zeroCells270 270)).alloc (.cells Tryz.zeroCells270 270)).heap[w.heap.size + 1]? = some (.cells (tabA 0) 270 (0, 0)) := by
    rw [heap_alloc2_new, tabA_zero]
  have hg0 : ((w.alloc (.cells Tryz.zeroCells270 270)).alloc (.cells Tryz.zeroCells270 270)).heap[w.heap.size]? = some (.cells (tabA 0) 270 (0, 0)) := by
    rw [heap_alloc2_old, tabA_zero]
  have hb0 : Below w.heap.size w ((w.alloc (.cells Tryz.zeroCells270 270)).alloc (.cells Tryz.zeroCells270 270)) := ((Below.refl _ _).alloc (Nat.le_refl _) _).alloc (by simp) _
  have G1 := Lib.hid hg1; have G0 := Lib.hid hg0
  clear hg1 hg0
  go_enter Tryz.func190, Tryz.ntmps190
  go_wp2_with fail
  generalize (w.alloc (.cells Tryz.zeroCells270 270)).alloc (.cells Tryz.zeroCells270 270) = w0 at *
  obtain ⟨H, hH⟩ : ∃ H, w.heap.size = H := ⟨_, rfl⟩
  rw [hH] at G1 G0 hb0 ⊢
  have HH := Lib.hid hH; clear hH
  go_loopw [2, 3, 4, 9] (fun _ _ i _ wr => ∃ k : Nat, k ≤ 256 ∧ i = .int .i64 k ∧ Hid (wr.heap[H + 1]? = some (.cells (tabA k) 270 (0, 0))) ∧ Hid (wr.heap[H]? = some (.cells (tabA 0) 270 (0, 0))) ∧ Below H w wr) (fun _ _ i _ _ => 256 - (intOf i).toNat)
  case atStart => exact ⟨0, by omega, rfl, G1, G0, hb0⟩
  case round =>
    obtain ⟨k, hk, rfl, hg1, hg0, hb⟩ := hrel
    clear G1 G0 hb0
    by_cases hlt : k < 256
    case neg =>
      have f : decide ((k : Int) < 256) = false := by simp; omega
      obtain rfl : k = 256 := by omega
      go_wp2_with (first | (refine wpList_load_row rfl 270 _ rfl (H + 1) rfl 270 (tabA 256) (0, 0) _ hg1.out Tryz.underlying270 rfl (by rw [tabA_size]; exact size256) ?_) | (refine wpList_store_row rfl _ _ _ rfl H (tabA 256) rfl rfl 270 (tabA 0) hg0.out (by rw [tabA_size]; exact size256) (by rw [tabA_size, tabA_size]) (tabA_one _) ?_))
      exact bodyPost_ret (results_cell_row rfl _ _ H 270 (tabA 256) (0, 0) _ rfl (setRow_heap _ H _ _ _ _ hg0.out) Tryz.underlying270 rfl (by rw [tabA_size]; exact size256)) rfl ⟨rfl, by rw [HH.out]; exact hb.grown (grown_setRow wr H _) (Nat.le_of_lt (Array.getElem?_eq_some_iff.1 hg0.out).1) (fun k hk => by cases hk; exact Nat.le_refl _)⟩
    have hlt' : (k : Int) < 256 := by omega
    have hcv : IntKind.u32.wrap (k : Int) = k := by rw [IntKind.wrap_u32']; omega
    go_wp2_with fail
    obtain ⟨wo, rfl⟩ : ∃ wo : World, wo = wr := ⟨_, rfl⟩
    go_loop [3, 9] (fun c j => ∃ m : Nat, m ≤ 8 ∧ j = .int .i64 m ∧ c = .int .u32 (crcIter m k : Nat)) (fun _ j => 8 - (intOf j).toNat)
    case atStart => exact ⟨0, by omega, rfl, rfl⟩
    case round =>
      obtain ⟨m, hm, rfl, rfl⟩ := hrel
      by_cases hm8 : m < 8
      · have hm8' : (m : Int) < 8 := by omega
        have hc : crcIter m k < 4294967296 := crcIter_lt m (by omega)
        have hsu : crcIter (m + 1) k = crcBit (crcIter m k) := crcIter_succ m k
        have HSu := Lib.hid hsu; clear hsu
        generalize crcIter m k = c at *
        have hbr := (bit_round hc).2
        have h1 : (0 : Int) ≤ c := by omega
        have h2 : (c : Int) < 4294967296 := by omega
        go_wp2_with fail
        refine ⟨⟨m + 1, by omega, by go_num, by rw [HSu.out]⟩, ?_⟩
        simp [intOf]; omega
      · obtain rfl : m = 8 := by omega
        have c0 := cell_of_row wo (H + 1) k _ _ _ hg1.out
        rw [tabA_cell k hlt] at c0
        have f0 : wo.frozen? ⟨H + 1, k, none⟩ = false := frozen_row hg1.out
        generalize hcr : crcIter 8 k = cr at *
        go_wp2_with fail
        go_roundw
        case rel => exact ⟨k + 1, by omega, by go_num, Lib.hid (by rw [row_setCell hg1.out, ← hcr, tabA_set]), Lib.hid ((heap_setCell_other _ _ _ _ (by simp)).trans hg0.out), hb.setCell (p := ⟨H + 1, k, none⟩) (by simp) _⟩
        case measure => simp [intOf]; omega
/-- A byte's round, as the walk spells it. -/
theorem sum_round (c : Nat) (b : UInt8) : bits .xor .u8 ((c : Int) % 256) (b.toNat : Int) = ((c % 256 ^^^ b.toNat : Nat) : Int) := by
  rw [show ((c : Int) % 256) = ((c % 256 : Nat) : Int) by omega]
  exact u8_xor_nat _ _ (by omega) (byte_lt b)
theorem sum_round2 {c : Nat} (h : c < 4294967296) (b : UInt8) : bits .xor .u32 ((c : Int) / 256) ((crcIter 8 (c % 256 ^^^ b.toNat) : Nat) : Int) = (crcStep c b : Nat) := by
  have hx : c % 256 ^^^ b.toNat < 2 ^ 8 := Nat.xor_lt_two_pow (by omega) (byte_lt b)
  rw [show ((c : Int) / 256) = ((c / 256 : Nat) : Int) by omega, u32_xor_nat _ _ (by omega) (crcIter_lt 8 (by omega)), crc_table]
set_option maxHeartbeats 1000000 in
set_option maxRecDepth 200000 in
theorem sum_any (s : Str) (w : World) (hs : s.length ≤ 100000) :
    Calls Tryz.prog 172 #[S s] w fun e w' => e = .returned (.int .u32 (sumOf s : Nat)) ∧ Below w.heap.size w w' := by
  go_enter Tryz.func172, Tryz.ntmps172
  go_wp2_with fail
  refine (table_any w).mono ?_
  rintro e w1 ⟨rfl, hb1⟩
  go_wp2_with (refine wpList_store_row rfl _ _ _ rfl w1.heap.size (tabA 256) rfl rfl 270 (tabA 0) (by rw [heap_alloc_new, tabA_zero]) (by rw [tabA_size]; exact size256) (by rw [tabA_size, tabA_size]) (tabA_one _) ?_)
  have hb2 : Below w.heap.size w ((w1.alloc (.cells Tryz.zeroCells270 270)).setRow w1.heap.size (tabA 256)) := (hb1.alloc hb1.size _).grown (grown_setRow _ _ _) (by have := hb1.size; simp; omega) (fun k hk => by cases hk; exact hb1.size)
  have hg2 := setRow_heap (w1.alloc (.cells Tryz.zeroCells270 270)) w1.heap.size _ (tabA 256) _ _ (heap_alloc_new w1 _)
  have G2 := Lib.hid hg2; clear hg2
  generalize (w1.alloc (.cells Tryz.zeroCells270 270)).setRow w1.heap.size (tabA 256) = w2 at *
  generalize w1.heap.size = g at *
  generalize htb : tabA 256 = tb at *
  have HTb := Lib.hid htb; clear htb
  go_loop [4, 9] (fun c i => ∃ k : Nat, k ≤ s.length ∧ i = .int .i64 k ∧ c = .int .u32 (crcFold 4294967295 (s.take k) : Nat)) (fun _ i => s.length - (intOf i).toNat)
  case atStart => exact ⟨0, by omega, rfl, rfl⟩
  case round =>
    obtain ⟨k, hk, rfl, rfl⟩ := hrel
    have hc : crcFold 4294967295 (s.take k) < 4294967296 := crcFold_lt _ (by omega)
    by_cases hlt : k < s.length
    · have hk1 : (k : Int) < s.length := by omega
      have hsn : crcFold 4294967295 (s.take (k + 1)) = crcStep (crcFold 4294967295 (s.take k)) s[k] := by
        rw [take_snoc' (x := s[k]) (by simp [hlt]), crcFold_snoc]
      have HSn := Lib.hid hsn; clear hsn
      generalize crcFold 4294967295 (s.take k) = c at *
      have hbk : (({ data := s.toArray } : ByteArray)[k]'(by simpa [ByteArray.size] using hlt)) = s[k] := rfl
      have hr1 := sum_round c s[k]
      have hr2 := sum_round2 hc s[k]
      have hx8 : c % 256 ^^^ s[k].toNat < 2 ^ 8 := Nat.xor_lt_two_pow (by omega) (byte_lt s[k])
      have hca := cell_of_row w2 g (c % 256 ^^^ s[k].toNat) _ _ _ G2.out
      rw [← HTb.out, tabA_at (by omega)] at hca
      have hx0 : (0 : Int) ≤ ((c % 256 ^^^ s[k].toNat : Nat) : Int) := by omega
      have hx1 : ((c % 256 ^^^ s[k].toNat : Nat) : Int) < 256 := by omega
      have h1 : (0 : Int) ≤ c := by omega
      have h2 : (c : Int) < 4294967296 := by omega
      generalize c % 256 ^^^ s[k].toNat = x at *
      clear hc hb1 hb2 h1 h2
      go_wp2_with fail
      refine ⟨⟨k + 1, by omega, by go_num, by rw [HSn.out]⟩, ?_⟩
      simp [intOf]; omega
    · obtain rfl : k = s.length := by omega
      have hf : bits .xor .u32 IntKind.u32.max ((crcFold 4294967295 (s.take s.length) : Nat) : Int) = (sumOf s : Nat) := by
        rw [List.take_length] at hc ⊢
        have := u32_xor_nat 4294967295 (crcFold 4294967295 s) (by omega) hc
        unfold sumOf
        rw [Nat.xor_comm]
        exact this
      have HF := Lib.hid hf; clear hf
      generalize crcFold 4294967295 (s.take s.length) = c at *
      have HB2 := Lib.hid hb2
      have HS := Lib.hid hs
      clear hc hb1 hb2 hs
      go_wp2_with fail
      go_ret
      exact ⟨show Ending.returned (.int .u32 (bits .xor .u32 IntKind.u32.max (c : Int))) = _ by rw [HF.out], HB2.out⟩
end Go.Proofs.YtpfohfihkmjnaaaGreatDoor
namespace Go.Proofs.YtpfohfihkmjnaaaGreatDoor
open Go.RowKit Go.Sort Go.Lib

end Go.Proofs.YtpfohfihkmjnaaaGreatDoor
namespace Go.Proofs.YtpfohfihkmjnaaaGreatDoor
open Go.RowKit

/-- What the library's search reads: some number. -/
structure LMax (B : Nat) (w : World) : Prop where
  max : ∃ m, w.cell? ⟨12, 0, none⟩ = some (.int .i64 m)
  low : 21 ≤ B
  le : B ≤ w.heap.size
theorem LMax.below {B : Nat} {w w' : World} (h : LMax B w) (hb : Below B w w') : LMax B w' := by
  obtain ⟨m, hm⟩ := h.max
  have := h.low
  exact ⟨⟨m, (hb.cell (p := ⟨12, 0, none⟩) (by simp; omega)).trans hm⟩, h.low, Nat.le_trans h.le hb.size⟩
theorem LMax.below' {B B' : Nat} {w w' : World} (h : LMax B w) (hb : Below B' w w') (hB : B ≤ B') : LMax B w' := h.below (hb.mono hB)

theorem encS_map (l : List Str) : l.map S = l.flatMap encS := by
  induction l with
  | nil => rfl
  | cons x r ih => simp [ih]

/-- strings.Split(s, c), c one byte. -/
theorem split1_any (B : Nat) (s : Str) (c : UInt8) (w : World) (hM : LMax B w) (hs : s.length ≤ 100000) :
    Calls Tryz.prog 170 #[S s, .string ⟨#[c]⟩] w fun e w' => e = .returned (.slice (some ⟨w.heap.size, 0, none⟩) (cutAt c s).length (cutAt c s).length) ∧ Own encS 9 1 w.heap.size w' (.slice (some ⟨w.heap.size, 0, none⟩) (cutAt c s).length (cutAt c s).length) (cutAt c s) ∧ Below w.heap.size w w' := by
  obtain ⟨m, hm⟩ := hM.max
  refine (Tryz.strings_Split ⟨s.toArray⟩ ⟨#[c]⟩ m w (by show s.toArray.size < _; simp; omega) hm (Nat.le_refl 1)).mono ?_
  rintro e w' ⟨rfl, rfl⟩
  have hlen : Lib.countB ⟨s.toArray⟩ ⟨#[c]⟩ + 1 = (cutAt c s).length := by
    rw [cutAt_length]; unfold Lib.countB; simp [Lib.count_one]
  rw [hlen]
  refine ⟨rfl, ?_, (Below.refl _ _).alloc (Nat.le_refl _) _⟩
  have hc := splitB_cut c s
  refine ⟨by rw [← encS_map]; simp, .inr ⟨w.heap.size, _, _, rfl, Nat.le_refl _, heap_alloc_new w _, Nat.le_refl _, ?_, ?_, ?_⟩⟩
  · have := cutAt_length c s
    have h2 : s.count c ≤ s.length := List.count_le_length
    unfold maxLen; omega
  · have := congrArg List.length hc
    simp at this ⊢; omega
  · rw [← encS_map, ← hc]
    have := congrArg List.length hc
    simp only [List.length_map] at this
    rw [List.take_of_length_le (by simp; omega)]

/-- s[k:] of a slice. -/
theorem slice_from {α : Type} {P : Program} {t e : TypeId} {enc : α → List Value} {sz : Nat} {w : World} {a : Option Addr} {c b o : Nat} {l : List α} (ht : P.underlying t = some (.slice e)) (hsz : ∀ w, (sizeOf e).run P w = .ok sz w)
    (ha : 0 < l.length → a = some ⟨b, o, none⟩) (hc : l.length ≤ c) (hcm : c ≤ maxLen) (hx : ∀ k x, l[k]? = some x → ∀ j u, (enc x)[j]? = some u → w.cell? ⟨b, o + k * sz + j, none⟩ = some u) (k : Nat) (hk : k ≤ l.length) (hk0 : 0 < l.length) :
    ∃ b' o' c', (∀ W, (Instr.slice t (.slice a l.length c) (some (.int .i64 (k : Int))) none none).run P W = .ok (.slice (some ⟨b', o', none⟩) (l.length - k) c') W) ∧ At enc sz w (.slice (some ⟨b', o', none⟩) (l.length - k) c') (l.drop k) := by
  obtain rfl := ha hk0
  have hu : P.elem t = e := by simp [Program.elem, ht]
  have hadd : (⟨b, o, none⟩ : Addr).add (k * sz) = ⟨b, o + k * sz, none⟩ := by unfold Addr.add; split <;> simp_all
  by_cases h : c = k
  · refine ⟨b, o, c - k, fun W => ?_, ?_⟩
    · have hk' : (k : Int) ≤ l.length := by omega
      simp [Instr.slice, Instr.sliceBounds, run_underlying ht, hsz, hk, h, go_sem]
    · have hl : l.length = k := by omega
      refine ⟨_, c - k, b, o, by rw [List.length_drop], fun _ => rfl, by simp; omega, by omega, fun i x hi j u hu => ?_⟩
      rw [List.drop_of_length_le (by omega)] at hi; simp at hi
  · refine ⟨b, o + k * sz, c - k, fun W => ?_, ?_⟩
    · have hk' : (k : Int) ≤ l.length := by omega
      simp [Instr.slice, Instr.sliceBounds, run_underlying ht, hsz, hk, h, go_sem]
    · refine ⟨_, c - k, b, o + k * sz, by rw [List.length_drop], fun _ => rfl, by simp; omega, by omega, fun i x hi j u hu => ?_⟩
      rw [List.getElem?_drop] at hi
      have := hx (k + i) x hi j u hu
      rwa [show o + k * sz + i * sz + j = o + (k + i) * sz + j by rw [Nat.add_mul]; omega]
end Go.Proofs.YtpfohfihkmjnaaaGreatDoor
namespace Go.Proofs.YtpfohfihkmjnaaaGreatDoor
open Go.RowKit

theorem dropWhile_nilP {α : Type} {p : α → Bool} : ∀ {l : List α}, l.dropWhile p = [] ↔ l.all p = true
  | [] => by simp
  | a :: r => by
    rw [List.dropWhile_cons, List.all_cons]
    cases h : p a with
    | true => simp [dropWhile_nilP (l := r)]
    | false => simp
theorem trimS_nilP (l cs : Str) : Lib.trimS l cs = [] ↔ l.all (fun b => cs.contains b) = true := by
  have hr : Lib.trimRightS l cs = [] ↔ l.all (fun b => cs.contains b) = true := by
    unfold Lib.trimRightS
    rw [List.reverse_eq_nil_iff, dropWhile_nilP, List.all_reverse]
  unfold Lib.trimS
  constructor
  · intro h
    refine hr.1 ?_
    unfold Lib.trimLeftS at h
    rw [dropWhile_nilP] at h
    cases hd : l.reverse.dropWhile (fun b => cs.contains b) with
    | nil => unfold Lib.trimRightS; rw [hd]; rfl
    | cons a r =>
      have ha : cs.contains a = false := by
        have := List.head?_dropWhile_not (fun b => cs.contains b) l.reverse
        rw [hd] at this
        simpa using this
      have hm : a ∈ Lib.trimRightS l cs := by unfold Lib.trimRightS; rw [hd]; simp
      have := List.all_eq_true.1 h a hm
      rw [ha] at this; cases this
  · intro h
    rw [hr.2 h]; rfl
end Go.Proofs.YtpfohfihkmjnaaaGreatDoor
