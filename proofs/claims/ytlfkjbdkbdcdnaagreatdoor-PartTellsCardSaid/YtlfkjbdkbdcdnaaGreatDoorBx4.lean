/- Rising lists of texts without doubles: a text more; sorted and compacted. Of no program. Rows in plain words: of no program. The reference's numbers in plain words: they are the program's. Of no program. Parts in plain words: a spec, a row's group. strings.Split by one byte; slices of slices. A slice that the call owns: opened, cut, written to, cleared behind. Of no program. strings.Trim to nothing, in plain words. Files in memory; a path's number; a part; a file's check. -/
import Derived.Test.YtlfkjbdkbdcdnaaGreatDoorBx3
import Derived.Lib.SlicesCompact
import Derived.Test.YtlfkjbdkbdcdnaaGreatDoorBx2
import Derived.Test.YtlfkjbdkbdcdnaaGreatDoorBx1
import Derived.Shelf.Strings.SlTrimAscii
namespace Go.Proofs.YtlfkjbdkbdcdnaaGreatDoor
open Go.RowKit

/-- A text more, in a rising list without doubles. -/
def withL : List Str → Str → List Str
  | [], s => [s]
  | x :: r, s => if bef x s then x :: withL r s else if x = s then x :: r else s :: x :: r
theorem withL_at : ∀ {l : List Str} {s : Str} {k : Nat}, k ≤ l.length → (∀ j < k, ∀ x, l[j]? = some x → bef x s = true) → (∀ x, l[k]? = some x → bef x s = false) → withL l s = if l[k]? = some s then l else l.take k ++ s :: l.drop k
  | [], s, 0, _, _, _ => by simp [withL]
  | [], _, _ + 1, h, _, _ => by simp at h
  | x :: r, s, 0, _, _, h2 => by
    have hx := h2 x rfl
    unfold withL
    rw [if_neg (by rw [hx]; decide)]
    by_cases he : x = s
    · rw [if_pos he, if_pos (by simp [he])]
    · rw [if_neg he, if_neg (by simpa using he)]; rfl
  | x :: r, s, k + 1, h, h1, h2 => by
    have hx := h1 0 (by omega) x rfl
    unfold withL
    rw [if_pos hx, withL_at (k := k) (by simpa using h) (fun j hj y hy => h1 (j + 1) (by omega) y (by simpa using hy)) (fun y hy => h2 y (by simpa using hy))]
    rw [List.getElem?_cons_succ]
    split <;> rfl
theorem withL_len (l : List Str) (s : Str) : (withL l s).length ≤ l.length + 1 := by
  induction l with
  | nil => simp [withL]
  | cons x r ih =>
    unfold withL
    split
    · simpa using ih
    · split <;> simp
theorem mem_withL {x s : Str} {l : List Str} : x ∈ withL l s ↔ x = s ∨ x ∈ l := by
  induction l with
  | nil => simp [withL]
  | cons y r ih =>
    unfold withL
    split
    · rw [List.mem_cons, ih, List.mem_cons]
      exact ⟨fun h => by rcases h with h | h | h <;> simp [h], fun h => by rcases h with h | h | h <;> simp [h]⟩
    · split
      · rename_i h; subst h; simp
      · rw [List.mem_cons]
def upS (l : List Str) : Prop := l.Pairwise (fun a b => bef a b = true)
theorem up_withL {s : Str} : ∀ {l : List Str}, upS l → upS (withL l s)
  | [], _ => by simp [withL, upS]
  | x :: r, h => by
    obtain ⟨h1, h2⟩ := List.pairwise_cons.1 h
    unfold withL
    split
    · rename_i hb
      refine List.pairwise_cons.2 ⟨fun y hy => ?_, up_withL h2⟩
      rcases mem_withL.1 hy with rfl | hy
      · exact hb
      · exact h1 y hy
    · rename_i hb
      split
      · exact h
      · rename_i hne
        have hsx : bef s x = true := bef_tri hne (by simpa using hb)
        refine List.pairwise_cons.2 ⟨fun y hy => ?_, h⟩
        rcases List.mem_cons.1 hy with rfl | hy
        · exact hsx
        · exact bef_trans hsx (h1 y hy)
theorem up_asym {a b : Str} (h : bef a b = true) : bef b a = false := by
  cases hb : bef b a with
  | false => rfl
  | true =>
    have := bef_trans h hb
    rw [bef_irr] at this; cases this
theorem up_ext : ∀ {a b : List Str}, upS a → upS b → (∀ x, x ∈ a ↔ x ∈ b) → a = b
  | [], [], _, _, _ => rfl
  | [], y :: t, _, _, h => absurd ((h y).2 (by simp)) (by simp)
  | x :: r, [], _, _, h => absurd ((h x).1 (by simp)) (by simp)
  | x :: r, y :: t, ha, hb, h => by
    obtain ⟨ha1, ha2⟩ := List.pairwise_cons.1 ha
    obtain ⟨hb1, hb2⟩ := List.pairwise_cons.1 hb
    have hxy : x = y := by
      rcases List.mem_cons.1 ((h x).1 (by simp)) with e | e
      · exact e
      · rcases List.mem_cons.1 ((h y).2 (by simp)) with e' | e'
        · exact e'.symm
        · have k1 := hb1 x e
          have k2 := up_asym (ha1 y e')
          rw [k1] at k2; cases k2
    subst hxy
    congr 1
    refine up_ext ha2 hb2 fun z => ?_
    have hz := h z
    simp only [List.mem_cons] at hz
    constructor
    · intro m
      rcases hz.1 (.inr m) with e | e
      · have := ha1 z m
        rw [e, bef_irr] at this; cases this
      · exact e
    · intro m
      rcases hz.2 (.inr m) with e | e
      · have := hb1 z m
        rw [e, bef_irr] at this; cases this
      · exact e

theorem lt_of_bef : ∀ {a b : Str}, bef a b = true → a < b
  | [], [], h => by cases h
  | [], _ :: _, _ => List.nil_lt_cons _ _
  | _ :: _, [], h => by cases h
  | a :: r, b :: s, h => by
    have h : (decide (a < b) || (a == b && bytesBefore r s)) = true := h
    rw [List.cons_lt_cons_iff]
    simp only [Bool.or_eq_true, Bool.and_eq_true, decide_eq_true_eq, beq_iff_eq] at h
    rcases h with h | ⟨h1, h2⟩
    · exact .inl h
    · exact .inr ⟨h1, lt_of_bef h2⟩
theorem bef_of_le {a b : Str} (h : a ≤ b) (hne : a ≠ b) : bef a b = true := by
  cases hb : bef a b with
  | true => rfl
  | false => exact absurd (lt_of_bef (bef_tri hne hb)) (List.not_lt.2 h)
theorem mem_compactUpTo {d : Array Str} {x : Str} : ∀ {m : Nat}, x ∈ Lib.compactUpTo d m ↔ ∃ j < m, d[j]! = x
  | 0 => by simp [Lib.compactUpTo]
  | m + 1 => by
    rw [Lib.compactUpTo_succ, List.mem_append, mem_compactUpTo (m := m)]
    constructor
    · rintro (⟨j, h1, h2⟩ | h)
      · exact ⟨j, by omega, h2⟩
      · split at h
        · exact ⟨m, by omega, (List.mem_singleton.1 h).symm⟩
        · cases h
    · rintro ⟨j, h1, h2⟩
      rcases Nat.lt_or_ge j m with h | h
      · exact .inl ⟨j, h, h2⟩
      · obtain rfl : j = m := by omega
        cases hk : Lib.keeps d j with
        | true => exact .inr (by simp [h2])
        | false =>
          unfold Lib.keeps at hk
          have hk := of_decide_eq_false hk
          have h0 : j ≠ 0 := fun e => hk (.inl e)
          have h3 : d[j]! = d[j - 1]! := Decidable.byContradiction fun e => hk (.inr e)
          exact .inl ⟨j - 1, by omega, by rw [← h3, h2]⟩
theorem mem_compactS {l : List Str} {x : Str} : x ∈ Lib.compact l ↔ x ∈ l := by
  unfold Lib.compact
  rw [mem_compactUpTo]
  constructor
  · rintro ⟨j, h1, h2⟩
    rw [← h2]
    simp [h1]
  · intro h
    obtain ⟨j, h1, h2⟩ := List.getElem_of_mem h
    exact ⟨j, h1, by simp [h1, h2]⟩
theorem up_compact {l : List Str} (h : l.Pairwise (fun a b => a ≤ b)) : upS (Lib.compact l) := by
  have hi := List.pairwise_iff_getElem.1 h
  unfold Lib.compact Lib.compactUpTo upS
  refine List.pairwise_map.2 (List.pairwise_filter.2 ?_)
  refine List.Pairwise.imp_of_mem (fun {a b} ha hb hab => ?_) List.pairwise_lt_range
  intro _ hkb
  have ha' : a < l.length := List.mem_range.1 ha
  have hb' : b < l.length := List.mem_range.1 hb
  unfold Lib.keeps at hkb
  have hk := (of_decide_eq_true hkb).resolve_left (by omega)
  have e1 : ∀ j, j < l.length → l.toArray[j]! = l[j]! := fun j hj => by simp
  have g : ∀ j (hj : j < l.length), l.toArray[j]! = l[j] := fun j hj => by simp [hj]
  rw [g b hb', g (b - 1) (by omega)] at hk
  show bef l.toArray[a]! l.toArray[b]! = true
  rw [g a ha', g b hb']
  have k1 : bef (l[b - 1]'(by omega)) l[b] = true := bef_of_le (hi (b - 1) b (by omega) hb' (by omega)) (fun e => hk e.symm)
  rcases Nat.lt_or_ge a (b - 1) with hlt | hge
  · by_cases he : l[a] = l[b - 1]'(by omega)
    · rw [he]; exact k1
    · exact bef_trans (bef_of_le (hi a (b - 1) ha' (by omega) hlt) he) k1
  · have : a = b - 1 := by omega
    subst this
    exact k1

theorem foldW_up : ∀ (xs l : List Str), upS l → upS (xs.foldl withL l)
  | [], _, h => h
  | _ :: xs, _, h => foldW_up xs _ (up_withL h)
theorem mem_foldW {x : Str} : ∀ (xs l : List Str), x ∈ xs.foldl withL l ↔ x ∈ l ∨ x ∈ xs
  | [], l => by simp
  | y :: xs, l => by
    rw [List.foldl_cons, mem_foldW xs, mem_withL, List.mem_cons]
    exact ⟨fun h => by rcases h with (h | h) | h <;> simp [h], fun h => by rcases h with h | h | h <;> simp [h]⟩
theorem foldW_len : ∀ (xs l : List Str), (xs.foldl withL l).length ≤ l.length + xs.length
  | [], _ => Nat.le_refl _
  | x :: xs, l => by
    have h1 := foldW_len xs (withL l x)
    have h2 := withL_len l x
    rw [List.foldl_cons, List.length_cons]; omega
theorem mem_sortS {x : Str} {l : List Str} : x ∈ l.mergeSort (fun x y => decide (x ≤ y)) ↔ x ∈ l := (List.mergeSort_perm l _).mem_iff
theorem sorted_le (l : List Str) : (l.mergeSort fun x y => decide (x ≤ y)).Pairwise (fun a b => a ≤ b) := by
  have := List.pairwise_mergeSort (le := fun (x y : Str) => decide (x ≤ y)) (fun a b c h1 h2 => by simp only [decide_eq_true_eq] at *; exact List.le_trans h1 h2) (fun a b => by
    simp only [Bool.or_eq_true, decide_eq_true_eq]
    exact List.le_total a b) l
  exact this.imp fun {a b} h => of_decide_eq_true h
end Go.Proofs.YtlfkjbdkbdcdnaaGreatDoor
namespace Go.Proofs.YtlfkjbdkbdcdnaaGreatDoor
open Go.RowKit

/-- A row. -/
structure Rw where
  part : Str
  key : Int
  val : Int
  deriving DecidableEq, Inhabited

/-- Is a text a name? -/
def nameOk (s : Str) : Bool := decide (s ≠ []) && (decide (s.length ≤ 8) && s.all (fun b => partSigns.contains b))
/-- A row's fault, by its number. -/
def rowCheck (r : Rw) : Nat := if nameOk r.part = false then 5 else if farN r.key ∨ farN r.val then 2 else 0
def rowLine (r : Rw) : Str := r.part ++ numsTail [r.key, r.val]
def rowText (r : Rw) : Str := if rowCheck r = 0 then rowLine r else []
def zeroR : Rw := ⟨[], 0, 0⟩
def rowOf : List Str → Option Rw
  | [p, a, b] =>
    match numsOf [a, b] with
    | some [k, v] => some ⟨p, k, v⟩
    | _ => none
  | _ => none
def rowRead (s : Str) : Rw × Nat :=
  match rowOf (cutAt 32 s) with
  | none => (zeroR, 1)
  | some r => if rowCheck r = 0 then (r, 0) else (zeroR, rowCheck r)

theorem rowCheck_zero {r : Rw} (h : rowCheck r = 0) : nameOk r.part = true ∧ ¬ farN r.key ∧ ¬ farN r.val := by
  unfold rowCheck at h
  split at h
  · cases h
  · rename_i h1
    split at h
    · cases h
    · rename_i h2
      exact ⟨by simpa using h1, fun h => h2 (.inl h), fun h => h2 (.inr h)⟩
theorem name_sign {s : Str} (h : nameOk s = true) : (∀ c ∈ s, c = 45 ∨ 47 ≤ c.toNat) ∧ 1 ≤ s.length ∧ s.length ≤ 8 := by
  simp only [nameOk, Bool.and_eq_true, decide_eq_true_eq, List.all_eq_true] at h
  obtain ⟨h1, h2, h3⟩ := h
  refine ⟨fun c hc => ?_, by cases s with | nil => exact absurd rfl h1 | cons _ _ => simp, h2⟩
  have h4 := h3 c hc
  have h5 : ∀ d ∈ partSigns, d = 45 ∨ 47 ≤ d.toNat := by decide
  exact h5 c (by simpa using h4)
theorem rowRead_line {r : Rw} (h : rowCheck r = 0) : rowRead (rowLine r) = (r, 0) := by
  obtain ⟨h1, h2, h3⟩ := rowCheck_zero h
  have hno : (32 : UInt8) ∉ r.part := not_mem_sign (name_sign h1).1 (by decide) (by decide)
  have hc : cutAt 32 (rowLine r) = r.part :: [r.key, r.val].map Lib.itoa := cut_nums _ _ hno
  have hb : ∀ x ∈ [r.key, r.val], -10000000000 < x ∧ x < 10000000000 := by
    unfold farN at h2 h3
    intro x hx
    simp only [List.mem_cons, List.not_mem_nil, or_false] at hx
    rcases hx with rfl | rfl <;> omega
  have hn : numsOf [Lib.itoa r.key, Lib.itoa r.val] = some [r.key, r.val] := numsOf_map [r.key, r.val] hb
  have hr : rowOf [r.part, Lib.itoa r.key, Lib.itoa r.val] = some r := by
    show (match numsOf [Lib.itoa r.key, Lib.itoa r.val] with | some [k, v] => some ⟨r.part, k, v⟩ | _ => none) = some r
    rw [hn]
  unfold rowRead
  rw [hc]
  show (match rowOf [r.part, Lib.itoa r.key, Lib.itoa r.val] with | none => (zeroR, 1) | some r => if rowCheck r = 0 then (r, 0) else (zeroR, rowCheck r)) = (r, 0)
  rw [hr]
  show (if rowCheck r = 0 then (r, 0) else (zeroR, rowCheck r)) = (r, 0)
  rw [if_pos h]
theorem rowRead_none {s : Str} (h : rowOf (cutAt 32 s) = none) : rowRead s = (zeroR, 1) := by unfold rowRead; rw [h]
theorem rowRead_some {s : Str} {r : Rw} (h : rowOf (cutAt 32 s) = some r) : rowRead s = if rowCheck r = 0 then (r, 0) else (zeroR, rowCheck r) := by unfold rowRead; rw [h]
theorem rowOf_len {l : List Str} (h : l.length ≠ 3) : rowOf l = none := by
  match l, h with
  | [], _ => rfl
  | [_], _ => rfl
  | [_, _], _ => rfl
  | [_, _, _], h => exact absurd rfl h
  | _ :: _ :: _ :: _ :: _, _ => rfl
theorem three_strs {l : List Str} (h : l.length = 3) : ∃ p a b, l = [p, a, b] := by
  match l, h with
  | [p, a, b], _ => exact ⟨p, a, b, rfl⟩
theorem two_ints {l : List Int} (h : l.length = 2) : ∃ a b, l = [a, b] := by
  match l, h with
  | [a, b], _ => exact ⟨a, b, rfl⟩
theorem rowOf_nums {p a b : Str} (h : numsOf [a, b] = none) : rowOf [p, a, b] = none := by
  show (match numsOf [a, b] with | some [k, v] => some (⟨p, k, v⟩ : Rw) | _ => none) = none
  rw [h]
theorem rowOf_two {p a b : Str} {k v : Int} (h : numsOf [a, b] = some [k, v]) : rowOf [p, a, b] = some ⟨p, k, v⟩ := by
  show (match numsOf [a, b] with | some [k, v] => some (⟨p, k, v⟩ : Rw) | _ => none) = some ⟨p, k, v⟩
  rw [h]
theorem rowRead_check {s : Str} (h : (rowRead s).2 = 0) : rowCheck (rowRead s).1 = 0 := by
  cases hr : rowOf (cutAt 32 s) with
  | none => rw [rowRead_none hr] at h; cases h
  | some r =>
    rw [rowRead_some hr] at h ⊢
    by_cases h0 : rowCheck r = 0
    · rw [if_pos h0]; exact h0
    · rw [if_neg h0] at h; exact absurd h h0

/-- The order of rows. -/
def lessR (a b : Rw) : Bool := if a.part ≠ b.part then bef a.part b.part else if a.key ≠ b.key then decide (a.key < b.key) else decide (a.val < b.val)
def cmpI (a b : Int) : Int := if a < b then -1 else if b < a then 1 else 0
def cmpS (a b : Str) : Int := if bef a b = true then -1 else if bef b a = true then 1 else 0
def cmpR (a b : Rw) : Int := if cmpS a.part b.part ≠ 0 then cmpS a.part b.part else if cmpI a.key b.key ≠ 0 then cmpI a.key b.key else cmpI a.val b.val
theorem bef_irrefl (a : Str) : bef a a = false := by
  cases h : bef a a with
  | false => rfl
  | true => have := up_asym h; rw [h] at this; exact this
theorem bef_or : ∀ {a b : Str}, a ≠ b → bef a b = true ∨ bef b a = true
  | [], [], h => absurd rfl h
  | [], _ :: _, _ => .inl rfl
  | _ :: _, [], _ => .inr rfl
  | a :: r, b :: s, h => by
    show (decide (a < b) || (a == b && bytesBefore r s)) = true ∨ (decide (b < a) || (b == a && bytesBefore s r)) = true
    by_cases hab : a = b
    · subst hab
      have hrs : r ≠ s := fun e => h (by rw [e])
      rcases bef_or hrs with h1 | h1
      · left; have h1 : bytesBefore r s = true := h1; simp [h1]
      · right; have h1 : bytesBefore s r = true := h1; simp [h1]
    · rcases Nat.lt_or_gt_of_ne (fun e => hab (UInt8.toNat_inj.1 e)) with h1 | h1
      · left; simp [UInt8.lt_iff_toNat_lt, h1]
      · right; simp [UInt8.lt_iff_toNat_lt, h1]
theorem cmpS_zero {a b : Str} : cmpS a b = 0 ↔ a = b := by
  unfold cmpS
  constructor
  · intro h
    by_cases hab : a = b
    · exact hab
    · rcases bef_or hab with h1 | h1
      · rw [if_pos h1] at h; cases h
      · rw [if_neg (by rw [up_asym h1]; decide), if_pos h1] at h; cases h
  · rintro rfl
    rw [if_neg (by rw [bef_irrefl]; decide), if_neg (by rw [bef_irrefl]; decide)]
theorem cmpI_zero {a b : Int} : cmpI a b = 0 ↔ a = b := by
  unfold cmpI
  split
  · omega
  · split <;> omega
theorem cmpR_less (a b : Rw) : decide (cmpR a b < 0) = lessR a b := by
  unfold cmpR lessR
  by_cases h1 : a.part = b.part
  · rw [if_neg (fun h : cmpS a.part b.part ≠ 0 => h (cmpS_zero.2 h1)), if_neg (fun h : a.part ≠ b.part => h h1)]
    by_cases h2 : a.key = b.key
    · rw [if_neg (fun h : cmpI a.key b.key ≠ 0 => h (cmpI_zero.2 h2)), if_neg (fun h : a.key ≠ b.key => h h2)]
      unfold cmpI
      by_cases h3 : a.val < b.val
      · simp [h3]
      · by_cases h4 : b.val < a.val <;> simp [h3, h4]
    · rw [if_pos (show cmpI a.key b.key ≠ 0 from fun e => h2 (cmpI_zero.1 e)), if_pos (show a.key ≠ b.key from h2)]
      unfold cmpI
      by_cases h3 : a.key < b.key
      · simp [h3]
      · by_cases h4 : b.key < a.key <;> simp [h3, h4]
  · rw [if_pos (show cmpS a.part b.part ≠ 0 from fun e => h1 (cmpS_zero.1 e)), if_pos (show a.part ≠ b.part from h1)]
    unfold cmpS
    cases h3 : bef a.part b.part with
    | true => simp
    | false =>
      rcases bef_or h1 with h4 | h4
      · rw [h3] at h4; cases h4
      · simp [h4]
theorem less_irrefl (a : Rw) : lessR a a = false := by simp [lessR]
theorem less_trans {a b c : Rw} (h1 : lessR a b = true) (h2 : lessR b c = true) : lessR a c = true := by
  unfold lessR at *
  by_cases e1 : a.part = b.part
  · by_cases e2 : b.part = c.part
    · rw [if_neg (fun h : a.part ≠ b.part => h e1)] at h1
      rw [if_neg (fun h : b.part ≠ c.part => h e2)] at h2
      rw [if_neg (fun h : a.part ≠ c.part => h (e1.trans e2))]
      by_cases k1 : a.key = b.key <;> by_cases k2 : b.key = c.key
      · rw [if_neg (fun h : a.key ≠ b.key => h k1)] at h1
        rw [if_neg (fun h : b.key ≠ c.key => h k2)] at h2
        rw [if_neg (fun h : a.key ≠ c.key => h (k1.trans k2))]
        simp only [decide_eq_true_eq] at *; omega
      · rw [if_pos k2] at h2
        rw [if_pos (by rw [k1]; exact k2)]
        simp only [decide_eq_true_eq] at *; omega
      · rw [if_pos k1] at h1
        rw [if_pos (by rw [← k2]; exact k1)]
        simp only [decide_eq_true_eq] at *; omega
      · rw [if_pos k1] at h1
        rw [if_pos k2] at h2
        simp only [decide_eq_true_eq] at h1 h2
        rw [if_pos (by omega)]
        simp only [decide_eq_true_eq]; omega
    · rw [if_pos e2] at h2
      rw [if_pos (by rw [e1]; exact e2), e1]; exact h2
  · rw [if_pos e1] at h1
    by_cases e2 : b.part = c.part
    · rw [if_pos (by rw [← e2]; exact e1), ← e2]; exact h1
    · rw [if_pos e2] at h2
      have h3 := bef_trans h1 h2
      rw [if_pos (by rintro e; rw [e, bef_irrefl] at h3; cases h3)]; exact h3
theorem less_or {a b : Rw} (h : a ≠ b) : lessR a b = true ∨ lessR b a = true := by
  unfold lessR
  by_cases e1 : a.part = b.part
  · rw [if_neg (fun h : a.part ≠ b.part => h e1), if_neg (fun h : b.part ≠ a.part => h e1.symm)]
    by_cases e2 : a.key = b.key
    · rw [if_neg (fun h : a.key ≠ b.key => h e2), if_neg (fun h : b.key ≠ a.key => h e2.symm)]
      have e3 : a.val ≠ b.val := fun e3 => h (by cases a; cases b; simp_all)
      simp only [decide_eq_true_eq]; omega
    · rw [if_pos (show a.key ≠ b.key from e2), if_pos (show b.key ≠ a.key from fun e => e2 e.symm)]
      simp only [decide_eq_true_eq]; omega
  · rw [if_pos (show a.part ≠ b.part from e1), if_pos (show b.part ≠ a.part from fun e => e1 e.symm)]
    exact bef_or e1
theorem less_asym {a b : Rw} (h : lessR a b = true) : lessR b a = false := by
  cases h2 : lessR b a with
  | false => rfl
  | true => have := less_trans h h2; rw [less_irrefl] at this; cases this
/-- No later one comes ahead of an earlier one. -/
def upR (l : List Rw) : Prop := l.Pairwise (fun a b => lessR b a = false)
theorem le_trans' {a b c : Rw} (h1 : lessR b a = false) (h2 : lessR c b = false) : lessR c a = false := by
  cases h : lessR c a with
  | false => rfl
  | true =>
    by_cases hab : a = b
    · subst hab; rw [h] at h2; exact h2
    · rcases less_or hab with h3 | h3
      · have := less_trans h h3; rw [h2] at this; cases this
      · rw [h1] at h3; cases h3
theorem up_unique {l m : List Rw} (hl : upR l) (hm : upR m) (hp : l.Perm m) : l = m :=
  List.Perm.eq_of_pairwise (le := fun a b => lessR b a = false) (fun a b _ _ h1 h2 => by
    by_cases hab : a = b
    · exact hab
    · rcases less_or hab with h3 | h3
      · rw [h3] at h2; cases h2
      · rw [h3] at h1; cases h1) hl hm hp
/-- One row more in a rising list. -/
def insR (x : Rw) : List Rw → List Rw
  | [] => [x]
  | y :: r => if lessR x y = true then x :: y :: r else y :: insR x r
theorem insR_perm (x : Rw) : ∀ l : List Rw, (insR x l).Perm (x :: l)
  | [] => .refl _
  | y :: r => by
    unfold insR
    split
    · exact .refl _
    · exact ((insR_perm x r).cons y).trans (.swap x y r)
theorem insR_up {x : Rw} : ∀ {l : List Rw}, upR l → upR (insR x l)
  | [], _ => by simp [insR, upR]
  | y :: r, h => by
    obtain ⟨h1, h2⟩ := List.pairwise_cons.1 h
    unfold insR
    split
    · rename_i hb
      refine List.pairwise_cons.2 ⟨fun z hz => ?_, h⟩
      rcases List.mem_cons.1 hz with rfl | hz
      · exact less_asym hb
      · exact le_trans' (less_asym hb) (h1 z hz)
    · rename_i hb
      refine List.pairwise_cons.2 ⟨fun z hz => ?_, insR_up h2⟩
      rcases List.mem_cons.1 ((insR_perm x r).mem_iff.1 hz) with rfl | hz
      · simpa using hb
      · exact h1 z hz
theorem insR_at {x : Rw} : ∀ {l : List Rw} {k : Nat}, k ≤ l.length → (∀ j < k, ∀ y, l[j]? = some y → lessR x y = false) → (∀ y, l[k]? = some y → lessR x y = true) → insR x l = l.take k ++ x :: l.drop k
  | [], 0, _, _, _ => rfl
  | [], _ + 1, h, _, _ => by simp at h
  | y :: r, 0, _, _, h2 => by
    unfold insR
    rw [if_pos (h2 y rfl)]; rfl
  | y :: r, k + 1, h, h1, h2 => by
    unfold insR
    rw [if_neg (by rw [h1 0 (by omega) y rfl]; decide), insR_at (k := k) (by simpa using h) (fun j hj z hz => h1 (j + 1) (by omega) z (by simpa using hz)) (fun z hz => h2 z (by simpa using hz))]
    rfl
def sortR (l : List Rw) : List Rw := l.foldl (fun a x => insR x a) []
theorem sort_fold : ∀ (l a : List Rw), upR a → upR (l.foldl (fun a x => insR x a) a) ∧ (l.foldl (fun a x => insR x a) a).Perm (a ++ l)
  | [], a, h => ⟨h, by simp⟩
  | x :: r, a, h => by
    obtain ⟨h1, h2⟩ := sort_fold r (insR x a) (insR_up h)
    refine ⟨h1, h2.trans ?_⟩
    refine ((insR_perm x a).append_right r).trans ?_
    exact (List.perm_middle).symm
theorem sort_up (l : List Rw) : upR (sortR l) := (sort_fold l [] .nil).1
theorem sort_perm (l : List Rw) : (sortR l).Perm l := by simpa [sortR] using (sort_fold l [] .nil).2
theorem sort_of {l m : List Rw} (h : upR m) (hp : m.Perm l) : m = sortR l := up_unique h (sort_up l) (hp.trans (sort_perm l).symm)
theorem sort_len (l : List Rw) : (sortR l).length = l.length := (sort_perm l).length_eq
theorem sort_eq {l m : List Rw} : sortR l = sortR m ↔ l.Perm m := by
  constructor
  · intro h
    have := sort_perm l
    rw [h] at this
    exact this.symm.trans (sort_perm m)
  · intro h
    exact sort_of (sort_up l) ((sort_perm l).trans h)
theorem sort_again (l : List Rw) : sortR (sortR l) = sortR l := (sort_of (sort_up l) (.refl _)).symm
theorem sort_snoc (l : List Rw) (x : Rw) : sortR (l ++ [x]) = insR x (sortR l) := by simp [sortR, List.foldl_append]
def dropR (l : List Rw) (keys : List Int) : List Rw := l.filter fun r => !decide (r.key ∈ keys)
def withinP (lo hi : Int) (r : Rw) : Bool := decide (r.key < lo) || decide (hi < r.key)
def withinR (l : List Rw) (lo hi : Int) : List Rw := l.filter fun r => !withinP lo hi r
theorem drop_again (l : List Rw) (keys : List Int) : dropR (dropR l keys) keys = dropR l keys := by
  unfold dropR
  rw [List.filter_filter]
  simp
theorem within_all {l : List Rw} {hi : Int} (h : ∀ r ∈ l, -9223372036854775808 ≤ r.key ∧ r.key ≤ hi) : withinR l (-9223372036854775808) hi = l := by
  unfold withinR
  refine List.filter_eq_self.2 fun r hr => ?_
  have := h r hr
  simp [withinP]; omega
theorem within_two {l : List Rw} {a : Int} (h : ∀ r ∈ l, -9223372036854775808 ≤ r.key ∧ r.key ≤ 9223372036854775807) : (withinR l (-9223372036854775808) a ++ withinR l (a + 1) 9223372036854775807).Perm l := by
  have e : withinR l (a + 1) 9223372036854775807 = l.filter (fun r => !(!withinP (-9223372036854775808) a r)) := by
    unfold withinR
    refine List.filter_congr fun r hr => ?_
    have := h r hr
    simp only [withinP, Bool.not_not]
    rw [Bool.eq_iff_iff]
    simp
    omega
  rw [e]
  exact List.filter_append_perm _ l
end Go.Proofs.YtlfkjbdkbdcdnaaGreatDoor
namespace Go.Proofs.YtlfkjbdkbdcdnaaGreatDoor

/-- The digits of a text: behind a sign, if it has one. -/
def digOf (s : Str) : Str := if s.head? = some 45 then s.tail else s
def numRef (s : Str) : Option Int :=
  if (digOf s).length < 1 ∨ 11 < s.length then none
  else if (digOf s).head? = some 48 ∧ 1 < s.length then none
  else (Lib.decFrom 0 (digOf s)).map fun (u : Nat) => if (digOf s).length < s.length then -(u : Int) else (u : Int)

theorem digitVal_inv {c : UInt8} {v : Nat} (h : Lib.digitVal c = some v) : v < 10 ∧ c = UInt8.ofNat (48 + v) := by
  unfold Lib.digitVal at h
  split at h
  · rename_i hc
    obtain rfl := Option.some.inj h
    refine ⟨by omega, ?_⟩
    apply UInt8.toNat_inj.1
    rw [digit_val (by omega)]; omega
  · cases h
theorem dec_big {m v : Nat} (hm : 1 ≤ m) (hv : v < 10) : Lib.decDigits (m * 10 + v) = Lib.decDigits m ++ [UInt8.ofNat (48 + v)] := by
  rw [Lib.decDigits, dif_neg (by omega), show (m * 10 + v) / 10 = m by omega, show (m * 10 + v) % 10 = v by omega]
theorem decFrom_dig : ∀ (l : Str) (acc u : Nat), 1 ≤ acc → Lib.decFrom acc l = some u → Lib.decDigits u = Lib.decDigits acc ++ l
  | [], acc, u, _, h => by obtain rfl := Option.some.inj h; simp
  | c :: r, acc, u, ha, h => by
    unfold Lib.decFrom at h
    split at h
    · rename_i v hv
      obtain ⟨h10, hc⟩ := digitVal_inv hv
      rw [decFrom_dig r _ u (by omega) h, dec_big ha h10, hc]; simp
    · cases h
theorem decFrom_dig0 {d : Str} {u : Nat} (hne : d ≠ []) (h0 : d.head? ≠ some 48 ∨ d.length = 1) (h : Lib.decFrom 0 d = some u) : Lib.decDigits u = d := by
  cases d with
  | nil => exact absurd rfl hne
  | cons c r =>
    unfold Lib.decFrom at h
    split at h
    · rename_i v hv
      obtain ⟨h10, hc⟩ := digitVal_inv hv
      rw [Nat.zero_mul, Nat.zero_add] at h
      rcases Nat.eq_zero_or_pos v with rfl | hp
      · rcases h0 with h0 | h0
        · exact absurd (by rw [hc]; rfl) h0
        · have : r = [] := List.eq_nil_of_length_eq_zero (by simpa using h0)
          subst this
          obtain rfl := Option.some.inj h
          rw [Lib.decDigits_one (by omega), hc]
      · rw [decFrom_dig r v u hp h, Lib.decDigits_one h10, hc]; rfl
    · cases h
theorem dec_head {u : Nat} (hu : 1 ≤ u) : (Lib.decDigits u).head? ≠ some 48 := by
  induction u using Nat.strongRecOn with
  | _ u ih =>
    by_cases h : u < 10
    · rw [Lib.decDigits_one h]
      intro e
      have e1 : UInt8.ofNat (48 + u) = 48 := by simpa using e
      have := digit_val h
      rw [e1] at this
      have h2 : (48 : UInt8).toNat = 48 := rfl
      omega
    · have h1 := ih (u / 10) (by omega) (by omega)
      rw [Lib.decDigits, dif_neg h]
      cases hd : Lib.decDigits (u / 10) with
      | nil => exact absurd hd (dec_ne _)
      | cons c r => rw [hd] at h1; exact h1
theorem dec_head45 (u : Nat) : (Lib.decDigits u).head? ≠ some 45 := fun e => by
  have hm : (45 : UInt8) ∈ Lib.decDigits u := List.mem_of_head? e
  have := dec_digit u _ hm
  revert this; decide
theorem atoi_itoa (n : Int) : Lib.atoi (Lib.itoa n) = some n := by
  rcases Int.lt_or_le n 0 with h | h
  · obtain ⟨u, rfl⟩ : ∃ u : Nat, n = -(u : Int) := ⟨n.natAbs, by omega⟩
    rw [Lib.itoa_neg u (by omega)]
    simp [Lib.atoi, decNat_dec]
  · obtain ⟨u, rfl⟩ : ∃ u : Nat, n = u := ⟨n.toNat, by omega⟩
    rw [Lib.itoa_nonneg, atoi_dec]
theorem numOf_iff (s : Str) (n : Int) : numOf s = some n ↔ s.length ≤ 11 ∧ Lib.itoa n = s := by
  constructor
  · intro h
    unfold numOf at h
    split at h
    · split at h
      · rename_i hc; cases h; exact hc
      · cases h
    · cases h
  · rintro ⟨hl, rfl⟩
    unfold numOf
    rw [Lib.atoiAll_short _ (by omega), atoi_itoa]
    simp only [Lib.NumEnd.ofOption]
    rw [if_pos ⟨hl, trivial⟩]
theorem numRef_iff (s : Str) (n : Int) : numRef s = some n ↔ s.length ≤ 11 ∧ Lib.itoa n = s := by
  constructor
  · intro h
    unfold numRef at h
    split at h
    · cases h
    · rename_i h1
      split at h
      · cases h
      · rename_i h2
        cases hd : Lib.decFrom 0 (digOf s) with
        | none => rw [hd] at h; cases h
        | some u =>
          rw [hd] at h
          have h : (if (digOf s).length < s.length then -(u : Int) else u) = n := Option.some.inj h
          refine ⟨by omega, ?_⟩
          have hne : digOf s ≠ [] := fun e => h1 (.inl (by rw [e]; decide))
          by_cases h45 : s.head? = some 45
          · have hdo : digOf s = s.tail := if_pos h45
            have hs : s = 45 :: s.tail := by
              cases s with
              | nil => cases h45
              | cons c r => obtain rfl : c = 45 := by simpa using h45
                            rfl
            have hlen : s.length = s.tail.length + 1 := by rw [congrArg List.length hs]; simp
            rw [hdo] at h h1 h2 hd hne
            rw [if_pos (by omega)] at h
            have hdd := decFrom_dig0 hne (.inl fun e => h2 ⟨e, by omega⟩) hd
            have hu : 1 ≤ u := by
              rcases Nat.eq_zero_or_pos u with rfl | h'
              · rw [Lib.decDigits_one (by omega)] at hdd
                exact absurd ⟨by rw [← hdd]; rfl, by omega⟩ h2
              · exact h'
            rw [← h, Lib.itoa_neg u hu, hdd]; exact hs.symm
          · have hdo : digOf s = s := if_neg h45
            rw [hdo] at h h1 h2 hd hne
            rw [if_neg (by omega)] at h
            have hp : 0 < s.length := List.length_pos_iff.2 hne
            rw [← h, Lib.itoa_nonneg]
            refine decFrom_dig0 hne ?_ hd
            by_cases e : s.head? = some 48
            · exact .inr (by
                rcases Nat.lt_or_ge 1 s.length with h' | h'
                · exact absurd ⟨e, h'⟩ h2
                · omega)
            · exact .inl e
  · rintro ⟨hl, rfl⟩
    unfold numRef
    rcases Int.lt_or_le n 0 with h | h
    · obtain ⟨u, rfl⟩ : ∃ u : Nat, n = -(u : Int) := ⟨n.natAbs, by omega⟩
      have hu : 1 ≤ u := by omega
      rw [Lib.itoa_neg u hu] at hl ⊢
      have hdo : digOf (45 :: Lib.decDigits u) = Lib.decDigits u := if_pos rfl
      have hp : 0 < (Lib.decDigits u).length := List.length_pos_iff.2 (dec_ne u)
      have hl' : (Lib.decDigits u).length + 1 ≤ 11 := hl
      rw [hdo, if_neg (by rw [List.length_cons]; omega), if_neg (fun e => dec_head hu e.1), decFrom_dec]
      simp
    · obtain ⟨u, rfl⟩ : ∃ u : Nat, n = u := ⟨n.toNat, by omega⟩
      rw [Lib.itoa_nonneg] at hl ⊢
      have hdo : digOf (Lib.decDigits u) = Lib.decDigits u := if_neg (dec_head45 u)
      have hp : 0 < (Lib.decDigits u).length := List.length_pos_iff.2 (dec_ne u)
      rw [hdo, if_neg (by omega), if_neg ?_, decFrom_dec]
      · simp
      · rintro ⟨e, e2⟩
        rcases Nat.eq_zero_or_pos u with rfl | h'
        · rw [Lib.decDigits_one (by omega)] at e2; simp at e2
        · exact dec_head h' e
theorem numRef_eq (s : Str) : numRef s = numOf s := by
  cases h : numOf s with
  | none =>
    cases h2 : numRef s with
    | none => rfl
    | some n => rw [(numOf_iff s n).2 ((numRef_iff s n).1 h2)] at h; cases h
  | some n => exact (numRef_iff s n).2 ((numOf_iff s n).1 h)

/-- Digits so far: the bound. -/
theorem decFrom_lt : ∀ (l : Str) (acc u : Nat), Lib.decFrom acc l = some u → u < (acc + 1) * 10 ^ l.length
  | [], acc, u, h => by obtain rfl := Option.some.inj h; simp
  | c :: r, acc, u, h => by
    unfold Lib.decFrom at h
    split at h
    · rename_i v hv
      obtain ⟨h10, _⟩ := digitVal_inv hv
      have h1 := decFrom_lt r _ u h
      have h2 : (acc * 10 + v + 1) * 10 ^ r.length ≤ ((acc + 1) * 10) * 10 ^ r.length := Nat.mul_le_mul_right _ (by omega)
      rw [List.length_cons, Nat.pow_succ, Nat.mul_comm (10 ^ r.length) 10, ← Nat.mul_assoc]
      omega
    · cases h
end Go.Proofs.YtlfkjbdkbdcdnaaGreatDoor
namespace Go.Proofs.YtlfkjbdkbdcdnaaGreatDoor
open Go.RowKit

abbrev kPart : Str := [112, 97, 114, 116]
abbrev kBucket : Str := [98, 117, 99, 107, 101, 116]
abbrev kTrunc : Str := [116, 114, 117, 110, 99]

/-- What a text cut in two tells: its word, its number; its error's number. -/
def specIn (word d : Str) (is : Bool) (o : Option Int) : Str × Int × Nat :=
  match o with
  | none => ([], 0, 1)
  | some n => if is = true ∧ (word = kBucket ∨ word = kTrunc) ∧ 0 ≤ n ∧ d.length ≤ 9 then if n < 1 ∨ 1000 < n then ([], 0, 2) else (word, n, 0) else ([], 0, 1)
/-- A spec: its word, its number; its error's number. -/
def specOf (s : Str) : Str × Int × Nat :=
  if s = kPart then (kPart, 0, 0) else specIn (Lib.cut s [32]).1 (Lib.cut s [32]).2.1 (Lib.cut s [32]).2.2 (numOf (Lib.cut s [32]).2.1)
/-- The name of a right row's group. -/
def groupIn (word : Str) (n : Int) (r : Rw) : Str :=
  if word = kPart then r.part else if word = kBucket then 98 :: Lib.itoa (r.key % n) else if r.key / n < 0 then 110 :: Lib.itoa (-(r.key / n)) else 116 :: Lib.itoa (r.key / n)
def groupOf (s : Str) (r : Rw) : Str := groupIn (specOf s).1 (specOf s).2.1 r

theorem specIn_right {word d : Str} {is : Bool} {o : Option Int} (h : (specIn word d is o).2.2 = 0) :
    ((specIn word d is o).1 = kBucket ∨ (specIn word d is o).1 = kTrunc) ∧ 1 ≤ (specIn word d is o).2.1 ∧ (specIn word d is o).2.1 ≤ 1000 := by
  unfold specIn at h ⊢
  cases o with
  | none => cases h
  | some n =>
    simp only at h ⊢
    split at h
    · rename_i h1
      rw [if_pos h1]
      split at h
      · cases h
      · rename_i h2
        rw [if_neg h2]
        exact ⟨h1.2.1, by show 1 ≤ n; omega, by show n ≤ 1000; omega⟩
    · cases h
/-- A right spec is 'part', or a word and a number from 1 to 1000. -/
theorem spec_right {s : Str} (h : (specOf s).2.2 = 0) : (specOf s).1 = kPart ∨ (((specOf s).1 = kBucket ∨ (specOf s).1 = kTrunc) ∧ 1 ≤ (specOf s).2.1 ∧ (specOf s).2.1 ≤ 1000) := by
  unfold specOf at h ⊢
  split at h
  · rename_i h1; rw [if_pos h1]; exact .inl rfl
  · rename_i h1; rw [if_neg h1]; exact .inr (specIn_right h)
theorem spec_code (s : Str) : (specOf s).2.2 = 0 ∨ (specOf s).2.2 = 1 ∨ (specOf s).2.2 = 2 := by
  unfold specOf specIn
  split
  · exact .inl rfl
  · split
    · exact .inr (.inl rfl)
    · split
      · split
        · exact .inr (.inr rfl)
        · exact .inl rfl
      · exact .inr (.inl rfl)
/-- A number's text holds no blank. -/
theorem num_blank {s : Str} {n : Int} (h : numOf s = some n) : (32 : UInt8) ∉ s := by
  rw [← numRef_eq] at h
  rw [← ((numRef_iff s n).1 h).2]
  exact not_mem_itoa' (by decide) (by decide)
theorem first_at {c : UInt8} : ∀ {s : Str}, c ∈ s → ∃ p q, s = p ++ c :: q ∧ c ∉ p
  | x :: r, h => by
    by_cases hx : x = c
    · exact ⟨[], r, by rw [hx]; rfl, by simp⟩
    · obtain ⟨p, q, e, hp⟩ := first_at (s := r) (by
        rcases List.mem_cons.1 h with h | h
        · exact absurd h.symm hx
        · exact h)
      exact ⟨x :: p, q, by rw [e]; rfl, by simp only [List.mem_cons, not_or]; exact ⟨fun h => hx h.symm, hp⟩⟩
/-- The document's answer cuts at each blank. -/
theorem spec_cut {s : Str} (h : s ≠ kPart) : specOf s = match cutAt 32 s with
    | [word, d] => specIn word d true (numOf d)
    | _ => ([], 0, 1) := by
  unfold specOf
  rw [if_neg h]
  by_cases hb : (32 : UInt8) ∈ s
  · obtain ⟨p, q, rfl, hp⟩ := first_at hb
    rw [cut_app1 hp, cutAt_app hp]
    by_cases hq : (32 : UInt8) ∈ q
    · obtain ⟨p2, q2, rfl, hp2⟩ := first_at hq
      rw [cutAt_app hp2]
      have hn : numOf (p2 ++ 32 :: q2) = none := by
        cases hh : numOf (p2 ++ 32 :: q2) with
        | none => rfl
        | some n => exact absurd hq (num_blank hh)
      show specIn p (p2 ++ 32 :: q2) true (numOf (p2 ++ 32 :: q2)) = _
      rw [hn]
      have hne := cutAt_ne 32 q2
      cases hc : cutAt 32 q2 with
      | nil => exact absurd hc hne
      | cons x r => rfl
    · rw [cutAt_none hq]
  · rw [cut_none1 hb, cutAt_none hb]
    show specIn s [] false (numOf []) = ([], 0, 1)
    unfold specIn
    split
    · rfl
    · rw [if_neg (by simp)]
end Go.Proofs.YtlfkjbdkbdcdnaaGreatDoor
namespace Go.Proofs.YtlfkjbdkbdcdnaaGreatDoor
open Go.RowKit

/-- What the library's search reads: some number. -/
structure LMax (B : Nat) (w : World) : Prop where
  max : ∃ m, w.cell? ⟨12, 0, none⟩ = some (.int .i64 m)
  low : 21 ≤ B
  le : B ≤ w.heap.size
theorem LMax.below {B : Nat} {w w' : World} (h : LMax B w) (hb : Below B w w') : LMax B w' := by
  obtain ⟨m, hm⟩ := h.max
  have := h.low
  exact ⟨⟨m, (hb.cell (p := ⟨12, 0, none⟩) (by simp; omega)).trans hm⟩, h.low, Nat.le_trans h.le hb.size⟩
theorem LMax.below' {B B' : Nat} {w w' : World} (h : LMax B w) (hb : Below B' w w') (hB : B ≤ B') : LMax B w' := h.below (hb.mono hB)

theorem encS_map (l : List Str) : l.map S = l.flatMap encS := by
  induction l with
  | nil => rfl
  | cons x r ih => simp [ih]

/-- strings.Split(s, c), c one byte. -/
theorem split1_any (B : Nat) (s : Str) (c : UInt8) (w : World) (hM : LMax B w) (hs : s.length ≤ 100000) :
    Calls Tryz.prog 100 #[S s, .string ⟨#[c]⟩] w fun e w' => e = .returned (.slice (some ⟨w.heap.size, 0, none⟩) (cutAt c s).length (cutAt c s).length) ∧ Own encS 9 1 w.heap.size w' (.slice (some ⟨w.heap.size, 0, none⟩) (cutAt c s).length (cutAt c s).length) (cutAt c s) ∧ Below w.heap.size w w' := by
  obtain ⟨m, hm⟩ := hM.max
  refine (Tryz.strings_Split ⟨s.toArray⟩ ⟨#[c]⟩ m w (by show s.toArray.size < _; simp; omega) hm (Nat.le_refl 1)).mono ?_
  rintro e w' ⟨rfl, rfl⟩
  have hlen : Lib.countB ⟨s.toArray⟩ ⟨#[c]⟩ + 1 = (cutAt c s).length := by
    rw [cutAt_length]; unfold Lib.countB; simp [Lib.count_one]
  rw [hlen]
  refine ⟨rfl, ?_, (Below.refl _ _).alloc (Nat.le_refl _) _⟩
  have hc := splitB_cut c s
  refine ⟨by rw [← encS_map]; simp, .inr ⟨w.heap.size, _, _, rfl, Nat.le_refl _, heap_alloc_new w _, Nat.le_refl _, ?_, ?_, ?_⟩⟩
  · have := cutAt_length c s
    have h2 : s.count c ≤ s.length := List.count_le_length
    unfold maxLen; omega
  · have := congrArg List.length hc
    simp at this ⊢; omega
  · rw [← encS_map, ← hc]
    have := congrArg List.length hc
    simp only [List.length_map] at this
    rw [List.take_of_length_le (by simp; omega)]

/-- s[k:] of a slice. -/
theorem slice_from {α : Type} {P : Program} {t e : TypeId} {enc : α → List Value} {sz : Nat} {w : World} {a : Option Addr} {c b o : Nat} {l : List α} (ht : P.underlying t = some (.slice e)) (hsz : ∀ w, (sizeOf e).run P w = .ok sz w)
    (ha : 0 < l.length → a = some ⟨b, o, none⟩) (hc : l.length ≤ c) (hcm : c ≤ maxLen) (hx : ∀ k x, l[k]? = some x → ∀ j u, (enc x)[j]? = some u → w.cell? ⟨b, o + k * sz + j, none⟩ = some u) (k : Nat) (hk : k ≤ l.length) (hk0 : 0 < l.length) :
    ∃ b' o' c', (∀ W, (Instr.slice t (.slice a l.length c) (some (.int .i64 (k : Int))) none none).run P W = .ok (.slice (some ⟨b', o', none⟩) (l.length - k) c') W) ∧ At enc sz w (.slice (some ⟨b', o', none⟩) (l.length - k) c') (l.drop k) := by
  obtain rfl := ha hk0
  have hu : P.elem t = e := by simp [Program.elem, ht]
  have hadd : (⟨b, o, none⟩ : Addr).add (k * sz) = ⟨b, o + k * sz, none⟩ := by unfold Addr.add; split <;> simp_all
  by_cases h : c = k
  · refine ⟨b, o, c - k, fun W => ?_, ?_⟩
    · have hk' : (k : Int) ≤ l.length := by omega
      simp [Instr.slice, Instr.sliceBounds, run_underlying ht, hsz, hk, h, go_sem]
    · have hl : l.length = k := by omega
      refine ⟨_, c - k, b, o, by rw [List.length_drop], fun _ => rfl, by simp; omega, by omega, fun i x hi j u hu => ?_⟩
      rw [List.drop_of_length_le (by omega)] at hi; simp at hi
  · refine ⟨b, o + k * sz, c - k, fun W => ?_, ?_⟩
    · have hk' : (k : Int) ≤ l.length := by omega
      simp [Instr.slice, Instr.sliceBounds, run_underlying ht, hsz, hk, h, go_sem]
    · refine ⟨_, c - k, b, o + k * sz, by rw [List.length_drop], fun _ => rfl, by simp; omega, by omega, fun i x hi j u hu => ?_⟩
      rw [List.getElem?_drop] at hi
      have := hx (k + i) x hi j u hu
      rwa [show o + k * sz + i * sz + j = o + (k + i) * sz + j by rw [Nat.add_mul]; omega]
end Go.Proofs.YtlfkjbdkbdcdnaaGreatDoor
namespace Go.Proofs.YtlfkjbdkbdcdnaaGreatDoor
open Go.RowKit

section
variable {α : Type} {enc : α → List Value} {e : TypeId} {sz B : Nat} {w : World} {v : Value} {l : List α}

theorem Own.open (h : Own enc e sz B w v l) (hpos : 0 < l.length) : ∃ g cap cur, v = .slice (some ⟨g, 0, none⟩) l.length cap ∧ B ≤ g ∧ w.heap[g]? = some (.cells cur e (0, 0)) ∧ l.length ≤ cap ∧ cap ≤ maxLen ∧ cur.size = cap * sz ∧ cur.toList.take (l.length * sz) = l.flatMap enc := by
  obtain ⟨_, h2⟩ := h
  rcases h2 with ⟨_, h0⟩ | ⟨g, cap, cur, h⟩
  · omega
  · exact ⟨g, cap, cur, h⟩
theorem Own.mk {g cap n : Nat} {cur : Array Value} (hen : Enc enc sz) (hn : l.length = n) (hB : B ≤ g) (hg : w.heap[g]? = some (.cells cur e (0, 0))) (hc : n ≤ cap) (hm : cap ≤ maxLen) (hs : cur.size = cap * sz) (ht : cur.toList.take (n * sz) = l.flatMap enc) : Own enc e sz B w (.slice (some ⟨g, 0, none⟩) n cap) l := by
  subst hn
  exact ⟨flat_length hen l, .inr ⟨g, cap, cur, rfl, hB, hg, hc, hm, hs, ht⟩⟩

/-- s[:k] of such a slice. -/
theorem Own.cut {g n cap k : Nat} (hen : Enc enc sz) (h : Own enc e sz B w (.slice (some ⟨g, 0, none⟩) n cap) l) (hk : k ≤ l.length) (hpos : 0 < l.length) : Own enc e sz B w (.slice (some ⟨g, 0, none⟩) k cap) (l.take k) := by
  obtain ⟨g', cap', cur, hv, hB, hg, hc, hm, hs, ht⟩ := h.open hpos
  cases hv
  refine Own.mk hen (by simp; omega) hB hg (by omega) hm hs ?_
  have : l.flatMap enc = (l.take k).flatMap enc ++ (l.drop k).flatMap enc := by rw [← List.flatMap_append, List.take_append_drop]
  have hl : ((l.take k).flatMap enc).length = k * sz := by rw [flat_length hen, List.length_take, Nat.min_eq_left hk]
  have h1 : (cur.toList.take (l.length * sz)).take (k * sz) = cur.toList.take (k * sz) := by
    rw [List.take_take, Nat.min_eq_left (Nat.mul_le_mul_right _ hk)]
  rw [← h1, ht, this, ← hl, List.take_left]

theorem frozen_row {g i : Nat} {cur : Array Value} (hg : w.heap[g]? = some (.cells cur e (0, 0))) : w.frozen? ⟨g, i, none⟩ = false := by
  simp [World.frozen?, hg]
end

theorem flat_one {α : Type} (val : α → Value) (l : List α) : l.flatMap (fun x => [val x]) = l.map val := by
  induction l with
  | nil => rfl
  | cons x r ih => simp [ih]

/-- One element of one cell is written. -/
theorem Own.set1 {α : Type} {val : α → Value} {e : TypeId} {B : Nat} {w : World} {g n cap i : Nat} {l : List α} (hen : Enc (fun x => [val x]) 1) (h : Own (fun x => [val x]) e 1 B w (.slice (some ⟨g, 0, none⟩) n cap) l) (hi : i < l.length) (x : α) :
    Own (fun x => [val x]) e 1 B (w.setCell ⟨g, i, none⟩ (val x)) (.slice (some ⟨g, 0, none⟩) n cap) (l.set i x) := by
  obtain ⟨g', cap', cur, hv, hB, hg, hc, hm, hs, ht⟩ := h.open (by omega)
  cases hv
  have hlt : g < w.heap.size := (Array.getElem?_eq_some_iff.1 hg).1
  refine Own.mk (cur := cur.setIfInBounds i (val x)) hen (by simp) hB ?_ (by omega) hm (by simpa using hs) ?_
  · simp only [World.setCell, Array.getElem?_modify, hg]
    rfl
  · rw [flat_one] at ht ⊢
    simp only [Nat.mul_one] at ht ⊢
    rw [Array.toList_setIfInBounds, List.take_set, ht, List.map_set]

/-- The cells behind are cleared: what lies ahead stays. -/
theorem Own.setRow {α : Type} {enc : α → List Value} {e : TypeId} {sz B : Nat} {w : World} {g n cap k : Nat} {l : List α} {cs : Array Value} (hen : Enc enc sz) (h : Own enc e sz B w (.slice (some ⟨g, 0, none⟩) n cap) l) (hpos : 0 < l.length) (hk : k ≤ l.length) (hsz : cs.size = cap * sz)
    (ht : ∀ cur, w.heap[g]? = some (.cells cur e (0, 0)) → cs.toList.take (k * sz) = cur.toList.take (k * sz)) : Own enc e sz B (w.setRow g cs) (.slice (some ⟨g, 0, none⟩) k cap) (l.take k) := by
  have h' := h.cut (k := k) hen hk hpos
  obtain ⟨g', cap', cur, hv, hB, hg, hc, hm, hs, ht'⟩ := h.open hpos
  cases hv
  refine Own.mk (cur := cs) hen (by simp; omega) hB (setRow_heap w g cur cs e _ hg) (by omega) hm hsz ?_
  rw [ht cur hg]
  have : l.flatMap enc = (l.take k).flatMap enc ++ (l.drop k).flatMap enc := by rw [← List.flatMap_append, List.take_append_drop]
  have hl : ((l.take k).flatMap enc).length = k * sz := by rw [flat_length hen, List.length_take, Nat.min_eq_left hk]
  have h1 : (cur.toList.take (l.length * sz)).take (k * sz) = cur.toList.take (k * sz) := by
    rw [List.take_take, Nat.min_eq_left (Nat.mul_le_mul_right _ hk)]
  rw [← h1, ht', this, ← hl, List.take_left]
theorem Bset {B : Nat} {a w : World} (h : Below B a w) {g : Nat} (hg : B ≤ g) (cs : Array Value) : Below B a (w.setRow g cs) :=
  h.trans ⟨rfl, rfl, rfl, by simp [World.setRow], fun k hk => setRow_other w g k cs (by omega)⟩

/-- clear(s[k:]) of such a slice. -/
theorem run_clear_own {α : Type} {P : Program} {enc : α → List Value} {t e : TypeId} {sz bytes B : Nat} {w : World} {g n cap k : Nat} {l : List α} (hE : ElemInfo P t e sz bytes) (hen : Enc enc sz) (hz1 : ∀ z, (P.info? e).bind (·.zero) = some z → ∀ u ∈ z.cells.toList, u.oneCell' = true)
    (h : Own enc e sz B w (.slice (some ⟨g, 0, none⟩) n cap) l) (hk : k < l.length) (c : Nat) :
    ∃ cs : Array Value, (∀ ty, (Builtin.clear_ #[t] ty #[.slice (some ⟨g, k * sz, none⟩) (n - k) c]).run P w = .ok (.tuple #[]) (w.setRow g cs)) ∧ Own enc e sz B (w.setRow g cs) (.slice (some ⟨g, 0, none⟩) k cap) (l.take k) := by
  obtain ⟨i, z, ht, hi, hz, hsize, hby, hzs, hsz⟩ := hE
  obtain ⟨g', cap', cur, hv, hB, hg, hc, hm, hs, ht'⟩ := h.open (by omega)
  cases hv
  have hnz : (Builtin.zeroCells z.cells (l.length - k)).size = (l.length - k) * sz := by rw [size_zeroCells, hzs]
  have hone : ∀ u ∈ (Builtin.zeroCells z.cells (l.length - k)).toList, u.oneCell' = true := by
    intro u hu
    have hz' := hz1 z (by rw [hi]; exact hz)
    obtain ⟨j, hj, rfl⟩ := Array.getElem_of_mem (Array.mem_def.2 hu)
    simp only [Builtin.zeroCells, Array.getElem_map, Array.getElem_range]
    rw [getElem!_pos z.cells (j % z.cells.size) (Nat.mod_lt _ (by omega))]
    exact hz' _ (by simp)
  have hmul : k * sz + (l.length - k) * sz = l.length * sz := by rw [← Nat.add_mul]; congr 1; omega
  have hle : l.length * sz ≤ cap * sz := Nat.mul_le_mul_right _ hc
  have hrun := run_storeCells_at P g (k * sz) e (Builtin.zeroCells z.cells (l.length - k)).toList 0 cur w hg (by rw [Array.length_toList, hnz]; omega) hone
  simp only [Nat.add_zero] at hrun
  refine ⟨(cur.toList.take (k * sz) ++ (Builtin.zeroCells z.cells (l.length - k)).toList ++ cur.toList.drop (k * sz + (Builtin.zeroCells z.cells (l.length - k)).toList.length)).toArray, fun ty => ?_, h.setRow hen (by omega) (by omega) ?_ ?_⟩
  · obtain ⟨d, hd⟩ : ∃ d, l.length - k = d + 1 := ⟨l.length - k - 1, by omega⟩
    rw [hd] at hrun ⊢
    simp [Builtin.clear_, run_underlying ht, zeroValue, typeInfo, hi, hz, hrun]
  · simp [hnz, Array.length_toList]; omega
  · intro cur' hg'
    rw [hg] at hg'
    cases hg'
    simp only [List.append_assoc]
    rw [List.take_append_of_le_length (by simp; omega), List.take_take, Nat.min_self]
end Go.Proofs.YtlfkjbdkbdcdnaaGreatDoor
namespace Go.Proofs.YtlfkjbdkbdcdnaaGreatDoor
open Go.RowKit

theorem dropWhile_nilP {α : Type} {p : α → Bool} : ∀ {l : List α}, l.dropWhile p = [] ↔ l.all p = true
  | [] => by simp
  | a :: r => by
    rw [List.dropWhile_cons, List.all_cons]
    cases h : p a with
    | true => simp [dropWhile_nilP (l := r)]
    | false => simp
theorem trimS_nilP (l cs : Str) : Lib.trimS l cs = [] ↔ l.all (fun b => cs.contains b) = true := by
  have hr : Lib.trimRightS l cs = [] ↔ l.all (fun b => cs.contains b) = true := by
    unfold Lib.trimRightS
    rw [List.reverse_eq_nil_iff, dropWhile_nilP, List.all_reverse]
  unfold Lib.trimS
  constructor
  · intro h
    refine hr.1 ?_
    unfold Lib.trimLeftS at h
    rw [dropWhile_nilP] at h
    cases hd : l.reverse.dropWhile (fun b => cs.contains b) with
    | nil => unfold Lib.trimRightS; rw [hd]; rfl
    | cons a r =>
      have ha : cs.contains a = false := by
        have := List.head?_dropWhile_not (fun b => cs.contains b) l.reverse
        rw [hd] at this
        simpa using this
      have hm : a ∈ Lib.trimRightS l cs := by unfold Lib.trimRightS; rw [hd]; simp
      have := List.all_eq_true.1 h a hm
      rw [ha] at this; cases this
  · intro h
    rw [hr.2 h]; rfl
end Go.Proofs.YtlfkjbdkbdcdnaaGreatDoor
namespace Go.Proofs.YtlfkjbdkbdcdnaaGreatDoor
open Go.RowKit

abbrev encF (f : Fl) : List Value := [S f.path, S f.part, .int .i64 f.n, .int .i64 f.lo, .int .i64 f.hi, .int .i64 f.seq]
theorem encF_enc : Enc encF 6 := fun x => ⟨rfl, by simp [Value.oneCell']⟩
abbrev FilesAt (w : World) (v : Value) (l : List Fl) : Prop := At encF 6 w v l
theorem szFl (w : World) : (sizeOf 79).run Tryz.prog w = .ok 6 w := by kernel_rfl
abbrev fileV (f : Fl) : Value := .agg #[S f.path, S f.part, .int .i64 f.n, .int .i64 f.lo, .int .i64 f.hi, .int .i64 f.seq]
abbrev fileO (f : Fl) : Obj := .cells #[S f.path, S f.part, .int .i64 f.n, .int .i64 f.lo, .int .i64 f.hi, .int .i64 f.seq] 79

theorem cutSl_any (B : Nat) (s : Str) (w : World) (hM : LMax B w) (hs : s.length ≤ 100000) :
    Calls Tryz.prog 98 #[S s, .string ⟨#[47]⟩] w fun e w' => e = .returned (.tuple #[S (Lib.cut s [47]).1, S (Lib.cut s [47]).2.1, .bool (Lib.cut s [47]).2.2]) ∧ Below w.heap.size w w' := by
  obtain ⟨m, hm⟩ := hM.max
  refine (Tryz.strings_Cut ⟨s.toArray⟩ ⟨#[47]⟩ m w (by show s.toArray.size < _; simp; omega) hm).mono ?_
  rintro e w' ⟨rfl, n, rfl⟩
  exact ⟨rfl, Bdn (Below.refl _ _) n⟩
theorem cut_len (s sep : Str) : (Lib.cut s sep).1.length ≤ s.length ∧ (Lib.cut s sep).2.1.length ≤ s.length := by
  unfold Lib.cut
  split
  · simp; omega
  · simp

set_option maxRecDepth 20000 in
theorem fileNumber_any (E : Nat → Addr) (B : Nat) (p : Str) (w : World) (hE : Errs [5] E B w) (hT : LNum B w) (hM : LMax B w) (hs : p.length ≤ 100000) :
    Calls Tryz.prog 44 #[S p] w fun e w' => ∃ ev, e = .returned (.tuple #[S (kindF p), .int .i64 (numF p), ev]) ∧ ErV E w' ev (if (pathF p).isSome then .nil else .bare 5) ∧ Below w.heap.size w w' := by
  have hcl := (cut_len p [47]).2
  have hpf : pathF p = if (Lib.cut p [47]).2.2 = true ∧ ((Lib.cut p [47]).1 = kData ∨ (Lib.cut p [47]).1 = kGone) then
    (numOf (Lib.cut p [47]).2.1).bind fun n => if n < 1 ∨ 1073741824 < n then none else some ((Lib.cut p [47]).1, n) else none := rfl
  have hk : kindF p = ((pathF p).getD ([], 0)).1 := rfl
  have hn : numF p = ((pathF p).getD ([], 0)).2 := rfl
  have hcut := cutSl_any B p w hM hs
  generalize (Lib.cut p [47]).1 = k at *
  generalize (Lib.cut p [47]).2.1 = d at *
  generalize (Lib.cut p [47]).2.2 = is at *
  generalize pathF p = pf at *
  have hE1 := fun w1 (hb : Below w.heap.size w w1) => (hE.below' hb hE.le).var 5 (by decide)
  simp only [errG] at hE1
  have HE1 := Lib.hid hE1
  clear hE1
  have HK := Lib.hid hk; have HN := Lib.hid hn; have HP := Lib.hid hpf; have HC := Lib.hid hcut
  clear hk hn hpf hcut
  go_enter Tryz.func44, Tryz.ntmps44
  go_wp2_with fail
  refine HC.out.mono ?_
  rintro e w1 ⟨rfl, hb1⟩
  go_wp2_with fail
  refine (number_any B d _ (hT.below' hb1 hT.le) (by omega)).mono ?_
  rintro e w2 ⟨rfl, hb2⟩
  have hb2' := hb1.trans (hb2.mono hb1.size)
  have v5 := HE1.out _ hb2'
  obtain ⟨m, hm⟩ : ∃ m, atoiN d = m := ⟨_, rfl⟩
  obtain ⟨o, ho⟩ : ∃ o, numOf d = o := ⟨_, rfl⟩
  have hom : ∀ n, o = some n → m = n := fun n h => by rw [← hm, ← numOf_atoiN (ho.trans h)]
  rw [hm, ho]
  have HO := Lib.hid ho
  clear hm ho hb1 hb2
  cases is with
  | false =>
    have hp : pf = none := by rw [HP.out]; simp
    subst hp
    have HK' := Lib.hid (HK.out.trans rfl); have HN' := Lib.hid (HN.out.trans rfl)
    clear hom
    go_wp2_with fail
    go_quiet (fail)
    go_wp2_with fail
    go_ret3
    exact ⟨_, by rw [HK'.out, HN'.out]; rfl, ⟨by decide, rfl⟩, Bdn hb2' _⟩
  | true =>
    by_cases hk1 : k = kData ∨ k = kGone
    case neg =>
      have g1 : (k == kData) = false := by simp only [beq_eq_false_iff_ne]; exact fun e => hk1 (.inl e)
      have g2 : (k == kGone) = false := by simp only [beq_eq_false_iff_ne]; exact fun e => hk1 (.inr e)
      have hp : pf = none := by rw [HP.out, if_neg (fun h => hk1 h.2)]
      subst hp
      clear hom hk1
      have HK' := Lib.hid (HK.out.trans rfl); have HN' := Lib.hid (HN.out.trans rfl)
      go_wp2_with fail
      go_quiet (fail)
      go_wp2_with fail
      go_ret3
      exact ⟨_, by rw [HK'.out, HN'.out]; rfl, ⟨by decide, rfl⟩, Bdn hb2' _⟩
    have hp0 : pf = o.bind fun n => if n < 1 ∨ 1073741824 < n then none else some (k, n) := by rw [HP.out, if_pos ⟨rfl, hk1⟩, HO.out]
    have HP0 := Lib.hid hp0
    have hkk : k.length ≤ 4 := by rcases hk1 with rfl | rfl <;> decide
    rcases hk1 with rfl | rfl
    all_goals
      clear hp0
      cases o with
      | none =>
        have hp : pf = none := by rw [HP0.out]; rfl
        subst hp
        clear hom
        have HK' := Lib.hid (HK.out.trans rfl); have HN' := Lib.hid (HN.out.trans rfl)
        go_wp2_with fail
        go_quiet (fail)
        go_wp2_with fail
        go_ret3
        exact ⟨_, by rw [HK'.out, HN'.out]; rfl, ⟨by decide, rfl⟩, Bdn hb2' _⟩
      | some n =>
        obtain rfl : m = n := hom n rfl
        clear hom
        by_cases h1 : m < 1
        case pos =>
          have hp : pf = none := by rw [HP0.out, Option.bind_some, if_pos (.inl h1)]
          subst hp
          have HK' := Lib.hid (HK.out.trans rfl); have HN' := Lib.hid (HN.out.trans rfl)
          go_wp2_with fail
          go_quiet (fail)
          go_wp2_with fail
          go_ret3
          exact ⟨_, by rw [HK'.out, HN'.out]; rfl, ⟨by decide, rfl⟩, Bdn hb2' _⟩
        by_cases h2 : 1073741824 < m
        case pos =>
          have hp : pf = none := by rw [HP0.out, Option.bind_some, if_pos (.inr h2)]
          subst hp
          have g1 : decide (m < 1) = false := by simpa using h1
          have HK' := Lib.hid (HK.out.trans rfl); have HN' := Lib.hid (HN.out.trans rfl)
          go_wp2_with fail
          go_quiet (fail)
          go_wp2_with fail
          go_ret3
          exact ⟨_, by rw [HK'.out, HN'.out]; rfl, ⟨by decide, rfl⟩, Bdn hb2' _⟩
        have hp := HP0.out
        rw [Option.bind_some, if_neg (by omega)] at hp
        subst hp
        have g1 : decide (m < 1) = false := by simpa using h1
        have g2 : decide (1073741824 < m) = false := by simpa using h2
        have HK' := Lib.hid (HK.out.trans rfl); have HN' := Lib.hid (HN.out.trans rfl)
        go_wp2_with fail
        go_ret3
        exact ⟨_, by rw [HK'.out, HN'.out]; rfl, rfl, hb2'⟩

theorem trimPart_any (s : Str) (w : World) (hs : s.length ≤ 100000) :
    Calls Tryz.prog 132 #[S s, .string ⟨#[97, 98, 99, 100, 101, 102, 103, 104, 105, 106, 107, 108, 109, 110, 111, 112, 113, 114, 115, 116, 117, 118, 119, 120, 121, 122, 48, 49, 50, 51, 52, 53, 54, 55, 56, 57]⟩] w
      fun e w' => e = .returned (S (Lib.trimS s partSigns)) ∧ Below w.heap.size w w' := by
  have h := Any.strings_Trim_laid Tryz.lays160 (by kernel_rfl) ⟨s.toArray⟩ ⟨partSigns.toArray⟩ w (by simp [ByteArray.size]; omega) (by decide) (ascii_of_all (by decide))
  exact h
set_option maxRecDepth 20000 in
theorem part_any (k s : Str) (w : World) (hs : s.length ≤ 100000) :
    Calls Tryz.prog 99 #[S k, S s] w fun e w' => e = .returned (.bool (partOk k s)) ∧ Below w.heap.size w w' := by
  unfold partOk
  by_cases hk : k = kGone
  · subst hk
    rw [if_pos rfl]
    go_enter Tryz.func99, Tryz.ntmps99
    go_wp2_with fail
    go_ret
    exact ⟨rfl, Below.refl _ _⟩
  rw [if_neg hk]
  have gk : (k == kGone) = false := by simpa using hk
  by_cases h0 : s = []
  · subst h0
    go_enter Tryz.func99, Tryz.ntmps99
    go_wp2_with fail
    go_ret
    exact ⟨rfl, Below.refl _ _⟩
  have g0 : (!s.isEmpty) = true := by simpa using h0
  have e0 : decide (s ≠ []) = true := by simpa using h0
  rw [e0, Bool.true_and]
  by_cases h1 : s.length ≤ 12
  · have g1 : decide ((s.length : Int) ≤ 12) = true := by simp; omega
    have g2 : (s.length : Int) ≤ 12 := by omega
    have e1 : decide (s.length ≤ 12) = true := by simpa using h1
    rw [e1, Bool.true_and]
    go_enter Tryz.func99, Tryz.ntmps99
    go_wp2_with fail
    refine (trimPart_any s _ hs).mono ?_
    rintro e w1 ⟨rfl, hb1⟩
    have hT : (Lib.trimS s partSigns).isEmpty = s.all (fun b => partSigns.contains b) := by
      rw [Bool.eq_iff_iff, List.isEmpty_iff, trimS_nilP]
    have HT := Lib.hid hT; clear hT
    generalize Lib.trimS s partSigns = T at *
    go_wp2_with fail
    go_ret
    exact ⟨ret_bool (by first | exact HT.out | (rw [← HT.out]; cases T <;> rfl)), hb1⟩
  · have g1 : decide ((s.length : Int) ≤ 12) = false := by simp; omega
    have e1 : decide (s.length ≤ 12) = false := by simpa using h1
    rw [e1, Bool.false_and]
    go_enter Tryz.func99, Tryz.ntmps99
    go_wp2_with fail
    go_ret
    exact ⟨rfl, Below.refl _ _⟩
theorem far_any (n : Int) (w : World) :
    Calls Tryz.prog 64 #[.int .i64 n] w fun e w' => e = .returned (.bool (decide (farN n))) ∧ w = w' := by
  by_cases h1 : n < -1073741824
  · have g : decide (farN n) = true := decide_eq_true (.inl h1)
    rw [g]
    clear g
    go_enter Tryz.func64, Tryz.ntmps64
    go_wp2_with fail
    go_ret
    exact ⟨rfl, rfl⟩
  · have g1 : decide (n < -1073741824) = false := by simpa using h1
    by_cases h2 : 1073741824 < n
    · have g : decide (farN n) = true := decide_eq_true (.inr h2)
      rw [g]
      clear g h1
      go_enter Tryz.func64, Tryz.ntmps64
      go_wp2_with fail
      go_ret
      exact ⟨rfl, rfl⟩
    · have g : decide (farN n) = false := decide_eq_false (fun h => h.elim h1 h2)
      have g2 : decide (1073741824 < n) = false := by simpa using h2
      rw [g]
      clear g h1 h2
      go_enter Tryz.func64, Tryz.ntmps64
      go_wp2_with fail
      go_ret
      exact ⟨rfl, rfl⟩
end Go.Proofs.YtlfkjbdkbdcdnaaGreatDoor
