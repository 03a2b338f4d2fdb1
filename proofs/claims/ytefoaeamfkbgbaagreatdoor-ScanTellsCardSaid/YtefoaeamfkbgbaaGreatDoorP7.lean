/- Rising lists of numbers without doubles; sorted and compacted; the least and the greatest. Of no program. Rows in plain words: of no program. Parts in plain words: a spec, a row's group. Files of keys in plain words: a head and lines; what is made, what is read; the two agree. -/
import Derived.Test.YtefoaeamfkbgbaaGreatDoorP5
import Derived.Test.YtefoaeamfkbgbaaGreatDoorP6
import Derived.Test.YtefoaeamfkbgbaaGreatDoorP4
namespace Go.Proofs.YtefoaeamfkbgbaaGreatDoor
open Go.RowKit

/-- A number more, in a rising list without doubles. -/
def withI : List Int → Int → List Int
  | [], n => [n]
  | x :: r, n => if x < n then x :: withI r n else if x = n then x :: r else n :: x :: r
theorem withI_at : ∀ {l : List Int} {s : Int} {k : Nat}, k ≤ l.length → (∀ j < k, ∀ x, l[j]? = some x → x < s) → (∀ x, l[k]? = some x → s ≤ x) → withI l s = if l[k]? = some s then l else l.take k ++ s :: l.drop k
  | [], s, 0, _, _, _ => by simp [withI]
  | [], _, _ + 1, h, _, _ => by simp at h
  | x :: r, s, 0, _, _, h2 => by
    have hx := h2 x rfl
    unfold withI
    rw [if_neg (by omega)]
    by_cases he : x = s
    · rw [if_pos he, if_pos (by simp [he])]
    · rw [if_neg he, if_neg (by simpa using he)]; rfl
  | x :: r, s, k + 1, h, h1, h2 => by
    have hx := h1 0 (by omega) x rfl
    unfold withI
    rw [if_pos hx, withI_at (k := k) (by simpa using h) (fun j hj y hy => h1 (j + 1) (by omega) y (by simpa using hy)) (fun y hy => h2 y (by simpa using hy))]
    rw [List.getElem?_cons_succ]
    split <;> rfl
theorem withI_len (l : List Int) (s : Int) : (withI l s).length ≤ l.length + 1 := by
  induction l with
  | nil => simp [withI]
  | cons x r ih =>
    unfold withI
    split
    · simpa using ih
    · split <;> simp
theorem mem_withI {x s : Int} {l : List Int} : x ∈ withI l s ↔ x = s ∨ x ∈ l := by
  induction l with
  | nil => simp [withI]
  | cons y r ih =>
    unfold withI
    split
    · rw [List.mem_cons, ih, List.mem_cons]
      exact ⟨fun h => by rcases h with h | h | h <;> simp [h], fun h => by rcases h with h | h | h <;> simp [h]⟩
    · split
      · rename_i h; subst h; simp
      · rw [List.mem_cons]
def upI (l : List Int) : Prop := l.Pairwise (fun a b => a < b)
theorem up_withI {s : Int} : ∀ {l : List Int}, upI l → upI (withI l s)
  | [], _ => by simp [withI, upI]
  | x :: r, h => by
    obtain ⟨h1, h2⟩ := List.pairwise_cons.1 h
    unfold withI
    split
    · rename_i hb
      refine List.pairwise_cons.2 ⟨fun y hy => ?_, up_withI h2⟩
      rcases mem_withI.1 hy with rfl | hy
      · exact hb
      · exact h1 y hy
    · rename_i hb
      split
      · exact h
      · rename_i hne
        refine List.pairwise_cons.2 ⟨fun y hy => ?_, h⟩
        rcases List.mem_cons.1 hy with rfl | hy
        · omega
        · have := h1 y hy; omega
theorem upI_ext : ∀ {a b : List Int}, upI a → upI b → (∀ x, x ∈ a ↔ x ∈ b) → a = b
  | [], [], _, _, _ => rfl
  | [], y :: t, _, _, h => absurd ((h y).2 (by simp)) (by simp)
  | x :: r, [], _, _, h => absurd ((h x).1 (by simp)) (by simp)
  | x :: r, y :: t, ha, hb, h => by
    obtain ⟨ha1, ha2⟩ := List.pairwise_cons.1 ha
    obtain ⟨hb1, hb2⟩ := List.pairwise_cons.1 hb
    have hxy : x = y := by
      rcases List.mem_cons.1 ((h x).1 (by simp)) with e | e
      · exact e
      · rcases List.mem_cons.1 ((h y).2 (by simp)) with e' | e'
        · exact e'.symm
        · have k1 := hb1 x e
          have k2 := ha1 y e'
          omega
    subst hxy
    congr 1
    refine upI_ext ha2 hb2 fun z => ?_
    have hz := h z
    simp only [List.mem_cons] at hz
    constructor
    · intro m
      rcases hz.1 (.inr m) with e | e
      · have := ha1 z m; omega
      · exact e
    · intro m
      rcases hz.2 (.inr m) with e | e
      · have := hb1 z m; omega
      · exact e
/-- Numbers rising, each once. -/
def risOf (l : List Int) : List Int := l.foldl withI []
theorem foldI_up : ∀ (xs l : List Int), upI l → upI (xs.foldl withI l)
  | [], _, h => h
  | _ :: xs, _, h => foldI_up xs _ (up_withI h)
theorem mem_foldI {x : Int} : ∀ (xs l : List Int), x ∈ xs.foldl withI l ↔ x ∈ l ∨ x ∈ xs
  | [], l => by simp
  | y :: xs, l => by
    rw [List.foldl_cons, mem_foldI xs, mem_withI, List.mem_cons]
    exact ⟨fun h => by rcases h with (h | h) | h <;> simp [h], fun h => by rcases h with h | h | h <;> simp [h]⟩
theorem foldI_len : ∀ (xs l : List Int), (xs.foldl withI l).length ≤ l.length + xs.length
  | [], _ => Nat.le_refl _
  | x :: xs, l => by
    have h1 := foldI_len xs (withI l x)
    have h2 := withI_len l x
    rw [List.foldl_cons, List.length_cons]; omega
theorem risOf_up (l : List Int) : upI (risOf l) := foldI_up l [] List.Pairwise.nil
theorem mem_risOf {x : Int} {l : List Int} : x ∈ risOf l ↔ x ∈ l := by unfold risOf; rw [mem_foldI]; simp
theorem risOf_len (l : List Int) : (risOf l).length ≤ l.length := by have := foldI_len l []; simpa [risOf] using this
theorem risOf_snoc (l : List Int) (x : Int) : risOf (l ++ [x]) = withI (risOf l) x := by unfold risOf; rw [List.foldl_append]; rfl
theorem mem_compactUpToI {d : Array Int} {x : Int} : ∀ {m : Nat}, x ∈ Lib.compactUpTo d m ↔ ∃ j < m, d[j]! = x
  | 0 => by simp [Lib.compactUpTo]
  | m + 1 => by
    rw [Lib.compactUpTo_succ, List.mem_append, mem_compactUpToI (m := m)]
    constructor
    · rintro (⟨j, h1, h2⟩ | h)
      · exact ⟨j, by omega, h2⟩
      · split at h
        · exact ⟨m, by omega, (List.mem_singleton.1 h).symm⟩
        · cases h
    · rintro ⟨j, h1, h2⟩
      rcases Nat.lt_or_ge j m with h | h
      · exact .inl ⟨j, h, h2⟩
      · obtain rfl : j = m := by omega
        cases hk : Lib.keeps d j with
        | true => exact .inr (by simp [h2])
        | false =>
          unfold Lib.keeps at hk
          have hk := of_decide_eq_false hk
          have h0 : j ≠ 0 := fun e => hk (.inl e)
          have h3 : d[j]! = d[j - 1]! := Decidable.byContradiction fun e => hk (.inr e)
          exact .inl ⟨j - 1, by omega, by rw [← h3, h2]⟩
theorem mem_compactI {l : List Int} {x : Int} : x ∈ Lib.compact l ↔ x ∈ l := by
  unfold Lib.compact
  rw [mem_compactUpToI]
  constructor
  · rintro ⟨j, h1, h2⟩
    rw [← h2]
    simp [h1]
  · intro h
    obtain ⟨j, h1, h2⟩ := List.getElem_of_mem h
    exact ⟨j, h1, by simp [h1, h2]⟩
theorem up_compactI {l : List Int} (h : l.Pairwise (fun a b => a ≤ b)) : upI (Lib.compact l) := by
  have hi := List.pairwise_iff_getElem.1 h
  unfold Lib.compact Lib.compactUpTo upI
  refine List.pairwise_map.2 (List.pairwise_filter.2 ?_)
  refine List.Pairwise.imp_of_mem (fun {a b} ha hb hab => ?_) List.pairwise_lt_range
  intro _ hkb
  have ha' : a < l.length := List.mem_range.1 ha
  have hb' : b < l.length := List.mem_range.1 hb
  unfold Lib.keeps at hkb
  have hk := (of_decide_eq_true hkb).resolve_left (by omega)
  have g : ∀ j (hj : j < l.length), l.toArray[j]! = l[j] := fun j hj => by simp [hj]
  rw [g b hb', g (b - 1) (by omega)] at hk
  rw [g a ha', g b hb']
  have k1 := hi (b - 1) b (by omega) hb' (by omega)
  rcases Nat.lt_or_ge a (b - 1) with hlt | hge
  · have k2 := hi a (b - 1) ha' (by omega) hlt
    omega
  · have : a = b - 1 := by omega
    subst this
    omega
abbrev sortI (l : List Int) : List Int := l.mergeSort fun x y => decide (x ≤ y)
theorem sortedI_le (l : List Int) : (sortI l).Pairwise (fun a b => a ≤ b) := by
  have := List.pairwise_mergeSort (le := fun (x y : Int) => decide (x ≤ y)) (fun a b c h1 h2 => by simp only [decide_eq_true_eq] at *; omega) (fun a b => by
    simp only [Bool.or_eq_true, decide_eq_true_eq]; omega) l
  exact this.imp fun {a b} h => of_decide_eq_true h
theorem compact_sort (l : List Int) : Lib.compact (sortI l) = risOf l :=
  upI_ext (up_compactI (sortedI_le l)) (risOf_up l) fun x => by rw [mem_compactI, (List.mergeSort_perm l _).mem_iff, mem_risOf]
end Go.Proofs.YtefoaeamfkbgbaaGreatDoor
namespace Go.Proofs.YtefoaeamfkbgbaaGreatDoor
open Go.RowKit

/-- A row. -/
structure Rw where
  part : Str
  key : Int
  val : Int
  deriving DecidableEq, Inhabited

/-- Is a text a name? -/
def nameOk (s : Str) : Bool := decide (s ≠ []) && (decide (s.length ≤ 8) && s.all (fun b => partSigns.contains b))
/-- A row's fault, by its number. -/
def rowCheck (r : Rw) : Nat := if nameOk r.part = false then 5 else if farN r.key ∨ farN r.val then 2 else 0
def rowLine (r : Rw) : Str := r.part ++ numsTail [r.key, r.val]
def rowText (r : Rw) : Str := if rowCheck r = 0 then rowLine r else []
def zeroR : Rw := ⟨[], 0, 0⟩
def rowOf : List Str → Option Rw
  | [p, a, b] =>
    match numsOf [a, b] with
    | some [k, v] => some ⟨p, k, v⟩
    | _ => none
  | _ => none
def rowRead (s : Str) : Rw × Nat :=
  match rowOf (cutAt 32 s) with
  | none => (zeroR, 1)
  | some r => if rowCheck r = 0 then (r, 0) else (zeroR, rowCheck r)

theorem rowCheck_zero {r : Rw} (h : rowCheck r = 0) : nameOk r.part = true ∧ ¬ farN r.key ∧ ¬ farN r.val := by
  unfold rowCheck at h
  split at h
  · cases h
  · rename_i h1
    split at h
    · cases h
    · rename_i h2
      exact ⟨by simpa using h1, fun h => h2 (.inl h), fun h => h2 (.inr h)⟩
theorem name_sign {s : Str} (h : nameOk s = true) : (∀ c ∈ s, c = 45 ∨ 47 ≤ c.toNat) ∧ 1 ≤ s.length ∧ s.length ≤ 8 := by
  simp only [nameOk, Bool.and_eq_true, decide_eq_true_eq, List.all_eq_true] at h
  obtain ⟨h1, h2, h3⟩ := h
  refine ⟨fun c hc => ?_, by cases s with | nil => exact absurd rfl h1 | cons _ _ => simp, h2⟩
  have h4 := h3 c hc
  have h5 : ∀ d ∈ partSigns, d = 45 ∨ 47 ≤ d.toNat := by decide
  exact h5 c (by simpa using h4)
theorem rowRead_line {r : Rw} (h : rowCheck r = 0) : rowRead (rowLine r) = (r, 0) := by
  obtain ⟨h1, h2, h3⟩ := rowCheck_zero h
  have hno : (32 : UInt8) ∉ r.part := not_mem_sign (name_sign h1).1 (by decide) (by decide)
  have hc : cutAt 32 (rowLine r) = r.part :: [r.key, r.val].map Lib.itoa := cut_nums _ _ hno
  have hb : ∀ x ∈ [r.key, r.val], -10000000000 < x ∧ x < 10000000000 := by
    unfold farN at h2 h3
    intro x hx
    simp only [List.mem_cons, List.not_mem_nil, or_false] at hx
    rcases hx with rfl | rfl <;> omega
  have hn : numsOf [Lib.itoa r.key, Lib.itoa r.val] = some [r.key, r.val] := numsOf_map [r.key, r.val] hb
  have hr : rowOf [r.part, Lib.itoa r.key, Lib.itoa r.val] = some r := by
    show (match numsOf [Lib.itoa r.key, Lib.itoa r.val] with | some [k, v] => some ⟨r.part, k, v⟩ | _ => none) = some r
    rw [hn]
  unfold rowRead
  rw [hc]
  show (match rowOf [r.part, Lib.itoa r.key, Lib.itoa r.val] with | none => (zeroR, 1) | some r => if rowCheck r = 0 then (r, 0) else (zeroR, rowCheck r)) = (r, 0)
  rw [hr]
  show (if rowCheck r = 0 then (r, 0) else (zeroR, rowCheck r)) = (r, 0)
  rw [if_pos h]
theorem rowRead_none {s : Str} (h : rowOf (cutAt 32 s) = none) : rowRead s = (zeroR, 1) := by unfold rowRead; rw [h]
theorem rowRead_some {s : Str} {r : Rw} (h : rowOf (cutAt 32 s) = some r) : rowRead s = if rowCheck r = 0 then (r, 0) else (zeroR, rowCheck r) := by unfold rowRead; rw [h]
theorem rowOf_len {l : List Str} (h : l.length ≠ 3) : rowOf l = none := by
  match l, h with
  | [], _ => rfl
  | [_], _ => rfl
  | [_, _], _ => rfl
  | [_, _, _], h => exact absurd rfl h
  | _ :: _ :: _ :: _ :: _, _ => rfl
theorem three_strs {l : List Str} (h : l.length = 3) : ∃ p a b, l = [p, a, b] := by
  match l, h with
  | [p, a, b], _ => exact ⟨p, a, b, rfl⟩
theorem two_ints {l : List Int} (h : l.length = 2) : ∃ a b, l = [a, b] := by
  match l, h with
  | [a, b], _ => exact ⟨a, b, rfl⟩
theorem rowOf_nums {p a b : Str} (h : numsOf [a, b] = none) : rowOf [p, a, b] = none := by
  show (match numsOf [a, b] with | some [k, v] => some (⟨p, k, v⟩ : Rw) | _ => none) = none
  rw [h]
theorem rowOf_two {p a b : Str} {k v : Int} (h : numsOf [a, b] = some [k, v]) : rowOf [p, a, b] = some ⟨p, k, v⟩ := by
  show (match numsOf [a, b] with | some [k, v] => some (⟨p, k, v⟩ : Rw) | _ => none) = some ⟨p, k, v⟩
  rw [h]
theorem rowRead_check {s : Str} (h : (rowRead s).2 = 0) : rowCheck (rowRead s).1 = 0 := by
  cases hr : rowOf (cutAt 32 s) with
  | none => rw [rowRead_none hr] at h; cases h
  | some r =>
    rw [rowRead_some hr] at h ⊢
    by_cases h0 : rowCheck r = 0
    · rw [if_pos h0]; exact h0
    · rw [if_neg h0] at h; exact absurd h h0

/-- The order of rows. -/
def lessR (a b : Rw) : Bool := if a.part ≠ b.part then bef a.part b.part else if a.key ≠ b.key then decide (a.key < b.key) else decide (a.val < b.val)
def cmpI (a b : Int) : Int := if a < b then -1 else if b < a then 1 else 0
def cmpS (a b : Str) : Int := if bef a b = true then -1 else if bef b a = true then 1 else 0
def cmpR (a b : Rw) : Int := if cmpS a.part b.part ≠ 0 then cmpS a.part b.part else if cmpI a.key b.key ≠ 0 then cmpI a.key b.key else cmpI a.val b.val
theorem bef_irrefl (a : Str) : bef a a = false := by
  cases h : bef a a with
  | false => rfl
  | true => have := up_asym h; rw [h] at this; exact this
theorem bef_or : ∀ {a b : Str}, a ≠ b → bef a b = true ∨ bef b a = true
  | [], [], h => absurd rfl h
  | [], _ :: _, _ => .inl rfl
  | _ :: _, [], _ => .inr rfl
  | a :: r, b :: s, h => by
    show (decide (a < b) || (a == b && bytesBefore r s)) = true ∨ (decide (b < a) || (b == a && bytesBefore s r)) = true
    by_cases hab : a = b
    · subst hab
      have hrs : r ≠ s := fun e => h (by rw [e])
      rcases bef_or hrs with h1 | h1
      · left; have h1 : bytesBefore r s = true := h1; simp [h1]
      · right; have h1 : bytesBefore s r = true := h1; simp [h1]
    · rcases Nat.lt_or_gt_of_ne (fun e => hab (UInt8.toNat_inj.1 e)) with h1 | h1
      · left; simp [UInt8.lt_iff_toNat_lt, h1]
      · right; simp [UInt8.lt_iff_toNat_lt, h1]
theorem cmpS_zero {a b : Str} : cmpS a b = 0 ↔ a = b := by
  unfold cmpS
  constructor
  · intro h
    by_cases hab : a = b
    · exact hab
    · rcases bef_or hab with h1 | h1
      · rw [if_pos h1] at h; cases h
      · rw [if_neg (by rw [up_asym h1]; decide), if_pos h1] at h; cases h
  · rintro rfl
    rw [if_neg (by rw [bef_irrefl]; decide), if_neg (by rw [bef_irrefl]; decide)]
theorem cmpI_zero {a b : Int} : cmpI a b = 0 ↔ a = b := by
  unfold cmpI
  split
  · omega
  · split <;> omega
theorem cmpR_less (a b : Rw) : decide (cmpR a b < 0) = lessR a b := by
  unfold cmpR lessR
  by_cases h1 : a.part = b.part
  · rw [if_neg (fun h : cmpS a.part b.part ≠ 0 => h (cmpS_zero.2 h1)), if_neg (fun h : a.part ≠ b.part => h h1)]
    by_cases h2 : a.key = b.key
    · rw [if_neg (fun h : cmpI a.key b.key ≠ 0 => h (cmpI_zero.2 h2)), if_neg (fun h : a.key ≠ b.key => h h2)]
      unfold cmpI
      by_cases h3 : a.val < b.val
      · simp [h3]
      · by_cases h4 : b.val < a.val <;> simp [h3, h4]
    · rw [if_pos (show cmpI a.key b.key ≠ 0 from fun e => h2 (cmpI_zero.1 e)), if_pos (show a.key ≠ b.key from h2)]
      unfold cmpI
      by_cases h3 : a.key < b.key
      · simp [h3]
      · by_cases h4 : b.key < a.key <;> simp [h3, h4]
  · rw [if_pos (show cmpS a.part b.part ≠ 0 from fun e => h1 (cmpS_zero.1 e)), if_pos (show a.part ≠ b.part from h1)]
    unfold cmpS
    cases h3 : bef a.part b.part with
    | true => simp
    | false =>
      rcases bef_or h1 with h4 | h4
      · rw [h3] at h4; cases h4
      · simp [h4]
theorem less_irrefl (a : Rw) : lessR a a = false := by simp [lessR]
theorem less_trans {a b c : Rw} (h1 : lessR a b = true) (h2 : lessR b c = true) : lessR a c = true := by
  unfold lessR at *
  by_cases e1 : a.part = b.part
  · by_cases e2 : b.part = c.part
    · rw [if_neg (fun h : a.part ≠ b.part => h e1)] at h1
      rw [if_neg (fun h : b.part ≠ c.part => h e2)] at h2
      rw [if_neg (fun h : a.part ≠ c.part => h (e1.trans e2))]
      by_cases k1 : a.key = b.key <;> by_cases k2 : b.key = c.key
      · rw [if_neg (fun h : a.key ≠ b.key => h k1)] at h1
        rw [if_neg (fun h : b.key ≠ c.key => h k2)] at h2
        rw [if_neg (fun h : a.key ≠ c.key => h (k1.trans k2))]
        simp only [decide_eq_true_eq] at *; omega
      · rw [if_pos k2] at h2
        rw [if_pos (by rw [k1]; exact k2)]
        simp only [decide_eq_true_eq] at *; omega
      · rw [if_pos k1] at h1
        rw [if_pos (by rw [← k2]; exact k1)]
        simp only [decide_eq_true_eq] at *; omega
      · rw [if_pos k1] at h1
        rw [if_pos k2] at h2
        simp only [decide_eq_true_eq] at h1 h2
        rw [if_pos (by omega)]
        simp only [decide_eq_true_eq]; omega
    · rw [if_pos e2] at h2
      rw [if_pos (by rw [e1]; exact e2), e1]; exact h2
  · rw [if_pos e1] at h1
    by_cases e2 : b.part = c.part
    · rw [if_pos (by rw [← e2]; exact e1), ← e2]; exact h1
    · rw [if_pos e2] at h2
      have h3 := bef_trans h1 h2
      rw [if_pos (by rintro e; rw [e, bef_irrefl] at h3; cases h3)]; exact h3
theorem less_or {a b : Rw} (h : a ≠ b) : lessR a b = true ∨ lessR b a = true := by
  unfold lessR
  by_cases e1 : a.part = b.part
  · rw [if_neg (fun h : a.part ≠ b.part => h e1), if_neg (fun h : b.part ≠ a.part => h e1.symm)]
    by_cases e2 : a.key = b.key
    · rw [if_neg (fun h : a.key ≠ b.key => h e2), if_neg (fun h : b.key ≠ a.key => h e2.symm)]
      have e3 : a.val ≠ b.val := fun e3 => h (by cases a; cases b; simp_all)
      simp only [decide_eq_true_eq]; omega
    · rw [if_pos (show a.key ≠ b.key from e2), if_pos (show b.key ≠ a.key from fun e => e2 e.symm)]
      simp only [decide_eq_true_eq]; omega
  · rw [if_pos (show a.part ≠ b.part from e1), if_pos (show b.part ≠ a.part from fun e => e1 e.symm)]
    exact bef_or e1
theorem less_asym {a b : Rw} (h : lessR a b = true) : lessR b a = false := by
  cases h2 : lessR b a with
  | false => rfl
  | true => have := less_trans h h2; rw [less_irrefl] at this; cases this
/-- No later one comes ahead of an earlier one. -/
def upR (l : List Rw) : Prop := l.Pairwise (fun a b => lessR b a = false)
theorem le_trans' {a b c : Rw} (h1 : lessR b a = false) (h2 : lessR c b = false) : lessR c a = false := by
  cases h : lessR c a with
  | false => rfl
  | true =>
    by_cases hab : a = b
    · subst hab; rw [h] at h2; exact h2
    · rcases less_or hab with h3 | h3
      · have := less_trans h h3; rw [h2] at this; cases this
      · rw [h1] at h3; cases h3
theorem up_unique {l m : List Rw} (hl : upR l) (hm : upR m) (hp : l.Perm m) : l = m :=
  List.Perm.eq_of_pairwise (le := fun a b => lessR b a = false) (fun a b _ _ h1 h2 => by
    by_cases hab : a = b
    · exact hab
    · rcases less_or hab with h3 | h3
      · rw [h3] at h2; cases h2
      · rw [h3] at h1; cases h1) hl hm hp
/-- One row more in a rising list. -/
def insR (x : Rw) : List Rw → List Rw
  | [] => [x]
  | y :: r => if lessR x y = true then x :: y :: r else y :: insR x r
theorem insR_perm (x : Rw) : ∀ l : List Rw, (insR x l).Perm (x :: l)
  | [] => .refl _
  | y :: r => by
    unfold insR
    split
    · exact .refl _
    · exact ((insR_perm x r).cons y).trans (.swap x y r)
theorem insR_up {x : Rw} : ∀ {l : List Rw}, upR l → upR (insR x l)
  | [], _ => by simp [insR, upR]
  | y :: r, h => by
    obtain ⟨h1, h2⟩ := List.pairwise_cons.1 h
    unfold insR
    split
    · rename_i hb
      refine List.pairwise_cons.2 ⟨fun z hz => ?_, h⟩
      rcases List.mem_cons.1 hz with rfl | hz
      · exact less_asym hb
      · exact le_trans' (less_asym hb) (h1 z hz)
    · rename_i hb
      refine List.pairwise_cons.2 ⟨fun z hz => ?_, insR_up h2⟩
      rcases List.mem_cons.1 ((insR_perm x r).mem_iff.1 hz) with rfl | hz
      · simpa using hb
      · exact h1 z hz
theorem insR_at {x : Rw} : ∀ {l : List Rw} {k : Nat}, k ≤ l.length → (∀ j < k, ∀ y, l[j]? = some y → lessR x y = false) → (∀ y, l[k]? = some y → lessR x y = true) → insR x l = l.take k ++ x :: l.drop k
  | [], 0, _, _, _ => rfl
  | [], _ + 1, h, _, _ => by simp at h
  | y :: r, 0, _, _, h2 => by
    unfold insR
    rw [if_pos (h2 y rfl)]; rfl
  | y :: r, k + 1, h, h1, h2 => by
    unfold insR
    rw [if_neg (by rw [h1 0 (by omega) y rfl]; decide), insR_at (k := k) (by simpa using h) (fun j hj z hz => h1 (j + 1) (by omega) z (by simpa using hz)) (fun z hz => h2 z (by simpa using hz))]
    rfl
def sortR (l : List Rw) : List Rw := l.foldl (fun a x => insR x a) []
theorem sort_fold : ∀ (l a : List Rw), upR a → upR (l.foldl (fun a x => insR x a) a) ∧ (l.foldl (fun a x => insR x a) a).Perm (a ++ l)
  | [], a, h => ⟨h, by simp⟩
  | x :: r, a, h => by
    obtain ⟨h1, h2⟩ := sort_fold r (insR x a) (insR_up h)
    refine ⟨h1, h2.trans ?_⟩
    refine ((insR_perm x a).append_right r).trans ?_
    exact (List.perm_middle).symm
theorem sort_up (l : List Rw) : upR (sortR l) := (sort_fold l [] .nil).1
theorem sort_perm (l : List Rw) : (sortR l).Perm l := by simpa [sortR] using (sort_fold l [] .nil).2
theorem sort_of {l m : List Rw} (h : upR m) (hp : m.Perm l) : m = sortR l := up_unique h (sort_up l) (hp.trans (sort_perm l).symm)
theorem sort_len (l : List Rw) : (sortR l).length = l.length := (sort_perm l).length_eq
theorem sort_eq {l m : List Rw} : sortR l = sortR m ↔ l.Perm m := by
  constructor
  · intro h
    have := sort_perm l
    rw [h] at this
    exact this.symm.trans (sort_perm m)
  · intro h
    exact sort_of (sort_up l) ((sort_perm l).trans h)
theorem sort_again (l : List Rw) : sortR (sortR l) = sortR l := (sort_of (sort_up l) (.refl _)).symm
theorem sort_snoc (l : List Rw) (x : Rw) : sortR (l ++ [x]) = insR x (sortR l) := by simp [sortR, List.foldl_append]
def dropR (l : List Rw) (keys : List Int) : List Rw := l.filter fun r => !decide (r.key ∈ keys)
def withinP (lo hi : Int) (r : Rw) : Bool := decide (r.key < lo) || decide (hi < r.key)
def withinR (l : List Rw) (lo hi : Int) : List Rw := l.filter fun r => !withinP lo hi r
theorem drop_again (l : List Rw) (keys : List Int) : dropR (dropR l keys) keys = dropR l keys := by
  unfold dropR
  rw [List.filter_filter]
  simp
theorem within_all {l : List Rw} {hi : Int} (h : ∀ r ∈ l, -9223372036854775808 ≤ r.key ∧ r.key ≤ hi) : withinR l (-9223372036854775808) hi = l := by
  unfold withinR
  refine List.filter_eq_self.2 fun r hr => ?_
  have := h r hr
  simp [withinP]; omega
theorem within_two {l : List Rw} {a : Int} (h : ∀ r ∈ l, -9223372036854775808 ≤ r.key ∧ r.key ≤ 9223372036854775807) : (withinR l (-9223372036854775808) a ++ withinR l (a + 1) 9223372036854775807).Perm l := by
  have e : withinR l (a + 1) 9223372036854775807 = l.filter (fun r => !(!withinP (-9223372036854775808) a r)) := by
    unfold withinR
    refine List.filter_congr fun r hr => ?_
    have := h r hr
    simp only [withinP, Bool.not_not]
    rw [Bool.eq_iff_iff]
    simp
    omega
  rw [e]
  exact List.filter_append_perm _ l
end Go.Proofs.YtefoaeamfkbgbaaGreatDoor
namespace Go.Proofs.YtefoaeamfkbgbaaGreatDoor
open Go.RowKit

abbrev kPart : Str := [112, 97, 114, 116]
abbrev kBucket : Str := [98, 117, 99, 107, 101, 116]
abbrev kTrunc : Str := [116, 114, 117, 110, 99]

/-- What a text cut in two tells: its word, its number; its error's number. -/
def specIn (word d : Str) (is : Bool) (o : Option Int) : Str × Int × Nat :=
  match o with
  | none => ([], 0, 1)
  | some n => if is = true ∧ (word = kBucket ∨ word = kTrunc) ∧ 0 ≤ n ∧ d.length ≤ 9 then if n < 1 ∨ 1000 < n then ([], 0, 2) else (word, n, 0) else ([], 0, 1)
/-- A spec: its word, its number; its error's number. -/
def specOf (s : Str) : Str × Int × Nat :=
  if s = kPart then (kPart, 0, 0) else specIn (Lib.cut s [32]).1 (Lib.cut s [32]).2.1 (Lib.cut s [32]).2.2 (numOf (Lib.cut s [32]).2.1)
/-- The name of a right row's group. -/
def groupIn (word : Str) (n : Int) (r : Rw) : Str :=
  if word = kPart then r.part else if word = kBucket then 98 :: Lib.itoa (r.key % n) else if r.key / n < 0 then 110 :: Lib.itoa (-(r.key / n)) else 116 :: Lib.itoa (r.key / n)
def groupOf (s : Str) (r : Rw) : Str := groupIn (specOf s).1 (specOf s).2.1 r

theorem specIn_right {word d : Str} {is : Bool} {o : Option Int} (h : (specIn word d is o).2.2 = 0) :
    ((specIn word d is o).1 = kBucket ∨ (specIn word d is o).1 = kTrunc) ∧ 1 ≤ (specIn word d is o).2.1 ∧ (specIn word d is o).2.1 ≤ 1000 := by
  unfold specIn at h ⊢
  cases o with
  | none => cases h
  | some n =>
    simp only at h ⊢
    split at h
    · rename_i h1
      rw [if_pos h1]
      split at h
      · cases h
      · rename_i h2
        rw [if_neg h2]
        exact ⟨h1.2.1, by show 1 ≤ n; omega, by show n ≤ 1000; omega⟩
    · cases h
/-- A right spec is 'part', or a word and a number from 1 to 1000. -/
theorem spec_right {s : Str} (h : (specOf s).2.2 = 0) : (specOf s).1 = kPart ∨ (((specOf s).1 = kBucket ∨ (specOf s).1 = kTrunc) ∧ 1 ≤ (specOf s).2.1 ∧ (specOf s).2.1 ≤ 1000) := by
  unfold specOf at h ⊢
  split at h
  · rename_i h1; rw [if_pos h1]; exact .inl rfl
  · rename_i h1; rw [if_neg h1]; exact .inr (specIn_right h)
theorem spec_code (s : Str) : (specOf s).2.2 = 0 ∨ (specOf s).2.2 = 1 ∨ (specOf s).2.2 = 2 := by
  unfold specOf specIn
  split
  · exact .inl rfl
  · split
    · exact .inr (.inl rfl)
    · split
      · split
        · exact .inr (.inr rfl)
        · exact .inl rfl
      · exact .inr (.inl rfl)
/-- A number's text holds no blank. -/
theorem num_blank {s : Str} {n : Int} (h : numOf s = some n) : (32 : UInt8) ∉ s := by
  rw [← numRef_eq] at h
  rw [← ((numRef_iff s n).1 h).2]
  exact not_mem_itoa' (by decide) (by decide)
theorem first_at {c : UInt8} : ∀ {s : Str}, c ∈ s → ∃ p q, s = p ++ c :: q ∧ c ∉ p
  | x :: r, h => by
    by_cases hx : x = c
    · exact ⟨[], r, by rw [hx]; rfl, by simp⟩
    · obtain ⟨p, q, e, hp⟩ := first_at (s := r) (by
        rcases List.mem_cons.1 h with h | h
        · exact absurd h.symm hx
        · exact h)
      exact ⟨x :: p, q, by rw [e]; rfl, by simp only [List.mem_cons, not_or]; exact ⟨fun h => hx h.symm, hp⟩⟩
/-- The document's answer cuts at each blank. -/
theorem spec_cut {s : Str} (h : s ≠ kPart) : specOf s = match cutAt 32 s with
    | [word, d] => specIn word d true (numOf d)
    | _ => ([], 0, 1) := by
  unfold specOf
  rw [if_neg h]
  by_cases hb : (32 : UInt8) ∈ s
  · obtain ⟨p, q, rfl, hp⟩ := first_at hb
    rw [cut_app1 hp, cutAt_app hp]
    by_cases hq : (32 : UInt8) ∈ q
    · obtain ⟨p2, q2, rfl, hp2⟩ := first_at hq
      rw [cutAt_app hp2]
      have hn : numOf (p2 ++ 32 :: q2) = none := by
        cases hh : numOf (p2 ++ 32 :: q2) with
        | none => rfl
        | some n => exact absurd hq (num_blank hh)
      show specIn p (p2 ++ 32 :: q2) true (numOf (p2 ++ 32 :: q2)) = _
      rw [hn]
      have hne := cutAt_ne 32 q2
      cases hc : cutAt 32 q2 with
      | nil => exact absurd hc hne
      | cons x r => rfl
    · rw [cutAt_none hq]
  · rw [cut_none1 hb, cutAt_none hb]
    show specIn s [] false (numOf []) = ([], 0, 1)
    unfold specIn
    split
    · rfl
    · rw [if_neg (by simp)]
end Go.Proofs.YtefoaeamfkbgbaaGreatDoor
namespace Go.Proofs.YtefoaeamfkbgbaaGreatDoor
open Go.RowKit

/-- The numbers of a head, of a word. -/
def headN (word s : Str) : Option (List Int) :=
  if (Lib.cut s [10]).2.2 = true then
    match cutAt 32 (Lib.cut s [10]).1 with
    | [t, a, b, c, d] => if t = word then numsOf [a, b, c, d] else none
    | _ => none
  else none
def splitE (word s : Str) : Er :=
  if 20000 < s.length then .bare 2 else
  match headN word s with
  | none => .bare 1
  | some n => if n.getD 3 0 = (sumOf (Lib.cut s [10]).2.1 : Int) then .nil else .bare 10
def splitN (word s : Str) : List Int := (headN word s).getD []
def splitL (s : Str) : List Str := cutAt 10 (Lib.cut s [10]).2.1
/-- A line's fault: the last one is empty. -/
def lineF (bad : Nat → Nat) (ls : List Str) (i : Nat) : Nat := if i + 1 = ls.length then (if ls[i]? = some [] then 0 else 1) else bad i
def eachEr (bad : Nat → Nat) (ls : List Str) : Er := firstErr (lineF bad ls) ls.length
def fitsI (n keys : List Int) : Prop := n.getD 0 0 = keys.length ∧ n.getD 1 0 = (endsI keys).1 ∧ n.getD 2 0 = (endsI keys).2
instance (n keys : List Int) : Decidable (fitsI n keys) := by unfold fitsI; infer_instance
/-- What a reading of a block answers. -/
def readEr (word s : Str) (bad : List Str → Nat → Nat) (keys : List Str → List Int) : Er :=
  if splitE word s ≠ .nil then splitE word s
  else if eachEr (bad (splitL s)) (splitL s) ≠ .nil then eachEr (bad (splitL s)) (splitL s)
  else if 40 < (keys (splitL s).dropLast).length then .bare 8
  else if fitsI (splitN word s) (keys (splitL s).dropLast) then .nil else .bare 3

theorem cut_true {c : UInt8} {s : Str} (h : (Lib.cut s [c]).2.2 = true) : s = (Lib.cut s [c]).1 ++ c :: (Lib.cut s [c]).2.1 ∧ c ∉ (Lib.cut s [c]).1 := by
  by_cases hc : c ∈ s
  · obtain ⟨p, q, e, hp⟩ := first_at hc
    have h1 := cut_app1 (c := c) (q := q) hp
    rw [← e] at h1
    rw [h1]
    exact ⟨e, hp⟩
  · rw [cut_none1 hc] at h; cases h
theorem numsOf_inv : ∀ {l : List Str} {ns : List Int}, numsOf l = some ns → l = ns.map Lib.itoa
  | [], ns, h => by
    have : ns = [] := by simpa [numsOf] using h.symm
    rw [this]; rfl
  | a :: r, ns, h => by
    unfold numsOf at h
    rw [List.mapM_cons] at h
    cases ha : numOf a with
    | none => rw [ha] at h; cases h
    | some x =>
      rw [ha] at h
      cases hr : r.mapM numOf with
      | none => rw [hr] at h; cases h
      | some xs =>
        rw [hr] at h
        have e : ns = x :: xs := (Option.some.inj h).symm
        rw [e, List.map_cons, ((numOf_iff a x).1 ha).2, ← numsOf_inv (l := r) (ns := xs) hr]
theorem headN_some {word s : Str} {n : List Int} (h : headN word s = some n) : ∃ n0 n1 n2 n3, n = [n0, n1, n2, n3] ∧ s = headT word n0 n1 n2 n3 ++ 10 :: (Lib.cut s [10]).2.1 ∧ (10 : UInt8) ∉ headT word n0 n1 n2 n3 := by
  unfold headN at h
  split at h
  · rename_i hc
    obtain ⟨e, hn⟩ := cut_true hc
    split at h
    · rename_i t a b c d hcut
      split at h
      · rename_i ht
        subst ht
        have hl := mapM_len _ h
        have hi := numsOf_inv h
        match n, hl with
        | [n0, n1, n2, n3], _ =>
          have hj := join_cut 32 (Lib.cut s [10]).1
          rw [hcut, hi, joinC_itoa] at hj
          refine ⟨n0, n1, n2, n3, rfl, ?_, ?_⟩
          · unfold headT
            rw [hj]; exact e
          · unfold headT
            rw [hj]; exact hn
      · cases h
    · cases h
  · cases h
theorem joinC_body : ∀ ls : List Str, joinC 10 (ls ++ [[]]) = bodyT ls
  | [] => rfl
  | x :: r => by
    have ih := joinC_body r
    have : bodyT (x :: r) = x ++ 10 :: bodyT r := by simp [bodyT]
    rw [this, ← ih]
    cases r with
    | nil => rfl
    | cons y t => rfl
theorem cutAt_clean {c : UInt8} : ∀ {s p : Str}, p ∈ cutAt c s → c ∉ p
  | [], p, h => by
    rw [show p = [] by simpa [cutAt] using h]; simp
  | x :: r, p, h => by
    have ih := fun q hq => cutAt_clean (c := c) (s := r) (p := q) hq
    unfold cutAt at h
    split at h
    · rcases List.mem_cons.1 h with rfl | h
      · simp
      · exact ih p h
    · rename_i hx
      cases hc : cutAt c r with
      | nil => exact absurd hc (cutAt_ne c r)
      | cons a t =>
        rw [hc] at h ih
        rcases List.mem_cons.1 h with rfl | h
        · intro hm
          rcases List.mem_cons.1 hm with e | e
          · exact hx e.symm
          · exact ih a (by simp) e
        · exact ih p (by simp [h])
theorem eachEr_last {bad : Nat → Nat} {ls : List Str} (hne : ls ≠ []) (h : eachEr bad ls = .nil) : ls = ls.dropLast ++ [[]] ∧ ∀ i, i + 1 < ls.length → bad i = 0 := by
  have hz := firstErr_nil h
  have hpos : 0 < ls.length := List.length_pos_iff.2 hne
  constructor
  · have h1 := hz (ls.length - 1) (by omega)
    unfold lineF at h1
    rw [if_pos (by omega)] at h1
    split at h1
    · rename_i h2
      have h3 : ls.getLast hne = [] := by
        rw [List.getLast_eq_getElem]
        obtain ⟨_, h4⟩ := List.getElem?_eq_some_iff.1 h2
        exact h4
      conv => lhs; rw [← List.dropLast_concat_getLast hne, h3]
    · cases h1
  · intro i hi
    have h1 := hz i (by omega)
    unfold lineF at h1
    rwa [if_neg (by omega)] at h1
/-- WHAT IS READ WITHOUT AN ERROR IS A BLOCK's TEXT. -/
theorem readEr_text {word s : Str} {bad : List Str → Nat → Nat} {keys : List Str → List Int} (h : readEr word s bad keys = .nil) :
    s = wholeT word (keys (splitL s).dropLast) (bodyT (splitL s).dropLast) ∧ splitL s = (splitL s).dropLast ++ [[]] ∧ (∀ x ∈ (splitL s).dropLast, (10 : UInt8) ∉ x) ∧ (∀ i, i + 1 < (splitL s).length → bad (splitL s) i = 0) ∧ (keys (splitL s).dropLast).length ≤ 40 := by
  unfold readEr at h
  by_cases h1 : splitE word s = .nil
  case neg => rw [if_pos h1] at h; exact absurd h h1
  rw [if_neg (by simpa using h1)] at h
  by_cases h2 : eachEr (bad (splitL s)) (splitL s) = .nil
  case neg => rw [if_pos h2] at h; exact absurd h h2
  rw [if_neg (by simpa using h2)] at h
  by_cases h3 : 40 < (keys (splitL s).dropLast).length
  · rw [if_pos h3] at h; cases h
  rw [if_neg h3] at h
  by_cases h4 : fitsI (splitN word s) (keys (splitL s).dropLast)
  case neg => rw [if_neg h4] at h; cases h
  have hne : splitL s ≠ [] := cutAt_ne 10 _
  obtain ⟨e1, e2⟩ := eachEr_last hne h2
  refine ⟨?_, e1, fun x hx => cutAt_clean ((List.dropLast_subset _) hx), e2, by omega⟩
  unfold splitE at h1
  split at h1
  · cases h1
  cases hn : headN word s with
  | none => rw [hn] at h1; cases h1
  | some n =>
    rw [hn] at h1
    obtain ⟨n0, n1, n2, n3, rfl, hs, -⟩ := headN_some hn
    simp only at h1
    split at h1
    · rename_i hsum
      have hb : (Lib.cut s [10]).2.1 = bodyT (splitL s).dropLast := by
        have h := join_cut 10 (Lib.cut s [10]).2.1
        have e1' : cutAt 10 (Lib.cut s [10]).2.1 = (splitL s).dropLast ++ [[]] := e1
        rw [e1', joinC_body] at h
        exact h.symm
      have hN : splitN word s = [n0, n1, n2, n3] := by unfold splitN; rw [hn]; rfl
      rw [hN] at h4
      obtain ⟨f0, f1, f2⟩ := h4
      simp only [List.getD_cons_zero, List.getD_cons_succ] at f0 f1 f2 hsum
      rw [hb] at hs hsum
      rw [f0, f1, f2, hsum] at hs
      exact hs
    · cases h1
/-- What is a block's text is read, where its lines are right. -/
theorem readEr_of {word : Str} {ls : List Str} {bad : List Str → Nat → Nat} {keys : List Str → List Int} (hw : (32 : UInt8) ∉ word) (hw10 : (10 : UInt8) ∉ word) (h10 : ∀ x ∈ ls, (10 : UInt8) ∉ x) (hlen : (wholeT word (keys ls) (bodyT ls)).length ≤ 20000)
    (hk : (keys ls).length ≤ 40) (hend : -10000000000 < (endsI (keys ls)).1 ∧ (endsI (keys ls)).1 < 10000000000 ∧ -10000000000 < (endsI (keys ls)).2 ∧ (endsI (keys ls)).2 < 10000000000) (hbad : ∀ i, i < ls.length → bad (ls ++ [[]]) i = 0) :
    readEr word (wholeT word (keys ls) (bodyT ls)) bad keys = .nil ∧ splitL (wholeT word (keys ls) (bodyT ls)) = ls ++ [[]] := by
  obtain ⟨s, hs⟩ : ∃ s, wholeT word (keys ls) (bodyT ls) = s := ⟨_, rfl⟩
  have hcut : Lib.cut s [10] = (headT word (keys ls).length (endsI (keys ls)).1 (endsI (keys ls)).2 (sumOf (bodyT ls)), bodyT ls, true) := by
    rw [← hs]; exact cut_app1 (head_clean hw10 _ _ _ _)
  have hsum := sumOf_lt (bodyT ls)
  have hL : splitL s = ls ++ [[]] := by unfold splitL; rw [hcut]; exact cut_body h10
  have hN : headN word s = some [((keys ls).length : Int), (endsI (keys ls)).1, (endsI (keys ls)).2, (sumOf (bodyT ls) : Int)] := by
    unfold headN
    rw [hcut]
    simp only [if_true, blk_cut_head hw]
    have := numsOf_map [((keys ls).length : Int), (endsI (keys ls)).1, (endsI (keys ls)).2, (sumOf (bodyT ls) : Int)] (fun x hx => by
      simp only [List.mem_cons, List.mem_nil_iff, or_false] at hx
      rcases hx with rfl | rfl | rfl | rfl <;> omega)
    simpa using this
  rw [hs] at hlen ⊢
  refine ⟨?_, hL⟩
  have h1 : splitE word s = .nil := by
    unfold splitE
    rw [if_neg (by omega), hN]
    simp only [List.getD_cons_zero, List.getD_cons_succ]
    rw [hcut, if_pos rfl]
  have h2 : eachEr (bad (splitL s)) (splitL s) = .nil := by
    rw [hL]
    refine firstErr_all fun j hj => ?_
    unfold lineF
    split
    · rename_i h
      rw [if_pos]
      have : j = ls.length := by simpa using h
      rw [this]; simp
    · rename_i h
      refine hbad j ?_
      simp at hj h; omega
  unfold readEr
  rw [if_neg (by simpa using h1), if_neg (by simpa using h2), hL, List.dropLast_concat, if_neg (by omega), if_pos]
  unfold splitN
  rw [hN]
  exact ⟨rfl, rfl, rfl⟩

/-- A line's number. -/
def numD (s : Str) : Int := (numOf s).getD 0
def goneBad (ls : List Str) (i : Nat) : Nat :=
  match ls[i]? with
  | none => 0
  | some s => if (numOf s).isNone then 1 else if farN (numD s) then 2 else if 0 < i ∧ ∃ t, ls[i - 1]? = some t ∧ numD s ≤ numD t then 9 else 0
def goneE (s : Str) : Er := readEr kGone s goneBad (fun l => l.map numD)
def goneL (s : Str) : List Int := if goneE s = .nil then (splitL s).dropLast.map numD else []
/-- What is made of keys. -/
def farF (l : List Int) (i : Nat) : Nat := match l[i]? with | none => 0 | some k => if farN k then 2 else 0
def madeE (l : List Int) : Er := if 40 < (risOf l).length then .bare 8 else firstErr (farF l) l.length
def goneText (ks : List Int) : Str := wholeT kGone ks (bodyT (ks.map Lib.itoa))
def madeT (l : List Int) : Str := if madeE l = .nil then goneText (risOf l) else []

theorem fold_min : ∀ (l : List Int) (a : Int), l.foldl min a ∈ a :: l ∧ ∀ x ∈ a :: l, l.foldl min a ≤ x
  | [], a => by simp
  | x :: r, a => by
    obtain ⟨h1, h2⟩ := fold_min r (min a x)
    rw [List.foldl_cons]
    constructor
    · rcases List.mem_cons.1 h1 with e | e
      · rw [e]
        rcases Int.le_total a x with h | h
        · rw [Int.min_eq_left h]; simp
        · rw [Int.min_eq_right h]; simp
      · exact List.mem_cons_of_mem _ (List.mem_cons_of_mem _ e)
    · intro y hy
      have h3 := h2 (min a x) (by simp)
      rcases List.mem_cons.1 hy with rfl | hy
      · omega
      · rcases List.mem_cons.1 hy with rfl | hy
        · omega
        · exact h2 y (List.mem_cons_of_mem _ hy)
theorem fold_max : ∀ (l : List Int) (a : Int), l.foldl max a ∈ a :: l ∧ ∀ x ∈ a :: l, x ≤ l.foldl max a
  | [], a => by simp
  | x :: r, a => by
    obtain ⟨h1, h2⟩ := fold_max r (max a x)
    rw [List.foldl_cons]
    constructor
    · rcases List.mem_cons.1 h1 with e | e
      · rw [e]
        rcases Int.le_total a x with h | h
        · rw [Int.max_eq_right h]; simp
        · rw [Int.max_eq_left h]; simp
      · exact List.mem_cons_of_mem _ (List.mem_cons_of_mem _ e)
    · intro y hy
      have h3 := h2 (max a x) (by simp)
      rcases List.mem_cons.1 hy with rfl | hy
      · omega
      · rcases List.mem_cons.1 hy with rfl | hy
        · omega
        · exact h2 y (List.mem_cons_of_mem _ hy)
/-- The ends are among them, and bound them. -/
theorem ends_mem {l : List Int} (h : l ≠ []) : (endsI l).1 ∈ l ∧ (endsI l).2 ∈ l ∧ ∀ x ∈ l, (endsI l).1 ≤ x ∧ x ≤ (endsI l).2 := by
  unfold endsI
  rw [if_neg h]
  match l, h with
  | a :: r, _ =>
    obtain ⟨h1, h2⟩ := fold_min r a
    obtain ⟨h3, h4⟩ := fold_max r a
    have e1 : Lib.minOf (a :: r) = r.foldl min a := by show (a :: r).foldl min a = _; rw [List.foldl_cons, Int.min_self]
    have e2 : Lib.maxOf (a :: r) = r.foldl max a := by show (a :: r).foldl max a = _; rw [List.foldl_cons, Int.max_self]
    simp only [e1, e2]
    exact ⟨h1, h3, fun x hx => ⟨h2 x hx, h4 x hx⟩⟩
theorem ends_within {l : List Int} {B : Int} (hB : 0 ≤ B) (h : ∀ x ∈ l, -B ≤ x ∧ x ≤ B) : (-B ≤ (endsI l).1 ∧ (endsI l).1 ≤ B) ∧ (-B ≤ (endsI l).2 ∧ (endsI l).2 ≤ B) := by
  by_cases hl : l = []
  · rw [hl]; unfold endsI; simp; omega
  · obtain ⟨h1, h2, -⟩ := ends_mem hl
    exact ⟨h _ h1, h _ h2⟩
theorem numD_itoa {n : Int} (h : ¬ farN n) : numOf (Lib.itoa n) = some n ∧ numD (Lib.itoa n) = n := by
  have : numOf (Lib.itoa n) = some n := numOf_itoa' (by unfold farN at h; omega) (by unfold farN at h; omega)
  exact ⟨this, by unfold numD; rw [this]; rfl⟩
theorem map_numD {ks : List Int} (h : ∀ n ∈ ks, ¬ farN n) : (ks.map Lib.itoa).map numD = ks := by
  rw [List.map_map]
  conv => rhs; rw [← List.map_id ks]
  exact List.map_congr_left fun n hn => (numD_itoa (h n hn)).2
theorem gone_bad {ks : List Int} (hup : upI ks) (h : ∀ n ∈ ks, ¬ farN n) : ∀ i, i < (ks.map Lib.itoa).length → goneBad (ks.map Lib.itoa ++ [[]]) i = 0 := by
  intro i hi
  have hi' : i < ks.length := by simpa using hi
  unfold goneBad
  rw [List.getElem?_append_left hi, List.getElem?_map, List.getElem?_eq_getElem hi']
  simp only [Option.map_some]
  obtain ⟨e1, e2⟩ := numD_itoa (h _ (List.getElem_mem hi'))
  rw [e1, e2]
  simp only [Option.isNone_some, Bool.false_eq_true, if_false]
  rw [if_neg (h _ (List.getElem_mem hi')), if_neg]
  rintro ⟨h0, t, ht, hle⟩
  rw [List.getElem?_append_left (by omega), List.getElem?_map, List.getElem?_eq_getElem (show i - 1 < ks.length by omega)] at ht
  have : t = Lib.itoa (ks[i - 1]'(by omega)) := by simpa using ht.symm
  rw [this, (numD_itoa (h _ (List.getElem_mem (by omega)))).2] at hle
  have := List.pairwise_iff_getElem.1 hup (i - 1) i (by omega) hi' (by omega)
  omega
theorem itoa_clean (n : Int) : (10 : UInt8) ∉ Lib.itoa n := not_mem_itoa' (by decide) (by decide)
theorem body_len {m : Nat} : ∀ {ls : List Str}, (∀ s ∈ ls, s.length ≤ m) → (bodyT ls).length ≤ ls.length * (m + 1)
  | [], _ => by simp [bodyT]
  | s :: r, h => by
    have ih := body_len (ls := r) fun x hx => h x (by simp [hx])
    have h1 := h s (by simp)
    have : bodyT (s :: r) = s ++ 10 :: bodyT r := by simp [bodyT]
    rw [this]
    simp only [List.length_append, List.length_cons, Nat.add_mul, Nat.one_mul]
    omega
theorem blk_head_len {word : Str} (n lo hi sum : Int) (hw : word.length ≤ 10) (h0 : -9223372036854775808 ≤ n ∧ n ≤ 9223372036854775807) (h1 : -9223372036854775808 ≤ lo ∧ lo ≤ 9223372036854775807) (h2 : -9223372036854775808 ≤ hi ∧ hi ≤ 9223372036854775807) (h3 : -9223372036854775808 ≤ sum ∧ sum ≤ 9223372036854775807) : (headT word n lo hi sum).length ≤ 110 := by
  have l0 := itoa_len n h0.1 h0.2
  have l1 := itoa_len lo h1.1 h1.2
  have l2 := itoa_len hi h2.1 h2.2
  have l3 := itoa_len sum h3.1 h3.2
  unfold headT numsTail
  simp only [List.flatMap_cons, List.flatMap_nil, List.append_nil, List.length_append, List.length_cons]
  omega
theorem near {n : Int} (h : ¬ farN n) : -1073741824 ≤ n ∧ n ≤ 1073741824 := by unfold farN at h; omega
theorem goneText_len {ks : List Int} (h : ∀ n ∈ ks, ¬ farN n) (hk : ks.length ≤ 40) : (goneText ks).length ≤ 1100 := by
  have hs := sumOf_lt (bodyT (ks.map Lib.itoa))
  obtain ⟨e1, e2⟩ := ends_within (B := 1073741824) (by omega) fun x hx => near (h x hx)
  have h1 := blk_head_len (word := kGone) ks.length (endsI ks).1 (endsI ks).2 (sumOf (bodyT (ks.map Lib.itoa))) (by decide) (by omega) (by omega) (by omega) (by omega)
  have h2 := body_len (m := 21) (ls := ks.map Lib.itoa) fun s hs => by
    obtain ⟨n, hn, rfl⟩ := List.mem_map.1 hs
    have := near (h n hn)
    exact itoa_len n (by omega) (by omega)
  rw [List.length_map] at h2
  unfold goneText wholeT
  rw [List.length_append, List.length_cons]
  omega
theorem goneRead_text {ks : List Int} (hup : upI ks) (h : ∀ n ∈ ks, ¬ farN n) (hk : ks.length ≤ 40) : goneE (goneText ks) = .nil ∧ goneL (goneText ks) = ks := by
  have hm := map_numD h
  have hlen := goneText_len h hk
  unfold goneText at hlen
  have hr := readEr_of (word := kGone) (ls := ks.map Lib.itoa) (bad := goneBad) (keys := fun l => l.map numD) (by decide) (by decide) (fun x hx => by
      obtain ⟨n, -, rfl⟩ := List.mem_map.1 hx
      exact itoa_clean n) (by simp only [hm]; omega) (by simp only [hm]; exact hk) (by
      simp only [hm]
      obtain ⟨e1, e2⟩ := ends_within (B := 1073741824) (by omega) fun x hx => near (h x hx)
      omega) (gone_bad hup h)
  simp only [hm] at hr
  obtain ⟨h1, h2⟩ := hr
  have hE : goneE (goneText ks) = .nil := h1
  refine ⟨hE, ?_⟩
  unfold goneL
  rw [if_pos hE]
  unfold goneText
  rw [h2, List.dropLast_concat, hm]
/-- WHAT IS READ WITHOUT AN ERROR IS THE TEXT OF ITS KEYS. -/
theorem gone_text {s : Str} (h : goneE s = .nil) : s = goneText (goneL s) := by
  obtain ⟨e1, e2, -, e4, -⟩ := readEr_text h
  have hL : goneL s = (splitL s).dropLast.map numD := by unfold goneL; rw [if_pos h]
  have hlines : (goneL s).map Lib.itoa = (splitL s).dropLast := by
    rw [hL, List.map_map]
    apply List.ext_getElem?
    intro i
    rw [List.getElem?_map]
    rcases Nat.lt_or_ge i (splitL s).dropLast.length with hi | hi
    · rw [List.getElem?_eq_getElem hi]
      have hb := e4 i (by rw [List.length_dropLast] at hi; omega)
      have hg : (splitL s)[i]? = some (splitL s).dropLast[i] := by
        rw [List.getElem_dropLast, List.getElem?_eq_getElem]
      unfold goneBad at hb
      rw [hg] at hb
      simp only at hb
      cases hn : numOf (splitL s).dropLast[i] with
      | none => rw [hn] at hb; simp at hb
      | some k =>
        simp only [Option.map_some, Function.comp_apply]
        unfold numD
        rw [hn]
        simp only [Option.getD_some]
        rw [((numOf_iff _ k).1 hn).2]
    · rw [List.getElem?_eq_none hi]; rfl
  unfold goneText
  rw [hlines, hL]
  exact e1
theorem map_itoa_inj : ∀ {a b : List Int}, a.map Lib.itoa = b.map Lib.itoa → a = b
  | [], [], _ => rfl
  | x :: r, y :: t, h => by
    simp only [List.map_cons, List.cons.injEq] at h
    rw [itoa_inj' h.1, map_itoa_inj h.2]
/-- One byte another one: none. -/
theorem gone_one {ks : List Int} {i : Nat} {c x : UInt8} (hx : (goneText ks)[i]? = some x) (hne : x ≠ c) : goneE ((goneText ks).set i c) ≠ .nil := by
  intro h
  have e := gone_text h
  have hcl : ∀ (l : List Int), ∀ s ∈ l.map Lib.itoa, (10 : UInt8) ∉ s := fun l s hs => by
    obtain ⟨n, -, rfl⟩ := List.mem_map.1 hs
    exact itoa_clean n
  exact block_one (word := kGone) (by decide) (by decide) (by simp) (by simp) (hcl _) (hcl _) (fun e => map_itoa_inj e) hx hne e
theorem madeE_nil {l : List Int} (h : madeE l = .nil) : (risOf l).length ≤ 40 ∧ ∀ n ∈ risOf l, ¬ farN n := by
  unfold madeE at h
  split at h
  · cases h
  refine ⟨by omega, fun n hn hf => ?_⟩
  obtain ⟨j, hj, he⟩ := List.getElem_of_mem (mem_risOf.1 hn)
  have := firstErr_nil h j hj
  unfold farF at this
  rw [List.getElem?_eq_getElem hj, he] at this
  simp only at this
  rw [if_pos hf] at this
  cases this
end Go.Proofs.YtefoaeamfkbgbaaGreatDoor
