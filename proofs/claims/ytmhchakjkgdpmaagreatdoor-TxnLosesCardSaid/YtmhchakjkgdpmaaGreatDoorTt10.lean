/- Rising lists of texts without doubles: a text more; sorted and compacted. Of no program. Rows in plain words: of no program. Rows in memory; row.Name, row.Check, row.Text. slices.Values, AppendSeq, Collect at []api.Row: a range over a function. -/
import Derived.Test.YtmhchakjkgdpmaaGreatDoorTt9
import Derived.Lib.SlicesCompact
import Derived.Test.YtmhchakjkgdpmaaGreatDoorTt3
import Derived.Test.YtmhchakjkgdpmaaGreatDoorTt6
import Derived.RangeFuncBox
import Derived.RangeFuncNested
import Derived.RangeFuncLeaves
import Derived.Shelf.Abstract
import Derived.WalkKit
import Derived.OwnWalkIn
import Derived.TacticsInMore
import Derived.LoopNIn
import Derived.LoopIn
import Derived.Maps.AppendAt
namespace Go.Proofs.YtmhchakjkgdpmaaGreatDoor
open Go.RowKit

/-- A text more, in a rising list without doubles. -/
def withL : List Str → Str → List Str
  | [], s => [s]
  | x :: r, s => if bef x s then x :: withL r s else if x = s then x :: r else s :: x :: r
theorem withL_at : ∀ {l : List Str} {s : Str} {k : Nat}, k ≤ l.length → (∀ j < k, ∀ x, l[j]? = some x → bef x s = true) → (∀ x, l[k]? = some x → bef x s = false) → withL l s = if l[k]? = some s then l else l.take k ++ s :: l.drop k
  | [], s, 0, _, _, _ => by simp [withL]
  | [], _, _ + 1, h, _, _ => by simp at h
  | x :: r, s, 0, _, _, h2 => by
    have hx := h2 x rfl
    unfold withL
    rw [if_neg (by rw [hx]; decide)]
    by_cases he : x = s
    · rw [if_pos he, if_pos (by simp [he])]
    · rw [if_neg he, if_neg (by simpa using he)]; rfl
  | x :: r, s, k + 1, h, h1, h2 => by
    have hx := h1 0 (by omega) x rfl
    unfold withL
    rw [if_pos hx, withL_at (k := k) (by simpa using h) (fun j hj y hy => h1 (j + 1) (by omega) y (by simpa using hy)) (fun y hy => h2 y (by simpa using hy))]
    rw [List.getElem?_cons_succ]
    split <;> rfl
theorem withL_len (l : List Str) (s : Str) : (withL l s).length ≤ l.length + 1 := by
  induction l with
  | nil => simp [withL]
  | cons x r ih =>
    unfold withL
    split
    · simpa using ih
    · split <;> simp
theorem mem_withL {x s : Str} {l : List Str} : x ∈ withL l s ↔ x = s ∨ x ∈ l := by
  induction l with
  | nil => simp [withL]
  | cons y r ih =>
    unfold withL
    split
    · rw [List.mem_cons, ih, List.mem_cons]
      exact ⟨fun h => by rcases h with h | h | h <;> simp [h], fun h => by rcases h with h | h | h <;> simp [h]⟩
    · split
      · rename_i h; subst h; simp
      · rw [List.mem_cons]
def upS (l : List Str) : Prop := l.Pairwise (fun a b => bef a b = true)
theorem up_withL {s : Str} : ∀ {l : List Str}, upS l → upS (withL l s)
  | [], _ => by simp [withL, upS]
  | x :: r, h => by
    obtain ⟨h1, h2⟩ := List.pairwise_cons.1 h
    unfold withL
    split
    · rename_i hb
      refine List.pairwise_cons.2 ⟨fun y hy => ?_, up_withL h2⟩
      rcases mem_withL.1 hy with rfl | hy
      · exact hb
      · exact h1 y hy
    · rename_i hb
      split
      · exact h
      · rename_i hne
        have hsx : bef s x = true := bef_tri hne (by simpa using hb)
        refine List.pairwise_cons.2 ⟨fun y hy => ?_, h⟩
        rcases List.mem_cons.1 hy with rfl | hy
        · exact hsx
        · exact bef_trans hsx (h1 y hy)
theorem up_asym {a b : Str} (h : bef a b = true) : bef b a = false := by
  cases hb : bef b a with
  | false => rfl
  | true =>
    have := bef_trans h hb
    rw [bef_irr] at this; cases this
theorem up_ext : ∀ {a b : List Str}, upS a → upS b → (∀ x, x ∈ a ↔ x ∈ b) → a = b
  | [], [], _, _, _ => rfl
  | [], y :: t, _, _, h => absurd ((h y).2 (by simp)) (by simp)
  | x :: r, [], _, _, h => absurd ((h x).1 (by simp)) (by simp)
  | x :: r, y :: t, ha, hb, h => by
    obtain ⟨ha1, ha2⟩ := List.pairwise_cons.1 ha
    obtain ⟨hb1, hb2⟩ := List.pairwise_cons.1 hb
    have hxy : x = y := by
      rcases List.mem_cons.1 ((h x).1 (by simp)) with e | e
      · exact e
      · rcases List.mem_cons.1 ((h y).2 (by simp)) with e' | e'
        · exact e'.symm
        · have k1 := hb1 x e
          have k2 := up_asym (ha1 y e')
          rw [k1] at k2; cases k2
    subst hxy
    congr 1
    refine up_ext ha2 hb2 fun z => ?_
    have hz := h z
    simp only [List.mem_cons] at hz
    constructor
    · intro m
      rcases hz.1 (.inr m) with e | e
      · have := ha1 z m
        rw [e, bef_irr] at this; cases this
      · exact e
    · intro m
      rcases hz.2 (.inr m) with e | e
      · have := hb1 z m
        rw [e, bef_irr] at this; cases this
      · exact e

theorem lt_of_bef : ∀ {a b : Str}, bef a b = true → a < b
  | [], [], h => by cases h
  | [], _ :: _, _ => List.nil_lt_cons _ _
  | _ :: _, [], h => by cases h
  | a :: r, b :: s, h => by
    have h : (decide (a < b) || (a == b && bytesBefore r s)) = true := h
    rw [List.cons_lt_cons_iff]
    simp only [Bool.or_eq_true, Bool.and_eq_true, decide_eq_true_eq, beq_iff_eq] at h
    rcases h with h | ⟨h1, h2⟩
    · exact .inl h
    · exact .inr ⟨h1, lt_of_bef h2⟩
theorem bef_of_le {a b : Str} (h : a ≤ b) (hne : a ≠ b) : bef a b = true := by
  cases hb : bef a b with
  | true => rfl
  | false => exact absurd (lt_of_bef (bef_tri hne hb)) (List.not_lt.2 h)
theorem mem_compactUpTo {d : Array Str} {x : Str} : ∀ {m : Nat}, x ∈ Lib.compactUpTo d m ↔ ∃ j < m, d[j]! = x
  | 0 => by simp [Lib.compactUpTo]
  | m + 1 => by
    rw [Lib.compactUpTo_succ, List.mem_append, mem_compactUpTo (m := m)]
    constructor
    · rintro (⟨j, h1, h2⟩ | h)
      · exact ⟨j, by omega, h2⟩
      · split at h
        · exact ⟨m, by omega, (List.mem_singleton.1 h).symm⟩
        · cases h
    · rintro ⟨j, h1, h2⟩
      rcases Nat.lt_or_ge j m with h | h
      · exact .inl ⟨j, h, h2⟩
      · obtain rfl : j = m := by omega
        cases hk : Lib.keeps d j with
        | true => exact .inr (by simp [h2])
        | false =>
          unfold Lib.keeps at hk
          have hk := of_decide_eq_false hk
          have h0 : j ≠ 0 := fun e => hk (.inl e)
          have h3 : d[j]! = d[j - 1]! := Decidable.byContradiction fun e => hk (.inr e)
          exact .inl ⟨j - 1, by omega, by rw [← h3, h2]⟩
theorem mem_compactS {l : List Str} {x : Str} : x ∈ Lib.compact l ↔ x ∈ l := by
  unfold Lib.compact
  rw [mem_compactUpTo]
  constructor
  · rintro ⟨j, h1, h2⟩
    rw [← h2]
    simp [h1]
  · intro h
    obtain ⟨j, h1, h2⟩ := List.getElem_of_mem h
    exact ⟨j, h1, by simp [h1, h2]⟩
theorem up_compact {l : List Str} (h : l.Pairwise (fun a b => a ≤ b)) : upS (Lib.compact l) := by
  have hi := List.pairwise_iff_getElem.1 h
  unfold Lib.compact Lib.compactUpTo upS
  refine List.pairwise_map.2 (List.pairwise_filter.2 ?_)
  refine List.Pairwise.imp_of_mem (fun {a b} ha hb hab => ?_) List.pairwise_lt_range
  intro _ hkb
  have ha' : a < l.length := List.mem_range.1 ha
  have hb' : b < l.length := List.mem_range.1 hb
  unfold Lib.keeps at hkb
  have hk := (of_decide_eq_true hkb).resolve_left (by omega)
  have e1 : ∀ j, j < l.length → l.toArray[j]! = l[j]! := fun j hj => by simp
  have g : ∀ j (hj : j < l.length), l.toArray[j]! = l[j] := fun j hj => by simp [hj]
  rw [g b hb', g (b - 1) (by omega)] at hk
  show bef l.toArray[a]! l.toArray[b]! = true
  rw [g a ha', g b hb']
  have k1 : bef (l[b - 1]'(by omega)) l[b] = true := bef_of_le (hi (b - 1) b (by omega) hb' (by omega)) (fun e => hk e.symm)
  rcases Nat.lt_or_ge a (b - 1) with hlt | hge
  · by_cases he : l[a] = l[b - 1]'(by omega)
    · rw [he]; exact k1
    · exact bef_trans (bef_of_le (hi a (b - 1) ha' (by omega) hlt) he) k1
  · have : a = b - 1 := by omega
    subst this
    exact k1

theorem foldW_up : ∀ (xs l : List Str), upS l → upS (xs.foldl withL l)
  | [], _, h => h
  | _ :: xs, _, h => foldW_up xs _ (up_withL h)
theorem mem_foldW {x : Str} : ∀ (xs l : List Str), x ∈ xs.foldl withL l ↔ x ∈ l ∨ x ∈ xs
  | [], l => by simp
  | y :: xs, l => by
    rw [List.foldl_cons, mem_foldW xs, mem_withL, List.mem_cons]
    exact ⟨fun h => by rcases h with (h | h) | h <;> simp [h], fun h => by rcases h with h | h | h <;> simp [h]⟩
theorem foldW_len : ∀ (xs l : List Str), (xs.foldl withL l).length ≤ l.length + xs.length
  | [], _ => Nat.le_refl _
  | x :: xs, l => by
    have h1 := foldW_len xs (withL l x)
    have h2 := withL_len l x
    rw [List.foldl_cons, List.length_cons]; omega
theorem mem_sortS {x : Str} {l : List Str} : x ∈ l.mergeSort (fun x y => decide (x ≤ y)) ↔ x ∈ l := (List.mergeSort_perm l _).mem_iff
theorem sorted_le (l : List Str) : (l.mergeSort fun x y => decide (x ≤ y)).Pairwise (fun a b => a ≤ b) := by
  have := List.pairwise_mergeSort (le := fun (x y : Str) => decide (x ≤ y)) (fun a b c h1 h2 => by simp only [decide_eq_true_eq] at *; exact List.le_trans h1 h2) (fun a b => by
    simp only [Bool.or_eq_true, decide_eq_true_eq]
    exact List.le_total a b) l
  exact this.imp fun {a b} h => of_decide_eq_true h
end Go.Proofs.YtmhchakjkgdpmaaGreatDoor
namespace Go.Proofs.YtmhchakjkgdpmaaGreatDoor
open Go.RowKit

/-- A row. -/
structure Rw where
  part : Str
  key : Int
  val : Int
  deriving DecidableEq, Inhabited

/-- Is a text a name? -/
def nameOk (s : Str) : Bool := decide (s ≠ []) && (decide (s.length ≤ 8) && s.all (fun b => partSigns.contains b))
/-- A row's fault, by its number. -/
def rowCheck (r : Rw) : Nat := if nameOk r.part = false then 5 else if farN r.key ∨ farN r.val then 2 else 0
def rowLine (r : Rw) : Str := r.part ++ numsTail [r.key, r.val]
def rowText (r : Rw) : Str := if rowCheck r = 0 then rowLine r else []
def zeroR : Rw := ⟨[], 0, 0⟩
def rowOf : List Str → Option Rw
  | [p, a, b] =>
    match numsOf [a, b] with
    | some [k, v] => some ⟨p, k, v⟩
    | _ => none
  | _ => none
def rowRead (s : Str) : Rw × Nat :=
  match rowOf (cutAt 32 s) with
  | none => (zeroR, 1)
  | some r => if rowCheck r = 0 then (r, 0) else (zeroR, rowCheck r)

theorem rowCheck_zero {r : Rw} (h : rowCheck r = 0) : nameOk r.part = true ∧ ¬ farN r.key ∧ ¬ farN r.val := by
  unfold rowCheck at h
  split at h
  · cases h
  · rename_i h1
    split at h
    · cases h
    · rename_i h2
      exact ⟨by simpa using h1, fun h => h2 (.inl h), fun h => h2 (.inr h)⟩
theorem name_sign {s : Str} (h : nameOk s = true) : (∀ c ∈ s, c = 45 ∨ 47 ≤ c.toNat) ∧ 1 ≤ s.length ∧ s.length ≤ 8 := by
  simp only [nameOk, Bool.and_eq_true, decide_eq_true_eq, List.all_eq_true] at h
  obtain ⟨h1, h2, h3⟩ := h
  refine ⟨fun c hc => ?_, by cases s with | nil => exact absurd rfl h1 | cons _ _ => simp, h2⟩
  have h4 := h3 c hc
  have h5 : ∀ d ∈ partSigns, d = 45 ∨ 47 ≤ d.toNat := by decide
  exact h5 c (by simpa using h4)
theorem rowRead_line {r : Rw} (h : rowCheck r = 0) : rowRead (rowLine r) = (r, 0) := by
  obtain ⟨h1, h2, h3⟩ := rowCheck_zero h
  have hno : (32 : UInt8) ∉ r.part := not_mem_sign (name_sign h1).1 (by decide) (by decide)
  have hc : cutAt 32 (rowLine r) = r.part :: [r.key, r.val].map Lib.itoa := cut_nums _ _ hno
  have hb : ∀ x ∈ [r.key, r.val], -10000000000 < x ∧ x < 10000000000 := by
    unfold farN at h2 h3
    intro x hx
    simp only [List.mem_cons, List.not_mem_nil, or_false] at hx
    rcases hx with rfl | rfl <;> omega
  have hn : numsOf [Lib.itoa r.key, Lib.itoa r.val] = some [r.key, r.val] := numsOf_map [r.key, r.val] hb
  have hr : rowOf [r.part, Lib.itoa r.key, Lib.itoa r.val] = some r := by
    show (match numsOf [Lib.itoa r.key, Lib.itoa r.val] with | some [k, v] => some ⟨r.part, k, v⟩ | _ => none) = some r
    rw [hn]
  unfold rowRead
  rw [hc]
  show (match rowOf [r.part, Lib.itoa r.key, Lib.itoa r.val] with | none => (zeroR, 1) | some r => if rowCheck r = 0 then (r, 0) else (zeroR, rowCheck r)) = (r, 0)
  rw [hr]
  show (if rowCheck r = 0 then (r, 0) else (zeroR, rowCheck r)) = (r, 0)
  rw [if_pos h]
theorem rowRead_none {s : Str} (h : rowOf (cutAt 32 s) = none) : rowRead s = (zeroR, 1) := by unfold rowRead; rw [h]
theorem rowRead_some {s : Str} {r : Rw} (h : rowOf (cutAt 32 s) = some r) : rowRead s = if rowCheck r = 0 then (r, 0) else (zeroR, rowCheck r) := by unfold rowRead; rw [h]
theorem rowOf_len {l : List Str} (h : l.length ≠ 3) : rowOf l = none := by
  match l, h with
  | [], _ => rfl
  | [_], _ => rfl
  | [_, _], _ => rfl
  | [_, _, _], h => exact absurd rfl h
  | _ :: _ :: _ :: _ :: _, _ => rfl
theorem three_strs {l : List Str} (h : l.length = 3) : ∃ p a b, l = [p, a, b] := by
  match l, h with
  | [p, a, b], _ => exact ⟨p, a, b, rfl⟩
theorem two_ints {l : List Int} (h : l.length = 2) : ∃ a b, l = [a, b] := by
  match l, h with
  | [a, b], _ => exact ⟨a, b, rfl⟩
theorem rowOf_nums {p a b : Str} (h : numsOf [a, b] = none) : rowOf [p, a, b] = none := by
  show (match numsOf [a, b] with | some [k, v] => some (⟨p, k, v⟩ : Rw) | _ => none) = none
  rw [h]
theorem rowOf_two {p a b : Str} {k v : Int} (h : numsOf [a, b] = some [k, v]) : rowOf [p, a, b] = some ⟨p, k, v⟩ := by
  show (match numsOf [a, b] with | some [k, v] => some (⟨p, k, v⟩ : Rw) | _ => none) = some ⟨p, k, v⟩
  rw [h]
theorem rowRead_check {s : Str} (h : (rowRead s).2 = 0) : rowCheck (rowRead s).1 = 0 := by
  cases hr : rowOf (cutAt 32 s) with
  | none => rw [rowRead_none hr] at h; cases h
  | some r =>
    rw [rowRead_some hr] at h ⊢
    by_cases h0 : rowCheck r = 0
    · rw [if_pos h0]; exact h0
    · rw [if_neg h0] at h; exact absurd h h0

/-- The order of rows. -/
def lessR (a b : Rw) : Bool := if a.part ≠ b.part then bef a.part b.part else if a.key ≠ b.key then decide (a.key < b.key) else decide (a.val < b.val)
def cmpI (a b : Int) : Int := if a < b then -1 else if b < a then 1 else 0
def cmpS (a b : Str) : Int := if bef a b = true then -1 else if bef b a = true then 1 else 0
def cmpR (a b : Rw) : Int := if cmpS a.part b.part ≠ 0 then cmpS a.part b.part else if cmpI a.key b.key ≠ 0 then cmpI a.key b.key else cmpI a.val b.val
theorem bef_irrefl (a : Str) : bef a a = false := by
  cases h : bef a a with
  | false => rfl
  | true => have := up_asym h; rw [h] at this; exact this
theorem bef_or : ∀ {a b : Str}, a ≠ b → bef a b = true ∨ bef b a = true
  | [], [], h => absurd rfl h
  | [], _ :: _, _ => .inl rfl
  | _ :: _, [], _ => .inr rfl
  | a :: r, b :: s, h => by
    show (decide (a < b) || (a == b && bytesBefore r s)) = true ∨ (decide (b < a) || (b == a && bytesBefore s r)) = true
    by_cases hab : a = b
    · subst hab
      have hrs : r ≠ s := fun e => h (by rw [e])
      rcases bef_or hrs with h1 | h1
      · left; have h1 : bytesBefore r s = true := h1; simp [h1]
      · right; have h1 : bytesBefore s r = true := h1; simp [h1]
    · rcases Nat.lt_or_gt_of_ne (fun e => hab (UInt8.toNat_inj.1 e)) with h1 | h1
      · left; simp [UInt8.lt_iff_toNat_lt, h1]
      · right; simp [UInt8.lt_iff_toNat_lt, h1]
theorem cmpS_zero {a b : Str} : cmpS a b = 0 ↔ a = b := by
  unfold cmpS
  constructor
  · intro h
    by_cases hab : a = b
    · exact hab
    · rcases bef_or hab with h1 | h1
      · rw [if_pos h1] at h; cases h
      · rw [if_neg (by rw [up_asym h1]; decide), if_pos h1] at h; cases h
  · rintro rfl
    rw [if_neg (by rw [bef_irrefl]; decide), if_neg (by rw [bef_irrefl]; decide)]
theorem cmpI_zero {a b : Int} : cmpI a b = 0 ↔ a = b := by
  unfold cmpI
  split
  · omega
  · split <;> omega
theorem cmpR_less (a b : Rw) : decide (cmpR a b < 0) = lessR a b := by
  unfold cmpR lessR
  by_cases h1 : a.part = b.part
  · rw [if_neg (fun h : cmpS a.part b.part ≠ 0 => h (cmpS_zero.2 h1)), if_neg (fun h : a.part ≠ b.part => h h1)]
    by_cases h2 : a.key = b.key
    · rw [if_neg (fun h : cmpI a.key b.key ≠ 0 => h (cmpI_zero.2 h2)), if_neg (fun h : a.key ≠ b.key => h h2)]
      unfold cmpI
      by_cases h3 : a.val < b.val
      · simp [h3]
      · by_cases h4 : b.val < a.val <;> simp [h3, h4]
    · rw [if_pos (show cmpI a.key b.key ≠ 0 from fun e => h2 (cmpI_zero.1 e)), if_pos (show a.key ≠ b.key from h2)]
      unfold cmpI
      by_cases h3 : a.key < b.key
      · simp [h3]
      · by_cases h4 : b.key < a.key <;> simp [h3, h4]
  · rw [if_pos (show cmpS a.part b.part ≠ 0 from fun e => h1 (cmpS_zero.1 e)), if_pos (show a.part ≠ b.part from h1)]
    unfold cmpS
    cases h3 : bef a.part b.part with
    | true => simp
    | false =>
      rcases bef_or h1 with h4 | h4
      · rw [h3] at h4; cases h4
      · simp [h4]
theorem less_irrefl (a : Rw) : lessR a a = false := by simp [lessR]
theorem less_trans {a b c : Rw} (h1 : lessR a b = true) (h2 : lessR b c = true) : lessR a c = true := by
  unfold lessR at *
  by_cases e1 : a.part = b.part
  · by_cases e2 : b.part = c.part
    · rw [if_neg (fun h : a.part ≠ b.part => h e1)] at h1
      rw [if_neg (fun h : b.part ≠ c.part => h e2)] at h2
      rw [if_neg (fun h : a.part ≠ c.part => h (e1.trans e2))]
      by_cases k1 : a.key = b.key <;> by_cases k2 : b.key = c.key
      · rw [if_neg (fun h : a.key ≠ b.key => h k1)] at h1
        rw [if_neg (fun h : b.key ≠ c.key => h k2)] at h2
        rw [if_neg (fun h : a.key ≠ c.key => h (k1.trans k2))]
        simp only [decide_eq_true_eq] at *; omega
      · rw [if_pos k2] at h2
        rw [if_pos (by rw [k1]; exact k2)]
        simp only [decide_eq_true_eq] at *; omega
      · rw [if_pos k1] at h1
        rw [if_pos (by rw [← k2]; exact k1)]
        simp only [decide_eq_true_eq] at *; omega
      · rw [if_pos k1] at h1
        rw [if_pos k2] at h2
        simp only [decide_eq_true_eq] at h1 h2
        rw [if_pos (by omega)]
        simp only [decide_eq_true_eq]; omega
    · rw [if_pos e2] at h2
      rw [if_pos (by rw [e1]; exact e2), e1]; exact h2
  · rw [if_pos e1] at h1
    by_cases e2 : b.part = c.part
    · rw [if_pos (by rw [← e2]; exact e1), ← e2]; exact h1
    · rw [if_pos e2] at h2
      have h3 := bef_trans h1 h2
      rw [if_pos (by rintro e; rw [e, bef_irrefl] at h3; cases h3)]; exact h3
theorem less_or {a b : Rw} (h : a ≠ b) : lessR a b = true ∨ lessR b a = true := by
  unfold lessR
  by_cases e1 : a.part = b.part
  · rw [if_neg (fun h : a.part ≠ b.part => h e1), if_neg (fun h : b.part ≠ a.part => h e1.symm)]
    by_cases e2 : a.key = b.key
    · rw [if_neg (fun h : a.key ≠ b.key => h e2), if_neg (fun h : b.key ≠ a.key => h e2.symm)]
      have e3 : a.val ≠ b.val := fun e3 => h (by cases a; cases b; simp_all)
      simp only [decide_eq_true_eq]; omega
    · rw [if_pos (show a.key ≠ b.key from e2), if_pos (show b.key ≠ a.key from fun e => e2 e.symm)]
      simp only [decide_eq_true_eq]; omega
  · rw [if_pos (show a.part ≠ b.part from e1), if_pos (show b.part ≠ a.part from fun e => e1 e.symm)]
    exact bef_or e1
theorem less_asym {a b : Rw} (h : lessR a b = true) : lessR b a = false := by
  cases h2 : lessR b a with
  | false => rfl
  | true => have := less_trans h h2; rw [less_irrefl] at this; cases this
/-- No later one comes ahead of an earlier one. -/
def upR (l : List Rw) : Prop := l.Pairwise (fun a b => lessR b a = false)
theorem le_trans' {a b c : Rw} (h1 : lessR b a = false) (h2 : lessR c b = false) : lessR c a = false := by
  cases h : lessR c a with
  | false => rfl
  | true =>
    by_cases hab : a = b
    · subst hab; rw [h] at h2; exact h2
    · rcases less_or hab with h3 | h3
      · have := less_trans h h3; rw [h2] at this; cases this
      · rw [h1] at h3; cases h3
theorem up_unique {l m : List Rw} (hl : upR l) (hm : upR m) (hp : l.Perm m) : l = m :=
  List.Perm.eq_of_pairwise (le := fun a b => lessR b a = false) (fun a b _ _ h1 h2 => by
    by_cases hab : a = b
    · exact hab
    · rcases less_or hab with h3 | h3
      · rw [h3] at h2; cases h2
      · rw [h3] at h1; cases h1) hl hm hp
/-- One row more in a rising list. -/
def insR (x : Rw) : List Rw → List Rw
  | [] => [x]
  | y :: r => if lessR x y = true then x :: y :: r else y :: insR x r
theorem insR_perm (x : Rw) : ∀ l : List Rw, (insR x l).Perm (x :: l)
  | [] => .refl _
  | y :: r => by
    unfold insR
    split
    · exact .refl _
    · exact ((insR_perm x r).cons y).trans (.swap x y r)
theorem insR_up {x : Rw} : ∀ {l : List Rw}, upR l → upR (insR x l)
  | [], _ => by simp [insR, upR]
  | y :: r, h => by
    obtain ⟨h1, h2⟩ := List.pairwise_cons.1 h
    unfold insR
    split
    · rename_i hb
      refine List.pairwise_cons.2 ⟨fun z hz => ?_, h⟩
      rcases List.mem_cons.1 hz with rfl | hz
      · exact less_asym hb
      · exact le_trans' (less_asym hb) (h1 z hz)
    · rename_i hb
      refine List.pairwise_cons.2 ⟨fun z hz => ?_, insR_up h2⟩
      rcases List.mem_cons.1 ((insR_perm x r).mem_iff.1 hz) with rfl | hz
      · simpa using hb
      · exact h1 z hz
theorem insR_at {x : Rw} : ∀ {l : List Rw} {k : Nat}, k ≤ l.length → (∀ j < k, ∀ y, l[j]? = some y → lessR x y = false) → (∀ y, l[k]? = some y → lessR x y = true) → insR x l = l.take k ++ x :: l.drop k
  | [], 0, _, _, _ => rfl
  | [], _ + 1, h, _, _ => by simp at h
  | y :: r, 0, _, _, h2 => by
    unfold insR
    rw [if_pos (h2 y rfl)]; rfl
  | y :: r, k + 1, h, h1, h2 => by
    unfold insR
    rw [if_neg (by rw [h1 0 (by omega) y rfl]; decide), insR_at (k := k) (by simpa using h) (fun j hj z hz => h1 (j + 1) (by omega) z (by simpa using hz)) (fun z hz => h2 z (by simpa using hz))]
    rfl
def sortR (l : List Rw) : List Rw := l.foldl (fun a x => insR x a) []
theorem sort_fold : ∀ (l a : List Rw), upR a → upR (l.foldl (fun a x => insR x a) a) ∧ (l.foldl (fun a x => insR x a) a).Perm (a ++ l)
  | [], a, h => ⟨h, by simp⟩
  | x :: r, a, h => by
    obtain ⟨h1, h2⟩ := sort_fold r (insR x a) (insR_up h)
    refine ⟨h1, h2.trans ?_⟩
    refine ((insR_perm x a).append_right r).trans ?_
    exact (List.perm_middle).symm
theorem sort_up (l : List Rw) : upR (sortR l) := (sort_fold l [] .nil).1
theorem sort_perm (l : List Rw) : (sortR l).Perm l := by simpa [sortR] using (sort_fold l [] .nil).2
theorem sort_of {l m : List Rw} (h : upR m) (hp : m.Perm l) : m = sortR l := up_unique h (sort_up l) (hp.trans (sort_perm l).symm)
theorem sort_len (l : List Rw) : (sortR l).length = l.length := (sort_perm l).length_eq
theorem sort_eq {l m : List Rw} : sortR l = sortR m ↔ l.Perm m := by
  constructor
  · intro h
    have := sort_perm l
    rw [h] at this
    exact this.symm.trans (sort_perm m)
  · intro h
    exact sort_of (sort_up l) ((sort_perm l).trans h)
theorem sort_again (l : List Rw) : sortR (sortR l) = sortR l := (sort_of (sort_up l) (.refl _)).symm
theorem sort_snoc (l : List Rw) (x : Rw) : sortR (l ++ [x]) = insR x (sortR l) := by simp [sortR, List.foldl_append]
def dropR (l : List Rw) (keys : List Int) : List Rw := l.filter fun r => !decide (r.key ∈ keys)
def withinP (lo hi : Int) (r : Rw) : Bool := decide (r.key < lo) || decide (hi < r.key)
def withinR (l : List Rw) (lo hi : Int) : List Rw := l.filter fun r => !withinP lo hi r
theorem drop_again (l : List Rw) (keys : List Int) : dropR (dropR l keys) keys = dropR l keys := by
  unfold dropR
  rw [List.filter_filter]
  simp
theorem within_all {l : List Rw} {hi : Int} (h : ∀ r ∈ l, -9223372036854775808 ≤ r.key ∧ r.key ≤ hi) : withinR l (-9223372036854775808) hi = l := by
  unfold withinR
  refine List.filter_eq_self.2 fun r hr => ?_
  have := h r hr
  simp [withinP]; omega
theorem within_two {l : List Rw} {a : Int} (h : ∀ r ∈ l, -9223372036854775808 ≤ r.key ∧ r.key ≤ 9223372036854775807) : (withinR l (-9223372036854775808) a ++ withinR l (a + 1) 9223372036854775807).Perm l := by
  have e : withinR l (a + 1) 9223372036854775807 = l.filter (fun r => !(!withinP (-9223372036854775808) a r)) := by
    unfold withinR
    refine List.filter_congr fun r hr => ?_
    have := h r hr
    simp only [withinP, Bool.not_not]
    rw [Bool.eq_iff_iff]
    simp
    omega
  rw [e]
  exact List.filter_append_perm _ l
end Go.Proofs.YtmhchakjkgdpmaaGreatDoor
namespace Go.Proofs.YtmhchakjkgdpmaaGreatDoor
open Go.RowKit

abbrev encR (r : Rw) : List Value := [S r.part, .int .i64 r.key, .int .i64 r.val]
theorem encR_enc : Enc encR 3 := fun x => ⟨rfl, by simp [Value.oneCell']⟩
abbrev RowsAt (w : World) (v : Value) (l : List Rw) : Prop := At encR 3 w v l
theorem szRw (w : World) : (sizeOf 110).run Tryz.prog w = .ok 3 w := by kernel_rfl
theorem elRw : ElemInfo Tryz.prog 72 110 3 32 := elemInfo_of Tryz.underlying72 (z := .agg #[.string ByteArray.empty, .int .i64 0, .int .i64 0]) (by kernel_rfl) rfl (by decide)
/-- A row's numbers are of 64 bits. -/
def RowWf (r : Rw) : Prop := (-9223372036854775808 ≤ r.key ∧ r.key ≤ 9223372036854775807) ∧ (-9223372036854775808 ≤ r.val ∧ r.val ≤ 9223372036854775807)
abbrev rowV (r : Rw) : Value := .agg #[S r.part, .int .i64 r.key, .int .i64 r.val]
abbrev rowO (r : Rw) : Obj := .cells #[S r.part, .int .i64 r.key, .int .i64 r.val] 110
theorem rowCells {w w1 w6 : World} {r : Rw} (hw : w1 = w.alloc (rowO r)) (h6 : Below w1.heap.size w1 w6) :
    w6.cell? ⟨w.heap.size, 0, none⟩ = some (S r.part) ∧ w6.cell? ⟨w.heap.size, 1, none⟩ = some (.int .i64 r.key) ∧ w6.cell? ⟨w.heap.size, 2, none⟩ = some (.int .i64 r.val) := by
  subst hw
  have h := heap_alloc_new w (.cells #[S r.part, .int .i64 r.key, .int .i64 r.val] 110)
  have h' := (h6.block w.heap.size (by simp)).trans h
  refine ⟨?_, ?_, ?_⟩ <;> (rw [cell_of_row w6 _ _ _ _ (0, 0) h']; rfl)
/-- A round's cells. -/
theorem rwCells {w w' : World} {b o : Nat} {l : List Rw} {k : Nat} {x : Rw} (hx : ∀ (k : Nat) (x : Rw), l[k]? = some x → ∀ (j : Nat) (u : Value), (encR x)[j]? = some u → w.cell? ⟨b, o + k * 3 + j, none⟩ = some u) (hb : Below w.heap.size w w') (hk : l[k]? = some x) :
    w'.cell? ⟨b, o + k * 3, none⟩ = some (S x.part) ∧ w'.cell? ⟨b, o + k * 3 + 1, none⟩ = some (.int .i64 x.key) ∧ w'.cell? ⟨b, o + k * 3 + 2, none⟩ = some (.int .i64 x.val) := by
  have h := fun j u hu => by
    have := hx k x hk j u hu
    exact (hb.cell (World.block_lt_of_cell? w _ this)).trans this
  exact ⟨h 0 _ rfl, h 1 _ rfl, h 2 _ rfl⟩
/-- A block of three cells, written. -/
abbrev thr (w : World) (g o : Nat) (b0 b1 b2 : Value) : World := ((w.setCell ⟨g, o, none⟩ b0).setCell ⟨g, o + 1, none⟩ b1).setCell ⟨g, o + 2, none⟩ b2
theorem thr_row {w : World} {g o : Nat} {t : TypeId} {fr : Nat × Nat} {cur : Array Value} (hg : w.heap[g]? = some (.cells cur t fr)) (b0 b1 b2 : Value) : (thr w g o b0 b1 b2).heap[g]? = some (.cells (((cur.setIfInBounds o b0).setIfInBounds (o + 1) b1).setIfInBounds (o + 2) b2) t fr) :=
  row_setCell (row_setCell (row_setCell hg b0) b1) b2
theorem thr_below {B : Nat} {w0 w : World} {g o : Nat} (hb : Below B w0 w) (hB : B ≤ g) (b0 b1 b2 : Value) : Below B w0 (thr w g o b0 b1 b2) :=
  ((hb.setCell (p := ⟨g, o, none⟩) hB _).setCell (p := ⟨g, o + 1, none⟩) hB _).setCell (p := ⟨g, o + 2, none⟩) hB _
theorem thr_new {w : World} {g : Nat} {t : TypeId} {fr : Nat × Nat} {a0 a1 a2 : Value} (hg : w.heap[g]? = some (.cells #[a0, a1, a2] t fr)) (b0 b1 b2 : Value) : (thr w g 0 b0 b1 b2).heap[g]? = some (.cells #[b0, b1, b2] t fr) := thr_row hg b0 b1 b2

theorem less_befR : ∀ a b : Str, Op.bytesLess a b = bef a b
  | [], [] => by simp [Op.bytesLess, bytesBefore]
  | [], _ :: _ => by simp [Op.bytesLess, bytesBefore]
  | _ :: _, [] => by simp [Op.bytesLess, bytesBefore]
  | a :: r, b :: s => by
    have ih := less_befR r s
    show Op.bytesLess (a :: r) (b :: s) = (decide (a < b) || (a == b && bytesBefore r s))
    unfold Op.bytesLess
    rw [ih]
def rowEr (r : Rw) : Er := erOf (rowCheck r)
theorem rowCheck_name {r : Rw} (h : nameOk r.part = false) : rowCheck r = 5 := if_pos h
theorem rowCheck_far {r : Rw} (h : nameOk r.part = true) (h2 : farN r.key ∨ farN r.val) : rowCheck r = 2 := by unfold rowCheck; rw [if_neg (by rw [h]; decide), if_pos h2]
theorem rowCheck_right {r : Rw} (h : nameOk r.part = true) (h2 : ¬ farN r.key) (h3 : ¬ farN r.val) : rowCheck r = 0 := by unfold rowCheck; rw [if_neg (by rw [h]; decide), if_neg (fun h => h.elim h2 h3)]

set_option maxRecDepth 20000 in
theorem rowName_any (s : Str) (w : World) (hs : s.length ≤ 100000) :
    Calls Tryz.prog 264 #[S s] w fun e w' => e = .returned (.bool (nameOk s)) ∧ Below w.heap.size w w' := by
  unfold nameOk
  by_cases h0 : s = []
  · subst h0
    go_enter Tryz.func264, Tryz.ntmps264
    go_wp2_with fail
    go_ret
    exact ⟨rfl, Below.refl _ _⟩
  have g0 : (!s.isEmpty) = true := by simpa using h0
  have e0 : decide (s ≠ []) = true := by simpa using h0
  rw [e0, Bool.true_and]
  by_cases h1 : s.length ≤ 8
  · have g1 : decide ((s.length : Int) ≤ 8) = true := by simp; omega
    have g2 : (s.length : Int) ≤ 8 := by omega
    have e1 : decide (s.length ≤ 8) = true := by simpa using h1
    rw [e1, Bool.true_and]
    go_enter Tryz.func264, Tryz.ntmps264
    go_wp2_with fail
    refine (trimPart_any s _ hs).mono ?_
    rintro e w1 ⟨rfl, hb1⟩
    have hT : (Lib.trimS s partSigns).isEmpty = s.all (fun b => partSigns.contains b) := by
      rw [Bool.eq_iff_iff, List.isEmpty_iff, trimS_nilP]
    have HT := Lib.hid hT; clear hT
    generalize Lib.trimS s partSigns = T at *
    go_wp2_with fail
    go_ret
    exact ⟨ret_bool (by first | exact HT.out | (rw [← HT.out]; cases T <;> rfl)), hb1⟩
  · have g1 : decide ((s.length : Int) ≤ 8) = false := by simp; omega
    have e1 : decide (s.length ≤ 8) = false := by simpa using h1
    rw [e1, Bool.false_and]
    go_enter Tryz.func264, Tryz.ntmps264
    go_wp2_with fail
    go_ret
    exact ⟨rfl, Below.refl _ _⟩
set_option maxHeartbeats 1000000 in
set_option maxRecDepth 20000 in
theorem rowCheck_any (E : Nat → Addr) (B : Nat) (r : Rw) (w : World) (hE : Errs [2, 5] E B w) (hs : r.part.length ≤ 100000) :
    Calls Tryz.prog 214 #[rowV r] w fun e w' => ∃ ev, e = .returned ev ∧ ErV E w' ev (rowEr r) ∧ Below w.heap.size w w' := by
  have hBw := hE.le
  have hb0 : Below w.heap.size w (w.alloc (.cells #[S r.part, .int .i64 r.key, .int .i64 r.val] 110)) := (Below.refl _ _).alloc (Nat.le_refl _) _
  have Cs := Lib.hid (fun w6 (h : Below (w.alloc (.cells #[S r.part, .int .i64 r.key, .int .i64 r.val] 110)).heap.size (w.alloc (.cells #[S r.part, .int .i64 r.key, .int .i64 r.val] 110)) w6) => rowCells (r := r) rfl h)
  have hE1 := hE.below' hb0 hE.le
  have V0 := fun w6 (h : Below (w.alloc (.cells #[S r.part, .int .i64 r.key, .int .i64 r.val] 110)).heap.size (w.alloc (.cells #[S r.part, .int .i64 r.key, .int .i64 r.val] 110)) w6) => (⟨(hE1.below' h hE1.le).var 2 (by decide), (hE1.below' h hE1.le).var 5 (by decide)⟩ : _ ∧ _)
  simp only [errG] at V0
  have V := Lib.hid V0
  clear V0
  obtain ⟨c0, c1, c2⟩ := Cs.out _ (Below.refl _ _)
  go_enter Tryz.func214, Tryz.ntmps214
  go_wp2_with fail
  generalize w.alloc (.cells #[S r.part, .int .i64 r.key, .int .i64 r.val] 110) = w1 at *
  refine (rowName_any r.part _ hs).mono ?_
  rintro e w2 ⟨rfl, hb2⟩
  have hb2' := hb0.trans (hb2.mono hb0.size)
  clear c0 c1 c2
  obtain ⟨c0, c1, c2⟩ := Cs.out w2 hb2
  obtain ⟨v2, v5⟩ := V.out w2 hb2
  cases hnm : nameOk r.part with
  | false =>
    have HF : Hid (rowEr r = .bare 5) := Lib.hid (by unfold rowEr; rw [rowCheck_name hnm]; rfl)
    clear hnm
    go_wp2_with fail
    go_ret
    exact ⟨_, rfl, by rw [HF.out]; exact ⟨by decide, rfl⟩, hb2'⟩
  | true =>
    have HN := Lib.hid hnm
    clear hnm
    go_wp2_with fail
    refine (far_any r.key _).mono ?_
    rintro e w3 ⟨rfl, rfl⟩
    by_cases b1 : farN r.key
    · have HF : Hid (rowEr r = .bare 2) := Lib.hid (by unfold rowEr; rw [rowCheck_far HN.out (.inl b1)]; rfl)
      rw [decide_eq_true b1]
      clear b1
      go_wp2_with fail
      go_ret
      exact ⟨_, rfl, by rw [HF.out]; exact ⟨by decide, rfl⟩, hb2'⟩
    rw [decide_eq_false b1]
    have B1 := Lib.hid b1
    clear b1
    go_wp2_with fail
    refine (far_any r.val _).mono ?_
    rintro e w3 ⟨rfl, rfl⟩
    by_cases b2 : farN r.val
    · have HF : Hid (rowEr r = .bare 2) := Lib.hid (by unfold rowEr; rw [rowCheck_far HN.out (.inr b2)]; rfl)
      rw [decide_eq_true b2]
      clear b2
      go_wp2_with fail
      go_ret
      exact ⟨_, rfl, by rw [HF.out]; exact ⟨by decide, rfl⟩, hb2'⟩
    rw [decide_eq_false b2]
    have HF : Hid (rowEr r = .nil) := Lib.hid (by unfold rowEr; rw [rowCheck_right HN.out B1.out b2]; rfl)
    clear b2
    go_wp2_with fail
    go_ret
    exact ⟨_, rfl, by rw [HF.out]; rfl, hb2'⟩
theorem rowEr_nil {r : Rw} (h : rowCheck r = 0) : rowEr r = .nil := if_pos h
theorem rowEr_bad {r : Rw} (h : rowCheck r ≠ 0) : rowEr r = .bare (rowCheck r) := if_neg h
theorem name_len {r : Rw} (h : rowCheck r = 0) : r.part.length ≤ 8 ∧ -1073741824 ≤ r.key ∧ r.key ≤ 1073741824 ∧ -1073741824 ≤ r.val ∧ r.val ≤ 1073741824 := by
  obtain ⟨h1, h2, h3⟩ := rowCheck_zero h
  have h4 := (name_sign h1).2.2
  unfold farN at h2 h3
  omega
theorem rowLine_len {r : Rw} (h : rowCheck r = 0) : (rowLine r).length ≤ 54 := by
  obtain ⟨h1, h2⟩ := name_len h
  have := numsTail_len [r.key, r.val] (fun x hx => by simp only [List.mem_cons, List.not_mem_nil, or_false] at hx; rcases hx with rfl | rfl <;> omega)
  unfold rowLine
  rw [List.length_append]
  simp only [List.length_cons, List.length_nil] at this
  omega
set_option maxHeartbeats 2000000 in
set_option maxRecDepth 20000 in
theorem rowText_any (E : Nat → Addr) (B : Nat) (r : Rw) (w : World) (hE : Errs [2, 5] E B w) (hT : LNum B w) (hs : r.part.length ≤ 100000) :
    Calls Tryz.prog 215 #[rowV r] w fun e w' => e = .returned (S (rowText r)) ∧ Below w.heap.size w w' := by
  have hBw := hE.le
  have hb0 : Below w.heap.size w (w.alloc (.cells #[S r.part, .int .i64 r.key, .int .i64 r.val] 110)) := (Below.refl _ _).alloc (Nat.le_refl _) _
  have Cs := Lib.hid (fun w6 (h : Below (w.alloc (.cells #[S r.part, .int .i64 r.key, .int .i64 r.val] 110)).heap.size (w.alloc (.cells #[S r.part, .int .i64 r.key, .int .i64 r.val] 110)) w6) => rowCells (r := r) rfl h)
  have hE1 := hE.below' hb0 hE.le; have hT1 := hT.below' hb0 hE.le
  obtain ⟨c0, c1, c2⟩ := Cs.out _ (Below.refl _ _)
  go_enter Tryz.func215, Tryz.ntmps215
  go_wp2_with fail
  generalize w.alloc (.cells #[S r.part, .int .i64 r.key, .int .i64 r.val] 110) = w1 at *
  refine (rowCheck_any E B r _ hE1 hs).mono ?_
  rintro e w2 ⟨ev, rfl, hev, hb2⟩
  clear c0 c1 c2
  have hb2' := hb0.trans (hb2.mono hb0.size)
  by_cases hck : rowCheck r = 0
  case neg =>
    have HF : Hid (rowText r = []) := Lib.hid (if_neg hck)
    rw [rowEr_bad hck] at hev
    obtain ⟨hcr, rfl⟩ := hev
    have HK := Lib.hid hck; clear hck
    go_wp2_with fail
    go_ret
    exact ⟨by rw [HF.out]; rfl, hb2'⟩
  have HF : Hid (rowText r = rowLine r) := Lib.hid (if_pos hck)
  rw [rowEr_nil hck] at hev
  obtain rfl : ev = .nilIface := hev
  obtain ⟨q0, q1, q2, q3, q4⟩ := name_len hck
  clear hck
  have hl1 := itoa_len r.key (by omega) (by omega)
  have hl2 := itoa_len r.val (by omega) (by omega)
  have hT2 := hT1.below' hb2 hT1.le
  obtain ⟨c0, c1, c2⟩ := Cs.out w2 hb2
  have hbd : Below w2.heap.size w2 w2.drew := Bdn (Below.refl _ _) 1
  obtain ⟨k1, hk1⟩ : ∃ k1, Lib.itoa r.key = k1 := ⟨_, rfl⟩
  obtain ⟨k2, hk2⟩ : ∃ k2, Lib.itoa r.val = k2 := ⟨_, rfl⟩
  have hi1 := fun W (h : Below w2.heap.size w2 W) => itoa_any B r.key (by omega) (by omega) W (hT2.below' h hT2.le)
  have hi2 := fun W (h : Below w2.heap.size w2 W) => itoa_any B r.val (by omega) (by omega) W (hT2.below' h hT2.le)
  rw [hk1] at hl1 hi1
  rw [hk2] at hl2 hi2
  have HI1 := Lib.hid hi1; have HI2 := Lib.hid hi2
  have HL : Hid (rowLine r = r.part ++ ([32] ++ (k1 ++ ([32] ++ k2)))) := Lib.hid (by simp [rowLine, numsTail, hk1, hk2])
  clear hi1 hi2 hk1 hk2
  obtain ⟨p, hp⟩ : ∃ p, r.part = p := ⟨_, rfl⟩
  rw [hp] at c0 q0
  have HPp := Lib.hid hp
  clear hp hs
  have a1 := cat_run ⟨p.toArray⟩ ⟨#[32]⟩ (p.length) (1) rfl rfl (by omega)
  have a2 := cat_run (⟨p.toArray⟩ ++ ⟨#[32]⟩) ⟨k1.toArray⟩ (p.length + 1) (k1.length) (by simp only [ByteArray.size_append]; rfl) rfl (by omega)
  have a3 := cat_run (⟨p.toArray⟩ ++ ⟨#[32]⟩ ++ ⟨k1.toArray⟩) ⟨#[32]⟩ (p.length + 1 + k1.length) (1) (by simp only [ByteArray.size_append]; rfl) rfl (by omega)
  have a4 := cat_run (⟨p.toArray⟩ ++ ⟨#[32]⟩ ++ ⟨k1.toArray⟩ ++ ⟨#[32]⟩) ⟨k2.toArray⟩ (p.length + 1 + k1.length + 1) (k2.length) (by simp only [ByteArray.size_append]; rfl) rfl (by omega)
  have HAll : Hid ((⟨p.toArray⟩ : ByteArray) ++ ⟨#[32]⟩ ++ ⟨k1.toArray⟩ ++ ⟨#[32]⟩ ++ ⟨k2.toArray⟩ = ⟨(rowLine r).toArray⟩) := Lib.hid (by
    rw [HL.out, HPp.out]
    apply ByteArray.ext
    simp)
  have HQ0 := Lib.hid q0; have HQ1 := Lib.hid hl1; have HQ2 := Lib.hid hl2
  clear q0 q1 q2 q3 q4 hl1 hl2
  go_wp2_with fail
  go_region_held3 (fun w' => w'.cell? ⟨w.heap.size, 0, none⟩ = some (S p) ∧ w'.cell? ⟨w.heap.size, 1, none⟩ = some (.int .i64 r.key) ∧ w'.cell? ⟨w.heap.size, 2, none⟩ = some (.int .i64 r.val)) (exact ⟨c0, c1, c2⟩) (first
    | (go_at_call 109; (with_reducible refine (HI1.out _ hbd).mono ?_); rintro e w3 ⟨rfl, hb3⟩; have hb3' := hbd.trans (hb3.mono hbd.size); have c0 := (hb3.cell (World.block_lt_of_cell? _ _ c0)).trans c0; have c1 := (hb3.cell (World.block_lt_of_cell? _ _ c1)).trans c1; have c2 := (hb3.cell (World.block_lt_of_cell? _ _ c2)).trans c2)
    | (go_at_call 109; (with_reducible refine (HI2.out _ hb3').mono ?_); rintro e w4 ⟨rfl, hb4⟩; have hb4' := hb3'.trans (hb4.mono hb3'.size); have c0 := (hb4.cell (World.block_lt_of_cell? _ _ c0)).trans c0; have c1 := (hb4.cell (World.block_lt_of_cell? _ _ c1)).trans c1; have c2 := (hb4.cell (World.block_lt_of_cell? _ _ c2)).trans c2))
  all_goals
    go_wp2_with fail
    go_ret
    refine ⟨?_, hb2'.trans (hb4'.mono hb2'.size)⟩
    show Ending.returned (.string ((⟨p.toArray⟩ : ByteArray) ++ ⟨#[32]⟩ ++ ⟨k1.toArray⟩ ++ ⟨#[32]⟩ ++ ⟨k2.toArray⟩)) = _
    rw [HAll.out, HF.out]
end Go.Proofs.YtmhchakjkgdpmaaGreatDoor
namespace Go.Proofs.YtmhchakjkgdpmaaGreatDoor
open Go.RowKit Go.Shelf
attribute [local go_sem] Oper.semAt_some

set_option maxRecDepth 100000 in
set_option maxHeartbeats 2000000 in
/-- slices.Values's closure, for every loop body that keeps what lay below n₀. -/
theorem values1R_in (F : Fence) (n : Nat) (h7 : F.fn 211) (hro : F.round = none) (hn : 1 ≤ n) (l Bs n₀ : Nat) (a : Option Addr) (c b o : Nat) (zs : List Rw) (ha : 0 < zs.length → a = some ⟨b, o, none⟩) (hb : 0 < zs.length → b < n₀) (J Jx : List Rw → World → Prop)
    (W : World) (hJ : AbidesFrom W.heap.size J) (hn₀ : n₀ ≤ W.heap.size) (hcm : zs.length ≤ 9223372036854775807)
    (hY : ∀ pre x W1, J pre W1 → pre.length < zs.length → YieldAt F (n - 1) Tryz.prog l #[rowV x] W1 fun e W' =>
      (e = .returned (.bool true) ∧ J (pre ++ [x]) W' ∧ Below n₀ W1 W') ∨ (e = .returned (.bool false) ∧ Jx (pre ++ [x]) W'))
    (hBs : W.cell? ⟨Bs, 0, none⟩ = some (.slice a zs.length c)) (hx : ∀ (k : Nat) (x : Rw), zs[k]? = some x → ∀ (j : Nat) (u : Value), (encR x)[j]? = some u → W.cell? ⟨b, o + k * 3 + j, none⟩ = some u) (h0 : J [] W) :
    CallsIn F n Tryz.prog 211 #[.func (.yield l) #[] #[], .pointer (some ⟨Bs, 0, none⟩)] W fun e W' => (∃ v, e = .returned v) ∧ ((∃ ys, ys = zs ∧ J ys W') ∨ (∃ pre, pre <+: zs ∧ Jx pre W')) := by
  refine callsIn_of_wp Tryz.func211 rfl h7 ?_ hro
  simp only [Tryz.ntmps211, List.size_toArray, List.length_cons, List.length_nil, Nat.reduceAdd, Nat.reduceSub, Array.replicate_succ, Array.replicate_zero, List.push_toArray, List.append_toArray, List.nil_append, List.cons_append]
  gi_wp2
  gi_loopw [7] (fun i wr => ∃ k : Nat, k ≤ zs.length ∧ i = .int .i64 k ∧ J (zs.take k) wr ∧ Below n₀ W wr) (fun i _ => zs.length - (intOf i).toNat)
  case atStart => exact ⟨0, Nat.zero_le _, rfl, h0, Below.refl _ _⟩
  case round =>
    obtain ⟨k, hk, rfl, hJs, hnx⟩ := hrel
    by_cases hlt : k < zs.length
    case neg =>
      obtain rfl : k = zs.length := by omega
      rw [List.take_length] at hJs
      gi_wp2
      go_end0
      exact ⟨⟨_, rfl⟩, .inl ⟨_, rfl, hJs⟩⟩
    obtain ⟨x, hxk⟩ := get_ex hlt
    have hbn := hb (by omega)
    have hcl := fun j u hu => (hnx.cell (p := ⟨b, o + k * 3 + j, none⟩) hbn).trans (hx k x hxk j u hu)
    have c0 := hcl 0 _ rfl
    have c1 := hcl 1 _ rfl
    have c2 := hcl 2 _ rfl
    have i1 := idx_at (c := c) 3 Tryz.underlying72 szRw ha k hlt
    have hk1 : (k : Int) < (zs.length : Int) := by omega
    simp only [Nat.add_zero] at c0 c1 c2
    obtain ⟨e0, e1, e2⟩ := rowCells (r := x) (w := wr) rfl (Below.refl _ _)
    have hJa : J (zs.take k) (wr.alloc (.cells #[S x.part, .int .i64 x.key, .int .i64 x.val] 110)) := hJ _ _ _ none hJs (World.grownBy_alloc wr _ none) (fun r e => by cases e)
    obtain ⟨fn, tmps, assign, body, hy, hR⟩ := hY _ x _ hJa (by rw [List.length_take]; omega)
    have hsn := take_snoc' hxk
    have HSn := Lib.hid hsn
    clear hsn hxk hcl
    gi_wp2
    refine hR.mono ?_
    rintro e W3 (⟨rfl, hJ3, hk3⟩ | ⟨rfl, hJx3⟩)
    · gi_wp2
      go_roundw
      case rel => exact ⟨k + 1, by omega, by simp, by rw [HSn.out]; exact hJ3, (hnx.alloc (Nat.le_trans hn₀ hnx.size) _).trans hk3⟩
      case measure => simp [intOf]; omega
    · gi_wp2
      refine bodyPost_ret (results_none rfl _ _ _) rfl ?_
      exact ⟨⟨_, rfl⟩, .inr ⟨_, by rw [← HSn.out]; exact List.take_prefix _ _, hJx3⟩⟩
theorem valuesR_in (F : Fence) (n : Nat) (h5 : F.fn 162) (hro : F.round = none) (a : Option Addr) (len cap : Nat) (w : World) :
    CallsIn F n Tryz.prog 162 #[.slice a len cap] w fun e w' => e = .returned (.func (.func 211) #[] #[.pointer (some ⟨w.heap.size, 0, none⟩)]) ∧ w' = w.alloc (.cells #[.slice a len cap] 72) := by
  refine callsIn_of_wp Tryz.func162 rfl h5 ?_ hro
  simp only [Tryz.ntmps162, List.size_toArray, List.length_cons, List.length_nil, Nat.reduceAdd, Nat.reduceSub, Array.replicate_succ, Array.replicate_zero, List.push_toArray, List.append_toArray, List.nil_append, List.cons_append]
  gi_wp2
  go_ret
  exact ⟨rfl, rfl⟩
/-- slices.Values(l) hands back a value that yields all of l, in order. -/
theorem valuesR_stops (F : Fence) (n : Nat) (h7 : F.fn 211) (hro : F.round = none) (hn : 1 ≤ n) (Bs n₀ : Nat) (v : Value) (zs : List Rw) (w0 w : World) (hBs : Bs < w.heap.size) (hn₀ : n₀ ≤ w.heap.size)
    (hc : w.cell? ⟨Bs, 0, none⟩ = some v) (hl : RowsAt w0 v zs) (hlow : w0.heap.size ≤ n₀) (hb0 : Below w0.heap.size w0 w) :
    SeqStopsK F n Tryz.prog 211 #[.pointer (some ⟨Bs, 0, none⟩)] (fun x : Rw => #[rowV x]) (Below n₀) (fun ys => ys = zs) (fun pre => pre <+: zs) zs.length w := fun l J Jx W hW hJ _ hY h0 => by
  obtain ⟨a, c, b, o, rfl, ha, hcc, hcm, hx⟩ := hl
  have hbn : 0 < zs.length → b < w0.heap.size := fun h => by
    obtain ⟨x, hxk⟩ := get_ex (l := zs) (k := 0) h
    exact World.block_lt_of_cell? w0 ⟨b, o + 0 * 3 + 0, none⟩ (hx 0 x hxk 0 _ rfl)
  have hbW := hb0.trans (hW.mono hb0.size)
  refine values1R_in F n h7 hro hn l Bs n₀ a c b o zs ha (fun h => Nat.lt_of_lt_of_le (hbn h) hlow) J Jx W hJ (Nat.le_trans hn₀ hW.size) (by unfold maxLen at hcm; omega) hY ((hW.cell (p := ⟨Bs, 0, none⟩) hBs).trans hc) (fun k x hk j u hu => ?_) h0
  have h1 := hx k x hk j u hu
  exact (hbW.cell (World.block_lt_of_cell? w0 _ h1)).trans h1

theorem cells_new3 (w : World) (cs : List Value) (t : TypeId) : ∀ j u, cs[j]? = some u → (w.alloc (.cells cs.toArray t)).cell? ((⟨w.heap.size, 0, none⟩ : Addr).add j) = some u := fun j u hu => by
  rw [add_lit, cell_of_row (w.alloc _) w.heap.size _ cs.toArray t (0, 0) (heap_alloc_new w _)]
  simpa using hu
theorem infoRw : (Tryz.prog.info? 110).map (fun i => (i.zero, i.size, i.bytes)) = some (some (.agg #[.string ByteArray.empty, .int .i64 0, .int .i64 0]), 3, 32) := by kernel_rfl
set_option maxRecDepth 100000 in
set_option maxHeartbeats 2000000 in
/-- slices.AppendSeq(nil, seq): all that seq yields. -/
theorem appendSeqR_in (F : Fence) (n : Nat) (h3 : F.fn 261) (hro : F.round = none) (hn : 3 ≤ n) (gf : Nat) (lb : Array Value) (hFg : F.fn gf) (eg : ∀ args w, (callFunc gf args).run Tryz.prog w = .ok (.enter gf args) w) (zs : List Rw) (hz : zs.length ≤ 100000) (n₀ : Nat) (w : World) (hn₀ : n₀ ≤ w.heap.size)
    (hseq : SeqStopsK F (n - 1) Tryz.prog gf lb (fun x : Rw => #[rowV x]) (Below n₀) (fun ys => ys = zs) (fun pre => pre <+: zs) zs.length w) :
    CallsIn F n Tryz.prog 261 #[.slice none 0 0, .func (.func gf) #[] lb] w fun e w' => ∃ v, e = .returned v ∧ Own encR 110 3 w.heap.size w' v zs ∧ Below w.heap.size w w' := by
  have h1 : 1 ≤ n := by omega
  obtain ⟨i0, hi, hz0, hz1, hz2⟩ := info_parts infoRw
  refine callsIn_of_wp_marks Tryz.func261 rfl h3 ?_ hro
  simp only [Tryz.ntmps261, List.size_toArray, List.length_cons, List.length_nil, Nat.reduceAdd, Nat.reduceSub, Array.replicate_succ, Array.replicate_zero, List.push_toArray, List.append_toArray, List.nil_append, List.cons_append]
  gi_wp2
  have bO := Boxed.new w 72 (.slice none 0 0)
  have hB0 : Below w.heap.size w (w.alloc (.cells #[.slice none 0 0] 72)) := (Below.refl _ w).alloc (Nat.le_refl _) _
  have hsz : (w.alloc (.cells #[.slice none 0 0] 72)).heap.size = w.heap.size + 1 := by simp
  have hseq' : SeqStopsK F (n - 1) Tryz.prog gf lb (fun x : Rw => #[rowV x]) (Below n₀) (fun ys => ys = zs) (fun pre => pre <+: zs) zs.length (w.alloc (.cells #[.slice none 0 0] 72)) := fun l J Jx W hW => hseq l J Jx W (hB0.trans (hW.mono hB0.size))
  obtain ⟨W0, hW0⟩ : ∃ W0, w.alloc (.cells #[.slice none 0 0] 72) = W0 := ⟨_, rfl⟩
  rw [hW0] at bO hB0 hsz hseq' ⊢
  clear hW0
  refine wpIn_rangeFunc_ownH hro h1 (gf := gf) (lb := lb) rfl hFg eg hseq' belowK_t (belowK_b (by omega)) (Below.refl _ _) (fun _ => rfl)
    (fun pre W => (∃ v, Boxed W w.heap.size 72 v ∧ W.ownsRow w.heap.size 110 3 v pre.length (pre.flatMap encR) ∧ True) ∧ Below w.heap.size w W)
    (fun _ _ _ => False)
    (OwnFrom.and (Go.Own.from (holdsRow_own w.heap.size w.heap.size 72 110 3 (fun pre : List Rw => pre.length) (fun pre => pre.flatMap encR) (fun _ _ => True)) _) (ownFrom_below (Nat.le_refl _) (by omega)))
    (fun _ _ _ _ _ hs _ _ => hs)
    ⟨⟨_, bO, World.ownsRow_nil _ _ _ _, trivial⟩, hB0⟩
    (fun x a' W => ∃ Bx, w.heap.size < Bx ∧ W.heap[Bx]? = some (.cells #[S x.part, .int .i64 x.key, .int .i64 x.val] 110 (0, 0)) ∧ a' = { tmps := #[.slice none 0 0, .func (.func gf) #[] lb, .pointer (some ⟨w.heap.size, 0, none⟩), undef, .slice none 0 0, .pointer (some ⟨Bx, 0, none⟩), .func (.func gf) #[] lb, rowV x, undef, undef, undef, undef, undef], defers := [] })
    (fun x a' _ X Y row hs hg hr => by
      obtain ⟨Bx, h1, h2, h3⟩ := hs
      refine ⟨Bx, h1, (hg.block Bx (Array.getElem?_eq_some_iff.1 h2).1 (fun e => ?_)).trans h2, h3⟩
      obtain ⟨_, o, ho, hc⟩ := hr _ e.symm
      rw [h2] at ho; cases ho; cases hc)
    ?assign ?body ?done ?stop
  case assign =>
    rintro l pre x W K ⟨⟨v, hv, hrow, -⟩, hB1⟩ hK
    gi_wp2
    exact hK _ _ ((KeepsOthers.alloc _ _).from _) ((Below.refl _ W).alloc (Nat.le_trans hn₀ hB1.size) _) ⟨⟨v, hv.alloc _, hrow.alloc _, trivial⟩, hB1.alloc hB1.size _⟩ ⟨W.heap.size, hv.lt, World.alloc_heap_new W _, rfl⟩
  case body =>
    rintro l pre x a' W hl ⟨r, hr⟩ ⟨⟨v, hv, hrow, -⟩, hB⟩ ⟨Bx, hBx, bX, rfl⟩ hlt
    have hc := hv.cell
    have c0 : W.cell? ⟨Bx, 0, none⟩ = some (S x.part) := by simp [World.cell?, bX]
    have c1 : W.cell? ⟨Bx, 1, none⟩ = some (.int .i64 x.key) := by simp [World.cell?, bX]
    have c2 : W.cell? ⟨Bx, 2, none⟩ = some (.int .i64 x.val) := by simp [World.cell?, bX]
    gi_wp2_with (gi_at_builtin; refine wpListIn_append_own _ rfl _ _ 72 rfl w.heap.size 110 i0 _ 3 32 Tryz.underlying72 hi hz0 hz1 hz2 rfl (by decide) _ _ _ rfl (hrow.alloc _) ⟨W.heap.size, 0, none⟩ 1 1 (encR x) rfl rfl (cells_new3 _ _ _) (by simp [Value.oneCell']) (by unfold maxLen; omega) (by omega) (by have := hB.size; simp; omega) ?_; intro v' w1 hown' hgrow _; obtain ⟨g', cap', rfl⟩ := ownsRow_succ hown'; obtain ⟨hv1, hv2, hr2, hk2, hb2⟩ := hv.appended (by decide) hrow hB.size (Nat.le_refl _) hown' hgrow; have hc1 := hv1.cell; have hf1 := hv1.frozen)
    exact ⟨hk2.from _, hb2.mono hn₀, ⟨_, hv2, by simpa using hr2, trivial⟩, hB.trans hb2⟩
  case done =>
    rintro D ys W hD rfl ⟨⟨v, hv, hrow, -⟩, hB⟩ hK
    have hc := hv.cell
    gi_wp2
    refine ⟨by simp, .inl ⟨_, _, rfl, run_takeDeferred hK, ?_⟩⟩
    exact ⟨_, results_tmp rfl _ _ _, v, rfl, ownsRow_putObj hrow _ hK rfl, hB.trans (belowK_b (w := w) (Nat.le_refl _) W D _ _ (by omega) hK rfl rfl)⟩
  case stop =>
    rintro D c pre W _ _ h _
    exact h.elim
theorem collectR_in (F : Fence) (n : Nat) (h3 : F.fn 261) (h4 : F.fn 209) (hro : F.round = none) (hn : 4 ≤ n) (gf : Nat) (lb : Array Value) (hFg : F.fn gf) (eg : ∀ args w, (callFunc gf args).run Tryz.prog w = .ok (.enter gf args) w) (zs : List Rw) (hz : zs.length ≤ 100000) (n₀ : Nat) (w : World) (hn₀ : n₀ ≤ w.heap.size)
    (hseq : SeqStopsK F (n - 1 - 1) Tryz.prog gf lb (fun x : Rw => #[rowV x]) (Below n₀) (fun ys => ys = zs) (fun pre => pre <+: zs) zs.length w) :
    CallsIn F n Tryz.prog 209 #[.func (.func gf) #[] lb] w fun e w' => ∃ v, e = .returned v ∧ Own encR 110 3 w.heap.size w' v zs ∧ Below w.heap.size w w' := by
  have h1 : 1 ≤ n := by omega
  refine callsIn_of_wp Tryz.func209 rfl h4 ?_ hro
  simp only [Tryz.ntmps209, List.size_toArray, List.length_cons, List.length_nil, Nat.reduceAdd, Nat.reduceSub, Array.replicate_succ, Array.replicate_zero, List.push_toArray, List.append_toArray, List.nil_append, List.cons_append]
  gi_wp2_with (gi_at_call 261; refine (appendSeqR_in F (n - 1) h3 hro (by omega) gf lb hFg eg zs hz n₀ _ hn₀ hseq).mono ?_; rintro e w' ⟨v, rfl, hown, hb⟩)
  go_ret
  exact ⟨_, rfl, hown, hb⟩
end Go.Proofs.YtmhchakjkgdpmaaGreatDoor
