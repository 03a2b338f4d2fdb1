/- The reference's numbers in plain words: they are the program's. Of no program. Texts in a block: a head of a word and four numbers, a body of lines; one byte of it turned. In plain words. Rising lists of numbers without doubles; sorted and compacted; the least and the greatest. Of no program. Rows in plain words: of no program. Parts in plain words: a spec, a row's group. -/
import Derived.Test.YtpiflhhppigdfaaGreatDoorBx4
import Derived.Test.YtpiflhhppigdfaaGreatDoorBx1
namespace Go.Proofs.YtpiflhhppigdfaaGreatDoor

/-- The digits of a text: behind a sign, if it has one. -/
def digOf (s : Str) : Str := if s.head? = some 45 then s.tail else s
def numRef (s : Str) : Option Int :=
  if (digOf s).length < 1 ∨ 11 < s.length then none
  else if (digOf s).head? = some 48 ∧ 1 < s.length then none
  else (Lib.decFrom 0 (digOf s)).map fun (u : Nat) => if (digOf s).length < s.length then -(u : Int) else (u : Int)

theorem digitVal_inv {c : UInt8} {v : Nat} (h : Lib.digitVal c = some v) : v < 10 ∧ c = UInt8.ofNat (48 + v) := by
  unfold Lib.digitVal at h
  split at h
  · rename_i hc
    obtain rfl := Option.some.inj h
    refine ⟨by omega, ?_⟩
    apply UInt8.toNat_inj.1
    rw [digit_val (by omega)]; omega
  · cases h
theorem dec_big {m v : Nat} (hm : 1 ≤ m) (hv : v < 10) : Lib.decDigits (m * 10 + v) = Lib.decDigits m ++ [UInt8.ofNat (48 + v)] := by
  rw [Lib.decDigits, dif_neg (by omega), show (m * 10 + v) / 10 = m by omega, show (m * 10 + v) % 10 = v by omega]
theorem decFrom_dig : ∀ (l : Str) (acc u : Nat), 1 ≤ acc → Lib.decFrom acc l = some u → Lib.decDigits u = Lib.decDigits acc ++ l
  | [], acc, u, _, h => by obtain rfl := Option.some.inj h; simp
  | c :: r, acc, u, ha, h => by
    unfold Lib.decFrom at h
    split at h
    · rename_i v hv
      obtain ⟨h10, hc⟩ := digitVal_inv hv
      rw [decFrom_dig r _ u (by omega) h, dec_big ha h10, hc]; simp
    · cases h
theorem decFrom_dig0 {d : Str} {u : Nat} (hne : d ≠ []) (h0 : d.head? ≠ some 48 ∨ d.length = 1) (h : Lib.decFrom 0 d = some u) : Lib.decDigits u = d := by
  cases d with
  | nil => exact absurd rfl hne
  | cons c r =>
    unfold Lib.decFrom at h
    split at h
    · rename_i v hv
      obtain ⟨h10, hc⟩ := digitVal_inv hv
      rw [Nat.zero_mul, Nat.zero_add] at h
      rcases Nat.eq_zero_or_pos v with rfl | hp
      · rcases h0 with h0 | h0
        · exact absurd (by rw [hc]; rfl) h0
        · have : r = [] := List.eq_nil_of_length_eq_zero (by simpa using h0)
          subst this
          obtain rfl := Option.some.inj h
          rw [Lib.decDigits_one (by omega), hc]
      · rw [decFrom_dig r v u hp h, Lib.decDigits_one h10, hc]; rfl
    · cases h
theorem dec_head {u : Nat} (hu : 1 ≤ u) : (Lib.decDigits u).head? ≠ some 48 := by
  induction u using Nat.strongRecOn with
  | _ u ih =>
    by_cases h : u < 10
    · rw [Lib.decDigits_one h]
      intro e
      have e1 : UInt8.ofNat (48 + u) = 48 := by simpa using e
      have := digit_val h
      rw [e1] at this
      have h2 : (48 : UInt8).toNat = 48 := rfl
      omega
    · have h1 := ih (u / 10) (by omega) (by omega)
      rw [Lib.decDigits, dif_neg h]
      cases hd : Lib.decDigits (u / 10) with
      | nil => exact absurd hd (dec_ne _)
      | cons c r => rw [hd] at h1; exact h1
theorem dec_head45 (u : Nat) : (Lib.decDigits u).head? ≠ some 45 := fun e => by
  have hm : (45 : UInt8) ∈ Lib.decDigits u := List.mem_of_head? e
  have := dec_digit u _ hm
  revert this; decide
theorem atoi_itoa (n : Int) : Lib.atoi (Lib.itoa n) = some n := by
  rcases Int.lt_or_le n 0 with h | h
  · obtain ⟨u, rfl⟩ : ∃ u : Nat, n = -(u : Int) := ⟨n.natAbs, by omega⟩
    rw [Lib.itoa_neg u (by omega)]
    simp [Lib.atoi, decNat_dec]
  · obtain ⟨u, rfl⟩ : ∃ u : Nat, n = u := ⟨n.toNat, by omega⟩
    rw [Lib.itoa_nonneg, atoi_dec]
theorem numOf_iff (s : Str) (n : Int) : numOf s = some n ↔ s.length ≤ 11 ∧ Lib.itoa n = s := by
  constructor
  · intro h
    unfold numOf at h
    split at h
    · split at h
      · rename_i hc; cases h; exact hc
      · cases h
    · cases h
  · rintro ⟨hl, rfl⟩
    unfold numOf
    rw [Lib.atoiAll_short _ (by omega), atoi_itoa]
    simp only [Lib.NumEnd.ofOption]
    rw [if_pos ⟨hl, trivial⟩]
theorem numRef_iff (s : Str) (n : Int) : numRef s = some n ↔ s.length ≤ 11 ∧ Lib.itoa n = s := by
  constructor
  · intro h
    unfold numRef at h
    split at h
    · cases h
    · rename_i h1
      split at h
      · cases h
      · rename_i h2
        cases hd : Lib.decFrom 0 (digOf s) with
        | none => rw [hd] at h; cases h
        | some u =>
          rw [hd] at h
          have h : (if (digOf s).length < s.length then -(u : Int) else u) = n := Option.some.inj h
          refine ⟨by omega, ?_⟩
          have hne : digOf s ≠ [] := fun e => h1 (.inl (by rw [e]; decide))
          by_cases h45 : s.head? = some 45
          · have hdo : digOf s = s.tail := if_pos h45
            have hs : s = 45 :: s.tail := by
              cases s with
              | nil => cases h45
              | cons c r => obtain rfl : c = 45 := by simpa using h45
                            rfl
            have hlen : s.length = s.tail.length + 1 := by rw [congrArg List.length hs]; simp
            rw [hdo] at h h1 h2 hd hne
            rw [if_pos (by omega)] at h
            have hdd := decFrom_dig0 hne (.inl fun e => h2 ⟨e, by omega⟩) hd
            have hu : 1 ≤ u := by
              rcases Nat.eq_zero_or_pos u with rfl | h'
              · rw [Lib.decDigits_one (by omega)] at hdd
                exact absurd ⟨by rw [← hdd]; rfl, by omega⟩ h2
              · exact h'
            rw [← h, Lib.itoa_neg u hu, hdd]; exact hs.symm
          · have hdo : digOf s = s := if_neg h45
            rw [hdo] at h h1 h2 hd hne
            rw [if_neg (by omega)] at h
            have hp : 0 < s.length := List.length_pos_iff.2 hne
            rw [← h, Lib.itoa_nonneg]
            refine decFrom_dig0 hne ?_ hd
            by_cases e : s.head? = some 48
            · exact .inr (by
                rcases Nat.lt_or_ge 1 s.length with h' | h'
                · exact absurd ⟨e, h'⟩ h2
                · omega)
            · exact .inl e
  · rintro ⟨hl, rfl⟩
    unfold numRef
    rcases Int.lt_or_le n 0 with h | h
    · obtain ⟨u, rfl⟩ : ∃ u : Nat, n = -(u : Int) := ⟨n.natAbs, by omega⟩
      have hu : 1 ≤ u := by omega
      rw [Lib.itoa_neg u hu] at hl ⊢
      have hdo : digOf (45 :: Lib.decDigits u) = Lib.decDigits u := if_pos rfl
      have hp : 0 < (Lib.decDigits u).length := List.length_pos_iff.2 (dec_ne u)
      have hl' : (Lib.decDigits u).length + 1 ≤ 11 := hl
      rw [hdo, if_neg (by rw [List.length_cons]; omega), if_neg (fun e => dec_head hu e.1), decFrom_dec]
      simp
    · obtain ⟨u, rfl⟩ : ∃ u : Nat, n = u := ⟨n.toNat, by omega⟩
      rw [Lib.itoa_nonneg] at hl ⊢
      have hdo : digOf (Lib.decDigits u) = Lib.decDigits u := if_neg (dec_head45 u)
      have hp : 0 < (Lib.decDigits u).length := List.length_pos_iff.2 (dec_ne u)
      rw [hdo, if_neg (by omega), if_neg ?_, decFrom_dec]
      · simp
      · rintro ⟨e, e2⟩
        rcases Nat.eq_zero_or_pos u with rfl | h'
        · rw [Lib.decDigits_one (by omega)] at e2; simp at e2
        · exact dec_head h' e
theorem numRef_eq (s : Str) : numRef s = numOf s := by
  cases h : numOf s with
  | none =>
    cases h2 : numRef s with
    | none => rfl
    | some n => rw [(numOf_iff s n).2 ((numRef_iff s n).1 h2)] at h; cases h
  | some n => exact (numRef_iff s n).2 ((numOf_iff s n).1 h)

/-- Digits so far: the bound. -/
theorem decFrom_lt : ∀ (l : Str) (acc u : Nat), Lib.decFrom acc l = some u → u < (acc + 1) * 10 ^ l.length
  | [], acc, u, h => by obtain rfl := Option.some.inj h; simp
  | c :: r, acc, u, h => by
    unfold Lib.decFrom at h
    split at h
    · rename_i v hv
      obtain ⟨h10, _⟩ := digitVal_inv hv
      have h1 := decFrom_lt r _ u h
      have h2 : (acc * 10 + v + 1) * 10 ^ r.length ≤ ((acc + 1) * 10) * 10 ^ r.length := Nat.mul_le_mul_right _ (by omega)
      rw [List.length_cons, Nat.pow_succ, Nat.mul_comm (10 ^ r.length) 10, ← Nat.mul_assoc]
      omega
    · cases h
end Go.Proofs.YtpiflhhppigdfaaGreatDoor
namespace Go.Proofs.YtpiflhhppigdfaaGreatDoor
open Go.RowKit

/-- The parts of a text that was cut, joined again. -/
def joinC (c : UInt8) : List Str → Str
  | [] => []
  | [x] => x
  | x :: y :: r => x ++ c :: joinC c (y :: r)
theorem joinC_head (c y : UInt8) (a : Str) : ∀ t : List Str, joinC c ((y :: a) :: t) = y :: joinC c (a :: t)
  | [] => rfl
  | _ :: _ => rfl
theorem join_cut (c : UInt8) : ∀ s : Str, joinC c (cutAt c s) = s
  | [] => rfl
  | x :: r => by
    have ih := join_cut c r
    have hne := cutAt_ne c r
    unfold cutAt
    cases hc : cutAt c r with
    | nil => exact absurd hc hne
    | cons a t =>
      rw [hc] at ih
      by_cases h : x = c
      · rw [if_pos h, h]
        show [] ++ c :: joinC c (a :: t) = c :: r
        rw [ih]; rfl
      · rw [if_neg h]
        show joinC c ((x :: a) :: t) = x :: r
        rw [joinC_head, ih]
theorem cutAt_inj {c : UInt8} {s t : Str} (h : cutAt c s = cutAt c t) : s = t := by rw [← join_cut c s, h, join_cut]
/-- A part ahead of the last one is there whatever follows. -/
theorem cutAt_pre {c : UInt8} : ∀ (p q : Str) (j : Nat), j + 1 < (cutAt c p).length → (cutAt c (p ++ q))[j]? = (cutAt c p)[j]?
  | [], q, j, h => by simp [cutAt] at h
  | x :: r, q, j, h => by
    have ih := cutAt_pre (c := c) r q
    have hne := cutAt_ne c r
    have hne2 := cutAt_ne c (r ++ q)
    rw [List.cons_append]
    unfold cutAt at h ⊢
    by_cases hx : x = c
    · rw [if_pos hx] at h ⊢
      rw [if_pos hx]
      cases j with
      | zero => rfl
      | succ j => simpa using ih j (by simpa using h)
    · rw [if_neg hx] at h ⊢
      rw [if_neg hx]
      cases hc : cutAt c r with
      | nil => exact absurd hc hne
      | cons a t =>
        cases hc2 : cutAt c (r ++ q) with
        | nil => exact absurd hc2 hne2
        | cons a2 t2 =>
          rw [hc] at h
          simp only [hc, hc2] at ih
          simp only [List.length_cons] at h ih
          cases j with
          | zero =>
            have := ih 0 (by omega)
            simp only [List.getElem?_cons_zero, Option.some.injEq] at this
            simp [this]
          | succ j =>
            have := ih (j + 1) (by omega)
            simpa using this
theorem joinC_two (c : UInt8) (x y : Str) (r : List Str) : joinC c (x :: y :: r) = x ++ c :: joinC c (y :: r) := rfl
theorem joinC_itoa (p : Str) : ∀ l : List Int, joinC 32 (p :: l.map Lib.itoa) = p ++ numsTail l
  | [] => by simp [joinC, numsTail]
  | n :: r => by
    rw [List.map_cons, joinC_two, joinC_itoa (Lib.itoa n) r]
    simp [numsTail]

/-- The least and the greatest of numbers (none: 0, 0). -/
def endsI (l : List Int) : Int × Int := if l = [] then (0, 0) else (Lib.minOf l, Lib.maxOf l)
def bodyT (ls : List Str) : Str := ls.flatMap fun s => s ++ [10]
def headT (word : Str) (n lo hi sum : Int) : Str := word ++ numsTail [n, lo, hi, sum]
def wholeT (word : Str) (keys : List Int) (body : Str) : Str := headT word keys.length (endsI keys).1 (endsI keys).2 (sumOf body) ++ 10 :: body
theorem bodyT_snoc (ls : List Str) (s : Str) : bodyT (ls ++ [s]) = bodyT ls ++ (s ++ [10]) := by simp [bodyT]
theorem cut_body : ∀ {ls : List Str}, (∀ s ∈ ls, (10 : UInt8) ∉ s) → cutAt 10 (bodyT ls) = ls ++ [[]]
  | [], _ => rfl
  | s :: r, h => by
    have ih := cut_body (ls := r) fun x hx => h x (by simp [hx])
    have : bodyT (s :: r) = s ++ 10 :: bodyT r := by simp [bodyT]
    rw [this, cutAt_app (h s (by simp)), ih]; rfl
theorem body_inj {l m : List Str} (hl : ∀ s ∈ l, (10 : UInt8) ∉ s) (hm : ∀ s ∈ m, (10 : UInt8) ∉ s) (h : bodyT l = bodyT m) : l = m := by
  have h1 := cut_body hl
  rw [h, cut_body hm] at h1
  exact (List.append_cancel_right h1).symm
theorem body_count : ∀ {ls : List Str}, (∀ s ∈ ls, (10 : UInt8) ∉ s) → (bodyT ls).count 10 = ls.length
  | [], _ => rfl
  | s :: r, h => by
    have ih := body_count (ls := r) fun x hx => h x (by simp [hx])
    have : bodyT (s :: r) = s ++ 10 :: bodyT r := by simp [bodyT]
    rw [this, List.count_append, List.count_cons_self, ih, List.count_eq_zero.2 (h s (by simp))]
    simp
theorem head_clean {word : Str} (hw : (10 : UInt8) ∉ word) (n lo hi sum : Int) : (10 : UInt8) ∉ headT word n lo hi sum := by
  unfold headT
  intro h
  rcases List.mem_append.1 h with h | h
  · exact hw h
  · rcases nums_sign _ _ h with e | e | e
    · revert e; decide
    · revert e; decide
    · revert e; decide
theorem blk_cut_head {word : Str} (hw : (32 : UInt8) ∉ word) (n lo hi sum : Int) : cutAt 32 (headT word n lo hi sum) = [word, Lib.itoa n, Lib.itoa lo, Lib.itoa hi, Lib.itoa sum] := cut_nums _ _ hw
theorem itoa_inj' {n m : Int} (h : Lib.itoa n = Lib.itoa m) : n = m := by
  have h1 := atoi_itoa n
  rw [h, atoi_itoa] at h1
  exact (Option.some.inj h1).symm
/-- A text is cut once at its first newline. -/
theorem first_cut {p q p' q' : Str} (h : p ++ 10 :: q = p' ++ 10 :: q') (hp : (10 : UInt8) ∉ p) (hp' : (10 : UInt8) ∉ p') : p = p' ∧ q = q' := by
  have h1 := cut_app1 (c := 10) (q := q) hp
  rw [h, cut_app1 hp'] at h1
  simp only [Prod.mk.injEq, and_true] at h1
  exact ⟨h1.1.symm, h1.2.symm⟩
theorem set_take_drop {α : Type} : ∀ {s : List α} {i : Nat} (c : α), i < s.length → s.set i c = s.take i ++ c :: s.drop (i + 1)
  | [], _, _, h => by simp at h
  | x :: r, 0, c, _ => rfl
  | x :: r, i + 1, c, h => by simp [set_take_drop (s := r) (i := i) c (by simpa using h)]
theorem count_take_drop {s : Str} {i : Nat} {x c : UInt8} (hx : s[i]? = some x) : (s.set i c).count 10 + (if x = 10 then 1 else 0) = s.count 10 + (if c = 10 then 1 else 0) := by
  obtain ⟨hi, hg⟩ := List.getElem?_eq_some_iff.1 hx
  have h1 := set_take_drop (s := s) c hi
  have h2 : s = s.take i ++ x :: s.drop (i + 1) := by rw [← hg, List.getElem_cons_drop, List.take_append_drop]
  rw [h1]
  conv => rhs; rw [h2]
  simp only [List.count_append, List.count_cons, beq_iff_eq]
  omega
/-- ONE BYTE TURNED: what comes of it is no such text. -/
theorem block_one {word : Str} {k k' : List Int} {ls ls' : List Str} {i : Nat} {c x : UInt8} (hw : (32 : UInt8) ∉ word) (hw10 : (10 : UInt8) ∉ word) (hl : ls.length = k.length) (hl' : ls'.length = k'.length) (h10 : ∀ s ∈ ls, (10 : UInt8) ∉ s) (h10' : ∀ s ∈ ls', (10 : UInt8) ∉ s)
    (hk : ls = ls' → k = k') (hx : (wholeT word k (bodyT ls))[i]? = some x) (hne : x ≠ c) : (wholeT word k (bodyT ls)).set i c ≠ wholeT word k' (bodyT ls') := by
  intro he
  have hcnt := count_take_drop (c := c) hx
  rw [he] at hcnt
  unfold wholeT at he hx hcnt
  have hH := head_clean hw10 k.length (endsI k).1 (endsI k).2 (sumOf (bodyT ls))
  have hH' := head_clean hw10 k'.length (endsI k').1 (endsI k').2 (sumOf (bodyT ls'))
  have cH := blk_cut_head hw k.length (endsI k).1 (endsI k).2 (sumOf (bodyT ls))
  have cH' := blk_cut_head hw k'.length (endsI k').1 (endsI k').2 (sumOf (bodyT ls'))
  have hsame : ls = ls' → headT word k.length (endsI k).1 (endsI k).2 (sumOf (bodyT ls)) = headT word k'.length (endsI k').1 (endsI k').2 (sumOf (bodyT ls')) := fun e => by rw [hk e, e]
  generalize headT word k.length (endsI k).1 (endsI k).2 (sumOf (bodyT ls)) = H at *
  generalize headT word k'.length (endsI k').1 (endsI k').2 (sumOf (bodyT ls')) = H' at *
  have hcB := body_count h10
  have hcB' := body_count h10'
  have hn0 : H.count 10 = 0 := List.count_eq_zero.2 hH
  have hn0' : H'.count 10 = 0 := List.count_eq_zero.2 hH'
  simp only [List.count_append, List.count_cons_self, hn0, hn0', hcB, hcB'] at hcnt
  rcases Nat.lt_trichotomy i H.length with hi | hi | hi
  · -- in the head
    rw [List.set_append_left _ _ hi] at he
    rw [List.getElem?_append_left hi] at hx
    have hx10 : x ≠ 10 := fun e => hH (e ▸ List.mem_of_getElem? hx)
    rw [if_neg hx10] at hcnt
    by_cases hc : c = 10
    · rw [if_pos hc] at hcnt
      rw [set_take_drop c hi, hc, List.append_assoc, List.cons_append] at he
      obtain ⟨e1, -⟩ := first_cut he (fun h => hH (List.mem_of_mem_take h)) hH'
      have h2 := cutAt_pre (c := 32) H' (H.drop i) 1 (by rw [cH']; simp)
      rw [← e1, List.take_append_drop, cH, e1, cH'] at h2
      have := itoa_inj' (Option.some.inj h2)
      omega
    · have hcl : (10 : UInt8) ∉ H.set i c := fun h => by
        rcases List.mem_or_eq_of_mem_set h with h | h
        · exact hH h
        · exact hc h.symm
      obtain ⟨e1, e2⟩ := first_cut he hcl hH'
      have e3 := body_inj h10 h10' e2
      rw [← hsame e3] at e1
      have : (H.set i c)[i]? = some c := by simp [hi]
      rw [e1, hx] at this
      exact hne (Option.some.inj this)
  · -- the head's end
    subst hi
    have hx' : x = 10 := by simpa using hx.symm
    have hc : c ≠ 10 := fun e => hne (hx'.trans e.symm)
    rw [if_pos hx', if_neg hc] at hcnt
    have e0 : (H ++ 10 :: bodyT ls).set H.length c = H ++ c :: bodyT ls := by simp
    rw [e0] at he
    have h1 := cutAt_pre (c := 32) H (c :: bodyT ls) 1 (by rw [cH]; simp)
    have h2 := cutAt_pre (c := 32) H' (10 :: bodyT ls') 1 (by rw [cH']; simp)
    rw [he, h2, cH, cH'] at h1
    have := itoa_inj' (Option.some.inj h1)
    omega
  · -- in the body
    obtain ⟨j, rfl⟩ : ∃ j, i = H.length + (j + 1) := ⟨i - H.length - 1, by omega⟩
    have e0 : (H ++ 10 :: bodyT ls).set (H.length + (j + 1)) c = H ++ 10 :: (bodyT ls).set j c := by
      rw [List.set_append_right _ _ (by omega)]; simp
    have hxj : (bodyT ls)[j]? = some x := by
      rw [List.getElem?_append_right (by omega)] at hx
      simpa using hx
    rw [e0] at he
    obtain ⟨e1, e2⟩ := first_cut he hH hH'
    rw [e1, cH'] at cH
    simp only [List.cons.injEq, and_true, true_and] at cH
    have hs := itoa_inj' cH.2.2.2
    rw [← e2] at hs
    exact sumOf_set hxj hne (by omega)
end Go.Proofs.YtpiflhhppigdfaaGreatDoor
namespace Go.Proofs.YtpiflhhppigdfaaGreatDoor
open Go.RowKit

/-- A number more, in a rising list without doubles. -/
def withI : List Int → Int → List Int
  | [], n => [n]
  | x :: r, n => if x < n then x :: withI r n else if x = n then x :: r else n :: x :: r
theorem withI_at : ∀ {l : List Int} {s : Int} {k : Nat}, k ≤ l.length → (∀ j < k, ∀ x, l[j]? = some x → x < s) → (∀ x, l[k]? = some x → s ≤ x) → withI l s = if l[k]? = some s then l else l.take k ++ s :: l.drop k
  | [], s, 0, _, _, _ => by simp [withI]
  | [], _, _ + 1, h, _, _ => by simp at h
  | x :: r, s, 0, _, _, h2 => by
    have hx := h2 x rfl
    unfold withI
    rw [if_neg (by omega)]
    by_cases he : x = s
    · rw [if_pos he, if_pos (by simp [he])]
    · rw [if_neg he, if_neg (by simpa using he)]; rfl
  | x :: r, s, k + 1, h, h1, h2 => by
    have hx := h1 0 (by omega) x rfl
    unfold withI
    rw [if_pos hx, withI_at (k := k) (by simpa using h) (fun j hj y hy => h1 (j + 1) (by omega) y (by simpa using hy)) (fun y hy => h2 y (by simpa using hy))]
    rw [List.getElem?_cons_succ]
    split <;> rfl
theorem withI_len (l : List Int) (s : Int) : (withI l s).length ≤ l.length + 1 := by
  induction l with
  | nil => simp [withI]
  | cons x r ih =>
    unfold withI
    split
    · simpa using ih
    · split <;> simp
theorem mem_withI {x s : Int} {l : List Int} : x ∈ withI l s ↔ x = s ∨ x ∈ l := by
  induction l with
  | nil => simp [withI]
  | cons y r ih =>
    unfold withI
    split
    · rw [List.mem_cons, ih, List.mem_cons]
      exact ⟨fun h => by rcases h with h | h | h <;> simp [h], fun h => by rcases h with h | h | h <;> simp [h]⟩
    · split
      · rename_i h; subst h; simp
      · rw [List.mem_cons]
def upI (l : List Int) : Prop := l.Pairwise (fun a b => a < b)
theorem up_withI {s : Int} : ∀ {l : List Int}, upI l → upI (withI l s)
  | [], _ => by simp [withI, upI]
  | x :: r, h => by
    obtain ⟨h1, h2⟩ := List.pairwise_cons.1 h
    unfold withI
    split
    · rename_i hb
      refine List.pairwise_cons.2 ⟨fun y hy => ?_, up_withI h2⟩
      rcases mem_withI.1 hy with rfl | hy
      · exact hb
      · exact h1 y hy
    · rename_i hb
      split
      · exact h
      · rename_i hne
        refine List.pairwise_cons.2 ⟨fun y hy => ?_, h⟩
        rcases List.mem_cons.1 hy with rfl | hy
        · omega
        · have := h1 y hy; omega
theorem upI_ext : ∀ {a b : List Int}, upI a → upI b → (∀ x, x ∈ a ↔ x ∈ b) → a = b
  | [], [], _, _, _ => rfl
  | [], y :: t, _, _, h => absurd ((h y).2 (by simp)) (by simp)
  | x :: r, [], _, _, h => absurd ((h x).1 (by simp)) (by simp)
  | x :: r, y :: t, ha, hb, h => by
    obtain ⟨ha1, ha2⟩ := List.pairwise_cons.1 ha
    obtain ⟨hb1, hb2⟩ := List.pairwise_cons.1 hb
    have hxy : x = y := by
      rcases List.mem_cons.1 ((h x).1 (by simp)) with e | e
      · exact e
      · rcases List.mem_cons.1 ((h y).2 (by simp)) with e' | e'
        · exact e'.symm
        · have k1 := hb1 x e
          have k2 := ha1 y e'
          omega
    subst hxy
    congr 1
    refine upI_ext ha2 hb2 fun z => ?_
    have hz := h z
    simp only [List.mem_cons] at hz
    constructor
    · intro m
      rcases hz.1 (.inr m) with e | e
      · have := ha1 z m; omega
      · exact e
    · intro m
      rcases hz.2 (.inr m) with e | e
      · have := hb1 z m; omega
      · exact e
/-- Numbers rising, each once. -/
def risOf (l : List Int) : List Int := l.foldl withI []
theorem foldI_up : ∀ (xs l : List Int), upI l → upI (xs.foldl withI l)
  | [], _, h => h
  | _ :: xs, _, h => foldI_up xs _ (up_withI h)
theorem mem_foldI {x : Int} : ∀ (xs l : List Int), x ∈ xs.foldl withI l ↔ x ∈ l ∨ x ∈ xs
  | [], l => by simp
  | y :: xs, l => by
    rw [List.foldl_cons, mem_foldI xs, mem_withI, List.mem_cons]
    exact ⟨fun h => by rcases h with (h | h) | h <;> simp [h], fun h => by rcases h with h | h | h <;> simp [h]⟩
theorem foldI_len : ∀ (xs l : List Int), (xs.foldl withI l).length ≤ l.length + xs.length
  | [], _ => Nat.le_refl _
  | x :: xs, l => by
    have h1 := foldI_len xs (withI l x)
    have h2 := withI_len l x
    rw [List.foldl_cons, List.length_cons]; omega
theorem risOf_up (l : List Int) : upI (risOf l) := foldI_up l [] List.Pairwise.nil
theorem mem_risOf {x : Int} {l : List Int} : x ∈ risOf l ↔ x ∈ l := by unfold risOf; rw [mem_foldI]; simp
theorem risOf_len (l : List Int) : (risOf l).length ≤ l.length := by have := foldI_len l []; simpa [risOf] using this
theorem risOf_snoc (l : List Int) (x : Int) : risOf (l ++ [x]) = withI (risOf l) x := by unfold risOf; rw [List.foldl_append]; rfl
theorem mem_compactUpToI {d : Array Int} {x : Int} : ∀ {m : Nat}, x ∈ Lib.compactUpTo d m ↔ ∃ j < m, d[j]! = x
  | 0 => by simp [Lib.compactUpTo]
  | m + 1 => by
    rw [Lib.compactUpTo_succ, List.mem_append, mem_compactUpToI (m := m)]
    constructor
    · rintro (⟨j, h1, h2⟩ | h)
      · exact ⟨j, by omega, h2⟩
      · split at h
        · exact ⟨m, by omega, (List.mem_singleton.1 h).symm⟩
        · cases h
    · rintro ⟨j, h1, h2⟩
      rcases Nat.lt_or_ge j m with h | h
      · exact .inl ⟨j, h, h2⟩
      · obtain rfl : j = m := by omega
        cases hk : Lib.keeps d j with
        | true => exact .inr (by simp [h2])
        | false =>
          unfold Lib.keeps at hk
          have hk := of_decide_eq_false hk
          have h0 : j ≠ 0 := fun e => hk (.inl e)
          have h3 : d[j]! = d[j - 1]! := Decidable.byContradiction fun e => hk (.inr e)
          exact .inl ⟨j - 1, by omega, by rw [← h3, h2]⟩
theorem mem_compactI {l : List Int} {x : Int} : x ∈ Lib.compact l ↔ x ∈ l := by
  unfold Lib.compact
  rw [mem_compactUpToI]
  constructor
  · rintro ⟨j, h1, h2⟩
    rw [← h2]
    simp [h1]
  · intro h
    obtain ⟨j, h1, h2⟩ := List.getElem_of_mem h
    exact ⟨j, h1, by simp [h1, h2]⟩
theorem up_compactI {l : List Int} (h : l.Pairwise (fun a b => a ≤ b)) : upI (Lib.compact l) := by
  have hi := List.pairwise_iff_getElem.1 h
  unfold Lib.compact Lib.compactUpTo upI
  refine List.pairwise_map.2 (List.pairwise_filter.2 ?_)
  refine List.Pairwise.imp_of_mem (fun {a b} ha hb hab => ?_) List.pairwise_lt_range
  intro _ hkb
  have ha' : a < l.length := List.mem_range.1 ha
  have hb' : b < l.length := List.mem_range.1 hb
  unfold Lib.keeps at hkb
  have hk := (of_decide_eq_true hkb).resolve_left (by omega)
  have g : ∀ j (hj : j < l.length), l.toArray[j]! = l[j] := fun j hj => by simp [hj]
  rw [g b hb', g (b - 1) (by omega)] at hk
  rw [g a ha', g b hb']
  have k1 := hi (b - 1) b (by omega) hb' (by omega)
  rcases Nat.lt_or_ge a (b - 1) with hlt | hge
  · have k2 := hi a (b - 1) ha' (by omega) hlt
    omega
  · have : a = b - 1 := by omega
    subst this
    omega
abbrev sortI (l : List Int) : List Int := l.mergeSort fun x y => decide (x ≤ y)
theorem sortedI_le (l : List Int) : (sortI l).Pairwise (fun a b => a ≤ b) := by
  have := List.pairwise_mergeSort (le := fun (x y : Int) => decide (x ≤ y)) (fun a b c h1 h2 => by simp only [decide_eq_true_eq] at *; omega) (fun a b => by
    simp only [Bool.or_eq_true, decide_eq_true_eq]; omega) l
  exact this.imp fun {a b} h => of_decide_eq_true h
theorem compact_sort (l : List Int) : Lib.compact (sortI l) = risOf l :=
  upI_ext (up_compactI (sortedI_le l)) (risOf_up l) fun x => by rw [mem_compactI, (List.mergeSort_perm l _).mem_iff, mem_risOf]
end Go.Proofs.YtpiflhhppigdfaaGreatDoor
namespace Go.Proofs.YtpiflhhppigdfaaGreatDoor
open Go.RowKit

/-- A row. -/
structure Rw where
  part : Str
  key : Int
  val : Int
  deriving DecidableEq, Inhabited

/-- Is a text a name? -/
def nameOk (s : Str) : Bool := decide (s ≠ []) && (decide (s.length ≤ 8) && s.all (fun b => partSigns.contains b))
/-- A row's fault, by its number. -/
def rowCheck (r : Rw) : Nat := if nameOk r.part = false then 5 else if farN r.key ∨ farN r.val then 2 else 0
def rowLine (r : Rw) : Str := r.part ++ numsTail [r.key, r.val]
def rowText (r : Rw) : Str := if rowCheck r = 0 then rowLine r else []
def zeroR : Rw := ⟨[], 0, 0⟩
def rowOf : List Str → Option Rw
  | [p, a, b] =>
    match numsOf [a, b] with
    | some [k, v] => some ⟨p, k, v⟩
    | _ => none
  | _ => none
def rowRead (s : Str) : Rw × Nat :=
  match rowOf (cutAt 32 s) with
  | none => (zeroR, 1)
  | some r => if rowCheck r = 0 then (r, 0) else (zeroR, rowCheck r)

theorem rowCheck_zero {r : Rw} (h : rowCheck r = 0) : nameOk r.part = true ∧ ¬ farN r.key ∧ ¬ farN r.val := by
  unfold rowCheck at h
  split at h
  · cases h
  · rename_i h1
    split at h
    · cases h
    · rename_i h2
      exact ⟨by simpa using h1, fun h => h2 (.inl h), fun h => h2 (.inr h)⟩
theorem name_sign {s : Str} (h : nameOk s = true) : (∀ c ∈ s, c = 45 ∨ 47 ≤ c.toNat) ∧ 1 ≤ s.length ∧ s.length ≤ 8 := by
  simp only [nameOk, Bool.and_eq_true, decide_eq_true_eq, List.all_eq_true] at h
  obtain ⟨h1, h2, h3⟩ := h
  refine ⟨fun c hc => ?_, by cases s with | nil => exact absurd rfl h1 | cons _ _ => simp, h2⟩
  have h4 := h3 c hc
  have h5 : ∀ d ∈ partSigns, d = 45 ∨ 47 ≤ d.toNat := by decide
  exact h5 c (by simpa using h4)
theorem rowRead_line {r : Rw} (h : rowCheck r = 0) : rowRead (rowLine r) = (r, 0) := by
  obtain ⟨h1, h2, h3⟩ := rowCheck_zero h
  have hno : (32 : UInt8) ∉ r.part := not_mem_sign (name_sign h1).1 (by decide) (by decide)
  have hc : cutAt 32 (rowLine r) = r.part :: [r.key, r.val].map Lib.itoa := cut_nums _ _ hno
  have hb : ∀ x ∈ [r.key, r.val], -10000000000 < x ∧ x < 10000000000 := by
    unfold farN at h2 h3
    intro x hx
    simp only [List.mem_cons, List.not_mem_nil, or_false] at hx
    rcases hx with rfl | rfl <;> omega
  have hn : numsOf [Lib.itoa r.key, Lib.itoa r.val] = some [r.key, r.val] := numsOf_map [r.key, r.val] hb
  have hr : rowOf [r.part, Lib.itoa r.key, Lib.itoa r.val] = some r := by
    show (match numsOf [Lib.itoa r.key, Lib.itoa r.val] with | some [k, v] => some ⟨r.part, k, v⟩ | _ => none) = some r
    rw [hn]
  unfold rowRead
  rw [hc]
  show (match rowOf [r.part, Lib.itoa r.key, Lib.itoa r.val] with | none => (zeroR, 1) | some r => if rowCheck r = 0 then (r, 0) else (zeroR, rowCheck r)) = (r, 0)
  rw [hr]
  show (if rowCheck r = 0 then (r, 0) else (zeroR, rowCheck r)) = (r, 0)
  rw [if_pos h]
theorem rowRead_none {s : Str} (h : rowOf (cutAt 32 s) = none) : rowRead s = (zeroR, 1) := by unfold rowRead; rw [h]
theorem rowRead_some {s : Str} {r : Rw} (h : rowOf (cutAt 32 s) = some r) : rowRead s = if rowCheck r = 0 then (r, 0) else (zeroR, rowCheck r) := by unfold rowRead; rw [h]
theorem rowOf_len {l : List Str} (h : l.length ≠ 3) : rowOf l = none := by
  match l, h with
  | [], _ => rfl
  | [_], _ => rfl
  | [_, _], _ => rfl
  | [_, _, _], h => exact absurd rfl h
  | _ :: _ :: _ :: _ :: _, _ => rfl
theorem three_strs {l : List Str} (h : l.length = 3) : ∃ p a b, l = [p, a, b] := by
  match l, h with
  | [p, a, b], _ => exact ⟨p, a, b, rfl⟩
theorem two_ints {l : List Int} (h : l.length = 2) : ∃ a b, l = [a, b] := by
  match l, h with
  | [a, b], _ => exact ⟨a, b, rfl⟩
theorem rowOf_nums {p a b : Str} (h : numsOf [a, b] = none) : rowOf [p, a, b] = none := by
  show (match numsOf [a, b] with | some [k, v] => some (⟨p, k, v⟩ : Rw) | _ => none) = none
  rw [h]
theorem rowOf_two {p a b : Str} {k v : Int} (h : numsOf [a, b] = some [k, v]) : rowOf [p, a, b] = some ⟨p, k, v⟩ := by
  show (match numsOf [a, b] with | some [k, v] => some (⟨p, k, v⟩ : Rw) | _ => none) = some ⟨p, k, v⟩
  rw [h]
theorem rowRead_check {s : Str} (h : (rowRead s).2 = 0) : rowCheck (rowRead s).1 = 0 := by
  cases hr : rowOf (cutAt 32 s) with
  | none => rw [rowRead_none hr] at h; cases h
  | some r =>
    rw [rowRead_some hr] at h ⊢
    by_cases h0 : rowCheck r = 0
    · rw [if_pos h0]; exact h0
    · rw [if_neg h0] at h; exact absurd h h0

/-- The order of rows. -/
def lessR (a b : Rw) : Bool := if a.part ≠ b.part then bef a.part b.part else if a.key ≠ b.key then decide (a.key < b.key) else decide (a.val < b.val)
def cmpI (a b : Int) : Int := if a < b then -1 else if b < a then 1 else 0
def cmpS (a b : Str) : Int := if bef a b = true then -1 else if bef b a = true then 1 else 0
def cmpR (a b : Rw) : Int := if cmpS a.part b.part ≠ 0 then cmpS a.part b.part else if cmpI a.key b.key ≠ 0 then cmpI a.key b.key else cmpI a.val b.val
theorem bef_irrefl (a : Str) : bef a a = false := by
  cases h : bef a a with
  | false => rfl
  | true => have := up_asym h; rw [h] at this; exact this
theorem bef_or : ∀ {a b : Str}, a ≠ b → bef a b = true ∨ bef b a = true
  | [], [], h => absurd rfl h
  | [], _ :: _, _ => .inl rfl
  | _ :: _, [], _ => .inr rfl
  | a :: r, b :: s, h => by
    show (decide (a < b) || (a == b && bytesBefore r s)) = true ∨ (decide (b < a) || (b == a && bytesBefore s r)) = true
    by_cases hab : a = b
    · subst hab
      have hrs : r ≠ s := fun e => h (by rw [e])
      rcases bef_or hrs with h1 | h1
      · left; have h1 : bytesBefore r s = true := h1; simp [h1]
      · right; have h1 : bytesBefore s r = true := h1; simp [h1]
    · rcases Nat.lt_or_gt_of_ne (fun e => hab (UInt8.toNat_inj.1 e)) with h1 | h1
      · left; simp [UInt8.lt_iff_toNat_lt, h1]
      · right; simp [UInt8.lt_iff_toNat_lt, h1]
theorem cmpS_zero {a b : Str} : cmpS a b = 0 ↔ a = b := by
  unfold cmpS
  constructor
  · intro h
    by_cases hab : a = b
    · exact hab
    · rcases bef_or hab with h1 | h1
      · rw [if_pos h1] at h; cases h
      · rw [if_neg (by rw [up_asym h1]; decide), if_pos h1] at h; cases h
  · rintro rfl
    rw [if_neg (by rw [bef_irrefl]; decide), if_neg (by rw [bef_irrefl]; decide)]
theorem cmpI_zero {a b : Int} : cmpI a b = 0 ↔ a = b := by
  unfold cmpI
  split
  · omega
  · split <;> omega
theorem cmpR_less (a b : Rw) : decide (cmpR a b < 0) = lessR a b := by
  unfold cmpR lessR
  by_cases h1 : a.part = b.part
  · rw [if_neg (fun h : cmpS a.part b.part ≠ 0 => h (cmpS_zero.2 h1)), if_neg (fun h : a.part ≠ b.part => h h1)]
    by_cases h2 : a.key = b.key
    · rw [if_neg (fun h : cmpI a.key b.key ≠ 0 => h (cmpI_zero.2 h2)), if_neg (fun h : a.key ≠ b.key => h h2)]
      unfold cmpI
      by_cases h3 : a.val < b.val
      · simp [h3]
      · by_cases h4 : b.val < a.val <;> simp [h3, h4]
    · rw [if_pos (show cmpI a.key b.key ≠ 0 from fun e => h2 (cmpI_zero.1 e)), if_pos (show a.key ≠ b.key from h2)]
      unfold cmpI
      by_cases h3 : a.key < b.key
      · simp [h3]
      · by_cases h4 : b.key < a.key <;> simp [h3, h4]
  · rw [if_pos (show cmpS a.part b.part ≠ 0 from fun e => h1 (cmpS_zero.1 e)), if_pos (show a.part ≠ b.part from h1)]
    unfold cmpS
    cases h3 : bef a.part b.part with
    | true => simp
    | false =>
      rcases bef_or h1 with h4 | h4
      · rw [h3] at h4; cases h4
      · simp [h4]
theorem less_irrefl (a : Rw) : lessR a a = false := by simp [lessR]
theorem less_trans {a b c : Rw} (h1 : lessR a b = true) (h2 : lessR b c = true) : lessR a c = true := by
  unfold lessR at *
  by_cases e1 : a.part = b.part
  · by_cases e2 : b.part = c.part
    · rw [if_neg (fun h : a.part ≠ b.part => h e1)] at h1
      rw [if_neg (fun h : b.part ≠ c.part => h e2)] at h2
      rw [if_neg (fun h : a.part ≠ c.part => h (e1.trans e2))]
      by_cases k1 : a.key = b.key <;> by_cases k2 : b.key = c.key
      · rw [if_neg (fun h : a.key ≠ b.key => h k1)] at h1
        rw [if_neg (fun h : b.key ≠ c.key => h k2)] at h2
        rw [if_neg (fun h : a.key ≠ c.key => h (k1.trans k2))]
        simp only [decide_eq_true_eq] at *; omega
      · rw [if_pos k2] at h2
        rw [if_pos (by rw [k1]; exact k2)]
        simp only [decide_eq_true_eq] at *; omega
      · rw [if_pos k1] at h1
        rw [if_pos (by rw [← k2]; exact k1)]
        simp only [decide_eq_true_eq] at *; omega
      · rw [if_pos k1] at h1
        rw [if_pos k2] at h2
        simp only [decide_eq_true_eq] at h1 h2
        rw [if_pos (by omega)]
        simp only [decide_eq_true_eq]; omega
    · rw [if_pos e2] at h2
      rw [if_pos (by rw [e1]; exact e2), e1]; exact h2
  · rw [if_pos e1] at h1
    by_cases e2 : b.part = c.part
    · rw [if_pos (by rw [← e2]; exact e1), ← e2]; exact h1
    · rw [if_pos e2] at h2
      have h3 := bef_trans h1 h2
      rw [if_pos (by rintro e; rw [e, bef_irrefl] at h3; cases h3)]; exact h3
theorem less_or {a b : Rw} (h : a ≠ b) : lessR a b = true ∨ lessR b a = true := by
  unfold lessR
  by_cases e1 : a.part = b.part
  · rw [if_neg (fun h : a.part ≠ b.part => h e1), if_neg (fun h : b.part ≠ a.part => h e1.symm)]
    by_cases e2 : a.key = b.key
    · rw [if_neg (fun h : a.key ≠ b.key => h e2), if_neg (fun h : b.key ≠ a.key => h e2.symm)]
      have e3 : a.val ≠ b.val := fun e3 => h (by cases a; cases b; simp_all)
      simp only [decide_eq_true_eq]; omega
    · rw [if_pos (show a.key ≠ b.key from e2), if_pos (show b.key ≠ a.key from fun e => e2 e.symm)]
      simp only [decide_eq_true_eq]; omega
  · rw [if_pos (show a.part ≠ b.part from e1), if_pos (show b.part ≠ a.part from fun e => e1 e.symm)]
    exact bef_or e1
theorem less_asym {a b : Rw} (h : lessR a b = true) : lessR b a = false := by
  cases h2 : lessR b a with
  | false => rfl
  | true => have := less_trans h h2; rw [less_irrefl] at this; cases this
/-- No later one comes ahead of an earlier one. -/
def upR (l : List Rw) : Prop := l.Pairwise (fun a b => lessR b a = false)
theorem le_trans' {a b c : Rw} (h1 : lessR b a = false) (h2 : lessR c b = false) : lessR c a = false := by
  cases h : lessR c a with
  | false => rfl
  | true =>
    by_cases hab : a = b
    · subst hab; rw [h] at h2; exact h2
    · rcases less_or hab with h3 | h3
      · have := less_trans h h3; rw [h2] at this; cases this
      · rw [h1] at h3; cases h3
theorem up_unique {l m : List Rw} (hl : upR l) (hm : upR m) (hp : l.Perm m) : l = m :=
  List.Perm.eq_of_pairwise (le := fun a b => lessR b a = false) (fun a b _ _ h1 h2 => by
    by_cases hab : a = b
    · exact hab
    · rcases less_or hab with h3 | h3
      · rw [h3] at h2; cases h2
      · rw [h3] at h1; cases h1) hl hm hp
/-- One row more in a rising list. -/
def insR (x : Rw) : List Rw → List Rw
  | [] => [x]
  | y :: r => if lessR x y = true then x :: y :: r else y :: insR x r
theorem insR_perm (x : Rw) : ∀ l : List Rw, (insR x l).Perm (x :: l)
  | [] => .refl _
  | y :: r => by
    unfold insR
    split
    · exact .refl _
    · exact ((insR_perm x r).cons y).trans (.swap x y r)
theorem insR_up {x : Rw} : ∀ {l : List Rw}, upR l → upR (insR x l)
  | [], _ => by simp [insR, upR]
  | y :: r, h => by
    obtain ⟨h1, h2⟩ := List.pairwise_cons.1 h
    unfold insR
    split
    · rename_i hb
      refine List.pairwise_cons.2 ⟨fun z hz => ?_, h⟩
      rcases List.mem_cons.1 hz with rfl | hz
      · exact less_asym hb
      · exact le_trans' (less_asym hb) (h1 z hz)
    · rename_i hb
      refine List.pairwise_cons.2 ⟨fun z hz => ?_, insR_up h2⟩
      rcases List.mem_cons.1 ((insR_perm x r).mem_iff.1 hz) with rfl | hz
      · simpa using hb
      · exact h1 z hz
theorem insR_at {x : Rw} : ∀ {l : List Rw} {k : Nat}, k ≤ l.length → (∀ j < k, ∀ y, l[j]? = some y → lessR x y = false) → (∀ y, l[k]? = some y → lessR x y = true) → insR x l = l.take k ++ x :: l.drop k
  | [], 0, _, _, _ => rfl
  | [], _ + 1, h, _, _ => by simp at h
  | y :: r, 0, _, _, h2 => by
    unfold insR
    rw [if_pos (h2 y rfl)]; rfl
  | y :: r, k + 1, h, h1, h2 => by
    unfold insR
    rw [if_neg (by rw [h1 0 (by omega) y rfl]; decide), insR_at (k := k) (by simpa using h) (fun j hj z hz => h1 (j + 1) (by omega) z (by simpa using hz)) (fun z hz => h2 z (by simpa using hz))]
    rfl
def sortR (l : List Rw) : List Rw := l.foldl (fun a x => insR x a) []
theorem sort_fold : ∀ (l a : List Rw), upR a → upR (l.foldl (fun a x => insR x a) a) ∧ (l.foldl (fun a x => insR x a) a).Perm (a ++ l)
  | [], a, h => ⟨h, by simp⟩
  | x :: r, a, h => by
    obtain ⟨h1, h2⟩ := sort_fold r (insR x a) (insR_up h)
    refine ⟨h1, h2.trans ?_⟩
    refine ((insR_perm x a).append_right r).trans ?_
    exact (List.perm_middle).symm
theorem sort_up (l : List Rw) : upR (sortR l) := (sort_fold l [] .nil).1
theorem sort_perm (l : List Rw) : (sortR l).Perm l := by simpa [sortR] using (sort_fold l [] .nil).2
theorem sort_of {l m : List Rw} (h : upR m) (hp : m.Perm l) : m = sortR l := up_unique h (sort_up l) (hp.trans (sort_perm l).symm)
theorem sort_len (l : List Rw) : (sortR l).length = l.length := (sort_perm l).length_eq
theorem sort_eq {l m : List Rw} : sortR l = sortR m ↔ l.Perm m := by
  constructor
  · intro h
    have := sort_perm l
    rw [h] at this
    exact this.symm.trans (sort_perm m)
  · intro h
    exact sort_of (sort_up l) ((sort_perm l).trans h)
theorem sort_again (l : List Rw) : sortR (sortR l) = sortR l := (sort_of (sort_up l) (.refl _)).symm
theorem sort_snoc (l : List Rw) (x : Rw) : sortR (l ++ [x]) = insR x (sortR l) := by simp [sortR, List.foldl_append]
def dropR (l : List Rw) (keys : List Int) : List Rw := l.filter fun r => !decide (r.key ∈ keys)
def withinP (lo hi : Int) (r : Rw) : Bool := decide (r.key < lo) || decide (hi < r.key)
def withinR (l : List Rw) (lo hi : Int) : List Rw := l.filter fun r => !withinP lo hi r
theorem drop_again (l : List Rw) (keys : List Int) : dropR (dropR l keys) keys = dropR l keys := by
  unfold dropR
  rw [List.filter_filter]
  simp
theorem within_all {l : List Rw} {hi : Int} (h : ∀ r ∈ l, -9223372036854775808 ≤ r.key ∧ r.key ≤ hi) : withinR l (-9223372036854775808) hi = l := by
  unfold withinR
  refine List.filter_eq_self.2 fun r hr => ?_
  have := h r hr
  simp [withinP]; omega
theorem within_two {l : List Rw} {a : Int} (h : ∀ r ∈ l, -9223372036854775808 ≤ r.key ∧ r.key ≤ 9223372036854775807) : (withinR l (-9223372036854775808) a ++ withinR l (a + 1) 9223372036854775807).Perm l := by
  have e : withinR l (a + 1) 9223372036854775807 = l.filter (fun r => !(!withinP (-9223372036854775808) a r)) := by
    unfold withinR
    refine List.filter_congr fun r hr => ?_
    have := h r hr
    simp only [withinP, Bool.not_not]
    rw [Bool.eq_iff_iff]
    simp
    omega
  rw [e]
  exact List.filter_append_perm _ l
end Go.Proofs.YtpiflhhppigdfaaGreatDoor
namespace Go.Proofs.YtpiflhhppigdfaaGreatDoor
open Go.RowKit

abbrev kPart : Str := [112, 97, 114, 116]
abbrev kBucket : Str := [98, 117, 99, 107, 101, 116]
abbrev kTrunc : Str := [116, 114, 117, 110, 99]

/-- What a text cut in two tells: its word, its number; its error's number. -/
def specIn (word d : Str) (is : Bool) (o : Option Int) : Str × Int × Nat :=
  match o with
  | none => ([], 0, 1)
  | some n => if is = true ∧ (word = kBucket ∨ word = kTrunc) ∧ 0 ≤ n ∧ d.length ≤ 9 then if n < 1 ∨ 1000 < n then ([], 0, 2) else (word, n, 0) else ([], 0, 1)
/-- A spec: its word, its number; its error's number. -/
def specOf (s : Str) : Str × Int × Nat :=
  if s = kPart then (kPart, 0, 0) else specIn (Lib.cut s [32]).1 (Lib.cut s [32]).2.1 (Lib.cut s [32]).2.2 (numOf (Lib.cut s [32]).2.1)
/-- The name of a right row's group. -/
def groupIn (word : Str) (n : Int) (r : Rw) : Str :=
  if word = kPart then r.part else if word = kBucket then 98 :: Lib.itoa (r.key % n) else if r.key / n < 0 then 110 :: Lib.itoa (-(r.key / n)) else 116 :: Lib.itoa (r.key / n)
def groupOf (s : Str) (r : Rw) : Str := groupIn (specOf s).1 (specOf s).2.1 r

theorem specIn_right {word d : Str} {is : Bool} {o : Option Int} (h : (specIn word d is o).2.2 = 0) :
    ((specIn word d is o).1 = kBucket ∨ (specIn word d is o).1 = kTrunc) ∧ 1 ≤ (specIn word d is o).2.1 ∧ (specIn word d is o).2.1 ≤ 1000 := by
  unfold specIn at h ⊢
  cases o with
  | none => cases h
  | some n =>
    simp only at h ⊢
    split at h
    · rename_i h1
      rw [if_pos h1]
      split at h
      · cases h
      · rename_i h2
        rw [if_neg h2]
        exact ⟨h1.2.1, by show 1 ≤ n; omega, by show n ≤ 1000; omega⟩
    · cases h
/-- A right spec is 'part', or a word and a number from 1 to 1000. -/
theorem spec_right {s : Str} (h : (specOf s).2.2 = 0) : (specOf s).1 = kPart ∨ (((specOf s).1 = kBucket ∨ (specOf s).1 = kTrunc) ∧ 1 ≤ (specOf s).2.1 ∧ (specOf s).2.1 ≤ 1000) := by
  unfold specOf at h ⊢
  split at h
  · rename_i h1; rw [if_pos h1]; exact .inl rfl
  · rename_i h1; rw [if_neg h1]; exact .inr (specIn_right h)
theorem spec_code (s : Str) : (specOf s).2.2 = 0 ∨ (specOf s).2.2 = 1 ∨ (specOf s).2.2 = 2 := by
  unfold specOf specIn
  split
  · exact .inl rfl
  · split
    · exact .inr (.inl rfl)
    · split
      · split
        · exact .inr (.inr rfl)
        · exact .inl rfl
      · exact .inr (.inl rfl)
/-- A number's text holds no blank. -/
theorem num_blank {s : Str} {n : Int} (h : numOf s = some n) : (32 : UInt8) ∉ s := by
  rw [← numRef_eq] at h
  rw [← ((numRef_iff s n).1 h).2]
  exact not_mem_itoa' (by decide) (by decide)
theorem first_at {c : UInt8} : ∀ {s : Str}, c ∈ s → ∃ p q, s = p ++ c :: q ∧ c ∉ p
  | x :: r, h => by
    by_cases hx : x = c
    · exact ⟨[], r, by rw [hx]; rfl, by simp⟩
    · obtain ⟨p, q, e, hp⟩ := first_at (s := r) (by
        rcases List.mem_cons.1 h with h | h
        · exact absurd h.symm hx
        · exact h)
      exact ⟨x :: p, q, by rw [e]; rfl, by simp only [List.mem_cons, not_or]; exact ⟨fun h => hx h.symm, hp⟩⟩
/-- The document's answer cuts at each blank. -/
theorem spec_cut {s : Str} (h : s ≠ kPart) : specOf s = match cutAt 32 s with
    | [word, d] => specIn word d true (numOf d)
    | _ => ([], 0, 1) := by
  unfold specOf
  rw [if_neg h]
  by_cases hb : (32 : UInt8) ∈ s
  · obtain ⟨p, q, rfl, hp⟩ := first_at hb
    rw [cut_app1 hp, cutAt_app hp]
    by_cases hq : (32 : UInt8) ∈ q
    · obtain ⟨p2, q2, rfl, hp2⟩ := first_at hq
      rw [cutAt_app hp2]
      have hn : numOf (p2 ++ 32 :: q2) = none := by
        cases hh : numOf (p2 ++ 32 :: q2) with
        | none => rfl
        | some n => exact absurd hq (num_blank hh)
      show specIn p (p2 ++ 32 :: q2) true (numOf (p2 ++ 32 :: q2)) = _
      rw [hn]
      have hne := cutAt_ne 32 q2
      cases hc : cutAt 32 q2 with
      | nil => exact absurd hc hne
      | cons x r => rfl
    · rw [cutAt_none hq]
  · rw [cut_none1 hb, cutAt_none hb]
    show specIn s [] false (numOf []) = ([], 0, 1)
    unfold specIn
    split
    · rfl
    · rw [if_neg (by simp)]
end Go.Proofs.YtpiflhhppigdfaaGreatDoor
