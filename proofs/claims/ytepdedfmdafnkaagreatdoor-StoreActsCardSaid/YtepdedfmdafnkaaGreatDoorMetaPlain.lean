/- Package meta, the plain laws: what is written is read again; the one of now is kept; what was pushed is the one of now. Of no program. -/
import Derived.Test.YtepdedfmdafnkaaGreatDoorMetaRead
import Derived.Test.YtepdedfmdafnkaaGreatDoorMetaKeep
import Derived.Lib.AtoiTie
namespace Go.Proofs.YtepdedfmdafnkaaGreatDoor

/-! ### Numerals -/
theorem nDigits_le : ∀ (k u : Nat), u < 10 ^ (k + 1) → Lib.nDigits u ≤ k + 1
  | 0, u, h => by rw [Lib.nDigits_small (by simpa using h)]; omega
  | k + 1, u, h => by
    by_cases h' : u < 10
    · rw [Lib.nDigits_small h']; omega
    · rw [Lib.nDigits_big h']
      rw [Nat.pow_succ] at h
      have := nDigits_le k (u / 10) (by omega)
      omega
theorem digit_val {d : Nat} (h : d < 10) : (UInt8.ofNat (48 + d)).toNat = 48 + d := by
  rw [UInt8.toNat_ofNat']; omega
theorem digitVal_of {d : Nat} (h : d < 10) : Lib.digitVal (UInt8.ofNat (48 + d)) = some d := by
  unfold Lib.digitVal
  rw [digit_val h, if_pos (by omega)]
  congr 1; omega
theorem decFrom_app : ∀ (a b : Str) (acc : Nat), Lib.decFrom acc (a ++ b) = (Lib.decFrom acc a).bind fun m => Lib.decFrom m b
  | [], b, acc => rfl
  | c :: r, b, acc => by
    simp only [List.cons_append, Lib.decFrom]
    cases Lib.digitVal c with
    | none => rfl
    | some d => exact decFrom_app r b _
theorem decFrom_dec (u : Nat) : Lib.decFrom 0 (Lib.decDigits u) = some u := by
  induction u using Nat.strongRecOn with
  | _ u ih =>
    by_cases h : u < 10
    · rw [Lib.decDigits, dif_pos h]
      simp only [Lib.decFrom, digitVal_of h]
      simp
    · rw [Lib.decDigits, dif_neg h, decFrom_app, ih (u / 10) (by omega)]
      simp only [Option.bind_some, Lib.decFrom, digitVal_of (Nat.mod_lt u (by decide : 0 < 10))]
      congr 1; omega
theorem dec_digit (u : Nat) : ∀ c ∈ Lib.decDigits u, 48 ≤ c.toNat ∧ c.toNat ≤ 57 := by
  induction u using Nat.strongRecOn with
  | _ u ih =>
    intro c hc
    by_cases h : u < 10
    · rw [Lib.decDigits, dif_pos h] at hc
      obtain rfl := List.mem_singleton.1 hc
      rw [digit_val h]; omega
    · rw [Lib.decDigits, dif_neg h] at hc
      rcases List.mem_append.1 hc with hc | hc
      · exact ih (u / 10) (by omega) c hc
      · obtain rfl := List.mem_singleton.1 hc
        rw [digit_val (Nat.mod_lt u (by decide : 0 < 10))]; omega
theorem dec_ne (u : Nat) : Lib.decDigits u ≠ [] := fun e => by
  have h1 := Lib.decDigits_length u
  have h2 := Lib.nDigits_pos u
  rw [e] at h1; simp at h1; omega
theorem decNat_dec (u : Nat) : Lib.decNat (Lib.decDigits u) = some u := by
  unfold Lib.decNat
  rw [if_neg (by simpa using dec_ne u)]; exact decFrom_dec u
theorem atoi_dec (u : Nat) : Lib.atoi (Lib.decDigits u) = some (u : Int) := by
  have h := decNat_dec u
  have hd := dec_digit u
  cases he : Lib.decDigits u with
  | nil => exact absurd he (dec_ne u)
  | cons b r =>
    rw [he] at h hd
    have hb := hd b (by simp)
    have h45 : b ≠ 45 := fun e => by rw [e] at hb; revert hb; decide
    have h43 : b ≠ 43 := fun e => by rw [e] at hb; revert hb; decide
    unfold Lib.atoi
    simp only [beq_iff_eq, h45, h43, if_false, h, Option.map_some]

theorem numOf_itoa {n : Int} (h0 : 0 ≤ n) (h1 : n < 10000000000) : numOf (Lib.itoa n) = some n := by
  obtain ⟨u, rfl⟩ : ∃ u : Nat, n = u := ⟨n.toNat, by omega⟩
  have hl : (Lib.itoa (u : Int)).length ≤ 10 := by
    rw [Lib.itoa_nonneg, Lib.decDigits_length]; exact nDigits_le 9 u (by omega)
  unfold numOf
  rw [Lib.atoiAll_short _ (by omega), Lib.itoa_nonneg, atoi_dec]
  simp only [Lib.NumEnd.ofOption]
  rw [if_pos ⟨by rw [← Lib.itoa_nonneg]; omega, Lib.itoa_nonneg u⟩]
theorem itoa_digit {n : Int} (h0 : 0 ≤ n) : ∀ c ∈ Lib.itoa n, 48 ≤ c.toNat ∧ c.toNat ≤ 57 := by
  obtain ⟨u, rfl⟩ : ∃ u : Nat, n = u := ⟨n.toNat, by omega⟩
  rw [Lib.itoa_nonneg]; exact dec_digit u
theorem not_mem_itoa {n : Int} (h0 : 0 ≤ n) {c : UInt8} (hc : ¬ (48 ≤ c.toNat ∧ c.toNat ≤ 57)) : c ∉ Lib.itoa n := fun h => hc (itoa_digit h0 c h)

/-! ### Written and read again -/
theorem hasSuffix_app (s p : Str) : Lib.hasSuffix (s ++ p) p = true := by
  unfold Lib.hasSuffix
  exact List.isSuffixOf_iff_suffix.2 ⟨s, rfl⟩
theorem trimSuffix_app (s p : Str) : Lib.trimSuffix (s ++ p) p = s := by
  unfold Lib.trimSuffix
  rw [if_pos (hasSuffix_app s p)]; simp
theorem cut_ids : ∀ (l : List Int) (p : Str), (32 : UInt8) ∉ p → (∀ x ∈ l, 1 ≤ x ∧ x ≤ 1073741824) → cutAt 32 (p ++ idsTail l) = p :: l.map Lib.itoa
  | [], p, hp, _ => by simp [idsTail, cutAt_none hp]
  | n :: r, p, hp, hl => by
    have e : p ++ idsTail (n :: r) = p ++ 32 :: (Lib.itoa n ++ idsTail r) := by simp [idsTail]
    rw [e, cutAt_app hp, cut_ids r _ (not_mem_itoa (by have := hl n (by simp); omega) (by decide)) (fun x hx => hl x (by simp [hx]))]
    rfl
theorem numsOf_itoa : ∀ (l : List Int), (∀ x ∈ l, 1 ≤ x ∧ x ≤ 1073741824) → numsOf (l.map Lib.itoa) = some l
  | [], _ => rfl
  | n :: r, hl => by
    have h1 := hl n (by simp)
    have h2 := numsOf_itoa r (fun x hx => hl x (by simp [hx]))
    unfold numsOf at h2 ⊢
    simp [List.mapM_cons, numOf_itoa (n := n) (by omega) (by omega), h2]
theorem metaCheck_mem {l : List Int} (h : metaCheck l = .nil) : ∀ x ∈ l, 1 ≤ x ∧ x ≤ 1073741824 := fun x hx => by
  obtain ⟨j, hj, he⟩ := List.getElem_of_mem hx
  have := (metaCheck_nil h).2.2 j x (by simp [hj, he])
  exact ⟨this.1, this.2.1⟩
/-- What is written is read again. -/
theorem metaRead_text {l : List Int} (h : metaCheck l = .nil) : metaRead (metaText l) = (l, .nil) := by
  have hm := metaCheck_mem h
  have hw : metaWords (metaText l) = [109, 101, 116, 97] :: l.map Lib.itoa := by
    unfold metaWords metaText
    rw [trimSuffix_app]
    exact cut_ids l _ (by decide) hm
  unfold metaRead
  rw [hw, if_neg]
  · simp only [List.drop_succ_cons, List.drop_zero, numsOf_itoa l hm, h, if_true]
  · unfold metaText
    rw [hasSuffix_app]
    simp
theorem metaText_len {l : List Int} (h : metaCheck l = .nil) : (metaText l).length ≤ 1000 := by
  have h1 := idsTail_len l (metaCheck_mem h)
  have h2 := (metaCheck_nil h).2.1
  simp only [metaText, List.length_append, List.length_cons, List.length_nil]
  omega

/-! ### Kept and pushed -/
theorem up_of_next : ∀ {l : List Int}, (∀ (k : Nat) (x y : Int), l[k]? = some y → l[k + 1]? = some x → y < x) → l.Pairwise (· < ·)
  | [], _ => .nil
  | [a], _ => by simp
  | a :: b :: r, h => by
    have ih : (b :: r).Pairwise (· < ·) := up_of_next fun k x y h1 h2 => h (k + 1) x y (by simpa using h1) (by simpa using h2)
    have hab : a < b := h 0 b a rfl rfl
    refine List.pairwise_cons.2 ⟨fun x hx => ?_, ih⟩
    rcases List.mem_cons.1 hx with rfl | hx
    · exact hab
    · exact Int.lt_trans hab ((List.pairwise_cons.1 ih).1 x hx)
theorem metaCheck_up {l : List Int} (h : metaCheck l = .nil) : l.Pairwise (· < ·) :=
  up_of_next fun k x y h1 h2 => ((metaCheck_nil h).2.2 (k + 1) x h2).2.2 (by omega) y h1
theorem metaCheck_of {l : List Int} (h0 : l ≠ []) (h1 : l.length ≤ 40) (h2 : ∀ x ∈ l, 1 ≤ x ∧ x ≤ 1073741824) (h3 : l.Pairwise (· < ·)) : metaCheck l = .nil := by
  unfold metaCheck
  rw [if_neg (fun e => h0 (List.eq_nil_of_length_eq_zero e)), if_neg (by omega)]
  refine firstErr_all fun j hj => ?_
  unfold idFault
  have hx : l[j]? = some l[j] := by simp [hj]
  rw [hx]
  have hb := h2 l[j] (List.getElem_mem hj)
  simp only
  rw [if_neg (by omega), if_neg]
  rintro ⟨hp, m, hm, hle⟩
  have hj' : j - 1 < l.length := by omega
  have : l[j - 1]? = some l[j - 1] := by simp [hj']
  rw [this] at hm
  injection hm with hm
  have := List.pairwise_iff_getElem.1 h3 (j - 1) j hj' hj (by omega)
  omega
theorem metaNow_snoc (l : List Int) (x : Int) : metaNow (l ++ [x]) = x := by simp [metaNow]
theorem split_now {l : List Int} (h : l ≠ []) : ∃ i, l = i ++ [metaNow l] := by
  refine ⟨l.dropLast, ?_⟩
  unfold metaNow
  rw [List.getLast?_eq_some_getLast h]
  exact (List.dropLast_concat_getLast h).symm
theorem filter_last {l i : List Int} {x : Int} {p : Int → Bool} (h : l = i ++ [x]) (hp : p x = true) : l.filter p = i.filter p ++ [x] := by
  subst h
  rw [List.filter_append]; simp [hp]
/-- The one of now is kept, and what is kept is a list again. -/
theorem metaKept_ok {ids sm : List Int} (h : metaCheck ids = .nil) : metaCheck (metaKept ids sm) = .nil ∧ metaNow (metaKept ids sm) = metaNow ids := by
  have hne := (metaCheck_nil h).1
  obtain ⟨i, hi⟩ := split_now hne
  have hk : metaKept ids sm = ids.filter (fun n => !dropID ids sm n) := if_pos h
  have hk2 : metaKept ids sm = i.filter (fun n => !dropID ids sm n) ++ [metaNow ids] := by
    have hd : dropID ids sm (metaNow ids) = false := by simp [dropID]
    rw [hk]
    exact filter_last hi (by simp [hd])
  refine ⟨metaCheck_of ?_ ?_ ?_ ?_, ?_⟩
  · rw [hk2]; simp
  · rw [hk]; exact Nat.le_trans (List.length_filter_le _ _) (metaCheck_nil h).2.1
  · rw [hk]; intro x hx; exact metaCheck_mem h x (List.mem_filter.1 hx).1
  · rw [hk]; exact (metaCheck_up h).filter _
  · rw [hk2, metaNow_snoc]
theorem metaPush_ok {ids : List Int} {id : Int} (h : (metaPush ids id).2 = .nil) : (metaPush ids id).1 = ids ++ [id] ∧ metaCheck (ids ++ [id]) = .nil := by
  unfold metaPush at h ⊢
  split
  · rename_i h1
    rw [if_pos h1] at h; exact absurd h h1
  · rename_i h1
    rw [if_neg h1] at h
    split
    · rename_i h2
      rw [if_pos h2] at h
      cases he : metaCheck (ids ++ [id]) with
      | nil => exact absurd he h2
      | bare c => rw [he] at h; cases h
      | loc c i => rw [he] at h; cases h
    · rename_i h2
      exact ⟨rfl, Classical.byContradiction h2⟩
theorem metaPush_bad {ids : List Int} {id : Int} (h : (metaPush ids id).2 ≠ .nil) : (metaPush ids id).1 = [] := by
  unfold metaPush at h ⊢
  split
  · rfl
  · rename_i h1
    rw [if_neg h1] at h
    split
    · rfl
    · rename_i h2
      rw [if_neg h2] at h; exact absurd rfl h
end Go.Proofs.YtepdedfmdafnkaaGreatDoor
