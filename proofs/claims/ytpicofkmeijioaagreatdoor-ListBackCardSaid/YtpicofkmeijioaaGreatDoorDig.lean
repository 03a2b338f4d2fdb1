/- Numerals, in plain words: what strconv.Itoa writes, strconv.Atoi reads. Of no program. -/
import Derived.Test.YtpicofkmeijioaaGreatDoorNum
import Derived.Lib.AtoiTie
namespace Go.Proofs.YtpicofkmeijioaaGreatDoor

/-! ### Numerals -/
theorem nDigits_le : ∀ (k u : Nat), u < 10 ^ (k + 1) → Lib.nDigits u ≤ k + 1
  | 0, u, h => by rw [Lib.nDigits_small (by simpa using h)]; omega
  | k + 1, u, h => by
    by_cases h' : u < 10
    · rw [Lib.nDigits_small h']; omega
    · rw [Lib.nDigits_big h']
      rw [Nat.pow_succ] at h
      have := nDigits_le k (u / 10) (by omega)
      omega
theorem digit_val {d : Nat} (h : d < 10) : (UInt8.ofNat (48 + d)).toNat = 48 + d := by
  rw [UInt8.toNat_ofNat']; omega
theorem digitVal_of {d : Nat} (h : d < 10) : Lib.digitVal (UInt8.ofNat (48 + d)) = some d := by
  unfold Lib.digitVal
  rw [digit_val h, if_pos (by omega)]
  congr 1; omega
theorem decFrom_app : ∀ (a b : Str) (acc : Nat), Lib.decFrom acc (a ++ b) = (Lib.decFrom acc a).bind fun m => Lib.decFrom m b
  | [], b, acc => rfl
  | c :: r, b, acc => by
    simp only [List.cons_append, Lib.decFrom]
    cases Lib.digitVal c with
    | none => rfl
    | some d => exact decFrom_app r b _
theorem decFrom_dec (u : Nat) : Lib.decFrom 0 (Lib.decDigits u) = some u := by
  induction u using Nat.strongRecOn with
  | _ u ih =>
    by_cases h : u < 10
    · rw [Lib.decDigits, dif_pos h]
      simp only [Lib.decFrom, digitVal_of h]
      simp
    · rw [Lib.decDigits, dif_neg h, decFrom_app, ih (u / 10) (by omega)]
      simp only [Option.bind_some, Lib.decFrom, digitVal_of (Nat.mod_lt u (by decide : 0 < 10))]
      congr 1; omega
theorem dec_digit (u : Nat) : ∀ c ∈ Lib.decDigits u, 48 ≤ c.toNat ∧ c.toNat ≤ 57 := by
  induction u using Nat.strongRecOn with
  | _ u ih =>
    intro c hc
    by_cases h : u < 10
    · rw [Lib.decDigits, dif_pos h] at hc
      obtain rfl := List.mem_singleton.1 hc
      rw [digit_val h]; omega
    · rw [Lib.decDigits, dif_neg h] at hc
      rcases List.mem_append.1 hc with hc | hc
      · exact ih (u / 10) (by omega) c hc
      · obtain rfl := List.mem_singleton.1 hc
        rw [digit_val (Nat.mod_lt u (by decide : 0 < 10))]; omega
theorem dec_ne (u : Nat) : Lib.decDigits u ≠ [] := fun e => by
  have h1 := Lib.decDigits_length u
  have h2 := Lib.nDigits_pos u
  rw [e] at h1; simp at h1; omega
theorem decNat_dec (u : Nat) : Lib.decNat (Lib.decDigits u) = some u := by
  unfold Lib.decNat
  rw [if_neg (by simpa using dec_ne u)]; exact decFrom_dec u
theorem atoi_dec (u : Nat) : Lib.atoi (Lib.decDigits u) = some (u : Int) := by
  have h := decNat_dec u
  have hd := dec_digit u
  cases he : Lib.decDigits u with
  | nil => exact absurd he (dec_ne u)
  | cons b r =>
    rw [he] at h hd
    have hb := hd b (by simp)
    have h45 : b ≠ 45 := fun e => by rw [e] at hb; revert hb; decide
    have h43 : b ≠ 43 := fun e => by rw [e] at hb; revert hb; decide
    unfold Lib.atoi
    simp only [beq_iff_eq, h45, h43, if_false, h, Option.map_some]

theorem numOf_itoa {n : Int} (h0 : 0 ≤ n) (h1 : n < 10000000000) : numOf (Lib.itoa n) = some n := by
  obtain ⟨u, rfl⟩ : ∃ u : Nat, n = u := ⟨n.toNat, by omega⟩
  have hl : (Lib.itoa (u : Int)).length ≤ 10 := by
    rw [Lib.itoa_nonneg, Lib.decDigits_length]; exact nDigits_le 9 u (by omega)
  unfold numOf
  rw [Lib.atoiAll_short _ (by omega), Lib.itoa_nonneg, atoi_dec]
  simp only [Lib.NumEnd.ofOption]
  rw [if_pos ⟨by rw [← Lib.itoa_nonneg]; omega, Lib.itoa_nonneg u⟩]
theorem itoa_digit {n : Int} (h0 : 0 ≤ n) : ∀ c ∈ Lib.itoa n, 48 ≤ c.toNat ∧ c.toNat ≤ 57 := by
  obtain ⟨u, rfl⟩ : ∃ u : Nat, n = u := ⟨n.toNat, by omega⟩
  rw [Lib.itoa_nonneg]; exact dec_digit u
theorem not_mem_itoa {n : Int} (h0 : 0 ≤ n) {c : UInt8} (hc : ¬ (48 ≤ c.toNat ∧ c.toNat ≤ 57)) : c ∉ Lib.itoa n := fun h => hc (itoa_digit h0 c h)

/-! ### Below 0 -/
theorem atoi_neg {b : Str} {u : Nat} (h : Lib.decNat b = some u) : Lib.atoi (45 :: b) = some (-(u : Int)) := by
  unfold Lib.atoi
  simp [h]
theorem numOf_itoa' {n : Int} (h0 : -10000000000 < n) (h1 : n < 10000000000) : numOf (Lib.itoa n) = some n := by
  rcases Int.lt_or_le n 0 with hn | hn
  · obtain ⟨u, rfl⟩ : ∃ u : Nat, n = -(u : Int) := ⟨n.natAbs, by omega⟩
    have hu : 0 < u := by omega
    have he := Lib.itoa_neg u hu
    have hl : (Lib.itoa (-(u : Int))).length ≤ 11 := by
      rw [he, List.length_cons, Lib.decDigits_length]
      have := nDigits_le 9 u (by omega)
      omega
    unfold numOf
    rw [Lib.atoiAll_short _ (by omega)]
    have ha : Lib.atoi (Lib.itoa (-(u : Int))) = some (-(u : Int)) := by rw [he]; exact atoi_neg (decNat_dec u)
    rw [ha]
    simp only [Lib.NumEnd.ofOption]
    simp [hl]
  · exact numOf_itoa hn h1
theorem itoa_sign (n : Int) : ∀ c ∈ Lib.itoa n, c = 45 ∨ (48 ≤ c.toNat ∧ c.toNat ≤ 57) := by
  intro c hc
  rcases Int.lt_or_le n 0 with hn | hn
  · obtain ⟨u, rfl⟩ : ∃ u : Nat, n = -(u : Int) := ⟨n.natAbs, by omega⟩
    rw [Lib.itoa_neg u (by omega)] at hc
    rcases List.mem_cons.1 hc with h | h
    · exact .inl h
    · exact .inr (dec_digit u c h)
  · exact .inr (itoa_digit hn c hc)
theorem not_mem_itoa' {n : Int} {c : UInt8} (h1 : c ≠ 45) (hc : ¬ (48 ≤ c.toNat ∧ c.toNat ≤ 57)) : c ∉ Lib.itoa n := fun h => (itoa_sign n c h).elim h1 hc
/-- A text that is a number is that number's numeral. -/
theorem numOf_text {s : Str} {n : Int} (h : numOf s = some n) : Lib.itoa n = s := by
  unfold numOf at h
  split at h
  · split at h
    · rename_i hc
      rw [← Option.some.inj h]; exact hc.2
    · cases h
  · cases h
theorem numOf_len {s : Str} {n : Int} (h : numOf s = some n) : s.length ≤ 11 := by
  unfold numOf at h
  split at h
  · split at h
    · rename_i hc; exact hc.1
    · cases h
  · cases h
end Go.Proofs.YtpicofkmeijioaaGreatDoor
