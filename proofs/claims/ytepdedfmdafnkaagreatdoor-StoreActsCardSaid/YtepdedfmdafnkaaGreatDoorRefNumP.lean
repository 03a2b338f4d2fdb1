/- The reference's numbers in plain words: they are the program's. Of no program. -/
import Derived.Test.YtepdedfmdafnkaaGreatDoorMetaPlain
namespace Go.Proofs.YtepdedfmdafnkaaGreatDoor

/-- The digits of a text: behind a sign, if it has one. -/
def digOf (s : Str) : Str := if s.head? = some 45 then s.tail else s
def numRef (s : Str) : Option Int :=
  if (digOf s).length < 1 ∨ 11 < s.length then none
  else if (digOf s).head? = some 48 ∧ 1 < s.length then none
  else (Lib.decFrom 0 (digOf s)).map fun (u : Nat) => if (digOf s).length < s.length then -(u : Int) else (u : Int)

theorem digitVal_inv {c : UInt8} {v : Nat} (h : Lib.digitVal c = some v) : v < 10 ∧ c = UInt8.ofNat (48 + v) := by
  unfold Lib.digitVal at h
  split at h
  · rename_i hc
    obtain rfl := Option.some.inj h
    refine ⟨by omega, ?_⟩
    apply UInt8.toNat_inj.1
    rw [digit_val (by omega)]; omega
  · cases h
theorem dec_big {m v : Nat} (hm : 1 ≤ m) (hv : v < 10) : Lib.decDigits (m * 10 + v) = Lib.decDigits m ++ [UInt8.ofNat (48 + v)] := by
  rw [Lib.decDigits, dif_neg (by omega), show (m * 10 + v) / 10 = m by omega, show (m * 10 + v) % 10 = v by omega]
theorem decFrom_dig : ∀ (l : Str) (acc u : Nat), 1 ≤ acc → Lib.decFrom acc l = some u → Lib.decDigits u = Lib.decDigits acc ++ l
  | [], acc, u, _, h => by obtain rfl := Option.some.inj h; simp
  | c :: r, acc, u, ha, h => by
    unfold Lib.decFrom at h
    split at h
    · rename_i v hv
      obtain ⟨h10, hc⟩ := digitVal_inv hv
      rw [decFrom_dig r _ u (by omega) h, dec_big ha h10, hc]; simp
    · cases h
theorem decFrom_dig0 {d : Str} {u : Nat} (hne : d ≠ []) (h0 : d.head? ≠ some 48 ∨ d.length = 1) (h : Lib.decFrom 0 d = some u) : Lib.decDigits u = d := by
  cases d with
  | nil => exact absurd rfl hne
  | cons c r =>
    unfold Lib.decFrom at h
    split at h
    · rename_i v hv
      obtain ⟨h10, hc⟩ := digitVal_inv hv
      rw [Nat.zero_mul, Nat.zero_add] at h
      rcases Nat.eq_zero_or_pos v with rfl | hp
      · rcases h0 with h0 | h0
        · exact absurd (by rw [hc]; rfl) h0
        · have : r = [] := List.eq_nil_of_length_eq_zero (by simpa using h0)
          subst this
          obtain rfl := Option.some.inj h
          rw [Lib.decDigits_one (by omega), hc]
      · rw [decFrom_dig r v u hp h, Lib.decDigits_one h10, hc]; rfl
    · cases h
theorem dec_head {u : Nat} (hu : 1 ≤ u) : (Lib.decDigits u).head? ≠ some 48 := by
  induction u using Nat.strongRecOn with
  | _ u ih =>
    by_cases h : u < 10
    · rw [Lib.decDigits_one h]
      intro e
      have e1 : UInt8.ofNat (48 + u) = 48 := by simpa using e
      have := digit_val h
      rw [e1] at this
      have h2 : (48 : UInt8).toNat = 48 := rfl
      omega
    · have h1 := ih (u / 10) (by omega) (by omega)
      rw [Lib.decDigits, dif_neg h]
      cases hd : Lib.decDigits (u / 10) with
      | nil => exact absurd hd (dec_ne _)
      | cons c r => rw [hd] at h1; exact h1
theorem dec_head45 (u : Nat) : (Lib.decDigits u).head? ≠ some 45 := fun e => by
  have hm : (45 : UInt8) ∈ Lib.decDigits u := List.mem_of_head? e
  have := dec_digit u _ hm
  revert this; decide
theorem atoi_itoa (n : Int) : Lib.atoi (Lib.itoa n) = some n := by
  rcases Int.lt_or_le n 0 with h | h
  · obtain ⟨u, rfl⟩ : ∃ u : Nat, n = -(u : Int) := ⟨n.natAbs, by omega⟩
    rw [Lib.itoa_neg u (by omega)]
    simp [Lib.atoi, decNat_dec]
  · obtain ⟨u, rfl⟩ : ∃ u : Nat, n = u := ⟨n.toNat, by omega⟩
    rw [Lib.itoa_nonneg, atoi_dec]
theorem numOf_iff (s : Str) (n : Int) : numOf s = some n ↔ s.length ≤ 11 ∧ Lib.itoa n = s := by
  constructor
  · intro h
    unfold numOf at h
    split at h
    · split at h
      · rename_i hc; cases h; exact hc
      · cases h
    · cases h
  · rintro ⟨hl, rfl⟩
    unfold numOf
    rw [Lib.atoiAll_short _ (by omega), atoi_itoa]
    simp only [Lib.NumEnd.ofOption]
    rw [if_pos ⟨hl, trivial⟩]
theorem numRef_iff (s : Str) (n : Int) : numRef s = some n ↔ s.length ≤ 11 ∧ Lib.itoa n = s := by
  constructor
  · intro h
    unfold numRef at h
    split at h
    · cases h
    · rename_i h1
      split at h
      · cases h
      · rename_i h2
        cases hd : Lib.decFrom 0 (digOf s) with
        | none => rw [hd] at h; cases h
        | some u =>
          rw [hd] at h
          have h : (if (digOf s).length < s.length then -(u : Int) else u) = n := Option.some.inj h
          refine ⟨by omega, ?_⟩
          have hne : digOf s ≠ [] := fun e => h1 (.inl (by rw [e]; decide))
          by_cases h45 : s.head? = some 45
          · have hdo : digOf s = s.tail := if_pos h45
            have hs : s = 45 :: s.tail := by
              cases s with
              | nil => cases h45
              | cons c r => obtain rfl : c = 45 := by simpa using h45
                            rfl
            have hlen : s.length = s.tail.length + 1 := by rw [congrArg List.length hs]; simp
            rw [hdo] at h h1 h2 hd hne
            rw [if_pos (by omega)] at h
            have hdd := decFrom_dig0 hne (.inl fun e => h2 ⟨e, by omega⟩) hd
            have hu : 1 ≤ u := by
              rcases Nat.eq_zero_or_pos u with rfl | h'
              · rw [Lib.decDigits_one (by omega)] at hdd
                exact absurd ⟨by rw [← hdd]; rfl, by omega⟩ h2
              · exact h'
            rw [← h, Lib.itoa_neg u hu, hdd]; exact hs.symm
          · have hdo : digOf s = s := if_neg h45
            rw [hdo] at h h1 h2 hd hne
            rw [if_neg (by omega)] at h
            have hp : 0 < s.length := List.length_pos_iff.2 hne
            rw [← h, Lib.itoa_nonneg]
            refine decFrom_dig0 hne ?_ hd
            by_cases e : s.head? = some 48
            · exact .inr (by
                rcases Nat.lt_or_ge 1 s.length with h' | h'
                · exact absurd ⟨e, h'⟩ h2
                · omega)
            · exact .inl e
  · rintro ⟨hl, rfl⟩
    unfold numRef
    rcases Int.lt_or_le n 0 with h | h
    · obtain ⟨u, rfl⟩ : ∃ u : Nat, n = -(u : Int) := ⟨n.natAbs, by omega⟩
      have hu : 1 ≤ u := by omega
      rw [Lib.itoa_neg u hu] at hl ⊢
      have hdo : digOf (45 :: Lib.decDigits u) = Lib.decDigits u := if_pos rfl
      have hp : 0 < (Lib.decDigits u).length := List.length_pos_iff.2 (dec_ne u)
      have hl' : (Lib.decDigits u).length + 1 ≤ 11 := hl
      rw [hdo, if_neg (by rw [List.length_cons]; omega), if_neg (fun e => dec_head hu e.1), decFrom_dec]
      simp
    · obtain ⟨u, rfl⟩ : ∃ u : Nat, n = u := ⟨n.toNat, by omega⟩
      rw [Lib.itoa_nonneg] at hl ⊢
      have hdo : digOf (Lib.decDigits u) = Lib.decDigits u := if_neg (dec_head45 u)
      have hp : 0 < (Lib.decDigits u).length := List.length_pos_iff.2 (dec_ne u)
      rw [hdo, if_neg (by omega), if_neg ?_, decFrom_dec]
      · simp
      · rintro ⟨e, e2⟩
        rcases Nat.eq_zero_or_pos u with rfl | h'
        · rw [Lib.decDigits_one (by omega)] at e2; simp at e2
        · exact dec_head h' e
theorem numRef_eq (s : Str) : numRef s = numOf s := by
  cases h : numOf s with
  | none =>
    cases h2 : numRef s with
    | none => rfl
    | some n => rw [(numOf_iff s n).2 ((numRef_iff s n).1 h2)] at h; cases h
  | some n => exact (numRef_iff s n).2 ((numOf_iff s n).1 h)

/-- Digits so far: the bound. -/
theorem decFrom_lt : ∀ (l : Str) (acc u : Nat), Lib.decFrom acc l = some u → u < (acc + 1) * 10 ^ l.length
  | [], acc, u, h => by obtain rfl := Option.some.inj h; simp
  | c :: r, acc, u, h => by
    unfold Lib.decFrom at h
    split at h
    · rename_i v hv
      obtain ⟨h10, _⟩ := digitVal_inv hv
      have h1 := decFrom_lt r _ u h
      have h2 : (acc * 10 + v + 1) * 10 ^ r.length ≤ ((acc + 1) * 10) * 10 ^ r.length := Nat.mul_le_mul_right _ (by omega)
      rw [List.length_cons, Nat.pow_succ, Nat.mul_comm (10 ^ r.length) 10, ← Nat.mul_assoc]
      omega
    · cases h
end Go.Proofs.YtepdedfmdafnkaaGreatDoor
