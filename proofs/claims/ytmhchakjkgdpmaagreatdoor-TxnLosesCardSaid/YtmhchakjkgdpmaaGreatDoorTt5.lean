/- The reference's numbers in plain words: they are the program's. Of no program. deedboxref1: Byte, below, Decimal: the numeral. deedboxref1: NumberOf, NumbersOf: the walks. The document's answer on files: IsFar, IsName, PathOf, FileError, IsBehind: the walks. deedboxref1's faults: Bare, Fine; faulted; deedboxref2.IDsFault. deedboxref2.IDsFault: the walk. A function value that answers by a plain predicate. The library's generic functions at []api.File: IndexFunc, Clone, Delete, Insert, BinarySearchFunc. -/
import Derived.Test.YtmhchakjkgdpmaaGreatDoorTt3
import Derived.Test.YtmhchakjkgdpmaaGreatDoorTt2
import Derived.Laws.BytesArg
import Derived.Lib.ItoaLen
import Derived.Outline
import Derived.Deep.DeepCutAuto
import Derived.Test.YtmhchakjkgdpmaaGreatDoorTt4
import Derived.Test.YtmhchakjkgdpmaaGreatDoorTt1
import Derived.Laws.Rows
import Derived.Laws.NewBlocks
import Derived.Laws.Tables
namespace Go.Proofs.YtmhchakjkgdpmaaGreatDoor

/-- The digits of a text: behind a sign, if it has one. -/
def digOf (s : Str) : Str := if s.head? = some 45 then s.tail else s
def numRef (s : Str) : Option Int :=
  if (digOf s).length < 1 ∨ 11 < s.length then none
  else if (digOf s).head? = some 48 ∧ 1 < s.length then none
  else (Lib.decFrom 0 (digOf s)).map fun (u : Nat) => if (digOf s).length < s.length then -(u : Int) else (u : Int)

theorem digitVal_inv {c : UInt8} {v : Nat} (h : Lib.digitVal c = some v) : v < 10 ∧ c = UInt8.ofNat (48 + v) := by
  unfold Lib.digitVal at h
  split at h
  · rename_i hc
    obtain rfl := Option.some.inj h
    refine ⟨by omega, ?_⟩
    apply UInt8.toNat_inj.1
    rw [digit_val (by omega)]; omega
  · cases h
theorem dec_big {m v : Nat} (hm : 1 ≤ m) (hv : v < 10) : Lib.decDigits (m * 10 + v) = Lib.decDigits m ++ [UInt8.ofNat (48 + v)] := by
  rw [Lib.decDigits, dif_neg (by omega), show (m * 10 + v) / 10 = m by omega, show (m * 10 + v) % 10 = v by omega]
theorem decFrom_dig : ∀ (l : Str) (acc u : Nat), 1 ≤ acc → Lib.decFrom acc l = some u → Lib.decDigits u = Lib.decDigits acc ++ l
  | [], acc, u, _, h => by obtain rfl := Option.some.inj h; simp
  | c :: r, acc, u, ha, h => by
    unfold Lib.decFrom at h
    split at h
    · rename_i v hv
      obtain ⟨h10, hc⟩ := digitVal_inv hv
      rw [decFrom_dig r _ u (by omega) h, dec_big ha h10, hc]; simp
    · cases h
theorem decFrom_dig0 {d : Str} {u : Nat} (hne : d ≠ []) (h0 : d.head? ≠ some 48 ∨ d.length = 1) (h : Lib.decFrom 0 d = some u) : Lib.decDigits u = d := by
  cases d with
  | nil => exact absurd rfl hne
  | cons c r =>
    unfold Lib.decFrom at h
    split at h
    · rename_i v hv
      obtain ⟨h10, hc⟩ := digitVal_inv hv
      rw [Nat.zero_mul, Nat.zero_add] at h
      rcases Nat.eq_zero_or_pos v with rfl | hp
      · rcases h0 with h0 | h0
        · exact absurd (by rw [hc]; rfl) h0
        · have : r = [] := List.eq_nil_of_length_eq_zero (by simpa using h0)
          subst this
          obtain rfl := Option.some.inj h
          rw [Lib.decDigits_one (by omega), hc]
      · rw [decFrom_dig r v u hp h, Lib.decDigits_one h10, hc]; rfl
    · cases h
theorem dec_head {u : Nat} (hu : 1 ≤ u) : (Lib.decDigits u).head? ≠ some 48 := by
  induction u using Nat.strongRecOn with
  | _ u ih =>
    by_cases h : u < 10
    · rw [Lib.decDigits_one h]
      intro e
      have e1 : UInt8.ofNat (48 + u) = 48 := by simpa using e
      have := digit_val h
      rw [e1] at this
      have h2 : (48 : UInt8).toNat = 48 := rfl
      omega
    · have h1 := ih (u / 10) (by omega) (by omega)
      rw [Lib.decDigits, dif_neg h]
      cases hd : Lib.decDigits (u / 10) with
      | nil => exact absurd hd (dec_ne _)
      | cons c r => rw [hd] at h1; exact h1
theorem dec_head45 (u : Nat) : (Lib.decDigits u).head? ≠ some 45 := fun e => by
  have hm : (45 : UInt8) ∈ Lib.decDigits u := List.mem_of_head? e
  have := dec_digit u _ hm
  revert this; decide
theorem atoi_itoa (n : Int) : Lib.atoi (Lib.itoa n) = some n := by
  rcases Int.lt_or_le n 0 with h | h
  · obtain ⟨u, rfl⟩ : ∃ u : Nat, n = -(u : Int) := ⟨n.natAbs, by omega⟩
    rw [Lib.itoa_neg u (by omega)]
    simp [Lib.atoi, decNat_dec]
  · obtain ⟨u, rfl⟩ : ∃ u : Nat, n = u := ⟨n.toNat, by omega⟩
    rw [Lib.itoa_nonneg, atoi_dec]
theorem numOf_iff (s : Str) (n : Int) : numOf s = some n ↔ s.length ≤ 11 ∧ Lib.itoa n = s := by
  constructor
  · intro h
    unfold numOf at h
    split at h
    · split at h
      · rename_i hc; cases h; exact hc
      · cases h
    · cases h
  · rintro ⟨hl, rfl⟩
    unfold numOf
    rw [Lib.atoiAll_short _ (by omega), atoi_itoa]
    simp only [Lib.NumEnd.ofOption]
    rw [if_pos ⟨hl, trivial⟩]
theorem numRef_iff (s : Str) (n : Int) : numRef s = some n ↔ s.length ≤ 11 ∧ Lib.itoa n = s := by
  constructor
  · intro h
    unfold numRef at h
    split at h
    · cases h
    · rename_i h1
      split at h
      · cases h
      · rename_i h2
        cases hd : Lib.decFrom 0 (digOf s) with
        | none => rw [hd] at h; cases h
        | some u =>
          rw [hd] at h
          have h : (if (digOf s).length < s.length then -(u : Int) else u) = n := Option.some.inj h
          refine ⟨by omega, ?_⟩
          have hne : digOf s ≠ [] := fun e => h1 (.inl (by rw [e]; decide))
          by_cases h45 : s.head? = some 45
          · have hdo : digOf s = s.tail := if_pos h45
            have hs : s = 45 :: s.tail := by
              cases s with
              | nil => cases h45
              | cons c r => obtain rfl : c = 45 := by simpa using h45
                            rfl
            have hlen : s.length = s.tail.length + 1 := by rw [congrArg List.length hs]; simp
            rw [hdo] at h h1 h2 hd hne
            rw [if_pos (by omega)] at h
            have hdd := decFrom_dig0 hne (.inl fun e => h2 ⟨e, by omega⟩) hd
            have hu : 1 ≤ u := by
              rcases Nat.eq_zero_or_pos u with rfl | h'
              · rw [Lib.decDigits_one (by omega)] at hdd
                exact absurd ⟨by rw [← hdd]; rfl, by omega⟩ h2
              · exact h'
            rw [← h, Lib.itoa_neg u hu, hdd]; exact hs.symm
          · have hdo : digOf s = s := if_neg h45
            rw [hdo] at h h1 h2 hd hne
            rw [if_neg (by omega)] at h
            have hp : 0 < s.length := List.length_pos_iff.2 hne
            rw [← h, Lib.itoa_nonneg]
            refine decFrom_dig0 hne ?_ hd
            by_cases e : s.head? = some 48
            · exact .inr (by
                rcases Nat.lt_or_ge 1 s.length with h' | h'
                · exact absurd ⟨e, h'⟩ h2
                · omega)
            · exact .inl e
  · rintro ⟨hl, rfl⟩
    unfold numRef
    rcases Int.lt_or_le n 0 with h | h
    · obtain ⟨u, rfl⟩ : ∃ u : Nat, n = -(u : Int) := ⟨n.natAbs, by omega⟩
      have hu : 1 ≤ u := by omega
      rw [Lib.itoa_neg u hu] at hl ⊢
      have hdo : digOf (45 :: Lib.decDigits u) = Lib.decDigits u := if_pos rfl
      have hp : 0 < (Lib.decDigits u).length := List.length_pos_iff.2 (dec_ne u)
      have hl' : (Lib.decDigits u).length + 1 ≤ 11 := hl
      rw [hdo, if_neg (by rw [List.length_cons]; omega), if_neg (fun e => dec_head hu e.1), decFrom_dec]
      simp
    · obtain ⟨u, rfl⟩ : ∃ u : Nat, n = u := ⟨n.toNat, by omega⟩
      rw [Lib.itoa_nonneg] at hl ⊢
      have hdo : digOf (Lib.decDigits u) = Lib.decDigits u := if_neg (dec_head45 u)
      have hp : 0 < (Lib.decDigits u).length := List.length_pos_iff.2 (dec_ne u)
      rw [hdo, if_neg (by omega), if_neg ?_, decFrom_dec]
      · simp
      · rintro ⟨e, e2⟩
        rcases Nat.eq_zero_or_pos u with rfl | h'
        · rw [Lib.decDigits_one (by omega)] at e2; simp at e2
        · exact dec_head h' e
theorem numRef_eq (s : Str) : numRef s = numOf s := by
  cases h : numOf s with
  | none =>
    cases h2 : numRef s with
    | none => rfl
    | some n => rw [(numOf_iff s n).2 ((numRef_iff s n).1 h2)] at h; cases h
  | some n => exact (numRef_iff s n).2 ((numOf_iff s n).1 h)

/-- Digits so far: the bound. -/
theorem decFrom_lt : ∀ (l : Str) (acc u : Nat), Lib.decFrom acc l = some u → u < (acc + 1) * 10 ^ l.length
  | [], acc, u, h => by obtain rfl := Option.some.inj h; simp
  | c :: r, acc, u, h => by
    unfold Lib.decFrom at h
    split at h
    · rename_i v hv
      obtain ⟨h10, _⟩ := digitVal_inv hv
      have h1 := decFrom_lt r _ u h
      have h2 : (acc * 10 + v + 1) * 10 ^ r.length ≤ ((acc + 1) * 10) * 10 ^ r.length := Nat.mul_le_mul_right _ (by omega)
      rw [List.length_cons, Nat.pow_succ, Nat.mul_comm (10 ^ r.length) 10, ← Nat.mul_assoc]
      omega
    · cases h
end Go.Proofs.YtmhchakjkgdpmaaGreatDoor
namespace Go.Proofs.YtmhchakjkgdpmaaGreatDoor
open Go.RowKit
attribute [local go_sem] bapp

theorem bytes_conv (w : World) (t : TypeId) (n : Int) : (convert 287 9 (.slice (some ⟨w.heap.size, 0, none⟩) 1 1)).run Tryz.prog (w.alloc (.cells #[.int .u8 n] t)) = .ok (.string ⟨#[UInt8.ofNat n.toNat]⟩) (w.alloc (.cells #[.int .u8 n] t)) := by
  rw [run_convert_bytes_arg _ 287 5 Tryz.underlying287 Tryz.underlying5 w.heap.size 0 1 1 [n] rfl ?_ 9 Tryz.underlying9]
  · rfl
  · intro i hi
    obtain rfl : i = 0 := by omega
    simp

set_option maxRecDepth 100000 in
theorem byte_any (n : Int) (h0 : 0 ≤ n) (h1 : n ≤ 255) (w : World) :
    Calls Tryz.prog 255 #[.int .i64 n] w fun e w' => e = .returned (S [UInt8.ofNat n.toNat]) ∧ Below w.heap.size w w' := by
  have hcv := bytes_conv w 5 n
  have hw : IntKind.u8.wrap n = n := by
    show n % 256 = n
    omega
  go_enter Tryz.func255, Tryz.ntmps255
  go_wp2_with fail
  go_ret
  exact ⟨rfl, (Below.refl _ _).alloc (Nat.le_refl _) _⟩

theorem decDigits_big {u : Nat} (h : ¬ u < 10) : Lib.decDigits u = Lib.decDigits (u / 10) ++ [UInt8.ofNat (48 + u % 10)] := by
  rw [Lib.decDigits, dif_neg h]
theorem digits_len (u : Nat) (h : u ≤ 9223372036854775808) : (Lib.decDigits u).length ≤ 20 := by
  have := Lib.itoa_length_le (-(u : Int)) (by omega) (by omega)
  rcases Nat.eq_zero_or_pos u with rfl | hp
  · rw [Lib.decDigits_one (by omega)]; simp
  · rw [Lib.itoa_neg u hp] at this; simp at this; omega

theorem below_any (k : Nat) : ∀ (n : Int) (w : World), n.natAbs ≤ k → n ≤ 0 → -9223372036854775808 ≤ n →
    Calls Tryz.prog 194 #[.int .i64 n] w fun e w' => e = .returned (S (Lib.decDigits n.natAbs)) ∧ Below w.heap.size w w' := by
  induction k with
  | zero =>
    intro n w hk h0 hlo
    obtain rfl : n = 0 := by omega
    go_enter Tryz.func194, Tryz.ntmps194
    go_wp2_with fail
    refine (byte_any _ (by decide) (by decide) _).mono ?_
    rintro e w1 ⟨rfl, hb⟩
    go_wp2_with fail
    go_ret
    exact ⟨by simp [Lib.decDigits_one], hb⟩
  | succ k ih =>
    intro n w hk h0 hlo
    by_cases hn : -10 < n
    · have hd : Lib.decDigits n.natAbs = [UInt8.ofNat (48 - n).toNat] := by
        rw [Lib.decDigits_one (by omega)]
        congr 2; omega
      have Hd := Lib.hid hd; clear hd
      have Ih := Lib.hid ih; clear ih
      go_enter Tryz.func194, Tryz.ntmps194
      go_wp2_with fail
      refine (byte_any _ (by omega) (by omega) _).mono ?_
      rintro e w1 ⟨rfl, hb⟩
      go_wp2_with fail
      go_ret
      exact ⟨by rw [Hd.out]; rfl, hb⟩
    · have hq : (n.tdiv 10).natAbs = n.natAbs / 10 := by rw [Int.natAbs_tdiv]; rfl
      have hr : (n.tmod 10).natAbs = n.natAbs % 10 := by rw [Int.natAbs_tmod]; rfl
      have hq0 : n.tdiv 10 ≤ 0 := by
        have := Int.tdiv_nonneg (a := -n) (b := 10) (by omega) (by omega)
        rw [Int.neg_tdiv] at this; omega
      have hr0 : n.tmod 10 ≤ 0 := by
        have := Int.tmod_nonneg (a := -n) 10 (by omega)
        rw [Int.neg_tmod] at this; omega
      have hd : Lib.decDigits n.natAbs = Lib.decDigits (n.tdiv 10).natAbs ++ [UInt8.ofNat (48 - n.tmod 10).toNat] := by
        rw [decDigits_big (by omega), hq]
        congr 3; omega
      have hl := digits_len (n.tdiv 10).natAbs (by omega)
      have hrl : -9 ≤ n.tmod 10 := by omega
      have hql : -9223372036854775808 ≤ n.tdiv 10 := by omega
      have hqk : (n.tdiv 10).natAbs ≤ k := by omega
      have Hd := Lib.hid hd; clear hd hq hr
      have Ih := Lib.hid ih; clear ih
      go_enter Tryz.func194, Tryz.ntmps194
      go_wp2_with fail
      refine (Ih.out _ _ hqk hq0 hql).mono ?_
      rintro e w1 ⟨rfl, hb⟩
      generalize Lib.decDigits (n.tdiv 10).natAbs = q at hl Hd ⊢
      go_wp2_with fail
      refine (byte_any _ (by omega) (by omega) _).mono ?_
      rintro e w2 ⟨rfl, hb2⟩
      go_wp2_with fail
      go_ret
      exact ⟨by rw [Hd.out]; rfl, hb.trans (hb2.mono hb.size)⟩

theorem decimalE_any (n : Int) (w : World) (h0 : -9223372036854775808 ≤ n) (h1 : n ≤ 9223372036854775807) :
    Calls Tryz.prog 145 #[.int .i64 n] w fun e w' => e = .returned (S (Lib.itoa n)) ∧ Below w.heap.size w w' := by
  by_cases hn : n < 0
  · have hd : Lib.itoa n = 45 :: Lib.decDigits n.natAbs := if_pos hn
    have hl := digits_len n.natAbs (by omega)
    have Hd := Lib.hid hd; clear hd
    go_enter Tryz.func145, Tryz.ntmps145
    go_wp2_with fail
    refine (below_any _ n _ (Nat.le_refl _) (by omega) (by omega)).mono ?_
    rintro e w1 ⟨rfl, hb⟩
    go_wp2_with fail
    go_ret
    exact ⟨by rw [Hd.out]; rfl, hb⟩
  · have hd : Lib.itoa n = Lib.decDigits (-n).natAbs := by
      unfold Lib.itoa; rw [if_neg hn]; congr 1; omega
    have hn' : 0 ≤ n := by omega
    have Hd := Lib.hid hd; clear hd hn
    go_enter Tryz.func145, Tryz.ntmps145
    go_wp2_with fail
    refine (below_any _ (-n) _ (Nat.le_refl _) (by omega) (by omega)).mono ?_
    rintro e w1 ⟨rfl, hb⟩
    rw [← Hd.out]
    go_wp2_with fail
    go_ret
    exact ⟨rfl, hb⟩
theorem decimal_any (n : Int) (w : World) (h0 : -9223372036854775808 < n) (h1 : n ≤ 9223372036854775807) :
    Calls Tryz.prog 145 #[.int .i64 n] w fun e w' => e = .returned (S (Lib.itoa n)) ∧ Below w.heap.size w w' :=
  decimalE_any n w (Int.le_of_lt h0) h1
end Go.Proofs.YtmhchakjkgdpmaaGreatDoor
namespace Go.Proofs.YtmhchakjkgdpmaaGreatDoor
open Go.RowKit

theorem bget (l : List UInt8) (i : Nat) (h : i < (ByteArray.mk l.toArray).size) : (ByteArray.mk l.toArray)[i] = l[i]'(by simpa [ByteArray.size] using h) := rfl
attribute [local go_sem] bget

theorem num_none {s : Str} (h : numRef s = none) : Ending.returned (.tuple #[.int .i64 0, .bool false]) = Ending.returned (.tuple #[.int .i64 ((numRef s).getD 0), .bool (numRef s).isSome]) := by rw [h]; rfl
theorem num_some {s : Str} {n : Int} (h : numRef s = some n) : Ending.returned (.tuple #[.int .i64 n, .bool true]) = Ending.returned (.tuple #[.int .i64 ((numRef s).getD 0), .bool (numRef s).isSome]) := by rw [h]; rfl
theorem digOf_len (s : Str) : (digOf s).length ≤ s.length ∧ s.length ≤ (digOf s).length + 1 := by
  unfold digOf; split
  · simp; omega
  · omega
theorem digitVal_bad {x : UInt8} (h : (x.toNat : Int) < 48 ∨ 57 < (x.toNat : Int)) : Lib.digitVal x = none := by
  unfold Lib.digitVal; rw [if_neg (by omega)]
theorem digitVal_ok {x : UInt8} (h : 48 ≤ (x.toNat : Int)) (h2 : (x.toNat : Int) ≤ 57) : Lib.digitVal x = some (x.toNat - 48) := by
  unfold Lib.digitVal; rw [if_pos (by omega)]
theorem decFrom_bad {x : UInt8} : ∀ {l : Str} {k acc : Nat}, l[k]? = some x → Lib.digitVal x = none → Lib.decFrom acc l = none
  | [], k, acc, h, _ => by simp at h
  | c :: r, 0, acc, h, hd => by
    obtain rfl : c = x := by simpa using h
    simp [Lib.decFrom, hd]
  | c :: r, k + 1, acc, h, hd => by
    unfold Lib.decFrom
    split
    · exact decFrom_bad (k := k) (by simpa using h) hd
    · rfl
theorem decFrom_snoc {x : UInt8} {l : Str} {k u v : Nat} (h : l[k]? = some x) (hu : Lib.decFrom 0 (l.take k) = some u) (hv : Lib.digitVal x = some v) : Lib.decFrom 0 (l.take (k + 1)) = some (u * 10 + v) :=
  Lib.decFrom_take l k 0 u x v hu h hv
theorem head0 {s : Str} (h : 0 < s.length) : s.head? = some s[0] := by
  cases s with
  | nil => simp at h
  | cons c r => rfl

theorem extract_from (s : Str) (k : Nat) : (ByteArray.mk s.toArray).extract k s.length = ByteArray.mk (s.drop k).toArray := by
  rw [ByteArray.extract_mk, List.take_of_length_le (by simp)]

set_option maxRecDepth 20000 in
theorem numberOf_any (s : Str) (w : World) (hs : s.length ≤ 100000) :
    Calls Tryz.prog 179 #[S s] w fun e w' => e = .returned (.tuple #[.int .i64 ((numRef s).getD 0), .bool (numRef s).isSome]) ∧ w = w' := by
  have hdl := digOf_len s
  go_enter Tryz.func179, Tryz.ntmps179
  go_upto_if 10 with (fail)
  go_cut [4] (fun d wx => d = S (digOf s) ∧ w = wx)
  case first =>
    by_cases hn : s.length = 0
    · obtain rfl := List.eq_nil_of_length_eq_zero hn
      clear hdl
      go_wp2_with fail
      go_meet
      exact ⟨rfl, rfl⟩
    have hp : 1 ≤ (s.length : Int) := by omega
    have hp0 : 0 < s.length := by omega
    by_cases h45 : s[0] = 45
    · have g45 : ((s[0].toNat : Int) == 45) = true := by rw [h45]; rfl
      have hd : digOf s = s.drop 1 := by unfold digOf; rw [if_pos (by rw [head0 hp0, h45]), List.drop_one]
      have Hd := Lib.hid hd
      clear hn hd hdl h45
      go_wp2_with fail
      go_meet
      exact ⟨by rw [Hd.out, extract_from], rfl⟩
    · have g45 : ((s[0].toNat : Int) == 45) = false := by
        simp; intro h; apply h45; apply UInt8.toNat_inj.1; exact Int.ofNat.inj h
      have hd : digOf s = s := if_neg (by rw [head0 hp0]; simpa using h45)
      have Hd := Lib.hid hd
      clear hn hd hdl h45
      go_wp2_with fail
      go_meet
      exact ⟨by rw [Hd.out], rfl⟩
  case rest =>
    obtain ⟨rfl, rfl⟩ := hcut
    have hspec : numRef s = if (digOf s).length < 1 ∨ 11 < s.length then none
      else if (digOf s).head? = some 48 ∧ 1 < s.length then none
      else (Lib.decFrom 0 (digOf s)).map fun (u : Nat) => if (digOf s).length < s.length then -(u : Int) else (u : Int) := rfl
    generalize hdd : digOf s = d at hspec hdl ⊢
    clear hdd
    have Hs := Lib.hid hspec; clear hspec
    by_cases h1 : d.length < 1
    · have hr : numRef s = none := by rw [Hs.out, if_pos (.inl h1)]
      have g1 : (d.length : Int) < 1 := by omega
      have Hr := Lib.hid hr; clear hr
      go_wp2_with fail
      go_ret2
      exact ⟨num_none Hr.out, rfl⟩
    by_cases h2 : 11 < s.length
    · have hr : numRef s = none := by rw [Hs.out, if_pos (.inr h2)]
      have g1 : decide ((d.length : Int) < 1) = false := by simp; omega
      have g2 : (11 : Int) < s.length := by omega
      have Hr := Lib.hid hr; clear hr
      go_wp2_with fail
      go_ret2
      exact ⟨num_none Hr.out, rfl⟩
    have hp : 1 ≤ (d.length : Int) := by omega
    have hp0 : 0 < d.length := by omega
    have g1 : decide ((d.length : Int) < 1) = false := by simp; omega
    have g2 : decide ((11 : Int) < s.length) = false := by simp; omega
    by_cases h3 : d[0] = 48 ∧ 1 < s.length
    · have hr : numRef s = none := by rw [Hs.out, if_neg (by omega), if_pos ⟨by rw [head0 hp0, h3.1], h3.2⟩]
      have g3 : ((d[0].toNat : Int) == 48) = true := by rw [h3.1]; rfl
      have g4 : (1 : Int) < s.length := by omega
      have Hr := Lib.hid hr; clear hr h3
      go_wp2_with fail
      go_ret2
      exact ⟨num_none Hr.out, rfl⟩
    have hB : s.length ≤ 11 := by omega
    have hB2 : (d.length : Int) ≤ 11 := by omega
    have hr : numRef s = (Lib.decFrom 0 d).map fun (u : Nat) => if d.length < s.length then -(u : Int) else (u : Int) := by
      rw [Hs.out, if_neg (by omega), if_neg (by rw [head0 hp0]; simpa using h3)]
    have Hr := Lib.hid hr; clear hr Hs
    have g3 : ((d[0].toNat : Int) == 48) = false ∨ ((d[0].toNat : Int) == 48) = true ∧ decide ((1 : Int) < s.length) = false := by
      by_cases e : d[0] = 48
      · exact .inr ⟨by rw [e]; rfl, by simp; have : ¬ 1 < s.length := fun h => h3 ⟨e, h⟩
                                       omega⟩
      · refine .inl ?_
        simp; intro h; apply e; apply UInt8.toNat_inj.1; exact Int.ofNat.inj h
    clear h3 h1 h2
    rcases g3 with g3 | ⟨g3, g4⟩
    all_goals
      go_wp2_with fail
      go_loop [5, 6] (fun n i => ∃ k u : Nat, k ≤ d.length ∧ i = .int .i64 k ∧ n = .int .i64 u ∧ Hid (Lib.decFrom 0 (d.take k) = some u) ∧ (u : Int) ≤ 99999999999) (fun _ i => d.length - (intOf i).toNat)
      case atStart => exact ⟨0, 0, by omega, rfl, rfl, rfl, by omega⟩
      case round =>
        obtain ⟨k, u, hk, rfl, rfl, hu, hub⟩ := hrel
        by_cases hkd : k < d.length
        · have hx : d[k]? = some d[k] := by simp [hkd]
          have hk1 : (k : Int) < d.length := by omega
          have h255 : (d[k].toNat : Int) ≤ 255 := by have := d[k].toNat_lt; omega
          by_cases ha : (d[k].toNat : Int) < 48
          · have hn : numRef s = none := by rw [Hr.out, decFrom_bad hx (digitVal_bad (.inl ha))]; rfl
            have Hn := Lib.hid hn; clear hn hx
            go_wp2_with fail
            go_ret2
            exact ⟨num_none Hn.out, rfl⟩
          by_cases hb : 57 < (d[k].toNat : Int)
          · have hn : numRef s = none := by rw [Hr.out, decFrom_bad hx (digitVal_bad (.inr hb))]; rfl
            have ha' : decide ((d[k].toNat : Int) < 48) = false := by simpa using ha
            have Hn := Lib.hid hn; clear hn hx ha
            go_wp2_with fail
            go_ret2
            exact ⟨num_none Hn.out, rfl⟩
          have ha0 : 48 ≤ (d[k].toNat : Int) := by omega
          have hb0 : (d[k].toNat : Int) ≤ 57 := by omega
          have ha' : decide ((d[k].toNat : Int) < 48) = false := by simpa using ha
          have hb' : decide (57 < (d[k].toNat : Int)) = false := by simpa using hb
          have hsn := decFrom_snoc hx hu.out (digitVal_ok ha0 hb0)
          have hlt := decFrom_lt _ _ _ hsn
          have hlt2 : u * 10 + (d[k].toNat - 48) ≤ 99999999999 := by
            have h1 : (d.take (k + 1)).length ≤ 11 := by rw [List.length_take]; omega
            have h2 : 10 ^ (d.take (k + 1)).length ≤ 10 ^ 11 := Nat.pow_le_pow_right (by decide) h1
            have h3 : (10 : Nat) ^ 11 = 100000000000 := by decide
            omega
          have Hsn := Lib.hid hsn
          clear hlt hsn hx ha hb
          go_wp2_with fail
          go_round
          case rel => exact ⟨k + 1, u * 10 + (d[k].toNat - 48), by omega, by go_num, by go_num, Hsn.out, by omega⟩
          case measure => simp [intOf]; omega
        · obtain rfl : k = d.length := by omega
          have hu' : Lib.decFrom 0 d = some u := by have := hu.out; rwa [List.take_length] at this
          by_cases hlt' : d.length < s.length
          · have hn : numRef s = some (-(u : Int)) := by rw [Hr.out, hu', Option.map_some, if_pos hlt']
            have hl' : (d.length : Int) < s.length := by omega
            have Hn := Lib.hid hn; clear hn hu' hu
            go_wp2_with fail
            go_ret2
            exact ⟨num_some Hn.out, rfl⟩
          · have hn : numRef s = some (u : Int) := by rw [Hr.out, hu', Option.map_some, if_neg hlt']
            have hl' : (s.length : Int) ≤ d.length := by omega
            have Hn := Lib.hid hn; clear hn hu' hu
            go_wp2_with fail
            go_ret2
            exact ⟨num_some Hn.out, rfl⟩

theorem numbersOf_any (v : Value) (l : List Str) (w : World) (hl : StrsAt w v l) (hn : l.length ≤ 100000) (hs : ∀ s ∈ l, s.length ≤ 100000) :
    Calls Tryz.prog 225 #[v] w fun e w' => ∃ v', e = .returned (.tuple #[v', .bool (numsOf l).isSome]) ∧ (∀ ns, numsOf l = some ns → Own encI 3 1 w.heap.size w' v' ns) ∧ (numsOf l = none → v' = .slice none 0 0) ∧ Below w.heap.size w w' := by
  obtain ⟨a, c, b, o, rfl, ha, hc, hcm, hx⟩ := hl
  unfold maxLen at hcm
  go_enter Tryz.func225, Tryz.ntmps225
  go_wp2_with fail
  go_loopw [2, 3, 4, 5] (fun r1 r2 out i wr => r1 = .slice none 0 0 ∧ r2 = .bool false ∧ ∃ (k : Nat) (ns : List Int), k ≤ l.length ∧ i = .int .i64 k ∧ Hid ((l.take k).mapM numOf = some ns) ∧ Own encI 3 1 w.heap.size wr out ns ∧ Below w.heap.size w wr) (fun _ _ _ i _ => l.length - (intOf i).toNat)
  case atStart => exact ⟨rfl, rfl, 0, [], by omega, rfl, rfl, Own.nil _ _ _ _ _, Below.refl _ _⟩
  case round =>
    obtain ⟨rfl, rfl, k, ns, hk, rfl, hm, ho, hb⟩ := hrel
    by_cases hlt : k < l.length
    · obtain ⟨x, hxk⟩ := get_ex hlt
      have c1 := hx k x hxk 0 _ rfl
      have c1 := (hb.cell (World.block_lt_of_cell? w _ c1)).trans c1
      have i1 := idx_at (c := c) 1 Tryz.underlying35 szStr ha k hlt
      have hk1 : (k : Int) < (l.length : Int) := by omega
      simp only [Nat.mul_one, Nat.add_zero] at c1 i1
      have hxs : x.length ≤ 100000 := hs x (List.mem_of_getElem? hxk)
      have hsn := take_snoc' hxk
      have hlen : ns.length = k := by have := mapM_len _ hm.out; simp at this; omega
      have Hx := Lib.hid hsn; clear hsn hxk
      have Hlen := Lib.hid hlen; clear hlen
      cases hx0 : numOf x with
      | none =>
        have hN : numsOf l = none := by
          refine mapM_take_none _ _ (k + 1) ?_
          rw [Hx.out, mapM_snoc, hm.out]; simp [hx0]
        have h2 : (numRef x).isSome = false := by rw [numRef_eq, hx0]; rfl
        have HN := Lib.hid hN; clear hN
        have H0 := Lib.hid hx0; clear hx0
        go_wp2_with fail
        refine (numberOf_any x _ hxs).mono ?_
        rintro e w1 ⟨rfl, rfl⟩
        go_wp2_with fail
        go_ret2
        exact ⟨_, by rw [HN.out]; rfl, (fun ns h => by rw [HN.out] at h; cases h), (fun _ => rfl), hb⟩
      | some n =>
        have h2 : (numRef x).isSome = true := by rw [numRef_eq, hx0]; rfl
        have h3 : (numRef x).getD 0 = n := by rw [numRef_eq, hx0]; rfl
        have hm2 : (l.take (k + 1)).mapM numOf = some (ns ++ [n]) := by rw [Hx.out, mapM_snoc, hm.out]; simp [hx0]
        have HM := Lib.hid hm2; clear hm2
        have H0 := Lib.hid hx0; clear hx0
        have H3 := Lib.hid h3; clear h3
        go_wp2_with fail
        refine (numberOf_any x _ hxs).mono ?_
        rintro e w1 ⟨rfl, rfl⟩
        rw [H3.out]
        have ho1 := ho
        have hb2 := hb
        go_wp2_with (at_builtin; refine wpList_app rfl _ _ _ rfl w.heap.size elInt _ ns.length _ rfl (ho1.alloc _) (.slice (some ⟨wr.heap.size, 0, none⟩) 1 1) 1 (encI n) rfl (src_one rfl rfl (by simp [Value.oneCell'])) (by rw [Hlen.out]; unfold maxLen; omega) (by rw [Hlen.out]; omega) (by have := hb2.size; simp; omega) ?_; intro v' w2 hown hg _)
        go_roundw
        case rel => exact ⟨rfl, rfl, k + 1, ns ++ [n], by omega, by go_num, HM.out, Own.snoc hown, Bapp (hb2.alloc hb2.size _) (ho1.alloc _) hg (Nat.le_refl _) (by have := hb2.size; simp; omega)⟩
        case measure => simp [intOf]; omega
    · obtain rfl : k = l.length := by omega
      have hN : numsOf l = some ns := by have := hm.out; rwa [List.take_length] at this
      have HN := Lib.hid hN; clear hN
      go_wp2_with fail
      go_ret2
      exact ⟨_, by rw [HN.out]; rfl, (fun ms h => by rw [HN.out] at h; cases h; exact ho), (fun h => by rw [HN.out] at h; cases h), hb⟩
end Go.Proofs.YtmhchakjkgdpmaaGreatDoor
namespace Go.Proofs.YtmhchakjkgdpmaaGreatDoor
open Go.RowKit

/-- s[:k], s[k:], s[k] of a text. -/
theorem str_to {P : Program} {t : TypeId} (ht : P.underlying t = some .string) (p : Str) (k : Nat) (hk : k ≤ p.length) (_hp : p.length ≤ 100000) : ∀ W, (Instr.slice t (S p) none (some (.int .i64 (k : Int))) none).run P W = .ok (S (p.take k)) W := fun W => by
  have h1 : (k : Int) ≤ (p.length : Int) := by omega
  have h2 : (0 : Int) ≤ (k : Int) := by omega
  simp [Instr.slice, Instr.sliceBounds, run_underlying ht, go_sem, h1, h2, ByteArray.extract_mk]
theorem str_from {P : Program} {t : TypeId} (ht : P.underlying t = some .string) (p : Str) (k : Nat) (hk : k ≤ p.length) (_hp : p.length ≤ 100000) : ∀ W, (Instr.slice t (S p) (some (.int .i64 (k : Int))) none none).run P W = .ok (S (p.drop k)) W := fun W => by
  have h1 : (k : Int) ≤ (p.length : Int) := by omega
  have h2 : (0 : Int) ≤ (k : Int) := by omega
  simp [Instr.slice, Instr.sliceBounds, run_underlying ht, go_sem, h1, h2, extract_from]
theorem str_at {P : Program} {t : TypeId} (ht : P.underlying t = some .string) (p : Str) (k : Nat) (c : UInt8) (hk : p[k]? = some c) : ∀ W, (Instr.index t (S p) (.int .i64 (k : Int))).run P W = .ok (.int .u8 c.toNat) W := fun W => by
  obtain ⟨h1, h2⟩ := List.getElem?_eq_some_iff.1 hk
  have h4 : (ByteArray.mk p.toArray)[k]? = some c := by
    rw [getElem?_pos _ _ (by simpa [ByteArray.size] using h1)]; exact congrArg some h2
  simp [Instr.index, run_underlying ht, asIntOf, h4]

theorem isFar_any (n : Int) (w : World) :
    Calls Tryz.prog 139 #[.int .i64 n] w fun e w' => e = .returned (.bool (decide (farN n))) ∧ w = w' := by
  by_cases h1 : n < -1073741824
  · have g : decide (farN n) = true := decide_eq_true (.inl h1)
    rw [g]
    clear g
    go_enter Tryz.func139, Tryz.ntmps139
    go_wp2_with fail
    go_ret
    exact ⟨rfl, rfl⟩
  · have g1 : decide (n < -1073741824) = false := by simpa using h1
    by_cases h2 : 1073741824 < n
    · have g : decide (farN n) = true := decide_eq_true (.inr h2)
      rw [g]
      clear g h1
      go_enter Tryz.func139, Tryz.ntmps139
      go_wp2_with fail
      go_ret
      exact ⟨rfl, rfl⟩
    · have g : decide (farN n) = false := decide_eq_false (fun h => h.elim h1 h2)
      have g2 : decide (1073741824 < n) = false := by simpa using h2
      rw [g]
      clear g h1 h2
      go_enter Tryz.func139, Tryz.ntmps139
      go_wp2_with fail
      go_ret
      exact ⟨rfl, rfl⟩

def signB (b : UInt8) : Bool := (decide (97 ≤ b.toNat) && decide (b.toNat ≤ 122)) || (decide (48 ≤ b.toNat) && decide (b.toNat ≤ 57))
theorem signB_eq (b : UInt8) : partSigns.contains b = signB b := by
  have h : ∀ k : UInt8, (b == k) = (b.toNat == k.toNat) := fun k => by
    rw [Bool.eq_iff_iff]; simp [← UInt8.toNat_inj]
  rw [Bool.eq_iff_iff]
  simp only [partSigns, List.contains_cons, List.contains_nil, Bool.or_false, h, signB]
  simp
  omega
/-- Is a text a name, of so many signs at most? -/
def nameB (s : Str) (m : Int) : Bool := s.all signB && (decide (1 ≤ s.length) && decide ((s.length : Int) ≤ m))
theorem nameB_part {k s : Str} (hk : k ≠ kGone) : partOk k s = nameB s 12 := by
  unfold partOk nameB
  rw [if_neg hk]
  have e : (s.all fun b => partSigns.contains b) = s.all signB := by congr 1; funext b; exact signB_eq b
  rw [e, Bool.eq_iff_iff]
  have hn : s ≠ [] ↔ 1 ≤ s.length := by cases s <;> simp
  simp only [Bool.and_eq_true, decide_eq_true_eq, hn]
  exact ⟨fun ⟨h1, h2, h3⟩ => ⟨h3, h1, by omega⟩, fun ⟨h1, h2, h3⟩ => ⟨h2, by omega, h1⟩⟩
theorem all_take {s : Str} {k : Nat} {x : UInt8} (h : s[k]? = some x) : (s.take (k + 1)).all signB = ((s.take k).all signB && signB x) := by
  rw [List.take_add_one, h]; simp
theorem sign_ways (b : UInt8) : (signB b = true ∧ (((97 : Int) ≤ b.toNat ∧ (b.toNat : Int) ≤ 122) ∨ (decide ((97 : Int) ≤ b.toNat) = false ∧ (48 : Int) ≤ b.toNat ∧ (b.toNat : Int) ≤ 57))) ∨
    (signB b = false ∧ (((97 : Int) ≤ b.toNat ∧ decide ((b.toNat : Int) ≤ 122) = false ∧ (48 : Int) ≤ b.toNat ∧ decide ((b.toNat : Int) ≤ 57) = false) ∨ (decide ((97 : Int) ≤ b.toNat) = false ∧ (48 : Int) ≤ b.toNat ∧ decide ((b.toNat : Int) ≤ 57) = false) ∨ (decide ((97 : Int) ≤ b.toNat) = false ∧ decide ((48 : Int) ≤ b.toNat) = false))) := by
  unfold signB
  simp
  omega
set_option maxHeartbeats 1000000 in
set_option maxRecDepth 20000 in
theorem isName_any (s : Str) (m : Int) (w : World) (hs : s.length ≤ 100000) :
    Calls Tryz.prog 138 #[S s, .int .i64 m] w fun e w' => e = .returned (.bool (nameB s m)) ∧ w = w' := by
  go_enter Tryz.func138, Tryz.ntmps138
  go_wp2_with fail
  go_loop [5] (fun i => ∃ k : Nat, k ≤ s.length ∧ i = .int .i64 k ∧ Hid ((s.take k).all signB = true)) (fun i => s.length - (intOf i).toNat)
  case atStart => exact ⟨0, by omega, rfl, rfl⟩
  case round =>
    obtain ⟨k, hk, rfl, hj⟩ := hrel
    by_cases hlt : k < s.length
    case neg =>
      obtain rfl : k = s.length := by omega
      have hall := hj.out
      rw [List.take_length] at hall
      have HN : Hid (nameB s m = (decide (1 ≤ s.length) && decide ((s.length : Int) ≤ m))) := Lib.hid (by unfold nameB; rw [hall, Bool.true_and])
      clear hall hj
      by_cases h1 : 1 ≤ s.length
      · have g1 : (1 : Int) ≤ (s.length : Int) := by omega
        by_cases h2 : (s.length : Int) ≤ m
        · go_wp2_with fail
          go_ret
          exact ⟨by rw [HN.out, decide_eq_true h1, decide_eq_true h2]; rfl, rfl⟩
        · have g2 : decide ((s.length : Int) ≤ m) = false := by simpa using h2
          clear h2
          go_wp2_with fail
          go_ret
          exact ⟨by rw [HN.out, decide_eq_true h1, g2]; rfl, rfl⟩
      · have g1 : decide ((1 : Int) ≤ (s.length : Int)) = false := by simp; omega
        have g1' : decide (1 ≤ s.length) = false := decide_eq_false h1
        clear h1
        go_wp2_with fail
        go_ret
        exact ⟨by rw [HN.out, g1']; rfl, rfl⟩
    have hlt' : (k : Int) < s.length := by omega
    obtain ⟨x, hx⟩ := get_ex hlt
    have hat := str_at (P := Tryz.prog) Tryz.underlying9 s k x hx
    have hst := all_take hx
    have hmem := List.mem_of_getElem? hx
    have HSt := Lib.hid hst; have HMem := Lib.hid hmem
    clear hx hst hmem
    rcases sign_ways x with ⟨hb, hw⟩ | ⟨hb, hw⟩
    · have Hb := Lib.hid hb; clear hb
      rcases hw with ⟨g1, g2⟩ | ⟨g1, g2, g3⟩
      · have g3 : (0 : Int) ≤ x.toNat := by omega
        by_cases g4 : (48 : Int) ≤ x.toNat
        · by_cases g5 : (x.toNat : Int) ≤ 57
          · omega
          · have g5' : decide ((x.toNat : Int) ≤ 57) = false := by simpa using g5
            clear g5
            go_wp2_with fail
            refine ⟨⟨k + 1, by omega, by go_num, Lib.hid (by rw [HSt.out, hj.out, Hb.out]; rfl)⟩, ?_⟩
            simp [intOf]; omega
        · omega
      · go_wp2_with fail
        refine ⟨⟨k + 1, by omega, by go_num, Lib.hid (by rw [HSt.out, hj.out, Hb.out]; rfl)⟩, ?_⟩
        simp [intOf]; omega
    · have HN : Hid (nameB s m = false) := Lib.hid (by
        unfold nameB
        rw [show s.all signB = false from ?_, Bool.false_and]
        rw [← Bool.not_eq_true]
        intro h
        rw [List.all_eq_true] at h
        have := h x HMem.out
        rw [hb] at this; cases this)
      clear hb
      rcases hw with ⟨g1, g2, g3, g4⟩ | ⟨g1, g2, g3⟩ | ⟨g1, g2⟩
      all_goals
        go_wp2_with fail
        go_ret
        exact ⟨by rw [HN.out]; rfl, rfl⟩

theorem path_of_parts {k q : Str} (hk : k = kData ∨ k = kGone) : pathF (k ++ 47 :: q) = (numOf q).bind fun n => if n < 1 ∨ 1073741824 < n then none else some (k, n) := by
  have hc : Lib.cut (k ++ 47 :: q) [47] = (k, q, true) := cut_app1 (c := 47) (p := k) (q := q) (by rcases hk with rfl | rfl <;> decide)
  unfold pathF
  rw [hc, if_pos ⟨rfl, hk⟩]
theorem itoa_pos (n : Int) (_h : 0 ≤ n) : 1 ≤ (Lib.itoa n).length := by
  rcases hd : Lib.itoa n with _ | ⟨c, r⟩
  · have h1 := atoi_itoa n
    rw [hd] at h1; cases h1
  · simp
theorem path_long {p : Str} (h : (pathF p).isSome = true) : ∃ k c q, p = k ++ c :: q ∧ (k = kData ∨ k = kGone) ∧ c = 47 ∧ 1 ≤ q.length := by
  obtain ⟨⟨k, n⟩, hp⟩ := Option.isSome_iff_exists.1 h
  obtain ⟨h1, h2, h3, h4⟩ := pathF_form hp
  exact ⟨k, 47, Lib.itoa n, h1, h2, rfl, itoa_pos n (by omega)⟩
theorem path_len4 {k : Str} (h : k = kData ∨ k = kGone) : k.length = 4 := by rcases h with rfl | rfl <;> rfl

/-- Where a path may fail, and what it is. -/
theorem pathOf_ways (p : Str) : (pathF p = none ∧ (p.length < 6 ∨ (6 ≤ p.length ∧ ∃ k c q, p.take 4 = k ∧ p[4]? = some c ∧ p.drop 5 = q ∧
      ((k ≠ kData ∧ k ≠ kGone) ∨ ((k = kData ∨ k = kGone) ∧ (c ≠ 47 ∨ (c = 47 ∧ (numRef q = none ∨ ∃ n, numRef q = some n ∧ (n < 1 ∨ (1 ≤ n ∧ 1073741824 < n))))))))) ) ∨
    (6 ≤ p.length ∧ ∃ k q n, p.take 4 = k ∧ p[4]? = some 47 ∧ p.drop 5 = q ∧ (k = kData ∨ k = kGone) ∧ numRef q = some n ∧ 1 ≤ n ∧ n ≤ 1073741824 ∧ pathF p = some (k, n)) := by
  by_cases h6 : p.length < 6
  · refine .inl ⟨?_, .inl h6⟩
    rw [← Option.not_isSome_iff_eq_none]
    intro h
    obtain ⟨k, c, q, rfl, hk, rfl, hq⟩ := path_long h
    have := path_len4 hk
    simp at h6
    omega
  · have h6' : 6 ≤ p.length := by omega
    obtain ⟨c, hc⟩ : ∃ c, p[4]? = some c := ⟨p[4], List.getElem?_eq_getElem (by omega)⟩
    have hp : p = p.take 4 ++ c :: p.drop 5 := by
      have h1 : p.drop 4 = c :: p.drop 5 := by
        obtain ⟨h2, h3⟩ := List.getElem?_eq_some_iff.1 hc
        rw [← h3]; exact List.drop_eq_getElem_cons h2
      rw [← h1, List.take_append_drop]
    have hk4 : (p.take 4).length = 4 := by rw [List.length_take]; omega
    generalize hk : p.take 4 = k at *
    generalize hq : p.drop 5 = q at *
    have hnone : ∀ (x : Str × Int), pathF p = some x → (k = kData ∨ k = kGone) ∧ c = 47 := fun x hx => by
      obtain ⟨k', c', q', h1, h2, h3, _⟩ := path_long (p := p) (by rw [hx]; rfl)
      rw [h1] at hp
      have h4 := path_len4 h2
      have h5 := List.append_inj hp (by omega)
      obtain ⟨rfl, h6⟩ := h5
      simp at h6
      exact ⟨h2, h6.1 ▸ h3⟩
    have no : ¬ ((k = kData ∨ k = kGone) ∧ c = 47) → pathF p = none := fun h => by
      cases hpf : pathF p with
      | none => rfl
      | some x => exact absurd (hnone x hpf) h
    by_cases h1 : k = kData ∨ k = kGone
    · by_cases h2 : c = 47
      · subst h2
        have hpp := path_of_parts (q := q) h1
        rw [← hp] at hpp
        cases hn : numRef q with
        | none => exact .inl ⟨by rw [hpp, ← numRef_eq, hn]; rfl, .inr ⟨h6', k, 47, q, rfl, hc, rfl, .inr ⟨h1, .inr ⟨rfl, .inl hn⟩⟩⟩⟩
        | some n =>
          rw [← numRef_eq, hn, Option.bind_some] at hpp
          by_cases h3 : n < 1
          · exact .inl ⟨by rw [hpp, if_pos (.inl h3)], .inr ⟨h6', k, 47, q, rfl, hc, rfl, .inr ⟨h1, .inr ⟨rfl, .inr ⟨n, hn, .inl h3⟩⟩⟩⟩⟩
          · by_cases h4 : 1073741824 < n
            · exact .inl ⟨by rw [hpp, if_pos (.inr h4)], .inr ⟨h6', k, 47, q, rfl, hc, rfl, .inr ⟨h1, .inr ⟨rfl, .inr ⟨n, hn, .inr ⟨by omega, h4⟩⟩⟩⟩⟩⟩
            · exact .inr ⟨h6', k, q, n, rfl, hc, rfl, h1, hn, by omega, by omega, by rw [hpp, if_neg (by omega)]⟩
      · exact .inl ⟨no fun h => h2 h.2, .inr ⟨h6', k, c, q, rfl, hc, rfl, .inr ⟨h1, .inl h2⟩⟩⟩
    · exact .inl ⟨no fun h => h1 h.1, .inr ⟨h6', k, c, q, rfl, hc, rfl, .inl ⟨fun h => h1 (.inl h), fun h => h1 (.inr h)⟩⟩⟩

def pathE (p : Str) : Int := if (pathF p).isSome then 0 else 5
set_option maxHeartbeats 1000000 in
set_option maxRecDepth 20000 in
theorem pathOf_any (p : Str) (w : World) (hs : p.length ≤ 100000) :
    Calls Tryz.prog 137 #[S p] w fun e w' => e = .returned (.tuple #[S (kindF p), .int .i64 (numF p), .int .i64 (pathE p)]) ∧ w = w' := by
  have hK : kindF p = ((pathF p).getD ([], 0)).1 := rfl
  have hN : numF p = ((pathF p).getD ([], 0)).2 := rfl
  have hE : pathE p = if (pathF p).isSome then 0 else 5 := rfl
  rcases pathOf_ways p with ⟨hp, hw⟩ | ⟨h6, k, q, n, hk, hc, hq, hk2, hn, h1, h2, hp⟩
  · rw [hp] at hK hN hE
    rw [hK, hN, hE]
    clear hK hN hE hp
    rcases hw with h6 | ⟨h6, k, c, q, hk, hc, hq, hw⟩
    · have g6 : (p.length : Int) < 6 := by omega
      go_enter Tryz.func137, Tryz.ntmps137
      go_wp2_with fail
      go_ret3
      exact ⟨rfl, rfl⟩
    have g6 : decide ((p.length : Int) < 6) = false := by simp; omega
    have s4 := str_to (P := Tryz.prog) Tryz.underlying9 p 4 (by omega) hs
    have s5 := str_from (P := Tryz.prog) Tryz.underlying9 p 5 (by omega) hs
    have a4 := str_at (P := Tryz.prog) Tryz.underlying9 p 4 c hc
    rw [hk] at s4; rw [hq] at s5
    have e4 : ((4 : Nat) : Int) = 4 := rfl
    have e5 : ((5 : Nat) : Int) = 5 := rfl
    rw [e4] at s4 a4; rw [e5] at s5
    have hql : q.length ≤ 100000 := by rw [← hq, List.length_drop]; omega
    have hno := numberOf_any q w hql
    have HNo := Lib.hid hno
    clear hk hc hq e4 e5 hno h6
    rcases hw with ⟨g1, g2⟩ | ⟨hk2, g3 | ⟨rfl, hn | ⟨n, hn, h1 | ⟨h1, h2⟩⟩⟩⟩
    · have g1' : (k == kData) = false := by simpa using g1
      have g2' : (k == kGone) = false := by simpa using g2
      clear g1 g2
      generalize numRef q = nr at *
      go_enter Tryz.func137, Tryz.ntmps137
      go_wp2_with (go_at_call 179; refine HNo.out.mono ?_; rintro e w' ⟨rfl, rfl⟩)
      go_ret3
      exact ⟨rfl, rfl⟩
    · have g3' : ((c.toNat : Int) != 47) = true := by
        simp only [bne_iff_ne, ne_eq]
        intro h
        exact g3 (UInt8.toNat_inj.1 (by have : c.toNat = 47 := by omega
                                        rw [this]; rfl))
      clear g3
      generalize numRef q = nr at *
      rcases hk2 with rfl | rfl
      all_goals
        go_enter Tryz.func137, Tryz.ntmps137
        go_wp2_with (go_at_call 179; refine HNo.out.mono ?_; rintro e w' ⟨rfl, rfl⟩)
        go_ret3
        exact ⟨rfl, rfl⟩
    · rw [hn] at HNo
      have e47 : (((47 : UInt8).toNat : Int)) = 47 := rfl
      rw [e47] at a4
      clear hn e47
      rcases hk2 with rfl | rfl
      all_goals
        go_enter Tryz.func137, Tryz.ntmps137
        go_wp2_with (go_at_call 179; refine HNo.out.mono ?_; rintro e w' ⟨rfl, rfl⟩)
        go_ret3
        exact ⟨rfl, rfl⟩
    · rw [hn] at HNo
      have e47 : (((47 : UInt8).toNat : Int)) = 47 := rfl
      rw [e47] at a4
      clear hn e47
      rcases hk2 with rfl | rfl
      all_goals
        go_enter Tryz.func137, Tryz.ntmps137
        go_wp2_with (go_at_call 179; refine HNo.out.mono ?_; rintro e w' ⟨rfl, rfl⟩; simp only [Option.getD_some, Option.isSome_some])
        go_ret3
        exact ⟨rfl, rfl⟩
    · rw [hn] at HNo
      have e47 : (((47 : UInt8).toNat : Int)) = 47 := rfl
      rw [e47] at a4
      have h1' : decide (n < 1) = false := by simp; omega
      clear hn e47 h1
      rcases hk2 with rfl | rfl
      all_goals
        go_enter Tryz.func137, Tryz.ntmps137
        go_wp2_with (go_at_call 179; refine HNo.out.mono ?_; rintro e w' ⟨rfl, rfl⟩; simp only [Option.getD_some, Option.isSome_some])
        go_ret3
        exact ⟨rfl, rfl⟩
  · rw [hp] at hK hN hE
    rw [hK, hN, hE]
    clear hK hN hE hp
    have g6 : decide ((p.length : Int) < 6) = false := by simp; omega
    have s4 := str_to (P := Tryz.prog) Tryz.underlying9 p 4 (by omega) hs
    have s5 := str_from (P := Tryz.prog) Tryz.underlying9 p 5 (by omega) hs
    have a4 := str_at (P := Tryz.prog) Tryz.underlying9 p 4 47 hc
    rw [hk] at s4; rw [hq] at s5
    have e4 : ((4 : Nat) : Int) = 4 := rfl
    have e5 : ((5 : Nat) : Int) = 5 := rfl
    have e47 : (((47 : UInt8).toNat : Int)) = 47 := rfl
    rw [e4] at s4 a4; rw [e5] at s5; rw [e47] at a4
    have hql : q.length ≤ 100000 := by rw [← hq, List.length_drop]; omega
    have hno := numberOf_any q w hql
    rw [hn] at hno
    have HNo := Lib.hid hno
    have h1' : decide (n < 1) = false := by simp; omega
    have h2' : decide (1073741824 < n) = false := by simp; omega
    clear hk hc hq e4 e5 e47 hno h6 hn h1 h2
    rcases hk2 with rfl | rfl
    all_goals
      go_enter Tryz.func137, Tryz.ntmps137
      go_wp2_with (go_at_call 179; refine HNo.out.mono ?_; rintro e w' ⟨rfl, rfl⟩; simp only [Option.getD_some, Option.isSome_some])
      go_ret3
      exact ⟨rfl, rfl⟩
end Go.Proofs.YtmhchakjkgdpmaaGreatDoor
namespace Go.Proofs.YtmhchakjkgdpmaaGreatDoor
open Go.RowKit

/-- An error as the document's answer holds it. -/
def faultV (c p : Int) : Value := .agg #[.int .i64 c, .int .i64 p]

theorem refBare_any (c : Int) (w : World) : Calls Tryz.prog 73 #[.int .i64 c] w fun e w' => e = .returned (faultV c (-1)) ∧ Below w.heap.size w w' := by
  go_enter Tryz.func73, Tryz.ntmps73
  go_wp2
  refine bodyPost_ret (results_cell_row rfl _ _ w.heap.size 49 #[.int .i64 c, .int .i64 (-1)] (0, 0) _ rfl (heap_alloc_new _ _) Tryz.underlying49 rfl (by kernel_rfl)) rfl ?_
  exact ⟨rfl, (Below.refl _ _).alloc (Nat.le_refl _) _⟩
theorem refFine_any (w : World) : Calls Tryz.prog 74 #[] w fun e w' => e = .returned (faultV 0 (-1)) ∧ Below w.heap.size w w' := by
  go_enter Tryz.func74, Tryz.ntmps74
  go_wp2
  refine bodyPost_ret (results_cell_row rfl _ _ w.heap.size 49 #[.int .i64 0, .int .i64 (-1)] (0, 0) _ rfl (heap_alloc_new _ _) Tryz.underlying49 rfl (by kernel_rfl)) rfl ?_
  exact ⟨rfl, (Below.refl _ _).alloc (Nat.le_refl _) _⟩

def toldB (er : Er) (c p : Int) : Bool := decide ((er.code : Int) = c) && (decide (er.code = 0) || decide (er.place = p))

set_option maxRecDepth 20000 in
theorem faulted3_any (E : Nat → Addr) (B : Nat) (er : Er) (v : Value) (c p : Int) (w : World) (hE : Errs allE E B w) (hA : AsVar w) (hgB : 12 < B) (hv : ErV E w v er) :
    Calls Tryz.prog 23 #[v, faultV c p] w fun e w' => e = .returned (.bool (toldB er c p)) ∧ Below w.heap.size w w' := by
  unfold faultV
  by_cases hc : (er.code : Int) = c
  · have hsp : toldB er c p = (decide (er.code = 0) || decide (er.place = p)) := by simp [toldB, hc]
    have g1 : ((er.code : Int) == c) = true := by simpa using hc
    by_cases h0 : er.code = 0
    · have g2 : ((er.code : Int) == 0) = true := by simp [h0]
      rw [hsp]
      have hsp2 : (decide (er.code = 0) || decide (er.place = p)) = true := by simp [h0]
      rw [hsp2]
      clear hsp hsp2 hc h0
      go_enter Tryz.func23, Tryz.ntmps23
      go_wp2_with fail
      have hba := (Below.refl w.heap.size w).alloc (Nat.le_refl _) (.cells #[.int .i64 c, .int .i64 p] 49)
      refine (code_any E B er v _ (hE.below' hba hE.le) (hA.below (B := w.heap.size) hba (by have := hE.le; omega)) (hv.below hba)).mono ?_
      rintro e w1 ⟨rfl, hb1⟩
      have hb1' : Below w.heap.size w w1 := hba.trans (hb1.mono hba.size)
      have c0 : w1.cell? ⟨w.heap.size, 0, none⟩ = some (.int .i64 c) := (hb1.cell (p := ⟨w.heap.size, 0, none⟩) (by simp)).trans (by simp)
      go_wp2_with fail
      go_ret
      exact ⟨rfl, hb1'⟩
    · have g2 : ((er.code : Int) == 0) = false := by simp; omega
      have hsp2 : toldB er c p = decide (er.place = p) := by rw [hsp]; simp [h0]
      rw [hsp2]
      clear hsp hsp2 hc h0
      go_enter Tryz.func23, Tryz.ntmps23
      go_wp2_with fail
      have hba := (Below.refl w.heap.size w).alloc (Nat.le_refl _) (.cells #[.int .i64 c, .int .i64 p] 49)
      refine (code_any E B er v _ (hE.below' hba hE.le) (hA.below (B := w.heap.size) hba (by have := hE.le; omega)) (hv.below hba)).mono ?_
      rintro e w1 ⟨rfl, hb1⟩
      have hb1' : Below w.heap.size w w1 := hba.trans (hb1.mono hba.size)
      have c0 : w1.cell? ⟨w.heap.size, 0, none⟩ = some (.int .i64 c) := (hb1.cell (p := ⟨w.heap.size, 0, none⟩) (by simp)).trans (by simp)
      have c1 : w1.cell? ⟨w.heap.size, 1, none⟩ = some (.int .i64 p) := (hb1.cell (p := ⟨w.heap.size, 1, none⟩) (by simp)).trans (by simp)
      go_wp2_with fail
      go_ret
      exact ⟨ret_bool (by simp [Bool.beq_eq_decide_eq]), hb1'⟩
  · have hsp : toldB er c p = false := by simp [toldB, hc]
    have g1 : ((er.code : Int) == c) = false := by simpa using hc
    rw [hsp]
    clear hsp hc
    go_enter Tryz.func23, Tryz.ntmps23
    go_wp2_with fail
    have hba := (Below.refl w.heap.size w).alloc (Nat.le_refl _) (.cells #[.int .i64 c, .int .i64 p] 49)
    refine (code_any E B er v _ (hE.below' hba hE.le) (hA.below (B := w.heap.size) hba (by have := hE.le; omega)) (hv.below hba)).mono ?_
    rintro e w1 ⟨rfl, hb1⟩
    have hb1' : Below w.heap.size w w1 := hba.trans (hb1.mono hba.size)
    have c0 : w1.cell? ⟨w.heap.size, 0, none⟩ = some (.int .i64 c) := (hb1.cell (p := ⟨w.heap.size, 0, none⟩) (by simp)).trans (by simp)
    go_wp2_with fail
    go_ret
    exact ⟨rfl, hb1'⟩
end Go.Proofs.YtmhchakjkgdpmaaGreatDoor
namespace Go.Proofs.YtmhchakjkgdpmaaGreatDoor
open Go.RowKit

def faultOf (er : Er) : Value := faultV er.code er.place

theorem results_tmp_cell {P : Program} {fn : Func} {u p : Tmp} {ty : TypeId} (h : fn.results = #[.tmp u, .cell p ty]) (tmps : Array Value) (w : World) (g : Nat) (t : TypeId) (cs : Array Value) (fr : Nat × Nat) (d : TypeDesc)
    (hp : tmps.getD p undef = .pointer (some ⟨g, 0, none⟩)) (hg : w.heap[g]? = some (.cells cs t fr))
    (hu : P.underlying ty = some d) (hd : (match d with | .struct _ | .array _ _ => true | _ => false) = true) (hi : (P.info? ty).map (·.size) = some cs.size) {v : Value} (hv : tmps.getD u undef = v) :
    (results fn tmps).run P w = .ok (.tuple #[v, .agg cs]) w := by
  have hp' : tmps[p]?.getD undef = .pointer (some ⟨g, 0, none⟩) := by simpa using hp
  have hv' : tmps[u]?.getD undef = v := by simpa using hv
  simp [results, h, hp', hv', asAddr, run_loadVar_row w g t ty cs fr d hg hu hd hi]

theorem firstFrom_code {f : Nat → Nat} : ∀ {m i : Nat}, firstFrom f i m ≠ .nil → 0 < (firstFrom f i m).code
  | 0, _, h => absurd rfl h
  | m + 1, i, h => by
    rw [firstFrom] at h ⊢
    split
    · rename_i h0; rw [if_pos h0] at h; exact firstFrom_code h
    · rename_i h0; exact Nat.pos_of_ne_zero h0
theorem set_two {w : World} {g : Nat} {a b : Value} {t : TypeId} (hg : w.heap[g]? = some (.cells #[a, b] t (0, 0))) (x y : Value) : ((w.setCell ⟨g, 0, none⟩ x).setCell ⟨g, 1, none⟩ y).heap[g]? = some (.cells #[x, y] t (0, 0)) := by
  have h1 := heap_setCell_same w g 0 #[a, b] t x hg
  have h2 := heap_setCell_same _ g 1 _ t y h1
  simpa using h2

end Go.Proofs.YtmhchakjkgdpmaaGreatDoor
namespace Go.Proofs.YtmhchakjkgdpmaaGreatDoor
open Go.RowKit

/-- A function value's call enters its body. -/
def Clo (P : Program) (f : FuncId) : Prop := ∀ args W, (callFunc f args).run P W = .ok (.enter f args) W
/-- The function value f, with what it captured, answers p of each element of l, in every world that is as w0 was below base. -/
def PredOn {α : Type} (P : Program) (f : FuncId) (caps : Array Value) (val : α → Value) (l : List α) (p : α → Bool) (base : Nat) (w0 : World) : Prop :=
  ∀ W x, x ∈ l → Below base w0 W → base ≤ W.heap.size → Calls P f (#[val x] ++ caps) W fun e W' => e = .returned (.bool (p x)) ∧ Below W.heap.size W W'

theorem PredOn.sub {α : Type} {P : Program} {f : FuncId} {caps : Array Value} {val : α → Value} {l m : List α} {p : α → Bool} {base : Nat} {w0 : World} (h : PredOn P f caps val l p base w0) (hm : ∀ x ∈ m, x ∈ l) : PredOn P f caps val m p base w0 :=
  fun W x hx => h W x (hm x hx)

def idxVal {α : Type} (p : α → Bool) (l : List α) : Int := match l.findIdx? p with | none => -1 | some i => i

theorem idxVal_none {α : Type} {p : α → Bool} {l : List α} (h : ∀ (j : Nat) (x : α), l[j]? = some x → p x = false) : idxVal p l = -1 := by
  unfold idxVal
  have : l.findIdx? p = none := List.findIdx?_eq_none_iff.2 fun x hx => by
    obtain ⟨j, hj, he⟩ := List.getElem_of_mem hx
    exact h j x (by simp [hj, he])
  rw [this]
theorem idxVal_some {α : Type} {p : α → Bool} {l : List α} {k : Nat} {x : α} (hk : l[k]? = some x) (hp : p x = true) (h : ∀ (j : Nat) (y : α), j < k → l[j]? = some y → p y = false) : idxVal p l = k := by
  unfold idxVal
  have hlt : k < l.length := by
    rcases Nat.lt_or_ge k l.length with h' | h'
    · exact h'
    · rw [List.getElem?_eq_none h'] at hk; cases hk
  have hx : l[k] = x := by rw [List.getElem?_eq_getElem hlt] at hk; exact Option.some.inj hk
  have : l.findIdx? p = some k := List.findIdx?_eq_some_iff_getElem.2 ⟨hlt, by rw [hx]; exact hp, fun j hj => by
    have := h j l[j] hj (by simp)
    simpa using this⟩
  rw [this]
end Go.Proofs.YtmhchakjkgdpmaaGreatDoor
namespace Go.Proofs.YtmhchakjkgdpmaaGreatDoor
open Go.RowKit

/-- A round's cells. -/
theorem flCells {w w' : World} {b o : Nat} {l : List Fl} {k : Nat} {x : Fl} (hx : ∀ (k : Nat) (x : Fl), l[k]? = some x → ∀ (j : Nat) (u : Value), (encF x)[j]? = some u → w.cell? ⟨b, o + k * 6 + j, none⟩ = some u) (hb : Below w.heap.size w w') (hk : l[k]? = some x) :
    w'.cell? ⟨b, o + k * 6, none⟩ = some (S x.path) ∧ w'.cell? ⟨b, o + k * 6 + 1, none⟩ = some (S x.part) ∧ w'.cell? ⟨b, o + k * 6 + 2, none⟩ = some (.int .i64 x.n) ∧ w'.cell? ⟨b, o + k * 6 + 3, none⟩ = some (.int .i64 x.lo) ∧ w'.cell? ⟨b, o + k * 6 + 4, none⟩ = some (.int .i64 x.hi) ∧ w'.cell? ⟨b, o + k * 6 + 5, none⟩ = some (.int .i64 x.seq) := by
  have h := fun j u hu => by
    have := hx k x hk j u hu
    exact (hb.cell (World.block_lt_of_cell? w _ this)).trans this
  exact ⟨h 0 _ rfl, h 1 _ rfl, h 2 _ rfl, h 3 _ rfl, h 4 _ rfl, h 5 _ rfl⟩

theorem indexFuncF_any (f : FuncId) (caps : Array Value) (p : Fl → Bool) (base : Nat) (w0 : World) (v : Value) (l : List Fl) (w : World) (hf : Clo Tryz.prog f) (hp : PredOn Tryz.prog f caps fileV l p base w0)
    (hl : FilesAt w v l) (hw : Below base w0 w) (hB : base ≤ w.heap.size) :
    Calls Tryz.prog 111 #[v, .func (.func f) #[] caps] w fun e w' => e = .returned (.int .i64 (idxVal p l)) ∧ Below w.heap.size w w' := by
  obtain ⟨a, c, b, o, rfl, ha, hc, hcm, hx⟩ := hl
  unfold maxLen at hcm
  have hf' := hf
  unfold Clo at hf'
  go_enter Tryz.func111, Tryz.ntmps111
  go_wp2_with fail
  go_loopw [8] (fun i wr => ∃ k : Nat, k ≤ l.length ∧ i = .int .i64 k ∧ Hid (∀ j y, j < k → l[j]? = some y → p y = false) ∧ Below w.heap.size w wr) (fun i _ => l.length - (intOf i).toNat)
  case atStart => exact ⟨0, by omega, rfl, Lib.hid fun j y hj => absurd hj (by omega), Below.refl _ _⟩
  case round =>
    obtain ⟨k, hk, rfl, hj, hb⟩ := hrel
    by_cases hlt : k < l.length
    · obtain ⟨x, hxk⟩ := get_ex hlt
      obtain ⟨c0, c1, c2, c3, c4, c5⟩ := flCells hx hb hxk
      have i1 := idx_at (c := c) 6 Tryz.underlying22 szFl ha k hlt
      have hk1 : (k : Int) < (l.length : Int) := by omega
      have hpx := hp wr x (List.mem_of_getElem? hxk) (hw.trans (hb.mono hB)) (Nat.le_trans hB hb.size)
      have Hp := Lib.hid hpx; clear hpx
      have Hx := Lib.hid hxk; clear hxk
      go_wp2_with fail
      refine Hp.out.mono ?_
      rintro e w1 ⟨rfl, hb1⟩
      have hb2 := hb.trans (hb1.mono hb.size)
      cases hpv : p x with
      | true =>
        have Hpv := Lib.hid hpv; clear hpv
        go_wp2_with fail
        go_ret
        refine ⟨?_, hb2⟩
        rw [idxVal_some Hx.out Hpv.out hj.out]; rfl
      | false =>
        have Hpv := Lib.hid hpv; clear hpv
        go_wp2_with fail
        go_roundw
        case rel => exact ⟨k + 1, by omega, by go_num, (Lib.hid fun j y hj' hy => by
          rcases Nat.lt_or_ge j k with h | h
          · exact hj.out j y h hy
          · obtain rfl : j = k := by omega
            rw [Hx.out] at hy
            obtain rfl := Option.some.inj hy
            exact Hpv.out), hb2⟩
        case measure => simp [intOf]; omega
    · obtain rfl : k = l.length := by omega
      go_wp2_with fail
      go_ret
      refine ⟨?_, hb⟩
      rw [idxVal_none fun j x hj' => hj.out j x (by
        rcases Nat.lt_or_ge j l.length with h | h
        · exact h
        · rw [List.getElem?_eq_none h] at hj'; cases hj') hj']
      rfl
end Go.Proofs.YtmhchakjkgdpmaaGreatDoor
