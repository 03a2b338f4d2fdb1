/- deedboxref1: Byte, below, Decimal: the numeral. -/
import Derived.Test.YtepdedfmdafnkaaGreatDoorOwnInts
import Derived.Laws.BytesArg
import Derived.Lib.ItoaLen
import Derived.Outline
namespace Go.Proofs.YtepdedfmdafnkaaGreatDoor
open Go.RowKit
attribute [local go_sem] bapp

theorem bytes_conv (w : World) (t : TypeId) (n : Int) : (convert 175 9 (.slice (some ⟨w.heap.size, 0, none⟩) 1 1)).run Tryz.prog (w.alloc (.cells #[.int .u8 n] t)) = .ok (.string ⟨#[UInt8.ofNat n.toNat]⟩) (w.alloc (.cells #[.int .u8 n] t)) := by
  rw [run_convert_bytes_arg _ 175 5 Tryz.underlying175 Tryz.underlying5 w.heap.size 0 1 1 [n] rfl ?_ 9 Tryz.underlying9]
  · rfl
  · intro i hi
    obtain rfl : i = 0 := by omega
    simp

set_option maxRecDepth 100000 in
theorem byte_any (n : Int) (h0 : 0 ≤ n) (h1 : n ≤ 255) (w : World) :
    Calls Tryz.prog 109 #[.int .i64 n] w fun e w' => e = .returned (S [UInt8.ofNat n.toNat]) ∧ Below w.heap.size w w' := by
  have hcv := bytes_conv w 5 n
  have hw : IntKind.u8.wrap n = n := by
    show n % 256 = n
    omega
  go_enter Tryz.func109, Tryz.ntmps109
  go_wp2_with fail
  go_ret
  exact ⟨rfl, (Below.refl _ _).alloc (Nat.le_refl _) _⟩

theorem decDigits_big {u : Nat} (h : ¬ u < 10) : Lib.decDigits u = Lib.decDigits (u / 10) ++ [UInt8.ofNat (48 + u % 10)] := by
  rw [Lib.decDigits, dif_neg h]
theorem digits_len (u : Nat) (h : u ≤ 9223372036854775808) : (Lib.decDigits u).length ≤ 20 := by
  have := Lib.itoa_length_le (-(u : Int)) (by omega) (by omega)
  rcases Nat.eq_zero_or_pos u with rfl | hp
  · rw [Lib.decDigits_one (by omega)]; simp
  · rw [Lib.itoa_neg u hp] at this; simp at this; omega

theorem below_any (k : Nat) : ∀ (n : Int) (w : World), n.natAbs ≤ k → n ≤ 0 → -9223372036854775808 ≤ n →
    Calls Tryz.prog 84 #[.int .i64 n] w fun e w' => e = .returned (S (Lib.decDigits n.natAbs)) ∧ Below w.heap.size w w' := by
  induction k with
  | zero =>
    intro n w hk h0 hlo
    obtain rfl : n = 0 := by omega
    go_enter Tryz.func84, Tryz.ntmps84
    go_wp2_with fail
    refine (byte_any _ (by decide) (by decide) _).mono ?_
    rintro e w1 ⟨rfl, hb⟩
    go_wp2_with fail
    go_ret
    exact ⟨by simp [Lib.decDigits_one], hb⟩
  | succ k ih =>
    intro n w hk h0 hlo
    by_cases hn : -10 < n
    · have hd : Lib.decDigits n.natAbs = [UInt8.ofNat (48 - n).toNat] := by
        rw [Lib.decDigits_one (by omega)]
        congr 2; omega
      have Hd := Lib.hid hd; clear hd
      have Ih := Lib.hid ih; clear ih
      go_enter Tryz.func84, Tryz.ntmps84
      go_wp2_with fail
      refine (byte_any _ (by omega) (by omega) _).mono ?_
      rintro e w1 ⟨rfl, hb⟩
      go_wp2_with fail
      go_ret
      exact ⟨by rw [Hd.out]; rfl, hb⟩
    · have hq : (n.tdiv 10).natAbs = n.natAbs / 10 := by rw [Int.natAbs_tdiv]; rfl
      have hr : (n.tmod 10).natAbs = n.natAbs % 10 := by rw [Int.natAbs_tmod]; rfl
      have hq0 : n.tdiv 10 ≤ 0 := by
        have := Int.tdiv_nonneg (a := -n) (b := 10) (by omega) (by omega)
        rw [Int.neg_tdiv] at this; omega
      have hr0 : n.tmod 10 ≤ 0 := by
        have := Int.tmod_nonneg (a := -n) 10 (by omega)
        rw [Int.neg_tmod] at this; omega
      have hd : Lib.decDigits n.natAbs = Lib.decDigits (n.tdiv 10).natAbs ++ [UInt8.ofNat (48 - n.tmod 10).toNat] := by
        rw [decDigits_big (by omega), hq]
        congr 3; omega
      have hl := digits_len (n.tdiv 10).natAbs (by omega)
      have hrl : -9 ≤ n.tmod 10 := by omega
      have hql : -9223372036854775808 ≤ n.tdiv 10 := by omega
      have hqk : (n.tdiv 10).natAbs ≤ k := by omega
      have Hd := Lib.hid hd; clear hd hq hr
      have Ih := Lib.hid ih; clear ih
      go_enter Tryz.func84, Tryz.ntmps84
      go_wp2_with fail
      refine (Ih.out _ _ hqk hq0 hql).mono ?_
      rintro e w1 ⟨rfl, hb⟩
      generalize Lib.decDigits (n.tdiv 10).natAbs = q at hl Hd ⊢
      go_wp2_with fail
      refine (byte_any _ (by omega) (by omega) _).mono ?_
      rintro e w2 ⟨rfl, hb2⟩
      go_wp2_with fail
      go_ret
      exact ⟨by rw [Hd.out]; rfl, hb.trans (hb2.mono hb.size)⟩

theorem decimal_any (n : Int) (w : World) (h0 : -9223372036854775808 < n) (h1 : n ≤ 9223372036854775807) :
    Calls Tryz.prog 62 #[.int .i64 n] w fun e w' => e = .returned (S (Lib.itoa n)) ∧ Below w.heap.size w w' := by
  by_cases hn : n < 0
  · have hd : Lib.itoa n = 45 :: Lib.decDigits n.natAbs := if_pos hn
    have hl := digits_len n.natAbs (by omega)
    have Hd := Lib.hid hd; clear hd
    go_enter Tryz.func62, Tryz.ntmps62
    go_wp2_with fail
    refine (below_any _ n _ (Nat.le_refl _) (by omega) (by omega)).mono ?_
    rintro e w1 ⟨rfl, hb⟩
    go_wp2_with fail
    go_ret
    exact ⟨by rw [Hd.out]; rfl, hb⟩
  · have hd : Lib.itoa n = Lib.decDigits (-n).natAbs := by
      unfold Lib.itoa; rw [if_neg hn]; congr 1; omega
    have hn' : 0 ≤ n := by omega
    have Hd := Lib.hid hd; clear hd hn
    go_enter Tryz.func62, Tryz.ntmps62
    go_wp2_with fail
    refine (below_any _ (-n) _ (Nat.le_refl _) (by omega) (by omega)).mono ?_
    rintro e w1 ⟨rfl, hb⟩
    rw [← Hd.out]
    go_wp2_with fail
    go_ret
    exact ⟨rfl, hb⟩
end Go.Proofs.YtepdedfmdafnkaaGreatDoor
