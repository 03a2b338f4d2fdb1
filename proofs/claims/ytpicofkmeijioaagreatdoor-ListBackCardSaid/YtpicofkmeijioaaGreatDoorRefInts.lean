/- deedboxref1: SameInts, SameTexts, InInts, InTexts: what they answer. -/
import Derived.Test.YtpicofkmeijioaaGreatDoorProg
import Derived.Test.YtpicofkmeijioaaGreatDoorMem
import Derived.Outline
namespace Go.Proofs.YtpicofkmeijioaaGreatDoor
open Go.RowKit

theorem szInt (w : World) : (sizeOf 3).run Tryz.prog w = .ok 1 w := by kernel_rfl
theorem szStr (w : World) : (sizeOf 9).run Tryz.prog w = .ok 1 w := by kernel_rfl

theorem list_ext_upto {α : Type} {l m : List α} (hl : l.length = m.length) (h : ∀ j < l.length, l[j]? = m[j]?) : l = m := by
  refine List.ext_getElem? fun i => ?_
  rcases Nat.lt_or_ge i l.length with hi | hi
  · exact h i hi
  · rw [List.getElem?_eq_none hi, List.getElem?_eq_none (by omega)]
theorem ret_bool {a b : Bool} (h : a = b) : Ending.returned (.bool a) = Ending.returned (.bool b) := by rw [h]

theorem sameInts_any (v u : Value) (l m : List Int) (w : World) (hl : IntsAt w v l) (hm : IntsAt w u m) :
    Calls Tryz.prog 12 #[v, u] w fun e w' => e = .returned (.bool (decide (l = m))) ∧ Below w.heap.size w w' := by
  obtain ⟨a, c, b, o, rfl, ha, hc, hcm, hx⟩ := hl
  obtain ⟨a', c', b', o', rfl, ha', hc', hcm', hx'⟩ := hm
  unfold maxLen at hcm hcm'
  by_cases hlen : l.length = m.length
  · have hne : ((l.length : Int) != (m.length : Int)) = false := by simp [hlen]
    have Hl := Lib.hid hlen; clear hlen
    go_enter Tryz.func12, Tryz.ntmps12
    go_wp2_with fail
    go_loopw [5] (fun i wr => ∃ k : Nat, k ≤ l.length ∧ i = .int .i64 k ∧ Hid (∀ j < k, l[j]? = m[j]?) ∧ Below w.heap.size w wr) (fun i _ => l.length - (intOf i).toNat)
    case atStart => exact ⟨0, by omega, rfl, fun j hj => absurd hj (by omega), Below.refl _ _⟩
    case round =>
      obtain ⟨k, hk, rfl, hj, hb⟩ := hrel
      by_cases hlt : k < l.length
      · obtain ⟨x, hxk⟩ := get_ex hlt
        obtain ⟨y, hyk⟩ := get_ex (l := m) (k := k) (by rw [← Hl.out]; exact hlt)
        have c1 := hx k x hxk 0 _ rfl
        have c2 := hx' k y hyk 0 _ rfl
        have c1 := (hb.cell (World.block_lt_of_cell? w _ c1)).trans c1
        have c2 := (hb.cell (World.block_lt_of_cell? w _ c2)).trans c2
        have i1 := idx_at (c := c) 1 Tryz.underlying33 szInt ha k hlt
        have i2 := idx_at (c := c') 1 Tryz.underlying33 szInt ha' k (by rw [← Hl.out]; exact hlt)
        have hk1 : (k : Int) < (l.length : Int) := by omega
        simp only [Nat.mul_one, Nat.add_zero] at c1 c2 i1 i2
        have Hx := Lib.hid hxk; clear hxk
        have Hy := Lib.hid hyk; clear hyk
        go_wp2_with fail
        go_quiet (fail)
        go_wp2_with fail
        · have hne' : x ≠ y := by simpa using ‹(x != y) = true›
          go_ret
          refine ⟨ret_bool ?_, Bdn hb _⟩
          refine (decide_eq_false fun e => hne' ?_).symm
          have := Hx.out; rw [e, Hy.out] at this; exact (Option.some.inj this).symm
        · have he : x = y := by simpa using ‹(x != y) = false›
          go_roundw
          case rel => exact ⟨k + 1, by omega, by go_num, fun j hj' => by
            rcases Nat.lt_or_ge j k with h | h
            · exact hj.out j h
            · obtain rfl : j = k := by omega
              rw [Hx.out, Hy.out, he], Bdn hb _⟩
          case measure => simp [intOf]; omega
      · obtain rfl : k = l.length := by omega
        go_wp2_with fail
        go_ret
        exact ⟨ret_bool (decide_eq_true (list_ext_upto Hl.out hj.out)).symm, hb⟩
  · have hne : ((l.length : Int) != (m.length : Int)) = true := by simp; omega
    go_enter Tryz.func12, Tryz.ntmps12
    go_wp2_with fail
    go_ret
    exact ⟨ret_bool (decide_eq_false fun e => hlen (by rw [e])).symm, Below.refl _ _⟩
theorem sameTexts_any (v u : Value) (l m : List Str) (w : World) (hl : StrsAt w v l) (hm : StrsAt w u m) :
    Calls Tryz.prog 15 #[v, u] w fun e w' => e = .returned (.bool (decide (l = m))) ∧ Below w.heap.size w w' := by
  obtain ⟨a, c, b, o, rfl, ha, hc, hcm, hx⟩ := hl
  obtain ⟨a', c', b', o', rfl, ha', hc', hcm', hx'⟩ := hm
  unfold maxLen at hcm hcm'
  by_cases hlen : l.length = m.length
  · have hne : ((l.length : Int) != (m.length : Int)) = false := by simp [hlen]
    have Hl := Lib.hid hlen; clear hlen
    go_enter Tryz.func15, Tryz.ntmps15
    go_wp2_with fail
    go_loopw [5] (fun i wr => ∃ k : Nat, k ≤ l.length ∧ i = .int .i64 k ∧ Hid (∀ j < k, l[j]? = m[j]?) ∧ Below w.heap.size w wr) (fun i _ => l.length - (intOf i).toNat)
    case atStart => exact ⟨0, by omega, rfl, fun j hj => absurd hj (by omega), Below.refl _ _⟩
    case round =>
      obtain ⟨k, hk, rfl, hj, hb⟩ := hrel
      by_cases hlt : k < l.length
      · obtain ⟨x, hxk⟩ := get_ex hlt
        obtain ⟨y, hyk⟩ := get_ex (l := m) (k := k) (by rw [← Hl.out]; exact hlt)
        have c1 := hx k x hxk 0 _ rfl
        have c2 := hx' k y hyk 0 _ rfl
        have c1 := (hb.cell (World.block_lt_of_cell? w _ c1)).trans c1
        have c2 := (hb.cell (World.block_lt_of_cell? w _ c2)).trans c2
        have i1 := idx_at (c := c) 1 Tryz.underlying24 szStr ha k hlt
        have i2 := idx_at (c := c') 1 Tryz.underlying24 szStr ha' k (by rw [← Hl.out]; exact hlt)
        have hk1 : (k : Int) < (l.length : Int) := by omega
        simp only [Nat.mul_one, Nat.add_zero] at c1 c2 i1 i2
        have Hx := Lib.hid hxk; clear hxk
        have Hy := Lib.hid hyk; clear hyk
        go_wp2_with fail
        go_quiet (fail)
        go_wp2_with fail
        · have hne' : x ≠ y := by first | (simpa using ‹(x == y) = false›) | (simpa using ‹(!x == y) = true›)
          go_ret
          refine ⟨ret_bool ?_, Bdn hb _⟩
          refine (decide_eq_false fun e => hne' ?_).symm
          have := Hx.out; rw [e, Hy.out] at this; exact (Option.some.inj this).symm
        · have he : x = y := by first | (simpa using ‹(x == y) = true›) | (simpa using ‹(!x == y) = false›)
          go_roundw
          case rel => exact ⟨k + 1, by omega, by go_num, fun j hj' => by
            rcases Nat.lt_or_ge j k with h | h
            · exact hj.out j h
            · obtain rfl : j = k := by omega
              rw [Hx.out, Hy.out, he], Bdn hb _⟩
          case measure => simp [intOf]; omega
      · obtain rfl : k = l.length := by omega
        go_wp2_with fail
        go_ret
        exact ⟨ret_bool (decide_eq_true (list_ext_upto Hl.out hj.out)).symm, hb⟩
  · have hne : ((l.length : Int) != (m.length : Int)) = true := by simp; omega
    go_enter Tryz.func15, Tryz.ntmps15
    go_wp2_with fail
    go_ret
    exact ⟨ret_bool (decide_eq_false fun e => hlen (by rw [e])).symm, Below.refl _ _⟩
theorem inTexts_any (s : Str) (v : Value) (l : List Str) (w : World) (hl : StrsAt w v l) :
    Calls Tryz.prog 24 #[S s, v] w fun e w' => e = .returned (.bool (decide (s ∈ l))) ∧ Below w.heap.size w w' := by
  obtain ⟨a, c, b, o, rfl, ha, hc, hcm, hx⟩ := hl
  unfold maxLen at hcm
  go_enter Tryz.func24, Tryz.ntmps24
  go_wp2_with fail
  go_loopw [5] (fun i wr => ∃ k : Nat, k ≤ l.length ∧ i = .int .i64 k ∧ Hid (∀ j < k, l[j]? ≠ some s) ∧ Below w.heap.size w wr) (fun i _ => l.length - (intOf i).toNat)
  case atStart => exact ⟨0, by omega, rfl, fun j hj => absurd hj (by omega), Below.refl _ _⟩
  case round =>
    obtain ⟨k, hk, rfl, hj, hb⟩ := hrel
    by_cases hlt : k < l.length
    · obtain ⟨x, hxk⟩ := get_ex hlt
      have c1 := hx k x hxk 0 _ rfl
      have c1 := (hb.cell (World.block_lt_of_cell? w _ c1)).trans c1
      have i1 := idx_at (c := c) 1 Tryz.underlying24 szStr ha k hlt
      have hk1 : (k : Int) < (l.length : Int) := by omega
      simp only [Nat.mul_one, Nat.add_zero] at c1 i1
      have Hx := Lib.hid hxk; clear hxk
      go_wp2_with fail
      · have he : x = s := by simpa using ‹(x == s) = true›
        go_ret
        exact ⟨ret_bool (decide_eq_true (by rw [← he]; exact List.mem_of_getElem? Hx.out)).symm, hb⟩
      · have hne' : x ≠ s := by simpa using ‹(x == s) = false›
        go_roundw
        case rel => exact ⟨k + 1, by omega, by go_num, fun j hj' => by
          rcases Nat.lt_or_ge j k with h | h
          · exact hj.out j h
          · obtain rfl : j = k := by omega
            rw [Hx.out]; exact fun e => hne' (Option.some.inj e), hb⟩
        case measure => simp [intOf]; omega
    · obtain rfl : k = l.length := by omega
      go_wp2_with fail
      go_ret
      refine ⟨ret_bool (decide_eq_false fun e => ?_).symm, hb⟩
      obtain ⟨j, hjl, hje⟩ := List.getElem_of_mem e
      exact hj.out j hjl (by simp [hjl, hje])
end Go.Proofs.YtpicofkmeijioaaGreatDoor
