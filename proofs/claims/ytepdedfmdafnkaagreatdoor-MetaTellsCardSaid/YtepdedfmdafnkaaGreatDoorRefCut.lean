/- deedboxref1.Cut, InInts; deedboxref2.IDsText: the walks. -/
import Derived.Test.YtepdedfmdafnkaaGreatDoorRefNum
import Derived.Test.YtepdedfmdafnkaaGreatDoorCut
import Derived.Test.YtepdedfmdafnkaaGreatDoorMetaText
namespace Go.Proofs.YtepdedfmdafnkaaGreatDoor
open Go.RowKit
attribute [local go_sem] bget bapp

theorem drop_cut {s : Str} {f k : Nat} (hf : f ≤ k) (hk : k < s.length) : s.drop f = (s.drop f).take (k - f) ++ s[k] :: s.drop (k + 1) := by
  have h1 : s.drop k = s[k] :: s.drop (k + 1) := List.drop_eq_getElem_cons hk
  have h2 : (s.drop f).drop (k - f) = s.drop k := by rw [List.drop_drop]; congr 1; omega
  rw [← h1, ← h2, List.take_append_drop]
theorem take_cut {s : Str} {f k : Nat} (hf : f ≤ k) (hk : k < s.length) : (s.drop f).take (k + 1 - f) = (s.drop f).take (k - f) ++ [s[k]] := by
  rw [show k + 1 - f = (k - f) + 1 by omega]
  refine take_snoc' ?_
  rw [List.getElem?_drop, show f + (k - f) = k by omega]; simp [hk]

set_option maxRecDepth 20000 in
set_option maxHeartbeats 400000 in
theorem refCut_any (s : Str) (c : UInt8) (w : World) (hs : s.length ≤ 100000) :
    Calls Tryz.prog 66 #[S s, .int .u8 c.toNat] w fun e w' => ∃ v', e = .returned v' ∧ Own encS 9 1 w.heap.size w' v' (cutAt c s) ∧ Below w.heap.size w w' := by
  go_enter Tryz.func66, Tryz.ntmps66
  go_wp2_with fail
  go_loopw [5, 6, 7] (fun o f i wr => ∃ (k m : Nat) (out : List Str), k ≤ s.length ∧ m ≤ k ∧ i = .int .i64 k ∧ f = .int .i64 m ∧ Hid (cutAt c s = out ++ cutAt c (s.drop m)) ∧ Hid (c ∉ (s.drop m).take (k - m)) ∧ out.length ≤ k ∧ Own encS 9 1 w.heap.size wr o out ∧ Below w.heap.size w wr) (fun _ _ i _ => s.length - (intOf i).toNat)
  case atStart => exact ⟨0, 0, [], by omega, by omega, rfl, rfl, rfl, by simp [Hid], by simp, Own.nil _ _ _ _ _, Below.refl _ _⟩
  case round =>
    obtain ⟨k, m, out, hk, hm, rfl, rfl, hcut, hno, hol, ho, hb⟩ := hrel
    have hmk : (m : Int) ≤ k := by omega
    have hks : (k : Int) ≤ s.length := by omega
    by_cases hlt : k < s.length
    · have hk1 : (k : Int) < s.length := by omega
      by_cases he : s[k] = c
      · have g1 : ((s[k].toNat : Int) == c.toNat) = true := by rw [he]; simp
        have hd := drop_cut hm hlt
        have hc2 : cutAt c s = (out ++ [(s.drop m).take (k - m)]) ++ cutAt c (s.drop (k + 1)) := by
          rw [hcut.out]
          have : cutAt c (s.drop m) = (s.drop m).take (k - m) :: cutAt c (s.drop (k + 1)) := by
            conv => lhs; rw [hd, he]
            exact cutAt_app hno.out
          rw [this]; simp
        have Hc := Lib.hid hc2
        clear he hd hc2
        go_wp2_with (at_builtin; refine wpList_app rfl _ _ _ rfl w.heap.size elStr _ out.length _ rfl (ho.alloc _) (.slice (some ⟨wr.heap.size, 0, none⟩) 1 1) 1 [.string ((ByteArray.mk s.toArray).extract m k)] rfl (src_one rfl rfl (by simp [Value.oneCell'])) (by unfold maxLen; omega) (by omega) (by have := hb.size; simp; omega) ?_; intro v' w2 hown hg _)
        rw [ByteArray.extract_mk] at hown
        go_roundw
        case rel => exact ⟨k + 1, k + 1, out ++ [(s.drop m).take (k - m)], by omega, by omega, by go_num, by go_num, Hc.out, by simp [Hid], by simp; omega, Own.snoc hown, Bapp (hb.alloc hb.size _) (ho.alloc _) hg (Nat.le_refl _) (by have := hb.size; simp; omega)⟩
        case measure => simp [intOf]; omega
      · have g1 : ((s[k].toNat : Int) == c.toNat) = false := by
          simp; intro h; apply he; apply UInt8.toNat_inj.1; exact Int.ofNat.inj h
        have hn2 : c ∉ (s.drop m).take (k + 1 - m) := by
          rw [take_cut hm hlt]; intro h
          rcases List.mem_append.1 h with h | h
          · exact hno.out h
          · exact he (List.mem_singleton.1 h).symm
        have Hn := Lib.hid hn2
        clear he hn2
        go_wp2_with fail
        go_roundw
        case rel => exact ⟨k + 1, m, out, by omega, by omega, by go_num, rfl, hcut, Hn, by omega, ho, hb⟩
        case measure => simp [intOf]; omega
    · obtain rfl : k = s.length := by omega
      have hc2 : cutAt c s = out ++ [s.drop m] := by
        have h := hno.out
        rw [List.take_of_length_le (by simp)] at h
        rw [hcut.out, cutAt_none h]
      have Hc := Lib.hid hc2
      clear hc2
      go_wp2_with (at_builtin; refine wpList_app rfl _ _ _ rfl w.heap.size elStr _ out.length _ rfl (ho.alloc _) (.slice (some ⟨wr.heap.size, 0, none⟩) 1 1) 1 [.string ((ByteArray.mk s.toArray).extract m s.length)] rfl (src_one rfl rfl (by simp [Value.oneCell'])) (by unfold maxLen; omega) (by omega) (by have := hb.size; simp; omega) ?_; intro v' w2 hown hg _)
      rw [extract_from] at hown
      go_ret
      exact ⟨_, rfl, by rw [Hc.out]; exact Own.snoc hown, Bapp (hb.alloc hb.size _) (ho.alloc _) hg (Nat.le_refl _) (by have := hb.size; simp; omega)⟩

theorem inInts_any (n : Int) (v : Value) (l : List Int) (w : World) (hl : IntsAt w v l) :
    Calls Tryz.prog 41 #[.int .i64 n, v] w fun e w' => e = .returned (.bool (decide (n ∈ l))) ∧ Below w.heap.size w w' := by
  obtain ⟨a, c, b, o, rfl, ha, hc, hcm, hx⟩ := hl
  unfold maxLen at hcm
  go_enter Tryz.func41, Tryz.ntmps41
  go_wp2_with fail
  go_loopw [5] (fun i wr => ∃ k : Nat, k ≤ l.length ∧ i = .int .i64 k ∧ Hid (∀ j < k, l[j]? ≠ some n) ∧ Below w.heap.size w wr) (fun i _ => l.length - (intOf i).toNat)
  case atStart => exact ⟨0, by omega, rfl, fun j hj => absurd hj (by omega), Below.refl _ _⟩
  case round =>
    obtain ⟨k, hk, rfl, hj, hb⟩ := hrel
    by_cases hlt : k < l.length
    · obtain ⟨x, hxk⟩ := get_ex hlt
      have c1 := hx k x hxk 0 _ rfl
      have c1 := (hb.cell (World.block_lt_of_cell? w _ c1)).trans c1
      have i1 := idx_at (c := c) 1 Tryz.underlying55 szInt ha k hlt
      have hk1 : (k : Int) < (l.length : Int) := by omega
      simp only [Nat.mul_one, Nat.add_zero] at c1 i1
      have Hx := Lib.hid hxk; clear hxk
      go_wp2_with fail
      · have he : x = n := by simpa using ‹(x == n) = true›
        go_ret
        exact ⟨ret_bool (decide_eq_true (by rw [← he]; exact List.mem_of_getElem? Hx.out)).symm, hb⟩
      · have hne' : x ≠ n := by simpa using ‹(x == n) = false›
        go_roundw
        case rel => exact ⟨k + 1, by omega, by go_num, (fun j hj' => by
          rcases Nat.lt_or_ge j k with h | h
          · exact hj.out j h
          · obtain rfl : j = k := by omega
            rw [Hx.out]; exact fun e => hne' (Option.some.inj e)), hb⟩
        case measure => simp [intOf]; omega
    · obtain rfl : k = l.length := by omega
      go_wp2_with fail
      go_ret
      refine ⟨ret_bool (decide_eq_false fun e => ?_).symm, hb⟩
      obtain ⟨j, hjl, hje⟩ := List.getElem_of_mem e
      exact hj.out j hjl (by simp [hjl, hje])

set_option maxRecDepth 20000 in
theorem idsText_any (v : Value) (l : List Int) (w : World) (hn : metaCheck l = .nil) (hl : IntsAt w v l) :
    Calls Tryz.prog 33 #[v] w fun e w' => e = .returned (S (metaText l)) ∧ Below w.heap.size w w' := by
  obtain ⟨a, c, b, o, rfl, ha, hc, hcm, hx⟩ := hl
  unfold maxLen at hcm
  have hr := metaCheck_nil hn
  have Hr := Lib.hid hr; clear hr hn
  go_enter Tryz.func33, Tryz.ntmps33
  go_wp2_with fail
  go_loopw [3, 4] (fun s i wr => ∃ k : Nat, k ≤ l.length ∧ i = .int .i64 k ∧ s = S ([109, 101, 116, 97] ++ idsTail (l.take k)) ∧ Below w.heap.size w wr) (fun _ i _ => l.length - (intOf i).toNat)
  case atStart => exact ⟨0, by omega, rfl, rfl, Below.refl _ _⟩
  case round =>
    obtain ⟨k, hk, rfl, rfl, hb⟩ := hrel
    by_cases hlt : k < l.length
    · obtain ⟨x, hxk⟩ := get_ex hlt
      have c1 := hx k x hxk 0 _ rfl
      have c1 := (hb.cell (World.block_lt_of_cell? w _ c1)).trans c1
      have i1 := idx_at (c := c) 1 Tryz.underlying55 szInt ha k hlt
      have hk1 : (k : Int) < (l.length : Int) := by omega
      simp only [Nat.mul_one, Nat.add_zero] at c1 i1
      have hxr := Hr.out.2.2 k x hxk
      have h1 : 1 ≤ x := hxr.1
      have h2 : x ≤ 1073741824 := hxr.2.1
      have hsn := take_snoc' hxk
      have hl1 := itoa_len x (by omega) (by omega)
      have hl2 := idsTail_len (l.take k) (fun y hy => by
        obtain ⟨j, hj, he⟩ := List.getElem_of_mem (List.mem_of_mem_take hy)
        have := Hr.out.2.2 j y (by simp [hj, he])
        exact ⟨this.1, this.2.1⟩)
      have hl3 : (l.take k).length ≤ 40 := by have := Hr.out.2.1; rw [List.length_take]; omega
      have hl4 : (idsTail (l.take k)).length ≤ 880 := by omega
      clear hl2 hl3
      have Hx := Lib.hid hsn; clear hsn hxk hxr
      go_wp2_with fail
      refine (decimal_any x _ (by omega) (by omega)).mono ?_
      rintro e w2 ⟨rfl, hb2⟩
      go_wp2_with fail
      go_roundw
      case rel => exact ⟨k + 1, by omega, by go_num, by rw [Hx.out, idsTail_snoc]; simp, hb.trans (hb2.mono hb.size)⟩
      case measure => simp [intOf]; omega
    · obtain rfl : k = l.length := by omega
      have hl2 := idsTail_len l (fun y hy => by
        obtain ⟨j, hj, he⟩ := List.getElem_of_mem hy
        have := Hr.out.2.2 j y (by simp [hj, he])
        exact ⟨this.1, this.2.1⟩)
      have hl3 : l.length ≤ 40 := Hr.out.2.1
      have hl4 : (idsTail l).length ≤ 880 := by omega
      clear hl2
      rw [List.take_length]
      go_wp2_with fail
      go_ret
      exact ⟨by simp [metaText], hb⟩
end Go.Proofs.YtepdedfmdafnkaaGreatDoor
