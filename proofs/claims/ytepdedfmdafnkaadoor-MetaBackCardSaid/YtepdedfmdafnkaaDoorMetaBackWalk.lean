/- deedboxlaw2.MetaBack: the walk. -/
import Derived.Test.YtepdedfmdafnkaaDoorMetaPlain
namespace Go.Proofs.YtepdedfmdafnkaaDoor
open Go.RowKit

theorem two_at (w : World) (t : TypeId) (H : Nat) (hH : w.heap.size = H) (x y : Int) : IntsAt (w.alloc (.cells #[.int .i64 x, .int .i64 y] t)) (.slice (some ⟨H, 0, none⟩) 2 2) [x, y] := by
  subst hH
  refine ⟨_, _, w.heap.size, 0, rfl, fun _ => rfl, Nat.le_refl 2, (by decide : 2 ≤ maxLen), fun k z hk j u hu => ?_⟩
  obtain rfl : j = 0 := by
    rcases Nat.eq_zero_or_pos j with h | h
    · exact h
    · rw [List.getElem?_eq_none (by simp; omega)] at hu; cases hu
  obtain rfl : .int .i64 z = u := by simpa using hu
  have hk' : k < 2 := by
    rcases Nat.lt_or_ge k 2 with h | h
    · exact h
    · rw [List.getElem?_eq_none (by simp; omega)] at hk; cases hk
  have : k = 0 ∨ k = 1 := by omega
  rcases this with rfl | rfl <;> (simp at hk; subst hk; simp)

theorem check15 : metaCheck [1, 5] = .nil := by decide
theorem text15 : metaText [1, 5] = [109, 101, 116, 97, 32, 49, 32, 53, 10] := by
  have h1 : Lib.itoa 1 = [49] := (Lib.itoa_nonneg 1).trans (Lib.decDigits_one (by decide))
  have h5 : Lib.itoa 5 = [53] := (Lib.itoa_nonneg 5).trans (Lib.decDigits_one (by decide))
  simp [metaText, idsTail, h1, h5]

set_option maxRecDepth 20000 in
theorem noted_any (E : Nat → Addr) (B : Nat) (w : World) (hE : Errs [2, 6, 8, 9] E B w) (hT : LNum B w) :
    Calls Tryd.prog 10 #[] w fun e w' => e = .returned (.bool true) ∧ Below w.heap.size w w' := by
  have hif := isIfaceE
  have hts : metaTextR [1, 5] = [109, 101, 116, 97, 32, 49, 32, 53, 10] := (if_pos check15).trans text15
  have Hts := Lib.hid hts; clear hts
  go_enter Tryd.func10, Tryd.ntmps10
  go_wp2_with fail
  have hba := (Below.refl w.heap.size w).alloc (Nat.le_refl _) (.cells #[.int .i64 1, .int .i64 5] 3)
  refine (metaText_any E B _ [1, 5] _ (hE.below' hba hE.le) (hT.below' hba hT.le) (two_at w 3 _ rfl 1 5)).mono ?_
  rintro e w1 ⟨ev, rfl, hev, hb1⟩
  rw [check15] at hev
  obtain rfl : ev = .nilIface := hev
  rw [Hts.out]
  have hb1' : Below w.heap.size w w1 := hba.trans (hb1.mono hba.size)
  clear hba hb1
  go_wp2_with fail
  refine (metaNow_any _ [1, 5] _ (two_at w1 3 _ rfl 1 5)).mono ?_
  rintro e w' ⟨rfl, rfl⟩
  have hn : metaNow [1, 5] = 5 := rfl
  rw [hn]
  go_wp2_with fail
  go_ret
  exact ⟨rfl, hb1'.alloc hb1'.size _⟩

set_option maxHeartbeats 1000000 in
set_option maxRecDepth 20000 in
theorem metaBack_any (E : Nat → Addr) (B : Nat) (v1 v2 : Value) (ids sm : List Int) (id : Int) (w : World) (hE : Errs [1, 2, 6, 8, 9] E B w) (hT : LNum B w) (hM : LMax B w) (hi : IntsAt w v1 ids) (hs : IntsAt w v2 sm) :
    Calls Tryd.prog 4 #[v1, v2, .int .i64 id] w fun e w' => e = .returned (.bool true) ∧ Below w.heap.size w w' := by
  have hif := isIfaceE
  have Hi := Lib.hid hi; have Hs := Lib.hid hs
  have hE4 : Errs [2, 6, 8, 9] E B w := hE.sub (by decide)
  obtain ⟨a1, c1, b1, o1, rfl, -, -, hm1, -⟩ := hi
  obtain ⟨a2, c2, b2, o2, rfl, -, -, hm2, -⟩ := hs
  by_cases h1 : ids.length ≤ 45
  case neg =>
    have g1 : (45 : Int) < (ids.length : Int) := by omega
    go_enter Tryd.func4, Tryd.ntmps4
    go_wp2_with fail
    refine (noted_any E B _ hE4 hT).mono ?_
    rintro e w1 ⟨rfl, hb1⟩
    go_wp2_with fail
    go_ret
    exact ⟨rfl, hb1⟩
  by_cases h2 : sm.length ≤ 45
  case neg =>
    have g1 : decide ((45 : Int) < (ids.length : Int)) = false := by simp; omega
    have g2 : (45 : Int) < (sm.length : Int) := by omega
    go_enter Tryd.func4, Tryd.ntmps4
    go_wp2_with fail
    refine (noted_any E B _ hE4 hT).mono ?_
    rintro e w1 ⟨rfl, hb1⟩
    go_wp2_with fail
    go_ret
    exact ⟨rfl, hb1⟩
  have g1 : decide ((45 : Int) < (ids.length : Int)) = false := by simp; omega
  have g2 : decide ((45 : Int) < (sm.length : Int)) = false := by simp; omega
  go_enter Tryd.func4, Tryd.ntmps4
  go_wp2_with fail
  refine (noted_any E B _ hE4 hT).mono ?_
  rintro e w1 ⟨rfl, hb1⟩
  go_wp2_with fail
  refine (ownInts_any _ ids _ (Hi.out.below hb1) (by omega)).mono ?_
  rintro e w2 ⟨u1, rfl, hu1, hb2⟩
  have hb2' := hb1.trans (hb2.mono hb1.size)
  clear hb2
  have hu1 : IntsAt w2 u1 ids := hu1.at encI_enc
  go_wp2_with fail
  refine (metaText_any E B _ ids _ (hE4.below' hb2' hE.le) (hT.below' hb2' hT.le) hu1).mono ?_
  rintro e w3 ⟨ev, rfl, hev, hb3⟩
  have hb3' := hb2'.trans (hb3.mono hb2'.size)
  clear hb3 hu1
  by_cases hc : metaCheck ids = .nil
  case neg =>
    have hsp : metaTextR ids = [] := if_neg hc
    rw [hsp]
    obtain ⟨u, x, rfl⟩ := hev.iface hc
    clear hev hc hsp
    go_wp2_with fail
    go_ret
    exact ⟨rfl, hb3'⟩
  rw [hc] at hev
  obtain rfl : ev = .nilIface := hev
  have hsp : metaTextR ids = metaText ids := if_pos hc
  rw [hsp]
  have hlen := metaText_len hc
  have hrd := metaRead_text hc
  have hkp := metaKept_ok (sm := sm) hc
  have Hc := Lib.hid hc; have Hkp := Lib.hid hkp; have Hrd := Lib.hid hrd
  clear hc hsp hkp hrd
  go_wp2_with fail
  refine (metaRead_any E B (metaText ids) _ (hE.below' hb3' hE.le) (hT.below' hb3' hT.le) (hM.below' hb3' hM.le) (by omega)).mono ?_
  unfold MetaReadPost
  rintro e w4 ⟨v4, ev, rfl, hv4, hev, hb4⟩
  rw [Hrd.out] at hv4 hev
  obtain rfl : ev = .nilIface := hev
  have hb4' := hb3'.trans (hb4.mono hb3'.size)
  clear hb4
  have Hv4 := Lib.hid hv4; clear hv4
  go_wp2_with fail
  refine (sameInts_any _ _ ids ids _ Hv4.out (Hi.out.below hb4')).mono ?_
  rintro e w5 ⟨rfl, hb5⟩
  have hb5' := hb4'.trans (hb5.mono hb4'.size)
  clear hb5 Hv4
  have ht : decide (ids = ids) = true := decide_eq_true rfl
  rw [ht]
  clear ht
  go_wp2_with fail
  refine (ownInts_any _ ids _ (Hi.out.below hb5') (by omega)).mono ?_
  rintro e w6 ⟨u1, rfl, hu1, hb6⟩
  have hb6' := hb5'.trans (hb6.mono hb5'.size)
  have hu1 : IntsAt w6 u1 ids := hu1.at encI_enc
  have Hu1 := Lib.hid hu1
  clear hb6 hu1
  go_wp2_with fail
  refine (ownInts_any _ sm _ (Hs.out.below hb6') (by omega)).mono ?_
  rintro e w7 ⟨u2, rfl, hu2, hb7⟩
  have hb7' := hb6'.trans (hb7.mono hb6'.size)
  have hu2 : IntsAt w7 u2 sm := hu2.at encI_enc
  have Hu2 := Lib.hid hu2
  have Hu1' := Lib.hid (Hu1.out.below hb7)
  clear hb7 hu2 Hu1
  go_wp2_with fail
  refine (metaKeep_any E B _ _ ids sm _ (hE4.below' hb7' hE.le) Hu1'.out Hu2.out (by omega) (by omega)).mono ?_
  rintro e w8 ⟨v8, ev, rfl, hv8, hev, hb8⟩
  rw [Hc.out] at hev
  obtain rfl : ev = .nilIface := hev
  have hb8' := hb7'.trans (hb8.mono hb7'.size)
  have Hv8 := Lib.hid hv8
  clear hb8 hv8 Hu1' Hu2
  go_wp2_with fail
  refine (metaCheck_any E B _ (metaKept ids sm) _ (hE4.below' hb8' hE.le) Hv8.out).mono ?_
  rintro e w9 ⟨ev, rfl, hev, hb9⟩
  rw [Hkp.out.1] at hev
  obtain rfl : ev = .nilIface := hev
  have hb9' := hb8'.trans (hb9.mono hb8'.size)
  have Hv9 := Lib.hid (Hv8.out.below hb9)
  clear hb9 Hv8
  go_wp2_with fail
  refine (metaNow_any _ (metaKept ids sm) _ Hv9.out).mono ?_
  rintro e w' ⟨rfl, rfl⟩
  rw [Hkp.out.2]
  go_wp2_with fail
  refine (metaNow_any _ ids _ (Hi.out.below hb9')).mono ?_
  rintro e w' ⟨rfl, rfl⟩
  clear Hv9
  go_wp2_with fail
  refine (ownInts_any _ ids _ (Hi.out.below hb9') (by omega)).mono ?_
  rintro e w10 ⟨u1, rfl, hu1, hb10⟩
  have hb10' := hb9'.trans (hb10.mono hb9'.size)
  have hu1 : IntsAt w10 u1 ids := hu1.at encI_enc
  have Hu1 := Lib.hid hu1
  clear hb10 hu1
  go_wp2_with fail
  refine (metaPush_any E B _ ids id _ (hE4.below' hb10' hE.le) Hu1.out (by omega)).mono ?_
  rintro e w11 ⟨v11, ev, rfl, hv11, hev, hb11⟩
  have hb11' := hb10'.trans (hb11.mono hb10'.size)
  clear hb11 Hu1
  by_cases hp : (metaPush ids id).2 = .nil
  case neg =>
    have hbad := metaPush_bad hp
    rw [hbad] at hv11
    obtain ⟨u, x, rfl⟩ := hev.iface hp
    obtain ⟨a3, c3, b3, o3, rfl, -⟩ := hv11
    clear hev hp hbad
    go_wp2_with fail
    go_ret
    exact ⟨rfl, hb11'⟩
  have hok := metaPush_ok hp
  rw [hp] at hev
  obtain rfl : ev = .nilIface := hev
  rw [hok.1] at hv11
  have Hv := Lib.hid hv11
  obtain ⟨a3, n3, c3, rfl, hn3⟩ : ∃ a n c, v11 = .slice a n c ∧ (n : Int) = (ids.length : Int) + 1 := by
    obtain ⟨a3, c3, b3, o3, rfl, -⟩ := hv11
    exact ⟨_, _, _, rfl, by simp⟩
  clear hv11
  have Hck := Lib.hid hok.2
  have Hnow := Lib.hid (metaNow_snoc ids id)
  clear hp hok
  go_wp2_with fail
  refine (metaNow_any _ (ids ++ [id]) _ Hv.out).mono ?_
  rintro e w' ⟨rfl, rfl⟩
  rw [Hnow.out]
  go_wp2_with fail
  refine (metaCheck_any E B _ (ids ++ [id]) _ (hE4.below' hb11' hE.le) Hv.out).mono ?_
  rintro e w12 ⟨ev, rfl, hev, hb12⟩
  rw [Hck.out] at hev
  obtain rfl : ev = .nilIface := hev
  have hb12' := hb11'.trans (hb12.mono hb11'.size)
  clear hb12
  go_wp2_with fail
  go_ret
  exact ⟨rfl, hb12'⟩
end Go.Proofs.YtepdedfmdafnkaaDoor
