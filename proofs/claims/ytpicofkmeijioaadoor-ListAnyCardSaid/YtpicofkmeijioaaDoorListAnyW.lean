/- deedboxlaw2.ListAny: the walk. -/
import Derived.Test.YtpicofkmeijioaaDoorListed
import Derived.Test.YtpicofkmeijioaaDoorFlE
namespace Go.Proofs.YtpicofkmeijioaaDoor
open Go.RowKit

theorem drop_at {l : List Fl} {k : Nat} {x : Fl} (h : l[k]? = some x) : l.drop k = x :: l.drop (k + 1) := by
  obtain ⟨h1, rfl⟩ := List.getElem?_eq_some_iff.1 h
  exact List.drop_eq_getElem_cons h1

set_option maxHeartbeats 1000000 in
set_option maxRecDepth 20000 in
theorem listAny_any (E : Nat → Addr) (B : Nat) (v : Value) (l : List Fl) (n : Int) (w : World) (hE : Errs [2, 4, 5, 6, 7, 8, 9] E B w) (hT : LNum B w) (hM : LMax B w) (hl : FilesAt w v l) (hn1 : n ≤ 9223372036854775807) :
    Calls Tryd.prog 3 #[v, .int .i64 n] w fun e w' => e = .returned (.bool true) ∧ Below w.heap.size w w' := by
  have hBw := hE.le
  have hif := isIfaceE
  obtain ⟨a, c, b, o, rfl, ha, hc, hcm, hx⟩ := hl
  have hl : FilesAt w (.slice a l.length c) l := ⟨a, c, b, o, rfl, ha, hc, hcm, hx⟩
  unfold maxLen at hcm
  go_enter Tryd.func3, Tryd.ntmps3
  go_wp2_with fail
  refine (listed_any E B w (hE.sub (by decide)) hT hM).mono ?_
  rintro e w1 ⟨rfl, hb1⟩
  have hl1 := hl.below hb1
  have hlong := longFiles_any _ l w1 hl1
  have HLong := Lib.hid hlong; clear hlong
  go_wp2_with fail
  refine HLong.out.mono ?_
  rintro e w2 ⟨he, hb2⟩
  have hb2' := hb1.trans (hb2.mono hb1.size)
  rcases he with rfl | ⟨rfl, hlen, hsh⟩
  · go_wp2_with fail
    go_ret
    exact ⟨rfl, hb2'⟩
  by_cases hn0 : n < 0
  · go_wp2_with fail
    go_ret
    exact ⟨rfl, hb2'⟩
  have hn0' : 0 ≤ n := by omega
  obtain ⟨m, rfl⟩ : ∃ m : Nat, n = m := ⟨n.toNat, by omega⟩
  have g0 : decide ((m : Int) < 0) = false := by simp
  have hl2 := hl.below hb2'
  clear hn0 hn0'
  go_wp2_with fail
  refine (ownFiles_any _ l _ hl2 (by omega)).mono ?_
  rintro e w3 ⟨v3, rfl, hown, hb3⟩
  have hb3' := hb2'.trans (hb3.mono hb2'.size)
  have ho3 := hown.at encF_enc
  clear hown hb1 hb2 hb3
  have HS := Lib.hid hsh; clear hsh
  go_wp2_with fail
  refine (listCheck_any E B _ l _ ((hE.sub (by decide)).below' hb3' hBw) (hT.below' hb3' hBw) (hM.below' hb3' hBw) ho3 HS.out).mono ?_
  rintro e w4 ⟨ev, rfl, hev, hb4⟩
  have hb4' := hb3'.trans (hb4.mono hb3'.size)
  by_cases hck : listCheck l = .nil
  case neg =>
    obtain ⟨u, x, rfl⟩ := hev.iface hck
    clear hev hck
    go_wp2_with fail
    go_ret
    exact ⟨rfl, hb4'⟩
  rw [hck] at hev
  obtain rfl : ev = .nilIface := hev
  have HR := Lib.hid ((right_iff l).1 hck); clear hck
  have ho4 := ho3.below hb4
  clear ho3 hl1 hl2 hb2'
  go_wp2_with fail
  go_loopw [7, 8] (fun u i wr => ∃ k : Nat, k ≤ l.length ∧ i = .int .i64 ((k : Int) - 1) ∧ Hid (FilesAt wr u (l.drop k)) ∧ Below w4.heap.size w4 wr) (fun _ i _ => (intOf i + 1).toNat)
  case atStart => exact ⟨l.length, Nat.le_refl _, rfl, Lib.hid (by rw [List.drop_length]; exact At.nil _ _ _), Below.refl _ _⟩
  case round =>
    obtain ⟨k, hk, rfl, hat, hbl⟩ := hrel
    have hb := hb4'.trans (hbl.mono hb4'.size)
    cases k with
    | succ j =>
      have e : (((j + 1 : Nat) : Int) - 1) = (j : Int) := by omega
      rw [e]
      clear e
      obtain ⟨x, hxk⟩ := get_ex (l := l) (k := j) (by omega)
      obtain ⟨c0, c1, c2, c3, c4, c5⟩ := flCells hx hb hxk
      have i1 := idx_at (c := c) 6 Tryd.underlying22 szFl ha j (by omega)
      have hd := drop_at hxk
      have hrt := HR.out.drop j
      rw [hd] at hrt
      obtain ⟨ha1, ha2⟩ := add_head hrt
      have hsx := HS.out x (List.mem_of_getElem? hxk)
      have hA := listAdd_any E B _ (l.drop (j + 1)) x _ ((hE.sub (by decide)).below' hb hBw) (hT.below' hb hBw) (hM.below' hb hBw) hat.out (fun y hy => HS.out y (List.mem_of_mem_drop hy)) hsx (by rw [List.length_drop]; omega)
      rw [ha1, ha2, ← hd] at hA
      have HA := Lib.hid hA; clear hA ha1 ha2 hrt hd hxk
      have hj0 : (0 : Int) ≤ (j : Int) := by omega
      have hj1 : (j : Int) < (l.length : Int) := by omega
      go_wp2_with fail
      refine HA.out.mono ?_
      rintro e w5 ⟨u5, ev, rfl, hu5, hev, hb5⟩
      obtain rfl : ev = .nilIface := hev
      have HU := Lib.hid hu5; clear hu5
      go_wp2_with fail
      go_roundw
      case rel => exact ⟨j, by omega, by go_num, HU, hbl.trans (hb5.mono hbl.size)⟩
      case measure => simp [intOf]
    | zero =>
      have e : (((0 : Nat) : Int) - 1) = -1 := rfl
      rw [e]
      clear e
      rw [List.drop_zero] at hat
      have hS := sameFiles_any _ _ l l _ hat.out (hl.below hb)
      rw [decide_eq_true rfl] at hS
      have HSm := Lib.hid hS; clear hS
      clear hat
      go_wp2_with fail
      refine HSm.out.mono ?_
      rintro e w5 ⟨rfl, hb5⟩
      have hb5' := hb.trans (hb5.mono hb.size)
      by_cases hml : m < l.length
      case neg =>
        have g1 : (l.length : Int) ≤ (m : Int) := by omega
        go_wp2_with fail
        go_ret
        exact ⟨rfl, hb5'⟩
      have g1 : decide ((l.length : Int) ≤ (m : Int)) = false := by simp; omega
      obtain ⟨x, hxk⟩ := get_ex hml
      obtain ⟨r1, r2, r3, r4, r5⟩ := remove_add HR.out hxk
      have CX := Lib.hid (fun w' (h : Below w.heap.size w w') => flCells hx h hxk)
      obtain ⟨c0, c1, c2, c3, c4, c5⟩ := CX.out w5 hb5'
      have i1 := idx_at (c := c) 6 Tryd.underlying22 szFl ha m hml
      have hsx := HS.out x (List.mem_of_getElem? hxk)
      have g2 : (m : Int) < (l.length : Int) := by omega
      have hbl5 := hbl.trans (hb5.mono hbl.size)
      have ho5 := ho4.below hbl5
      have hrm := listRemove_any E B _ l x.path _ ((hE.sub (by decide)).below' hb5' hBw) (hT.below' hb5' hBw) (hM.below' hb5' hBw) ho5 HS.out
      rw [r1] at hrm
      have HRM := Lib.hid hrm; clear hrm
      obtain ⟨q, hq⟩ : ∃ q, (l.take m ++ l.drop (m + 1)).length = q := ⟨_, rfl⟩
      have hq2 : (q : Int) = (l.length : Int) - 1 := by rw [← hq, List.length_append, List.length_take, List.length_drop]; omega
      have g3 : ((q : Int) != (l.length : Int) - 1) = false := by simp [hq2]
      go_wp2_with fail
      refine HRM.out.mono ?_
      rintro e w6 ⟨u6, ev, rfl, hu6, hev, hb6⟩
      obtain rfl : ev = .nilIface := hev
      have hb6' := hb5'.trans (hb6.mono hb5'.size)
      have hu60 := hu6
      rw [r2] at hu6
      obtain ⟨a6, c6, hv6, -, -⟩ := hu6.form'
      rw [hq] at hv6
      subst hv6
      clear hq hq2 hu6
      have hfv := findV_none r3
      have hfd := fun W (h : Below w6.heap.size w6 W) => listFind_any _ (removeL l x.path) x.path W (hu60.below h)
      rw [hfv] at hfd
      have HFD := Lib.hid hfd; clear hfd hfv
      have HU6 := Lib.hid hu60; clear hu60
      clear c0 c1 c2 c3 c4 c5
      obtain ⟨c0, c1, c2, c3, c4, c5⟩ := CX.out w6 hb6'
      go_wp2_with fail
      refine (HFD.out w6 (Below.refl _ _)).mono ?_
      rintro e w7 ⟨rfl, hb7⟩
      have hb7' := hb6'.trans (hb7.mono hb6'.size)
      have hA := listAdd_any E B _ (removeL l x.path) x _ ((hE.sub (by decide)).below' hb7' hBw) (hT.below' hb7' hBw) (hM.below' hb7' hBw) (HU6.out.below hb7) (fun y hy => HS.out y (by
        rw [r2] at hy
        rcases List.mem_append.1 hy with h | h
        · exact List.mem_of_mem_take h
        · exact List.mem_of_mem_drop h)) hsx (by rw [r2, List.length_append, List.length_take, List.length_drop]; omega)
      rw [r4, r5] at hA
      have HA := Lib.hid hA; clear hA r1 r2 r3 r4 r5
      clear c0 c1 c2 c3 c4 c5
      obtain ⟨c0, c1, c2, c3, c4, c5⟩ := CX.out w7 hb7'
      go_wp2_with fail
      refine HA.out.mono ?_
      rintro e w8 ⟨u8, ev, rfl, hu8, hev, hb8⟩
      obtain rfl : ev = .nilIface := hev
      have hb8' := hb7'.trans (hb8.mono hb7'.size)
      have hS := sameFiles_any _ _ l l _ hu8 (hl.below hb8')
      rw [decide_eq_true rfl] at hS
      have HSm := Lib.hid hS; clear hS hu8
      go_wp2_with fail
      refine HSm.out.mono ?_
      rintro e w9 ⟨rfl, hb9⟩
      go_wp2_with fail
      go_ret
      exact ⟨rfl, hb8'.trans (hb9.mono hb8'.size)⟩
end Go.Proofs.YtpicofkmeijioaaDoor
