/- deedboxref1.ReadRow: the walk. deedboxref1.SortRows: the walk. deedboxref1's KeysOf, DataOf, ReadData: the walks. Printed by gen_refdata.py. -/
import Derived.Test.YtpfohfihkmjnaaaGreatDoorPk8
import Derived.Test.YtpfohfihkmjnaaaGreatDoorPk10
import Derived.Deep.RegionHeld3
import Derived.Test.YtpfohfihkmjnaaaGreatDoorPk12
import Derived.Test.YtpfohfihkmjnaaaGreatDoorPk9
namespace Go.Proofs.YtpfohfihkmjnaaaGreatDoor
open Go.RowKit
set_option maxHeartbeats 1000000 in
set_option maxRecDepth 20000 in
theorem refReadRow_any (s : Str) (w : World) (hs : s.length ≤ 10000) :
    Calls Tryz.prog 121 #[S s] w fun e w' => e = .returned (.tuple #[rowV (rowRead s).1, .int .i64 ((rowRead s).2 : Nat)]) ∧ Below w.heap.size w w' := by
  have hwl : (cutAt 32 s).length ≤ 10001 := by
    have := cutAt_length 32 s
    have h2 : s.count 32 ≤ s.length := List.count_le_length
    omega
  have hwp : 0 < (cutAt 32 s).length := by rw [cutAt_length]; omega
  have hws : ∀ p ∈ cutAt 32 s, p.length ≤ 10000 := fun p hp => by
    have := cutAt_mem_len (c := 32) hp; omega
  have hba : Below w.heap.size w (w.alloc (.cells #[S [], .int .i64 0, .int .i64 0] 106)) := (Below.refl _ _).alloc (Nat.le_refl _) _
  have hsp := cut32_any s (w.alloc (.cells #[S [], .int .i64 0, .int .i64 0] 106)) (by omega)
  have hcs := fun w6 (h : Below (w.alloc (.cells #[S [], .int .i64 0, .int .i64 0] 106)).heap.size (w.alloc (.cells #[S [], .int .i64 0, .int .i64 0] 106)) w6) => rowCells (r := zeroR) rfl h
  have CZ := Lib.hid hcs; clear hcs
  have hhg := fun w6 (h : Below (w.alloc (.cells #[S [], .int .i64 0, .int .i64 0] 106)).heap.size (w.alloc (.cells #[S [], .int .i64 0, .int .i64 0] 106)) w6) => (h.block w.heap.size (by simp)).trans (heap_alloc_new w (.cells #[S [], .int .i64 0, .int .i64 0] 106))
  have HG := Lib.hid hhg; clear hhg
  by_cases h6 : (cutAt 32 s).length = 3
  case neg =>
    have HF := Lib.hid (rowRead_none (rowOf_len h6))
    have g6 : (((cutAt 32 s).length : Int) != 3) = true := by simp; omega
    clear hws
    go_enter Tryz.func121, Tryz.ntmps121
    go_wp2_with fail
    generalize w.alloc (.cells #[S [], .int .i64 0, .int .i64 0] 106) = w1 at *
    refine hsp.mono ?_
    rintro e w2 ⟨v', rfl, hown, hb2⟩
    have hb2' := hba.trans (hb2.mono hba.size)
    obtain ⟨g', cap, cur, rfl, -⟩ := hown.open hwp
    obtain ⟨c0, c1, c2⟩ := CZ.out _ hb2
    have hg2 := HG.out _ hb2
    have fz : ∀ j, w2.frozen? ⟨w.heap.size, j, none⟩ = false := fun j => frozen_row hg2
    have f0 := fz 0; have f1 := fz 1; have f2 := fz 2
    have HGz := Lib.hid hg2
    clear fz hg2 hown
    generalize cutAt 32 s = W at *
    go_wp2_with fail
    refine bodyPost_ret (ret_row rfl _ _ w.heap.size 106 #[S [], .int .i64 0, .int .i64 0] (0, 0) _ rfl (thr_new HGz.out _ _ _) Tryz.underlying106 rfl (by kernel_rfl)) rfl ⟨?_, thr_below hb2' (Nat.le_refl _) _ _ _⟩
    rw [HF.out]; rfl
  obtain ⟨p, n1, n2, hW⟩ := three_strs h6
  rw [hW] at hsp hws
  have hfo : rowOf (cutAt 32 s) = match numsOf [n1, n2] with | some [n, lo] => some ⟨p, n, lo⟩ | _ => none := by rw [hW]; rfl
  have HFO := Lib.hid hfo; have HWS := Lib.hid hws
  clear hfo hws hW h6 hwl hwp
  go_enter Tryz.func121, Tryz.ntmps121
  go_wp2_with fail
  generalize w.alloc (.cells #[S [], .int .i64 0, .int .i64 0] 106) = w1 at *
  refine hsp.mono ?_
  rintro e w2 ⟨v', rfl, hown, hb2⟩
  have hb2' := hba.trans (hb2.mono hba.size)
  obtain ⟨a', c', b', o', hv', ha', hc', hcm', hx'⟩ := hown.at encS_enc
  subst hv'
  obtain rfl := ha' (by simp)
  obtain ⟨b3, o3, c3, hrun, hat3⟩ := slice_from (enc := encS) (sz := 1) Tryz.underlying39 szStr ha' hc' hcm' hx' 1 (by simp) (by simp)
  have x0 := hx' 0 _ rfl 0 _ rfl
  simp only [List.length_cons, List.length_nil, Nat.zero_add, Nat.reduceAdd, Nat.reduceSub, Nat.mul_one, Nat.add_zero, List.drop_succ_cons, List.drop_zero] at hrun hat3 x0
  have e2 : ((1 : Nat) : Int) = 1 := rfl
  rw [e2] at hrun
  clear ha' hx' hown hcm' e2 hsp
  have hl6 : [p, n1, n2].length = 3 := rfl
  rw [hl6] at hc' ⊢
  go_wp2_with fail
  refine (numbersOf_any _ [n1, n2] _ hat3 (by simp) (fun x hx => by have := HWS.out x (by simp at hx ⊢; rcases hx with h | h <;> simp [h]); omega)).mono ?_
  rintro e w3 ⟨v', rfl, hv1, hv2, hb3⟩
  have hb31 := hb2.trans (hb3.mono hb2.size)
  have hb3' := hb2'.trans (hb3.mono hb2'.size)
  have y0 := (hb3.cell (World.block_lt_of_cell? w2 _ x0)).trans x0
  clear hrun hat3 x0 hl6
  cases hn : numsOf [n1, n2] with
  | none =>
    rw [hn] at hv2
    obtain rfl := hv2 rfl
    have HF := Lib.hid (rowRead_none (s := s) (by rw [HFO.out, hn]))
    clear hn hv1 hv2
    simp only [Option.isSome_none]
    obtain ⟨c0, c1, c2⟩ := CZ.out _ hb31
    have hg2 := HG.out _ hb31
    have fz : ∀ j, w3.frozen? ⟨w.heap.size, j, none⟩ = false := fun j => frozen_row hg2
    have f0 := fz 0; have f1 := fz 1; have f2 := fz 2
    have HGz := Lib.hid hg2
    clear fz hg2
    go_wp2_with fail
    refine bodyPost_ret (ret_row rfl _ _ w.heap.size 106 #[S [], .int .i64 0, .int .i64 0] (0, 0) _ rfl (thr_new HGz.out _ _ _) Tryz.underlying106 rfl (by kernel_rfl)) rfl ⟨?_, thr_below hb3' (Nat.le_refl _) _ _ _⟩
    rw [HF.out]; rfl
  | some ns =>
    have hown := hv1 ns hn
    have hnl := mapM_len _ hn
    obtain ⟨m1, m2, rfl⟩ := two_ints (l := ns) (by simpa using hnl)
    have HF := Lib.hid (rowRead_some (s := s) (r := ⟨p, m1, m2⟩) (by rw [HFO.out, hn]))
    clear hn hv1 hv2 hnl
    simp only [Option.isSome_some]
    obtain ⟨a4, c4, b4, o4, hv4, ha4, hc4, hcm4, hx4⟩ := hown.at encI_enc
    subst hv4
    obtain rfl := ha4 (by simp)
    have z0 := hx4 0 _ rfl 0 _ rfl
    have z1 := hx4 1 _ rfl 0 _ rfl
    simp only [Nat.mul_one, Nat.add_zero] at z0 z1
    have hl4 : [m1, m2].length = 2 := rfl
    rw [hl4]
    clear hx4 hown ha4 hc4 hcm4 hl4
    have hks := fun w6 (h : Below w3.heap.size w3 w6) => (⟨(h.cell (World.block_lt_of_cell? w3 _ y0)).trans y0, (h.cell (World.block_lt_of_cell? w3 _ z0)).trans z0, (h.cell (World.block_lt_of_cell? w3 _ z1)).trans z1⟩ : _ ∧ _ ∧ _)
    have KS := Lib.hid hks; clear hks
    go_wp2_with fail
    go_region_held3 (fun w' => w'.cell? ⟨b', o', none⟩ = some (S p) ∧ w'.cell? ⟨b4, o4, none⟩ = some (.int .i64 m1) ∧ w'.cell? ⟨b4, o4 + 1, none⟩ = some (.int .i64 m2)) (first | exact ⟨y0, z0, z1⟩ | exact KS.out _ (((Below.refl _ _).alloc (Nat.le_refl _) _).drew) | exact KS.out _ ((Below.refl _ _).drew.alloc (Nat.le_refl _) _)) (fail)
    have hb4 : Below w3.heap.size w3 (w3.alloc (.cells #[S p, .int .i64 m1, .int .i64 m2] 106)).drew := ((Below.refl _ _).alloc (Nat.le_refl _) _).drew
    have CF := Lib.hid (fun w6 (h : Below (w3.alloc (.cells #[S p, .int .i64 m1, .int .i64 m2] 106)).heap.size (w3.alloc (.cells #[S p, .int .i64 m1, .int .i64 m2] 106)).drew w6) => rowCells (r := ⟨p, m1, m2⟩) rfl (((Below.refl _ _).drew).trans h))
    have hsz : (w3.alloc (.cells #[S p, .int .i64 m1, .int .i64 m2] 106)).heap.size = (w3.alloc (.cells #[S p, .int .i64 m1, .int .i64 m2] 106)).drew.heap.size := rfl
    rw [hsz] at CF
    generalize (w3.alloc (.cells #[S p, .int .i64 m1, .int .i64 m2] 106)).drew = w4 at *
    have hb4' := hb3'.trans (hb4.mono hb3'.size)
    have hb41 := hb31.trans (hb4.mono hb31.size)
    obtain ⟨c0, c1, c2⟩ := CF.out w4 (Below.refl _ _)
    clear y0 z0 z1 hsz
    go_wp2_with fail
    refine (rowError_any ⟨p, m1, m2⟩ _ (by have := HWS.out p (by simp); show p.length ≤ _; omega)).mono ?_
    rintro e w5 ⟨rfl, hb5⟩
    have hb5' := hb4'.trans (hb5.mono hb4'.size)
    have hb51 := hb41.trans (hb5.mono hb41.size)
    have hg2 := HG.out _ hb51
    have fz : ∀ j, w5.frozen? ⟨w.heap.size, j, none⟩ = false := fun j => frozen_row hg2
    have f0 := fz 0; have f1 := fz 1; have f2 := fz 2
    have HGz := Lib.hid hg2
    obtain ⟨d0, d1, d2⟩ := CZ.out _ hb51
    clear c0 c1 c2 fz hg2
    obtain ⟨c0, c1, c2⟩ := CF.out w5 hb5
    by_cases hck : rowCheck ⟨p, m1, m2⟩ = 0
    case neg =>
      have HR : Hid (rowRead s = (zeroR, rowCheck ⟨p, m1, m2⟩)) := Lib.hid (by rw [HF.out, if_neg hck])
      have g1 : (0 : Int) < ((rowCheck ⟨p, m1, m2⟩ : Nat) : Int) := by omega
      clear hck
      generalize rowCheck ⟨p, m1, m2⟩ = ce at *
      go_wp2_with fail
      refine bodyPost_ret (ret_row rfl _ _ w.heap.size 106 #[S [], .int .i64 0, .int .i64 0] (0, 0) _ rfl (thr_new HGz.out _ _ _) Tryz.underlying106 rfl (by kernel_rfl)) rfl ⟨?_, thr_below hb5' (Nat.le_refl _) _ _ _⟩
      rw [HR.out]; rfl
    have HR : Hid (rowRead s = (⟨p, m1, m2⟩, 0)) := Lib.hid (by rw [HF.out, if_pos hck])
    rw [hck]
    clear hck
    go_wp2_with fail
    refine bodyPost_ret (ret_row rfl _ _ w.heap.size 106 #[S p, .int .i64 m1, .int .i64 m2] (0, 0) _ rfl (thr_new HGz.out _ _ _) Tryz.underlying106 rfl (by kernel_rfl)) rfl ⟨?_, thr_below hb5' (Nat.le_refl _) _ _ _⟩
    rw [HR.out]; rfl
end Go.Proofs.YtpfohfihkmjnaaaGreatDoor
namespace Go.Proofs.YtpfohfihkmjnaaaGreatDoor
open Go.RowKit
theorem insR_from {x : Rw} {l : List Rw} {p : Nat} (hu : upR l) (hp : p ≤ l.length) (h1 : ∀ (j : Nat) (y : Rw), p ≤ j → l[j]? = some y → lessR x y = true) (h2 : ∀ y, 0 < p → l[p - 1]? = some y → lessR x y = false) : insR x l = l.take p ++ x :: l.drop p := by
  refine insR_at hp (fun j hj y hy => ?_) (fun y hy => h1 p y (Nat.le_refl _) hy)
  obtain ⟨z, hz⟩ := get_ex (l := l) (k := p - 1) (by omega)
  have hxz := h2 z (by omega) hz
  rcases Nat.lt_or_ge j (p - 1) with h | h
  · have hyz : lessR z y = false := by
      have e := List.pairwise_iff_getElem.1 hu j (p - 1) (List.getElem?_eq_some_iff.1 hy).1 (List.getElem?_eq_some_iff.1 hz).1 h
      rw [(List.getElem?_eq_some_iff.1 hy).2, (List.getElem?_eq_some_iff.1 hz).2] at e
      exact e
    cases hxy : lessR x y with
    | false => rfl
    | true =>
      have := le_trans' hyz hxz
      rw [hxy] at this; cases this
  · obtain rfl : j = p - 1 := by omega
    rw [hz] at hy; cases hy; exact hxz
set_option maxHeartbeats 2000000 in
set_option maxRecDepth 20000 in
theorem refSortRows_any (v : Value) (l : List Rw) (w : World) (hl : RowsAt w v l) (hn : l.length ≤ 10000) :
    Calls Tryz.prog 72 #[v] w fun e w' => ∃ v', e = .returned v' ∧ RowsAt w' v' (sortR l) ∧ Below w.heap.size w w' := by
  obtain ⟨a, c, b, o, rfl, ha, hc, hcm, hx⟩ := hl
  unfold maxLen at hcm
  go_enter Tryz.func72, Tryz.ntmps72
  go_wp2_with fail
  go_loopw [3, 4] (fun u i wr => ∃ (k : Nat) (q : List Rw), k ≤ l.length ∧ i = .int .i64 k ∧ Hid (q = sortR (l.take k)) ∧ q.length = k ∧ RowsAt wr u q ∧ Below w.heap.size w wr) (fun _ i _ => l.length - (intOf i).toNat)
  case atStart => exact ⟨0, [], by omega, rfl, Lib.hid rfl, rfl, At.nil _ _ _, Below.refl _ _⟩
  case round =>
    obtain ⟨k, q, hk, rfl, hq, hql, hu, hb⟩ := hrel
    obtain ⟨wo, rfl⟩ : ∃ wo, wo = wr := ⟨wr, rfl⟩
    by_cases hlt : k < l.length
    case neg =>
      obtain rfl : k = l.length := by omega
      have f : decide ((l.length : Int) < (l.length : Int)) = false := by simp
      have HE : Hid (q = sortR l) := Lib.hid (by rw [hq.out, List.take_length])
      clear hql
      go_wp2_with fail
      go_ret
      exact ⟨_, rfl, by rw [← HE.out]; exact hu, hb⟩
    obtain ⟨x, hxk⟩ := get_ex hlt
    have CX := Lib.hid (fun W (h : Below w.heap.size w W) => rwCells hx h hxk)
    have i1 := idx_at (c := c) 3 Tryz.underlying44 szRw ha k hlt
    have hk1 : (k : Int) < (l.length : Int) := by omega
    have hup : upR q := by rw [hq.out]; exact sort_up _
    have HQ2 : Hid (sortR (l.take (k + 1)) = insR x q) := Lib.hid (by rw [take_snoc' hxk, sort_snoc, hq.out])
    have HUp := Lib.hid hup
    have HU := Lib.hid hu
    obtain ⟨au, cu, bu, ou, rfl, hau, hcu, hcmu, hxu⟩ := hu
    unfold maxLen at hcmu
    rw [hql] at hau hcu ⊢
    have Hql := Lib.hid hql
    clear hq hup hxk hql
    go_upto_block 2 with fail
    go_cut [5] (fun u wx => ∃ p : Nat, u = .int .i64 p ∧ p ≤ k ∧ (∀ (j : Nat) (y : Rw), p ≤ j → q[j]? = some y → lessR x y = true) ∧ (∀ y, 0 < p → q[p - 1]? = some y → lessR x y = false) ∧ Below wo.heap.size wo wx)
    case first =>
      go_wp2_with fail
      go_loopw [5] (fun u wx => ∃ p : Nat, u = .int .i64 p ∧ p ≤ k ∧ Hid (∀ (j : Nat) (y : Rw), p ≤ j → q[j]? = some y → lessR x y = true) ∧ Below wo.heap.size wo wx) (fun i _ => (intOf i).toNat)
      case atStart => exact ⟨k, rfl, Nat.le_refl _, Lib.hid fun j y hj hy => absurd (List.getElem?_eq_some_iff.1 hy).1 (by have := Hql.out; omega), Below.refl _ _⟩
      case round =>
        obtain ⟨p, rfl, hp, hj, hbx⟩ := hrel
        by_cases hp0 : p = 0
        · subst hp0
          go_wp2_with fail
          go_meet
          exact ⟨0, rfl, by omega, hj.out, fun y h => absurd h (by omega), hbx⟩
        have hp1 : (0 : Int) < p := by omega
        obtain ⟨y, hyp⟩ := get_ex (l := q) (k := p - 1) (by have := Hql.out; omega)
        have hcast : ((p - 1 : Nat) : Int) = (p : Int) - 1 := by omega
        have i2 := idx_at (c := cu) 3 Tryz.underlying44 szRw hau (p - 1) (by omega)
        simp only [hcast] at i2
        have hwk : IntKind.i64.wrap ((p : Int) - 1) = (p : Int) - 1 := by rw [IntKind.wrap_i64]; omega
        have hp2 : (0 : Int) ≤ (p : Int) - 1 := by omega
        have hp3 : (1 : Int) ≤ (p : Int) := by omega
        have hbD : Below wo.heap.size wo wr.drew := hbx.drew
        obtain ⟨c0, c1, c2⟩ := CX.out _ (hb.trans (hbD.mono hb.size))
        obtain ⟨d0, d1, d2⟩ := rwCells hxu hbD hyp
        have hC := fun W => isLess_any x y W
        have HY := Lib.hid hyp
        clear hyp hcast hp0
        cases hls : lessR x y with
        | true =>
          rw [hls] at hC
          have HC := Lib.hid hC; have HLs := Lib.hid hls
          clear hC hls
          go_wp2_with fail
          go_region_held3 (fun w' => w'.cell? ⟨b, o + k * 3, none⟩ = some (S x.part) ∧ w'.cell? ⟨b, o + k * 3 + 1, none⟩ = some (.int .i64 x.key) ∧ w'.cell? ⟨b, o + k * 3 + 2, none⟩ = some (.int .i64 x.val) ∧ w'.cell? ⟨bu, ou + (p - 1) * 3, none⟩ = some (S y.part) ∧ w'.cell? ⟨bu, ou + (p - 1) * 3 + 1, none⟩ = some (.int .i64 y.key) ∧ w'.cell? ⟨bu, ou + (p - 1) * 3 + 2, none⟩ = some (.int .i64 y.val)) (exact ⟨c0, c1, c2, d0, d1, d2⟩) ((go_at_call 116; (with_reducible refine (HC.out _).mono ?_); rintro e w2 ⟨rfl, hb2⟩; have hb2' := hbD.trans (hb2.mono hbD.size); clear c0 c1 c2 d0 d1 d2; obtain ⟨c0, c1, c2⟩ := CX.out _ (hb.trans (hb2'.mono hb.size)); obtain ⟨d0, d1, d2⟩ := rwCells hxu hb2' HY.out))
          all_goals
            go_wp2_with fail
            refine ⟨⟨p - 1, by go_num, by omega, Lib.hid fun j z hj' hz => ?_, hb2'⟩, by simp [intOf]; omega⟩
            rcases Nat.lt_or_ge j p with h | h
            · obtain rfl : j = p - 1 := by omega
              rw [HY.out] at hz; cases hz; exact HLs.out
            · exact hj.out j z h hz
        | false =>
          rw [hls] at hC
          have HC := Lib.hid hC; have HLs := Lib.hid hls
          clear hC hls
          go_wp2_with fail
          go_region_held3 (fun w' => w'.cell? ⟨b, o + k * 3, none⟩ = some (S x.part) ∧ w'.cell? ⟨b, o + k * 3 + 1, none⟩ = some (.int .i64 x.key) ∧ w'.cell? ⟨b, o + k * 3 + 2, none⟩ = some (.int .i64 x.val) ∧ w'.cell? ⟨bu, ou + (p - 1) * 3, none⟩ = some (S y.part) ∧ w'.cell? ⟨bu, ou + (p - 1) * 3 + 1, none⟩ = some (.int .i64 y.key) ∧ w'.cell? ⟨bu, ou + (p - 1) * 3 + 2, none⟩ = some (.int .i64 y.val)) (exact ⟨c0, c1, c2, d0, d1, d2⟩) ((go_at_call 116; (with_reducible refine (HC.out _).mono ?_); rintro e w2 ⟨rfl, hb2⟩; have hb2' := hbD.trans (hb2.mono hbD.size); clear c0 c1 c2 d0 d1 d2; obtain ⟨c0, c1, c2⟩ := CX.out _ (hb.trans (hb2'.mono hb.size)); obtain ⟨d0, d1, d2⟩ := rwCells hxu hb2' HY.out))
          all_goals
            go_wp2_with fail
            go_meet
            refine ⟨p, rfl, hp, hj.out, fun z _ hz => ?_, hb2'⟩
            rw [HY.out] at hz; cases hz; exact HLs.out
    case rest =>
      obtain ⟨p, rfl, hp, h1, h2, hbx⟩ := hcut
      have HIns : Hid (insR x q = q.take p ++ x :: q.drop p) := Lib.hid (insR_from HUp.out (by rw [Hql.out]; exact hp) h1 h2)
      clear h1 h2
      have hbW := hb.trans (hbx.mono hb.size)
      have hU := HU.out
      rw [Hql.out] at hU
      obtain ⟨hs1, hsA⟩ := sl_to (P := Tryz.prog) Tryz.underlying44 szRw HU.out p (by rw [Hql.out]; exact hp)
      obtain ⟨a2, c2, hs2, hsB⟩ := sl_from (P := Tryz.prog) Tryz.underlying44 szRw HU.out p (by rw [Hql.out]; exact hp)
      rw [Hql.out] at hs1 hs2 hsB
      have hlt1 : (q.take p).length = p := by rw [List.length_take, Hql.out]; omega
      have hld1 : (q.drop p).length = k - p := by rw [List.length_drop, Hql.out]
      have hat1 := hsA.below hbx
      have hsrc1 := hat1.src encR_enc (by decide)
      rw [hlt1] at hsrc1
      have HB := Lib.hid (hsB.below hbx)
      have HLT := Lib.hid hlt1; have HLD := Lib.hid hld1
      clear hsA hsB hat1 hlt1 hld1 hU
      go_wp2_with (first
        | (at_builtin; refine wpList_app rfl _ _ _ rfl wc.heap.size elRw (.slice none 0 0) 0 [] rfl (Own.nil encR _ 3 _ _) _ _ _ rfl hsrc1 (by unfold maxLen; omega) (by omega) (Nat.le_refl _) ?_; intro v1 w2 hown1 hg1 _; have hown1' : Own encR 106 3 wc.heap.size w2 v1 (q.take p) := (by unfold Own; rw [HLT.out]; simpa using hown1); have hb2 : Below wc.heap.size wc w2 := (Below.refl _ _).grown hg1 (Nat.le_refl _) (fun k hk => by cases hk); obtain ⟨c0, c1, c2⟩ := CX.out _ (hbW.trans (hb2.mono hbW.size)); clear hown1 hg1 hsrc1)
        | (at_builtin; refine wpList_app rfl _ _ _ rfl wc.heap.size elRw v1 (q.take p).length _ rfl (hown1'.alloc _) (.slice (some ⟨w2.heap.size, 0, none⟩) 1 1) 1 (encR x) rfl (src_one rfl rfl (by simp [Value.oneCell'])) (by rw [HLT.out]; unfold maxLen; omega) (by rw [HLT.out]; omega) (by have := hb2.size; simp; omega) ?_; intro v2 w3 hown2 hg2 _; have hown2' := Own.snoc hown2; have hb3 : Below wc.heap.size wc w3 := (Bapp (hb2.alloc hb2.size _) (hown1'.alloc _) hg2 (Nat.le_refl _) (by have := hb2.size; simp; omega)); have hsrc3 := (HB.out.below hb3).src encR_enc (by decide); rw [HLD.out] at hsrc3; have hl3 : (q.take p ++ [x]).length = p + 1 := (by rw [List.length_append, HLT.out]; rfl); have HL3 := Lib.hid hl3; clear hown2 hg2 c0 c1 c2 hl3)
        | (at_builtin; refine wpList_app rfl _ _ _ rfl wc.heap.size elRw v2 (q.take p ++ [x]).length _ rfl hown2' _ _ _ rfl hsrc3 (by rw [HL3.out]; unfold maxLen; omega) (by rw [HL3.out]; omega) hb3.size ?_; intro v3 w4 hown3 hg3 _))
      have hown3' : Own encR 106 3 wc.heap.size w4 v3 (insR x q) := by
        rw [HIns.out, show q.take p ++ x :: q.drop p = (q.take p ++ [x]) ++ q.drop p by simp]
        unfold Own
        rw [List.length_append, List.flatMap_append, HLD.out]
        exact hown3
      have hb4 := Bapp hb3 hown2' hg3 (Nat.le_refl _) hb3.size
      have hbw4 := hbW.trans (hb4.mono hbW.size)
      go_roundw
      case rel => exact ⟨k + 1, insR x q, by omega, by go_num, Lib.hid HQ2.out.symm, by rw [(insR_perm x q).length_eq, List.length_cons, Hql.out], hown3'.at encR_enc, hbw4⟩
      case measure => simp [intOf]; omega
end Go.Proofs.YtpfohfihkmjnaaaGreatDoor
namespace Go.Proofs.YtpfohfihkmjnaaaGreatDoor
open Go.RowKit
set_option maxHeartbeats 2000000 in
set_option maxRecDepth 20000 in
theorem refKeys_any (v : Value) (l : List Rw) (w : World) (hl : RowsAt w v l) (hn : l.length ≤ 100000) :
    Calls Tryz.prog 75 #[v] w fun e w' => ∃ u, e = .returned u ∧ Own encI 3 1 w.heap.size w' u (keysR l) ∧ Below w.heap.size w w' := by
  obtain ⟨a, c, b, o, rfl, ha, hc, hcm, hx⟩ := hl
  unfold maxLen at hcm
  have HX := Lib.hid hx
  clear hx
  go_enter Tryz.func75, Tryz.ntmps75
  go_wp2_with fail
  go_loopw [3, 4] (fun u i wr => ∃ (k : Nat) (va : Value), k ≤ l.length ∧ i = .int .i64 k ∧ va = u ∧ Own encI 3 1 w.heap.size wr va (keysR (l.take k)) ∧ Below w.heap.size w wr) (fun _ i _ => l.length - (intOf i).toNat)
  case atStart => exact ⟨0, _, by omega, rfl, rfl, Own.nil _ _ _ _ _, Below.refl _ _⟩
  case round =>
    obtain ⟨k, va, hk, rfl, rfl, hown, hb⟩ := hrel
    obtain ⟨wo, rfl⟩ : ∃ wo, wo = wr := ⟨wr, rfl⟩
    have HO := Lib.hid hown
    by_cases hlt : k < l.length
    case neg =>
      obtain rfl : k = l.length := by omega
      have f : decide ((l.length : Int) < (l.length : Int)) = false := by simp
      clear hown
      go_wp2_with fail
      go_ret
      exact ⟨_, rfl, by have := HO.out; rwa [List.take_length] at this, hb⟩
    have hk1 : (k : Int) < (l.length : Int) := by omega
    obtain ⟨x, hxk⟩ := get_ex hlt
    obtain ⟨c0, c1, c2⟩ := rwCells HX.out hb hxk
    have i1 := idx_at (c := c) 3 Tryz.underlying44 szRw ha k hlt
    have HSn : Hid (keysR (l.take (k + 1)) = keysR (l.take k) ++ [x.key]) := Lib.hid (by rw [take_snoc' hxk]; simp [keysR])
    have hql : (keysR (l.take k)).length = k := by simp [keysR]; omega
    generalize keysR (l.take k) = q at *
    have HQl := Lib.hid hql
    clear hql hown hxk
    go_wp2_with (at_builtin; refine wpList_app rfl _ _ _ rfl w.heap.size elInt va q.length _ rfl (HO.out.alloc _) (.slice (some ⟨wo.heap.size, 0, none⟩) 1 1) 1 (encI x.key) rfl (src_one rfl rfl (by simp [Value.oneCell'])) (by rw [HQl.out]; unfold maxLen; omega) (by rw [HQl.out]; omega) (by have := hb.size; simp; omega) ?_; intro v5 w5 hown5 hg5 _)
    go_roundw
    case rel => exact ⟨k + 1, _, by omega, by go_num, rfl, by rw [HSn.out]; exact Own.snoc hown5, Bapp (hb.alloc hb.size _) (HO.out.alloc _) hg5 (Nat.le_refl _) (by have := hb.size; simp; omega)⟩
    case measure => simp [intOf]; omega
set_option maxHeartbeats 4000000 in
set_option maxRecDepth 20000 in
theorem dataOf_any (v : Value) (l : List Rw) (w : World) (hl : RowsAt w v l) (hn : l.length ≤ 1000) (hs : ∀ r ∈ l, r.part.length ≤ 100000) :
    Calls Tryz.prog 32 #[v] w fun e w' => e = .returned (.tuple #[S (makeT l), faultOf (makeE l)]) ∧ Below w.heap.size w w' := by
  have hba : Below w.heap.size w (w.alloc (.cells #[.int .i64 0, .int .i64 0] 58)) := (Below.refl w.heap.size w).alloc (Nat.le_refl _) (.cells #[.int .i64 0, .int .i64 0] 58)
  have hG := fun W (h : Below (w.alloc (.cells #[.int .i64 0, .int .i64 0] 58)).heap.size (w.alloc (.cells #[.int .i64 0, .int .i64 0] 58)) W) => ((h.block w.heap.size (by simp)).trans (heap_alloc_new w (.cells #[.int .i64 0, .int .i64 0] 58)))
  have HG := Lib.hid hG; clear hG
  have HSz : Hid ((w.alloc (.cells #[.int .i64 0, .int .i64 0] 58)).heap.size = w.heap.size + 1) := Lib.hid (by simp)
  have HR := Lib.hid (fun W (h : Below w.heap.size w W) => hl.below h)
  obtain ⟨a, c, b, o, rfl, ha, hc, hcm, hx⟩ := hl
  unfold maxLen at hcm
  have HX := Lib.hid hx
  have HS := Lib.hid hs
  clear hx hs
  go_enter Tryz.func32, Tryz.ntmps32
  go_upto_region 1 with fail
  generalize w.alloc (.cells #[.int .i64 0, .int .i64 0] 58) = w0 at *
  have hb0r : Below w0.heap.size w0 w0 := Below.refl _ _
  by_cases h40 : 40 < l.length
  case pos =>
    have g : (40 : Int) < (l.length : Int) := by omega
    have HM := Lib.hid (makeE_full h40)
    have HMt : Hid (makeT l = []) := Lib.hid (makeT_bad (by rw [HM.out]; simp))
    clear h40
    go_wp2_with fail
    refine (refBare_any 8 _).mono ?_
    rintro e wB ⟨rfl, hbB⟩
    have hb0B := (hb0r).trans (hbB.mono (hb0r).size)
    have hbwB := (hba).trans (hbB.mono (hba).size)
    have hg := HG.out _ (hb0B)
    have c0' : wB.cell? ⟨w.heap.size, 0, none⟩ = some (.int .i64 0) := by simp [World.cell?, hg]
    have c1' : wB.cell? ⟨w.heap.size, 1, none⟩ = some (.int .i64 0) := by simp [World.cell?, hg]
    have f0' : wB.frozen? ⟨w.heap.size, 0, none⟩ = false := by simp [World.frozen?, hg]
    have f1' : wB.frozen? ⟨w.heap.size, 1, none⟩ = false := by simp [World.frozen?, hg]
    have HGg := Lib.hid hg; clear hg
    unfold faultV
    go_wp2_with fail
    refine bodyPost_ret (fault_tc (g := w.heap.size) rfl rfl (set_two HGg.out _ _) rfl) rfl ⟨by rw [HMt.out, HM.out]; rfl, ((hbwB).setCell (by simp) _).setCell (by simp) _⟩
  have g : decide ((40 : Int) < (l.length : Int)) = false := by simp; omega
  have hn40 : l.length ≤ 40 := by omega
  have H40 := Lib.hid h40
  clear h40
  go_upto_block 0 with fail
  go_cut [4] (fun u wx => Hid (∀ j < l.length, rowF l j = 0) ∧ Below w0.heap.size w0 wx)
  case first =>
    go_wp2_with fail
    go_loopw [2, 4] (fun r i wr => r = S [] ∧ ∃ k : Nat, k ≤ l.length ∧ i = .int .i64 k ∧ Hid (∀ j < k, rowF l j = 0) ∧ Below w0.heap.size w0 wr) (fun _ i _ => l.length - (intOf i).toNat)
    case atStart => exact ⟨rfl, 0, by omega, rfl, Lib.hid fun j hj => absurd hj (by omega), hb0r⟩
    case round =>
      obtain ⟨rfl, k, hk, rfl, hj, hb⟩ := hrel
      obtain ⟨wo, rfl⟩ : ∃ wo, wo = wr := ⟨wr, rfl⟩
      have hbwo := hba.trans (hb.mono hba.size)
      by_cases hlt : k < l.length
      case neg =>
        obtain rfl : k = l.length := by omega
        have f : decide ((l.length : Int) < (l.length : Int)) = false := by simp
        go_wp2_with fail
        go_meet
        exact ⟨hj, hb⟩
      have hk1 : (k : Int) < (l.length : Int) := by omega
      obtain ⟨x, hxk⟩ := get_ex hlt
      obtain ⟨c0, c1, c2⟩ := rwCells HX.out hbwo hxk
      have i1 := idx_at (c := c) 3 Tryz.underlying44 szRw ha k hlt
      have HRe := Lib.hid (rowError_any x wo (HS.out x (List.mem_of_getElem? hxk)))
      have HBd := Lib.hid (fun h => makeE_bad H40.out hxk hj.out h)
      have HFx : Hid (rowF l k = rowCheck x) := Lib.hid (by unfold rowF; rw [hxk])
      generalize rowCheck x = cx at *
      clear hxk
      by_cases hck : cx = 0
      case neg =>
        have HM := Lib.hid (HBd.out hck)
        have HMt : Hid (makeT l = []) := Lib.hid (makeT_bad (by rw [HM.out]; simp))
        have g1 : (0 : Int) < (cx : Int) := by omega
        clear hck
        go_wp2_with fail
        refine HRe.out.mono ?_
        rintro e w3 ⟨rfl, hb3⟩
        have hb03 := hb.trans (hb3.mono hb.size)
        have hbw3 := hbwo.trans (hb3.mono hbwo.size)
        clear c0 c1 c2
        have hg := HG.out _ (hb03)
        have c0' : w3.cell? ⟨w.heap.size, 0, none⟩ = some (.int .i64 0) := by simp [World.cell?, hg]
        have c1' : w3.cell? ⟨w.heap.size, 1, none⟩ = some (.int .i64 0) := by simp [World.cell?, hg]
        have f0' : w3.frozen? ⟨w.heap.size, 0, none⟩ = false := by simp [World.frozen?, hg]
        have f1' : w3.frozen? ⟨w.heap.size, 1, none⟩ = false := by simp [World.frozen?, hg]
        have HGg := Lib.hid hg; clear hg
        go_wp2_with fail
        refine bodyPost_ret (fault_tc (g := w.heap.size) rfl rfl (set_two HGg.out _ _) rfl) rfl ⟨by rw [HMt.out, HM.out]; rfl, ((hbw3).setCell (by simp) _).setCell (by simp) _⟩
      have HJ1 : Hid (∀ j < k + 1, rowF l j = 0) := Lib.hid fun j hj' => (by
        rcases Nat.lt_or_ge j k with h | h
        · exact hj.out j h
        · obtain rfl : j = k := by omega
          rw [HFx.out]; exact hck)
      have g1 : decide ((0 : Int) < (cx : Int)) = false := by simp; omega
      have g2 : decide (0 < cx) = false := by simp; omega
      clear hck HFx HBd
      go_wp2_with fail
      refine HRe.out.mono ?_
      rintro e w3 ⟨rfl, hb3⟩
      go_wp2_with fail
      go_roundw
      case rel => exact ⟨rfl, k + 1, by omega, by go_num, HJ1, hb.trans (hb3.mono hb.size)⟩
      case measure => simp [intOf]; omega
  case rest =>
    obtain ⟨hj, hb1⟩ := hcut
    obtain ⟨w1, rfl⟩ : ∃ w1, w1 = wc := ⟨wc, rfl⟩
    have hbw1 := hba.trans (hb1.mono hba.size)
    have hm := makeE_fine H40.out hj.out
    have HM := Lib.hid hm
    have HMt := Lib.hid (makeT_fine hm)
    obtain ⟨hr1, hr2, -⟩ := make_right hm
    have HR2 := Lib.hid hr2
    have HKn := Lib.hid (keysR_near (l := l) (makeE_nil hm).2)
    have HSo := Lib.hid (refSortRows_any _ l w1 (HR.out _ hbw1) (by omega))
    clear hm hr2
    generalize sortR l = q at *
    go_wp2_with fail
    refine HSo.out.mono ?_
    rintro e w2 ⟨u, rfl, hat, hb2⟩
    have hb02 := hb1.trans (hb2.mono hb1.size)
    obtain ⟨a2, c2, b2, o2, rfl, ha2, hc2, hcm2, hx2⟩ := hat
    unfold maxLen at hcm2
    have HX2 := Lib.hid hx2
    clear hx2 HSo
    have hlen : ∀ k, (bodyT ((q.take k).map rowLine)).length ≤ 2440 := fun k => by
      have hbl := body_len (m := 60) (ls := (q.take k).map rowLine) fun s hs => by
        obtain ⟨r, hr, rfl⟩ := List.mem_map.1 hs
        exact rowLine_len' (HR2.out r (List.mem_of_mem_take hr))
      rw [List.length_map, List.length_take] at hbl
      omega
    have HLen := Lib.hid hlen
    clear hlen
    go_wp2_with fail
    go_loopw [7, 8] (fun u i wr => ∃ k : Nat, k ≤ q.length ∧ i = .int .i64 k ∧ u = S (bodyT ((q.take k).map rowLine)) ∧ Below w2.heap.size w2 wr) (fun _ i _ => q.length - (intOf i).toNat)
    case atStart => exact ⟨0, by omega, rfl, rfl, Below.refl _ _⟩
    case round =>
      obtain ⟨k, hk, rfl, rfl, hb⟩ := hrel
      obtain ⟨wo, rfl⟩ : ∃ wo, wo = wr := ⟨wr, rfl⟩
      have hb0o := hb02.trans (hb.mono hb02.size)
      have hbwo := hba.trans (hb0o.mono hba.size)
      by_cases hlt : k < q.length
      case neg =>
        obtain rfl : k = q.length := by omega
        have f : decide ((q.length : Int) < (q.length : Int)) = false := by simp
        have hl880 := HLen.out q.length
        rw [List.take_length] at hl880 ⊢
        have hkl : (keysR l).length = l.length := by simp [keysR]
        obtain ⟨e1, e2⟩ := ends_within (l := keysR l) (B := 1073741824) (by omega) fun x hx => near (HKn.out x hx)
        have HKs := Lib.hid (refKeys_any _ l wo (HR.out _ hbwo) (by omega))
        have HWt := Lib.hid (fun W u (hu : IntsAt W u (keysR l)) => wholeText_any kData u (keysR l) (bodyT (q.map rowLine)) W hu (by decide) (by omega) (by omega) (by omega))
        clear e1 e2 hkl
        generalize bodyT (q.map rowLine) = bd at *
        go_wp2_with fail
        refine HKs.out.mono ?_
        rintro e w3 ⟨u, rfl, hu, hb3⟩
        have hb03 := hb0o.trans (hb3.mono hb0o.size)
        have HWt3 := Lib.hid (HWt.out w3 u (hu.at encI_enc))
        clear hu
        go_wp2_with fail
        refine HWt3.out.mono ?_
        rintro e w4 ⟨rfl, hb4⟩
        have hb04 := hb03.trans (hb4.mono hb03.size)
        have hbw4 := hba.trans (hb04.mono hba.size)
        go_wp2_with fail
        refine (refFine_any _).mono ?_
        rintro e wB ⟨rfl, hbB⟩
        have hb0B := (hb04).trans (hbB.mono (hb04).size)
        have hbwB := (hbw4).trans (hbB.mono (hbw4).size)
        have hg := HG.out _ (hb0B)
        have c0' : wB.cell? ⟨w.heap.size, 0, none⟩ = some (.int .i64 0) := by simp [World.cell?, hg]
        have c1' : wB.cell? ⟨w.heap.size, 1, none⟩ = some (.int .i64 0) := by simp [World.cell?, hg]
        have f0' : wB.frozen? ⟨w.heap.size, 0, none⟩ = false := by simp [World.frozen?, hg]
        have f1' : wB.frozen? ⟨w.heap.size, 1, none⟩ = false := by simp [World.frozen?, hg]
        have HGg := Lib.hid hg; clear hg
        unfold faultV
        go_wp2_with fail
        refine bodyPost_ret (fault_tc (g := w.heap.size) rfl rfl (set_two HGg.out _ _) rfl) rfl ⟨by rw [HMt.out, HM.out]; rfl, ((hbwB).setCell (by simp) _).setCell (by simp) _⟩
      obtain ⟨x, hxk⟩ := get_ex hlt
      obtain ⟨d0, d1, d2⟩ := rwCells HX2.out hb hxk
      have i1 := idx_at (c := c2) 3 Tryz.underlying44 szRw ha2 k hlt
      have f : (k : Int) < (q.length : Int) := by omega
      have hrx := HR2.out x (List.mem_of_getElem? hxk)
      have hpl := rowLine_part hrx
      have htl := rowLine_len' hrx
      have hD := refRowText_any x wo (by omega)
      rw [rowText_fine hrx] at hD
      have HD := Lib.hid hD
      have hbl := HLen.out k
      have HSn : Hid (bodyT ((q.take (k + 1)).map rowLine) = (bodyT ((q.take k).map rowLine) ++ rowLine x) ++ [10]) := Lib.hid (by
        rw [take_snoc' hxk, List.map_append, List.map_cons, List.map_nil, bodyT_snoc]; simp)
      clear hxk hrx hD
      generalize rowLine x = tx at *
      generalize bodyT ((q.take k).map rowLine) = bd at *
      have app : ∀ (p q : Str), p.length + q.length ≤ 1000000 → ∀ W, (Op.stringOp .add ⟨p.toArray⟩ ⟨q.toArray⟩).run Tryz.prog W = .ok (.string ⟨(p ++ q).toArray⟩) W := fun p q h W => by
        have := cat_run ⟨p.toArray⟩ ⟨q.toArray⟩ p.length q.length rfl rfl h W
        rwa [S_app] at this
      have a1 := app bd tx (by omega)
      have a2 := app (bd ++ tx) [10] (by simp; omega)
      clear app
      generalize hA1 : bd ++ tx = A1 at *
      generalize hA2 : A1 ++ [10] = A2 at *
      clear hA1 hA2
      go_wp2_with fail
      refine HD.out.mono ?_
      rintro e w3 ⟨rfl, hb3⟩
      go_wp2_with fail
      go_roundw
      case rel => exact ⟨k + 1, by omega, by go_num, by rw [HSn.out], hb.trans (hb3.mono hb.size)⟩
      case measure => simp [intOf]; omega
def RdPost (w : World) (s : Str) (e : Ending) (w' : World) : Prop := ∃ u, e = .returned (.tuple #[u, faultOf (dataE s)]) ∧ FarR w.heap.size w' u (dataL s) ∧ Below w.heap.size w w'
theorem rd_bad {w W : World} {s : Str} {tmps : Array Value} {cc pp : Int} (h2 : tmps.getD 2 undef = .slice none 0 0) (hp : tmps.getD 3 undef = .pointer (some ⟨w.heap.size, 0, none⟩)) (hne : dataE s ≠ .nil) (hcc : ((dataE s).code : Int) = cc) (hpp : (dataE s).place = pp)
    (hF : W.heap[w.heap.size]? = some (.cells #[.int .i64 0, .int .i64 0] 58 (0, 0))) (hb : Below w.heap.size w W) :
    bodyPost Tryz.prog Tryz.f80 (RdPost w s) .ret ⟨tmps, []⟩ ((W.setCell ⟨w.heap.size, 0, none⟩ (.int .i64 cc)).setCell ⟨w.heap.size, 1, none⟩ (.int .i64 pp)) := by
  subst hcc hpp
  refine bodyPost_ret (fault_tc (g := w.heap.size) rfl hp (set_two hF _ _) h2) rfl ⟨_, rfl, ?_, ((hb).setCell (by simp) _).setCell (by simp) _⟩
  rw [show dataL s = [] from if_neg hne]
  exact fun _ _ => At.nil _ _ _
theorem rd_bad_drew {w W : World} {s : Str} {tmps : Array Value} {cc pp : Int} (h2 : tmps.getD 2 undef = .slice none 0 0) (hp : tmps.getD 3 undef = .pointer (some ⟨w.heap.size, 0, none⟩)) (hne : dataE s ≠ .nil) (hcc : ((dataE s).code : Int) = cc) (hpp : (dataE s).place = pp)
    (hF : W.heap[w.heap.size]? = some (.cells #[.int .i64 0, .int .i64 0] 58 (0, 0))) (hb : Below w.heap.size w W) :
    bodyPost Tryz.prog Tryz.f80 (RdPost w s) .ret ⟨tmps, []⟩ ((W.setCell ⟨w.heap.size, 0, none⟩ (.int .i64 cc)).setCell ⟨w.heap.size, 1, none⟩ (.int .i64 pp)).drew := by
  subst hcc hpp
  refine bodyPost_ret (fault_tc (g := w.heap.size) rfl hp (by rw [World.heap_drew]; exact set_two hF _ _) h2) rfl ⟨_, rfl, ?_, Bdn (((hb).setCell (by simp) _).setCell (by simp) _) 1⟩
  rw [show dataL s = [] from if_neg hne]
  exact fun _ _ => At.nil _ _ _
set_option maxHeartbeats 8000000 in
set_option maxRecDepth 20000 in
theorem readData_any (s : Str) (w : World) (hs : s.length ≤ 10000 ∨ 20000 < s.length) (hs2 : s.length ≤ 50000) :
    Calls Tryz.prog 80 #[S s] w (RdPost w s) := by
  have hba : Below w.heap.size w (w.alloc (.cells #[.int .i64 0, .int .i64 0] 58)) := (Below.refl w.heap.size w).alloc (Nat.le_refl _) (.cells #[.int .i64 0, .int .i64 0] 58)
  have hG := fun W (h : Below (w.alloc (.cells #[.int .i64 0, .int .i64 0] 58)).heap.size (w.alloc (.cells #[.int .i64 0, .int .i64 0] 58)) W) => ((h.block w.heap.size (by simp)).trans (heap_alloc_new w (.cells #[.int .i64 0, .int .i64 0] 58)))
  have HG := Lib.hid hG; clear hG
  have HSz : Hid ((w.alloc (.cells #[.int .i64 0, .int .i64 0] 58)).heap.size = w.heap.size + 1) := Lib.hid (by simp)
  obtain ⟨hll, -⟩ := splitL_len hs2
  have hlm : splitE kData s = .nil → ∀ x ∈ splitL s, x.length ≤ 10000 := fun h => (splitL_len (m := 10000) (by rcases hs with h1 | h1; exact h1; rw [splitE_long h1] at h; cases h)).2
  have hne0 := splitL_ne s
  have HE0 : Hid (splitE kData s ≠ .nil → dataE s = splitE kData s) := Lib.hid readEr_split
  have HCd := Lib.hid (@splitE_code kData s)
  have HF4 := Lib.hid (@splitN_four kData s)
  have HEh : Hid (splitE kData s = .nil → eachEr (dataBad (splitL s)) (splitL s) = .nil → dataE s = headEr (splitN kData s) (keysR ((splitL s).dropLast.map rowD))) := Lib.hid readEr_head
  have HEe : Hid (splitE kData s = .nil → eachEr (dataBad (splitL s)) (splitL s) ≠ .nil → dataE s = eachEr (dataBad (splitL s)) (splitL s)) := Lib.hid readEr_each
  have HL : Hid (dataL s = if dataE s = .nil then (splitL s).dropLast.map rowD else []) := Lib.hid rfl
  go_enter Tryz.func80, Tryz.ntmps80
  go_upto_region 1 with fail
  generalize w.alloc (.cells #[.int .i64 0, .int .i64 0] 58) = w0 at *
  have HSt := Lib.hid (splitText_any kData s w0 (by omega))
  unfold SplitPost at HSt
  generalize splitN kData s = ns at *
  generalize splitL s = ls at *
  go_wp2_with fail
  refine HSt.out.mono ?_
  rintro e w1 ⟨u, v, rfl, hgood, hb1⟩
  have hbw1 := hba.trans (hb1.mono hba.size)
  clear HSt
  rw [show faultOf (splitE kData s) = .agg #[.int .i64 ((splitE kData s).code : Int), .int .i64 (splitE kData s).place] from rfl]
  obtain ⟨cc, hcc⟩ : ∃ cc : Int, ((splitE kData s).code : Int) = cc := ⟨_, rfl⟩
  obtain ⟨pp, hpp⟩ : ∃ pp : Int, (splitE kData s).place = pp := ⟨_, rfl⟩
  rw [hcc, hpp]
  have hbF : Below w1.heap.size w1 (w1.alloc (.cells #[.int .i64 cc, .int .i64 pp] 58)) := (Below.refl _ _).alloc (Nat.le_refl _) _
  have d0 : (w1.alloc (.cells #[.int .i64 cc, .int .i64 pp] 58)).cell? ⟨w1.heap.size, 0, none⟩ = some (.int .i64 cc) := freshCell (Below.refl _ _) 0 rfl
  have d1 : (w1.alloc (.cells #[.int .i64 cc, .int .i64 pp] 58)).cell? ⟨w1.heap.size, 1, none⟩ = some (.int .i64 pp) := freshCell (Below.refl _ _) 1 rfl
  have hgT := heap_alloc_new w1 (.cells #[.int .i64 cc, .int .i64 pp] 58)
  have h1z : w1.heap.size < (w1.alloc (.cells #[.int .i64 cc, .int .i64 pp] 58)).heap.size := by simp
  have h0z := HSz.out
  have h01 := hb1.size
  obtain ⟨T, hT⟩ : ∃ T, w1.heap.size = T := ⟨_, rfl⟩
  rw [hT] at d0 d1 hgT h1z h01
  go_upto_region 2 with fail
  generalize w1.alloc (.cells #[.int .i64 cc, .int .i64 pp] 58) = w2 at *
  have hb12 := hb1.trans (hbF.mono hb1.size)
  have hbw2 := hba.trans (hb12.mono hba.size)
  have n1 : ¬ (T = w.heap.size) := by omega
  have n3 : ¬ (w.heap.size = T) := by omega
  by_cases h0 : splitE kData s = .nil
  case neg =>
    have hpos : (0 : Int) < cc := by have := HCd.out h0; omega
    have HNe : Hid (dataE s = splitE kData s) := Lib.hid (HE0.out h0)
    have HN0 := Lib.hid h0
    have HCc := Lib.hid hcc
    have HPp := Lib.hid hpp
    clear h0 hcc hpp hgood hgT
    have hg := HG.out _ (hb12)
    have c0' : w2.cell? ⟨w.heap.size, 0, none⟩ = some (.int .i64 0) := by simp [World.cell?, hg]
    have c1' : w2.cell? ⟨w.heap.size, 1, none⟩ = some (.int .i64 0) := by simp [World.cell?, hg]
    have f0' : w2.frozen? ⟨w.heap.size, 0, none⟩ = false := by simp [World.frozen?, hg]
    have f1' : w2.frozen? ⟨w.heap.size, 1, none⟩ = false := by simp [World.frozen?, hg]
    have HGg := Lib.hid hg; clear hg
    go_wp2_with fail
    go_region_law (fail)
    all_goals
      go_wp2_with fail
      exact rd_bad_drew rfl rfl (by rw [HNe.out]; exact HN0.out) (by rw [HNe.out]; exact HCc.out) (by rw [HNe.out]; exact HPp.out) HGg.out hbw2
  have hcc0 : cc = 0 := by rw [← hcc, h0]; rfl
  subst hcc0
  obtain ⟨hon, hol⟩ := hgood h0
  obtain ⟨m0, m1, m2, m3, hns⟩ := HF4.out h0
  have HEh2 : Hid (eachEr (dataBad ls) ls = .nil → dataE s = headEr [m0, m1, m2, m3] (keysR (ls.dropLast.map rowD))) := Lib.hid fun h => by rw [HEh.out h0 h, hns]
  have HE2 : Hid (∀ {c k : Nat}, firstErr (lineF (dataBad ls) ls) ls.length = .loc c k → dataE s = .loc c k) := Lib.hid fun h => (HEe.out h0 (by unfold eachEr; rw [h]; simp)).trans h
  rw [hns] at hon
  have HU := Lib.hid (fun W (h : Below w1.heap.size w1 W) => hon.below h)
  obtain ⟨au, cu, rfl, -, -⟩ := hon.form'
  obtain ⟨a, c, b, o, rfl, ha, hc, hcm, hx⟩ := hol
  unfold maxLen at hcm
  have HX := Lib.hid hx
  have HLm := Lib.hid (hlm h0)
  have hlpos : 0 < ls.length := List.length_pos_iff.2 hne0
  obtain rfl := ha hlpos
  have TS := Lib.hid (fun W (h : Below w2.heap.size w2 W) => (h.block T (Array.getElem?_eq_some_iff.1 hgT).1).trans hgT)
  clear hx hcc hpp hon h0 hns hgood hgT HE0 HCd HF4 HEh HEe hne0 hlm ha
  have hl4 : [m0, m1, m2, m3].length = 4 := rfl
  rw [hl4]
  clear hl4
  go_wp2_with fail
  go_loopw [2, 7, 8] (fun r out i wr => r = .slice none 0 0 ∧ ∃ k : Nat, k < ls.length ∧ i = .int .i64 k ∧ Hid (∀ j < k, lineF (dataBad ls) ls j = 0) ∧ Own encR 106 3 w2.heap.size wr out ((ls.take k).map rowD) ∧ Below w2.heap.size w2 wr) (fun _ _ i _ => ls.length - (intOf i).toNat)
  case atStart => exact ⟨rfl, 0, hlpos, rfl, Lib.hid fun j hj => absurd hj (by omega), Own.nil _ _ _ _ _, Below.refl _ _⟩
  case round =>
    obtain ⟨rfl, k, hk, rfl, hj, ho, hb⟩ := hrel
    obtain ⟨wo, rfl⟩ : ∃ wo, wo = wr := ⟨wr, rfl⟩
    have hb02 := hb12.trans (hb.mono hb12.size)
    have hbwo := hbw2.trans (hb.mono hbw2.size)
    have hb1o := hbF.trans (hb.mono hbF.size)
    obtain ⟨x, hxk⟩ := get_ex hk
    have c1 := HX.out k x hxk 0 _ rfl
    have c1 := (hb1o.cell (World.block_lt_of_cell? w1 _ c1)).trans c1
    have i1 := idx_at (n := ls.length) (c := c) (b := b) (o := o) 1 Tryz.underlying39 szStr (fun _ => rfl) k hk
    simp only [Nat.mul_one, Nat.add_zero] at c1 i1
    have f : (k : Int) < (ls.length : Int) := by omega
    have hxl := HLm.out x (List.mem_of_getElem? hxk)
    have HO := Lib.hid ho
    have hql : ((ls.take k).map rowD).length = k := by rw [List.length_map, List.length_take]; omega
    by_cases hlast : k + 1 = ls.length
    case pos =>
      have g : ((k : Int) == (ls.length : Int) - 1) = true := by rw [beq_iff_eq]; omega
      have hlf := lineF_fin (bad := dataBad ls) hlast hxk
      have hdrop : ls.take k = ls.dropLast := by rw [List.dropLast_eq_take]; congr 1; omega
      have HDrop := Lib.hid hdrop
      have HQ := Lib.hid hql
      clear hxk ho hdrop hql
      by_cases hxe : x = []
      case neg =>
        have gl : x.isEmpty = false := by simpa using hxe
        have HLf : Hid (lineF (dataBad ls) ls k = 1) := Lib.hid (by rw [hlf, if_neg hxe])
        clear hlf hxe
        generalize (ls.take k).map rowD = q at *
        have HNe : Hid (dataE s = .loc 1 k) := Lib.hid (HE2.out (firstErr_hit (by omega) hj.out (by rw [HLf.out]; decide)) |>.trans (by rw [HLf.out]))
        have hg := HG.out _ (hb02)
        have c0' : wo.cell? ⟨w.heap.size, 0, none⟩ = some (.int .i64 0) := by simp [World.cell?, hg]
        have c1' : wo.cell? ⟨w.heap.size, 1, none⟩ = some (.int .i64 0) := by simp [World.cell?, hg]
        have f0' : wo.frozen? ⟨w.heap.size, 0, none⟩ = false := by simp [World.frozen?, hg]
        have f1' : wo.frozen? ⟨w.heap.size, 1, none⟩ = false := by simp [World.frozen?, hg]
        have HGg := Lib.hid hg; clear hg
        go_wp2_with fail
        exact rd_bad rfl rfl (by rw [HNe.out]; simp) (by rw [HNe.out]; rfl) (by rw [HNe.out]; rfl) HGg.out hbwo
      subst hxe
      have gl : ([] : Str).isEmpty = true := rfl
      rw [if_pos rfl] at hlf
      have he : eachEr (dataBad ls) ls = .nil := firstErr_all fun j hj' => (by
        rcases Nat.lt_or_ge j k with h | h
        · exact hj.out j h
        · obtain rfl : j = k := by omega
          exact hlf)
      have hGe := HEh2.out he
      rw [← HDrop.out] at hGe HL
      clear he hlf hlast
      generalize (ls.take k).map rowD = q at *
      obtain ⟨aq, cq, rfl, -, -⟩ := (HO.out.at encR_enc).form'
      have hql' : q.length ≤ 100000 := by rw [HQ.out]; omega
      have HKs := Lib.hid (refKeys_any _ q wo (HO.out.at encR_enc) hql')
      have HH := Lib.hid (fun W uk (h : Below wo.heap.size wo W) (hk : IntsAt W uk (keysR q)) => headFault_any (.slice au 4 cu) m0 m1 m2 m3 uk (keysR q) W (HU.out _ (hb1o.trans (h.mono hb1o.size))) hk)
      have HHc := Lib.hid (@headEr_code [m0, m1, m2, m3] (keysR q))
      generalize headEr [m0, m1, m2, m3] (keysR q) = he at *
      have HGe := Lib.hid hGe
      clear hGe
      go_wp2_with fail
      refine HKs.out.mono ?_
      rintro e wk ⟨uk, rfl, huk, hbk⟩
      have HHk := Lib.hid (HH.out wk uk hbk (huk.at encI_enc))
      clear huk
      go_wp2_with fail
      refine HHk.out.mono ?_
      rintro e w3 ⟨rfl, hb3k⟩
      have hb3 := hbk.trans (hb3k.mono hbk.size)
      have hb23 := hb.trans (hb3.mono hb.size)
      have hgT3 := TS.out _ hb23
      have t0 : w3.cell? ⟨T, 0, none⟩ = some (.int .i64 0) := by rw [cell_of_row w3 _ _ _ _ (0, 0) hgT3]; rfl
      have t1 : w3.cell? ⟨T, 1, none⟩ = some (.int .i64 pp) := by rw [cell_of_row w3 _ _ _ _ (0, 0) hgT3]; rfl
      have q0 : w3.frozen? ⟨T, 0, none⟩ = false := frozen_row hgT3
      have q1 : w3.frozen? ⟨T, 1, none⟩ = false := frozen_row hgT3
      rw [show faultOf he = .agg #[.int .i64 (he.code : Int), .int .i64 he.place] from rfl]
      obtain ⟨c2, hc2⟩ : ∃ c2 : Int, (he.code : Int) = c2 := ⟨_, rfl⟩
      obtain ⟨p2, hp2⟩ : ∃ p2 : Int, he.place = p2 := ⟨_, rfl⟩
      rw [hc2, hp2]
      have HC2 := Lib.hid hc2
      have HP2 := Lib.hid hp2
      clear hc2 hp2
      go_upto_region 20 with fail
      have hb03 := hb12.trans (hb23.mono hb12.size)
      have hT0 : w0.heap.size ≤ T := h01
      have hb04 : Below w0.heap.size w0 ((w3.setCell ⟨T, 0, none⟩ (.int .i64 c2)).setCell ⟨T, 1, none⟩ (.int .i64 p2)) := (hb03.setCell (p := ⟨T, 0, none⟩) hT0 _).setCell (p := ⟨T, 1, none⟩) hT0 _
      have hbw4 := hba.trans (hb04.mono hba.size)
      have hg4 := set_two hgT3 (.int .i64 c2) (.int .i64 p2)
      have hw4 : ((w3.setCell ⟨T, 0, none⟩ (.int .i64 c2)).setCell ⟨T, 1, none⟩ (.int .i64 p2)).heap.size = w3.heap.size := by simp
      have HK4 := Lib.hid (two_far (W := w3) h1z (.int .i64 c2) (.int .i64 p2))
      clear t0 t1 q0 q1 hgT3
      generalize (w3.setCell ⟨T, 0, none⟩ (.int .i64 c2)).setCell ⟨T, 1, none⟩ (.int .i64 p2) = w4 at *
      have u0 : w4.cell? ⟨T, 0, none⟩ = some (.int .i64 c2) := by rw [cell_of_row w4 _ _ _ _ (0, 0) hg4]; rfl
      have u1 : w4.cell? ⟨T, 1, none⟩ = some (.int .i64 p2) := by rw [cell_of_row w4 _ _ _ _ (0, 0) hg4]; rfl
      have HW4 := Lib.hid hw4
      clear hg4 hw4
      by_cases hh : he = .nil
      case neg =>
        have hpos : (0 : Int) < c2 := by have := HHc.out hh; have := HC2.out; omega
        have HN0 := Lib.hid hh
        clear hh
        have hg := HG.out _ (hb04)
        have c0' : w4.cell? ⟨w.heap.size, 0, none⟩ = some (.int .i64 0) := by simp [World.cell?, hg]
        have c1' : w4.cell? ⟨w.heap.size, 1, none⟩ = some (.int .i64 0) := by simp [World.cell?, hg]
        have f0' : w4.frozen? ⟨w.heap.size, 0, none⟩ = false := by simp [World.frozen?, hg]
        have f1' : w4.frozen? ⟨w.heap.size, 1, none⟩ = false := by simp [World.frozen?, hg]
        have HGg := Lib.hid hg; clear hg
        go_wp2_with fail
        go_region_law (fail)
        all_goals
          go_wp2_with fail
          exact rd_bad_drew rfl rfl (by rw [HGe.out]; exact HN0.out) (by rw [HGe.out]; exact HC2.out) (by rw [HGe.out]; exact HP2.out) HGg.out hbw4
      have hc20 : c2 = 0 := by rw [← HC2.out, hh]; rfl
      subst hc20
      have HE : Hid (dataE s = .nil) := Lib.hid (by rw [HGe.out, hh])
      have HLq : Hid (dataL s = q) := Lib.hid (by rw [HL.out, if_pos HE.out])
      clear hh
      go_wp2_with fail
      refine (refFine_any _).mono ?_
      rintro e wB ⟨rfl, hbB⟩
      have hb0B := (hb04).trans (hbB.mono (hb04).size)
      have hbwB := (hbw4).trans (hbB.mono (hbw4).size)
      have hg := HG.out _ (hb0B)
      have c0' : wB.cell? ⟨w.heap.size, 0, none⟩ = some (.int .i64 0) := by simp [World.cell?, hg]
      have c1' : wB.cell? ⟨w.heap.size, 1, none⟩ = some (.int .i64 0) := by simp [World.cell?, hg]
      have f0' : wB.frozen? ⟨w.heap.size, 0, none⟩ = false := by simp [World.frozen?, hg]
      have f1' : wB.frozen? ⟨w.heap.size, 1, none⟩ = false := by simp [World.frozen?, hg]
      have HGg := Lib.hid hg; clear hg
      unfold faultV
      go_wp2_with fail
      refine bodyPost_ret (fault_tc (g := w.heap.size) rfl rfl (set_two HGg.out _ _) rfl) rfl ⟨_, by rw [HE.out]; rfl, by rw [HLq.out]; exact fun W hW => Own.stays3 encR_enc (HO.out.below hb3) (fun p hp hp3 => (hW p (by omega) (by have h1 := hbB.size; rw [HW4.out] at h1; simp; omega)).trans ((two_far (B := w2.heap.size) (by omega) _ _ p hp).trans ((hbB.cell (by rw [HW4.out]; exact hp3)).trans (HK4.out p hp)))), ((hbwB).setCell (by simp) _).setCell (by simp) _⟩
    have g : ((k : Int) == (ls.length : Int) - 1) = false := by simp; omega
    have hlf := lineF_mid (bad := dataBad ls) hlast
    have HNu := Lib.hid (refReadRow_any x wo hxl)
    have hk1 : k + 1 < ls.length := by omega
    have hsn : (ls.take (k + 1)).map rowD = (ls.take k).map rowD ++ [rowD x] := by rw [take_snoc' hxk, List.map_append]; rfl
    have hprev : ∀ y, 0 < k → ((ls.take k).map rowD)[k - 1]? = some y → ((∃ t, ls[k - 1]? = some t ∧ lessR (rowD x) (rowD t) = true) ↔ lessR (rowD x) y = true) := fun y h0 hy => by
      rw [List.getElem?_map, List.getElem?_take_of_lt (by omega)] at hy
      cases ht : ls[k - 1]? with
      | none => rw [ht] at hy; cases hy
      | some t =>
        rw [ht] at hy
        cases hy
        exact ⟨fun ⟨t', e, h⟩ => by cases e; exact h, fun h => ⟨t, rfl, h⟩⟩
    have hB1 := fun h => dataBad_row hxk h
    have hB2 := fun h => dataBad_fine hxk h
    have hxd : rowD x = (rowRead x).1 := rfl
    rw [hxd] at hsn hprev
    simp only [hxd] at hB2
    obtain ⟨r, hr⟩ : ∃ r, (rowRead x).1 = r := ⟨_, rfl⟩
    obtain ⟨cr, hcr⟩ : ∃ cr, (rowRead x).2 = cr := ⟨_, rfl⟩
    rw [hr] at hsn hprev HNu
    simp only [hr] at hB2
    rw [hcr] at HNu
    rw [hcr] at hB1
    simp only [hcr] at hB2
    have HB1 := Lib.hid hB1
    have HB2 := Lib.hid hB2
    have HSn := Lib.hid hsn
    have HPrev := Lib.hid hprev
    have HQl := Lib.hid hql
    have HLf1 := Lib.hid hlf
    clear hxk hsn hprev hB1 hB2 hxd hr hcr hlf hql
    obtain ⟨q, hq⟩ : ∃ q, (ls.take k).map rowD = q := ⟨_, rfl⟩
    rw [hq] at HSn HPrev HQl HO ho
    clear hq
    go_wp2_with fail
    refine HNu.out.mono ?_
    rintro e w3 ⟨rfl, hb3⟩
    have hbA : Below w3.heap.size w3 (w3.alloc (.cells #[S r.part, .int .i64 r.key, .int .i64 r.val] 106)) := (Below.refl _ _).alloc (Nat.le_refl _) _
    have hbo4 := hb3.trans (hbA.mono hb3.size)
    have hb04 := hb02.trans (hbo4.mono hb02.size)
    have hbw4 := hbwo.trans (hbo4.mono hbwo.size)
    have CR := Lib.hid (fun W (h : Below (w3.alloc (.cells #[S r.part, .int .i64 r.key, .int .i64 r.val] 106)).heap.size (w3.alloc (.cells #[S r.part, .int .i64 r.key, .int .i64 r.val] 106)) W) => rowCells (r := r) (w := w3) rfl h)
    obtain ⟨T3, hT3⟩ : ∃ T3, w3.heap.size = T3 := ⟨_, rfl⟩
    rw [hT3] at CR
    clear c1 hbA
    go_upto_region 12 with fail
    generalize w3.alloc (.cells #[S r.part, .int .i64 r.key, .int .i64 r.val] 106) = w4 at *
    by_cases hc0 : cr = 0
    case neg =>
      have HLf : Hid (lineF (dataBad ls) ls k = cr) := Lib.hid (HLf1.out.trans (HB1.out hc0))
      have HC0 := Lib.hid hc0
      have g1 : (0 : Int) < (cr : Int) := by omega
      have g2 : decide (0 < cr) = true := by simp; omega
      have HNe : Hid (dataE s = .loc cr k) := Lib.hid (HE2.out (firstErr_hit (by omega) hj.out (by rw [HLf.out]; exact HC0.out)) |>.trans (by rw [HLf.out]))
      clear hc0
      have hg := HG.out _ (hb04)
      have c0' : w4.cell? ⟨w.heap.size, 0, none⟩ = some (.int .i64 0) := by simp [World.cell?, hg]
      have c1' : w4.cell? ⟨w.heap.size, 1, none⟩ = some (.int .i64 0) := by simp [World.cell?, hg]
      have f0' : w4.frozen? ⟨w.heap.size, 0, none⟩ = false := by simp [World.frozen?, hg]
      have f1' : w4.frozen? ⟨w.heap.size, 1, none⟩ = false := by simp [World.frozen?, hg]
      have HGg := Lib.hid hg; clear hg
      go_wp2_with fail
      exact rd_bad rfl rfl (by rw [HNe.out]; simp) (by rw [HNe.out]; rfl) (by rw [HNe.out]; rfl) HGg.out hbw4
    have HBd := Lib.hid (HLf1.out.trans (HB2.out hc0))
    have g1 : decide ((0 : Int) < (cr : Int)) = false := by simp; omega
    have g2 : decide (0 < cr) = false := by simp; omega
    obtain ⟨d0, d1, d2⟩ := CR.out _ (Below.refl _ _)
    clear hc0 HB1 HB2
    by_cases h0 : 0 < k
    case neg =>
      have hp0 : decide ((0 : Int) < (k : Int)) = false := by simp; omega
      have hp1 : decide (0 < k) = false := by simp; omega
      have HLf0 : Hid (lineF (dataBad ls) ls k = 0) := Lib.hid (by rw [HBd.out, if_neg (fun h => h0 h.1)])
      clear ho
      have ho4 := HO.out.below hbo4
      have hb24 := hb.trans (hbo4.mono hb.size)
      go_wp2_with (at_builtin; refine wpList_app rfl _ _ _ rfl w2.heap.size elRw _ q.length _ rfl (ho4.alloc _) (.slice (some ⟨w4.heap.size, 0, none⟩) 1 1) 1 (encR r) rfl (src_one rfl rfl (by simp [Value.oneCell'])) (by rw [HQl.out]; unfold maxLen; omega) (by rw [HQl.out]; omega) (by have := hb24.size; simp; omega) ?_; intro v' w5 hown5 hg5 _)
      go_roundw
      case rel => exact ⟨rfl, k + 1, hk1, by go_num, Lib.hid (fun j hj' => by
          rcases Nat.lt_or_ge j k with h | h
          · exact hj.out j h
          · obtain rfl : j = k := by omega
            exact HLf0.out), by rw [HSn.out]; exact Own.snoc hown5, Bapp (hb24.alloc hb24.size _) (ho4.alloc _) hg5 (Nat.le_refl _) (by have := hb24.size; simp; omega)⟩
      case measure => simp [intOf]; omega
    obtain ⟨g', cap, cur, rfl, -⟩ := ho.open (by rw [HQl.out]; exact h0)
    obtain ⟨y, hy⟩ := get_ex (l := q) (k := k - 1) (by rw [HQl.out]; omega)
    have hyc := fun j u hu => ho.cells encR_enc (k - 1) y hy j u hu
    have y0 := hyc 0 _ rfl
    have y1 := hyc 1 _ rfl
    have y2 := hyc 2 _ rfl
    simp only [Nat.add_zero] at y0 y1 y2
    have KC := Lib.hid (fun W (h : Below wo.heap.size wo W) => (⟨(h.cell (World.block_lt_of_cell? wo _ y0)).trans y0, (h.cell (World.block_lt_of_cell? wo _ y1)).trans y1, (h.cell (World.block_lt_of_cell? wo _ y2)).trans y2⟩ : _ ∧ _ ∧ _))
    have hpv := HPrev.out y h0 hy
    have i2 := idx_at (n := q.length) (c := cap) (b := g') (o := 0) 3 Tryz.underlying44 szRw (fun _ => rfl) (k - 1) (by rw [HQl.out]; omega)
    have hcast : ((k - 1 : Nat) : Int) = (k : Int) - 1 := by omega
    simp only [hcast, Nat.zero_add] at i2
    have hp1 : (0 : Int) < (k : Int) := by omega
    have hs0 : (0 : Int) ≤ (k : Int) - 1 := by omega
    have hs1 : (k : Int) - 1 < (q.length : Int) := by rw [HQl.out]; omega
    have HLs := Lib.hid (fun W => isLess_any r y W)
    have hbD : Below w4.heap.size w4 w4.drew := (Below.refl _ _).drew
    have hwk : IntKind.i64.wrap ((k : Int) - 1) = (k : Int) - 1 := by rw [IntKind.wrap_i64]; omega
    have hp4 : (1 : Int) ≤ (k : Int) := by omega
    clear d0 d1 d2
    obtain ⟨d0, d1, d2⟩ := CR.out _ hbD
    obtain ⟨cy0, cy1, cy2⟩ := KC.out _ (hbo4.trans (hbD.mono hbo4.size))
    have H0 := Lib.hid h0
    have HPv := Lib.hid hpv
    clear hy hcast hyc y0 y1 y2 hpv ho
    generalize lessR r y = less at *
    go_wp2_with fail
    go_region_held3 (fun w' => w'.cell? ⟨T3, 0, none⟩ = some (S r.part) ∧ w'.cell? ⟨T3, 1, none⟩ = some (.int .i64 r.key) ∧ w'.cell? ⟨T3, 2, none⟩ = some (.int .i64 r.val) ∧ w'.cell? ⟨g', (k - 1) * 3, none⟩ = some (S y.part) ∧ w'.cell? ⟨g', (k - 1) * 3 + 1, none⟩ = some (.int .i64 y.key) ∧ w'.cell? ⟨g', (k - 1) * 3 + 2, none⟩ = some (.int .i64 y.val)) (exact ⟨d0, d1, d2, cy0, cy1, cy2⟩) ((go_at_call 116; (with_reducible refine (HLs.out _).mono ?_); rintro e wq ⟨rfl, hbq⟩; have hbq' := hbD.trans (hbq.mono hbD.size); have hboq := hbo4.trans (hbq'.mono hbo4.size); clear d0 d1 d2 cy0 cy1 cy2; obtain ⟨d0, d1, d2⟩ := CR.out _ hbq'; obtain ⟨cy0, cy1, cy2⟩ := KC.out _ hboq))
    all_goals
      have hb0q := hb02.trans (hboq.mono hb02.size)
      have hbwq := hbwo.trans (hboq.mono hbwo.size)
      cases less with
      | true =>
        have HLf : Hid (lineF (dataBad ls) ls k = 9) := Lib.hid (by rw [HBd.out, if_pos ⟨H0.out, HPv.out.2 rfl⟩])
        have HNe : Hid (dataE s = .loc 9 k) := Lib.hid (HE2.out (firstErr_hit (by omega) hj.out (by rw [HLf.out]; decide)) |>.trans (by rw [HLf.out]))
        have hg := HG.out _ (hb0q)
        have c0' : wq.cell? ⟨w.heap.size, 0, none⟩ = some (.int .i64 0) := by simp [World.cell?, hg]
        have c1' : wq.cell? ⟨w.heap.size, 1, none⟩ = some (.int .i64 0) := by simp [World.cell?, hg]
        have f0' : wq.frozen? ⟨w.heap.size, 0, none⟩ = false := by simp [World.frozen?, hg]
        have f1' : wq.frozen? ⟨w.heap.size, 1, none⟩ = false := by simp [World.frozen?, hg]
        have HGg := Lib.hid hg; clear hg
        go_wp2_with fail
        exact rd_bad rfl rfl (by rw [HNe.out]; simp) (by rw [HNe.out]; rfl) (by rw [HNe.out]; rfl) HGg.out hbwq
      | false =>
        have HLf0 : Hid (lineF (dataBad ls) ls k = 0) := Lib.hid (by rw [HBd.out, if_neg (fun h => Bool.false_ne_true (HPv.out.1 h.2))])
        clear cy0 cy1 cy2
        have ho4 := HO.out.below hboq
        have hb24 := hb.trans (hboq.mono hb.size)
        go_wp2_with (at_builtin; refine wpList_app rfl _ _ _ rfl w2.heap.size elRw _ q.length _ rfl (ho4.alloc _) (.slice (some ⟨wq.heap.size, 0, none⟩) 1 1) 1 (encR r) rfl (src_one rfl rfl (by simp [Value.oneCell'])) (by rw [HQl.out]; unfold maxLen; omega) (by rw [HQl.out]; omega) (by have := hb24.size; simp; omega) ?_; intro v' w5 hown5 hg5 _)
        go_roundw
        case rel => exact ⟨rfl, k + 1, hk1, by go_num, Lib.hid (fun j hj' => by
            rcases Nat.lt_or_ge j k with h | h
            · exact hj.out j h
            · obtain rfl : j = k := by omega
              exact HLf0.out), by rw [HSn.out]; exact Own.snoc hown5, Bapp (hb24.alloc hb24.size _) (ho4.alloc _) hg5 (Nat.le_refl _) (by have := hb24.size; simp; omega)⟩
        case measure => simp [intOf]; omega
end Go.Proofs.YtpfohfihkmjnaaaGreatDoor
