/- The document's answer on files and lists: ReadFile, ReadList, AddOf, RemoveOf: the walks. The document's answer on parts: SpecOf, GroupOf: the walks. The checksum in plain words: of each byte what its bits make; one byte another one, and the sum is another one. Of no program. Texts in a block: a head of a word and four numbers, a body of lines; one byte of it turned. In plain words. The document's answer on lists: ReadList: the walk. deedboxref3.With: the walk. -/
import Derived.Test.YtlfkjbdkbdcdnaaGreatDoorBx11
import Derived.Test.YtlfkjbdkbdcdnaaGreatDoorBx9
import Derived.Test.YtlfkjbdkbdcdnaaGreatDoorBx6
import Derived.Test.YtlfkjbdkbdcdnaaGreatDoorBx1
import Derived.Test.YtlfkjbdkbdcdnaaGreatDoorBx3
import Derived.Test.YtlfkjbdkbdcdnaaGreatDoorBx4
import Derived.Test.YtlfkjbdkbdcdnaaGreatDoorBx2
import Derived.Outline
import Derived.Deep.CutBlock
import Derived.Deep.DeepCutAuto
import Derived.Deep.RegionWith
namespace Go.Proofs.YtlfkjbdkbdcdnaaGreatDoor
open Go.RowKit

theorem cut32_any (s : Str) (w : World) (hs : s.length ≤ 100000) :
    Calls Tryz.prog 73 #[S s, .int .u8 32] w fun e w' => ∃ v', e = .returned v' ∧ Own encS 9 1 w.heap.size w' v' (cutAt 32 s) ∧ Below w.heap.size w w' := refCut_any s 32 w hs
theorem cut10_any (s : Str) (w : World) (hs : s.length ≤ 100000) :
    Calls Tryz.prog 73 #[S s, .int .u8 10] w fun e w' => ∃ v', e = .returned v' ∧ Own encS 9 1 w.heap.size w' v' (cutAt 10 s) ∧ Below w.heap.size w w' := refCut_any s 10 w hs

abbrev z6 : Array Value := #[S [], S [], .int .i64 0, .int .i64 0, .int .i64 0, .int .i64 0]
set_option maxHeartbeats 1000000 in
set_option maxRecDepth 20000 in
theorem refReadFile_any (s : Str) (w : World) (hs : s.length ≤ 10000) :
    Calls Tryz.prog 51 #[S s] w fun e w' => e = .returned (.tuple #[fileV (fileRead s).1, .int .i64 ((fileRead s).2 : Nat)]) ∧ Below w.heap.size w w' := by
  have hwl : (cutAt 32 s).length ≤ 10001 := by
    have := cutAt_length 32 s
    have h2 : s.count 32 ≤ s.length := List.count_le_length
    omega
  have hwp : 0 < (cutAt 32 s).length := by rw [cutAt_length]; omega
  have hws : ∀ p ∈ cutAt 32 s, p.length ≤ 10000 := fun p hp => by
    have := cutAt_mem_len (c := 32) hp; omega
  have hba : Below w.heap.size w (w.alloc (.cells #[S [], S [], .int .i64 0, .int .i64 0, .int .i64 0, .int .i64 0] 79)) := (Below.refl _ _).alloc (Nat.le_refl _) _
  have hsp := cut32_any s (w.alloc (.cells #[S [], S [], .int .i64 0, .int .i64 0, .int .i64 0, .int .i64 0] 79)) (by omega)
  have hcs := fun w6 (h : Below (w.alloc (.cells #[S [], S [], .int .i64 0, .int .i64 0, .int .i64 0, .int .i64 0] 79)).heap.size (w.alloc (.cells #[S [], S [], .int .i64 0, .int .i64 0, .int .i64 0, .int .i64 0] 79)) w6) => fileCells (f := zeroF) rfl h
  have CZ := Lib.hid hcs; clear hcs
  have hhg := fun w6 (h : Below (w.alloc (.cells #[S [], S [], .int .i64 0, .int .i64 0, .int .i64 0, .int .i64 0] 79)).heap.size (w.alloc (.cells #[S [], S [], .int .i64 0, .int .i64 0, .int .i64 0, .int .i64 0] 79)) w6) => (h.block w.heap.size (by simp)).trans (heap_alloc_new w (.cells #[S [], S [], .int .i64 0, .int .i64 0, .int .i64 0, .int .i64 0] 79))
  have HG := Lib.hid hhg; clear hhg
  by_cases h6 : (cutAt 32 s).length = 6
  case neg =>
    have HF := Lib.hid (fileRead_none (fileOf_len h6))
    have g6 : (((cutAt 32 s).length : Int) != 6) = true := by simp; omega
    clear hws
    go_enter Tryz.func51, Tryz.ntmps51
    go_wp2_with fail
    generalize w.alloc (.cells #[S [], S [], .int .i64 0, .int .i64 0, .int .i64 0, .int .i64 0] 79) = w1 at *
    refine hsp.mono ?_
    rintro e w2 ⟨v', rfl, hown, hb2⟩
    have hb2' := hba.trans (hb2.mono hba.size)
    obtain ⟨g', cap, cur, rfl, -⟩ := hown.open hwp
    obtain ⟨c0, c1, c2, c3, c4, c5⟩ := CZ.out _ hb2
    have hg2 := HG.out _ hb2
    have fz : ∀ j, w2.frozen? ⟨w.heap.size, j, none⟩ = false := fun j => frozen_row hg2
    have f0 := fz 0; have f1 := fz 1; have f2 := fz 2; have f3 := fz 3; have f4 := fz 4; have f5 := fz 5
    have HGz := Lib.hid hg2
    clear fz hg2 hown
    generalize cutAt 32 s = W at *
    go_wp2_with fail
    refine bodyPost_ret (ret_row rfl _ _ w.heap.size 79 z6 (0, 0) _ rfl (six_new HGz.out _ _ _ _ _ _) Tryz.underlying79 rfl (by kernel_rfl)) rfl ⟨?_, six_below hb2' (Nat.le_refl _) _ _ _ _ _ _⟩
    rw [HF.out]; rfl
  obtain ⟨p, q, n1, n2, n3, n4, hW⟩ := six_strs h6
  rw [hW] at hsp hws
  have hfo : fileOf (cutAt 32 s) = match numsOf [n1, n2, n3, n4] with | some [n, lo, hi, seq] => some ⟨p, q, n, lo, hi, seq⟩ | _ => none := by rw [hW]; rfl
  have HFO := Lib.hid hfo; have HWS := Lib.hid hws
  clear hfo hws hW h6 hwl hwp
  go_enter Tryz.func51, Tryz.ntmps51
  go_wp2_with fail
  generalize w.alloc (.cells #[S [], S [], .int .i64 0, .int .i64 0, .int .i64 0, .int .i64 0] 79) = w1 at *
  refine hsp.mono ?_
  rintro e w2 ⟨v', rfl, hown, hb2⟩
  have hb2' := hba.trans (hb2.mono hba.size)
  obtain ⟨a', c', b', o', hv', ha', hc', hcm', hx'⟩ := hown.at encS_enc
  subst hv'
  obtain rfl := ha' (by simp)
  obtain ⟨b3, o3, c3, hrun, hat3⟩ := slice_from (enc := encS) (sz := 1) Tryz.underlying107 szStr ha' hc' hcm' hx' 2 (by simp) (by simp)
  have x0 := hx' 0 _ rfl 0 _ rfl
  have x1 := hx' 1 _ rfl 0 _ rfl
  simp only [List.length_cons, List.length_nil, Nat.zero_add, Nat.reduceAdd, Nat.reduceSub, Nat.mul_one, Nat.add_zero, List.drop_succ_cons, List.drop_zero] at hrun hat3 x0 x1
  have e2 : ((2 : Nat) : Int) = 2 := rfl
  rw [e2] at hrun
  clear ha' hx' hown hcm' e2 hsp
  have hl6 : [p, q, n1, n2, n3, n4].length = 6 := rfl
  rw [hl6] at hc' ⊢
  go_wp2_with fail
  refine (numbersOf_any _ [n1, n2, n3, n4] _ hat3 (by simp) (fun x hx => by have := HWS.out x (by simp at hx ⊢; rcases hx with h | h | h | h <;> simp [h]); omega)).mono ?_
  rintro e w3 ⟨v', rfl, hv1, hv2, hb3⟩
  have hb31 := hb2.trans (hb3.mono hb2.size)
  have hb3' := hb2'.trans (hb3.mono hb2'.size)
  have y0 := (hb3.cell (World.block_lt_of_cell? w2 _ x0)).trans x0
  have y1 := (hb3.cell (World.block_lt_of_cell? w2 _ x1)).trans x1
  clear hrun hat3 x0 x1 hl6
  cases hn : numsOf [n1, n2, n3, n4] with
  | none =>
    rw [hn] at hv2
    obtain rfl := hv2 rfl
    have HF := Lib.hid (fileRead_none (s := s) (by rw [HFO.out, hn]))
    clear hn hv1 hv2
    simp only [Option.isSome_none]
    obtain ⟨c0, c1, c2, c3, c4, c5⟩ := CZ.out _ hb31
    have hg2 := HG.out _ hb31
    have fz : ∀ j, w3.frozen? ⟨w.heap.size, j, none⟩ = false := fun j => frozen_row hg2
    have f0 := fz 0; have f1 := fz 1; have f2 := fz 2; have f3 := fz 3; have f4 := fz 4; have f5 := fz 5
    have HGz := Lib.hid hg2
    clear fz hg2
    go_wp2_with fail
    refine bodyPost_ret (ret_row rfl _ _ w.heap.size 79 z6 (0, 0) _ rfl (six_new HGz.out _ _ _ _ _ _) Tryz.underlying79 rfl (by kernel_rfl)) rfl ⟨?_, six_below hb3' (Nat.le_refl _) _ _ _ _ _ _⟩
    rw [HF.out]; rfl
  | some ns =>
    have hown := hv1 ns hn
    have hnl := mapM_len _ hn
    obtain ⟨m1, m2, m3, m4, rfl⟩ := four_ints (l := ns) (by simpa using hnl)
    have HF := Lib.hid (fileRead_some (s := s) (f := ⟨p, q, m1, m2, m3, m4⟩) (by rw [HFO.out, hn]))
    clear hn hv1 hv2 hnl
    simp only [Option.isSome_some]
    obtain ⟨a4, c4, b4, o4, hv4, ha4, hc4, hcm4, hx4⟩ := hown.at encI_enc
    subst hv4
    obtain rfl := ha4 (by simp)
    have z0 := hx4 0 _ rfl 0 _ rfl
    have z1 := hx4 1 _ rfl 0 _ rfl
    have z2 := hx4 2 _ rfl 0 _ rfl
    have z3 := hx4 3 _ rfl 0 _ rfl
    simp only [Nat.mul_one, Nat.add_zero] at z0 z1 z2 z3
    have hl4 : [m1, m2, m3, m4].length = 4 := rfl
    rw [hl4]
    clear hx4 hown ha4 hc4 hcm4 hl4
    have hks := fun w6 (h : Below w3.heap.size w3 w6) => (⟨(h.cell (World.block_lt_of_cell? w3 _ y0)).trans y0, (h.cell (World.block_lt_of_cell? w3 _ y1)).trans y1, (h.cell (World.block_lt_of_cell? w3 _ z0)).trans z0, (h.cell (World.block_lt_of_cell? w3 _ z1)).trans z1, (h.cell (World.block_lt_of_cell? w3 _ z2)).trans z2, (h.cell (World.block_lt_of_cell? w3 _ z3)).trans z3⟩ : _ ∧ _ ∧ _ ∧ _ ∧ _ ∧ _)
    have KS := Lib.hid hks; clear hks
    go_wp2_with fail
    go_region_held3 (fun w' => w'.cell? ⟨b', o', none⟩ = some (S p) ∧ w'.cell? ⟨b', o' + 1, none⟩ = some (S q) ∧ w'.cell? ⟨b4, o4, none⟩ = some (.int .i64 m1) ∧ w'.cell? ⟨b4, o4 + 1, none⟩ = some (.int .i64 m2) ∧ w'.cell? ⟨b4, o4 + 2, none⟩ = some (.int .i64 m3) ∧ w'.cell? ⟨b4, o4 + 3, none⟩ = some (.int .i64 m4)) (first | exact ⟨y0, y1, z0, z1, z2, z3⟩ | exact KS.out _ (((Below.refl _ _).alloc (Nat.le_refl _) _).drew) | exact KS.out _ ((Below.refl _ _).drew.alloc (Nat.le_refl _) _)) (fail)
    have hb4 : Below w3.heap.size w3 (w3.alloc (.cells #[S p, S q, .int .i64 m1, .int .i64 m2, .int .i64 m3, .int .i64 m4] 79)).drew := ((Below.refl _ _).alloc (Nat.le_refl _) _).drew
    have CF := Lib.hid (fun w6 (h : Below (w3.alloc (.cells #[S p, S q, .int .i64 m1, .int .i64 m2, .int .i64 m3, .int .i64 m4] 79)).heap.size (w3.alloc (.cells #[S p, S q, .int .i64 m1, .int .i64 m2, .int .i64 m3, .int .i64 m4] 79)).drew w6) => fileCells (f := ⟨p, q, m1, m2, m3, m4⟩) rfl (((Below.refl _ _).drew).trans h))
    have hsz : (w3.alloc (.cells #[S p, S q, .int .i64 m1, .int .i64 m2, .int .i64 m3, .int .i64 m4] 79)).heap.size = (w3.alloc (.cells #[S p, S q, .int .i64 m1, .int .i64 m2, .int .i64 m3, .int .i64 m4] 79)).drew.heap.size := rfl
    rw [hsz] at CF
    generalize (w3.alloc (.cells #[S p, S q, .int .i64 m1, .int .i64 m2, .int .i64 m3, .int .i64 m4] 79)).drew = w4 at *
    have hb4' := hb3'.trans (hb4.mono hb3'.size)
    have hb41 := hb31.trans (hb4.mono hb31.size)
    obtain ⟨c0, c1, c2, c3, c4, c5⟩ := CF.out w4 (Below.refl _ _)
    clear y0 y1 z0 z1 z2 z3 hsz
    go_wp2_with fail
    refine (fileError_any ⟨p, q, m1, m2, m3, m4⟩ _ ⟨by have := HWS.out p (by simp); show p.length ≤ _; omega, by have := HWS.out q (by simp); show q.length ≤ _; omega⟩).mono ?_
    rintro e w5 ⟨rfl, hb5⟩
    have hb5' := hb4'.trans (hb5.mono hb4'.size)
    have hb51 := hb41.trans (hb5.mono hb41.size)
    have hg2 := HG.out _ hb51
    have fz : ∀ j, w5.frozen? ⟨w.heap.size, j, none⟩ = false := fun j => frozen_row hg2
    have f0 := fz 0; have f1 := fz 1; have f2 := fz 2; have f3 := fz 3; have f4 := fz 4; have f5 := fz 5
    have HGz := Lib.hid hg2
    obtain ⟨d0, d1, d2, d3, d4, d5⟩ := CZ.out _ hb51
    clear c0 c1 c2 c3 c4 c5 fz hg2
    obtain ⟨c0, c1, c2, c3, c4, c5⟩ := CF.out w5 hb5
    by_cases hck : checkF ⟨p, q, m1, m2, m3, m4⟩ = 0
    case neg =>
      have HR : Hid (fileRead s = (zeroF, checkF ⟨p, q, m1, m2, m3, m4⟩)) := Lib.hid (by rw [HF.out, if_neg hck])
      have g1 : (0 : Int) < ((checkF ⟨p, q, m1, m2, m3, m4⟩ : Nat) : Int) := by omega
      clear hck
      generalize checkF ⟨p, q, m1, m2, m3, m4⟩ = ce at *
      go_wp2_with fail
      refine bodyPost_ret (ret_row rfl _ _ w.heap.size 79 z6 (0, 0) _ rfl (six_new HGz.out _ _ _ _ _ _) Tryz.underlying79 rfl (by kernel_rfl)) rfl ⟨?_, six_below hb5' (Nat.le_refl _) _ _ _ _ _ _⟩
      rw [HR.out]; rfl
    have HR : Hid (fileRead s = (⟨p, q, m1, m2, m3, m4⟩, 0)) := Lib.hid (by rw [HF.out, if_pos hck])
    rw [hck]
    clear hck
    go_wp2_with fail
    refine bodyPost_ret (ret_row rfl _ _ w.heap.size 79 #[S p, S q, .int .i64 m1, .int .i64 m2, .int .i64 m3, .int .i64 m4] (0, 0) _ rfl (six_new HGz.out _ _ _ _ _ _) Tryz.underlying79 rfl (by kernel_rfl)) rfl ⟨?_, six_below hb5' (Nat.le_refl _) _ _ _ _ _ _⟩
    rw [HR.out]; rfl
end Go.Proofs.YtlfkjbdkbdcdnaaGreatDoor
namespace Go.Proofs.YtlfkjbdkbdcdnaaGreatDoor
open Go.RowKit

theorem two_strs {l : List Str} (h : l.length = 2) : ∃ a b, l = [a, b] := by
  match l, h with
  | [a, b], _ => exact ⟨a, b, rfl⟩
theorem spec_two {s : Str} (h : s ≠ kPart) (h2 : (cutAt 32 s).length ≠ 2) : specOf s = ([], 0, 1) := by
  rw [spec_cut h]
  split
  · rename_i hc; rw [hc] at h2; exact absurd rfl h2
  · rfl
theorem tmod_up {a n : Int} (hn : 1 ≤ n) (h : a.tmod n < 0) : a.tmod n + n = a % n := by
  have h1 := Int.mul_tdiv_add_tmod a n
  have h3 := Int.lt_tmod_of_pos a (show 0 < n by omega)
  exact ((Int.ediv_emod_unique (a := a) (b := n) (q := a.tdiv n - 1) (r := a.tmod n + n) (by omega)).2 ⟨by rw [Int.mul_sub]; omega, by omega, by omega⟩).2.symm
theorem tmod_same {a n : Int} (hn : 1 ≤ n) (h : ¬ a.tmod n < 0) : a.tmod n = a % n := by
  have h1 := Int.mul_tdiv_add_tmod a n
  have h3 := Int.tmod_lt_of_pos a (show 0 < n by omega)
  exact ((Int.ediv_emod_unique (a := a) (b := n) (q := a.tdiv n) (r := a.tmod n) (by omega)).2 ⟨by omega, by omega, by omega⟩).2.symm
theorem tdiv_less {a n : Int} (hn : 1 ≤ n) : (a - a % n).tdiv n = a / n := by
  have e4 := Int.mul_ediv_add_emod a n
  rw [show a - a % n = n * (a / n) by omega]
  exact Int.mul_tdiv_cancel_left _ (by omega)

set_option maxHeartbeats 1000000 in
set_option maxRecDepth 20000 in
theorem refSpecOf_any (s : Str) (w : World) (hs : s.length ≤ 10000) :
    Calls Tryz.prog 23 #[S s] w fun e w' => e = .returned (.tuple #[S (specOf s).1, .int .i64 (specOf s).2.1, .int .i64 ((specOf s).2.2 : Nat)]) ∧ Below w.heap.size w w' := by
  by_cases hp : s = kPart
  · subst hp
    go_enter Tryz.func23, Tryz.ntmps23
    go_wp2_with fail
    go_ret3
    exact ⟨rfl, Below.refl _ _⟩
  have gp : (s == kPart) = false := by simpa using hp
  have hwl : (cutAt 32 s).length ≤ 10001 := by
    have := cutAt_length 32 s
    have h2 : s.count 32 ≤ s.length := List.count_le_length
    omega
  have hwp : 0 < (cutAt 32 s).length := by rw [cutAt_length]; omega
  have hws : ∀ p ∈ cutAt 32 s, p.length ≤ 10000 := fun p hp => by
    have := cutAt_mem_len (c := 32) hp; omega
  have hsp := cut32_any s w (by omega)
  by_cases h6 : (cutAt 32 s).length = 2
  case neg =>
    have HF := Lib.hid (spec_two hp h6)
    have g6 : (((cutAt 32 s).length : Int) != 2) = true := by simp; omega
    clear hws hp
    go_enter Tryz.func23, Tryz.ntmps23
    go_wp2_with fail
    refine hsp.mono ?_
    rintro e w2 ⟨v', rfl, hown, hb2⟩
    obtain ⟨g', cap, cur, rfl, -⟩ := hown.open hwp
    clear hown hsp
    generalize cutAt 32 s = W at *
    go_wp2_with fail
    go_ret3
    exact ⟨by rw [HF.out]; rfl, hb2⟩
  obtain ⟨k, d, hW⟩ := two_strs h6
  have hsc := spec_cut hp
  rw [hW] at hsp hws hsc
  have hdl := hws d (by simp)
  have hSq : specOf s = specIn k d true (numOf d) := hsc
  clear hws hsc hW h6 hwl hwp hp
  generalize specOf s = sp at *
  have hN := fun W => numberOf_any d W (by omega)
  simp only [numRef_eq] at hN
  obtain ⟨o, ho⟩ : ∃ o, numOf d = o := ⟨_, rfl⟩
  rw [ho] at hSq
  simp only [ho] at hN
  have HSq := Lib.hid hSq; have HN := Lib.hid hN
  clear hSq hN ho
  go_enter Tryz.func23, Tryz.ntmps23
  go_wp2_with fail
  refine hsp.mono ?_
  rintro e w2 ⟨v', rfl, hown, hb2⟩
  obtain ⟨a', c', b', o', hv', ha', hc', hcm', hx'⟩ := hown.at encS_enc
  subst hv'
  obtain rfl := ha' (by simp)
  have x0 := hx' 0 _ rfl 0 _ rfl
  have x1 := hx' 1 _ rfl 0 _ rfl
  have ix := fun (j : Nat) (hj : j < 2) => idx_at (P := Tryz.prog) (c := c') (o := o') (b := b') (n := 2) 1 Tryz.underlying107 szStr (fun _ => rfl) j hj
  have i0 := ix 0 (by omega); have i1 := ix 1 (by omega)
  have e0 : ((0 : Nat) : Int) = 0 := rfl
  have e1 : ((1 : Nat) : Int) = 1 := rfl
  rw [e0] at i0; rw [e1] at i1
  simp only [List.length_cons, List.length_nil, Nat.zero_add, Nat.reduceAdd, Nat.mul_one, Nat.add_zero] at x0 x1 i0 i1 hc'
  have hl2 : [k, d].length = 2 := rfl
  rw [hl2]
  clear ha' hx' hown hcm' e0 e1 ix hl2 hsp
  go_wp2_with fail
  refine (HN.out _).mono ?_
  rintro e w3 ⟨rfl, rfl⟩
  cases o with
  | none =>
    have hp : sp = ([], 0, 1) := by rw [HSq.out]; rfl
    subst hp
    go_wp2_with fail
    go_ret3
    exact ⟨rfl, hb2⟩
  | some n =>
    have q1 : (some n).getD 0 = n := rfl
    have q2 : (some n).isSome = true := rfl
    rw [q1, q2]
    clear q1 q2
    by_cases h0 : n < 0
    case pos =>
      have hp : sp = ([], 0, 1) := by rw [HSq.out]; unfold specIn; simp only; rw [if_neg (by omega)]
      subst hp
      go_wp2_with fail
      go_ret3
      exact ⟨rfl, hb2⟩
    have g0 : decide (n < 0) = false := by simpa using h0
    by_cases h9 : d.length ≤ 9
    case neg =>
      have hp : sp = ([], 0, 1) := by rw [HSq.out]; unfold specIn; simp only; rw [if_neg (by omega)]
      subst hp
      have g9 : (9 : Int) < (d.length : Int) := by omega
      clear h9
      go_wp2_with fail
      go_ret3
      exact ⟨rfl, hb2⟩
    have g9 : decide ((9 : Int) < (d.length : Int)) = false := by simp; omega
    by_cases hk1 : k = kBucket ∨ k = kTrunc
    case neg =>
      have g1 : (k == kBucket) = false := by simp only [beq_eq_false_iff_ne]; exact fun e => hk1 (.inl e)
      have g2 : (k == kTrunc) = false := by simp only [beq_eq_false_iff_ne]; exact fun e => hk1 (.inr e)
      have hp : sp = ([], 0, 1) := by
        rw [HSq.out]; unfold specIn; simp only
        rw [if_neg (fun h => hk1 h.2.1)]
      subst hp
      clear hk1
      go_wp2_with fail
      go_ret3
      exact ⟨rfl, hb2⟩
    have hsq := HSq.out
    unfold specIn at hsq
    simp only at hsq
    rw [if_pos ⟨trivial, hk1, by omega, h9⟩] at hsq
    by_cases h1 : n < 1 ∨ 1000 < n
    case pos =>
      rw [if_pos h1] at hsq
      subst hsq
      clear HSq h9
      by_cases h1' : n < 1
      · clear h1
        rcases hk1 with rfl | rfl
        all_goals
          go_wp2_with fail
          go_ret3
          exact ⟨rfl, hb2⟩
      · have g1 : decide (n < 1) = false := by simpa using h1'
        have h2 : 1000 < n := by omega
        clear h1 h1'
        rcases hk1 with rfl | rfl
        all_goals
          go_wp2_with fail
          go_ret3
          exact ⟨rfl, hb2⟩
    rw [if_neg h1] at hsq
    subst hsq
    have g1 : decide (n < 1) = false := by simp; omega
    have g2 : decide (1000 < n) = false := by simp; omega
    clear HSq h9 h1 h0
    rcases hk1 with rfl | rfl
    all_goals
      go_wp2_with fail
      go_ret3
      exact ⟨rfl, hb2⟩
set_option maxHeartbeats 1000000 in
set_option maxRecDepth 20000 in
theorem refGroupOf_any (s : Str) (r : Rw) (w : World) (hs : s.length ≤ 10000) (hsp : (specOf s).2.2 = 0) (hr : rowCheck r = 0) :
    Calls Tryz.prog 27 #[S s, rowV r] w fun e w' => e = .returned (S (groupOf s r)) ∧ Below w.heap.size w w' := by
  obtain ⟨-, hfar, -⟩ := rowCheck_zero hr
  have hb0 : Below w.heap.size w (w.alloc (.cells #[S r.part, .int .i64 r.key, .int .i64 r.val] 36)) := (Below.refl _ _).alloc (Nat.le_refl _) _
  have Cs := Lib.hid (fun w6 (h : Below (w.alloc (.cells #[S r.part, .int .i64 r.key, .int .i64 r.val] 36)).heap.size (w.alloc (.cells #[S r.part, .int .i64 r.key, .int .i64 r.val] 36)) w6) => rowCells (r := r) rfl h)
  have HS := Lib.hid (fun W => refSpecOf_any s W hs)
  have hk := spec_right hsp
  have HG : Hid (groupOf s r = groupIn (specOf s).1 (specOf s).2.1 r) := Lib.hid rfl
  rw [hsp] at HS
  generalize (specOf s).1 = k at *
  generalize (specOf s).2.1 = n at *
  have hz : ((0 : Nat) : Int) = 0 := rfl
  rw [hz] at HS
  clear hz
  by_cases hp : k = kPart
  · subst hp
    have HG' : Hid (groupOf s r = r.part) := Lib.hid (by rw [HG.out]; exact if_pos rfl)
    clear hk
    go_enter Tryz.func27, Tryz.ntmps27
    go_wp2_with fail
    generalize w.alloc (.cells #[S r.part, .int .i64 r.key, .int .i64 r.val] 36) = w1 at *
    refine (HS.out _).mono ?_
    rintro e w2 ⟨rfl, hb2⟩
    obtain ⟨c0, c1, c2⟩ := Cs.out _ hb2
    go_wp2_with fail
    go_ret
    exact ⟨by rw [HG'.out]; rfl, hb0.trans (hb2.mono hb0.size)⟩
  obtain ⟨hk1, hn1, hn2⟩ := hk.resolve_left hp
  have gp : (k == kPart) = false := by simpa using hp
  obtain ⟨-, -, ⟨q1, q2⟩, -⟩ := floor_bound hn1 hn2 hfar
  have e5 := Int.emod_nonneg r.key (show n ≠ 0 by omega)
  have e6 := Int.emod_lt_of_pos r.key (show 0 < n by omega)
  have e7 := Int.tmod_lt_of_pos r.key (show 0 < n by omega)
  have e8 := Int.lt_tmod_of_pos r.key (show 0 < n by omega)
  have etd := tdiv_less (a := r.key) hn1
  have hz : n ≠ 0 := by omega
  have hz2 : (n == 0) = false := by simpa using hz
  unfold farN at hfar
  have f1 : -1073741824 ≤ r.key := by omega
  have f2 : r.key ≤ 1073741824 := by omega
  have hl1 := itoa_len (r.key % n) (by omega) (by omega)
  have hl2 := itoa_len (-(r.key / n)) (by omega) (by omega)
  have hl3 := itoa_len (r.key / n) (by omega) (by omega)
  have hI1 := fun W => decimal_any (r.key % n) W (by omega) (by omega)
  have hI2 := fun W => decimal_any (-(r.key / n)) W (by omega) (by omega)
  have hI3 := fun W => decimal_any (r.key / n) W (by omega) (by omega)
  have htm := fun h => tmod_up (a := r.key) hn1 h
  have hts := fun h => tmod_same (a := r.key) hn1 h
  have hGB : k = kBucket → groupOf s r = 98 :: Lib.itoa (r.key % n) := fun h => by rw [HG.out]; unfold groupIn; rw [if_neg hp, if_pos h]
  have hGN : k = kTrunc → r.key / n < 0 → groupOf s r = 110 :: Lib.itoa (-(r.key / n)) := fun h h2 => by rw [HG.out]; unfold groupIn; rw [if_neg hp, if_neg (by rw [h]; decide), if_pos h2]
  have hGT : k = kTrunc → ¬ r.key / n < 0 → groupOf s r = 116 :: Lib.itoa (r.key / n) := fun h h2 => by rw [HG.out]; unfold groupIn; rw [if_neg hp, if_neg (by rw [h]; decide), if_neg h2]
  generalize Lib.itoa (r.key % n) = t1 at *
  generalize Lib.itoa (-(r.key / n)) = t2 at *
  generalize Lib.itoa (r.key / n) = t3 at *
  generalize r.key % n = m at *
  generalize r.key / n = q at *
  have a1 := cat_run ⟨#[98]⟩ ⟨t1.toArray⟩ 1 t1.length rfl rfl (by omega)
  have a2 := cat_run ⟨#[110]⟩ ⟨t2.toArray⟩ 1 t2.length rfl rfl (by omega)
  have a3 := cat_run ⟨#[116]⟩ ⟨t3.toArray⟩ 1 t3.length rfl rfl (by omega)
  have HI1 := Lib.hid hI1; have HI2 := Lib.hid hI2; have HI3 := Lib.hid hI3
  have HGB := Lib.hid hGB; have HGN := Lib.hid hGN; have HGT := Lib.hid hGT
  have HTm := Lib.hid htm; have HTs := Lib.hid hts
  clear hI1 hI2 hI3 hGB hGN hGT htm hts hfar hk hp HG hl1 hl2 hl3
  go_enter Tryz.func27, Tryz.ntmps27
  go_wp2_with fail
  generalize w.alloc (.cells #[S r.part, .int .i64 r.key, .int .i64 r.val] 36) = w1 at *
  refine (HS.out _).mono ?_
  rintro e w2 ⟨rfl, hb2⟩
  have hb2' := hb0.trans (hb2.mono hb0.size)
  obtain ⟨c0, c1, c2⟩ := Cs.out _ hb2
  have hwq : wrap64 (r.key - m) = r.key - m := IntWalk.wrap64_in _ ⟨by omega, by omega⟩
  by_cases ht : r.key.tmod n < 0
  all_goals
    first
      | (have hm := HTm.out ht
         have hwm : wrap64 (r.key.tmod n + n) = m := by rw [hm]; exact IntWalk.wrap64_in _ ⟨by omega, by omega⟩)
      | (have hm := HTs.out (by omega)
         have hwm : decide (m < 0) = false := by simp; omega)
    by_cases hb : k = kBucket
    · subst hb
      have HGB' := Lib.hid (HGB.out rfl)
      clear hk1
      go_wp2_with fail
      refine (HI1.out _).mono ?_
      rintro e w3 ⟨rfl, hb3⟩
      go_wp2_with fail
      go_ret
      refine ⟨?_, hb2'.trans (hb3.mono hb2'.size)⟩
      show Ending.returned (.string ((⟨#[98]⟩ : ByteArray) ++ ⟨t1.toArray⟩)) = _
      rw [HGB'.out, itoa_byte]
    obtain rfl : k = kTrunc := hk1.resolve_left hb
    clear hk1 hb gp
    by_cases hq : q < 0
    · have HGN' := Lib.hid (HGN.out rfl hq)
      go_wp2_with fail
      refine (HI2.out _).mono ?_
      rintro e w3 ⟨rfl, hb3⟩
      go_wp2_with fail
      go_ret
      refine ⟨?_, hb2'.trans (hb3.mono hb2'.size)⟩
      show Ending.returned (.string ((⟨#[110]⟩ : ByteArray) ++ ⟨t2.toArray⟩)) = _
      rw [HGN'.out, itoa_byte]
    · have HGT' := Lib.hid (HGT.out rfl (by omega))
      have gq : decide (q < 0) = false := by simpa using hq
      go_wp2_with fail
      refine (HI3.out _).mono ?_
      rintro e w3 ⟨rfl, hb3⟩
      go_wp2_with fail
      go_ret
      refine ⟨?_, hb2'.trans (hb3.mono hb2'.size)⟩
      show Ending.returned (.string ((⟨#[116]⟩ : ByteArray) ++ ⟨t3.toArray⟩)) = _
      rw [HGT'.out, itoa_byte]
end Go.Proofs.YtlfkjbdkbdcdnaaGreatDoor
namespace Go.Proofs.YtlfkjbdkbdcdnaaGreatDoor

def crcP : Nat := 3988292384
def crcBit (x : Nat) : Nat := if x % 2 = 1 then x / 2 ^^^ crcP else x / 2
def crcIter : Nat → Nat → Nat
  | 0, x => x
  | k + 1, x => crcIter k (crcBit x)
def crcStep (c : Nat) (b : UInt8) : Nat := crcIter 8 (c ^^^ b.toNat)
def crcFold (c : Nat) (s : Str) : Nat := s.foldl crcStep c
def sumOf (s : Str) : Nat := crcFold 4294967295 s ^^^ 4294967295

theorem xor_canc {a b c : Nat} (h : a ^^^ c = b ^^^ c) : a = b := by
  have := congrArg (· ^^^ c) h
  simpa [Nat.xor_assoc] using this
theorem xor_cancl {a b c : Nat} (h : c ^^^ a = c ^^^ b) : a = b := xor_canc (c := c) (by rw [Nat.xor_comm a, Nat.xor_comm b]; exact h)
theorem crcBit_lt {x : Nat} (h : x < 4294967296) : crcBit x < 4294967296 := by
  unfold crcBit crcP
  split
  · exact Nat.xor_lt_two_pow (n := 32) (by omega) (by omega)
  · omega
theorem crcBit_inj {x y : Nat} (hx : x < 4294967296) (hy : y < 4294967296) (h : crcBit x = crcBit y) : x = y := by
  have t : ∀ a : Nat, a < 2 ^ 31 → (a ^^^ crcP).testBit 31 = true := fun a ha => by
    rw [Nat.testBit_xor, Nat.testBit_lt_two_pow ha]; decide
  have f : ∀ a : Nat, a < 2 ^ 31 → a.testBit 31 = false := fun a ha => Nat.testBit_lt_two_pow ha
  unfold crcBit at h
  split at h <;> split at h
  · have := xor_canc h; omega
  · have h1 := t (x / 2) (by omega); rw [h, f (y / 2) (by omega)] at h1; cases h1
  · have h1 := t (y / 2) (by omega); rw [← h, f (x / 2) (by omega)] at h1; cases h1
  · omega
theorem crcIter_lt : ∀ (k : Nat) {x : Nat}, x < 4294967296 → crcIter k x < 4294967296
  | 0, _, h => h
  | k + 1, _, h => crcIter_lt k (crcBit_lt h)
theorem crcIter_inj : ∀ (k : Nat) {x y : Nat}, x < 4294967296 → y < 4294967296 → crcIter k x = crcIter k y → x = y
  | 0, _, _, _, _, h => h
  | k + 1, _, _, hx, hy, h => crcBit_inj hx hy (crcIter_inj k (crcBit_lt hx) (crcBit_lt hy) h)
theorem byte_lt (b : UInt8) : b.toNat < 256 := b.toNat_lt
theorem xor_byte {c : Nat} (h : c < 4294967296) (b : UInt8) : c ^^^ b.toNat < 4294967296 :=
  Nat.xor_lt_two_pow (n := 32) h (by have := byte_lt b; omega)
theorem crcStep_lt {c : Nat} (h : c < 4294967296) (b : UInt8) : crcStep c b < 4294967296 := crcIter_lt 8 (xor_byte h b)
theorem crcStep_state {c d : Nat} {b : UInt8} (hc : c < 4294967296) (hd : d < 4294967296) (h : crcStep c b = crcStep d b) : c = d :=
  xor_canc (crcIter_inj 8 (xor_byte hc b) (xor_byte hd b) h)
theorem crcStep_byte {c : Nat} {a b : UInt8} (hc : c < 4294967296) (h : crcStep c a = crcStep c b) : a = b :=
  UInt8.toNat_inj.1 (xor_cancl (crcIter_inj 8 (xor_byte hc a) (xor_byte hc b) h))
theorem crcFold_lt : ∀ (s : Str) {c : Nat}, c < 4294967296 → crcFold c s < 4294967296
  | [], _, h => h
  | b :: r, _, h => crcFold_lt r (crcStep_lt h b)
theorem crcFold_inj : ∀ (s : Str) {c d : Nat}, c < 4294967296 → d < 4294967296 → crcFold c s = crcFold d s → c = d
  | [], _, _, _, _, h => h
  | b :: r, _, _, hc, hd, h => crcStep_state hc hd (crcFold_inj r (crcStep_lt hc b) (crcStep_lt hd b) h)
theorem crcFold_app (c : Nat) (p q : Str) : crcFold c (p ++ q) = crcFold (crcFold c p) q := List.foldl_append
theorem crcFold_snoc (c : Nat) (p : Str) (b : UInt8) : crcFold c (p ++ [b]) = crcStep (crcFold c p) b := by rw [crcFold_app]; rfl
theorem sumOf_lt (s : Str) : sumOf s < 4294967296 := Nat.xor_lt_two_pow (n := 32) (crcFold_lt s (by omega)) (by omega)
/-- One byte another one: another sum. -/
theorem sumOf_one {p q : Str} {a b : UInt8} (h : sumOf (p ++ a :: q) = sumOf (p ++ b :: q)) : a = b := by
  have h1 := xor_canc h
  rw [crcFold_app, crcFold_app] at h1
  have hc := crcFold_lt p (c := 4294967295) (by omega)
  exact crcStep_byte hc (crcFold_inj q (crcStep_lt hc a) (crcStep_lt hc b) h1)
theorem sumOf_set {s : Str} {i : Nat} {c x : UInt8} (hx : s[i]? = some x) (hne : x ≠ c) : sumOf (s.set i c) ≠ sumOf s := by
  obtain ⟨hi, rfl⟩ := List.getElem?_eq_some_iff.1 hx
  intro h
  have e1 : s.set i c = s.take i ++ c :: s.drop (i + 1) := List.set_eq_take_append_cons_drop.trans (if_pos hi)
  have e2 : s = s.take i ++ s[i] :: s.drop (i + 1) := by rw [← List.drop_eq_getElem_cons hi, List.take_append_drop]
  have e3 : sumOf s = sumOf (s.take i ++ s[i] :: s.drop (i + 1)) := congrArg sumOf e2
  rw [e1, e3] at h
  exact hne (sumOf_one h).symm

theorem crcIter_high : ∀ (k x h : Nat), crcIter k (x ^^^ 2 ^ k * h) = crcIter k x ^^^ h
  | 0, x, h => by simp [crcIter]
  | k + 1, x, h => by
    have e : crcBit (x ^^^ 2 ^ (k + 1) * h) = crcBit x ^^^ 2 ^ k * h := by
      have e0 : 2 ^ (k + 1) * h = 2 * (2 ^ k * h) := by rw [Nat.pow_succ, Nat.mul_comm (2 ^ k) 2, Nat.mul_assoc]
      rw [e0]
      generalize 2 ^ k * h = m
      have hm : (x ^^^ 2 * m) % 2 = x % 2 := by
        have := Nat.xor_mod_two_pow (a := x) (b := 2 * m) (n := 1)
        rw [Nat.pow_one, Nat.mul_mod_right, Nat.xor_zero] at this
        exact this
      have hd : (x ^^^ 2 * m) / 2 = x / 2 ^^^ m := by
        rw [Nat.xor_div_two]; congr 1; omega
      unfold crcBit
      rw [hm, hd]
      split
      · rw [Nat.xor_assoc, Nat.xor_comm m crcP, ← Nat.xor_assoc]
      · rfl
    rw [crcIter, e, crcIter_high k, crcIter]
theorem low_high (c : Nat) : c = c % 256 ^^^ 2 ^ 8 * (c / 256) := by
  apply Nat.eq_of_testBit_eq
  intro i
  rw [Nat.testBit_xor, Nat.testBit_two_pow_mul, show (256 : Nat) = 2 ^ 8 from rfl, Nat.testBit_mod_two_pow, Nat.testBit_div_two_pow]
  by_cases h : i < 8
  · have h' : ¬ 8 ≤ i := by omega
    simp [h, h']
  · have h' : 8 ≤ i := by omega
    simp [h, h']
/-- A round by the table. -/
theorem crc_table (c : Nat) (b : UInt8) : c / 256 ^^^ crcIter 8 (c % 256 ^^^ b.toNat) = crcStep c b := by
  unfold crcStep
  have e : c ^^^ b.toNat = (c % 256 ^^^ b.toNat) ^^^ 2 ^ 8 * (c / 256) := by
    rw [Nat.xor_assoc, Nat.xor_comm b.toNat, ← Nat.xor_assoc, ← low_high]
  rw [e, crcIter_high, Nat.xor_comm]
theorem crcIter_succ (k x : Nat) : crcIter (k + 1) x = crcBit (crcIter k x) := by
  induction k generalizing x with
  | zero => rfl
  | succ k ih => rw [crcIter, ih, crcIter]
end Go.Proofs.YtlfkjbdkbdcdnaaGreatDoor
namespace Go.Proofs.YtlfkjbdkbdcdnaaGreatDoor
open Go.RowKit

/-- The parts of a text that was cut, joined again. -/
def joinC (c : UInt8) : List Str → Str
  | [] => []
  | [x] => x
  | x :: y :: r => x ++ c :: joinC c (y :: r)
theorem joinC_head (c y : UInt8) (a : Str) : ∀ t : List Str, joinC c ((y :: a) :: t) = y :: joinC c (a :: t)
  | [] => rfl
  | _ :: _ => rfl
theorem join_cut (c : UInt8) : ∀ s : Str, joinC c (cutAt c s) = s
  | [] => rfl
  | x :: r => by
    have ih := join_cut c r
    have hne := cutAt_ne c r
    unfold cutAt
    cases hc : cutAt c r with
    | nil => exact absurd hc hne
    | cons a t =>
      rw [hc] at ih
      by_cases h : x = c
      · rw [if_pos h, h]
        show [] ++ c :: joinC c (a :: t) = c :: r
        rw [ih]; rfl
      · rw [if_neg h]
        show joinC c ((x :: a) :: t) = x :: r
        rw [joinC_head, ih]
theorem cutAt_inj {c : UInt8} {s t : Str} (h : cutAt c s = cutAt c t) : s = t := by rw [← join_cut c s, h, join_cut]
/-- A part ahead of the last one is there whatever follows. -/
theorem cutAt_pre {c : UInt8} : ∀ (p q : Str) (j : Nat), j + 1 < (cutAt c p).length → (cutAt c (p ++ q))[j]? = (cutAt c p)[j]?
  | [], q, j, h => by simp [cutAt] at h
  | x :: r, q, j, h => by
    have ih := cutAt_pre (c := c) r q
    have hne := cutAt_ne c r
    have hne2 := cutAt_ne c (r ++ q)
    rw [List.cons_append]
    unfold cutAt at h ⊢
    by_cases hx : x = c
    · rw [if_pos hx] at h ⊢
      rw [if_pos hx]
      cases j with
      | zero => rfl
      | succ j => simpa using ih j (by simpa using h)
    · rw [if_neg hx] at h ⊢
      rw [if_neg hx]
      cases hc : cutAt c r with
      | nil => exact absurd hc hne
      | cons a t =>
        cases hc2 : cutAt c (r ++ q) with
        | nil => exact absurd hc2 hne2
        | cons a2 t2 =>
          rw [hc] at h
          simp only [hc, hc2] at ih
          simp only [List.length_cons] at h ih
          cases j with
          | zero =>
            have := ih 0 (by omega)
            simp only [List.getElem?_cons_zero, Option.some.injEq] at this
            simp [this]
          | succ j =>
            have := ih (j + 1) (by omega)
            simpa using this
theorem joinC_two (c : UInt8) (x y : Str) (r : List Str) : joinC c (x :: y :: r) = x ++ c :: joinC c (y :: r) := rfl
theorem joinC_itoa (p : Str) : ∀ l : List Int, joinC 32 (p :: l.map Lib.itoa) = p ++ numsTail l
  | [] => by simp [joinC, numsTail]
  | n :: r => by
    rw [List.map_cons, joinC_two, joinC_itoa (Lib.itoa n) r]
    simp [numsTail]

/-- The least and the greatest of numbers (none: 0, 0). -/
def endsI (l : List Int) : Int × Int := if l = [] then (0, 0) else (Lib.minOf l, Lib.maxOf l)
def bodyT (ls : List Str) : Str := ls.flatMap fun s => s ++ [10]
def headT (word : Str) (n lo hi sum : Int) : Str := word ++ numsTail [n, lo, hi, sum]
def wholeT (word : Str) (keys : List Int) (body : Str) : Str := headT word keys.length (endsI keys).1 (endsI keys).2 (sumOf body) ++ 10 :: body
theorem bodyT_snoc (ls : List Str) (s : Str) : bodyT (ls ++ [s]) = bodyT ls ++ (s ++ [10]) := by simp [bodyT]
theorem cut_body : ∀ {ls : List Str}, (∀ s ∈ ls, (10 : UInt8) ∉ s) → cutAt 10 (bodyT ls) = ls ++ [[]]
  | [], _ => rfl
  | s :: r, h => by
    have ih := cut_body (ls := r) fun x hx => h x (by simp [hx])
    have : bodyT (s :: r) = s ++ 10 :: bodyT r := by simp [bodyT]
    rw [this, cutAt_app (h s (by simp)), ih]; rfl
theorem body_inj {l m : List Str} (hl : ∀ s ∈ l, (10 : UInt8) ∉ s) (hm : ∀ s ∈ m, (10 : UInt8) ∉ s) (h : bodyT l = bodyT m) : l = m := by
  have h1 := cut_body hl
  rw [h, cut_body hm] at h1
  exact (List.append_cancel_right h1).symm
theorem body_count : ∀ {ls : List Str}, (∀ s ∈ ls, (10 : UInt8) ∉ s) → (bodyT ls).count 10 = ls.length
  | [], _ => rfl
  | s :: r, h => by
    have ih := body_count (ls := r) fun x hx => h x (by simp [hx])
    have : bodyT (s :: r) = s ++ 10 :: bodyT r := by simp [bodyT]
    rw [this, List.count_append, List.count_cons_self, ih, List.count_eq_zero.2 (h s (by simp))]
    simp
theorem head_clean {word : Str} (hw : (10 : UInt8) ∉ word) (n lo hi sum : Int) : (10 : UInt8) ∉ headT word n lo hi sum := by
  unfold headT
  intro h
  rcases List.mem_append.1 h with h | h
  · exact hw h
  · rcases nums_sign _ _ h with e | e | e
    · revert e; decide
    · revert e; decide
    · revert e; decide
theorem cut_head {word : Str} (hw : (32 : UInt8) ∉ word) (n lo hi sum : Int) : cutAt 32 (headT word n lo hi sum) = [word, Lib.itoa n, Lib.itoa lo, Lib.itoa hi, Lib.itoa sum] := cut_nums _ _ hw
theorem itoa_inj' {n m : Int} (h : Lib.itoa n = Lib.itoa m) : n = m := by
  have h1 := atoi_itoa n
  rw [h, atoi_itoa] at h1
  exact (Option.some.inj h1).symm
/-- A text is cut once at its first newline. -/
theorem first_cut {p q p' q' : Str} (h : p ++ 10 :: q = p' ++ 10 :: q') (hp : (10 : UInt8) ∉ p) (hp' : (10 : UInt8) ∉ p') : p = p' ∧ q = q' := by
  have h1 := cut_app1 (c := 10) (q := q) hp
  rw [h, cut_app1 hp'] at h1
  simp only [Prod.mk.injEq, and_true] at h1
  exact ⟨h1.1.symm, h1.2.symm⟩
theorem set_take_drop {α : Type} : ∀ {s : List α} {i : Nat} (c : α), i < s.length → s.set i c = s.take i ++ c :: s.drop (i + 1)
  | [], _, _, h => by simp at h
  | x :: r, 0, c, _ => rfl
  | x :: r, i + 1, c, h => by simp [set_take_drop (s := r) (i := i) c (by simpa using h)]
theorem count_take_drop {s : Str} {i : Nat} {x c : UInt8} (hx : s[i]? = some x) : (s.set i c).count 10 + (if x = 10 then 1 else 0) = s.count 10 + (if c = 10 then 1 else 0) := by
  obtain ⟨hi, hg⟩ := List.getElem?_eq_some_iff.1 hx
  have h1 := set_take_drop (s := s) c hi
  have h2 : s = s.take i ++ x :: s.drop (i + 1) := by rw [← hg, List.getElem_cons_drop, List.take_append_drop]
  rw [h1]
  conv => rhs; rw [h2]
  simp only [List.count_append, List.count_cons, beq_iff_eq]
  omega
/-- ONE BYTE TURNED: what comes of it is no such text. -/
theorem block_one {word : Str} {k k' : List Int} {ls ls' : List Str} {i : Nat} {c x : UInt8} (hw : (32 : UInt8) ∉ word) (hw10 : (10 : UInt8) ∉ word) (hl : ls.length = k.length) (hl' : ls'.length = k'.length) (h10 : ∀ s ∈ ls, (10 : UInt8) ∉ s) (h10' : ∀ s ∈ ls', (10 : UInt8) ∉ s)
    (hk : ls = ls' → k = k') (hx : (wholeT word k (bodyT ls))[i]? = some x) (hne : x ≠ c) : (wholeT word k (bodyT ls)).set i c ≠ wholeT word k' (bodyT ls') := by
  intro he
  have hcnt := count_take_drop (c := c) hx
  rw [he] at hcnt
  unfold wholeT at he hx hcnt
  have hH := head_clean hw10 k.length (endsI k).1 (endsI k).2 (sumOf (bodyT ls))
  have hH' := head_clean hw10 k'.length (endsI k').1 (endsI k').2 (sumOf (bodyT ls'))
  have cH := cut_head hw k.length (endsI k).1 (endsI k).2 (sumOf (bodyT ls))
  have cH' := cut_head hw k'.length (endsI k').1 (endsI k').2 (sumOf (bodyT ls'))
  have hsame : ls = ls' → headT word k.length (endsI k).1 (endsI k).2 (sumOf (bodyT ls)) = headT word k'.length (endsI k').1 (endsI k').2 (sumOf (bodyT ls')) := fun e => by rw [hk e, e]
  generalize headT word k.length (endsI k).1 (endsI k).2 (sumOf (bodyT ls)) = H at *
  generalize headT word k'.length (endsI k').1 (endsI k').2 (sumOf (bodyT ls')) = H' at *
  have hcB := body_count h10
  have hcB' := body_count h10'
  have hn0 : H.count 10 = 0 := List.count_eq_zero.2 hH
  have hn0' : H'.count 10 = 0 := List.count_eq_zero.2 hH'
  simp only [List.count_append, List.count_cons_self, hn0, hn0', hcB, hcB'] at hcnt
  rcases Nat.lt_trichotomy i H.length with hi | hi | hi
  · -- in the head
    rw [List.set_append_left _ _ hi] at he
    rw [List.getElem?_append_left hi] at hx
    have hx10 : x ≠ 10 := fun e => hH (e ▸ List.mem_of_getElem? hx)
    rw [if_neg hx10] at hcnt
    by_cases hc : c = 10
    · rw [if_pos hc] at hcnt
      rw [set_take_drop c hi, hc, List.append_assoc, List.cons_append] at he
      obtain ⟨e1, -⟩ := first_cut he (fun h => hH (List.mem_of_mem_take h)) hH'
      have h2 := cutAt_pre (c := 32) H' (H.drop i) 1 (by rw [cH']; simp)
      rw [← e1, List.take_append_drop, cH, e1, cH'] at h2
      have := itoa_inj' (Option.some.inj h2)
      omega
    · have hcl : (10 : UInt8) ∉ H.set i c := fun h => by
        rcases List.mem_or_eq_of_mem_set h with h | h
        · exact hH h
        · exact hc h.symm
      obtain ⟨e1, e2⟩ := first_cut he hcl hH'
      have e3 := body_inj h10 h10' e2
      rw [← hsame e3] at e1
      have : (H.set i c)[i]? = some c := by simp [hi]
      rw [e1, hx] at this
      exact hne (Option.some.inj this)
  · -- the head's end
    subst hi
    have hx' : x = 10 := by simpa using hx.symm
    have hc : c ≠ 10 := fun e => hne (hx'.trans e.symm)
    rw [if_pos hx', if_neg hc] at hcnt
    have e0 : (H ++ 10 :: bodyT ls).set H.length c = H ++ c :: bodyT ls := by simp
    rw [e0] at he
    have h1 := cutAt_pre (c := 32) H (c :: bodyT ls) 1 (by rw [cH]; simp)
    have h2 := cutAt_pre (c := 32) H' (10 :: bodyT ls') 1 (by rw [cH']; simp)
    rw [he, h2, cH, cH'] at h1
    have := itoa_inj' (Option.some.inj h1)
    omega
  · -- in the body
    obtain ⟨j, rfl⟩ : ∃ j, i = H.length + (j + 1) := ⟨i - H.length - 1, by omega⟩
    have e0 : (H ++ 10 :: bodyT ls).set (H.length + (j + 1)) c = H ++ 10 :: (bodyT ls).set j c := by
      rw [List.set_append_right _ _ (by omega)]; simp
    have hxj : (bodyT ls)[j]? = some x := by
      rw [List.getElem?_append_right (by omega)] at hx
      simpa using hx
    rw [e0] at he
    obtain ⟨e1, e2⟩ := first_cut he hH hH'
    rw [e1, cH'] at cH
    simp only [List.cons.injEq, and_true, true_and] at cH
    have hs := itoa_inj' cH.2.2.2
    rw [← e2] at hs
    exact sumOf_set hxj hne (by omega)
end Go.Proofs.YtlfkjbdkbdcdnaaGreatDoor
namespace Go.Proofs.YtlfkjbdkbdcdnaaGreatDoor
open Go.RowKit

theorem Own.stays {α : Type} {enc : α → List Value} {sz : Nat} {w w' : World} {v : Value} {l : List α} {e : TypeId} {B : Nat} (hen : Enc enc sz) (h : Own enc e sz B w v l) (hw : ∀ p : Addr, B ≤ p.block → w'.cell? p = w.cell? p) : At enc sz w' v l := by
  rcases Nat.eq_zero_or_pos l.length with h0 | h0
  · obtain ⟨a, c, b, o, hv, ha, hc, hm, hx⟩ := h.at hen
    exact ⟨a, c, b, o, hv, ha, hc, hm, fun k x hk => absurd (List.getElem?_eq_some_iff.1 hk).1 (by omega)⟩
  · obtain ⟨g', cap, cur, rfl, hB, _, hc, hm, _, _⟩ := h.open h0
    refine ⟨_, cap, g', 0, rfl, fun _ => rfl, hc, hm, fun k x hk j u hu => ?_⟩
    have h1 := h.cells hen k x hk j u hu
    rw [Nat.zero_add]
    exact (hw ⟨g', k * sz + j, none⟩ hB).trans h1

theorem fault_tc {fn : Func} {u p : Tmp} (h : fn.results = #[.tmp u, .cell p 56]) {tmps : Array Value} {w : World} {g : Nat} {c q : Int} {v : Value} (hp : tmps.getD p undef = .pointer (some ⟨g, 0, none⟩)) (hg : w.heap[g]? = some (.cells #[.int .i64 c, .int .i64 q] 56 (0, 0))) (hv : tmps.getD u undef = v) :
    (results fn tmps).run Tryz.prog w = .ok (.tuple #[v, faultV c q]) w :=
  results_tmp_cell h tmps w g 56 #[.int .i64 c, .int .i64 q] (0, 0) _ hp hg Tryz.underlying56 rfl (by kernel_rfl) hv
end Go.Proofs.YtlfkjbdkbdcdnaaGreatDoor
namespace Go.Proofs.YtlfkjbdkbdcdnaaGreatDoor
open Go.RowKit

theorem less_bef' : ∀ a b : Str, Op.bytesLess a b = bef a b
  | [], [] => by simp [Op.bytesLess, bytesBefore]
  | [], _ :: _ => by simp [Op.bytesLess, bytesBefore]
  | _ :: _, [] => by simp [Op.bytesLess, bytesBefore]
  | a :: r, b :: s => by
    have ih := less_bef' r s
    show Op.bytesLess (a :: r) (b :: s) = (decide (a < b) || (a == b && bytesBefore r s))
    unfold Op.bytesLess
    rw [ih]
theorem at_take {α : Type} {enc : α → List Value} {sz : Nat} {w : World} {a : Option Addr} {n c : Nat} {l : List α} (h : At enc sz w (.slice a n c) l) {k : Nat} (hk : k ≤ l.length) : At enc sz w (.slice a k c) (l.take k) := by
  obtain ⟨a', c', b, o, hv, ha, hc, hm, hx⟩ := h
  cases hv
  have hl : (l.take k).length = k := by rw [List.length_take]; omega
  refine ⟨a, c, b, o, by rw [hl], fun h0 => ha (by omega), by omega, hm, fun i x hi j u hu => hx i x ?_ j u hu⟩
  rw [List.getElem?_take] at hi
  split at hi
  · exact hi
  · cases hi
theorem at_drop {α : Type} {enc : α → List Value} {sz : Nat} {w : World} {b o n c : Nat} {l : List α} (h : At enc sz w (.slice (some ⟨b, o, none⟩) n c) l) {k : Nat} (hk : k ≤ l.length) : At enc sz w (.slice (some ⟨b, o + k * sz, none⟩) (n - k) (c - k)) (l.drop k) := by
  obtain ⟨a', c', b', o', hv, ha, hc, hm, hx⟩ := h
  cases hv
  have hl : (l.drop k).length = l.length - k := List.length_drop
  refine ⟨_, c - k, b, o + k * sz, by rw [hl], fun _ => rfl, by omega, by omega, fun i x hi j u hu => ?_⟩
  rw [List.getElem?_drop] at hi
  have hlt := (List.getElem?_eq_some_iff.1 hi).1
  have h1 := hx _ x hi j u hu
  have h2 := ha (by omega)
  simp only [Option.some.injEq, Addr.mk.injEq, and_true] at h2
  obtain ⟨rfl, rfl⟩ := h2
  rw [show o + k * sz + i * sz + j = o + (k + i) * sz + j by rw [Nat.add_mul]; omega]
  exact h1

/-- s[:k] and s[k:] of a slice. -/
theorem sl_to {α : Type} {P : Program} {t e : TypeId} {enc : α → List Value} {sz : Nat} {w : World} {a : Option Addr} {c : Nat} {l : List α} (ht : P.underlying t = some (.slice e)) (hsz : ∀ w, (sizeOf e).run P w = .ok sz w) (h : At enc sz w (.slice a l.length c) l) (k : Nat) (hk : k ≤ l.length) :
    (∀ W, (Instr.slice t (.slice a l.length c) none (some (.int .i64 (k : Int))) none).run P W = .ok (.slice a k c) W) ∧ At enc sz w (.slice a k c) (l.take k) := by
  refine ⟨fun W => ?_, at_take h hk⟩
  have hc : l.length ≤ c := by obtain ⟨_, _, _, _, hv, _, hc, _⟩ := h; cases hv; exact hc
  have h2 : (k : Int) ≤ (c : Int) := by omega
  cases a with
  | none => simp [Instr.slice, Instr.sliceBounds, run_underlying ht, hsz, go_sem, h2]
  | some ad =>
    simp [Instr.slice, Instr.sliceBounds, run_underlying ht, hsz, go_sem, h2]
theorem sl_from {α : Type} {P : Program} {t e : TypeId} {enc : α → List Value} {sz : Nat} {w : World} {a : Option Addr} {c : Nat} {l : List α} (ht : P.underlying t = some (.slice e)) (hsz : ∀ w, (sizeOf e).run P w = .ok sz w) (h : At enc sz w (.slice a l.length c) l) (k : Nat) (hk : k ≤ l.length) :
    ∃ a2 c2, (∀ W, (Instr.slice t (.slice a l.length c) (some (.int .i64 (k : Int))) none none).run P W = .ok (.slice a2 (l.length - k) c2) W) ∧ At enc sz w (.slice a2 (l.length - k) c2) (l.drop k) := by
  obtain ⟨a', c', b, o, hv, ha, hc, hm, hx⟩ := h
  cases hv
  rcases Nat.eq_zero_or_pos l.length with h0 | h0
  · have hk0 : k = 0 := by omega
    subst hk0
    refine ⟨a, c, fun W => ?_, ⟨a, c, b, o, by rw [List.length_drop], fun h => absurd h (by rw [List.length_drop]; omega), by rw [List.length_drop]; omega, hm, fun j y hj => absurd (List.getElem?_eq_some_iff.1 hj).1 (by rw [List.length_drop]; omega)⟩⟩
    have h3 : (0 : Int) ≤ (c : Int) := by omega
    cases a with
    | none => simp [Instr.slice, Instr.sliceBounds, run_underlying ht, hsz, go_sem, h0]
    | some ad =>
      have h0' : ad.add 0 = ad := by unfold Addr.add; split <;> simp_all
      simp [Instr.slice, Instr.sliceBounds, run_underlying ht, hsz, go_sem, h0, h0']
  · obtain rfl := ha h0
    have hadd : (⟨b, o, none⟩ : Addr).add (k * sz) = ⟨b, o + k * sz, none⟩ := by unfold Addr.add; split <;> simp_all
    by_cases h : c = k
    · refine ⟨some ⟨b, o, none⟩, c - k, fun W => ?_, ?_⟩
      · have hk' : (k : Int) ≤ l.length := by omega
        simp [Instr.slice, Instr.sliceBounds, run_underlying ht, hsz, hk, h, go_sem]
      · have hl : l.length = k := by omega
        refine ⟨_, c - k, b, o, by rw [List.length_drop], fun _ => rfl, by simp; omega, by omega, fun i x hi j u hu => ?_⟩
        rw [List.drop_of_length_le (by omega)] at hi; simp at hi
    · refine ⟨some ⟨b, o + k * sz, none⟩, c - k, fun W => ?_, ?_⟩
      · have hk' : (k : Int) ≤ l.length := by omega
        simp [Instr.slice, Instr.sliceBounds, run_underlying ht, hsz, hk, h, go_sem]
      · refine ⟨_, c - k, b, o + k * sz, by rw [List.length_drop], fun _ => rfl, by simp; omega, by omega, fun i x hi j u hu => ?_⟩
        rw [List.getElem?_drop] at hi
        have := hx (k + i) x hi j u hu
        rwa [show o + k * sz + i * sz + j = o + (k + i) * sz + j by rw [Nat.add_mul]; omega]

end Go.Proofs.YtlfkjbdkbdcdnaaGreatDoor
