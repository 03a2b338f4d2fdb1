/- file.Read: the walk. -/
import Derived.Test.YtpicofkmeijioaaGreatDoorFlT
import Derived.Test.YtpicofkmeijioaaGreatDoorFlL
import Derived.Test.YtpicofkmeijioaaGreatDoorSix
namespace Go.Proofs.YtpicofkmeijioaaGreatDoor
open Go.RowKit

def erOf (c : Nat) : Er := if c = 0 then .nil else .bare c
theorem fileRead_none {s : Str} (h : fileOf (cutAt 32 s) = none) : fileRead s = (zeroF, 1) := by unfold fileRead; rw [h]
theorem fileRead_some {s : Str} {f : Fl} (h : fileOf (cutAt 32 s) = some f) : fileRead s = if checkF f = 0 then (f, 0) else (zeroF, checkF f) := by unfold fileRead; rw [h]
theorem fileOf_len {l : List Str} (h : l.length ≠ 6) : fileOf l = none := by
  unfold fileOf
  split
  · exact absurd rfl h
  · rfl
theorem six_strs {l : List Str} (h : l.length = 6) : ∃ p q a b c d, l = [p, q, a, b, c, d] := by
  match l, h with
  | [p, q, a, b, c, d], _ => exact ⟨p, q, a, b, c, d, rfl⟩
theorem four_ints {l : List Int} (h : l.length = 4) : ∃ a b c d, l = [a, b, c, d] := by
  match l, h with
  | [a, b, c, d], _ => exact ⟨a, b, c, d, rfl⟩

set_option maxHeartbeats 1000000 in
set_option maxRecDepth 20000 in
theorem fileRead_any (E : Nat → Addr) (B : Nat) (s : Str) (w : World) (hE : Errs [1, 2, 4, 5] E B w) (hT : LNum B w) (hM : LMax B w) (hs : s.length ≤ 10000) :
    Calls Tryz.prog 87 #[S s] w fun e w' => ∃ ev, e = .returned (.tuple #[fileV (fileRead s).1, ev]) ∧ ErV E w' ev (erOf (fileRead s).2) ∧ Below w.heap.size w w' := by
  have hBw := hE.le
  have hif := isIfaceE
  have hwl : (cutAt 32 s).length ≤ 10001 := by
    have := cutAt_length 32 s
    have h2 : s.count 32 ≤ s.length := List.count_le_length
    omega
  have hws : ∀ p ∈ cutAt 32 s, p.length ≤ 10000 := fun p hp => by
    have := cutAt_mem_len (c := 32) hp; omega
  have V0 := fun w6 (h : Below w.heap.size w w6) => (hE.below' h hBw).var 1 (by decide)
  simp only [errG] at V0
  have V := Lib.hid V0
  clear V0
  have hba : Below w.heap.size w (w.alloc (.cells #[S [], S [], .int .i64 0, .int .i64 0, .int .i64 0, .int .i64 0] 50)) := (Below.refl _ _).alloc (Nat.le_refl _) _
  have hsp := split1_any B s 32 (w.alloc (.cells #[S [], S [], .int .i64 0, .int .i64 0, .int .i64 0, .int .i64 0] 50)) (hM.below' hba hBw) (by omega)
  have hcs := fun w6 (h : Below (w.alloc (.cells #[S [], S [], .int .i64 0, .int .i64 0, .int .i64 0, .int .i64 0] 50)).heap.size (w.alloc (.cells #[S [], S [], .int .i64 0, .int .i64 0, .int .i64 0, .int .i64 0] 50)) w6) => fileCells (f := zeroF) rfl h
  have CZ := Lib.hid hcs; clear hcs
  have hhg := fun w6 (h : Below (w.alloc (.cells #[S [], S [], .int .i64 0, .int .i64 0, .int .i64 0, .int .i64 0] 50)).heap.size (w.alloc (.cells #[S [], S [], .int .i64 0, .int .i64 0, .int .i64 0, .int .i64 0] 50)) w6) => (h.block w.heap.size (by simp)).trans (heap_alloc_new w (.cells #[S [], S [], .int .i64 0, .int .i64 0, .int .i64 0, .int .i64 0] 50))
  have HG := Lib.hid hhg; clear hhg
  have hgE : (¬ (1 = w.heap.size)) ∧ ¬ (w.heap.size = 1) := by
    have h := (hE.lt 1 (by decide)).2
    have h1 : errG 1 = 1 := rfl
    rw [h1] at h
    omega
  by_cases h6 : (cutAt 32 s).length = 6
  case neg =>
    have HF := Lib.hid (fileRead_none (fileOf_len h6))
    have g6 : (((cutAt 32 s).length : Int) != 6) = true := by simp; omega
    clear hws
    go_enter Tryz.func87, Tryz.ntmps87
    go_wp2_with fail
    generalize w.alloc (.cells #[S [], S [], .int .i64 0, .int .i64 0, .int .i64 0, .int .i64 0] 50) = w1 at *
    refine hsp.mono ?_
    rintro e w2 ⟨rfl, hown, hb2⟩
    have hb2' := hba.trans (hb2.mono hba.size)
    have v1 := V.out _ hb2'
    obtain ⟨c0, c1, c2, c3, c4, c5⟩ := CZ.out _ hb2
    generalize cutAt 32 s = W at *
    go_wp2_with fail
    have hg2 := HG.out _ hb2
    have fz : ∀ j, w2.frozen? ⟨w.heap.size, j, none⟩ = false := fun j => frozen_row hg2
    have f0 := fz 0; have f1 := fz 1; have f2 := fz 2; have f3 := fz 3; have f4 := fz 4; have f5 := fz 5
    have hn1 : ¬ (1 = w.heap.size) := hgE.1
    have hn2 : ¬ (w.heap.size = 1) := hgE.2
    go_region_law (fail)
    all_goals
      go_wp2_with fail
      refine bodyPost_ret (ret_row rfl _ _ w.heap.size 50 #[.string ⟨#[]⟩, .string ⟨#[]⟩, .int .i64 0, .int .i64 0, .int .i64 0, .int .i64 0] (0, 0) _ rfl ?_ Tryz.underlying50 rfl (by kernel_rfl)) rfl ⟨.iface 290 (.pointer (some (E 1))), ?_, ?_, ?_⟩
      · rw [World.heap_drew]; exact six_new hg2 _ _ _ _ _ _
      · rw [HF.out]; rfl
      · rw [HF.out]; exact ⟨by decide, rfl⟩
      · exact Below.drew (six_below hb2' (Nat.le_refl _) _ _ _ _ _ _)
  obtain ⟨p, q, n1, n2, n3, n4, hW⟩ := six_strs h6
  rw [hW] at hsp hws
  have hfo : fileOf (cutAt 32 s) = match numsOf [n1, n2, n3, n4] with | some [n, lo, hi, seq] => some ⟨p, q, n, lo, hi, seq⟩ | _ => none := by rw [hW]; rfl
  have HFO := Lib.hid hfo; have HWS := Lib.hid hws
  clear hfo hws hW h6 hwl
  go_enter Tryz.func87, Tryz.ntmps87
  go_wp2_with fail
  generalize w.alloc (.cells #[S [], S [], .int .i64 0, .int .i64 0, .int .i64 0, .int .i64 0] 50) = w1 at *
  refine hsp.mono ?_
  rintro e w2 ⟨rfl, hown, hb2⟩
  have hb2' := hba.trans (hb2.mono hba.size)
  have v1 := V.out _ hb2'
  obtain ⟨a', c', b', o', hv', ha', hc', hcm', hx'⟩ := hown.at encS_enc
  obtain ⟨rfl, rfl⟩ : a' = some ⟨w1.heap.size, 0, none⟩ ∧ c' = 6 := by cases hv'; exact ⟨rfl, rfl⟩
  obtain ⟨rfl, rfl⟩ : b' = w1.heap.size ∧ o' = 0 := by have := ha' (by simp); cases this; exact ⟨rfl, rfl⟩
  obtain ⟨b3, o3, c3, hrun, hat3⟩ := slice_from (enc := encS) (sz := 1) Tryz.underlying24 szStr ha' hc' hcm' hx' 2 (by simp) (by simp)
  have x0 := hx' 0 _ rfl 0 _ rfl
  have x1 := hx' 1 _ rfl 0 _ rfl
  simp only [List.length_cons, List.length_nil, Nat.zero_add, Nat.reduceAdd, Nat.reduceSub, Nat.mul_one, Nat.add_zero, List.drop_succ_cons, List.drop_zero] at hrun hat3 x0 x1
  have e2 : ((2 : Nat) : Int) = 2 := rfl
  rw [e2] at hrun
  clear hv' ha' hx' hown hcm' hc' e2 hsp
  have hl6 : [p, q, n1, n2, n3, n4].length = 6 := rfl
  rw [hl6]
  go_wp2_with fail
  refine (numbers_any B _ [n1, n2, n3, n4] _ (hT.below' hb2' hBw) hat3 (by simp) (fun x hx => by have := HWS.out x (by simp at hx ⊢; rcases hx with h | h | h | h <;> simp [h]); omega)).mono ?_
  rintro e w3 ⟨v', rfl, hv1, hv2, hb3⟩
  have hb31 := hb2.trans (hb3.mono hb2.size)
  have hb3' := hb2'.trans (hb3.mono hb2'.size)
  have v1' := V.out _ hb3'
  have y0 := (hb3.cell (World.block_lt_of_cell? w2 _ x0)).trans x0
  have y1 := (hb3.cell (World.block_lt_of_cell? w2 _ x1)).trans x1
  clear v1 hrun hat3 x0 x1
  cases hn : numsOf [n1, n2, n3, n4] with
  | none =>
    rw [hn] at hv2
    obtain rfl := hv2 rfl
    have HF := Lib.hid (fileRead_none (s := s) (by rw [HFO.out, hn]))
    clear hn hv1
    simp only [Option.isSome_none]
    obtain ⟨c0, c1, c2, c3, c4, c5⟩ := CZ.out _ hb31
    have hg2 := HG.out _ hb31
    have fz : ∀ j, w3.frozen? ⟨w.heap.size, j, none⟩ = false := fun j => frozen_row hg2
    have f0 := fz 0; have f1 := fz 1; have f2 := fz 2; have f3 := fz 3; have f4 := fz 4; have f5 := fz 5
    have hn1 : ¬ (1 = w.heap.size) := hgE.1
    have hn2 : ¬ (w.heap.size = 1) := hgE.2
    go_wp2_with fail
    go_region_law (fail)
    all_goals
      go_wp2_with fail
      refine bodyPost_ret (ret_row rfl _ _ w.heap.size 50 #[.string ⟨#[]⟩, .string ⟨#[]⟩, .int .i64 0, .int .i64 0, .int .i64 0, .int .i64 0] (0, 0) _ rfl ?_ Tryz.underlying50 rfl (by kernel_rfl)) rfl ⟨.iface 290 (.pointer (some (E 1))), ?_, ?_, ?_⟩
      · rw [World.heap_drew]; exact six_new hg2 _ _ _ _ _ _
      · rw [HF.out]; rfl
      · rw [HF.out]; exact ⟨by decide, rfl⟩
      · exact Below.drew (six_below hb3' (Nat.le_refl _) _ _ _ _ _ _)
  | some ns =>
    have hown := hv1 ns hn
    have hnl := mapM_len _ hn
    obtain ⟨m1, m2, m3, m4, rfl⟩ := four_ints (l := ns) (by simpa using hnl)
    have HF := Lib.hid (fileRead_some (s := s) (f := ⟨p, q, m1, m2, m3, m4⟩) (by rw [HFO.out, hn]))
    clear hn hv1 hv2 hnl
    simp only [Option.isSome_some]
    obtain ⟨a4, c4, b4, o4, hv4, ha4, hc4, hcm4, hx4⟩ := hown.at encI_enc
    subst hv4
    obtain rfl := ha4 (by simp)
    have z0 := hx4 0 _ rfl 0 _ rfl
    have z1 := hx4 1 _ rfl 0 _ rfl
    have z2 := hx4 2 _ rfl 0 _ rfl
    have z3 := hx4 3 _ rfl 0 _ rfl
    simp only [Nat.mul_one, Nat.add_zero] at z0 z1 z2 z3
    have hl4 : [m1, m2, m3, m4].length = 4 := rfl
    rw [hl4]
    clear hx4 hown ha4 hc4 hcm4 hl4
    have hks := fun w6 (h : Below w3.heap.size w3 w6) => (⟨(h.cell (World.block_lt_of_cell? w3 _ y0)).trans y0, (h.cell (World.block_lt_of_cell? w3 _ y1)).trans y1, (h.cell (World.block_lt_of_cell? w3 _ z0)).trans z0, (h.cell (World.block_lt_of_cell? w3 _ z1)).trans z1, (h.cell (World.block_lt_of_cell? w3 _ z2)).trans z2, (h.cell (World.block_lt_of_cell? w3 _ z3)).trans z3⟩ : _ ∧ _ ∧ _ ∧ _ ∧ _ ∧ _)
    have KS := Lib.hid hks; clear hks
    go_wp2_with fail
    go_region_held3 (fun w' => w'.cell? ⟨w1.heap.size, 0, none⟩ = some (S p) ∧ w'.cell? ⟨w1.heap.size, 1, none⟩ = some (S q) ∧ w'.cell? ⟨b4, o4, none⟩ = some (.int .i64 m1) ∧ w'.cell? ⟨b4, o4 + 1, none⟩ = some (.int .i64 m2) ∧ w'.cell? ⟨b4, o4 + 2, none⟩ = some (.int .i64 m3) ∧ w'.cell? ⟨b4, o4 + 3, none⟩ = some (.int .i64 m4)) (first | exact ⟨y0, y1, z0, z1, z2, z3⟩ | exact KS.out _ (((Below.refl _ _).alloc (Nat.le_refl _) _).drew) | exact KS.out _ ((Below.refl _ _).drew.alloc (Nat.le_refl _) _)) (fail)
    have hb4 : Below w3.heap.size w3 (w3.alloc (.cells #[S p, S q, .int .i64 m1, .int .i64 m2, .int .i64 m3, .int .i64 m4] 50)).drew := ((Below.refl _ _).alloc (Nat.le_refl _) _).drew
    have CF := Lib.hid (fun w6 (h : Below (w3.alloc (.cells #[S p, S q, .int .i64 m1, .int .i64 m2, .int .i64 m3, .int .i64 m4] 50)).heap.size (w3.alloc (.cells #[S p, S q, .int .i64 m1, .int .i64 m2, .int .i64 m3, .int .i64 m4] 50)).drew w6) => fileCells (f := ⟨p, q, m1, m2, m3, m4⟩) rfl (((Below.refl _ _).drew).trans h))
    have hsz : (w3.alloc (.cells #[S p, S q, .int .i64 m1, .int .i64 m2, .int .i64 m3, .int .i64 m4] 50)).heap.size = (w3.alloc (.cells #[S p, S q, .int .i64 m1, .int .i64 m2, .int .i64 m3, .int .i64 m4] 50)).drew.heap.size := rfl
    rw [hsz] at CF
    generalize (w3.alloc (.cells #[S p, S q, .int .i64 m1, .int .i64 m2, .int .i64 m3, .int .i64 m4] 50)).drew = w4 at *
    have hb4' := hb3'.trans (hb4.mono hb3'.size)
    have hb41 := hb31.trans (hb4.mono hb31.size)
    obtain ⟨c0, c1, c2, c3, c4, c5⟩ := CF.out w4 (Below.refl _ _)
    clear y0 y1 z0 z1 z2 z3 v1' hsz
    go_wp2_with fail
    refine (fileCheck_any E B ⟨p, q, m1, m2, m3, m4⟩ _ ((hE.sub (by decide)).below' hb4' hBw) (hT.below' hb4' hBw) (hM.below' hb4' hBw) ⟨by have := HWS.out p (by simp); show p.length ≤ _; omega, by have := HWS.out q (by simp); show q.length ≤ _; omega⟩).mono ?_
    rintro e w5 ⟨ev, rfl, hev, hb5⟩
    have hb5' := hb4'.trans (hb5.mono hb4'.size)
    have hb51 := hb41.trans (hb5.mono hb41.size)
    have hg2 := HG.out _ hb51
    have fz : ∀ j, w5.frozen? ⟨w.heap.size, j, none⟩ = false := fun j => frozen_row hg2
    have f0 := fz 0; have f1 := fz 1; have f2 := fz 2; have f3 := fz 3; have f4 := fz 4; have f5 := fz 5
    obtain ⟨d0, d1, d2, d3, d4, d5⟩ := CZ.out _ hb51
    clear c0 c1 c2 c3 c4 c5
    obtain ⟨c0, c1, c2, c3, c4, c5⟩ := CF.out w5 hb5
    by_cases hck : checkF ⟨p, q, m1, m2, m3, m4⟩ = 0
    case neg =>
      rw [fileEr_bad rfl hck] at hev
      obtain ⟨hcr, rfl⟩ := hev
      have HR : Hid (fileRead s = (zeroF, checkF ⟨p, q, m1, m2, m3, m4⟩)) := Lib.hid (by rw [HF.out, if_neg hck])
      have HER : Hid (erOf (checkF ⟨p, q, m1, m2, m3, m4⟩) = .bare (checkF ⟨p, q, m1, m2, m3, m4⟩)) := Lib.hid (if_neg hck)
      clear hck
      generalize checkF ⟨p, q, m1, m2, m3, m4⟩ = ce at *
      go_wp2_with fail
      refine bodyPost_ret (ret_row rfl _ _ w.heap.size 50 #[.string ⟨#[]⟩, .string ⟨#[]⟩, .int .i64 0, .int .i64 0, .int .i64 0, .int .i64 0] (0, 0) _ rfl (six_new hg2 _ _ _ _ _ _) Tryz.underlying50 rfl (by kernel_rfl)) rfl ⟨.iface 290 (.pointer (some (E ce))), ?_, ?_, ?_⟩
      · rw [HR.out]; rfl
      · rw [HR.out]; show ErV E _ _ (erOf ce); rw [HER.out]; exact ⟨hcr, rfl⟩
      · exact six_below hb5' (Nat.le_refl _) _ _ _ _ _ _
    rw [fileEr_nil hck] at hev
    obtain rfl : ev = .nilIface := hev
    have HR : Hid (fileRead s = (⟨p, q, m1, m2, m3, m4⟩, 0)) := Lib.hid (by rw [HF.out, if_pos hck])
    clear hck
    go_wp2_with fail
    refine bodyPost_ret (ret_row rfl _ _ w.heap.size 50 #[S p, S q, .int .i64 m1, .int .i64 m2, .int .i64 m3, .int .i64 m4] (0, 0) _ rfl (six_new hg2 _ _ _ _ _ _) Tryz.underlying50 rfl (by kernel_rfl)) rfl ⟨.nilIface, ?_, ?_, ?_⟩
    · rw [HR.out]; rfl
    · rw [HR.out]; rfl
    · exact six_below hb5' (Nat.le_refl _) _ _ _ _ _ _
end Go.Proofs.YtpicofkmeijioaaGreatDoor
