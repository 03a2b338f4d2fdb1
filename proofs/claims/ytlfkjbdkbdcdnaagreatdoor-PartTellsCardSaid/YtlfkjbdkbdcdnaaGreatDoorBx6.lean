/- file.Read: the walk. Rows in memory; row.Name, row.Check, row.Text. slices.Clone, Delete at []api.File. slices.Grow at the nil slice of texts, slices.Concat of two slices of texts; strings.Cut by one byte. part.spec, Check, floor, name, Of: the walks. part.name, Check, Of: the walks. deedboxlaw1.parted: a closed fact of parts. -/
import Derived.Test.YtlfkjbdkbdcdnaaGreatDoorBx3
import Derived.Test.YtlfkjbdkbdcdnaaGreatDoorBx5
import Derived.Test.YtlfkjbdkbdcdnaaGreatDoorBx4
import Derived.Lib.AppendZeros
import Derived.Deep.RegionLaw
import Derived.Deep.RegionHeld3
namespace Go.Proofs.YtlfkjbdkbdcdnaaGreatDoor
open Go.RowKit

def erOf (c : Nat) : Er := if c = 0 then .nil else .bare c
theorem fileRead_none {s : Str} (h : fileOf (cutAt 32 s) = none) : fileRead s = (zeroF, 1) := by unfold fileRead; rw [h]
theorem fileRead_some {s : Str} {f : Fl} (h : fileOf (cutAt 32 s) = some f) : fileRead s = if checkF f = 0 then (f, 0) else (zeroF, checkF f) := by unfold fileRead; rw [h]
theorem fileOf_len {l : List Str} (h : l.length ≠ 6) : fileOf l = none := by
  unfold fileOf
  split
  · exact absurd rfl h
  · rfl
theorem six_strs {l : List Str} (h : l.length = 6) : ∃ p q a b c d, l = [p, q, a, b, c, d] := by
  match l, h with
  | [p, q, a, b, c, d], _ => exact ⟨p, q, a, b, c, d, rfl⟩
theorem four_ints {l : List Int} (h : l.length = 4) : ∃ a b c d, l = [a, b, c, d] := by
  match l, h with
  | [a, b, c, d], _ => exact ⟨a, b, c, d, rfl⟩

set_option maxHeartbeats 1000000 in
set_option maxRecDepth 20000 in
theorem fileRead_any (E : Nat → Addr) (B : Nat) (s : Str) (w : World) (hE : Errs [1, 2, 4, 5] E B w) (hT : LNum B w) (hM : LMax B w) (hs : s.length ≤ 10000) :
    Calls Tryz.prog 50 #[S s] w fun e w' => ∃ ev, e = .returned (.tuple #[fileV (fileRead s).1, ev]) ∧ ErV E w' ev (erOf (fileRead s).2) ∧ Below w.heap.size w w' := by
  have hBw := hE.le
  have hif := isIfaceE
  have hwl : (cutAt 32 s).length ≤ 10001 := by
    have := cutAt_length 32 s
    have h2 : s.count 32 ≤ s.length := List.count_le_length
    omega
  have hws : ∀ p ∈ cutAt 32 s, p.length ≤ 10000 := fun p hp => by
    have := cutAt_mem_len (c := 32) hp; omega
  have V0 := fun w6 (h : Below w.heap.size w w6) => (hE.below' h hBw).var 1 (by decide)
  simp only [errG] at V0
  have V := Lib.hid V0
  clear V0
  have hba : Below w.heap.size w (w.alloc (.cells #[S [], S [], .int .i64 0, .int .i64 0, .int .i64 0, .int .i64 0] 79)) := (Below.refl _ _).alloc (Nat.le_refl _) _
  have hsp := split1_any B s 32 (w.alloc (.cells #[S [], S [], .int .i64 0, .int .i64 0, .int .i64 0, .int .i64 0] 79)) (hM.below' hba hBw) (by omega)
  have hcs := fun w6 (h : Below (w.alloc (.cells #[S [], S [], .int .i64 0, .int .i64 0, .int .i64 0, .int .i64 0] 79)).heap.size (w.alloc (.cells #[S [], S [], .int .i64 0, .int .i64 0, .int .i64 0, .int .i64 0] 79)) w6) => fileCells (f := zeroF) rfl h
  have CZ := Lib.hid hcs; clear hcs
  have hhg := fun w6 (h : Below (w.alloc (.cells #[S [], S [], .int .i64 0, .int .i64 0, .int .i64 0, .int .i64 0] 79)).heap.size (w.alloc (.cells #[S [], S [], .int .i64 0, .int .i64 0, .int .i64 0, .int .i64 0] 79)) w6) => (h.block w.heap.size (by simp)).trans (heap_alloc_new w (.cells #[S [], S [], .int .i64 0, .int .i64 0, .int .i64 0, .int .i64 0] 79))
  have HG := Lib.hid hhg; clear hhg
  have hgE : (¬ (2 = w.heap.size)) ∧ ¬ (w.heap.size = 2) := by
    have h := (hE.lt 1 (by decide)).2
    have h1 : errG 1 = 2 := rfl
    rw [h1] at h
    omega
  by_cases h6 : (cutAt 32 s).length = 6
  case neg =>
    have HF := Lib.hid (fileRead_none (fileOf_len h6))
    have g6 : (((cutAt 32 s).length : Int) != 6) = true := by simp; omega
    clear hws
    go_enter Tryz.func50, Tryz.ntmps50
    go_wp2_with fail
    generalize w.alloc (.cells #[S [], S [], .int .i64 0, .int .i64 0, .int .i64 0, .int .i64 0] 79) = w1 at *
    refine hsp.mono ?_
    rintro e w2 ⟨rfl, hown, hb2⟩
    have hb2' := hba.trans (hb2.mono hba.size)
    have v1 := V.out _ hb2'
    obtain ⟨c0, c1, c2, c3, c4, c5⟩ := CZ.out _ hb2
    generalize cutAt 32 s = W at *
    go_wp2_with fail
    have hg2 := HG.out _ hb2
    have fz : ∀ j, w2.frozen? ⟨w.heap.size, j, none⟩ = false := fun j => frozen_row hg2
    have f0 := fz 0; have f1 := fz 1; have f2 := fz 2; have f3 := fz 3; have f4 := fz 4; have f5 := fz 5
    have hn1 : ¬ (2 = w.heap.size) := hgE.1
    have hn2 : ¬ (w.heap.size = 2) := hgE.2
    go_region_law (fail)
    all_goals
      go_wp2_with fail
      refine bodyPost_ret (ret_row rfl _ _ w.heap.size 79 #[.string ⟨#[]⟩, .string ⟨#[]⟩, .int .i64 0, .int .i64 0, .int .i64 0, .int .i64 0] (0, 0) _ rfl ?_ Tryz.underlying79 rfl (by kernel_rfl)) rfl ⟨.iface 289 (.pointer (some (E 1))), ?_, ?_, ?_⟩
      · rw [World.heap_drew]; exact six_new hg2 _ _ _ _ _ _
      · rw [HF.out]; rfl
      · rw [HF.out]; exact ⟨by decide, rfl⟩
      · exact Below.drew (six_below hb2' (Nat.le_refl _) _ _ _ _ _ _)
  obtain ⟨p, q, n1, n2, n3, n4, hW⟩ := six_strs h6
  rw [hW] at hsp hws
  have hfo : fileOf (cutAt 32 s) = match numsOf [n1, n2, n3, n4] with | some [n, lo, hi, seq] => some ⟨p, q, n, lo, hi, seq⟩ | _ => none := by rw [hW]; rfl
  have HFO := Lib.hid hfo; have HWS := Lib.hid hws
  clear hfo hws hW h6 hwl
  go_enter Tryz.func50, Tryz.ntmps50
  go_wp2_with fail
  generalize w.alloc (.cells #[S [], S [], .int .i64 0, .int .i64 0, .int .i64 0, .int .i64 0] 79) = w1 at *
  refine hsp.mono ?_
  rintro e w2 ⟨rfl, hown, hb2⟩
  have hb2' := hba.trans (hb2.mono hba.size)
  have v1 := V.out _ hb2'
  obtain ⟨a', c', b', o', hv', ha', hc', hcm', hx'⟩ := hown.at encS_enc
  obtain ⟨rfl, rfl⟩ : a' = some ⟨w1.heap.size, 0, none⟩ ∧ c' = 6 := by cases hv'; exact ⟨rfl, rfl⟩
  obtain ⟨rfl, rfl⟩ : b' = w1.heap.size ∧ o' = 0 := by have := ha' (by simp); cases this; exact ⟨rfl, rfl⟩
  obtain ⟨b3, o3, c3, hrun, hat3⟩ := slice_from (enc := encS) (sz := 1) Tryz.underlying107 szStr ha' hc' hcm' hx' 2 (by simp) (by simp)
  have x0 := hx' 0 _ rfl 0 _ rfl
  have x1 := hx' 1 _ rfl 0 _ rfl
  simp only [List.length_cons, List.length_nil, Nat.zero_add, Nat.reduceAdd, Nat.reduceSub, Nat.mul_one, Nat.add_zero, List.drop_succ_cons, List.drop_zero] at hrun hat3 x0 x1
  have e2 : ((2 : Nat) : Int) = 2 := rfl
  rw [e2] at hrun
  clear hv' ha' hx' hown hcm' hc' e2 hsp
  have hl6 : [p, q, n1, n2, n3, n4].length = 6 := rfl
  rw [hl6]
  go_wp2_with fail
  refine (numbers_any B _ [n1, n2, n3, n4] _ (hT.below' hb2' hBw) hat3 (by simp) (fun x hx => by have := HWS.out x (by simp at hx ⊢; rcases hx with h | h | h | h <;> simp [h]); omega)).mono ?_
  rintro e w3 ⟨v', rfl, hv1, hv2, hb3⟩
  have hb31 := hb2.trans (hb3.mono hb2.size)
  have hb3' := hb2'.trans (hb3.mono hb2'.size)
  have v1' := V.out _ hb3'
  have y0 := (hb3.cell (World.block_lt_of_cell? w2 _ x0)).trans x0
  have y1 := (hb3.cell (World.block_lt_of_cell? w2 _ x1)).trans x1
  clear v1 hrun hat3 x0 x1
  cases hn : numsOf [n1, n2, n3, n4] with
  | none =>
    rw [hn] at hv2
    obtain rfl := hv2 rfl
    have HF := Lib.hid (fileRead_none (s := s) (by rw [HFO.out, hn]))
    clear hn hv1
    simp only [Option.isSome_none]
    obtain ⟨c0, c1, c2, c3, c4, c5⟩ := CZ.out _ hb31
    have hg2 := HG.out _ hb31
    have fz : ∀ j, w3.frozen? ⟨w.heap.size, j, none⟩ = false := fun j => frozen_row hg2
    have f0 := fz 0; have f1 := fz 1; have f2 := fz 2; have f3 := fz 3; have f4 := fz 4; have f5 := fz 5
    have hn1 : ¬ (2 = w.heap.size) := hgE.1
    have hn2 : ¬ (w.heap.size = 2) := hgE.2
    go_wp2_with fail
    go_region_law (fail)
    all_goals
      go_wp2_with fail
      refine bodyPost_ret (ret_row rfl _ _ w.heap.size 79 #[.string ⟨#[]⟩, .string ⟨#[]⟩, .int .i64 0, .int .i64 0, .int .i64 0, .int .i64 0] (0, 0) _ rfl ?_ Tryz.underlying79 rfl (by kernel_rfl)) rfl ⟨.iface 289 (.pointer (some (E 1))), ?_, ?_, ?_⟩
      · rw [World.heap_drew]; exact six_new hg2 _ _ _ _ _ _
      · rw [HF.out]; rfl
      · rw [HF.out]; exact ⟨by decide, rfl⟩
      · exact Below.drew (six_below hb3' (Nat.le_refl _) _ _ _ _ _ _)
  | some ns =>
    have hown := hv1 ns hn
    have hnl := mapM_len _ hn
    obtain ⟨m1, m2, m3, m4, rfl⟩ := four_ints (l := ns) (by simpa using hnl)
    have HF := Lib.hid (fileRead_some (s := s) (f := ⟨p, q, m1, m2, m3, m4⟩) (by rw [HFO.out, hn]))
    clear hn hv1 hv2 hnl
    simp only [Option.isSome_some]
    obtain ⟨a4, c4, b4, o4, hv4, ha4, hc4, hcm4, hx4⟩ := hown.at encI_enc
    subst hv4
    obtain rfl := ha4 (by simp)
    have z0 := hx4 0 _ rfl 0 _ rfl
    have z1 := hx4 1 _ rfl 0 _ rfl
    have z2 := hx4 2 _ rfl 0 _ rfl
    have z3 := hx4 3 _ rfl 0 _ rfl
    simp only [Nat.mul_one, Nat.add_zero] at z0 z1 z2 z3
    have hl4 : [m1, m2, m3, m4].length = 4 := rfl
    rw [hl4]
    clear hx4 hown ha4 hc4 hcm4 hl4
    have hks := fun w6 (h : Below w3.heap.size w3 w6) => (⟨(h.cell (World.block_lt_of_cell? w3 _ y0)).trans y0, (h.cell (World.block_lt_of_cell? w3 _ y1)).trans y1, (h.cell (World.block_lt_of_cell? w3 _ z0)).trans z0, (h.cell (World.block_lt_of_cell? w3 _ z1)).trans z1, (h.cell (World.block_lt_of_cell? w3 _ z2)).trans z2, (h.cell (World.block_lt_of_cell? w3 _ z3)).trans z3⟩ : _ ∧ _ ∧ _ ∧ _ ∧ _ ∧ _)
    have KS := Lib.hid hks; clear hks
    go_wp2_with fail
    go_region_held3 (fun w' => w'.cell? ⟨w1.heap.size, 0, none⟩ = some (S p) ∧ w'.cell? ⟨w1.heap.size, 1, none⟩ = some (S q) ∧ w'.cell? ⟨b4, o4, none⟩ = some (.int .i64 m1) ∧ w'.cell? ⟨b4, o4 + 1, none⟩ = some (.int .i64 m2) ∧ w'.cell? ⟨b4, o4 + 2, none⟩ = some (.int .i64 m3) ∧ w'.cell? ⟨b4, o4 + 3, none⟩ = some (.int .i64 m4)) (first | exact ⟨y0, y1, z0, z1, z2, z3⟩ | exact KS.out _ (((Below.refl _ _).alloc (Nat.le_refl _) _).drew) | exact KS.out _ ((Below.refl _ _).drew.alloc (Nat.le_refl _) _)) (fail)
    have hb4 : Below w3.heap.size w3 (w3.alloc (.cells #[S p, S q, .int .i64 m1, .int .i64 m2, .int .i64 m3, .int .i64 m4] 79)).drew := ((Below.refl _ _).alloc (Nat.le_refl _) _).drew
    have CF := Lib.hid (fun w6 (h : Below (w3.alloc (.cells #[S p, S q, .int .i64 m1, .int .i64 m2, .int .i64 m3, .int .i64 m4] 79)).heap.size (w3.alloc (.cells #[S p, S q, .int .i64 m1, .int .i64 m2, .int .i64 m3, .int .i64 m4] 79)).drew w6) => fileCells (f := ⟨p, q, m1, m2, m3, m4⟩) rfl (((Below.refl _ _).drew).trans h))
    have hsz : (w3.alloc (.cells #[S p, S q, .int .i64 m1, .int .i64 m2, .int .i64 m3, .int .i64 m4] 79)).heap.size = (w3.alloc (.cells #[S p, S q, .int .i64 m1, .int .i64 m2, .int .i64 m3, .int .i64 m4] 79)).drew.heap.size := rfl
    rw [hsz] at CF
    generalize (w3.alloc (.cells #[S p, S q, .int .i64 m1, .int .i64 m2, .int .i64 m3, .int .i64 m4] 79)).drew = w4 at *
    have hb4' := hb3'.trans (hb4.mono hb3'.size)
    have hb41 := hb31.trans (hb4.mono hb31.size)
    obtain ⟨c0, c1, c2, c3, c4, c5⟩ := CF.out w4 (Below.refl _ _)
    clear y0 y1 z0 z1 z2 z3 v1' hsz
    go_wp2_with fail
    refine (fileCheck_any E B ⟨p, q, m1, m2, m3, m4⟩ _ ((hE.sub (by decide)).below' hb4' hBw) (hT.below' hb4' hBw) (hM.below' hb4' hBw) ⟨by have := HWS.out p (by simp); show p.length ≤ _; omega, by have := HWS.out q (by simp); show q.length ≤ _; omega⟩).mono ?_
    rintro e w5 ⟨ev, rfl, hev, hb5⟩
    have hb5' := hb4'.trans (hb5.mono hb4'.size)
    have hb51 := hb41.trans (hb5.mono hb41.size)
    have hg2 := HG.out _ hb51
    have fz : ∀ j, w5.frozen? ⟨w.heap.size, j, none⟩ = false := fun j => frozen_row hg2
    have f0 := fz 0; have f1 := fz 1; have f2 := fz 2; have f3 := fz 3; have f4 := fz 4; have f5 := fz 5
    obtain ⟨d0, d1, d2, d3, d4, d5⟩ := CZ.out _ hb51
    clear c0 c1 c2 c3 c4 c5
    obtain ⟨c0, c1, c2, c3, c4, c5⟩ := CF.out w5 hb5
    by_cases hck : checkF ⟨p, q, m1, m2, m3, m4⟩ = 0
    case neg =>
      rw [fileEr_bad rfl hck] at hev
      obtain ⟨hcr, rfl⟩ := hev
      have HR : Hid (fileRead s = (zeroF, checkF ⟨p, q, m1, m2, m3, m4⟩)) := Lib.hid (by rw [HF.out, if_neg hck])
      have HER : Hid (erOf (checkF ⟨p, q, m1, m2, m3, m4⟩) = .bare (checkF ⟨p, q, m1, m2, m3, m4⟩)) := Lib.hid (if_neg hck)
      clear hck
      generalize checkF ⟨p, q, m1, m2, m3, m4⟩ = ce at *
      go_wp2_with fail
      refine bodyPost_ret (ret_row rfl _ _ w.heap.size 79 #[.string ⟨#[]⟩, .string ⟨#[]⟩, .int .i64 0, .int .i64 0, .int .i64 0, .int .i64 0] (0, 0) _ rfl (six_new hg2 _ _ _ _ _ _) Tryz.underlying79 rfl (by kernel_rfl)) rfl ⟨.iface 289 (.pointer (some (E ce))), ?_, ?_, ?_⟩
      · rw [HR.out]; rfl
      · rw [HR.out]; show ErV E _ _ (erOf ce); rw [HER.out]; exact ⟨hcr, rfl⟩
      · exact six_below hb5' (Nat.le_refl _) _ _ _ _ _ _
    rw [fileEr_nil hck] at hev
    obtain rfl : ev = .nilIface := hev
    have HR : Hid (fileRead s = (⟨p, q, m1, m2, m3, m4⟩, 0)) := Lib.hid (by rw [HF.out, if_pos hck])
    clear hck
    go_wp2_with fail
    refine bodyPost_ret (ret_row rfl _ _ w.heap.size 79 #[S p, S q, .int .i64 m1, .int .i64 m2, .int .i64 m3, .int .i64 m4] (0, 0) _ rfl (six_new hg2 _ _ _ _ _ _) Tryz.underlying79 rfl (by kernel_rfl)) rfl ⟨.nilIface, ?_, ?_, ?_⟩
    · rw [HR.out]; rfl
    · rw [HR.out]; rfl
    · exact six_below hb5' (Nat.le_refl _) _ _ _ _ _ _
end Go.Proofs.YtlfkjbdkbdcdnaaGreatDoor
namespace Go.Proofs.YtlfkjbdkbdcdnaaGreatDoor
open Go.RowKit

abbrev encR (r : Rw) : List Value := [S r.part, .int .i64 r.key, .int .i64 r.val]
theorem encR_enc : Enc encR 3 := fun x => ⟨rfl, by simp [Value.oneCell']⟩
abbrev RowsAt (w : World) (v : Value) (l : List Rw) : Prop := At encR 3 w v l
theorem szRw (w : World) : (sizeOf 36).run Tryz.prog w = .ok 3 w := by kernel_rfl
theorem elRw : ElemInfo Tryz.prog 22 36 3 32 := elemInfo_of Tryz.underlying22 (z := .agg #[.string ByteArray.empty, .int .i64 0, .int .i64 0]) (by kernel_rfl) rfl (by decide)
/-- A row's numbers are of 64 bits. -/
def RowWf (r : Rw) : Prop := (-9223372036854775808 ≤ r.key ∧ r.key ≤ 9223372036854775807) ∧ (-9223372036854775808 ≤ r.val ∧ r.val ≤ 9223372036854775807)
abbrev rowV (r : Rw) : Value := .agg #[S r.part, .int .i64 r.key, .int .i64 r.val]
abbrev rowO (r : Rw) : Obj := .cells #[S r.part, .int .i64 r.key, .int .i64 r.val] 36
theorem rowCells {w w1 w6 : World} {r : Rw} (hw : w1 = w.alloc (rowO r)) (h6 : Below w1.heap.size w1 w6) :
    w6.cell? ⟨w.heap.size, 0, none⟩ = some (S r.part) ∧ w6.cell? ⟨w.heap.size, 1, none⟩ = some (.int .i64 r.key) ∧ w6.cell? ⟨w.heap.size, 2, none⟩ = some (.int .i64 r.val) := by
  subst hw
  have h := heap_alloc_new w (.cells #[S r.part, .int .i64 r.key, .int .i64 r.val] 36)
  have h' := (h6.block w.heap.size (by simp)).trans h
  refine ⟨?_, ?_, ?_⟩ <;> (rw [cell_of_row w6 _ _ _ _ (0, 0) h']; rfl)
/-- A round's cells. -/
theorem rwCells {w w' : World} {b o : Nat} {l : List Rw} {k : Nat} {x : Rw} (hx : ∀ (k : Nat) (x : Rw), l[k]? = some x → ∀ (j : Nat) (u : Value), (encR x)[j]? = some u → w.cell? ⟨b, o + k * 3 + j, none⟩ = some u) (hb : Below w.heap.size w w') (hk : l[k]? = some x) :
    w'.cell? ⟨b, o + k * 3, none⟩ = some (S x.part) ∧ w'.cell? ⟨b, o + k * 3 + 1, none⟩ = some (.int .i64 x.key) ∧ w'.cell? ⟨b, o + k * 3 + 2, none⟩ = some (.int .i64 x.val) := by
  have h := fun j u hu => by
    have := hx k x hk j u hu
    exact (hb.cell (World.block_lt_of_cell? w _ this)).trans this
  exact ⟨h 0 _ rfl, h 1 _ rfl, h 2 _ rfl⟩
/-- A block of three cells, written. -/
abbrev thr (w : World) (g o : Nat) (b0 b1 b2 : Value) : World := ((w.setCell ⟨g, o, none⟩ b0).setCell ⟨g, o + 1, none⟩ b1).setCell ⟨g, o + 2, none⟩ b2
theorem thr_row {w : World} {g o : Nat} {t : TypeId} {fr : Nat × Nat} {cur : Array Value} (hg : w.heap[g]? = some (.cells cur t fr)) (b0 b1 b2 : Value) : (thr w g o b0 b1 b2).heap[g]? = some (.cells (((cur.setIfInBounds o b0).setIfInBounds (o + 1) b1).setIfInBounds (o + 2) b2) t fr) :=
  row_setCell (row_setCell (row_setCell hg b0) b1) b2
theorem thr_below {B : Nat} {w0 w : World} {g o : Nat} (hb : Below B w0 w) (hB : B ≤ g) (b0 b1 b2 : Value) : Below B w0 (thr w g o b0 b1 b2) :=
  ((hb.setCell (p := ⟨g, o, none⟩) hB _).setCell (p := ⟨g, o + 1, none⟩) hB _).setCell (p := ⟨g, o + 2, none⟩) hB _
theorem thr_new {w : World} {g : Nat} {t : TypeId} {fr : Nat × Nat} {a0 a1 a2 : Value} (hg : w.heap[g]? = some (.cells #[a0, a1, a2] t fr)) (b0 b1 b2 : Value) : (thr w g 0 b0 b1 b2).heap[g]? = some (.cells #[b0, b1, b2] t fr) := thr_row hg b0 b1 b2

theorem less_befR : ∀ a b : Str, Op.bytesLess a b = bef a b
  | [], [] => by simp [Op.bytesLess, bytesBefore]
  | [], _ :: _ => by simp [Op.bytesLess, bytesBefore]
  | _ :: _, [] => by simp [Op.bytesLess, bytesBefore]
  | a :: r, b :: s => by
    have ih := less_befR r s
    show Op.bytesLess (a :: r) (b :: s) = (decide (a < b) || (a == b && bytesBefore r s))
    unfold Op.bytesLess
    rw [ih]
def rowEr (r : Rw) : Er := erOf (rowCheck r)
theorem rowCheck_name {r : Rw} (h : nameOk r.part = false) : rowCheck r = 5 := if_pos h
theorem rowCheck_far {r : Rw} (h : nameOk r.part = true) (h2 : farN r.key ∨ farN r.val) : rowCheck r = 2 := by unfold rowCheck; rw [if_neg (by rw [h]; decide), if_pos h2]
theorem rowCheck_right {r : Rw} (h : nameOk r.part = true) (h2 : ¬ farN r.key) (h3 : ¬ farN r.val) : rowCheck r = 0 := by unfold rowCheck; rw [if_neg (by rw [h]; decide), if_neg (fun h => h.elim h2 h3)]

set_option maxRecDepth 20000 in
theorem rowName_any (s : Str) (w : World) (hs : s.length ≤ 100000) :
    Calls Tryz.prog 107 #[S s] w fun e w' => e = .returned (.bool (nameOk s)) ∧ Below w.heap.size w w' := by
  unfold nameOk
  by_cases h0 : s = []
  · subst h0
    go_enter Tryz.func107, Tryz.ntmps107
    go_wp2_with fail
    go_ret
    exact ⟨rfl, Below.refl _ _⟩
  have g0 : (!s.isEmpty) = true := by simpa using h0
  have e0 : decide (s ≠ []) = true := by simpa using h0
  rw [e0, Bool.true_and]
  by_cases h1 : s.length ≤ 8
  · have g1 : decide ((s.length : Int) ≤ 8) = true := by simp; omega
    have g2 : (s.length : Int) ≤ 8 := by omega
    have e1 : decide (s.length ≤ 8) = true := by simpa using h1
    rw [e1, Bool.true_and]
    go_enter Tryz.func107, Tryz.ntmps107
    go_wp2_with fail
    refine (trimPart_any s _ hs).mono ?_
    rintro e w1 ⟨rfl, hb1⟩
    have hT : (Lib.trimS s partSigns).isEmpty = s.all (fun b => partSigns.contains b) := by
      rw [Bool.eq_iff_iff, List.isEmpty_iff, trimS_nilP]
    have HT := Lib.hid hT; clear hT
    generalize Lib.trimS s partSigns = T at *
    go_wp2_with fail
    go_ret
    exact ⟨ret_bool (by first | exact HT.out | (rw [← HT.out]; cases T <;> rfl)), hb1⟩
  · have g1 : decide ((s.length : Int) ≤ 8) = false := by simp; omega
    have e1 : decide (s.length ≤ 8) = false := by simpa using h1
    rw [e1, Bool.false_and]
    go_enter Tryz.func107, Tryz.ntmps107
    go_wp2_with fail
    go_ret
    exact ⟨rfl, Below.refl _ _⟩
set_option maxHeartbeats 1000000 in
set_option maxRecDepth 20000 in
theorem rowCheck_any (E : Nat → Addr) (B : Nat) (r : Rw) (w : World) (hE : Errs [2, 5] E B w) (hs : r.part.length ≤ 100000) :
    Calls Tryz.prog 55 #[rowV r] w fun e w' => ∃ ev, e = .returned ev ∧ ErV E w' ev (rowEr r) ∧ Below w.heap.size w w' := by
  have hBw := hE.le
  have hb0 : Below w.heap.size w (w.alloc (.cells #[S r.part, .int .i64 r.key, .int .i64 r.val] 36)) := (Below.refl _ _).alloc (Nat.le_refl _) _
  have Cs := Lib.hid (fun w6 (h : Below (w.alloc (.cells #[S r.part, .int .i64 r.key, .int .i64 r.val] 36)).heap.size (w.alloc (.cells #[S r.part, .int .i64 r.key, .int .i64 r.val] 36)) w6) => rowCells (r := r) rfl h)
  have hE1 := hE.below' hb0 hE.le
  have V0 := fun w6 (h : Below (w.alloc (.cells #[S r.part, .int .i64 r.key, .int .i64 r.val] 36)).heap.size (w.alloc (.cells #[S r.part, .int .i64 r.key, .int .i64 r.val] 36)) w6) => (⟨(hE1.below' h hE1.le).var 2 (by decide), (hE1.below' h hE1.le).var 5 (by decide)⟩ : _ ∧ _)
  simp only [errG] at V0
  have V := Lib.hid V0
  clear V0
  obtain ⟨c0, c1, c2⟩ := Cs.out _ (Below.refl _ _)
  go_enter Tryz.func55, Tryz.ntmps55
  go_wp2_with fail
  generalize w.alloc (.cells #[S r.part, .int .i64 r.key, .int .i64 r.val] 36) = w1 at *
  refine (rowName_any r.part _ hs).mono ?_
  rintro e w2 ⟨rfl, hb2⟩
  have hb2' := hb0.trans (hb2.mono hb0.size)
  clear c0 c1 c2
  obtain ⟨c0, c1, c2⟩ := Cs.out w2 hb2
  obtain ⟨v2, v5⟩ := V.out w2 hb2
  cases hnm : nameOk r.part with
  | false =>
    have HF : Hid (rowEr r = .bare 5) := Lib.hid (by unfold rowEr; rw [rowCheck_name hnm]; rfl)
    clear hnm
    go_wp2_with fail
    go_ret
    exact ⟨_, rfl, by rw [HF.out]; exact ⟨by decide, rfl⟩, hb2'⟩
  | true =>
    have HN := Lib.hid hnm
    clear hnm
    go_wp2_with fail
    refine (far_any r.key _).mono ?_
    rintro e w3 ⟨rfl, rfl⟩
    by_cases b1 : farN r.key
    · have HF : Hid (rowEr r = .bare 2) := Lib.hid (by unfold rowEr; rw [rowCheck_far HN.out (.inl b1)]; rfl)
      rw [decide_eq_true b1]
      clear b1
      go_wp2_with fail
      go_ret
      exact ⟨_, rfl, by rw [HF.out]; exact ⟨by decide, rfl⟩, hb2'⟩
    rw [decide_eq_false b1]
    have B1 := Lib.hid b1
    clear b1
    go_wp2_with fail
    refine (far_any r.val _).mono ?_
    rintro e w3 ⟨rfl, rfl⟩
    by_cases b2 : farN r.val
    · have HF : Hid (rowEr r = .bare 2) := Lib.hid (by unfold rowEr; rw [rowCheck_far HN.out (.inr b2)]; rfl)
      rw [decide_eq_true b2]
      clear b2
      go_wp2_with fail
      go_ret
      exact ⟨_, rfl, by rw [HF.out]; exact ⟨by decide, rfl⟩, hb2'⟩
    rw [decide_eq_false b2]
    have HF : Hid (rowEr r = .nil) := Lib.hid (by unfold rowEr; rw [rowCheck_right HN.out B1.out b2]; rfl)
    clear b2
    go_wp2_with fail
    go_ret
    exact ⟨_, rfl, by rw [HF.out]; rfl, hb2'⟩
theorem rowEr_nil {r : Rw} (h : rowCheck r = 0) : rowEr r = .nil := if_pos h
theorem rowEr_bad {r : Rw} (h : rowCheck r ≠ 0) : rowEr r = .bare (rowCheck r) := if_neg h
theorem name_len {r : Rw} (h : rowCheck r = 0) : r.part.length ≤ 8 ∧ -1073741824 ≤ r.key ∧ r.key ≤ 1073741824 ∧ -1073741824 ≤ r.val ∧ r.val ≤ 1073741824 := by
  obtain ⟨h1, h2, h3⟩ := rowCheck_zero h
  have h4 := (name_sign h1).2.2
  unfold farN at h2 h3
  omega
theorem rowLine_len {r : Rw} (h : rowCheck r = 0) : (rowLine r).length ≤ 54 := by
  obtain ⟨h1, h2⟩ := name_len h
  have := numsTail_len [r.key, r.val] (fun x hx => by simp only [List.mem_cons, List.not_mem_nil, or_false] at hx; rcases hx with rfl | rfl <;> omega)
  unfold rowLine
  rw [List.length_append]
  simp only [List.length_cons, List.length_nil] at this
  omega
set_option maxHeartbeats 2000000 in
set_option maxRecDepth 20000 in
theorem rowText_any (E : Nat → Addr) (B : Nat) (r : Rw) (w : World) (hE : Errs [2, 5] E B w) (hT : LNum B w) (hs : r.part.length ≤ 100000) :
    Calls Tryz.prog 84 #[rowV r] w fun e w' => e = .returned (S (rowText r)) ∧ Below w.heap.size w w' := by
  have hBw := hE.le
  have hb0 : Below w.heap.size w (w.alloc (.cells #[S r.part, .int .i64 r.key, .int .i64 r.val] 36)) := (Below.refl _ _).alloc (Nat.le_refl _) _
  have Cs := Lib.hid (fun w6 (h : Below (w.alloc (.cells #[S r.part, .int .i64 r.key, .int .i64 r.val] 36)).heap.size (w.alloc (.cells #[S r.part, .int .i64 r.key, .int .i64 r.val] 36)) w6) => rowCells (r := r) rfl h)
  have hE1 := hE.below' hb0 hE.le; have hT1 := hT.below' hb0 hE.le
  obtain ⟨c0, c1, c2⟩ := Cs.out _ (Below.refl _ _)
  go_enter Tryz.func84, Tryz.ntmps84
  go_wp2_with fail
  generalize w.alloc (.cells #[S r.part, .int .i64 r.key, .int .i64 r.val] 36) = w1 at *
  refine (rowCheck_any E B r _ hE1 hs).mono ?_
  rintro e w2 ⟨ev, rfl, hev, hb2⟩
  clear c0 c1 c2
  have hb2' := hb0.trans (hb2.mono hb0.size)
  by_cases hck : rowCheck r = 0
  case neg =>
    have HF : Hid (rowText r = []) := Lib.hid (if_neg hck)
    rw [rowEr_bad hck] at hev
    obtain ⟨hcr, rfl⟩ := hev
    have HK := Lib.hid hck; clear hck
    go_wp2_with fail
    go_ret
    exact ⟨by rw [HF.out]; rfl, hb2'⟩
  have HF : Hid (rowText r = rowLine r) := Lib.hid (if_pos hck)
  rw [rowEr_nil hck] at hev
  obtain rfl : ev = .nilIface := hev
  obtain ⟨q0, q1, q2, q3, q4⟩ := name_len hck
  clear hck
  have hl1 := itoa_len r.key (by omega) (by omega)
  have hl2 := itoa_len r.val (by omega) (by omega)
  have hT2 := hT1.below' hb2 hT1.le
  obtain ⟨c0, c1, c2⟩ := Cs.out w2 hb2
  have hbd : Below w2.heap.size w2 w2.drew := Bdn (Below.refl _ _) 1
  obtain ⟨k1, hk1⟩ : ∃ k1, Lib.itoa r.key = k1 := ⟨_, rfl⟩
  obtain ⟨k2, hk2⟩ : ∃ k2, Lib.itoa r.val = k2 := ⟨_, rfl⟩
  have hi1 := fun W (h : Below w2.heap.size w2 W) => itoa_any B r.key (by omega) (by omega) W (hT2.below' h hT2.le)
  have hi2 := fun W (h : Below w2.heap.size w2 W) => itoa_any B r.val (by omega) (by omega) W (hT2.below' h hT2.le)
  rw [hk1] at hl1 hi1
  rw [hk2] at hl2 hi2
  have HI1 := Lib.hid hi1; have HI2 := Lib.hid hi2
  have HL : Hid (rowLine r = r.part ++ ([32] ++ (k1 ++ ([32] ++ k2)))) := Lib.hid (by simp [rowLine, numsTail, hk1, hk2])
  clear hi1 hi2 hk1 hk2
  obtain ⟨p, hp⟩ : ∃ p, r.part = p := ⟨_, rfl⟩
  rw [hp] at c0 q0
  have HPp := Lib.hid hp
  clear hp hs
  have a1 := cat_run ⟨p.toArray⟩ ⟨#[32]⟩ (p.length) (1) rfl rfl (by omega)
  have a2 := cat_run (⟨p.toArray⟩ ++ ⟨#[32]⟩) ⟨k1.toArray⟩ (p.length + 1) (k1.length) (by simp only [ByteArray.size_append]; rfl) rfl (by omega)
  have a3 := cat_run (⟨p.toArray⟩ ++ ⟨#[32]⟩ ++ ⟨k1.toArray⟩) ⟨#[32]⟩ (p.length + 1 + k1.length) (1) (by simp only [ByteArray.size_append]; rfl) rfl (by omega)
  have a4 := cat_run (⟨p.toArray⟩ ++ ⟨#[32]⟩ ++ ⟨k1.toArray⟩ ++ ⟨#[32]⟩) ⟨k2.toArray⟩ (p.length + 1 + k1.length + 1) (k2.length) (by simp only [ByteArray.size_append]; rfl) rfl (by omega)
  have HAll : Hid ((⟨p.toArray⟩ : ByteArray) ++ ⟨#[32]⟩ ++ ⟨k1.toArray⟩ ++ ⟨#[32]⟩ ++ ⟨k2.toArray⟩ = ⟨(rowLine r).toArray⟩) := Lib.hid (by
    rw [HL.out, HPp.out]
    apply ByteArray.ext
    simp)
  have HQ0 := Lib.hid q0; have HQ1 := Lib.hid hl1; have HQ2 := Lib.hid hl2
  clear q0 q1 q2 q3 q4 hl1 hl2
  go_wp2_with fail
  go_region_held3 (fun w' => w'.cell? ⟨w.heap.size, 0, none⟩ = some (S p) ∧ w'.cell? ⟨w.heap.size, 1, none⟩ = some (.int .i64 r.key) ∧ w'.cell? ⟨w.heap.size, 2, none⟩ = some (.int .i64 r.val)) (exact ⟨c0, c1, c2⟩) (first
    | (go_at_call 65; (with_reducible refine (HI1.out _ hbd).mono ?_); rintro e w3 ⟨rfl, hb3⟩; have hb3' := hbd.trans (hb3.mono hbd.size); have c0 := (hb3.cell (World.block_lt_of_cell? _ _ c0)).trans c0; have c1 := (hb3.cell (World.block_lt_of_cell? _ _ c1)).trans c1; have c2 := (hb3.cell (World.block_lt_of_cell? _ _ c2)).trans c2)
    | (go_at_call 65; (with_reducible refine (HI2.out _ hb3').mono ?_); rintro e w4 ⟨rfl, hb4⟩; have hb4' := hb3'.trans (hb4.mono hb3'.size); have c0 := (hb4.cell (World.block_lt_of_cell? _ _ c0)).trans c0; have c1 := (hb4.cell (World.block_lt_of_cell? _ _ c1)).trans c1; have c2 := (hb4.cell (World.block_lt_of_cell? _ _ c2)).trans c2))
  all_goals
    go_wp2_with fail
    go_ret
    refine ⟨?_, hb2'.trans (hb4'.mono hb2'.size)⟩
    show Ending.returned (.string ((⟨p.toArray⟩ : ByteArray) ++ ⟨#[32]⟩ ++ ⟨k1.toArray⟩ ++ ⟨#[32]⟩ ++ ⟨k2.toArray⟩)) = _
    rw [HAll.out, HF.out]
end Go.Proofs.YtlfkjbdkbdcdnaaGreatDoor
namespace Go.Proofs.YtlfkjbdkbdcdnaaGreatDoor
open Go.RowKit

theorem own_empty {α : Type} (enc : α → List Value) (e : TypeId) (sz B g : Nat) (w : World) (hB : B ≤ g) (hg : w.heap[g]? = some (.cells #[] e (0, 0))) : Own enc e sz B w (.slice (some ⟨g, 0, none⟩) 0 0) [] :=
  ⟨by simp, .inr ⟨g, 0, #[], rfl, hB, hg, Nat.le_refl _, Nat.zero_le _, by simp, by simp⟩⟩
theorem At.form' {α : Type} {enc : α → List Value} {sz : Nat} {w : World} {v : Value} {l : List α} (h : At enc sz w v l) : ∃ a c, v = .slice a l.length c ∧ (a = none → l = []) ∧ c ≤ maxLen := by
  obtain ⟨a, c, b, o, hv, ha, _, hm, _⟩ := h
  exact ⟨a, c, hv, fun h => List.eq_nil_of_length_eq_zero (by
    rcases Nat.eq_zero_or_pos l.length with h0 | h0
    · exact h0
    · have := ha h0; rw [h] at this; cases this), hm⟩


theorem flZero : (Tryz.prog.info? 79).bind (·.zero) = some (.agg #[.string ByteArray.empty, .string ByteArray.empty, .int .i64 0, .int .i64 0, .int .i64 0, .int .i64 0]) := by kernel_rfl
theorem flZero1 : ∀ z, (Tryz.prog.info? 79).bind (·.zero) = some z → ∀ u ∈ z.cells.toList, u.oneCell' = true := by
  intro z hz u hu
  rw [flZero] at hz
  cases hz
  simp [Value.cells] at hu
  rcases hu with rfl | rfl <;> rfl

end Go.Proofs.YtlfkjbdkbdcdnaaGreatDoor
namespace Go.Proofs.YtlfkjbdkbdcdnaaGreatDoor
open Go.RowKit

theorem cut1_any (c : UInt8) (B : Nat) (s : Str) (w : World) (hM : LMax B w) (hs : s.length ≤ 100000) :
    Calls Tryz.prog 98 #[S s, .string ⟨#[c]⟩] w fun e w' => e = .returned (.tuple #[S (Lib.cut s [c]).1, S (Lib.cut s [c]).2.1, .bool (Lib.cut s [c]).2.2]) ∧ Below w.heap.size w w' := by
  obtain ⟨m, hm⟩ := hM.max
  refine (Tryz.strings_Cut ⟨s.toArray⟩ ⟨#[c]⟩ m w (by show s.toArray.size < _; simp; omega) hm).mono ?_
  rintro e w' ⟨rfl, n, rfl⟩
  exact ⟨rfl, Bdn (Below.refl _ _) n⟩
end Go.Proofs.YtlfkjbdkbdcdnaaGreatDoor
namespace Go.Proofs.YtlfkjbdkbdcdnaaGreatDoor
open Go.RowKit

theorem floor_up {a n : Int} (hn : 1 ≤ n) (h : a < a.tdiv n * n) : a / n = a.tdiv n - 1 := by
  have h1 := Int.mul_tdiv_add_tmod a n
  have h2 := Int.lt_tmod_of_pos a (show 0 < n by omega)
  rw [Int.mul_comm] at h1
  have e1 : a.tdiv n - 1 ≤ a / n := (Int.le_ediv_iff_mul_le (by omega)).2 (by rw [Int.sub_mul]; omega)
  have e2 : a / n < a.tdiv n := (Int.ediv_lt_iff_lt_mul (by omega)).2 h
  omega
theorem floor_eq {a n : Int} (hn : 1 ≤ n) (h : ¬ a < a.tdiv n * n) : a / n = a.tdiv n := by
  have h1 := Int.mul_tdiv_add_tmod a n
  have h2 := Int.tmod_lt_of_pos a (show 0 < n by omega)
  rw [Int.mul_comm] at h1
  have e1 : a.tdiv n ≤ a / n := (Int.le_ediv_iff_mul_le (by omega)).2 (by omega)
  have e2 : a / n < a.tdiv n + 1 := (Int.ediv_lt_iff_lt_mul (by omega)).2 (by rw [Int.add_mul]; omega)
  omega
theorem floor_bound {a n : Int} (hn : 1 ≤ n) (hn2 : n ≤ 1000) (ha : ¬ farN a) :
    (-1073741824 ≤ a.tdiv n ∧ a.tdiv n ≤ 1073741824) ∧ (-1073742824 ≤ a.tdiv n * n ∧ a.tdiv n * n ≤ 1073742824) ∧ (-1073741824 ≤ a / n ∧ a / n ≤ 1073741824) ∧ (-1073742824 ≤ n * (a / n) ∧ n * (a / n) ≤ 1073742824) := by
  have h1 := Int.mul_tdiv_add_tmod a n
  have h2 := Int.tmod_lt_of_pos a (show 0 < n by omega)
  have h3 := Int.lt_tmod_of_pos a (show 0 < n by omega)
  rw [Int.mul_comm] at h1
  unfold farN at ha
  have e1 : (a.tdiv n).natAbs ≤ a.natAbs := by rw [Int.natAbs_tdiv]; exact Nat.div_le_self _ _
  have e4 := Int.mul_ediv_add_emod a n
  have e5 := Int.emod_nonneg a (show n ≠ 0 by omega)
  have e6 := Int.emod_lt_of_pos a (show 0 < n by omega)
  have e7 : -1073741824 ≤ a / n := (Int.le_ediv_iff_mul_le (by omega)).2 (by
    have : 1073741824 * 1 ≤ 1073741824 * n := Int.mul_le_mul_of_nonneg_left hn (by decide)
    omega)
  have e8 : a / n < 1073741824 + 1 := (Int.ediv_lt_iff_lt_mul (by omega)).2 (by omega)
  omega

theorem floor_any (a n : Int) (w : World) (hn : 1 ≤ n) (hn2 : n ≤ 1000) (ha : ¬ farN a) :
    Calls Tryz.prog 108 #[.int .i64 a, .int .i64 n] w fun e w' => e = .returned (.int .i64 (a / n)) ∧ w = w' := by
  obtain ⟨⟨h1, h2⟩, ⟨h3, h4⟩, -, -⟩ := floor_bound hn hn2 ha
  have hz : n ≠ 0 := by omega
  have hz2 : (n == 0) = false := by simpa using hz
  have hw : wrap64 (a.tdiv n * n) = a.tdiv n * n := IntWalk.wrap64_in _ ⟨by omega, by omega⟩
  by_cases h : a < a.tdiv n * n
  · rw [floor_up hn h]
    go_enter Tryz.func108, Tryz.ntmps108
    go_wp2_with fail
    go_ret
    exact ⟨rfl, rfl⟩
  · rw [floor_eq hn h]
    go_enter Tryz.func108, Tryz.ntmps108
    go_wp2_with fail
    go_ret
    exact ⟨rfl, rfl⟩
set_option maxHeartbeats 1000000 in
set_option maxRecDepth 20000 in
theorem partSpec_any (E : Nat → Addr) (B : Nat) (s : Str) (w : World) (hE : Errs [1, 2] E B w) (hT : LNum B w) (hM : LMax B w) (hs : s.length ≤ 100000) :
    Calls Tryz.prog 54 #[S s] w fun e w' => ∃ ev, e = .returned (.tuple #[S (specOf s).1, .int .i64 (specOf s).2.1, ev]) ∧ ErV E w' ev (erOf (specOf s).2.2) ∧ Below w.heap.size w w' := by
  by_cases hp : s = kPart
  · subst hp
    go_enter Tryz.func54, Tryz.ntmps54
    go_wp2_with fail
    go_ret3
    exact ⟨_, rfl, rfl, Below.refl _ _⟩
  have gp : (s == kPart) = false := by simpa using hp
  have hcl := (cut_len s [32]).2
  have hsp : specOf s = specIn (Lib.cut s [32]).1 (Lib.cut s [32]).2.1 (Lib.cut s [32]).2.2 (numOf (Lib.cut s [32]).2.1) := if_neg hp
  have hcut := cut1_any 32 B s w hM hs
  generalize (Lib.cut s [32]).1 = k at *
  generalize (Lib.cut s [32]).2.1 = d at *
  generalize (Lib.cut s [32]).2.2 = is at *
  generalize specOf s = sp at *
  have hE1 := fun w1 (hb : Below w.heap.size w w1) => (⟨(hE.below' hb hE.le).var 1 (by decide), (hE.below' hb hE.le).var 2 (by decide)⟩ : _ ∧ _)
  simp only [errG] at hE1
  have HE1 := Lib.hid hE1
  have HSp := Lib.hid hsp; have HC := Lib.hid hcut
  clear hE1 hsp hcut hp
  go_enter Tryz.func54, Tryz.ntmps54
  go_wp2_with fail
  refine HC.out.mono ?_
  rintro e w1 ⟨rfl, hb1⟩
  go_wp2_with fail
  refine (number_any B d _ (hT.below' hb1 hT.le) (by omega)).mono ?_
  rintro e w2 ⟨rfl, hb2⟩
  have hb2' := hb1.trans (hb2.mono hb1.size)
  obtain ⟨v1, v2⟩ := HE1.out _ hb2'
  obtain ⟨m, hm⟩ : ∃ m, atoiN d = m := ⟨_, rfl⟩
  obtain ⟨o, ho⟩ : ∃ o, numOf d = o := ⟨_, rfl⟩
  have hom : ∀ n, o = some n → m = n := fun n h => by rw [← hm, ← numOf_atoiN (ho.trans h)]
  have HSq : Hid (sp = specIn k d is o) := Lib.hid (by rw [HSp.out, ho])
  rw [hm, ho]
  clear hm ho hb1 hb2 HSp hcl
  cases is with
  | false =>
    have hp : sp = ([], 0, 1) := by
      rw [HSq.out]; unfold specIn
      split
      · rfl
      · rw [if_neg (by simp)]
    subst hp
    clear hom
    go_wp2_with fail
    go_quiet (fail)
    go_wp2_with fail
    go_ret3
    exact ⟨_, rfl, (show ErV E _ _ (.bare 1) from ⟨by decide, rfl⟩), Bdn hb2' _⟩
  | true =>
    by_cases hk1 : k = kBucket ∨ k = kTrunc
    case neg =>
      have g1 : (k == kBucket) = false := by simp only [beq_eq_false_iff_ne]; exact fun e => hk1 (.inl e)
      have g2 : (k == kTrunc) = false := by simp only [beq_eq_false_iff_ne]; exact fun e => hk1 (.inr e)
      have hp : sp = ([], 0, 1) := by
        rw [HSq.out]; unfold specIn
        split
        · rfl
        · rw [if_neg (fun h => hk1 h.2.1)]
      subst hp
      clear hom hk1
      go_wp2_with fail
      go_quiet (fail)
      go_wp2_with fail
      go_ret3
      exact ⟨_, rfl, (show ErV E _ _ (.bare 1) from ⟨by decide, rfl⟩), Bdn hb2' _⟩
    cases o with
    | none =>
      have hp : sp = ([], 0, 1) := by rw [HSq.out]; rfl
      subst hp
      clear hom
      rcases hk1 with rfl | rfl
      all_goals
        go_wp2_with fail
        go_quiet (fail)
        go_wp2_with fail
        go_ret3
        exact ⟨_, rfl, (show ErV E _ _ (.bare 1) from ⟨by decide, rfl⟩), Bdn hb2' _⟩
    | some n =>
      obtain rfl : m = n := hom n rfl
      clear hom
      by_cases h0 : m < 0
      case pos =>
        have hp : sp = ([], 0, 1) := by rw [HSq.out]; unfold specIn; simp only; rw [if_neg (by omega)]
        subst hp
        rcases hk1 with rfl | rfl
        all_goals
          go_wp2_with fail
          go_quiet (fail)
          go_wp2_with fail
          go_ret3
          exact ⟨_, rfl, (show ErV E _ _ (.bare 1) from ⟨by decide, rfl⟩), Bdn hb2' _⟩
      have g0 : decide (m < 0) = false := by simpa using h0
      by_cases h9 : d.length ≤ 9
      case neg =>
        have hp : sp = ([], 0, 1) := by rw [HSq.out]; unfold specIn; simp only; rw [if_neg (by omega)]
        subst hp
        have g9 : (9 : Int) < (d.length : Int) := by omega
        clear h9
        rcases hk1 with rfl | rfl
        all_goals
          go_wp2_with fail
          go_quiet (fail)
          go_wp2_with fail
          go_ret3
          exact ⟨_, rfl, (show ErV E _ _ (.bare 1) from ⟨by decide, rfl⟩), Bdn hb2' _⟩
      have g9 : decide ((9 : Int) < (d.length : Int)) = false := by simp; omega
      have hsq := HSq.out
      unfold specIn at hsq
      simp only at hsq
      rw [if_pos ⟨trivial, hk1, by omega, h9⟩] at hsq
      by_cases h1 : m < 1 ∨ 1000 < m
      case pos =>
        rw [if_pos h1] at hsq
        subst hsq
        clear HSq h9
        by_cases h1' : m < 1
        · clear h1
          rcases hk1 with rfl | rfl
          all_goals
            go_wp2_with fail
            go_quiet (fail)
            go_wp2_with fail
            go_ret3
            exact ⟨_, rfl, (show ErV E _ _ (.bare 2) from ⟨by decide, rfl⟩), Bdn hb2' _⟩
        · have g1 : decide (m < 1) = false := by simpa using h1'
          have h2 : 1000 < m := by omega
          clear h1 h1'
          rcases hk1 with rfl | rfl
          all_goals
            go_wp2_with fail
            go_quiet (fail)
            go_wp2_with fail
            go_ret3
            exact ⟨_, rfl, (show ErV E _ _ (.bare 2) from ⟨by decide, rfl⟩), Bdn hb2' _⟩
      rw [if_neg h1] at hsq
      subst hsq
      have g1 : decide (m < 1) = false := by simp; omega
      have g2 : decide (1000 < m) = false := by simp; omega
      clear HSq h9 h1 h0
      rcases hk1 with rfl | rfl
      all_goals
        go_wp2_with fail
        go_ret3
        exact ⟨_, rfl, rfl, hb2'⟩
end Go.Proofs.YtlfkjbdkbdcdnaaGreatDoor
namespace Go.Proofs.YtlfkjbdkbdcdnaaGreatDoor
open Go.RowKit

theorem itoa_byte {c : UInt8} {t : Str} : ((⟨#[c]⟩ : ByteArray) ++ ⟨t.toArray⟩) = ⟨(c :: t).toArray⟩ := by
  apply ByteArray.ext
  simp
/-- A right spec's word and number. -/
def RightSp (k : Str) (n : Int) : Prop := k = kPart ∨ ((k = kBucket ∨ k = kTrunc) ∧ 1 ≤ n ∧ n ≤ 1000)

set_option maxHeartbeats 1000000 in
set_option maxRecDepth 20000 in
theorem partName_any (B : Nat) (k : Str) (n : Int) (r : Rw) (w : World) (hT : LNum B w) (hk : RightSp k n) (hr : rowCheck r = 0) :
    Calls Tryz.prog 56 #[S k, .int .i64 n, rowV r] w fun e w' => e = .returned (S (groupIn k n r)) ∧ Below w.heap.size w w' := by
  obtain ⟨-, hfar, -⟩ := rowCheck_zero hr
  have hb0 : Below w.heap.size w (w.alloc (.cells #[S r.part, .int .i64 r.key, .int .i64 r.val] 36)) := (Below.refl _ _).alloc (Nat.le_refl _) _
  have Cs := Lib.hid (fun w6 (h : Below (w.alloc (.cells #[S r.part, .int .i64 r.key, .int .i64 r.val] 36)).heap.size (w.alloc (.cells #[S r.part, .int .i64 r.key, .int .i64 r.val] 36)) w6) => rowCells (r := r) rfl h)
  obtain ⟨c0, c1, c2⟩ := Cs.out _ (Below.refl _ _)
  by_cases hp : k = kPart
  · subst hp
    have HG : Hid (groupIn kPart n r = r.part) := Lib.hid (if_pos rfl)
    go_enter Tryz.func56, Tryz.ntmps56
    go_wp2_with fail
    go_ret
    exact ⟨by rw [HG.out]; rfl, hb0⟩
  obtain ⟨hk1, hn1, hn2⟩ : (k = kBucket ∨ k = kTrunc) ∧ 1 ≤ n ∧ n ≤ 1000 := hk.resolve_left hp
  have gp : (k == kPart) = false := by simpa using hp
  obtain ⟨-, -, ⟨q1, q2⟩, ⟨m1, m2⟩⟩ := floor_bound hn1 hn2 hfar
  have e4 := Int.mul_ediv_add_emod r.key n
  have e5 := Int.emod_nonneg r.key (show n ≠ 0 by omega)
  have e6 := Int.emod_lt_of_pos r.key (show 0 < n by omega)
  have em : r.key - n * (r.key / n) = r.key % n := by omega
  have HFl := Lib.hid (fun W => floor_any r.key n W hn1 hn2 hfar)
  have hIt := fun (x : Int) (h0 : -9223372036854775808 ≤ x) (h1 : x ≤ 9223372036854775807) W (h : Below w.heap.size w W) => itoa_any B x h0 h1 W (hT.below' h hT.le)
  by_cases hb : k = kBucket
  · subst hb
    have hlen := itoa_len (r.key % n) (by omega) (by omega)
    have hI := hIt (r.key - n * (r.key / n)) (by omega) (by omega)
    have hG : groupIn kBucket n r = 98 :: Lib.itoa (r.key % n) := by unfold groupIn; rw [if_neg hp, if_pos rfl]
    rw [em] at hI
    have hwm : wrap64 (n * (r.key / n)) = n * (r.key / n) := IntWalk.wrap64_in _ ⟨by omega, by omega⟩
    have hws : wrap64 (r.key - n * (r.key / n)) = r.key % n := by rw [em]; exact IntWalk.wrap64_in _ ⟨by omega, by omega⟩
    have hwm2 : IntKind.i64.wrap (n * (r.key / n)) = n * (r.key / n) := IntWalk.i64_in _ ⟨by omega, by omega⟩
    have hws3 : IntKind.i64.wrap (r.key % n) = r.key % n := IntWalk.i64_in _ ⟨by omega, by omega⟩
    have hws2 : IntKind.i64.wrap (r.key - n * (r.key / n)) = r.key % n := by rw [em]; exact IntWalk.i64_in _ ⟨by omega, by omega⟩
    have HG := Lib.hid hG; have HI := Lib.hid hI
    clear hG hI hIt hk hfar hr
    generalize Lib.itoa (r.key % n) = t at *
    have a1 := cat_run ⟨#[98]⟩ ⟨t.toArray⟩ 1 t.length rfl rfl (by omega)
    have hbd := hb0.drew
    go_enter Tryz.func56, Tryz.ntmps56
    go_wp2_with fail
    generalize w.alloc (.cells #[S r.part, .int .i64 r.key, .int .i64 r.val] 36) = w1 at *
    have c0 : w1.drew.cell? _ = _ := c0; have c1 : w1.drew.cell? _ = _ := c1; have c2 : w1.drew.cell? _ = _ := c2
    go_region_held3 (fun w' => w'.cell? ⟨w.heap.size, 0, none⟩ = some (S r.part) ∧ w'.cell? ⟨w.heap.size, 1, none⟩ = some (.int .i64 r.key) ∧ w'.cell? ⟨w.heap.size, 2, none⟩ = some (.int .i64 r.val)) (exact ⟨c0, c1, c2⟩) (first
      | (go_at_call 108; (with_reducible refine (HFl.out _).mono ?_); rintro e w3 ⟨rfl, rfl⟩)
      | (go_at_call 65; (with_reducible refine (HI.out _ hbd).mono ?_); rintro e w3 ⟨rfl, hb3⟩; have hb3' := hbd.trans (hb3.mono hbd.size); have c0 := (hb3.cell (World.block_lt_of_cell? _ _ c0)).trans c0; have c1 := (hb3.cell (World.block_lt_of_cell? _ _ c1)).trans c1; have c2 := (hb3.cell (World.block_lt_of_cell? _ _ c2)).trans c2))
    all_goals
      go_wp2_with fail
      go_ret
      refine ⟨?_, hb3'⟩
      show Ending.returned (.string ((⟨#[98]⟩ : ByteArray) ++ ⟨t.toArray⟩)) = _
      rw [HG.out, itoa_byte]
  obtain rfl : k = kTrunc := hk1.resolve_left hb
  clear hk1 hk gp em
  by_cases hneg : r.key / n < 0
  · have hlen := itoa_len (-(r.key / n)) (by omega) (by omega)
    have hI := hIt (-(r.key / n)) (by omega) (by omega)
    have hG : groupIn kTrunc n r = 110 :: Lib.itoa (-(r.key / n)) := by unfold groupIn; rw [if_neg hp, if_neg hb, if_pos hneg]
    have HG := Lib.hid hG; have HI := Lib.hid hI
    clear hG hI hIt hfar hr e4 m1 m2
    generalize Lib.itoa (-(r.key / n)) = t at *
    generalize r.key / n = q at *
    have a1 := cat_run ⟨#[110]⟩ ⟨t.toArray⟩ 1 t.length rfl rfl (by omega)
    go_enter Tryz.func56, Tryz.ntmps56
    go_wp2_with fail
    generalize w.alloc (.cells #[S r.part, .int .i64 r.key, .int .i64 r.val] 36) = w1 at *
    refine (HFl.out _).mono ?_
    rintro e w3 ⟨rfl, rfl⟩
    go_wp2_with fail
    refine (HI.out _ hb0).mono ?_
    rintro e w3 ⟨rfl, hb3⟩
    go_wp2_with fail
    go_ret
    refine ⟨?_, hb0.trans (hb3.mono hb0.size)⟩
    show Ending.returned (.string ((⟨#[110]⟩ : ByteArray) ++ ⟨t.toArray⟩)) = _
    rw [HG.out, itoa_byte]
  · have hlen := itoa_len (r.key / n) (by omega) (by omega)
    have hI := hIt (r.key / n) (by omega) (by omega)
    have hG : groupIn kTrunc n r = 116 :: Lib.itoa (r.key / n) := by unfold groupIn; rw [if_neg hp, if_neg hb, if_neg hneg]
    have HG := Lib.hid hG; have HI := Lib.hid hI
    have gneg : decide (r.key / n < 0) = false := by simpa using hneg
    clear hG hI hIt hfar hr e4 m1 m2
    generalize Lib.itoa (r.key / n) = t at *
    generalize r.key / n = q at *
    have a1 := cat_run ⟨#[116]⟩ ⟨t.toArray⟩ 1 t.length rfl rfl (by omega)
    go_enter Tryz.func56, Tryz.ntmps56
    go_wp2_with fail
    generalize w.alloc (.cells #[S r.part, .int .i64 r.key, .int .i64 r.val] 36) = w1 at *
    refine (HFl.out _).mono ?_
    rintro e w3 ⟨rfl, rfl⟩
    go_wp2_with fail
    refine (HI.out _ hb0).mono ?_
    rintro e w3 ⟨rfl, hb3⟩
    go_wp2_with fail
    go_ret
    refine ⟨?_, hb0.trans (hb3.mono hb0.size)⟩
    show Ending.returned (.string ((⟨#[116]⟩ : ByteArray) ++ ⟨t.toArray⟩)) = _
    rw [HG.out, itoa_byte]
theorem partCheck_any (E : Nat → Addr) (B : Nat) (s : Str) (w : World) (hE : Errs [1, 2] E B w) (hT : LNum B w) (hM : LMax B w) (hs : s.length ≤ 100000) :
    Calls Tryz.prog 25 #[S s] w fun e w' => ∃ ev, e = .returned ev ∧ ErV E w' ev (erOf (specOf s).2.2) ∧ Below w.heap.size w w' := by
  have HS := Lib.hid (partSpec_any E B s w hE hT hM hs)
  go_enter Tryz.func25, Tryz.ntmps25
  go_wp2_with fail
  refine HS.out.mono ?_
  rintro e w1 ⟨ev, rfl, hev, hb1⟩
  go_wp2_with fail
  go_ret
  exact ⟨_, rfl, hev, hb1⟩
theorem erP_bad {c : Nat} (h : c ≠ 0) : erOf c = .bare c := if_neg h
theorem erP_nil {c : Nat} (h : c = 0) : erOf c = .nil := if_pos h
/-- What part.Of answers: a name, an error's number. -/
def ofAns (s : Str) (r : Rw) : Str × Nat := if (specOf s).2.2 ≠ 0 then ([], (specOf s).2.2) else if rowCheck r ≠ 0 then ([], rowCheck r) else (groupOf s r, 0)
set_option maxHeartbeats 1000000 in
set_option maxRecDepth 20000 in
theorem partOf_any (E : Nat → Addr) (B : Nat) (s : Str) (r : Rw) (w : World) (hE : Errs [1, 2, 5] E B w) (hT : LNum B w) (hM : LMax B w) (hs : s.length ≤ 100000) (hr : r.part.length ≤ 100000) :
    Calls Tryz.prog 15 #[S s, rowV r] w fun e w' => ∃ ev, e = .returned (.tuple #[S (ofAns s r).1, ev]) ∧ ErV E w' ev (erOf (ofAns s r).2) ∧ Below w.heap.size w w' := by
  have hif := isIfaceE
  have hb0 : Below w.heap.size w (w.alloc (.cells #[S r.part, .int .i64 r.key, .int .i64 r.val] 36)) := (Below.refl _ _).alloc (Nat.le_refl _) _
  have Cs := Lib.hid (fun w6 (h : Below (w.alloc (.cells #[S r.part, .int .i64 r.key, .int .i64 r.val] 36)).heap.size (w.alloc (.cells #[S r.part, .int .i64 r.key, .int .i64 r.val] 36)) w6) => rowCells (r := r) rfl h)
  have X := Lib.hid (fun W (h : Below w.heap.size w W) => (⟨hE.below' h hE.le, hT.below' h hT.le, hM.below' h hE.le⟩ : Errs [1, 2, 5] E B W ∧ LNum B W ∧ LMax B W))
  have HS := Lib.hid (partSpec_any E B s _ ((X.out _ hb0).1.sub (by decide)) (X.out _ hb0).2.1 (X.out _ hb0).2.2 hs)
  have HSp := Lib.hid (@spec_right s)
  obtain ⟨c, hc⟩ : ∃ c, (specOf s).2.2 = c := ⟨_, rfl⟩
  have HA : Hid (ofAns s r = if c ≠ 0 then ([], c) else if rowCheck r ≠ 0 then ([], rowCheck r) else (groupIn (specOf s).1 (specOf s).2.1 r, 0)) := Lib.hid (by unfold ofAns; rw [hc]; rfl)
  have Hc := Lib.hid hc
  clear hc
  go_enter Tryz.func15, Tryz.ntmps15
  go_wp2_with fail
  generalize w.alloc (.cells #[S r.part, .int .i64 r.key, .int .i64 r.val] 36) = w1 at *
  refine HS.out.mono ?_
  rintro e w2 ⟨ev, rfl, hev, hb2⟩
  rw [Hc.out] at hev
  have hb2' := hb0.trans (hb2.mono hb0.size)
  by_cases h0 : c = 0
  case neg =>
    rw [erP_bad h0] at hev
    obtain ⟨t1, x1, rfl⟩ := hev.iface (fun h => by cases h)
    have hA : ofAns s r = ([], c) := by rw [HA.out, if_pos h0]
    have HB := Lib.hid h0; have HA' := Lib.hid hA
    clear h0 hA
    go_wp2_with fail
    go_ret2
    exact ⟨.iface t1 x1, by rw [HA'.out]; rfl, by rw [HA'.out]; show ErV E _ _ (erOf c); rw [erP_bad HB.out]; exact hev, hb2'⟩
  subst h0
  rw [erP_nil rfl] at hev
  obtain rfl : ev = .nilIface := hev
  have hRs : RightSp (specOf s).1 (specOf s).2.1 := HSp.out Hc.out
  generalize (specOf s).1 = k at *
  generalize (specOf s).2.1 = n at *
  obtain ⟨c0, c1, c2⟩ := Cs.out _ hb2
  have HCk := Lib.hid (rowCheck_any E B r w2 ((X.out _ hb2').1.sub (by decide)) hr)
  have HRs := Lib.hid hRs
  clear hRs hb2 HS HSp
  go_wp2_with fail
  refine HCk.out.mono ?_
  rintro e w3 ⟨ev, rfl, hev, hb3⟩
  have hb3' := hb2'.trans (hb3.mono hb2'.size)
  have c0 := (hb3.cell (World.block_lt_of_cell? _ _ c0)).trans c0; have c1 := (hb3.cell (World.block_lt_of_cell? _ _ c1)).trans c1; have c2 := (hb3.cell (World.block_lt_of_cell? _ _ c2)).trans c2
  by_cases h0 : rowCheck r = 0
  case neg =>
    have hev' : ErV E w3 ev (.bare (rowCheck r)) := by unfold rowEr at hev; rwa [erP_bad h0] at hev
    obtain ⟨t1, x1, rfl⟩ := hev'.iface (fun h => by cases h)
    have hA : ofAns s r = ([], rowCheck r) := by rw [HA.out, if_neg (by simp), if_pos h0]
    have HB := Lib.hid h0; have HA' := Lib.hid hA
    clear h0 hev hA
    go_wp2_with fail
    go_ret2
    exact ⟨.iface t1 x1, by rw [HA'.out]; rfl, by rw [HA'.out]; show ErV E _ _ (erOf (rowCheck r)); rw [erP_bad HB.out]; exact hev', hb3'⟩
  have hev' : ErV E w3 ev .nil := by unfold rowEr at hev; rwa [erP_nil h0] at hev
  obtain rfl : ev = .nilIface := hev'
  have hA : ofAns s r = (groupIn k n r, 0) := by rw [HA.out, if_neg (by simp), if_neg (by simpa using h0)]
  have HA' := Lib.hid hA
  have HN := Lib.hid (partName_any B k n r w3 (X.out _ hb3').2.1 HRs.out h0)
  clear hev h0 hA HA
  go_wp2_with fail
  refine HN.out.mono ?_
  rintro e w4 ⟨rfl, hb4⟩
  go_wp2_with fail
  go_ret2
  exact ⟨.nilIface, by rw [HA'.out]; rfl, by rw [HA'.out]; rfl, hb3'.trans (hb4.mono hb3'.size)⟩
end Go.Proofs.YtlfkjbdkbdcdnaaGreatDoor
namespace Go.Proofs.YtlfkjbdkbdcdnaaGreatDoor
open Go.RowKit

theorem of_trunc : ofAns [116, 114, 117, 110, 99, 32, 49, 48] ⟨[97], -5, 0⟩ = ([110, 49], 0) := by decide +kernel
theorem of_bucket : ofAns [98, 117, 99, 107, 101, 116, 32, 52] ⟨[97], -5, 0⟩ = ([98, 51], 0) := by decide +kernel
set_option maxHeartbeats 1000000 in
set_option maxRecDepth 20000 in
theorem parted_any (E : Nat → Addr) (B : Nat) (w : World) (hE : Errs [1, 2, 5] E B w) (hT : LNum B w) (hM : LMax B w) :
    Calls Tryz.prog 11 #[] w fun e w' => e = .returned (.bool true) ∧ Below w.heap.size w w' := by
  have hif := isIfaceE
  have HA := Lib.hid (fun W (h : Below w.heap.size w W) => partOf_any E B [116, 114, 117, 110, 99, 32, 49, 48] ⟨[97], -5, 0⟩ W (hE.below' h hE.le) (hT.below' h hT.le) (hM.below' h hE.le) (by decide) (by decide))
  have HB := Lib.hid (fun W (h : Below w.heap.size w W) => partOf_any E B [98, 117, 99, 107, 101, 116, 32, 52] ⟨[97], -5, 0⟩ W (hE.below' h hE.le) (hT.below' h hT.le) (hM.below' h hE.le) (by decide) (by decide))
  rw [of_trunc] at HA
  rw [of_bucket] at HB
  go_enter Tryz.func11, Tryz.ntmps11
  go_wp2_with fail
  refine (HA.out _ (Below.refl _ _)).mono ?_
  rintro e w1 ⟨ev, rfl, hev, hb1⟩
  obtain rfl : ev = .nilIface := hev
  go_wp2_with fail
  refine (HB.out _ hb1).mono ?_
  rintro e w2 ⟨ev, rfl, hev, hb2⟩
  obtain rfl : ev = .nilIface := hev
  go_wp2_with fail
  go_ret
  exact ⟨rfl, hb1.trans (hb2.mono hb1.size)⟩
end Go.Proofs.YtlfkjbdkbdcdnaaGreatDoor
