/- snap.Read: the walk. deedboxref2.SameFiles. slices.BinarySearchFunc at []api.File; list.Find, Add, Remove. -/
import Derived.Test.YtikboodjfanjkaaGreatDoorBx7
import Derived.Test.YtikboodjfanjkaaGreatDoorBx6
import Derived.Deep.RegionWith
import Derived.Test.YtikboodjfanjkaaGreatDoorBx5
import Derived.Laws.StructEq
import Derived.Deep.LoopGhost
namespace Go.Proofs.YtikboodjfanjkaaGreatDoor
open Go.RowKit

/-- A struct of seven cells, written cell by cell. -/
abbrev sev (w : World) (g : Nat) (b0 b1 b2 b3 b4 b5 b6 : Value) : World := ((((((w.setCell ⟨g, 0, none⟩ b0).setCell ⟨g, 1, none⟩ b1).setCell ⟨g, 2, none⟩ b2).setCell ⟨g, 3, none⟩ b3).setCell ⟨g, 4, none⟩ b4).setCell ⟨g, 5, none⟩ b5).setCell ⟨g, 6, none⟩ b6
theorem sev_new {w : World} {g : Nat} {t : TypeId} {fr : Nat × Nat} {a0 a1 a2 a3 a4 a5 a6 : Value} (hg : w.heap[g]? = some (.cells #[a0, a1, a2, a3, a4, a5, a6] t fr)) (b0 b1 b2 b3 b4 b5 b6 : Value) : (sev w g b0 b1 b2 b3 b4 b5 b6).heap[g]? = some (.cells #[b0, b1, b2, b3, b4, b5, b6] t fr) := by
  have h := row_setCell (row_setCell (row_setCell (row_setCell (row_setCell (row_setCell (row_setCell (i := 0) hg b0) (i := 1) b1) (i := 2) b2) (i := 3) b3) (i := 4) b4) (i := 5) b5) (i := 6) b6
  simpa using h
theorem sev_below {B : Nat} {w0 w : World} {g : Nat} (hb : Below B w0 w) (hB : B ≤ g) (b0 b1 b2 b3 b4 b5 b6 : Value) : Below B w0 (sev w g b0 b1 b2 b3 b4 b5 b6) :=
  ((((((hb.setCell (p := ⟨g, 0, none⟩) hB _).setCell (p := ⟨g, 1, none⟩) hB _).setCell (p := ⟨g, 2, none⟩) hB _).setCell (p := ⟨g, 3, none⟩) hB _).setCell (p := ⟨g, 4, none⟩) hB _).setCell (p := ⟨g, 5, none⟩) hB _).setCell (p := ⟨g, 6, none⟩) hB _

theorem sev_cell {w : World} {g : Nat} {p : Addr} (hp : p.block ≠ g) (b0 b1 b2 b3 b4 b5 b6 : Value) : (sev w g b0 b1 b2 b3 b4 b5 b6).cell? p = w.cell? p := by
  have h : ∀ (W : World) (j : Nat) (x : Value), (W.setCell ⟨g, j, none⟩ x).cell? p = W.cell? p := fun W j x => World.cell?_setCell_other _ _ _ _ (fun e => hp (by rw [← e]))
  simp only [sev, h]
/-- An error's own block is another one than a struct's. -/
theorem ErV.away {E : Nat → Addr} {w w' : World} {v : Value} {er : Er} {g : Nat} {m : Int} (h : ErV E w v er) (hc : w.cell? ⟨g, 1, none⟩ = some (.int .i64 m)) (hw : ∀ p : Addr, p.block ≠ g → w'.cell? p = w.cell? p) : ErV E w' v er := by
  cases er with
  | nil => exact h
  | bare c => exact h
  | loc c i =>
    obtain ⟨hc', fb, hv, h0, h1⟩ := h
    have hne : fb ≠ g := by rintro rfl; rw [hc] at h1; cases h1
    exact ⟨hc', fb, hv, (hw ⟨fb, 0, none⟩ hne).trans h0, (hw ⟨fb, 1, none⟩ hne).trans h1⟩
theorem Own.moved {α : Type} {enc : α → List Value} {sz : Nat} {w w' : World} {v : Value} {l : List α} {e : TypeId} {B : Nat} (hen : Enc enc sz) (h : Own enc e sz B w v l) (hw : ∀ p : Addr, B ≤ p.block → w'.cell? p = w.cell? p) : At enc sz w' v l := by
  rcases Nat.eq_zero_or_pos l.length with h0 | h0
  · obtain ⟨a, c, b, o, hv, ha, hc, hm, hx⟩ := h.at hen
    exact ⟨a, c, b, o, hv, ha, hc, hm, fun k x hk => absurd (List.getElem?_eq_some_iff.1 hk).1 (by omega)⟩
  · obtain ⟨g', cap, cur, rfl, hB, _, hc, hm, _, _⟩ := h.open h0
    refine ⟨_, cap, g', 0, rfl, fun _ => rfl, hc, hm, fun k x hk j u hu => ?_⟩
    have h1 := h.cells hen k x hk j u hu
    rw [Nat.zero_add]
    exact (hw ⟨g', k * sz + j, none⟩ hB).trans h1
theorem At.sev {w : World} {v : Value} {l : List Fl} {e : TypeId} {B g : Nat} {w' : World} (h : Own encF e 6 B w v l) (hb : Below w.heap.size w w') (hg : g < B) (b0 b1 b2 b3 b4 b5 b6 : Value) : FilesAt (sev w' g b0 b1 b2 b3 b4 b5 b6) v l := by
  exact Own.moved encF_enc (Own.below h hb) fun p hp => sev_cell (by omega) _ _ _ _ _ _ _
theorem right_mid {l : List Fl} (h : RightL l) : ∀ x ∈ l, midF x := fun x hx => by
  have := fileLine_len (h.ok x hx)
  unfold fileLine at this
  simp only [List.length_append, List.length_cons] at this
  exact ⟨by omega, by omega⟩
theorem snapRead_long {s : Str} (h : 20000 < s.length) : snapRead s = (zeroSn, .bare 2) := by unfold snapRead; rw [if_pos h]
theorem snapRead_none {s : Str} (h : ¬ 20000 < s.length) (hn : headAt s = none) : snapRead s = (zeroSn, .bare 1) := by unfold snapRead; rw [if_neg h, hn]
theorem snapRead_some {s : Str} {x : Sn} {sum : Int} (h : ¬ 20000 < s.length) (hn : headAt s = some (x, sum)) : snapRead s = bodyRead x sum (Lib.cut s [10]).2.1 := by unfold snapRead; rw [if_neg h, hn]
theorem headOf_len {l : List Str} (h : l.length ≠ 8) : headOf l = none := by
  unfold headOf
  split
  · exact absurd rfl h
  · rfl
theorem headOf_bad {t a b c d e o g : Str} (h : t ≠ kSnap) : headOf [t, a, b, c, d, e, o, g] = none := by simp only [headOf, if_neg h]
theorem headOf_nil {a b c d e o g : Str} (h : numsOf [a, b, c, d, e, g] = none) : headOf [kSnap, a, b, c, d, e, o, g] = none := by simp only [headOf, if_true, h]
theorem headOf_six {a b c d e o g : Str} {n0 n1 n2 n3 n4 n5 : Int} (h : numsOf [a, b, c, d, e, g] = some [n0, n1, n2, n3, n4, n5]) : headOf [kSnap, a, b, c, d, e, o, g] = some (⟨n0, n1, n2, n3, n4, o, []⟩, n5) := by simp only [headOf, if_true, h]
theorem eight_strs {l : List Str} (h : l.length = 8) : ∃ t a b c d e o g, l = [t, a, b, c, d, e, o, g] := by
  match l, h with
  | [t, a, b, c, d, e, o, g], _ => exact ⟨t, a, b, c, d, e, o, g, rfl⟩
theorem six_ints {l : List Int} (h : l.length = 6) : ∃ a b c d e f, l = [a, b, c, d, e, f] := by
  match l, h with
  | [a, b, c, d, e, f], _ => exact ⟨a, b, c, d, e, f, rfl⟩

abbrev z7 : Array Value := #[.int .i64 0, .int .i64 0, .int .i64 0, .int .i64 0, .int .i64 0, S [], .slice none 0 0]
set_option maxHeartbeats 2000000 in
set_option maxRecDepth 20000 in
theorem snapRead_any (E : Nat → Addr) (B : Nat) (s : Str) (w : World) (hE : Errs [1, 2, 4, 5, 8, 9, 10] E B w) (hT : LNum B w) (hM : LMax B w) (hs : s.length ≤ 10000 ∨ 20000 < s.length) (hs2 : s.length ≤ 100000) :
    Calls Tryz.prog 53 #[S s] w fun e w' => ∃ u ev, e = .returned (.tuple #[snapV (snapRead s).1 u, ev]) ∧ FilesAt w' u (snapRead s).1.files ∧ ErV E w' ev (snapRead s).2 ∧ Below w.heap.size w w' := by
  have hBw := hE.le
  have hif := isIfaceE
  have hba : Below w.heap.size w (w.alloc (.cells #[.int .i64 0, .int .i64 0, .int .i64 0, .int .i64 0, .int .i64 0, S [], .slice none 0 0] 30)) := (Below.refl _ _).alloc (Nat.le_refl _) _
  have hcs := fun w6 (h : Below (w.alloc (.cells #[.int .i64 0, .int .i64 0, .int .i64 0, .int .i64 0, .int .i64 0, S [], .slice none 0 0] 30)).heap.size (w.alloc (.cells #[.int .i64 0, .int .i64 0, .int .i64 0, .int .i64 0, .int .i64 0, S [], .slice none 0 0] 30)) w6) => snapCells (s := zeroSn) (v := .slice none 0 0) h
  have CZ := Lib.hid hcs; clear hcs
  have hhg := fun w6 (h : Below (w.alloc (.cells #[.int .i64 0, .int .i64 0, .int .i64 0, .int .i64 0, .int .i64 0, S [], .slice none 0 0] 30)).heap.size (w.alloc (.cells #[.int .i64 0, .int .i64 0, .int .i64 0, .int .i64 0, .int .i64 0, S [], .slice none 0 0] 30)) w6) => (h.block w.heap.size (by simp)).trans (heap_alloc_new w (.cells #[.int .i64 0, .int .i64 0, .int .i64 0, .int .i64 0, .int .i64 0, S [], .slice none 0 0] 30))
  have HG := Lib.hid hhg; clear hhg
  have V1 := fun w6 (h : Below w.heap.size w w6) => (hE.below' h hBw).var 1 (by decide)
  have V2 := fun w6 (h : Below w.heap.size w w6) => (hE.below' h hBw).var 2 (by decide)
  have V10 := fun w6 (h : Below w.heap.size w w6) => (hE.below' h hBw).var 10 (by decide)
  simp only [errG] at V1 V2 V10
  have U1 := Lib.hid V1; have U2 := Lib.hid V2; have U10 := Lib.hid V10
  clear V1 V2 V10
  have hg1 : (¬ (2 = w.heap.size)) ∧ ¬ (w.heap.size = 2) := by
    have h := (hE.lt 1 (by decide)).2
    have h1 : errG 1 = 2 := rfl
    rw [h1] at h; omega
  have hg2 : (¬ (5 = w.heap.size)) ∧ ¬ (w.heap.size = 5) := by
    have h := (hE.lt 2 (by decide)).2
    have h1 : errG 2 = 5 := rfl
    rw [h1] at h; omega
  have hg10 : (¬ (7 = w.heap.size)) ∧ ¬ (w.heap.size = 7) := by
    have h := (hE.lt 10 (by decide)).2
    have h1 : errG 10 = 7 := rfl
    rw [h1] at h; omega
  obtain ⟨n11, n12⟩ := hg1; obtain ⟨n21, n22⟩ := hg2; obtain ⟨n101, n102⟩ := hg10
  have hrd := fun (h : 20000 < s.length) => snapRead_long h
  have hrn := fun (h : ¬ 20000 < s.length) (hn : headAt s = none) => snapRead_none h hn
  have hrs := fun (h : ¬ 20000 < s.length) x m (hn : headAt s = some (x, m)) => snapRead_some h hn
  have hha : headAt s = if (Lib.cut s [10]).2.2 = true then headOf (cutAt 32 (Lib.cut s [10]).1) else none := rfl
  have HRD := Lib.hid hrd; have HRN := Lib.hid hrn; have HRS := Lib.hid hrs; have HHA := Lib.hid hha
  clear hrd hrn hrs hha
  have hcut := fun W (h : LMax B W) => cut1_any 10 B s W h hs2
  have hcl := (cut_len s [10])
  have HCut := Lib.hid hcut; clear hcut
  by_cases hlong : 20000 < s.length
  · have g1 : (20000 : Int) < s.length := by omega
    have HF := Lib.hid (HRD.out hlong)
    clear hlong hs
    have v2 := U2.out _ hba
    obtain ⟨c0, c1, c2, c3, c4, c5, c6⟩ := CZ.out _ (Below.refl _ _)
    have hgz := HG.out _ (Below.refl _ _)
    go_enter Tryz.func53, Tryz.ntmps53
    go_wp2_with fail
    generalize w.alloc (.cells #[.int .i64 0, .int .i64 0, .int .i64 0, .int .i64 0, .int .i64 0, S [], .slice none 0 0] 30) = w1 at *
    have fz : ∀ j, w1.frozen? ⟨w.heap.size, j, none⟩ = false := fun j => frozen_row hgz
    have f0 := fz 0; have f1 := fz 1; have f2 := fz 2; have f3 := fz 3; have f4 := fz 4; have f5 := fz 5; have f6 := fz 6
    clear fz
    have HGz := Lib.hid hgz; clear hgz
    go_region_law (fail)
    all_goals
      go_wp2_with fail
      refine bodyPost_ret (ret_row rfl _ _ w.heap.size 30 z7 (0, 0) _ rfl ?_ Tryz.underlying30 rfl (by kernel_rfl)) rfl ⟨.slice none 0 0, .iface 294 (.pointer (some (E 2))), ?_, ?_, ?_, ?_⟩
      · rw [World.heap_drew]; exact sev_new HGz.out _ _ _ _ _ _ _
      · rw [HF.out]; rfl
      · rw [HF.out]; exact At.nil _ _ _
      · rw [HF.out]; exact ⟨by decide, rfl⟩
      · exact Below.drew (sev_below hba (Nat.le_refl _) _ _ _ _ _ _ _)
  have g1 : decide ((20000 : Int) < s.length) = false := by simp; omega
  have hs10 : s.length ≤ 10000 := hs.resolve_right hlong
  clear hs
  go_enter Tryz.func53, Tryz.ntmps53
  go_wp2_with fail
  generalize w.alloc (.cells #[.int .i64 0, .int .i64 0, .int .i64 0, .int .i64 0, .int .i64 0, S [], .slice none 0 0] 30) = w1 at *
  refine (HCut.out _ (hM.below' hba hBw)).mono ?_
  rintro e w2 ⟨rfl, hb2⟩
  have hb2' := hba.trans (hb2.mono hba.size)
  generalize (Lib.cut s [10]).1 = h at *
  generalize (Lib.cut s [10]).2.1 = body at *
  generalize (Lib.cut s [10]).2.2 = is at *
  have hhl := hcl.1; have hbl := hcl.2
  have hsp := split1_any B h 32 w2 (hM.below' hb2' hBw) (by omega)
  have hwm : ∀ x ∈ cutAt 32 h, x.length ≤ 10000 := fun x hx => by have := cutAt_mem_len (c := 32) hx; omega
  have hwl : (cutAt 32 h).length ≤ 10001 := by
    rw [cutAt_length]
    have h2 : h.count 32 ≤ h.length := List.count_le_length
    omega
  generalize cutAt 32 h = W at *
  have HWm := Lib.hid hwm; clear hwm hcl
  have hways : (headAt s = none ∧ ((is = false) ∨ (is = true ∧ ((W.length : Int) != 8) = true) ∨ (is = true ∧ ∃ t a b c d e o g, W = [t, a, b, c, d, e, o, g] ∧ t ≠ kSnap))) ∨
      (is = true ∧ ∃ a b c d e o g, W = [kSnap, a, b, c, d, e, o, g]) := by
    cases is with
    | false => exact .inl ⟨by rw [HHA.out]; rfl, .inl rfl⟩
    | true =>
      by_cases h8 : W.length = 8
      · obtain ⟨t, a, b, c, d, e, o, g, rfl⟩ := eight_strs h8
        by_cases ht : t = kSnap
        · subst ht; exact .inr ⟨rfl, a, b, c, d, e, o, g, rfl⟩
        · exact .inl ⟨by rw [HHA.out, if_pos rfl]; exact headOf_bad ht, .inr (.inr ⟨rfl, t, a, b, c, d, e, o, g, rfl, ht⟩)⟩
      · exact .inl ⟨by rw [HHA.out, if_pos rfl, headOf_len h8], .inr (.inl ⟨rfl, by simp; omega⟩)⟩
  rcases hways with ⟨hnone, hways⟩ | ⟨rfl, a, b, c, d, e, o, g, rfl⟩
  · have HF := Lib.hid (HRN.out hlong hnone)
    clear hnone hlong HHA
    go_wp2_with fail
    refine hsp.mono ?_
    rintro e w3 ⟨rfl, hown, hb3⟩
    clear hsp
    have hb31 := hb2.trans (hb3.mono hb2.size)
    have hb3' := hb2'.trans (hb3.mono hb2'.size)
    have v1 := U1.out _ hb3'
    obtain ⟨c0, c1, c2, c3, c4, c5, c6⟩ := CZ.out _ hb31
    have hgz := HG.out _ hb31
    have fz : ∀ j, w3.frozen? ⟨w.heap.size, j, none⟩ = false := fun j => frozen_row hgz
    have f0 := fz 0; have f1 := fz 1; have f2 := fz 2; have f3 := fz 3; have f4 := fz 4; have f5 := fz 5; have f6 := fz 6
    have HGz := Lib.hid hgz
    clear fz hgz
    have hx := hown.cells1 (f := S) encS_enc (fun _ => rfl)
    rcases hways with rfl | ⟨rfl, g8⟩ | ⟨rfl, t, a, b, c, d, e, o, g, rfl, ht⟩
    case' inr.inr =>
      have x0 := hx 0 t rfl
      have gt : (t == kSnap) = false := by simpa using ht
      have ix := idx_at (P := Tryz.prog) (c := 8) (o := 0) (b := w2.heap.size) (n := 8) 1 Tryz.underlying24 szStr (fun _ => rfl) 0 (by decide)
      simp only [Nat.mul_one, Nat.zero_add] at ix
      have e0 : ((0 : Nat) : Int) = 0 := rfl
      rw [e0] at ix
      clear ht e0
      simp only [List.length_cons, List.length_nil, Nat.zero_add, Nat.reduceAdd]
    all_goals
      clear hx hown
      go_wp2_with fail
      go_region_law (fail)
      all_goals
        go_wp2_with fail
        refine bodyPost_ret (ret_row rfl _ _ w.heap.size 30 z7 (0, 0) _ rfl ?_ Tryz.underlying30 rfl (by kernel_rfl)) rfl ⟨.slice none 0 0, .iface 294 (.pointer (some (E 1))), ?_, ?_, ?_, ?_⟩
        · rw [World.heap_drew]; exact sev_new HGz.out _ _ _ _ _ _ _
        · rw [HF.out]; rfl
        · rw [HF.out]; exact At.nil _ _ _
        · rw [HF.out]; exact ⟨by decide, rfl⟩
        · exact Below.drew (sev_below hb3' (Nat.le_refl _) _ _ _ _ _ _ _)
  have hHA : headAt s = headOf [kSnap, a, b, c, d, e, o, g] := by rw [HHA.out, if_pos rfl]
  have HH := Lib.hid hHA; clear hHA HHA
  have HRN' := Lib.hid (fun (hn : headAt s = none) => HRN.out hlong hn)
  have HRS' := Lib.hid (fun x m (hn : headAt s = some (x, m)) => HRS.out hlong x m hn)
  clear HRN HRS hlong
  simp only [List.length_cons, List.length_nil, Nat.zero_add, Nat.reduceAdd] at hsp
  go_wp2_with fail
  refine hsp.mono ?_
  rintro e' w3 ⟨rfl, hown, hb3⟩
  clear hsp
  have hb31 := hb2.trans (hb3.mono hb2.size)
  have hb3' := hb2'.trans (hb3.mono hb2'.size)
  have hx := hown.cells1 (f := S) encS_enc (fun _ => rfl)
  have x0 := hx 0 kSnap rfl
  have x6 := hx 6 o rfl
  have y1 := hx 1 a rfl; have y2 := hx 2 b rfl; have y3 := hx 3 c rfl; have y4 := hx 4 d rfl; have y5 := hx 5 e rfl; have y7 := hx 7 g rfl
  have ix := idx_at (P := Tryz.prog) (c := 8) (o := 0) (b := w2.heap.size) (n := 8) 1 Tryz.underlying24 szStr (fun _ => rfl) 0 (by decide)
  simp only [Nat.mul_one, Nat.zero_add] at ix
  have e0 : ((0 : Nat) : Int) = 0 := rfl
  rw [e0] at ix
  have ix6 := idx_at (P := Tryz.prog) (c := 8) (o := 0) (b := w2.heap.size) (n := 8) 1 Tryz.underlying24 szStr (fun _ => rfl) 6 (by decide)
  simp only [Nat.mul_one, Nat.zero_add] at ix6
  have e6 : ((6 : Nat) : Int) = 6 := rfl
  rw [e6] at ix6
  have IX6 := Lib.hid ix6
  clear e0 e6 ix6
  have hat1 : StrsAt w3 (.slice (some ⟨w2.heap.size, 1, none⟩) 5 7) [a, b, c, d, e] := ⟨_, 7, w2.heap.size, 1, rfl, fun _ => rfl, by simp, by decide, fun k x hk j u hu => by
    have := hown.cells encS_enc (k + 1) x (by simpa using (List.getElem?_append_left (l₂ := [o, g]) (List.getElem?_eq_some_iff.1 hk).1).trans hk) j u hu
    rw [show 1 + k * 1 + j = (k + 1) * 1 + j by omega]; exact this⟩
  have hat2 : StrsAt w3 (.slice (some ⟨w2.heap.size, 7, none⟩) 1 1) [g] := ⟨_, 1, w2.heap.size, 7, rfl, fun _ => rfl, by simp, by decide, fun k x hk j u hu => by
    have hk0 : k = 0 := by have := (List.getElem?_eq_some_iff.1 hk).1; simp at this; omega
    subst hk0
    have := hown.cells encS_enc 7 x (by simpa using hk) j u hu
    simpa using this⟩
  have hr1 : ∀ W, (Instr.slice 24 (.slice (some ⟨w2.heap.size, 0, none⟩) 8 8) (some (.int .i64 1)) (some (.int .i64 6)) none).run Tryz.prog W = .ok (.slice (some ⟨w2.heap.size, 1, none⟩) 5 7) W := fun W => by
    simp [Instr.slice, Instr.sliceBounds, run_underlying Tryz.underlying24, go_sem]
  have hr2 : ∀ W, (Instr.slice 24 (.slice (some ⟨w2.heap.size, 0, none⟩) 8 8) (some (.int .i64 7)) none none).run Tryz.prog W = .ok (.slice (some ⟨w2.heap.size, 7, none⟩) 1 1) W := fun W => by
    simp [Instr.slice, Instr.sliceBounds, run_underlying Tryz.underlying24, go_sem]
  clear hx hown
  have hbc : Below w3.heap.size w3 (w3.drew.alloc (.cells #[.slice (some ⟨w2.heap.size, 1, none⟩) 5 7, .slice (some ⟨w2.heap.size, 7, none⟩) 1 1] 24)) := (Below.refl _ _).drew.alloc (Nat.le_refl _) _
  have hco := concat2_any _ _ [a, b, c, d, e] [g] w3.heap.size 2 (w3.drew.alloc (.cells #[.slice (some ⟨w2.heap.size, 1, none⟩) 5 7, .slice (some ⟨w2.heap.size, 7, none⟩) 1 1] 24)) (hat1.below hbc) (hat2.below hbc)
    (newCell (w := w3.drew) (Below.refl _ _) 0 rfl) (newCell (w := w3.drew) (Below.refl _ _) 1 rfl) (by decide) (by decide) (by simp) (by simp)
  have HCo := Lib.hid hco; clear hco hat1 hat2
  have HWn : Hid (∀ x ∈ [a, b, c, d, e, g], x.length ≤ 100000) := Lib.hid fun x hx => by
    have := HWm.out x (by
      simp only [List.mem_cons, List.not_mem_nil, or_false] at hx ⊢
      rcases hx with h | h | h | h | h | h <;> simp [h])
    omega
  go_wp2_with fail
  go_region_with (first | (go_at_call 121; refine HCo.out.mono ?_; rintro e' w4 ⟨vc, rfl, hvc, hb4⟩; have hb4' := hb3'.trans ((hbc.trans (hb4.mono hbc.size)).mono hb3'.size); have hat4 : StrsAt w4 vc [a, b, c, d, e, g] := hvc.at encS_enc; clear hvc) | (go_at_call 120; refine (numbers_any B _ [a, b, c, d, e, g] _ (hT.below' hb4' hBw) hat4 (by simp) (HWn.out)).mono ?_; rintro e' w5 ⟨v', rfl, hv1, hv2, hb5⟩))
  have hb35 := hbc.trans ((hb4.trans (hb5.mono hb4.size)).mono hbc.size)
  have hb5' := hb3'.trans (hb35.mono hb3'.size)
  have hb51 := hb31.trans (hb35.mono hb31.size)
  have x6 := (hb35.cell (World.block_lt_of_cell? w3 _ x6)).trans x6
  clear ix x0 y1 y2 y3 y4 y5 y7 hr1 hr2 HCo hat4
  have v1 := U1.out _ hb5'
  cases hn : numsOf [a, b, c, d, e, g] with
  | none =>
    rw [hn] at hv2
    obtain rfl := hv2 rfl
    have HF := Lib.hid (HRN'.out (HH.out.trans (headOf_nil hn)))
    clear hn hv1 hv2
    simp only [Option.isSome_none]
    obtain ⟨c0, c1, c2, c3, c4, c5, c6⟩ := CZ.out _ hb51
    have hgz := HG.out _ hb51
    have fz : ∀ j, w5.frozen? ⟨w.heap.size, j, none⟩ = false := fun j => frozen_row hgz
    have f0 := fz 0; have f1 := fz 1; have f2 := fz 2; have f3 := fz 3; have f4 := fz 4; have f5 := fz 5; have f6 := fz 6
    have HGz := Lib.hid hgz
    clear fz hgz
    go_wp2_with fail
    go_region_law (fail)
    all_goals
      go_wp2_with fail
      refine bodyPost_ret (ret_row rfl _ _ w.heap.size 30 z7 (0, 0) _ rfl ?_ Tryz.underlying30 rfl (by kernel_rfl)) rfl ⟨.slice none 0 0, .iface 294 (.pointer (some (E 1))), ?_, ?_, ?_, ?_⟩
      · rw [World.heap_drew]; exact sev_new HGz.out _ _ _ _ _ _ _
      · rw [HF.out]; rfl
      · rw [HF.out]; exact At.nil _ _ _
      · rw [HF.out]; exact ⟨by decide, rfl⟩
      · exact Below.drew (sev_below hb5' (Nat.le_refl _) _ _ _ _ _ _ _)
  | some ns =>
    have hown := hv1 ns hn
    have hnl := mapM_len _ hn
    obtain ⟨n0, n1, n2, n3, n4, n5, rfl⟩ := six_ints (l := ns) (by simpa using hnl)
    have hh6 := HH.out.trans (headOf_six (o := o) hn)
    have HF0 := Lib.hid (HRS'.out _ _ hh6)
    clear hn hv1 hv2 hnl hh6
    simp only [Option.isSome_some]
    obtain ⟨an, cn, bn, on, hvn, han, hcn, hcmn, hxn⟩ := hown.at encI_enc
    subst hvn
    obtain rfl := han (by simp)
    have z0 := hxn 0 _ rfl 0 _ rfl
    have z1 := hxn 1 _ rfl 0 _ rfl
    have z2 := hxn 2 _ rfl 0 _ rfl
    have z3 := hxn 3 _ rfl 0 _ rfl
    have z4 := hxn 4 _ rfl 0 _ rfl
    have z5 := hxn 5 _ rfl 0 _ rfl
    simp only [Nat.mul_one, Nat.add_zero] at z0 z1 z2 z3 z4 z5
    have hl6 : [n0, n1, n2, n3, n4, n5].length = 6 := rfl
    rw [hl6]
    clear hxn hown han hcn hcmn hl6
    have KS := Lib.hid (fun W (h : Below w5.heap.size w5 W) => (⟨(h.cell (World.block_lt_of_cell? w5 _ x6)).trans x6, (h.cell (World.block_lt_of_cell? w5 _ z0)).trans z0, (h.cell (World.block_lt_of_cell? w5 _ z1)).trans z1, (h.cell (World.block_lt_of_cell? w5 _ z2)).trans z2, (h.cell (World.block_lt_of_cell? w5 _ z3)).trans z3, (h.cell (World.block_lt_of_cell? w5 _ z4)).trans z4, (h.cell (World.block_lt_of_cell? w5 _ z5)).trans z5⟩ : _ ∧ _ ∧ _ ∧ _ ∧ _ ∧ _ ∧ _))
    clear x6 z0 z1 z2 z3 z4 v1
    have hsm := fun W => sum_any body W (by omega)
    have hsl := sumOf_lt body
    have HBR : Hid (∀ x m, bodyRead x m body = if m ≠ sumOf body then (zeroSn, .bare 10) else if listReadE body ≠ .nil then (zeroSn, listReadE body) else if snapCheck { x with files := listReadL body } ≠ .nil then (zeroSn, snapCheck { x with files := listReadL body }) else ({ x with files := listReadL body }, .nil)) := Lib.hid fun _ _ => rfl
    generalize sumOf body = sb at *
    have hwr : IntKind.i64.wrap (sb : Int) = sb := by rw [IntKind.wrap_i64]; omega
    have HSm := Lib.hid hsm; clear hsm
    have hbd : Below w5.heap.size w5 w5.drew := (Below.refl _ _).drew
    have hb5d := hb5'.drew
    by_cases hsum : n5 = sb
    case neg =>
      have gs : (n5 != (sb : Int)) = true := by simpa using hsum
      have HF : Hid (snapRead s = (zeroSn, .bare 10)) := Lib.hid (by rw [HF0.out, HBR.out, if_pos hsum])
      clear hsum HF0
      go_wp2_with fail
      go_region_held3 (fun w' => w'.cell? ⟨bn, on + 5, none⟩ = some (.int .i64 n5)) (exact z5) (first | (go_at_call 116; refine (HSm.out _).mono ?_; rintro e' w6 ⟨rfl, hb6⟩; have z5' := (hb6.cell (World.block_lt_of_cell? _ _ z5)).trans z5; clear z5; have z5 := z5'; clear z5'))
      have hb6' := hb5d.trans (hb6.mono hb5d.size)
      have hb61 := (hb51.drew).trans (hb6.mono (hb51.drew).size)
      have v10 := U10.out _ hb6'
      obtain ⟨c0, c1, c2, c3, c4, c5, c6⟩ := CZ.out _ hb61
      have hgz := HG.out _ hb61
      have fz : ∀ j, w6.frozen? ⟨w.heap.size, j, none⟩ = false := fun j => frozen_row hgz
      have f0 := fz 0; have f1 := fz 1; have f2 := fz 2; have f3 := fz 3; have f4 := fz 4; have f5 := fz 5; have f6 := fz 6
      have HGz := Lib.hid hgz
      clear fz hgz
      go_wp2_with fail
      go_region_law (fail)
      all_goals
        go_wp2_with fail
        refine bodyPost_ret (ret_row rfl _ _ w.heap.size 30 z7 (0, 0) _ rfl ?_ Tryz.underlying30 rfl (by kernel_rfl)) rfl ⟨.slice none 0 0, .iface 294 (.pointer (some (E 10))), ?_, ?_, ?_, ?_⟩
        · rw [World.heap_drew]; exact sev_new HGz.out _ _ _ _ _ _ _
        · rw [HF.out]; rfl
        · rw [HF.out]; exact At.nil _ _ _
        · rw [HF.out]; exact ⟨by decide, rfl⟩
        · exact Below.drew (sev_below hb6' (Nat.le_refl _) _ _ _ _ _ _ _)
    have gs : (n5 != (sb : Int)) = false := by simp [hsum]
    have HF1 : Hid (snapRead s = if listReadE body ≠ .nil then (zeroSn, listReadE body) else if snapCheck ⟨n0, n1, n2, n3, n4, o, listReadL body⟩ ≠ .nil then (zeroSn, snapCheck ⟨n0, n1, n2, n3, n4, o, listReadL body⟩) else (⟨n0, n1, n2, n3, n4, o, listReadL body⟩, .nil)) := Lib.hid (by rw [HF0.out, HBR.out, if_neg (fun h => h hsum)])
    clear hsum HF0 HBR
    go_wp2_with fail
    go_region_held3 (fun w' => w'.cell? ⟨bn, on + 5, none⟩ = some (.int .i64 n5)) (exact z5) (first | (go_at_call 116; refine (HSm.out _).mono ?_; rintro e' w6 ⟨rfl, hb6⟩; have z5' := (hb6.cell (World.block_lt_of_cell? _ _ z5)).trans z5; clear z5; have z5 := z5'; clear z5'))
    have hb6' := hb5d.trans (hb6.mono hb5d.size)
    have hb61 := (hb51.drew).trans (hb6.mono (hb51.drew).size)
    have hb56 := hbd.trans (hb6.mono hbd.size)
    have hlr := listRead_any E B body w6 ((hE.sub (by decide)).below' hb6' hBw) (hT.below' hb6' hBw) (hM.below' hb6' hBw) (by omega)
    have HLr := Lib.hid hlr; clear hlr z5 gs hwr
    go_wp2_with fail
    refine HLr.out.mono ?_
    rintro e' w7 ⟨u7, ev, rfl, hu7, hev, hb7⟩
    have hb7' := hb6'.trans (hb7.mono hb6'.size)
    have hb71 := hb61.trans (hb7.mono hb61.size)
    have hb57 := hb56.trans (hb7.mono hb56.size)
    by_cases hle : listReadE body = .nil
    case neg =>
      have HF : Hid (snapRead s = (zeroSn, listReadE body)) := Lib.hid (by rw [HF1.out, if_pos hle])
      obtain ⟨u, x, rfl⟩ := hev.iface hle
      have HEv := Lib.hid hev
      clear hle hev HF1
      obtain ⟨c0, c1, c2, c3, c4, c5, c6⟩ := CZ.out _ hb71
      have hgz := HG.out _ hb71
      have fz : ∀ j, w7.frozen? ⟨w.heap.size, j, none⟩ = false := fun j => frozen_row hgz
      have f0 := fz 0; have f1 := fz 1; have f2 := fz 2; have f3 := fz 3; have f4 := fz 4; have f5 := fz 5; have f6 := fz 6
      have HGz := Lib.hid hgz
      clear fz hgz
      go_wp2_with fail
      refine bodyPost_ret (ret_row rfl _ _ w.heap.size 30 z7 (0, 0) _ rfl (sev_new HGz.out _ _ _ _ _ _ _) Tryz.underlying30 rfl (by kernel_rfl)) rfl ⟨.slice none 0 0, .iface u x, ?_, ?_, ?_, sev_below hb7' (Nat.le_refl _) _ _ _ _ _ _ _⟩
      · rw [HF.out]; rfl
      · rw [HF.out]; exact At.nil _ _ _
      · rw [HF.out]; exact ErV.away HEv.out c1 (fun p hp => sev_cell hp _ _ _ _ _ _ _)
    rw [hle] at hev
    obtain rfl : ev = .nilIface := hev
    have HF2 : Hid (snapRead s = if snapCheck ⟨n0, n1, n2, n3, n4, o, listReadL body⟩ ≠ .nil then (zeroSn, snapCheck ⟨n0, n1, n2, n3, n4, o, listReadL body⟩) else (⟨n0, n1, n2, n3, n4, o, listReadL body⟩, .nil)) := Lib.hid (by rw [HF1.out, if_neg (fun h => h hle)])
    have hmid := right_mid (listRead_right hle)
    clear hle HF1 HLr
    generalize listReadL body = fl at *
    obtain ⟨au, nu, cu, rfl⟩ : ∃ au nu cu, u7 = .slice au nu cu := by
      obtain ⟨a', c', h', -⟩ := (hu7.at encF_enc).form'
      exact ⟨_, _, _, h'⟩
    have HMid := Lib.hid hmid; clear hmid
    have KS7 := Lib.hid (fun W (h : Below w7.heap.size w7 W) => KS.out W (hb57.trans (h.mono hb57.size)))
    obtain ⟨x6, z0, z1, z2, z3, z4, -⟩ := KS7.out _ (Below.refl _ _)
    have hw6 : w.heap.size < w6.heap.size := by
      have h1 := hb61.size
      have h2 := (Array.getElem?_eq_some_iff.1 (HG.out _ (Below.refl _ _))).1
      omega
    go_wp2_with fail
    go_region_held3 (fun w' => w'.cell? ⟨w2.heap.size, 6, none⟩ = some (S o) ∧ w'.cell? ⟨bn, on, none⟩ = some (.int .i64 n0) ∧ w'.cell? ⟨bn, on + 1, none⟩ = some (.int .i64 n1) ∧ w'.cell? ⟨bn, on + 2, none⟩ = some (.int .i64 n2) ∧ w'.cell? ⟨bn, on + 3, none⟩ = some (.int .i64 n3) ∧ w'.cell? ⟨bn, on + 4, none⟩ = some (.int .i64 n4)) (first | exact ⟨x6, z0, z1, z2, z3, z4⟩ | (obtain ⟨q0, q1, q2, q3, q4, q5, -⟩ := KS7.out _ (((Below.refl _ _).alloc (Nat.le_refl _) _).drew); exact ⟨q0, q1, q2, q3, q4, q5⟩) | (obtain ⟨q0, q1, q2, q3, q4, q5, -⟩ := KS7.out _ ((Below.refl _ _).drew.alloc (Nat.le_refl _) _); exact ⟨q0, q1, q2, q3, q4, q5⟩)) (fail)
    have hb8 : Below w7.heap.size w7 (w7.alloc (.cells #[.int .i64 n0, .int .i64 n1, .int .i64 n2, .int .i64 n3, .int .i64 n4, S o, .slice au nu cu] 30)).drew := ((Below.refl _ _).alloc (Nat.le_refl _) _).drew
    have CF := Lib.hid (fun w9 (h : Below (w7.alloc (.cells #[.int .i64 n0, .int .i64 n1, .int .i64 n2, .int .i64 n3, .int .i64 n4, S o, .slice au nu cu] 30)).heap.size (w7.alloc (.cells #[.int .i64 n0, .int .i64 n1, .int .i64 n2, .int .i64 n3, .int .i64 n4, S o, .slice au nu cu] 30)).drew w9) => snapCells (s := ⟨n0, n1, n2, n3, n4, o, fl⟩) (v := .slice au nu cu) (t := 30) (((Below.refl _ _).drew).trans h))
    have hsz : (w7.alloc (.cells #[.int .i64 n0, .int .i64 n1, .int .i64 n2, .int .i64 n3, .int .i64 n4, S o, .slice au nu cu] 30)).heap.size = (w7.alloc (.cells #[.int .i64 n0, .int .i64 n1, .int .i64 n2, .int .i64 n3, .int .i64 n4, S o, .slice au nu cu] 30)).drew.heap.size := rfl
    rw [hsz] at CF
    generalize (w7.alloc (.cells #[.int .i64 n0, .int .i64 n1, .int .i64 n2, .int .i64 n3, .int .i64 n4, S o, .slice au nu cu] 30)).drew = w8 at *
    have hb8' := hb7'.trans (hb8.mono hb7'.size)
    have hb81 := hb71.trans (hb8.mono hb71.size)
    obtain ⟨k0, k1, k2, k3, k4, k5, k6⟩ := CF.out w8 (Below.refl _ _)
    have hfl8 : FilesAt w8 (.slice au nu cu) fl := (hu7.at encF_enc).below hb8
    have hck := snapCheck_any E B ⟨n0, n1, n2, n3, n4, o, fl⟩ (.slice au nu cu) w8 ((hE.sub (by decide)).below' hb8' hBw) (hT.below' hb8' hBw) (hM.below' hb8' hBw) hfl8 HMid.out
    have HCk := Lib.hid hck
    clear hck hfl8 x6 z0 z1 z2 z3 z4 hsz
    go_wp2_with fail
    refine HCk.out.mono ?_
    rintro e' w9 ⟨ev, rfl, hev, hb9⟩
    have hb9' := hb8'.trans (hb9.mono hb8'.size)
    have hb91 := hb81.trans (hb9.mono hb81.size)
    clear k0 k1 k2 k3 k4 k5 k6
    obtain ⟨k0, k1, k2, k3, k4, k5, k6⟩ := CF.out w9 hb9
    clear HCk
    obtain ⟨c0, c1, c2, c3, c4, c5, c6⟩ := CZ.out _ hb91
    have hgz := HG.out _ hb91
    have fz : ∀ j, w9.frozen? ⟨w.heap.size, j, none⟩ = false := fun j => frozen_row hgz
    have f0 := fz 0; have f1 := fz 1; have f2 := fz 2; have f3 := fz 3; have f4 := fz 4; have f5 := fz 5; have f6 := fz 6
    have HGz := Lib.hid hgz
    clear fz hgz
    by_cases hcn : snapCheck ⟨n0, n1, n2, n3, n4, o, fl⟩ = .nil
    case neg =>
      have HF : Hid (snapRead s = (zeroSn, snapCheck ⟨n0, n1, n2, n3, n4, o, fl⟩)) := Lib.hid (by rw [HF2.out, if_pos hcn])
      obtain ⟨u, x, rfl⟩ := hev.iface hcn
      have HEv := Lib.hid hev
      clear hcn hev HF2
      go_wp2_with fail
      refine bodyPost_ret (ret_row rfl _ _ w.heap.size 30 z7 (0, 0) _ rfl (sev_new HGz.out _ _ _ _ _ _ _) Tryz.underlying30 rfl (by kernel_rfl)) rfl ⟨.slice none 0 0, .iface u x, ?_, ?_, ?_, sev_below hb9' (Nat.le_refl _) _ _ _ _ _ _ _⟩
      · rw [HF.out]; rfl
      · rw [HF.out]; exact At.nil _ _ _
      · rw [HF.out]; exact ErV.away HEv.out c1 (fun p hp => sev_cell hp _ _ _ _ _ _ _)
    have HF : Hid (snapRead s = (⟨n0, n1, n2, n3, n4, o, fl⟩, .nil)) := Lib.hid (by rw [HF2.out, if_neg (fun h => h hcn)])
    rw [hcn] at hev
    obtain rfl : ev = .nilIface := hev
    clear hcn HF2
    go_wp2_with fail
    refine bodyPost_ret (ret_row rfl _ _ w.heap.size 30 #[.int .i64 n0, .int .i64 n1, .int .i64 n2, .int .i64 n3, .int .i64 n4, S o, .slice au nu cu] (0, 0) _ rfl (sev_new HGz.out _ _ _ _ _ _ _) Tryz.underlying30 rfl (by kernel_rfl)) rfl ⟨.slice au nu cu, .nilIface, ?_, ?_, ?_, sev_below hb9' (Nat.le_refl _) _ _ _ _ _ _ _⟩
    · rw [HF.out]; rfl
    · rw [HF.out]; exact At.sev hu7 (hb8.trans (hb9.mono hb8.size)) hw6 _ _ _ _ _ _ _
    · rw [HF.out]; rfl
end Go.Proofs.YtikboodjfanjkaaGreatDoor
namespace Go.Proofs.YtikboodjfanjkaaGreatDoor
open Go.RowKit

theorem fl_equalIn (x y : Fl) (w : World) : (Op.equalIn 10000 50 (fileV x) (fileV y)).run Tryz.prog w = .ok (decide (x = y)) w := by
  have uS := Tryz.underlying9
  have uI := Tryz.underlying3
  have aS := Tryz.isAgg9
  have aI := Tryz.isAgg3
  have zS := Tryz.sizeOf9
  have zI := Tryz.sizeOf3
  have hS : Tryz.prog.underlying 50 = some (.struct (Tryz.prog.fieldsOf 50)) := by kernel_rfl
  have hp : Tryz.prog.stoodInHeld 50 = false := by kernel_rfl
  rw [show (10000 : Nat) = 9999 + 1 from rfl, run_equalIn_agg w 9999 50 _ _ hS hp]
  simp only [Program.fieldsOf, Tryz.underlying50]
  go_simp
  cases x with
  | mk p1 q1 n1 a1 b1 s1 =>
  cases y with
  | mk p2 q2 n2 a2 b2 s2 =>
  by_cases h1 : p1 = p2 <;> by_cases h2 : q1 = q2 <;> by_cases h3 : n1 = n2 <;> by_cases h4 : a1 = a2 <;> by_cases h5 : b1 = b2 <;> by_cases h6 : s1 = s2 <;> simp [h1, h2, h3, h4, h5, h6]
theorem fl_neq (x y : Fl) (w : World) : (binOp .neq 50 (fileV x) (fileV y)).run Tryz.prog w = .ok (.bool (!decide (x = y))) w := by
  rw [run_neq_struct, fl_equalIn]; rfl
theorem fl_eql (x y : Fl) (w : World) : (binOp .eql 50 (fileV x) (fileV y)).run Tryz.prog w = .ok (.bool (decide (x = y))) w := by
  rw [run_eql_struct, fl_equalIn]; rfl
theorem fl_guard : Tryz.prog.eqGuardType Tryz.prog.depth 50 = false := by kernel_rfl
set_option maxRecDepth 20000 in
theorem sameFiles_any (v u : Value) (l m : List Fl) (w : World) (hl : FilesAt w v l) (hm : FilesAt w u m) :
    Calls Tryz.prog 38 #[v, u] w fun e w' => e = .returned (.bool (decide (l = m))) ∧ Below w.heap.size w w' := by
  obtain ⟨a, c, b, o, rfl, ha, hc, hcm, hx⟩ := hl
  obtain ⟨a', c', b', o', rfl, ha', hc', hcm', hx'⟩ := hm
  unfold maxLen at hcm hcm'
  by_cases hlen : l.length = m.length
  case neg =>
    have hne : ((l.length : Int) != (m.length : Int)) = true := by simp; omega
    go_enter Tryz.func38, Tryz.ntmps38
    go_wp2_with fail
    go_ret
    exact ⟨ret_bool (decide_eq_false fun e => hlen (by rw [e])).symm, Below.refl _ _⟩
  have hne : ((l.length : Int) != (m.length : Int)) = false := by simp [hlen]
  have Hl := Lib.hid hlen; clear hlen
  go_enter Tryz.func38, Tryz.ntmps38
  go_wp2_with fail
  go_loopw [5] (fun i wr => ∃ k : Nat, k ≤ l.length ∧ i = .int .i64 k ∧ Hid (∀ j < k, l[j]? = m[j]?) ∧ Below w.heap.size w wr) (fun i _ => l.length - (intOf i).toNat)
  case atStart => exact ⟨0, by omega, rfl, Lib.hid fun j hj => absurd hj (by omega), Below.refl _ _⟩
  case round =>
    obtain ⟨k, hk, rfl, hj, hb⟩ := hrel
    by_cases hlt : k < l.length
    case neg =>
      obtain rfl : k = l.length := by omega
      go_wp2_with fail
      go_ret
      exact ⟨ret_bool (decide_eq_true (list_ext_upto Hl.out hj.out)).symm, hb⟩
    obtain ⟨x, hxk⟩ := get_ex hlt
    obtain ⟨y, hyk⟩ := get_ex (l := m) (k := k) (by rw [← Hl.out]; exact hlt)
    obtain ⟨c0, c1, c2, c3, c4, c5⟩ := flCells hx hb hxk
    obtain ⟨d0, d1, d2, d3, d4, d5⟩ := flCells hx' hb hyk
    have i1 := idx_at (c := c) 6 Tryz.underlying28 szFl ha k hlt
    have i2 := idx_at (c := c') 6 Tryz.underlying28 szFl ha' k (by rw [← Hl.out]; exact hlt)
    have hk1 : (k : Int) < (l.length : Int) := by omega
    have hn := fl_neq x y
    have hgd := fl_guard
    have Hx := Lib.hid hxk; clear hxk
    have Hy := Lib.hid hyk; clear hyk
    go_wp2_with fail
    go_quiet (fail)
    by_cases he : x = y
    · rw [decide_eq_true he]
      have He := Lib.hid he; clear he
      go_wp2_with fail
      go_roundw
      case rel => exact ⟨k + 1, by omega, by go_num, (Lib.hid fun j hj' => by
        rcases Nat.lt_or_ge j k with h | h
        · exact hj.out j h
        · obtain rfl : j = k := by omega
          rw [Hx.out, Hy.out, He.out]), Bdn hb _⟩
      case measure => simp [intOf]; omega
    · rw [decide_eq_false he]
      have He := Lib.hid he; clear he
      go_wp2_with fail
      go_ret
      refine ⟨ret_bool (decide_eq_false fun e => He.out ?_).symm, Bdn hb _⟩
      have := Hx.out; rw [e, Hy.out] at this; exact (Option.some.inj this).symm
end Go.Proofs.YtikboodjfanjkaaGreatDoor
namespace Go.Proofs.YtikboodjfanjkaaGreatDoor
open Go.RowKit

/-- A function value that compares a file with another one by their paths. -/
def CmpOn (f : FuncId) (caps : Array Value) (l : List Fl) (t : Fl) (base : Nat) (w0 : World) : Prop :=
  ∀ W x, x ∈ l → Below base w0 W → base ≤ W.heap.size → Calls Tryz.prog f (#[fileV x, fileV t] ++ caps) W fun e W' => e = .returned (.int .i64 (cmpP x.path t.path)) ∧ Below W.heap.size W W'

theorem placeAt_of {l : List Fl} {t : Fl} {k : Nat} (hk : k ≤ l.length) (h1 : ∀ (j : Nat) (y : Fl), j < k → l[j]? = some y → cmpP y.path t.path < 0) (h2 : ∀ (j : Nat) (y : Fl), k ≤ j → l[j]? = some y → 0 ≤ cmpP y.path t.path) : PlaceAt l t k :=
  ⟨hk, fun j g hj hg => cmpP_lt.1 (h1 j g hj hg), fun j g hj hg => by
    have := h2 j g hj hg
    have := @cmpP_lt g.path t.path
    omega⟩
theorem rising_low {l : List Fl} {t x : Fl} {m : Nat} (hr : l.Pairwise (fun a b => keyP a.path < keyP b.path)) (hm : l[m]? = some x) (hx : cmpP x.path t.path < 0) : ∀ (j : Nat) (y : Fl), j < m + 1 → l[j]? = some y → cmpP y.path t.path < 0 := by
  intro j y hj hy
  obtain ⟨a1, a2⟩ := List.getElem?_eq_some_iff.1 hm
  obtain ⟨b1, b2⟩ := List.getElem?_eq_some_iff.1 hy
  rcases Nat.lt_or_ge j m with h | h
  · have := List.pairwise_iff_getElem.1 hr j m b1 a1 h
    rw [a2, b2] at this
    rw [cmpP_lt] at hx ⊢
    omega
  · obtain rfl : j = m := by omega
    rw [hm] at hy
    obtain rfl := Option.some.inj hy
    exact hx
theorem rising_high {l : List Fl} {t x : Fl} {m : Nat} (hr : l.Pairwise (fun a b => keyP a.path < keyP b.path)) (hm : l[m]? = some x) (hx : 0 ≤ cmpP x.path t.path) : ∀ (j : Nat) (y : Fl), m ≤ j → l[j]? = some y → 0 ≤ cmpP y.path t.path := by
  intro j y hj hy
  obtain ⟨a1, a2⟩ := List.getElem?_eq_some_iff.1 hm
  obtain ⟨b1, b2⟩ := List.getElem?_eq_some_iff.1 hy
  rcases Nat.lt_or_ge m j with h | h
  · have := List.pairwise_iff_getElem.1 hr m j a1 b1 h
    rw [a2, b2] at this
    have h1 := @cmpP_lt x.path t.path
    have h2 := @cmpP_lt y.path t.path
    omega
  · obtain rfl : j = m := by omega
    rw [hm] at hy
    obtain rfl := Option.some.inj hy
    exact hx
set_option maxHeartbeats 1000000 in
set_option maxRecDepth 20000 in
theorem bsearchF_any (f : FuncId) (caps : Array Value) (t : Fl) (base : Nat) (w0 : World) (v : Value) (l : List Fl) (w : World) (hf : Clo Tryz.prog f) (hp : CmpOn f caps l t base w0)
    (hl : FilesAt w v l) (hn : l.length ≤ 100000) (hr : l.Pairwise (fun a b => keyP a.path < keyP b.path)) (hw : Below base w0 w) (hB : base ≤ w.heap.size) :
    Calls Tryz.prog 103 #[v, fileV t, .func (.func f) #[] caps] w fun e w' => ∃ k : Nat, e = .returned (.tuple #[.int .i64 k, .bool (decide (thereF l t))]) ∧ PlaceAt l t k ∧ Below w.heap.size w w' := by
  have hba : Below w.heap.size w (w.alloc (.cells #[S t.path, S t.part, .int .i64 t.n, .int .i64 t.lo, .int .i64 t.hi, .int .i64 t.seq] 50)) := (Below.refl _ _).alloc (Nat.le_refl _) _
  have hl := hl.below hba
  have hw := hw.trans (hba.mono hB)
  have hB := Nat.le_trans hB hba.size
  have CT := Lib.hid (fun w6 (h : Below (w.alloc (.cells #[S t.path, S t.part, .int .i64 t.n, .int .i64 t.lo, .int .i64 t.hi, .int .i64 t.seq] 50)).heap.size (w.alloc (.cells #[S t.path, S t.part, .int .i64 t.n, .int .i64 t.lo, .int .i64 t.hi, .int .i64 t.seq] 50)) w6) => fileCells rfl h)
  obtain ⟨a, c, b, o, rfl, ha, hc, hcm, hx⟩ := hl
  unfold maxLen at hcm
  have hf' := hf
  unfold Clo at hf'
  have HR := Lib.hid hr; clear hr
  have HT := Lib.hid hba
  go_enter Tryz.func103, Tryz.ntmps103
  go_wp2_with fail
  generalize w.alloc (.cells #[S t.path, S t.part, .int .i64 t.n, .int .i64 t.lo, .int .i64 t.hi, .int .i64 t.seq] 50) = w1 at *
  go_loopg [9, 10] l.length (fun kx s9 s10 wr => ∃ lo hi : Nat, s9 = .int .i64 lo ∧ s10 = .int .i64 hi ∧ lo ≤ hi ∧ hi ≤ l.length ∧ hi - lo ≤ kx ∧ Below w1.heap.size w1 wr ∧
    Hid ((∀ (j : Nat) (y : Fl), j < lo → l[j]? = some y → cmpP y.path t.path < 0) ∧ (∀ (j : Nat) (y : Fl), hi ≤ j → l[j]? = some y → 0 ≤ cmpP y.path t.path)))
  case atStart => exact ⟨0, l.length, rfl, rfl, Nat.zero_le _, Nat.le_refl _, by omega, Below.refl _ _, Lib.hid ⟨fun j y hj => absurd hj (Nat.not_lt_zero _), fun j y h1 h2 => by rw [List.getElem?_eq_none h1] at h2; cases h2⟩⟩
  case round =>
    obtain ⟨lo, hi, rfl, rfl, hlh, hin, hg, hb, I⟩ := hrel
    obtain ⟨d0, d1, d2, d3, d4, d5⟩ := CT.out wr hb
    by_cases hlt : lo < hi
    · obtain ⟨m, hm⟩ : ∃ m, (lo + hi) / 2 = m := ⟨_, rfl⟩
      obtain ⟨x, hxk⟩ := get_ex (l := l) (k := m) (by omega)
      obtain ⟨c0, c1, c2, c3, c4, c5⟩ := flCells hx hb hxk
      have i1 := idx_at (c := c) 6 Tryz.underlying28 szFl ha m (by omega)
      have hcast : ((lo : Int) + (hi : Int)) / 2 = (m : Int) := by omega
      have hpx := hp wr.drew x (List.mem_of_getElem? hxk) (hw.trans (hb.drew.mono hB)) (Nat.le_trans hB hb.size)
      have CX := Lib.hid (fun w6 (h : Below w1.heap.size w1 w6) => flCells hx h hxk)
      generalize hcv : cmpP x.path t.path = cv at hpx
      have Hp := Lib.hid hpx; clear hpx
      have Hx := Lib.hid hxk; clear hxk
      have Hc := Lib.hid hcv; clear hcv
      by_cases hyx : cv < 0
      · go_wp2_with fail
        go_region_held3 (fun w' => (w'.cell? ⟨b, o + m * 6, none⟩ = some (S x.path) ∧ w'.cell? ⟨b, o + m * 6 + 1, none⟩ = some (S x.part) ∧ w'.cell? ⟨b, o + m * 6 + 2, none⟩ = some (.int .i64 x.n) ∧ w'.cell? ⟨b, o + m * 6 + 3, none⟩ = some (.int .i64 x.lo) ∧ w'.cell? ⟨b, o + m * 6 + 4, none⟩ = some (.int .i64 x.hi) ∧ w'.cell? ⟨b, o + m * 6 + 5, none⟩ = some (.int .i64 x.seq)) ∧ w'.cell? ⟨w.heap.size, 0, none⟩ = some (S t.path) ∧ w'.cell? ⟨w.heap.size, 1, none⟩ = some (S t.part) ∧ w'.cell? ⟨w.heap.size, 2, none⟩ = some (.int .i64 t.n) ∧ w'.cell? ⟨w.heap.size, 3, none⟩ = some (.int .i64 t.lo) ∧ w'.cell? ⟨w.heap.size, 4, none⟩ = some (.int .i64 t.hi) ∧ w'.cell? ⟨w.heap.size, 5, none⟩ = some (.int .i64 t.seq)) (exact ⟨⟨c0, c1, c2, c3, c4, c5⟩, d0, d1, d2, d3, d4, d5⟩) (first | (go_at_fn f; refine Hp.out.mono ?_; rintro e w2 ⟨rfl, hb1⟩; have hb2 := hb.drew.trans (hb1.mono hb.size); clear c0 c1 c2 c3 c4 c5 d0 d1 d2 d3 d4 d5; obtain ⟨c0, c1, c2, c3, c4, c5⟩ := CX.out w2 hb2; obtain ⟨d0, d1, d2, d3, d4, d5⟩ := CT.out w2 hb2))
        go_wp2_with fail
        go_roundg (hi - (m + 1))
        case measure => omega
        case rel => exact ⟨m + 1, hi, by go_num, rfl, by omega, hin, Nat.le_refl _, hb2, Lib.hid ⟨rising_low HR.out Hx.out (by rw [Hc.out]; exact hyx), I.out.2⟩⟩
      · go_wp2_with fail
        go_region_held3 (fun w' => (w'.cell? ⟨b, o + m * 6, none⟩ = some (S x.path) ∧ w'.cell? ⟨b, o + m * 6 + 1, none⟩ = some (S x.part) ∧ w'.cell? ⟨b, o + m * 6 + 2, none⟩ = some (.int .i64 x.n) ∧ w'.cell? ⟨b, o + m * 6 + 3, none⟩ = some (.int .i64 x.lo) ∧ w'.cell? ⟨b, o + m * 6 + 4, none⟩ = some (.int .i64 x.hi) ∧ w'.cell? ⟨b, o + m * 6 + 5, none⟩ = some (.int .i64 x.seq)) ∧ w'.cell? ⟨w.heap.size, 0, none⟩ = some (S t.path) ∧ w'.cell? ⟨w.heap.size, 1, none⟩ = some (S t.part) ∧ w'.cell? ⟨w.heap.size, 2, none⟩ = some (.int .i64 t.n) ∧ w'.cell? ⟨w.heap.size, 3, none⟩ = some (.int .i64 t.lo) ∧ w'.cell? ⟨w.heap.size, 4, none⟩ = some (.int .i64 t.hi) ∧ w'.cell? ⟨w.heap.size, 5, none⟩ = some (.int .i64 t.seq)) (exact ⟨⟨c0, c1, c2, c3, c4, c5⟩, d0, d1, d2, d3, d4, d5⟩) (first | (go_at_fn f; refine Hp.out.mono ?_; rintro e w2 ⟨rfl, hb1⟩; have hb2 := hb.drew.trans (hb1.mono hb.size); clear c0 c1 c2 c3 c4 c5 d0 d1 d2 d3 d4 d5; obtain ⟨c0, c1, c2, c3, c4, c5⟩ := CX.out w2 hb2; obtain ⟨d0, d1, d2, d3, d4, d5⟩ := CT.out w2 hb2))
        go_wp2_with fail
        go_roundg (m - lo)
        case measure => omega
        case rel => exact ⟨lo, m, rfl, by go_num, by omega, by omega, Nat.le_refl _, hb2, Lib.hid ⟨I.out.1, rising_high HR.out Hx.out (by rw [Hc.out]; omega)⟩⟩
    · obtain rfl : hi = lo := by omega
      have hpl := placeAt_of hin I.out.1 I.out.2
      have HPL := Lib.hid hpl; clear hpl
      by_cases hn : hi < l.length
      · obtain ⟨x, hxk⟩ := get_ex hn
        obtain ⟨c0, c1, c2, c3, c4, c5⟩ := flCells hx hb hxk
        have i1 := idx_at (c := c) 6 Tryz.underlying28 szFl ha hi hn
        have hk1 : (hi : Int) < (l.length : Int) := by omega
        have hpx := hp wr.drew x (List.mem_of_getElem? hxk) (hw.trans (hb.drew.mono hB)) (Nat.le_trans hB hb.size)
        have CX := Lib.hid (fun w6 (h : Below w1.heap.size w1 w6) => flCells hx h hxk)
        have hth : thereF l t ↔ cmpP x.path t.path = 0 := (HPL.out.there HR.out).trans ⟨fun ⟨g, h1, h2⟩ => by
          rw [hxk] at h1
          obtain rfl := Option.some.inj h1
          exact h2, fun h => ⟨x, hxk, h⟩⟩
        generalize cmpP x.path t.path = cv at hpx hth
        have Hp := Lib.hid hpx; clear hpx
        have Hx := Lib.hid hxk; clear hxk
        by_cases hyx : cv = 0
        · have hd := decide_eq_true (hth.2 hyx)
          have HD := Lib.hid hd; clear hd hth
          go_wp2_with fail
          go_region_held3 (fun w' => (w'.cell? ⟨b, o + hi * 6, none⟩ = some (S x.path) ∧ w'.cell? ⟨b, o + hi * 6 + 1, none⟩ = some (S x.part) ∧ w'.cell? ⟨b, o + hi * 6 + 2, none⟩ = some (.int .i64 x.n) ∧ w'.cell? ⟨b, o + hi * 6 + 3, none⟩ = some (.int .i64 x.lo) ∧ w'.cell? ⟨b, o + hi * 6 + 4, none⟩ = some (.int .i64 x.hi) ∧ w'.cell? ⟨b, o + hi * 6 + 5, none⟩ = some (.int .i64 x.seq)) ∧ w'.cell? ⟨w.heap.size, 0, none⟩ = some (S t.path) ∧ w'.cell? ⟨w.heap.size, 1, none⟩ = some (S t.part) ∧ w'.cell? ⟨w.heap.size, 2, none⟩ = some (.int .i64 t.n) ∧ w'.cell? ⟨w.heap.size, 3, none⟩ = some (.int .i64 t.lo) ∧ w'.cell? ⟨w.heap.size, 4, none⟩ = some (.int .i64 t.hi) ∧ w'.cell? ⟨w.heap.size, 5, none⟩ = some (.int .i64 t.seq)) (exact ⟨⟨c0, c1, c2, c3, c4, c5⟩, d0, d1, d2, d3, d4, d5⟩) (first | (go_at_fn f; refine Hp.out.mono ?_; rintro e w2 ⟨rfl, hb1⟩; have hb2 := hb.drew.trans (hb1.mono hb.size); clear c0 c1 c2 c3 c4 c5 d0 d1 d2 d3 d4 d5; obtain ⟨c0, c1, c2, c3, c4, c5⟩ := CX.out w2 hb2; obtain ⟨d0, d1, d2, d3, d4, d5⟩ := CT.out w2 hb2))
          go_wp2_with fail
          go_ret2
          exact ⟨hi, by rw [HD.out]; rfl, HPL.out, HT.out.trans ((hb2).mono HT.out.size)⟩
        · have e0 : (cv == 0) = false := by simpa using hyx
          have hd := decide_eq_false (fun h => hyx (hth.1 h))
          have HD := Lib.hid hd; clear hd hth
          go_wp2_with fail
          go_region_held3 (fun w' => (w'.cell? ⟨b, o + hi * 6, none⟩ = some (S x.path) ∧ w'.cell? ⟨b, o + hi * 6 + 1, none⟩ = some (S x.part) ∧ w'.cell? ⟨b, o + hi * 6 + 2, none⟩ = some (.int .i64 x.n) ∧ w'.cell? ⟨b, o + hi * 6 + 3, none⟩ = some (.int .i64 x.lo) ∧ w'.cell? ⟨b, o + hi * 6 + 4, none⟩ = some (.int .i64 x.hi) ∧ w'.cell? ⟨b, o + hi * 6 + 5, none⟩ = some (.int .i64 x.seq)) ∧ w'.cell? ⟨w.heap.size, 0, none⟩ = some (S t.path) ∧ w'.cell? ⟨w.heap.size, 1, none⟩ = some (S t.part) ∧ w'.cell? ⟨w.heap.size, 2, none⟩ = some (.int .i64 t.n) ∧ w'.cell? ⟨w.heap.size, 3, none⟩ = some (.int .i64 t.lo) ∧ w'.cell? ⟨w.heap.size, 4, none⟩ = some (.int .i64 t.hi) ∧ w'.cell? ⟨w.heap.size, 5, none⟩ = some (.int .i64 t.seq)) (exact ⟨⟨c0, c1, c2, c3, c4, c5⟩, d0, d1, d2, d3, d4, d5⟩) (first | (go_at_fn f; refine Hp.out.mono ?_; rintro e w2 ⟨rfl, hb1⟩; have hb2 := hb.drew.trans (hb1.mono hb.size); clear c0 c1 c2 c3 c4 c5 d0 d1 d2 d3 d4 d5; obtain ⟨c0, c1, c2, c3, c4, c5⟩ := CX.out w2 hb2; obtain ⟨d0, d1, d2, d3, d4, d5⟩ := CT.out w2 hb2))
          go_wp2_with fail
          go_ret2
          exact ⟨hi, by rw [HD.out]; rfl, HPL.out, HT.out.trans ((hb2).mono HT.out.size)⟩
      · have hd : decide (thereF l t) = false := decide_eq_false fun h => by
          obtain ⟨g, h1, -⟩ := (HPL.out.there HR.out).1 h
          rw [List.getElem?_eq_none (by omega)] at h1
          cases h1
        have HD := Lib.hid hd; clear hd
        obtain rfl : hi = l.length := by omega
        go_wp2_with fail
        go_quiet (fail)
        go_wp2_with fail
        go_ret2
        exact ⟨l.length, by rw [HD.out]; rfl, HPL.out, Bdn (HT.out.trans (hb.mono HT.out.size)) _⟩

theorem find1_any (x : Fl) (p : Str) (ad : Addr) (w : World) (h1 : w.cell? ad = some (S p)) :
    Calls Tryz.prog 111 #[fileV x, .pointer (some ad)] w fun e w' => e = .returned (.bool (x.path == p)) ∧ Below w.heap.size w w' := by
  have h1' : (w.alloc (fileO x)).cell? ad = some (S p) := (((Below.refl w.heap.size w).alloc (Nat.le_refl _) (fileO x)).cell (World.block_lt_of_cell? w _ h1)).trans h1
  have hb : Below w.heap.size w (w.alloc (fileO x)) := (Below.refl _ _).alloc (Nat.le_refl _) _
  go_enter Tryz.func111, Tryz.ntmps111
  go_wp2_with fail
  go_ret
  exact ⟨rfl, hb⟩
theorem clo_find1 : Clo Tryz.prog 111 := fun _ _ => by kernel_rfl
def findV (l : List Fl) (p : Str) : Int := idxVal (fun f => f.path == p) l
theorem listFind_any (v : Value) (l : List Fl) (p : Str) (w : World) (hl : FilesAt w v l) :
    Calls Tryz.prog 43 #[v, S p] w fun e w' => e = .returned (.int .i64 (findV l p)) ∧ Below w.heap.size w w' := by
  obtain ⟨a, c, rfl, -, -⟩ := hl.form'
  have hba : Below w.heap.size w (w.alloc (.cells #[S p] 9)) := (Below.refl _ _).alloc (Nat.le_refl _) _
  have c0 : (w.alloc (.cells #[S p] 9)).cell? ⟨w.heap.size, 0, none⟩ = some (S p) := by simp
  have Hl := Lib.hid (hl.below hba)
  go_enter Tryz.func43, Tryz.ntmps43
  go_wp2_with fail
  refine (indexFuncF_any _ _ (fun f => f.path == p) _ _ _ l _ clo_find1 ?_ Hl.out (Below.refl _ _) (Nat.le_refl _)).mono ?_
  · intro W x hx hbW hle
    exact find1_any x p _ W ((hbW.cell (World.block_lt_of_cell? _ _ c0)).trans c0)
  · rintro e w1 ⟨rfl, hb1⟩
    go_wp2_with fail
    go_ret
    exact ⟨rfl, hba.trans (hb1.mono hba.size)⟩

theorem add1_any (E : Nat → Addr) (B : Nat) (x y : Fl) (w : World) (hE : Errs [5] E B w) (hT : LNum B w) (hM : LMax B w) (hx : midF x) (hy : midF y) :
    Calls Tryz.prog 104 #[fileV x, fileV y] w fun e w' => e = .returned (.int .i64 (cmpP x.path y.path)) ∧ Below w.heap.size w w' := by
  have hba : Below w.heap.size w ((w.alloc (fileO x)).alloc (fileO y)) := ((Below.refl _ _).alloc (Nat.le_refl _) _).alloc (by simp) _
  have hC := listCompare_any E B x.path y.path ((w.alloc (fileO x)).alloc (fileO y)) (hE.below' hba hE.le) (hT.below' hba hT.le) (hM.below' hba hM.le) (by have := hx.1; omega) (by have := hy.1; omega)
  have HC := Lib.hid hC; clear hC
  go_enter Tryz.func104, Tryz.ntmps104
  go_wp2_with fail
  refine HC.out.mono ?_
  rintro e w1 ⟨rfl, hb1⟩
  go_wp2_with fail
  go_ret
  exact ⟨rfl, hba.trans (hb1.mono hba.size)⟩
theorem clo_add1 : Clo Tryz.prog 104 := fun _ _ => by kernel_rfl
end Go.Proofs.YtikboodjfanjkaaGreatDoor
