/- snap.Read: the walk. The document's answer on lists: ListFault, ListText: the walks. -/
import Derived.Test.YtcdcfolhnjgigaaGreatDoorBx12
import Derived.Test.YtcdcfolhnjgigaaGreatDoorBx7
import Derived.Deep.RegionWith
import Derived.Test.YtcdcfolhnjgigaaGreatDoorBx9
import Derived.Deep.RegionHeld3
namespace Go.Proofs.YtcdcfolhnjgigaaGreatDoor
open Go.RowKit

/-- A struct of seven cells, written cell by cell. -/
abbrev sev (w : World) (g : Nat) (b0 b1 b2 b3 b4 b5 b6 : Value) : World := ((((((w.setCell ⟨g, 0, none⟩ b0).setCell ⟨g, 1, none⟩ b1).setCell ⟨g, 2, none⟩ b2).setCell ⟨g, 3, none⟩ b3).setCell ⟨g, 4, none⟩ b4).setCell ⟨g, 5, none⟩ b5).setCell ⟨g, 6, none⟩ b6
theorem sev_new {w : World} {g : Nat} {t : TypeId} {fr : Nat × Nat} {a0 a1 a2 a3 a4 a5 a6 : Value} (hg : w.heap[g]? = some (.cells #[a0, a1, a2, a3, a4, a5, a6] t fr)) (b0 b1 b2 b3 b4 b5 b6 : Value) : (sev w g b0 b1 b2 b3 b4 b5 b6).heap[g]? = some (.cells #[b0, b1, b2, b3, b4, b5, b6] t fr) := by
  have h := row_setCell (row_setCell (row_setCell (row_setCell (row_setCell (row_setCell (row_setCell (i := 0) hg b0) (i := 1) b1) (i := 2) b2) (i := 3) b3) (i := 4) b4) (i := 5) b5) (i := 6) b6
  simpa using h
theorem sev_below {B : Nat} {w0 w : World} {g : Nat} (hb : Below B w0 w) (hB : B ≤ g) (b0 b1 b2 b3 b4 b5 b6 : Value) : Below B w0 (sev w g b0 b1 b2 b3 b4 b5 b6) :=
  ((((((hb.setCell (p := ⟨g, 0, none⟩) hB _).setCell (p := ⟨g, 1, none⟩) hB _).setCell (p := ⟨g, 2, none⟩) hB _).setCell (p := ⟨g, 3, none⟩) hB _).setCell (p := ⟨g, 4, none⟩) hB _).setCell (p := ⟨g, 5, none⟩) hB _).setCell (p := ⟨g, 6, none⟩) hB _

theorem sev_cell {w : World} {g : Nat} {p : Addr} (hp : p.block ≠ g) (b0 b1 b2 b3 b4 b5 b6 : Value) : (sev w g b0 b1 b2 b3 b4 b5 b6).cell? p = w.cell? p := by
  have h : ∀ (W : World) (j : Nat) (x : Value), (W.setCell ⟨g, j, none⟩ x).cell? p = W.cell? p := fun W j x => World.cell?_setCell_other _ _ _ _ (fun e => hp (by rw [← e]))
  simp only [sev, h]
/-- An error's own block is another one than a struct's. -/
theorem ErV.away {E : Nat → Addr} {w w' : World} {v : Value} {er : Er} {g : Nat} {m : Int} (h : ErV E w v er) (hc : w.cell? ⟨g, 1, none⟩ = some (.int .i64 m)) (hw : ∀ p : Addr, p.block ≠ g → w'.cell? p = w.cell? p) : ErV E w' v er := by
  cases er with
  | nil => exact h
  | bare c => exact h
  | loc c i =>
    obtain ⟨hc', fb, hv, h0, h1⟩ := h
    have hne : fb ≠ g := by rintro rfl; rw [hc] at h1; cases h1
    exact ⟨hc', fb, hv, (hw ⟨fb, 0, none⟩ hne).trans h0, (hw ⟨fb, 1, none⟩ hne).trans h1⟩
theorem Own.moved {α : Type} {enc : α → List Value} {sz : Nat} {w w' : World} {v : Value} {l : List α} {e : TypeId} {B : Nat} (hen : Enc enc sz) (h : Own enc e sz B w v l) (hw : ∀ p : Addr, B ≤ p.block → w'.cell? p = w.cell? p) : At enc sz w' v l := by
  rcases Nat.eq_zero_or_pos l.length with h0 | h0
  · obtain ⟨a, c, b, o, hv, ha, hc, hm, hx⟩ := h.at hen
    exact ⟨a, c, b, o, hv, ha, hc, hm, fun k x hk => absurd (List.getElem?_eq_some_iff.1 hk).1 (by omega)⟩
  · obtain ⟨g', cap, cur, rfl, hB, _, hc, hm, _, _⟩ := h.open h0
    refine ⟨_, cap, g', 0, rfl, fun _ => rfl, hc, hm, fun k x hk j u hu => ?_⟩
    have h1 := h.cells hen k x hk j u hu
    rw [Nat.zero_add]
    exact (hw ⟨g', k * sz + j, none⟩ hB).trans h1
theorem At.sev {w : World} {v : Value} {l : List Fl} {e : TypeId} {B g : Nat} {w' : World} (h : Own encF e 6 B w v l) (hb : Below w.heap.size w w') (hg : g < B) (b0 b1 b2 b3 b4 b5 b6 : Value) : FilesAt (sev w' g b0 b1 b2 b3 b4 b5 b6) v l := by
  exact Own.moved encF_enc (Own.below h hb) fun p hp => sev_cell (by omega) _ _ _ _ _ _ _
theorem right_mid {l : List Fl} (h : RightL l) : ∀ x ∈ l, midF x := fun x hx => by
  have := fileLine_len (h.ok x hx)
  unfold fileLine at this
  simp only [List.length_append, List.length_cons] at this
  exact ⟨by omega, by omega⟩
theorem snapRead_long {s : Str} (h : 20000 < s.length) : snapRead s = (zeroSn, .bare 2) := by unfold snapRead; rw [if_pos h]
theorem snapRead_none {s : Str} (h : ¬ 20000 < s.length) (hn : headAt s = none) : snapRead s = (zeroSn, .bare 1) := by unfold snapRead; rw [if_neg h, hn]
theorem snapRead_some {s : Str} {x : Sn} {sum : Int} (h : ¬ 20000 < s.length) (hn : headAt s = some (x, sum)) : snapRead s = bodyRead x sum (Lib.cut s [10]).2.1 := by unfold snapRead; rw [if_neg h, hn]
theorem headOf_len {l : List Str} (h : l.length ≠ 8) : headOf l = none := by
  unfold headOf
  split
  · exact absurd rfl h
  · rfl
theorem headOf_bad {t a b c d e o g : Str} (h : t ≠ kSnap) : headOf [t, a, b, c, d, e, o, g] = none := by simp only [headOf, if_neg h]
theorem headOf_nil {a b c d e o g : Str} (h : numsOf [a, b, c, d, e, g] = none) : headOf [kSnap, a, b, c, d, e, o, g] = none := by simp only [headOf, if_true, h]
theorem headOf_six {a b c d e o g : Str} {n0 n1 n2 n3 n4 n5 : Int} (h : numsOf [a, b, c, d, e, g] = some [n0, n1, n2, n3, n4, n5]) : headOf [kSnap, a, b, c, d, e, o, g] = some (⟨n0, n1, n2, n3, n4, o, []⟩, n5) := by simp only [headOf, if_true, h]
theorem eight_strs {l : List Str} (h : l.length = 8) : ∃ t a b c d e o g, l = [t, a, b, c, d, e, o, g] := by
  match l, h with
  | [t, a, b, c, d, e, o, g], _ => exact ⟨t, a, b, c, d, e, o, g, rfl⟩
theorem six_ints {l : List Int} (h : l.length = 6) : ∃ a b c d e f, l = [a, b, c, d, e, f] := by
  match l, h with
  | [a, b, c, d, e, f], _ => exact ⟨a, b, c, d, e, f, rfl⟩

abbrev z7 : Array Value := #[.int .i64 0, .int .i64 0, .int .i64 0, .int .i64 0, .int .i64 0, S [], .slice none 0 0]
set_option maxHeartbeats 2000000 in
set_option maxRecDepth 20000 in
theorem snapRead_any (E : Nat → Addr) (B : Nat) (s : Str) (w : World) (hE : Errs [1, 2, 4, 5, 8, 9, 10] E B w) (hT : LNum B w) (hM : LMax B w) (hs : s.length ≤ 10000 ∨ 20000 < s.length) (hs2 : s.length ≤ 100000) :
    Calls Tryz.prog 40 #[S s] w fun e w' => ∃ u ev, e = .returned (.tuple #[snapV (snapRead s).1 u, ev]) ∧ FilesAt w' u (snapRead s).1.files ∧ ErV E w' ev (snapRead s).2 ∧ Below w.heap.size w w' := by
  have hBw := hE.le
  have hif := isIfaceE
  have hba : Below w.heap.size w (w.alloc (.cells #[.int .i64 0, .int .i64 0, .int .i64 0, .int .i64 0, .int .i64 0, S [], .slice none 0 0] 58)) := (Below.refl _ _).alloc (Nat.le_refl _) _
  have hcs := fun w6 (h : Below (w.alloc (.cells #[.int .i64 0, .int .i64 0, .int .i64 0, .int .i64 0, .int .i64 0, S [], .slice none 0 0] 58)).heap.size (w.alloc (.cells #[.int .i64 0, .int .i64 0, .int .i64 0, .int .i64 0, .int .i64 0, S [], .slice none 0 0] 58)) w6) => snapCells (s := zeroSn) (v := .slice none 0 0) h
  have CZ := Lib.hid hcs; clear hcs
  have hhg := fun w6 (h : Below (w.alloc (.cells #[.int .i64 0, .int .i64 0, .int .i64 0, .int .i64 0, .int .i64 0, S [], .slice none 0 0] 58)).heap.size (w.alloc (.cells #[.int .i64 0, .int .i64 0, .int .i64 0, .int .i64 0, .int .i64 0, S [], .slice none 0 0] 58)) w6) => (h.block w.heap.size (by simp)).trans (heap_alloc_new w (.cells #[.int .i64 0, .int .i64 0, .int .i64 0, .int .i64 0, .int .i64 0, S [], .slice none 0 0] 58))
  have HG := Lib.hid hhg; clear hhg
  have V1 := fun w6 (h : Below w.heap.size w w6) => (hE.below' h hBw).var 1 (by decide)
  have V2 := fun w6 (h : Below w.heap.size w w6) => (hE.below' h hBw).var 2 (by decide)
  have V10 := fun w6 (h : Below w.heap.size w w6) => (hE.below' h hBw).var 10 (by decide)
  simp only [errG] at V1 V2 V10
  have U1 := Lib.hid V1; have U2 := Lib.hid V2; have U10 := Lib.hid V10
  clear V1 V2 V10
  have hg1 : (¬ (2 = w.heap.size)) ∧ ¬ (w.heap.size = 2) := by
    have h := (hE.lt 1 (by decide)).2
    have h1 : errG 1 = 2 := rfl
    rw [h1] at h; omega
  have hg2 : (¬ (1 = w.heap.size)) ∧ ¬ (w.heap.size = 1) := by
    have h := (hE.lt 2 (by decide)).2
    have h1 : errG 2 = 1 := rfl
    rw [h1] at h; omega
  have hg10 : (¬ (7 = w.heap.size)) ∧ ¬ (w.heap.size = 7) := by
    have h := (hE.lt 10 (by decide)).2
    have h1 : errG 10 = 7 := rfl
    rw [h1] at h; omega
  obtain ⟨n11, n12⟩ := hg1; obtain ⟨n21, n22⟩ := hg2; obtain ⟨n101, n102⟩ := hg10
  have hrd := fun (h : 20000 < s.length) => snapRead_long h
  have hrn := fun (h : ¬ 20000 < s.length) (hn : headAt s = none) => snapRead_none h hn
  have hrs := fun (h : ¬ 20000 < s.length) x m (hn : headAt s = some (x, m)) => snapRead_some h hn
  have hha : headAt s = if (Lib.cut s [10]).2.2 = true then headOf (cutAt 32 (Lib.cut s [10]).1) else none := rfl
  have HRD := Lib.hid hrd; have HRN := Lib.hid hrn; have HRS := Lib.hid hrs; have HHA := Lib.hid hha
  clear hrd hrn hrs hha
  have hcut := fun W (h : LMax B W) => cut1_any 10 B s W h hs2
  have hcl := (cut_len s [10])
  have HCut := Lib.hid hcut; clear hcut
  by_cases hlong : 20000 < s.length
  · have g1 : (20000 : Int) < s.length := by omega
    have HF := Lib.hid (HRD.out hlong)
    clear hlong hs
    have v2 := U2.out _ hba
    obtain ⟨c0, c1, c2, c3, c4, c5, c6⟩ := CZ.out _ (Below.refl _ _)
    have hgz := HG.out _ (Below.refl _ _)
    go_enter Tryz.func40, Tryz.ntmps40
    go_wp2_with fail
    generalize w.alloc (.cells #[.int .i64 0, .int .i64 0, .int .i64 0, .int .i64 0, .int .i64 0, S [], .slice none 0 0] 58) = w1 at *
    have fz : ∀ j, w1.frozen? ⟨w.heap.size, j, none⟩ = false := fun j => frozen_row hgz
    have f0 := fz 0; have f1 := fz 1; have f2 := fz 2; have f3 := fz 3; have f4 := fz 4; have f5 := fz 5; have f6 := fz 6
    clear fz
    have HGz := Lib.hid hgz; clear hgz
    go_region_law (fail)
    all_goals
      go_wp2_with fail
      refine bodyPost_ret (ret_row rfl _ _ w.heap.size 58 z7 (0, 0) _ rfl ?_ Tryz.underlying58 rfl (by kernel_rfl)) rfl ⟨.slice none 0 0, .iface 320 (.pointer (some (E 2))), ?_, ?_, ?_, ?_⟩
      · rw [World.heap_drew]; exact sev_new HGz.out _ _ _ _ _ _ _
      · rw [HF.out]; rfl
      · rw [HF.out]; exact At.nil _ _ _
      · rw [HF.out]; exact ⟨by decide, rfl⟩
      · exact Below.drew (sev_below hba (Nat.le_refl _) _ _ _ _ _ _ _)
  have g1 : decide ((20000 : Int) < s.length) = false := by simp; omega
  have hs10 : s.length ≤ 10000 := hs.resolve_right hlong
  clear hs
  go_enter Tryz.func40, Tryz.ntmps40
  go_wp2_with fail
  generalize w.alloc (.cells #[.int .i64 0, .int .i64 0, .int .i64 0, .int .i64 0, .int .i64 0, S [], .slice none 0 0] 58) = w1 at *
  refine (HCut.out _ (hM.below' hba hBw)).mono ?_
  rintro e w2 ⟨rfl, hb2⟩
  have hb2' := hba.trans (hb2.mono hba.size)
  generalize (Lib.cut s [10]).1 = h at *
  generalize (Lib.cut s [10]).2.1 = body at *
  generalize (Lib.cut s [10]).2.2 = is at *
  have hhl := hcl.1; have hbl := hcl.2
  have hsp := split1_any B h 32 w2 (hM.below' hb2' hBw) (by omega)
  have hwm : ∀ x ∈ cutAt 32 h, x.length ≤ 10000 := fun x hx => by have := cutAt_mem_len (c := 32) hx; omega
  have hwl : (cutAt 32 h).length ≤ 10001 := by
    rw [cutAt_length]
    have h2 : h.count 32 ≤ h.length := List.count_le_length
    omega
  generalize cutAt 32 h = W at *
  have HWm := Lib.hid hwm; clear hwm hcl
  have hways : (headAt s = none ∧ ((is = false) ∨ (is = true ∧ ((W.length : Int) != 8) = true) ∨ (is = true ∧ ∃ t a b c d e o g, W = [t, a, b, c, d, e, o, g] ∧ t ≠ kSnap))) ∨
      (is = true ∧ ∃ a b c d e o g, W = [kSnap, a, b, c, d, e, o, g]) := by
    cases is with
    | false => exact .inl ⟨by rw [HHA.out]; rfl, .inl rfl⟩
    | true =>
      by_cases h8 : W.length = 8
      · obtain ⟨t, a, b, c, d, e, o, g, rfl⟩ := eight_strs h8
        by_cases ht : t = kSnap
        · subst ht; exact .inr ⟨rfl, a, b, c, d, e, o, g, rfl⟩
        · exact .inl ⟨by rw [HHA.out, if_pos rfl]; exact headOf_bad ht, .inr (.inr ⟨rfl, t, a, b, c, d, e, o, g, rfl, ht⟩)⟩
      · exact .inl ⟨by rw [HHA.out, if_pos rfl, headOf_len h8], .inr (.inl ⟨rfl, by simp; omega⟩)⟩
  rcases hways with ⟨hnone, hways⟩ | ⟨rfl, a, b, c, d, e, o, g, rfl⟩
  · have HF := Lib.hid (HRN.out hlong hnone)
    clear hnone hlong HHA
    go_wp2_with fail
    refine hsp.mono ?_
    rintro e w3 ⟨rfl, hown, hb3⟩
    clear hsp
    have hb31 := hb2.trans (hb3.mono hb2.size)
    have hb3' := hb2'.trans (hb3.mono hb2'.size)
    have v1 := U1.out _ hb3'
    obtain ⟨c0, c1, c2, c3, c4, c5, c6⟩ := CZ.out _ hb31
    have hgz := HG.out _ hb31
    have fz : ∀ j, w3.frozen? ⟨w.heap.size, j, none⟩ = false := fun j => frozen_row hgz
    have f0 := fz 0; have f1 := fz 1; have f2 := fz 2; have f3 := fz 3; have f4 := fz 4; have f5 := fz 5; have f6 := fz 6
    have HGz := Lib.hid hgz
    clear fz hgz
    have hx := hown.cells1 (f := S) encS_enc (fun _ => rfl)
    rcases hways with rfl | ⟨rfl, g8⟩ | ⟨rfl, t, a, b, c, d, e, o, g, rfl, ht⟩
    case' inr.inr =>
      have x0 := hx 0 t rfl
      have gt : (t == kSnap) = false := by simpa using ht
      have ix := idx_at (P := Tryz.prog) (c := 8) (o := 0) (b := w2.heap.size) (n := 8) 1 Tryz.underlying115 szStr (fun _ => rfl) 0 (by decide)
      simp only [Nat.mul_one, Nat.zero_add] at ix
      have e0 : ((0 : Nat) : Int) = 0 := rfl
      rw [e0] at ix
      clear ht e0
      simp only [List.length_cons, List.length_nil, Nat.zero_add, Nat.reduceAdd]
    all_goals
      clear hx hown
      go_wp2_with fail
      go_region_law (fail)
      all_goals
        go_wp2_with fail
        refine bodyPost_ret (ret_row rfl _ _ w.heap.size 58 z7 (0, 0) _ rfl ?_ Tryz.underlying58 rfl (by kernel_rfl)) rfl ⟨.slice none 0 0, .iface 320 (.pointer (some (E 1))), ?_, ?_, ?_, ?_⟩
        · rw [World.heap_drew]; exact sev_new HGz.out _ _ _ _ _ _ _
        · rw [HF.out]; rfl
        · rw [HF.out]; exact At.nil _ _ _
        · rw [HF.out]; exact ⟨by decide, rfl⟩
        · exact Below.drew (sev_below hb3' (Nat.le_refl _) _ _ _ _ _ _ _)
  have hHA : headAt s = headOf [kSnap, a, b, c, d, e, o, g] := by rw [HHA.out, if_pos rfl]
  have HH := Lib.hid hHA; clear hHA HHA
  have HRN' := Lib.hid (fun (hn : headAt s = none) => HRN.out hlong hn)
  have HRS' := Lib.hid (fun x m (hn : headAt s = some (x, m)) => HRS.out hlong x m hn)
  clear HRN HRS hlong
  simp only [List.length_cons, List.length_nil, Nat.zero_add, Nat.reduceAdd] at hsp
  go_wp2_with fail
  refine hsp.mono ?_
  rintro e' w3 ⟨rfl, hown, hb3⟩
  clear hsp
  have hb31 := hb2.trans (hb3.mono hb2.size)
  have hb3' := hb2'.trans (hb3.mono hb2'.size)
  have hx := hown.cells1 (f := S) encS_enc (fun _ => rfl)
  have x0 := hx 0 kSnap rfl
  have x6 := hx 6 o rfl
  have y1 := hx 1 a rfl; have y2 := hx 2 b rfl; have y3 := hx 3 c rfl; have y4 := hx 4 d rfl; have y5 := hx 5 e rfl; have y7 := hx 7 g rfl
  have ix := idx_at (P := Tryz.prog) (c := 8) (o := 0) (b := w2.heap.size) (n := 8) 1 Tryz.underlying115 szStr (fun _ => rfl) 0 (by decide)
  simp only [Nat.mul_one, Nat.zero_add] at ix
  have e0 : ((0 : Nat) : Int) = 0 := rfl
  rw [e0] at ix
  have ix6 := idx_at (P := Tryz.prog) (c := 8) (o := 0) (b := w2.heap.size) (n := 8) 1 Tryz.underlying115 szStr (fun _ => rfl) 6 (by decide)
  simp only [Nat.mul_one, Nat.zero_add] at ix6
  have e6 : ((6 : Nat) : Int) = 6 := rfl
  rw [e6] at ix6
  have IX6 := Lib.hid ix6
  clear e0 e6 ix6
  have hat1 : StrsAt w3 (.slice (some ⟨w2.heap.size, 1, none⟩) 5 7) [a, b, c, d, e] := ⟨_, 7, w2.heap.size, 1, rfl, fun _ => rfl, by simp, by decide, fun k x hk j u hu => by
    have := hown.cells encS_enc (k + 1) x (by simpa using (List.getElem?_append_left (l₂ := [o, g]) (List.getElem?_eq_some_iff.1 hk).1).trans hk) j u hu
    rw [show 1 + k * 1 + j = (k + 1) * 1 + j by omega]; exact this⟩
  have hat2 : StrsAt w3 (.slice (some ⟨w2.heap.size, 7, none⟩) 1 1) [g] := ⟨_, 1, w2.heap.size, 7, rfl, fun _ => rfl, by simp, by decide, fun k x hk j u hu => by
    have hk0 : k = 0 := by have := (List.getElem?_eq_some_iff.1 hk).1; simp at this; omega
    subst hk0
    have := hown.cells encS_enc 7 x (by simpa using hk) j u hu
    simpa using this⟩
  have hr1 : ∀ W, (Instr.slice 115 (.slice (some ⟨w2.heap.size, 0, none⟩) 8 8) (some (.int .i64 1)) (some (.int .i64 6)) none).run Tryz.prog W = .ok (.slice (some ⟨w2.heap.size, 1, none⟩) 5 7) W := fun W => by
    simp [Instr.slice, Instr.sliceBounds, run_underlying Tryz.underlying115, go_sem]
  have hr2 : ∀ W, (Instr.slice 115 (.slice (some ⟨w2.heap.size, 0, none⟩) 8 8) (some (.int .i64 7)) none none).run Tryz.prog W = .ok (.slice (some ⟨w2.heap.size, 7, none⟩) 1 1) W := fun W => by
    simp [Instr.slice, Instr.sliceBounds, run_underlying Tryz.underlying115, go_sem]
  clear hx hown
  have hbc : Below w3.heap.size w3 (w3.drew.alloc (.cells #[.slice (some ⟨w2.heap.size, 1, none⟩) 5 7, .slice (some ⟨w2.heap.size, 7, none⟩) 1 1] 115)) := (Below.refl _ _).drew.alloc (Nat.le_refl _) _
  have hco := concat2_any _ _ [a, b, c, d, e] [g] w3.heap.size 2 (w3.drew.alloc (.cells #[.slice (some ⟨w2.heap.size, 1, none⟩) 5 7, .slice (some ⟨w2.heap.size, 7, none⟩) 1 1] 115)) (hat1.below hbc) (hat2.below hbc)
    (newCell (w := w3.drew) (Below.refl _ _) 0 rfl) (newCell (w := w3.drew) (Below.refl _ _) 1 rfl) (by decide) (by decide) (by simp) (by simp)
  have HCo := Lib.hid hco; clear hco hat1 hat2
  have HWn : Hid (∀ x ∈ [a, b, c, d, e, g], x.length ≤ 100000) := Lib.hid fun x hx => by
    have := HWm.out x (by
      simp only [List.mem_cons, List.not_mem_nil, or_false] at hx ⊢
      rcases hx with h | h | h | h | h | h <;> simp [h])
    omega
  go_wp2_with fail
  go_region_with (first | (go_at_call 107; refine HCo.out.mono ?_; rintro e' w4 ⟨vc, rfl, hvc, hb4⟩; have hb4' := hb3'.trans ((hbc.trans (hb4.mono hbc.size)).mono hb3'.size); have hat4 : StrsAt w4 vc [a, b, c, d, e, g] := hvc.at encS_enc; clear hvc) | (go_at_call 89; refine (numbers_any B _ [a, b, c, d, e, g] _ (hT.below' hb4' hBw) hat4 (by simp) (HWn.out)).mono ?_; rintro e' w5 ⟨v', rfl, hv1, hv2, hb5⟩))
  have hb35 := hbc.trans ((hb4.trans (hb5.mono hb4.size)).mono hbc.size)
  have hb5' := hb3'.trans (hb35.mono hb3'.size)
  have hb51 := hb31.trans (hb35.mono hb31.size)
  have x6 := (hb35.cell (World.block_lt_of_cell? w3 _ x6)).trans x6
  clear ix x0 y1 y2 y3 y4 y5 y7 hr1 hr2 HCo hat4
  have v1 := U1.out _ hb5'
  cases hn : numsOf [a, b, c, d, e, g] with
  | none =>
    rw [hn] at hv2
    obtain rfl := hv2 rfl
    have HF := Lib.hid (HRN'.out (HH.out.trans (headOf_nil hn)))
    clear hn hv1 hv2
    simp only [Option.isSome_none]
    obtain ⟨c0, c1, c2, c3, c4, c5, c6⟩ := CZ.out _ hb51
    have hgz := HG.out _ hb51
    have fz : ∀ j, w5.frozen? ⟨w.heap.size, j, none⟩ = false := fun j => frozen_row hgz
    have f0 := fz 0; have f1 := fz 1; have f2 := fz 2; have f3 := fz 3; have f4 := fz 4; have f5 := fz 5; have f6 := fz 6
    have HGz := Lib.hid hgz
    clear fz hgz
    go_wp2_with fail
    go_region_law (fail)
    all_goals
      go_wp2_with fail
      refine bodyPost_ret (ret_row rfl _ _ w.heap.size 58 z7 (0, 0) _ rfl ?_ Tryz.underlying58 rfl (by kernel_rfl)) rfl ⟨.slice none 0 0, .iface 320 (.pointer (some (E 1))), ?_, ?_, ?_, ?_⟩
      · rw [World.heap_drew]; exact sev_new HGz.out _ _ _ _ _ _ _
      · rw [HF.out]; rfl
      · rw [HF.out]; exact At.nil _ _ _
      · rw [HF.out]; exact ⟨by decide, rfl⟩
      · exact Below.drew (sev_below hb5' (Nat.le_refl _) _ _ _ _ _ _ _)
  | some ns =>
    have hown := hv1 ns hn
    have hnl := mapM_len _ hn
    obtain ⟨n0, n1, n2, n3, n4, n5, rfl⟩ := six_ints (l := ns) (by simpa using hnl)
    have hh6 := HH.out.trans (headOf_six (o := o) hn)
    have HF0 := Lib.hid (HRS'.out _ _ hh6)
    clear hn hv1 hv2 hnl hh6
    simp only [Option.isSome_some]
    obtain ⟨an, cn, bn, on, hvn, han, hcn, hcmn, hxn⟩ := hown.at encI_enc
    subst hvn
    obtain rfl := han (by simp)
    have z0 := hxn 0 _ rfl 0 _ rfl
    have z1 := hxn 1 _ rfl 0 _ rfl
    have z2 := hxn 2 _ rfl 0 _ rfl
    have z3 := hxn 3 _ rfl 0 _ rfl
    have z4 := hxn 4 _ rfl 0 _ rfl
    have z5 := hxn 5 _ rfl 0 _ rfl
    simp only [Nat.mul_one, Nat.add_zero] at z0 z1 z2 z3 z4 z5
    have hl6 : [n0, n1, n2, n3, n4, n5].length = 6 := rfl
    rw [hl6]
    clear hxn hown han hcn hcmn hl6
    have KS := Lib.hid (fun W (h : Below w5.heap.size w5 W) => (⟨(h.cell (World.block_lt_of_cell? w5 _ x6)).trans x6, (h.cell (World.block_lt_of_cell? w5 _ z0)).trans z0, (h.cell (World.block_lt_of_cell? w5 _ z1)).trans z1, (h.cell (World.block_lt_of_cell? w5 _ z2)).trans z2, (h.cell (World.block_lt_of_cell? w5 _ z3)).trans z3, (h.cell (World.block_lt_of_cell? w5 _ z4)).trans z4, (h.cell (World.block_lt_of_cell? w5 _ z5)).trans z5⟩ : _ ∧ _ ∧ _ ∧ _ ∧ _ ∧ _ ∧ _))
    clear x6 z0 z1 z2 z3 z4 v1
    have hsm := fun W => sum_any body W (by omega)
    have hsl := sumOf_lt body
    have HBR : Hid (∀ x m, bodyRead x m body = if m ≠ sumOf body then (zeroSn, .bare 10) else if listReadE body ≠ .nil then (zeroSn, listReadE body) else if snapCheck { x with files := listReadL body } ≠ .nil then (zeroSn, snapCheck { x with files := listReadL body }) else ({ x with files := listReadL body }, .nil)) := Lib.hid fun _ _ => rfl
    generalize sumOf body = sb at *
    have hwr : IntKind.i64.wrap (sb : Int) = sb := by rw [IntKind.wrap_i64]; omega
    have HSm := Lib.hid hsm; clear hsm
    have hbd : Below w5.heap.size w5 w5.drew := (Below.refl _ _).drew
    have hb5d := hb5'.drew
    by_cases hsum : n5 = sb
    case neg =>
      have gs : (n5 != (sb : Int)) = true := by simpa using hsum
      have HF : Hid (snapRead s = (zeroSn, .bare 10)) := Lib.hid (by rw [HF0.out, HBR.out, if_pos hsum])
      clear hsum HF0
      go_wp2_with fail
      go_region_held3 (fun w' => w'.cell? ⟨bn, on + 5, none⟩ = some (.int .i64 n5)) (exact z5) (first | (go_at_call 98; refine (HSm.out _).mono ?_; rintro e' w6 ⟨rfl, hb6⟩; have z5' := (hb6.cell (World.block_lt_of_cell? _ _ z5)).trans z5; clear z5; have z5 := z5'; clear z5'))
      have hb6' := hb5d.trans (hb6.mono hb5d.size)
      have hb61 := (hb51.drew).trans (hb6.mono (hb51.drew).size)
      have v10 := U10.out _ hb6'
      obtain ⟨c0, c1, c2, c3, c4, c5, c6⟩ := CZ.out _ hb61
      have hgz := HG.out _ hb61
      have fz : ∀ j, w6.frozen? ⟨w.heap.size, j, none⟩ = false := fun j => frozen_row hgz
      have f0 := fz 0; have f1 := fz 1; have f2 := fz 2; have f3 := fz 3; have f4 := fz 4; have f5 := fz 5; have f6 := fz 6
      have HGz := Lib.hid hgz
      clear fz hgz
      go_wp2_with fail
      go_region_law (fail)
      all_goals
        go_wp2_with fail
        refine bodyPost_ret (ret_row rfl _ _ w.heap.size 58 z7 (0, 0) _ rfl ?_ Tryz.underlying58 rfl (by kernel_rfl)) rfl ⟨.slice none 0 0, .iface 320 (.pointer (some (E 10))), ?_, ?_, ?_, ?_⟩
        · rw [World.heap_drew]; exact sev_new HGz.out _ _ _ _ _ _ _
        · rw [HF.out]; rfl
        · rw [HF.out]; exact At.nil _ _ _
        · rw [HF.out]; exact ⟨by decide, rfl⟩
        · exact Below.drew (sev_below hb6' (Nat.le_refl _) _ _ _ _ _ _ _)
    have gs : (n5 != (sb : Int)) = false := by simp [hsum]
    have HF1 : Hid (snapRead s = if listReadE body ≠ .nil then (zeroSn, listReadE body) else if snapCheck ⟨n0, n1, n2, n3, n4, o, listReadL body⟩ ≠ .nil then (zeroSn, snapCheck ⟨n0, n1, n2, n3, n4, o, listReadL body⟩) else (⟨n0, n1, n2, n3, n4, o, listReadL body⟩, .nil)) := Lib.hid (by rw [HF0.out, HBR.out, if_neg (fun h => h hsum)])
    clear hsum HF0 HBR
    go_wp2_with fail
    go_region_held3 (fun w' => w'.cell? ⟨bn, on + 5, none⟩ = some (.int .i64 n5)) (exact z5) (first | (go_at_call 98; refine (HSm.out _).mono ?_; rintro e' w6 ⟨rfl, hb6⟩; have z5' := (hb6.cell (World.block_lt_of_cell? _ _ z5)).trans z5; clear z5; have z5 := z5'; clear z5'))
    have hb6' := hb5d.trans (hb6.mono hb5d.size)
    have hb61 := (hb51.drew).trans (hb6.mono (hb51.drew).size)
    have hb56 := hbd.trans (hb6.mono hbd.size)
    have hlr := listRead_any E B body w6 ((hE.sub (by decide)).below' hb6' hBw) (hT.below' hb6' hBw) (hM.below' hb6' hBw) (by omega)
    have HLr := Lib.hid hlr; clear hlr z5 gs hwr
    go_wp2_with fail
    refine HLr.out.mono ?_
    rintro e' w7 ⟨u7, ev, rfl, hu7, hev, hb7⟩
    have hb7' := hb6'.trans (hb7.mono hb6'.size)
    have hb71 := hb61.trans (hb7.mono hb61.size)
    have hb57 := hb56.trans (hb7.mono hb56.size)
    by_cases hle : listReadE body = .nil
    case neg =>
      have HF : Hid (snapRead s = (zeroSn, listReadE body)) := Lib.hid (by rw [HF1.out, if_pos hle])
      obtain ⟨u, x, rfl⟩ := hev.iface hle
      have HEv := Lib.hid hev
      clear hle hev HF1
      obtain ⟨c0, c1, c2, c3, c4, c5, c6⟩ := CZ.out _ hb71
      have hgz := HG.out _ hb71
      have fz : ∀ j, w7.frozen? ⟨w.heap.size, j, none⟩ = false := fun j => frozen_row hgz
      have f0 := fz 0; have f1 := fz 1; have f2 := fz 2; have f3 := fz 3; have f4 := fz 4; have f5 := fz 5; have f6 := fz 6
      have HGz := Lib.hid hgz
      clear fz hgz
      go_wp2_with fail
      refine bodyPost_ret (ret_row rfl _ _ w.heap.size 58 z7 (0, 0) _ rfl (sev_new HGz.out _ _ _ _ _ _ _) Tryz.underlying58 rfl (by kernel_rfl)) rfl ⟨.slice none 0 0, .iface u x, ?_, ?_, ?_, sev_below hb7' (Nat.le_refl _) _ _ _ _ _ _ _⟩
      · rw [HF.out]; rfl
      · rw [HF.out]; exact At.nil _ _ _
      · rw [HF.out]; exact ErV.away HEv.out c1 (fun p hp => sev_cell hp _ _ _ _ _ _ _)
    rw [hle] at hev
    obtain rfl : ev = .nilIface := hev
    have HF2 : Hid (snapRead s = if snapCheck ⟨n0, n1, n2, n3, n4, o, listReadL body⟩ ≠ .nil then (zeroSn, snapCheck ⟨n0, n1, n2, n3, n4, o, listReadL body⟩) else (⟨n0, n1, n2, n3, n4, o, listReadL body⟩, .nil)) := Lib.hid (by rw [HF1.out, if_neg (fun h => h hle)])
    have hmid := right_mid (listRead_right hle)
    clear hle HF1 HLr
    generalize listReadL body = fl at *
    obtain ⟨au, nu, cu, rfl⟩ : ∃ au nu cu, u7 = .slice au nu cu := by
      obtain ⟨a', c', h', -⟩ := (hu7.at encF_enc).form'
      exact ⟨_, _, _, h'⟩
    have HMid := Lib.hid hmid; clear hmid
    have KS7 := Lib.hid (fun W (h : Below w7.heap.size w7 W) => KS.out W (hb57.trans (h.mono hb57.size)))
    obtain ⟨x6, z0, z1, z2, z3, z4, -⟩ := KS7.out _ (Below.refl _ _)
    have hw6 : w.heap.size < w6.heap.size := by
      have h1 := hb61.size
      have h2 := (Array.getElem?_eq_some_iff.1 (HG.out _ (Below.refl _ _))).1
      omega
    go_wp2_with fail
    go_region_held3 (fun w' => w'.cell? ⟨w2.heap.size, 6, none⟩ = some (S o) ∧ w'.cell? ⟨bn, on, none⟩ = some (.int .i64 n0) ∧ w'.cell? ⟨bn, on + 1, none⟩ = some (.int .i64 n1) ∧ w'.cell? ⟨bn, on + 2, none⟩ = some (.int .i64 n2) ∧ w'.cell? ⟨bn, on + 3, none⟩ = some (.int .i64 n3) ∧ w'.cell? ⟨bn, on + 4, none⟩ = some (.int .i64 n4)) (first | exact ⟨x6, z0, z1, z2, z3, z4⟩ | (obtain ⟨q0, q1, q2, q3, q4, q5, -⟩ := KS7.out _ (((Below.refl _ _).alloc (Nat.le_refl _) _).drew); exact ⟨q0, q1, q2, q3, q4, q5⟩) | (obtain ⟨q0, q1, q2, q3, q4, q5, -⟩ := KS7.out _ ((Below.refl _ _).drew.alloc (Nat.le_refl _) _); exact ⟨q0, q1, q2, q3, q4, q5⟩)) (fail)
    have hb8 : Below w7.heap.size w7 (w7.alloc (.cells #[.int .i64 n0, .int .i64 n1, .int .i64 n2, .int .i64 n3, .int .i64 n4, S o, .slice au nu cu] 58)).drew := ((Below.refl _ _).alloc (Nat.le_refl _) _).drew
    have CF := Lib.hid (fun w9 (h : Below (w7.alloc (.cells #[.int .i64 n0, .int .i64 n1, .int .i64 n2, .int .i64 n3, .int .i64 n4, S o, .slice au nu cu] 58)).heap.size (w7.alloc (.cells #[.int .i64 n0, .int .i64 n1, .int .i64 n2, .int .i64 n3, .int .i64 n4, S o, .slice au nu cu] 58)).drew w9) => snapCells (s := ⟨n0, n1, n2, n3, n4, o, fl⟩) (v := .slice au nu cu) (t := 58) (((Below.refl _ _).drew).trans h))
    have hsz : (w7.alloc (.cells #[.int .i64 n0, .int .i64 n1, .int .i64 n2, .int .i64 n3, .int .i64 n4, S o, .slice au nu cu] 58)).heap.size = (w7.alloc (.cells #[.int .i64 n0, .int .i64 n1, .int .i64 n2, .int .i64 n3, .int .i64 n4, S o, .slice au nu cu] 58)).drew.heap.size := rfl
    rw [hsz] at CF
    generalize (w7.alloc (.cells #[.int .i64 n0, .int .i64 n1, .int .i64 n2, .int .i64 n3, .int .i64 n4, S o, .slice au nu cu] 58)).drew = w8 at *
    have hb8' := hb7'.trans (hb8.mono hb7'.size)
    have hb81 := hb71.trans (hb8.mono hb71.size)
    obtain ⟨k0, k1, k2, k3, k4, k5, k6⟩ := CF.out w8 (Below.refl _ _)
    have hfl8 : FilesAt w8 (.slice au nu cu) fl := (hu7.at encF_enc).below hb8
    have hck := snapCheck_any E B ⟨n0, n1, n2, n3, n4, o, fl⟩ (.slice au nu cu) w8 ((hE.sub (by decide)).below' hb8' hBw) (hT.below' hb8' hBw) (hM.below' hb8' hBw) hfl8 HMid.out
    have HCk := Lib.hid hck
    clear hck hfl8 x6 z0 z1 z2 z3 z4 hsz
    go_wp2_with fail
    refine HCk.out.mono ?_
    rintro e' w9 ⟨ev, rfl, hev, hb9⟩
    have hb9' := hb8'.trans (hb9.mono hb8'.size)
    have hb91 := hb81.trans (hb9.mono hb81.size)
    clear k0 k1 k2 k3 k4 k5 k6
    obtain ⟨k0, k1, k2, k3, k4, k5, k6⟩ := CF.out w9 hb9
    clear HCk
    obtain ⟨c0, c1, c2, c3, c4, c5, c6⟩ := CZ.out _ hb91
    have hgz := HG.out _ hb91
    have fz : ∀ j, w9.frozen? ⟨w.heap.size, j, none⟩ = false := fun j => frozen_row hgz
    have f0 := fz 0; have f1 := fz 1; have f2 := fz 2; have f3 := fz 3; have f4 := fz 4; have f5 := fz 5; have f6 := fz 6
    have HGz := Lib.hid hgz
    clear fz hgz
    by_cases hcn : snapCheck ⟨n0, n1, n2, n3, n4, o, fl⟩ = .nil
    case neg =>
      have HF : Hid (snapRead s = (zeroSn, snapCheck ⟨n0, n1, n2, n3, n4, o, fl⟩)) := Lib.hid (by rw [HF2.out, if_pos hcn])
      obtain ⟨u, x, rfl⟩ := hev.iface hcn
      have HEv := Lib.hid hev
      clear hcn hev HF2
      go_wp2_with fail
      refine bodyPost_ret (ret_row rfl _ _ w.heap.size 58 z7 (0, 0) _ rfl (sev_new HGz.out _ _ _ _ _ _ _) Tryz.underlying58 rfl (by kernel_rfl)) rfl ⟨.slice none 0 0, .iface u x, ?_, ?_, ?_, sev_below hb9' (Nat.le_refl _) _ _ _ _ _ _ _⟩
      · rw [HF.out]; rfl
      · rw [HF.out]; exact At.nil _ _ _
      · rw [HF.out]; exact ErV.away HEv.out c1 (fun p hp => sev_cell hp _ _ _ _ _ _ _)
    have HF : Hid (snapRead s = (⟨n0, n1, n2, n3, n4, o, fl⟩, .nil)) := Lib.hid (by rw [HF2.out, if_neg (fun h => h hcn)])
    rw [hcn] at hev
    obtain rfl : ev = .nilIface := hev
    clear hcn HF2
    go_wp2_with fail
    refine bodyPost_ret (ret_row rfl _ _ w.heap.size 58 #[.int .i64 n0, .int .i64 n1, .int .i64 n2, .int .i64 n3, .int .i64 n4, S o, .slice au nu cu] (0, 0) _ rfl (sev_new HGz.out _ _ _ _ _ _ _) Tryz.underlying58 rfl (by kernel_rfl)) rfl ⟨.slice au nu cu, .nilIface, ?_, ?_, ?_, sev_below hb9' (Nat.le_refl _) _ _ _ _ _ _ _⟩
    · rw [HF.out]; rfl
    · rw [HF.out]; exact At.sev hu7 (hb8.trans (hb9.mono hb8.size)) hw6 _ _ _ _ _ _ _
    · rw [HF.out]; rfl
end Go.Proofs.YtcdcfolhnjgigaaGreatDoor
namespace Go.Proofs.YtcdcfolhnjgigaaGreatDoor
open Go.RowKit

theorem fault_cell {fn : Func} {p : Tmp} (h : fn.results = #[.cell p 62]) {tmps : Array Value} {w : World} {g : Nat} {c q : Int} (hp : tmps.getD p undef = .pointer (some ⟨g, 0, none⟩)) (hg : w.heap[g]? = some (.cells #[.int .i64 c, .int .i64 q] 62 (0, 0))) :
    (results fn tmps).run Tryz.prog w = .ok (faultV c q) w :=
  results_cell_row h _ _ g 62 #[.int .i64 c, .int .i64 q] (0, 0) _ hp hg Tryz.underlying62 rfl (by kernel_rfl)
theorem listCheck_few {l : List Fl} (h : ¬ 60 < l.length) : listCheck l = firstErr (fileFault l) l.length := if_neg h
theorem fileFault_bad {l : List Fl} {k : Nat} {x : Fl} (hx : l[k]? = some x) (h : checkF x ≠ 0) : fileFault l k = checkF x := by unfold fileFault; rw [hx]; simp only; rw [if_pos h]
theorem fileFault_zero {l : List Fl} {x : Fl} (hx : l[0]? = some x) (h : checkF x = 0) : fileFault l 0 = 0 := by unfold fileFault; rw [hx]; simp only; rw [if_neg (by simpa using h), if_neg (by simp)]
theorem fileFault_ord {l : List Fl} {k : Nat} {x y : Fl} (hx : l[k]? = some x) (h : checkF x = 0) (h0 : 0 < k) (hy : l[k - 1]? = some y) (hc : cmpP x.path y.path ≤ 0) : fileFault l k = 9 := by
  unfold fileFault; rw [hx]; simp only; rw [if_neg (by simpa using h), if_pos ⟨h0, y, hy, hc⟩]
theorem fileFault_fine {l : List Fl} {k : Nat} {x y : Fl} (hx : l[k]? = some x) (h : checkF x = 0) (hy : l[k - 1]? = some y) (hc : ¬ cmpP x.path y.path ≤ 0) : fileFault l k = 0 := by
  unfold fileFault; rw [hx]; simp only; rw [if_neg (by simpa using h), if_neg]
  rintro ⟨_, g, hg, hle⟩
  rw [hy] at hg; cases hg; exact hc hle

set_option maxHeartbeats 2000000 in
set_option maxRecDepth 20000 in
theorem listFault_any (v : Value) (l : List Fl) (w : World) (hl : FilesAt w v l) (hs : ∀ x ∈ l, midF x) :
    Calls Tryz.prog 94 #[v] w fun e w' => e = .returned (faultOf (listCheck l)) ∧ Below w.heap.size w w' := by
  obtain ⟨a, c, b, o, rfl, ha, hc, hcm, hx⟩ := hl
  unfold maxLen at hcm
  have hba := (Below.refl w.heap.size w).alloc (Nat.le_refl _) (.cells #[.int .i64 0, .int .i64 0] 62)
  have hG := fun W (h : Below (w.alloc (.cells #[.int .i64 0, .int .i64 0] 62)).heap.size (w.alloc (.cells #[.int .i64 0, .int .i64 0] 62)) W) => ((h.block w.heap.size (by simp)).trans (heap_alloc_new w (.cells #[.int .i64 0, .int .i64 0] 62)) : W.heap[w.heap.size]? = some (.cells #[.int .i64 0, .int .i64 0] 62 (0, 0)))
  have HG := Lib.hid hG; clear hG
  have HS := Lib.hid hs; clear hs
  by_cases h60 : 60 < l.length
  · have g60 : (60 : Int) < (l.length : Int) := by omega
    have hsp : listCheck l = .bare 8 := if_pos h60
    have Hl := Lib.hid hsp; clear h60 hsp
    go_enter Tryz.func94, Tryz.ntmps94
    go_wp2_with fail
    refine (refBare_any 8 _).mono ?_
    rintro e w1 ⟨rfl, hb⟩
    have hg := HG.out _ hb
    have c0 : w1.cell? ⟨w.heap.size, 0, none⟩ = some (.int .i64 0) := by simp [World.cell?, hg]
    have c1 : w1.cell? ⟨w.heap.size, 1, none⟩ = some (.int .i64 0) := by simp [World.cell?, hg]
    have f0 : w1.frozen? ⟨w.heap.size, 0, none⟩ = false := by simp [World.frozen?, hg]
    have f1 : w1.frozen? ⟨w.heap.size, 1, none⟩ = false := by simp [World.frozen?, hg]
    have HGg := Lib.hid hg; clear hg
    unfold faultV
    go_wp2_with fail
    refine bodyPost_ret (fault_cell (g := w.heap.size) rfl rfl (set_two HGg.out _ _)) rfl ⟨by rw [Hl.out]; rfl, ?_⟩
    exact ((hba.trans (hb.mono hba.size)).setCell (by simp) _).setCell (by simp) _
  have g60 : decide ((60 : Int) < (l.length : Int)) = false := by simp; omega
  have hspec := listCheck_few h60
  have HF := Lib.hid hspec; clear hspec h60
  go_enter Tryz.func94, Tryz.ntmps94
  go_wp2_with fail
  generalize w.alloc (.cells #[.int .i64 0, .int .i64 0] 62) = w0 at *
  go_loopw [3] (fun i wr => ∃ k : Nat, k ≤ l.length ∧ i = .int .i64 k ∧ Hid (∀ j < k, fileFault l j = 0) ∧ Below w0.heap.size w0 wr) (fun i _ => l.length - (intOf i).toNat)
  case atStart => exact ⟨0, by omega, rfl, Lib.hid fun j hj => absurd hj (by omega), Below.refl _ _⟩
  case round =>
    obtain ⟨k, hk, rfl, hj, hb⟩ := hrel
    have hbw : Below w.heap.size w wr := hba.trans (hb.mono hba.size)
    by_cases hlt : k < l.length
    case neg =>
      obtain rfl : k = l.length := by omega
      have f : decide ((l.length : Int) < (l.length : Int)) = false := by simp
      go_wp2_with fail
      refine (refFine_any _).mono ?_
      rintro e w1 ⟨rfl, hb1⟩
      have hg := HG.out _ (hb.trans (hb1.mono hb.size))
      have c0 : w1.cell? ⟨w.heap.size, 0, none⟩ = some (.int .i64 0) := by simp [World.cell?, hg]
      have c1 : w1.cell? ⟨w.heap.size, 1, none⟩ = some (.int .i64 0) := by simp [World.cell?, hg]
      have f0 : w1.frozen? ⟨w.heap.size, 0, none⟩ = false := by simp [World.frozen?, hg]
      have f1 : w1.frozen? ⟨w.heap.size, 1, none⟩ = false := by simp [World.frozen?, hg]
      have HGg := Lib.hid hg; clear hg
      unfold faultV
      go_wp2_with fail
      refine bodyPost_ret (fault_cell (g := w.heap.size) rfl rfl (set_two HGg.out _ _)) rfl ⟨by rw [HF.out, firstErr_all hj.out]; rfl, ?_⟩
      exact ((hbw.trans (hb1.mono hbw.size)).setCell (by simp) _).setCell (by simp) _
    obtain ⟨x, hxk⟩ := get_ex hlt
    have CX := Lib.hid (fun W (h : Below w.heap.size w W) => flCells hx h hxk)
    obtain ⟨c0, c1, c2, c3, c4, c5⟩ := CX.out _ hbw
    have i1 := idx_at (c := c) 6 Tryz.underlying56 szFl ha k hlt
    have hk1 : (k : Int) < (l.length : Int) := by omega
    have hsx := HS.out x (List.mem_of_getElem? hxk)
    have hfe := fileError_any x wr hsx
    have HFe := Lib.hid hfe
    have Hx := Lib.hid hxk; clear hxk hfe
    by_cases hck : checkF x = 0
    case neg =>
      have hf := fileFault_bad Hx.out hck
      have HL : Hid (listCheck l = .loc (checkF x) k) := Lib.hid (HF.out.trans ((firstErr_hit hlt hj.out (by rw [hf]; exact hck)).trans (by rw [hf])))
      have g1 : (((checkF x : Nat) : Int) == 0) = false := by simpa using hck
      have g2 : (0 : Int) < ((checkF x : Nat) : Int) := by omega
      clear hf hck
      generalize checkF x = cx at *
      go_wp2_with fail
      refine HFe.out.mono ?_
      rintro e w1 ⟨rfl, hb1⟩
      have hg := HG.out _ (hb.trans (hb1.mono hb.size))
      clear c0 c1 c2 c3 c4 c5
      have c0 : w1.cell? ⟨w.heap.size, 0, none⟩ = some (.int .i64 0) := by simp [World.cell?, hg]
      have c1 : w1.cell? ⟨w.heap.size, 1, none⟩ = some (.int .i64 0) := by simp [World.cell?, hg]
      have f0 : w1.frozen? ⟨w.heap.size, 0, none⟩ = false := by simp [World.frozen?, hg]
      have f1 : w1.frozen? ⟨w.heap.size, 1, none⟩ = false := by simp [World.frozen?, hg]
      have HGg := Lib.hid hg; clear hg
      go_wp2_with fail
      refine bodyPost_ret (fault_cell (g := w.heap.size) rfl rfl (set_two HGg.out _ _)) rfl ⟨by rw [HL.out]; rfl, ?_⟩
      exact ((hbw.trans (hb1.mono hbw.size)).setCell (by simp) _).setCell (by simp) _
    have HK := Lib.hid hck
    rw [hck] at HFe
    clear hck
    by_cases h0 : k = 0
    · have gk : decide (0 < k) = false := by simp [h0]
      have Hf : Hid (fileFault l 0 = 0) := Lib.hid (fileFault_zero (h0 ▸ Hx.out) HK.out)
      have H0 := Lib.hid h0; clear h0
      go_wp2_with fail
      refine HFe.out.mono ?_
      rintro e w1 ⟨rfl, hb1⟩
      go_wp2_with fail
      go_roundw
      case rel => exact ⟨k + 1, by omega, by go_num, (Lib.hid fun j hj' => by
        obtain rfl : j = 0 := by have := H0.out; omega
        exact Hf.out), hb.trans (hb1.mono hb.size)⟩
      case measure => simp [intOf]; omega
    obtain ⟨y, hyk⟩ := get_ex (l := l) (k := k - 1) (by omega)
    have hsy := HS.out y (List.mem_of_getElem? hyk)
    have CY := Lib.hid (fun W (h : Below w.heap.size w W) => (flCells hx h hyk).1)
    have i2 := idx_at (c := c) 6 Tryz.underlying56 szFl ha (k - 1) (by omega)
    have hcast : ((k - 1 : Nat) : Int) = (k : Int) - 1 := by omega
    simp only [hcast] at i2
    have hk0 : 0 < k := by omega
    have gk : decide (0 < k) = true := decide_eq_true hk0
    have hk01 : (1 : Int) ≤ k := by omega
    have hk02 : (0 : Int) ≤ (k : Int) - 1 := by omega
    have hk03 : (k : Int) - 1 < l.length := by omega
    have hwk : IntKind.i64.wrap ((k : Int) - 1) = (k : Int) - 1 := by rw [IntKind.wrap_i64]; omega
    have hfo := fun h => fileFault_ord Hx.out HK.out hk0 hyk h
    have hff := fun h => fileFault_fine Hx.out HK.out hyk h
    have HOrd := Lib.hid hfo; have HFF := Lib.hid hff
    clear hfo hff hcast hyk h0
    have hC := fun W => isBehind_any x.path y.path W hsx.1 hsy.1
    obtain ⟨cv, hcv⟩ : ∃ cv, cmpP x.path y.path = cv := ⟨_, rfl⟩
    rw [hcv] at hC HOrd HFF
    clear hcv
    go_wp2_with fail
    refine HFe.out.mono ?_
    rintro e w1 ⟨rfl, hb1⟩
    have hb1' := hb.trans (hb1.mono hb.size)
    have hbw1 := hbw.trans (hb1.mono hbw.size)
    clear c0 c1 c2 c3 c4 c5
    have p0 := (CX.out _ hbw1.drew).1
    have d0 := CY.out _ hbw1.drew
    by_cases hle : cv ≤ 0
    · have hf := HOrd.out hle
      have HL : Hid (listCheck l = .loc 9 k) := Lib.hid (HF.out.trans ((firstErr_hit hlt hj.out (by rw [hf]; decide)).trans (by rw [hf])))
      have hcc : decide (0 < cv) = false := by simp; omega
      simp only [hcc] at hC
      have HC := Lib.hid hC
      clear hf hC hcc hle
      go_wp2_with fail
      go_region_held3 (fun w' => w'.cell? ⟨b, o + k * 6, none⟩ = some (S x.path) ∧ w'.cell? ⟨b, o + (k - 1) * 6, none⟩ = some (S y.path)) (exact ⟨p0, d0⟩) (first | (go_at_call 146; refine (HC.out _).mono ?_; rintro e w2 ⟨rfl, rfl⟩))
      have hg := HG.out _ hb1'
      have c0 : w1.cell? ⟨w.heap.size, 0, none⟩ = some (.int .i64 0) := by simp [World.cell?, hg]
      have c1 : w1.cell? ⟨w.heap.size, 1, none⟩ = some (.int .i64 0) := by simp [World.cell?, hg]
      have f0 : w1.frozen? ⟨w.heap.size, 0, none⟩ = false := by simp [World.frozen?, hg]
      have f1 : w1.frozen? ⟨w.heap.size, 1, none⟩ = false := by simp [World.frozen?, hg]
      have HGg := Lib.hid hg; clear hg
      go_wp2_with fail
      refine bodyPost_ret (fault_cell (g := w.heap.size) rfl rfl (set_two (w := w1.drew) HGg.out _ _)) rfl ⟨by rw [HL.out]; rfl, ?_⟩
      exact ((hbw1.drew).setCell (by simp) _).setCell (by simp) _
    · have hf := HFF.out (by omega)
      have Hf := Lib.hid hf; clear hf
      have hcc : decide (0 < cv) = true := by simp; omega
      simp only [hcc] at hC
      have HC := Lib.hid hC
      clear hC hcc hle
      go_wp2_with fail
      go_region_held3 (fun w' => w'.cell? ⟨b, o + k * 6, none⟩ = some (S x.path) ∧ w'.cell? ⟨b, o + (k - 1) * 6, none⟩ = some (S y.path)) (exact ⟨p0, d0⟩) (first | (go_at_call 146; refine (HC.out _).mono ?_; rintro e w2 ⟨rfl, rfl⟩))
      go_wp2_with fail
      go_roundw
      case rel => exact ⟨k + 1, by omega, by go_num, (Lib.hid fun j hj' => by
        rcases Nat.lt_or_ge j k with h | h
        · exact hj.out j h
        · obtain rfl : j = k := by omega
          exact Hf.out), hb1'.drew⟩
      case measure => simp [intOf]; omega

set_option maxHeartbeats 1000000 in
set_option maxRecDepth 20000 in
theorem refListText_any (v : Value) (l : List Fl) (w : World) (hl : FilesAt w v l) (hr : RightL l) :
    Calls Tryz.prog 103 #[v] w fun e w' => e = .returned (S (listText l)) ∧ Below w.heap.size w w' := by
  obtain ⟨a, c, b, o, rfl, ha, hc, hcm, hx⟩ := hl
  unfold maxLen at hcm
  have hlen := hr.len
  have HR := Lib.hid hr; clear hr
  go_enter Tryz.func103, Tryz.ntmps103
  go_wp2_with fail
  go_loopw [3, 4] (fun t i wr => ∃ k : Nat, k ≤ l.length ∧ i = .int .i64 k ∧ t = S (listText (l.take k)) ∧ Below w.heap.size w wr) (fun _ i _ => l.length - (intOf i).toNat)
  case atStart => exact ⟨0, by omega, rfl, rfl, Below.refl _ _⟩
  case round =>
    obtain ⟨k, hk, rfl, rfl, hb⟩ := hrel
    have hl4 := listText_len (l := l.take k) (fun y hy => HR.out.ok y (List.mem_of_mem_take hy))
    have hl5 : (l.take k).length ≤ 60 := by rw [List.length_take]; omega
    have hl6 : (listText (l.take k)).length ≤ 9060 := by omega
    clear hl4 hl5
    by_cases hlt : k < l.length
    case neg =>
      obtain rfl : k = l.length := by omega
      rw [List.take_length]
      have f : decide ((l.length : Int) < (l.length : Int)) = false := by simp
      go_wp2_with fail
      go_ret
      exact ⟨rfl, hb⟩
    obtain ⟨x, hxk⟩ := get_ex hlt
    obtain ⟨c0, c1, c2, c3, c4, c5⟩ := flCells hx hb hxk
    have i1 := idx_at (c := c) 6 Tryz.underlying56 szFl ha k hlt
    have hk1 : (k : Int) < (l.length : Int) := by omega
    have hxm := List.mem_of_getElem? hxk
    have hck := HR.out.ok x hxm
    have hll := fileLine_len hck
    have hft := refFileText_any x wr (right_mid' HR.out x hxm) hck
    have HFt := Lib.hid hft
    have hsn : listText (l.take (k + 1)) = listText (l.take k) ++ (fileLine x ++ [10]) := by rw [take_snoc' hxk, listText_snoc]
    have HSn := Lib.hid hsn
    clear hsn hft hck hxm hxk
    generalize fileLine x = fx at *
    generalize listText (l.take k) = tx at *
    go_wp2_with fail
    refine HFt.out.mono ?_
    rintro e w1 ⟨rfl, hb1⟩
    go_wp2_with fail
    go_roundw
    case rel => exact ⟨k + 1, by omega, by go_num, by rw [HSn.out]; apply congrArg Value.string; apply ByteArray.ext; simp, hb.trans (hb1.mono hb.size)⟩
    case measure => simp [intOf]; omega
end Go.Proofs.YtcdcfolhnjgigaaGreatDoor
