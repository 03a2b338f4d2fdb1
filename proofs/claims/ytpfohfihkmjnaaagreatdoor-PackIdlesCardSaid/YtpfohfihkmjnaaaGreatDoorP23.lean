/- deedboxlaw3.PackIdles: without its idle files a snap has the rows it has: the walk. Printed by gen_sc.py. From the row's condition on the listed variables to what the walks ask: the sentinels, and what errors.As reads. The builder with the row's listed variables and the world's shape both; slices of numbers that came in; the library's variables out of the condition. A slice that came in, of whatever elements; texts; files. Parameters that came in: a number, a text, a byte, a file by value; lists of five and six parameters. Snaps that came in: by value, and in a slice. Rows that came in. A slice of pieces that came in. -/
import Derived.Test.YtpfohfihkmjnaaaGreatDoorP20
import Derived.Test.YtpfohfihkmjnaaaGreatDoorP21
import Derived.Test.YtpfohfihkmjnaaaGreatDoorP22
import Derived.Test.YtpfohfihkmjnaaaGreatDoorP11
import Derived.Test.YtpfohfihkmjnaaaGreatDoorP10
import Derived.Test.YtpfohfihkmjnaaaGreatDoorP15
import Derived.Deep.DeepCutAuto
import Derived.Deep.RegionHeld3
import Derived.Deep.RegionLaw
import Derived.OwnWalk
import Derived.BigQuiet
import Derived.Test.YtpfohfihkmjnaaaGreatDoorP1
import Derived.LaidLaws
import Derived.LaidHandle
import Derived.Stop.LaidErr
import Derived.Test.YtpfohfihkmjnaaaGreatDoorP7
import Derived.HandedShaped
import Derived.OpenShut
import Derived.Carry
import Derived.Shelf.Vars
import Derived.ProofKit
import Derived.LaidMore
import Derived.Lay
import Derived.Test.YtpfohfihkmjnaaaGreatDoorP8
import Derived.Test.YtpfohfihkmjnaaaGreatDoorP9
import Derived.Test.YtpfohfihkmjnaaaGreatDoorP14
namespace Go.Proofs.YtpfohfihkmjnaaaGreatDoor
open Go.RowKit Go.Maps

theorem rowsL_bad' {os : List Ob} {s : Sn} {lo hi : Int} (h : rowsE os s lo hi ≠ .nil) : rowsL os s lo hi = [] := if_neg h
theorem rowsAt_snap {W : World} {g : Nat} {a0 a1 a2 a3 a4 : Int} {a5 : Str} {v u : Value} {l : List Rw} {t : TypeId} (h : W.heap[g]? = some (.cells #[.int .i64 a0, .int .i64 a1, .int .i64 a2, .int .i64 a3, .int .i64 a4, S a5, v] t (0, 0))) {av : Option Addr} {nv cv : Nat} (hv : v = .slice av nv cv) (x : Value) (hu : RowsAt W u l) :
    RowsAt (W.setCell ⟨g, 6, none⟩ x) u l := by
  obtain ⟨a, c, b, o, hv', ha, hc, hm, hx⟩ := hu
  refine ⟨a, c, b, o, hv', ha, hc, hm, fun k y hk j z hz => ?_⟩
  have hbA : b ≠ g := by
    rintro rfl
    have c1 := hx k y hk 0 _ rfl
    have c2 := hx k y hk 1 _ rfl
    rw [cell_of_row W _ _ _ _ (0, 0) h] at c1 c2
    rcases Nat.lt_or_ge (o + k * 3) 7 with h' | h'
    · have : o + k * 3 = 0 ∨ o + k * 3 = 1 ∨ o + k * 3 = 2 ∨ o + k * 3 = 3 ∨ o + k * 3 = 4 ∨ o + k * 3 = 5 ∨ o + k * 3 = 6 := by omega
      rcases this with e | e | e | e | e | e | e <;> rw [e] at c1 c2 <;> simp [hv] at c1 c2
    · rw [Array.getElem?_eq_none (by simp; omega)] at c1; cases c1
  rw [World.cell?_setCell_other _ _ _ _ (by intro e; have := congrArg Addr.block e; simp at this; omega)]
  exact hx k y hk j z hz
set_option maxHeartbeats 4000000 in
set_option maxRecDepth 20000 in
theorem packIdles_any (E : Nat → Addr) (B : Nat) (vp : Value) (l : List Pc) (v : Value) (s : Sn)  (w : World) (hE : Errs [1, 2, 3, 4, 5, 6, 7, 8, 9, 10, 12] E B w) (hT : LNum B w) (hM : LMax B w) (hlp : PiecesAt w vp l) (hh : HeldPc w l) (hl : FilesAt w v s.files) :
    Calls Tryz.prog 4 #[vp, snapV s v] w fun e w' => e = .returned (.bool true) ∧ Below w.heap.size w w' := by
  have hBw := hE.le
  have hif := isIfaceE
  have X := Lib.hid (fun W (h : Below w.heap.size w W) => (⟨hE.below' h hBw, hT.below' h hBw, hM.below' h hBw⟩ : Errs [1, 2, 3, 4, 5, 6, 7, 8, 9, 10, 12] E B W ∧ LNum B W ∧ LMax B W))
  have XF := Lib.hid (fun W (h : Below w.heap.size w W) => (⟨hlp.below h, hh.below h, hl.below h⟩ : PiecesAt W vp l ∧ HeldPc W l ∧ FilesAt W v s.files))
  obtain ⟨a, c, rfl, -, -⟩ := At.form' hl
  obtain ⟨ap, cp, rfl, -, -⟩ := At.form' hlp
  have hba : Below w.heap.size w (w.alloc (.cells #[.int .i64 s.id, .int .i64 s.parent, .int .i64 s.seq, .int .i64 s.day, .int .i64 s.index, S s.op, .slice a s.files.length c] 25)) := (Below.refl _ _).alloc (Nat.le_refl _) _
  have hg0 := heap_alloc_new w (.cells #[.int .i64 s.id, .int .i64 s.parent, .int .i64 s.seq, .int .i64 s.day, .int .i64 s.index, S s.op, .slice a s.files.length c] 25)
  have HG := Lib.hid (fun W (h : Below (w.alloc (.cells #[.int .i64 s.id, .int .i64 s.parent, .int .i64 s.seq, .int .i64 s.day, .int .i64 s.index, S s.op, .slice a s.files.length c] 25)).heap.size (w.alloc (.cells #[.int .i64 s.id, .int .i64 s.parent, .int .i64 s.seq, .int .i64 s.day, .int .i64 s.index, S s.op, .slice a s.files.length c] 25)) W) => rowKept hg0 h)
  have HSz := Lib.hid (Array.getElem?_eq_some_iff.1 hg0).1
  clear hE hT hM hlp hh hl hg0
  go_enter Tryz.func4, Tryz.ntmps4
  go_upto_region 1 with fail
  generalize w.alloc (.cells #[.int .i64 s.id, .int .i64 s.parent, .int .i64 s.seq, .int .i64 s.day, .int .i64 s.index, S s.op, .slice a s.files.length c] 25) = w0 at *
  have HSc := Lib.hid (packed_any E B w0 ((X.out _ hba).1.sub (by decide)) (X.out _ hba).2.1 (X.out _ hba).2.2)
  go_wp2_with fail
  refine HSc.out.mono ?_
  rintro e w1 ⟨rfl, hb1⟩
  have hbw1 := hba.trans (hb1.mono hba.size)
  have hlp := longPiecesD_any (.slice ap l.length cp) l w1 (XF.out _ hbw1).1 (XF.out _ hbw1).2.1
  clear HSc
  rcases Decidable.em (shortPcs l) with hsp | hsp
  case inr =>
    rw [decide_eq_false hsp, Bool.not_false] at hlp
    have HLp := Lib.hid hlp
    clear hsp hlp
    go_wp2_with fail
    refine HLp.out.mono ?_
    rintro e w2 ⟨rfl, rfl⟩
    go_wp2_with fail
    go_ret
    exact ⟨rfl, hbw1⟩
  rw [decide_eq_true hsp, Bool.not_true] at hlp
  have HLp := Lib.hid hlp
  have HSp := Lib.hid hsp
  clear hsp hlp
  obtain ⟨c0, c1, c2, c3, c4, c5, c6⟩ := snRow7 (HG.out _ hb1)
  have hls := longSnapD_any s _ w1 (XF.out _ hbw1).2.2
  rcases Decidable.em (shortS s) with hss | hss
  case inr =>
    rw [if_neg hss] at hls
    have HLs := Lib.hid hls
    clear hss hls
    go_wp2_with fail
    refine HLp.out.mono ?_
    rintro e w2 ⟨rfl, rfl⟩
    go_wp2_with fail
    refine HLs.out.mono ?_
    rintro e w2 ⟨rfl, hb2⟩
    go_wp2_with fail
    go_ret
    exact ⟨rfl, hbw1.trans (hb2.mono hbw1.size)⟩
  rw [if_pos hss] at hls
  have HLs := Lib.hid hls
  have HMs := Lib.hid hss.2.mid
  clear hss hls
  go_wp2_with fail
  refine HLp.out.mono ?_
  rintro e w2 ⟨rfl, rfl⟩
  go_wp2_with fail
  refine HLs.out.mono ?_
  rintro e w2 ⟨rfl, hb2⟩
  have hbw2 := hbw1.trans (hb2.mono hbw1.size)
  have hb02 := hb1.trans (hb2.mono hb1.size)
  clear c0 c1 c2 c3 c4 c5 c6 HLp HLs
  have HTa := Lib.hid (tableL_any E B _ l w2 ((X.out _ hbw2).1.sub (by decide)) (XF.out _ hbw2).1 (XF.out _ hbw2).2.1 HSp.out)
  have hTb := TbOk.of (l := l) (fun p hp => (HSp.out.2 p hp).2.2.1) (by have := HSp.out.1; omega)
  have HTn : Hid (l.length ≤ 15) := Lib.hid HSp.out.1
  obtain ⟨t, ht⟩ : ∃ t, tableTb l = t := ⟨_, rfl⟩
  rw [ht] at HTa hTb
  have HTb := Lib.hid hTb
  have HTx : Hid (∀ o ∈ t.1.objs, o.text.length ≤ 10000) := Lib.hid (fun o ho => by have := hTb.txt o ho; omega)
  clear ht hTb
  go_wp2_with fail
  refine HTa.out.mono ?_
  rintro e w3 ⟨sb, mb, xb, vm, u, rfl, htw, hfl⟩
  have hb23 := htw.bel
  have hbw3 := hbw2.trans (hb23.mono hbw2.size)
  have hb03 := hb02.trans (hb23.mono hb02.size)
  have HN : Hid (w.heap.size ≠ sb ∧ w.heap.size ≠ mb ∧ w.heap.size ≠ xb) := Lib.hid (by have h1 := HSz.out; have h2 := htw.h1; have h3 := htw.h2; have h4 := htw.h3; have h5 := hb02.size; omega)
  have HTw := Lib.hid (htw.base hbw2)
  have HFl := Lib.hid hfl
  obtain ⟨au, cu, rfl, -, -⟩ := At.form' hfl
  clear HTa htw hfl hb23
  have hg3 := HG.out _ hb03
  have f6 := frozen_row (i := 6) hg3
  have q6 : w3.cell? ⟨w.heap.size, 6, none⟩ = some (.slice a s.files.length c) := by rw [cell_of_row w3 _ _ _ _ (0, 0) hg3]; rfl
  have hgS := snap_set (u := .slice au t.2.length cu) hg3
  have htwS := HTw.out.away hg3 (Nat.le_refl _) HN.out.1 HN.out.2.1 HN.out.2.2 (i := 6) (.slice au t.2.length cu)
  have hflS := filesAt_snap hg3 rfl (.slice au t.2.length cu) HFl.out
  have hbwS := htwS.bel
  clear hg3 HTw HFl
  go_upto_region 8 with fail
  clear f6 q6
  generalize w3.setCell ⟨w.heap.size, 6, none⟩ (.slice au t.2.length cu) = w4 at *
  obtain ⟨s1, hs1⟩ : ∃ s1 : Sn, s1 = { s with files := t.2 } := ⟨_, rfl⟩
  have hf1 : s1.files = t.2 := by rw [hs1]
  have hgS1 : w4.heap[w.heap.size]? = some (.cells #[.int .i64 s1.id, .int .i64 s1.parent, .int .i64 s1.seq, .int .i64 s1.day, .int .i64 s1.index, S s1.op, .slice au t.2.length cu] 25 (0, 0)) := by rw [hs1]; exact hgS
  have HGS := Lib.hid (fun W (h : Below w4.heap.size w4 W) => rowKept hgS1 h)
  have HX4 := Lib.hid (fun W (h : Below w4.heap.size w4 W) => X.out W (hbwS.trans (h.mono hbwS.size)))
  have HFS := Lib.hid hflS
  have HStS := Lib.hid htwS.sto
  have HMi := Lib.hid HTb.out.mid
  have HF1 := Lib.hid hf1
  have HLt : Hid (t.2.length ≤ 15) := Lib.hid (by have h1 := HTb.out.len; have h2 := HTn.out; omega)
  have HOw := Lib.hid (ownSnap_any s1 (.slice au t.2.length cu) w4 (by rw [hf1]; exact HFS.out) (by rw [hf1]; have := HLt.out; omega))
  obtain ⟨c0, c1, c2, c3, c4, c5, c6⟩ := snRow7 (HGS.out w4 (Below.refl _ _))
  clear hs1 hf1 hgS hgS1 hflS htwS
  go_wp2_with fail
  refine HOw.out.mono ?_
  rintro e w5 ⟨u0, rfl, hu0, hb5⟩
  clear c0 c1 c2 c3 c4 c5 c6 HOw
  obtain ⟨a5, c5, rfl, -, -⟩ := At.form' hu0
  have HRo1 := Lib.hid (scanRows_any E B sb mb t.1 s1 _ iMin iMax w5 ((HX4.out _ hb5).1.sub (by decide)) (HX4.out _ hb5).2.1 (HX4.out _ hb5).2.2 (HStS.out.below hb5) HTx.out hu0 (by rw [HF1.out]; exact HMi.out))
  clear hu0
  go_wp2_with fail
  refine HRo1.out.mono ?_
  rintro e w6 ⟨u1, ev, rfl, hev, hu1, hb6⟩
  have hb46 := hb5.trans (hb6.mono hb5.size)
  clear HRo1
  by_cases hE : rowsE t.1.objs s1 iMin iMax = .nil
  case neg =>
    rw [rowsL_bad' hE] at hu1
    obtain ⟨t1, x1, rfl⟩ := hev.iface hE
    obtain ⟨a6, c6, rfl, -, -⟩ := At.form' hu1
    have hbw6 := hbwS.trans (hb46.mono hbwS.size)
    clear hE hu1 hev
    simp only [List.length_nil]
    go_wp2_with fail
    go_ret
    exact ⟨rfl, hbw6⟩
  rw [hE] at hev
  obtain rfl : ev = .nilIface := hev
  have HWo := Lib.hid (rows_without hE)
  have HRt := Lib.hid (by have := (rowsE_nil hE).1.lst; rw [HF1.out] at this; exact this)
  obtain ⟨A, hA⟩ : ∃ A, rowsL t.1.objs s1 iMin iMax = A := ⟨_, rfl⟩
  rw [hA] at HWo hu1
  obtain ⟨a6, c6, rfl, -, -⟩ := At.form' hu1
  have HU1 := Lib.hid hu1
  have HOf := Lib.hid (ownFiles_any (.slice au t.2.length cu) t.2 w6 (HFS.out.below hb46) (by have := HLt.out; omega))
  clear hE hA hu1
  go_wp2_with fail
  refine HOf.out.mono ?_
  rintro e w7 ⟨v7, rfl, hv7, hb7⟩
  have hb47 := hb46.trans (hb7.mono hb46.size)
  obtain ⟨a7, c7, rfl, -, -⟩ := At.form' (hv7.at encF_enc)
  have hid := packIdle_any E B _ t.2 w7 ((HX4.out _ hb47).1.sub (by decide)) (HX4.out _ hb47).2.1 (HX4.out _ hb47).2.2 (hv7.at encF_enc) HMi.out
  have hlc := (right_iff t.2).2 HRt.out
  have hia : idleA t.2 = idleL t.2 := if_pos hlc
  rw [hlc, hia] at hid
  have HId := Lib.hid hid
  clear hid hlc hia hv7 HOf
  go_wp2_with fail
  refine HId.out.mono ?_
  rintro e w8 ⟨u8, ev, rfl, hev, hu8, hb8⟩
  obtain rfl : ev = .nilIface := hev
  have hb48 := hb47.trans (hb8.mono hb47.size)
  have HU8 := Lib.hid (HU1.out.below (hb7.trans (hb8.mono hb7.size)))
  obtain ⟨ai, ci, bi, oi, rfl, hai, hci, hcmi, hxi⟩ := hu8
  unfold maxLen at hcmi
  have HXi := Lib.hid hxi
  have HNx := Lib.hid (fun k p => @idle_next t.2 HRt.out k p)
  have HEnd : Hid (remK t.2 ((idleL t.2).take (idleL t.2).length) = remK s1.files (idleL s1.files)) := Lib.hid (by rw [List.take_length, HF1.out])
  have HR0 : Hid (remK t.2 ((idleL t.2).take 0) = t.2) := Lib.hid (by rw [List.take_zero, remK_nil])
  have HMr := Lib.hid (fun ps => (fun x hx => HMi.out x (List.mem_filter.1 hx).1 : ∀ x ∈ remK t.2 ps, midF x))
  obtain ⟨I, hI⟩ : ∃ I, idleL t.2 = I := ⟨_, rfl⟩
  rw [hI] at HXi HNx HEnd HR0 hai hci ⊢
  clear hI hxi HId HU1
  go_wp2_with fail
  go_loopw [8, 12, 13, 14] (fun u i _ _ wr => ∃ (k : Nat) (vf : Value), k ≤ I.length ∧ i = .int .i64 k ∧ vf = u ∧ Hid (FilesAt wr vf (remK t.2 (I.take k))) ∧ Below w8.heap.size w8 wr) (fun _ i _ _ _ => I.length - (intOf i).toNat)
  case atStart => exact ⟨0, _, by omega, rfl, rfl, Lib.hid (by rw [HR0.out]; exact HFS.out.below hb48), Below.refl _ _⟩
  case round =>
    obtain ⟨k, vf, hk, rfl, rfl, hf, hb⟩ := hrel
    obtain ⟨wo, rfl⟩ : ∃ wo, wo = wr := ⟨wr, rfl⟩
    have hb4o := hb48.trans (hb.mono hb48.size)
    by_cases hlt : k < I.length
    case neg =>
      obtain rfl : k = I.length := by omega
      have f1 : decide ((I.length : Int) < (I.length : Int)) = false := by simp
      have hgo := HGS.out wo hb4o
      have f6 := frozen_row (i := 6) hgo
      have q6 : wo.cell? ⟨w.heap.size, 6, none⟩ = some (.slice au t.2.length cu) := by rw [cell_of_row wo _ _ _ _ (0, 0) hgo]; rfl
      have hfo := hf.out
      rw [HEnd.out] at hfo
      obtain ⟨s2, hs2⟩ : ∃ s2 : Sn, s2 = { s1 with files := remK s1.files (idleL s1.files) } := ⟨_, rfl⟩
      obtain ⟨F2, hF2⟩ : ∃ F2, remK s1.files (idleL s1.files) = F2 := ⟨_, rfl⟩
      have hmr : ∀ x ∈ F2, midF x := by rw [← hF2, HF1.out]; exact HMr.out _
      have hwo := HWo.out
      rw [← hs2] at hwo
      rw [hF2] at hfo hs2
      obtain ⟨af, cf, rfl, -, -⟩ := At.form' hfo
      have hgT := snap_set (u := .slice af F2.length cf) hgo
      have hflT := filesAt_snap hgo rfl (.slice af F2.length cf) hfo
      have huT := rowsAt_snap hgo rfl (.slice af F2.length cf) (HU8.out.below hb)
      have hstT := (HStS.out.below hb4o).away HN.out.1 HN.out.2.1 (i := 6) (.slice af F2.length cf)
      have hbT := (hbwS.trans (hb4o.mono hbwS.size)).setCell (p := ⟨w.heap.size, 6, none⟩) (Nat.le_refl _) (.slice af F2.length cf)
      have hgT2 : (wo.setCell ⟨w.heap.size, 6, none⟩ (.slice af F2.length cf)).heap[w.heap.size]? = some (.cells #[.int .i64 s2.id, .int .i64 s2.parent, .int .i64 s2.seq, .int .i64 s2.day, .int .i64 s2.index, S s2.op, .slice af F2.length cf] 25 (0, 0)) := by rw [hs2]; exact hgT
      have hfs2 : s2.files = F2 := by rw [hs2]
      clear hgo hfo hgT hs2 hF2
      go_upto_region 22 with fail
      clear f6 q6
      generalize wo.setCell ⟨w.heap.size, 6, none⟩ (.slice af F2.length cf) = wT at *
      have hro := scanRows_any E B sb mb t.1 s2 (.slice af F2.length cf) iMin iMax wT ((X.out _ hbT).1.sub (by decide)) (X.out _ hbT).2.1 (X.out _ hbT).2.2 hstT HTx.out (by rw [hfs2]; exact hflT) (by rw [hfs2]; exact hmr)
      rw [hwo.1, hwo.2] at hro
      have HRo2 := Lib.hid hro
      have HUT := Lib.hid huT
      obtain ⟨c0, c1, c2, c3, c4, c5', c6'⟩ := snRow7 hgT2
      clear hro hflT huT hstT hgT2 hfs2 hwo hmr
      go_wp2_with fail
      refine HRo2.out.mono ?_
      rintro e wU ⟨u9, ev, rfl, hev, hu9, hb9⟩
      obtain rfl : ev = .nilIface := hev
      obtain ⟨a9, c9, rfl, -, -⟩ := At.form' hu9
      have hsm := sameRows_any _ _ A A wU hu9 (HUT.out.below hb9)
      rw [decide_eq_true rfl] at hsm
      have HSm := Lib.hid hsm
      clear hsm hu9
      go_wp2_with fail
      refine HSm.out.mono ?_
      rintro e wV ⟨rfl, hbV⟩
      go_wp2_with fail
      go_ret
      exact ⟨rfl, hbT.trans ((hb9.trans (hbV.mono hb9.size)).mono hbT.size)⟩
    have f1 : (k : Int) < (I.length : Int) := by omega
    obtain ⟨p, hp⟩ := get_ex hlt
    have x0 := (hb.cell (World.block_lt_of_cell? _ _ (HXi.out k p hp 0 _ rfl))).trans (HXi.out k p hp 0 _ rfl)
    have i1 := idx_at (c := ci) 1 Tryz.underlying39 szStr hai k hlt
    simp only [Nat.mul_one, Nat.add_zero] at x0 i1
    obtain ⟨n1, n2⟩ := HNx.out k p hp
    have hrm := listRemove_any E B vf (remK t.2 (I.take k)) p wo ((HX4.out _ hb4o).1.sub (by decide)) (HX4.out _ hb4o).2.1 (HX4.out _ hb4o).2.2 hf.out (HMr.out _)
    rw [n1, n2] at hrm
    have HRm := Lib.hid hrm
    clear hp n1 n2 hrm
    go_wp2_with fail
    refine HRm.out.mono ?_
    rintro e w9 ⟨u9, ev, rfl, hu9, hev, hb9⟩
    obtain rfl : ev = .nilIface := hev
    have HU9 := Lib.hid hu9
    clear hu9
    go_wp2_with fail
    go_roundw
    case rel => exact ⟨k + 1, u9, by omega, by go_num, rfl, HU9, hb.trans (hb9.mono hb.size)⟩
    case measure => simp [intOf]; omega
end Go.Proofs.YtpfohfihkmjnaaaGreatDoor
namespace Go.Proofs.YtpfohfihkmjnaaaGreatDoor
open Go.RowKit Go.ChangeShapes Go.WideShapes

def errName : Nat → String
  | 1 => "deedbox/api.ErrText" | 2 => "deedbox/api.ErrBound" | 3 => "deedbox/api.ErrShape" | 4 => "deedbox/api.ErrKind" | 5 => "deedbox/api.ErrName" | 6 => "deedbox/api.ErrNone"
  | 7 => "deedbox/api.ErrExist" | 8 => "deedbox/api.ErrFull" | 9 => "deedbox/api.ErrOrder" | 10 => "deedbox/api.ErrSum" | 11 => "deedbox/api.ErrStale" | _ => "deedbox/api.ErrOff"
theorem errName_inj : ∀ c ∈ allE, ∀ d ∈ allE, errName c = errName d → c = d := by decide

theorem laidVars_get {P : Program} {w : World} : ∀ {L : List (String × DataW Unit)} {ps : List MemPlace} {i : Nat} {n : String} {d : DataW Unit}, DataW.LaidVars P w L ps → L[i]? = some (n, d) →
    ∃ g t cs fuel p, P.globalNamed n = some g ∧ (P.globals[g]?).map (·.type) = some t ∧ w.var? P n = some cs ∧ DataW.trod (fun _ => ()) P w 0 (fun _ => true) false fuel t cs.toList = some (d, p) ∧ ∀ x ∈ MemPlace.row ⟨g, 0, none⟩ cs.size ++ p, x ∈ ps
  | [], _, i, n, d, _, hi => by simp at hi
  | (n0, d0) :: r, ps, 0, n, d, h, hi => by
    obtain ⟨g, t, cs, fuel, p, q, h1, h2, h3, h4, _, rfl⟩ := h
    simp only [List.getElem?_cons_zero, Option.some.injEq, Prod.mk.injEq] at hi
    obtain ⟨rfl, rfl⟩ := hi
    exact ⟨g, t, cs, fuel, p, h1, h2, h3, h4, fun x hx => List.mem_append_left _ hx⟩
  | (n0, d0) :: r, ps, i + 1, n, d, h, hi => by
    obtain ⟨g, t, cs, fuel, p, q, _, _, _, _, h5, rfl⟩ := h
    obtain ⟨g', t', cs', fuel', p', h1, h2, h3, h4, h6⟩ := laidVars_get h5 (by simpa using hi)
    exact ⟨g', t', cs', fuel', p', h1, h2, h3, h4, fun x hx => List.mem_append_right _ (h6 x hx)⟩

theorem laidVars_apart {P : Program} {w : World} : ∀ {L : List (String × DataW Unit)} {ps : List MemPlace} {i j : Nat} {n m : String} {d e : DataW Unit}, DataW.LaidVars P w L ps → ps.Nodup → i < j → L[i]? = some (n, d) → L[j]? = some (m, e) →
    ∃ (g : Nat) (t : TypeId) (cs : Array Value) (fuel : Nat) (p : List MemPlace) (g' : Nat) (t' : TypeId) (cs' : Array Value) (fuel' : Nat) (p' : List MemPlace), P.globalNamed n = some g ∧ (P.globals[g]?).map (·.type) = some t ∧ w.var? P n = some cs ∧ DataW.trod (fun _ => ()) P w 0 (fun _ => true) false fuel t cs.toList = some (d, p) ∧
      P.globalNamed m = some g' ∧ (P.globals[g']?).map (·.type) = some t' ∧ w.var? P m = some cs' ∧ DataW.trod (fun _ => ()) P w 0 (fun _ => true) false fuel' t' cs'.toList = some (e, p') ∧ ∀ x ∈ p, x ∉ p'
  | [], _, i, j, n, m, d, e, _, _, _, hi, _ => by simp at hi
  | (n0, d0) :: r, ps, 0, j + 1, n, m, d, e, h, hnd, _, hi, hj => by
    obtain ⟨g, t, cs, fuel, p, q, h1, h2, h3, h4, h5, rfl⟩ := h
    simp only [List.getElem?_cons_zero, Option.some.injEq, Prod.mk.injEq] at hi
    obtain ⟨rfl, rfl⟩ := hi
    obtain ⟨g', t', cs', fuel', p', h1', h2', h3', h4', h6⟩ := laidVars_get h5 (by simpa using hj)
    refine ⟨g, t, cs, fuel, p, g', t', cs', fuel', p', h1, h2, h3, h4, h1', h2', h3', h4', fun x hx hx' => ?_⟩
    have hd := (List.nodup_append.1 hnd).2.2
    exact hd x (List.mem_append_right _ hx) x (h6 x (List.mem_append_right _ hx')) rfl
  | (n0, d0) :: r, ps, i + 1, j + 1, n, m, d, e, h, hnd, hij, hi, hj => by
    obtain ⟨g, t, cs, fuel, p, q, _, _, _, _, h5, rfl⟩ := h
    exact laidVars_apart (i := i) (j := j) h5 (List.nodup_append.1 hnd).2.1 (by omega) (by simpa using hi) (by simpa using hj)
  | _ :: _, _, _, 0, _, _, _, _, _, _, hij, _, _ => by omega

/-- Behind what address a variable's error lies. -/
noncomputable def addrOf (W : World) (c : Nat) : Addr :=
  match W.var? Tryz.prog (errName c) with
  | some #[.iface _ (.pointer (some a))] => a
  | _ => ⟨0, 0, none⟩

theorem gn1 : Tryz.prog.globalNamed (errName 1) = some (errG 1) := by kernel_rfl
theorem gn2 : Tryz.prog.globalNamed (errName 2) = some (errG 2) := by kernel_rfl
theorem gn3 : Tryz.prog.globalNamed (errName 3) = some (errG 3) := by kernel_rfl
theorem gn4 : Tryz.prog.globalNamed (errName 4) = some (errG 4) := by kernel_rfl
theorem gn5 : Tryz.prog.globalNamed (errName 5) = some (errG 5) := by kernel_rfl
theorem gn6 : Tryz.prog.globalNamed (errName 6) = some (errG 6) := by kernel_rfl
theorem gn7 : Tryz.prog.globalNamed (errName 7) = some (errG 7) := by kernel_rfl
theorem gn8 : Tryz.prog.globalNamed (errName 8) = some (errG 8) := by kernel_rfl
theorem gn9 : Tryz.prog.globalNamed (errName 9) = some (errG 9) := by kernel_rfl
theorem gn10 : Tryz.prog.globalNamed (errName 10) = some (errG 10) := by kernel_rfl
theorem gn11 : Tryz.prog.globalNamed (errName 11) = some (errG 11) := by kernel_rfl
theorem gn12 : Tryz.prog.globalNamed (errName 12) = some (errG 12) := by kernel_rfl
theorem gt1 : (Tryz.prog.globals[errG 1]?).map (·.type) = some 35 := by kernel_rfl
theorem gt2 : (Tryz.prog.globals[errG 2]?).map (·.type) = some 35 := by kernel_rfl
theorem gt3 : (Tryz.prog.globals[errG 3]?).map (·.type) = some 35 := by kernel_rfl
theorem gt4 : (Tryz.prog.globals[errG 4]?).map (·.type) = some 35 := by kernel_rfl
theorem gt5 : (Tryz.prog.globals[errG 5]?).map (·.type) = some 35 := by kernel_rfl
theorem gt6 : (Tryz.prog.globals[errG 6]?).map (·.type) = some 35 := by kernel_rfl
theorem gt7 : (Tryz.prog.globals[errG 7]?).map (·.type) = some 35 := by kernel_rfl
theorem gt8 : (Tryz.prog.globals[errG 8]?).map (·.type) = some 35 := by kernel_rfl
theorem gt9 : (Tryz.prog.globals[errG 9]?).map (·.type) = some 35 := by kernel_rfl
theorem gt10 : (Tryz.prog.globals[errG 10]?).map (·.type) = some 35 := by kernel_rfl
theorem gt11 : (Tryz.prog.globals[errG 11]?).map (·.type) = some 35 := by kernel_rfl
theorem gt12 : (Tryz.prog.globals[errG 12]?).map (·.type) = some 35 := by kernel_rfl
theorem starE : "*" ++ "errors.errorString" = "*errors.errorString" := by decide
theorem rowE (u : TypeId) (h : Tryz.prog.typeName? 3 u = some "*errors.errorString") : u = 320 :=
  typeName_ptr_named (nm := "errors.errorString") (by rw [starE]; kernel_rfl) (by kernel_rfl) (by decide) u (by rw [starE]; exact h)
theorem cellsErrStr : Tryz.prog.cellsOf 322 = 1 := by kernel_rfl
theorem cellsStr : Tryz.prog.cellsOf 9 = 1 := by kernel_rfl

set_option maxRecDepth 100000 in
/-- WHAT THE CONDITION GIVES THE WALKS: the sentinels of the numbers D, where the list L bears each at the place idx says. -/
theorem errs_of_laid {L : List (String × DataW Unit)} {W : World} (h : laidMet Tryz.prog L W) (D : List Nat) (idx : Nat → Nat) (hD : ∀ c ∈ D, c ∈ allE)
    (hg : ∀ c ∈ D, Tryz.prog.globalNamed (errName c) = some (errG c)) (ht : ∀ c ∈ D, (Tryz.prog.globals[errG c]?).map (·.type) = some 35)
    (hL : ∀ c ∈ D, ∃ text, L[idx c]? = some (errName c, .iface "*errors.errorString" (.ptr (.agg [.lit (.string text)])))) :
    Errs D (addrOf W) W.heap.size W := by
  obtain ⟨ps, hv, hnd, hrows⟩ := h
  have key : ∀ c ∈ D, ∀ {g t cs fuel p text}, Tryz.prog.globalNamed (errName c) = some g → (Tryz.prog.globals[g]?).map (·.type) = some t → W.var? Tryz.prog (errName c) = some cs →
      DataW.trod (fun _ => ()) Tryz.prog W 0 (fun _ => true) false fuel t cs.toList = some (.iface "*errors.errorString" (.ptr (.agg [.lit (.string text)])), p) → (∀ x ∈ MemPlace.row ⟨g, 0, none⟩ cs.size, x ∈ ps) →
      W.cell? ⟨errG c, 0, none⟩ = some (.iface 320 (.pointer (some (addrOf W c)))) ∧ (∃ s, W.cell? (addrOf W c) = some (.string s)) ∧ p = MemPlace.row (addrOf W c) 1 := by
    intro c hc g t cs fuel p text h1 h2 h3 h4 h5
    obtain rfl := Option.some.inj ((hg c hc).symm.trans h1)
    obtain rfl := Option.some.inj ((ht c hc).symm.trans h2)
    obtain ⟨l0⟩ := cs
    have ok0 : ∀ u v, l0 = [.iface u v] → Value.okWide Tryz.prog W .any 0 u v := fun u v e => by
      subst e
      exact (hrows (errG c) 0 (h5 _ (by simp [MemPlace.row]))).2 u v (by simpa using World.var?_cell h1 h3 0)
    obtain ⟨a0, s0, rfl, hc0, hs0, hz0, rfl⟩ := errorString_of_trod Tryz.underlying35 rowE Tryz.underlying320 Tryz.underlying322 rfl rfl Tryz.underlying9 cellsErrStr cellsStr h4 ok0
    have ea : addrOf W c = a0 := by
      unfold addrOf
      rw [h3]
      exact rfl
    refine ⟨?_, ⟨s0, by rw [ea]; exact hc0⟩, by rw [ea]⟩
    rw [ea]
    simpa using World.var?_cell h1 h3 0
  have get : ∀ c ∈ D, W.cell? ⟨errG c, 0, none⟩ = some (.iface 320 (.pointer (some (addrOf W c)))) ∧ (∃ s, W.cell? (addrOf W c) = some (.string s)) ∧ MemPlace.cell (addrOf W c).block (addrOf W c).off ∈ ps := by
    intro c hc
    obtain ⟨text, hl⟩ := hL c hc
    obtain ⟨g, t, cs, fuel, p, h1, h2, h3, h4, h5⟩ := laidVars_get hv hl
    obtain ⟨k1, k2, rfl⟩ := key c hc h1 h2 h3 h4 (fun x hx => h5 x (List.mem_append_left _ hx))
    exact ⟨k1, k2, h5 _ (List.mem_append_right _ (by simp [MemPlace.row]))⟩
  have apart : ∀ c ∈ D, ∀ d ∈ D, idx c < idx d → addrOf W c ≠ addrOf W d := by
    intro c hc d hd hlt he
    obtain ⟨t1, hl1⟩ := hL c hc
    obtain ⟨t2, hl2⟩ := hL d hd
    obtain ⟨g, t, cs, fuel, p, g', t', cs', fuel', p', a1, a2, a3, a4, b1, b2, b3, b4, hap⟩ := laidVars_apart hv hnd hlt hl1 hl2
    obtain ⟨g0, t0, cs0, f0, p0, u1, u2, u3, u4, u5⟩ := laidVars_get hv hl1
    obtain ⟨g0', t0', cs0', f0', p0', v1, v2, v3, v4, v5⟩ := laidVars_get hv hl2
    obtain rfl := Option.some.inj (a1.symm.trans u1)
    obtain rfl := Option.some.inj (a3.symm.trans u3)
    obtain rfl := Option.some.inj (b1.symm.trans v1)
    obtain rfl := Option.some.inj (b3.symm.trans v3)
    obtain ⟨_, _, rfl⟩ := key c hc a1 a2 a3 a4 (fun x hx => u5 x (List.mem_append_left _ hx))
    obtain ⟨_, _, rfl⟩ := key d hd b1 b2 b3 b4 (fun x hx => v5 x (List.mem_append_left _ hx))
    rw [he] at hap
    exact hap (.cell (addrOf W d).block (addrOf W d).off) (by simp [MemPlace.row]) (by simp [MemPlace.row])
  refine ⟨fun c hc => (get c hc).1, fun c hc => (hrows _ _ (get c hc).2.2).1, fun c hc => ?_, fun c hc d hd he => ?_, Nat.le_refl _⟩
  · obtain ⟨k1, ⟨s, k2⟩, _⟩ := get c hc
    exact ⟨World.block_lt_of_cell? W _ k2, World.block_lt_of_cell? W ⟨errG c, 0, none⟩ k1⟩
  · rcases Nat.lt_trichotomy (idx c) (idx d) with h | h | h
    · exact absurd he (apart c hc d hd h)
    · obtain ⟨t1, hl1⟩ := hL c hc
      obtain ⟨t2, hl2⟩ := hL d hd
      rw [h, hl2] at hl1
      have : errName d = errName c := by simpa using congrArg (fun x => x.1) (Option.some.inj hl1)
      exact errName_inj c (hD c hc) d (hD d hd) this.symm
    · exact absurd he.symm (apart d hd c hc h)

theorem etG : Tryz.prog.globalNamed "errors.errorType" = some 13 := by kernel_rfl
theorem rtT : (Tryz.prog.cutTypes.find? (·.1 == "internal/reflectlite.rtype")).map (·.2) = some 250 := by kernel_rfl
theorem oneRowE : ((List.range 355).filter fun t => Tryz.prog.rowNamed t [101, 114, 114, 111, 114]) = [35] := by kernel_rfl
theorem typesSize : Tryz.prog.types.size = 355 := by kernel_rfl
theorem asVar_of_laid {L : List (String × DataW Unit)} {W : World} (h : handlesMet Tryz.prog L W) (hm : ("errors.errorType", .iface "internal/reflectlite.rtype" (.agg [.ptr (.lit (.string [101, 114, 114, 111, 114]))])) ∈ L) : AsVar W := by
  obtain ⟨name, u, ty, e1, e2, e3, e4, e5⟩ := h _ hm
  have en : name = [101, 114, 114, 111, 114] := (Option.some.inj e1).symm
  subst en
  obtain rfl := Option.some.inj (rtT.symm.trans e2)
  have hm : ty ∈ (List.range 355).filter fun t => Tryz.prog.rowNamed t [101, 114, 114, 111, 114] := List.mem_filter.2 ⟨List.mem_range.2 (by rw [← typesSize]; exact e3), e4⟩
  rw [oneRowE] at hm
  obtain rfl := List.mem_singleton.1 hm
  have hh : typeHandle Tryz.prog 35 = .pointer (some ⟨21, 35, none⟩) := by kernel_rfl
  rw [hh] at e5
  have := World.var?_cell etG e5 0
  unfold AsVar
  simpa using this
end Go.Proofs.YtpfohfihkmjnaaaGreatDoor
namespace Go.Proofs.YtpfohfihkmjnaaaGreatDoor
open Go.ChangeShapes Go.WideShapes Go.ChangeAt Go.RowKit

theorem handed_both {H : Type} {enc : TypeId × Value → H} {a : Assume} {C : Checked} {os : Os} {f : FuncId} {fn : Func} {s : ChangeSpec} {conds : List PathCond} {apart fresh handsOn again : Bool} {X : World → Array Value → Prop}
    (hX : ∀ (w w' : World) (args : Array Value), w.heap = w'.heap → X w args → X w' args)
    (own : ownKnob C.prog.godebug = none) (started : os.Started) (noInit : C.prog.inits.idxOf? f = none) (hfn : C.prog.funcs[f]? = some fn)
    (witness : ∃ (w : World) (tape : Tape) (i : Input), w.os = os ∧ (w.forCall tape i).Shaped C.prog ∧ i.vars = [] ∧ Input.okWide C.prog (w.forCall tape i) .any w.heap.size f i ∧
      ((s.pre enc C.prog fn conds apart (w.forCall tape i).memory i.args ∧ X (w.forCall tape i).memory i.args) ∧ sizedMet enc C.prog fn (OpenSpec.ofChange s) apart (w.forCall tape i).memory i.args) ∧ a.holds C.prog (lone (Frame.enter C.prog f i.args .normal) [] (w.forCall tape i)))
    (contract : ∀ (W : World) (base : Nat) (args : Array Value) (ds gs : List (DataW H)) (before : List MemPlace),
      (∀ (j : Nat) t v, fn.params[j]? = some t → args[j]? = some v → Value.okWide C.prog W .any base t v) →
      DataW.Whole enc C.prog fn.params.toList s.vars apart W args.toList ds gs before → X W args → W.ShapedOpen C.prog →
      Calls C.prog f args W fun e W' => ∃ v, e = .returned v ∧ s.post enc C.prog fn apart fresh handsOn again W args v W') :
    ReturnsInHanded a C os f .any (fun w args => (s.pre enc C.prog fn conds apart w args ∧ X w args) ∧ sizedMet enc C.prog fn (OpenSpec.ofChange s) apart w args) (s.post enc C.prog fn apart fresh handsOn again) := by
  refine returnsInHanded_of_calls own started noInit witness ?_
  intro w tape i _ hsh _ hok hpre _
  obtain ⟨_, _, _, fn', hfn', _, _, _, _, hval⟩ := hok
  have e : fn' = fn := Option.some.inj (hfn'.symm.trans hfn)
  subst e
  obtain ⟨⟨⟨ds, gs, before, hw, hc⟩, hx⟩, hz⟩ := hpre
  have hw' := DataW.Whole.of_heap (w' := w.forCall tape i) (by rfl) hw
  refine (contract (w.forCall tape i) w.heap.size i.args ds gs before hval hw' (hX _ _ _ (by rfl) hx) hsh).mono fun e W' ⟨v, he, hp⟩ => ?_
  subst he
  exact ChangeSpec.post_blind hp

theorem cellsInt : Tryz.prog.cellsOf 3 = 1 := by kernel_rfl
theorem laidOut : laidOutB Tryz.prog = true := by kernel_rfl

set_option maxRecDepth 100000 in
/-- A slice of numbers that came in. -/
theorem ints_came {H : Type} {enc : TypeId × Value → H} {W : World} {base : Nat} {sp : Nat → Bool} {v : Value} {d : DataW H} {p : List MemPlace} (hv : Value.okWide Tryz.prog W .any base 69 v)
    (h : DataW.Trod enc Tryz.prog W 0 sp true 69 v d p) : ∃ l, IntsAt W v l ∧ ∀ x ∈ l, (Lit.int .i64 x).wf = true := by
  obtain ⟨a0, len, cap, rfl⟩ := okWide_slice Tryz.underlying69 hv
  obtain ⟨fuel, hf⟩ := h
  rcases open_ints Tryz.underlying69 Tryz.underlying3 cellsInt hf with ⟨hcs, hx⟩ | ⟨a, len', cap', zs, hcs, _, hl, hm, hz, hx, hcell, hwz⟩
  · simp [Value.cells] at hcs
    obtain ⟨rfl, rfl, rfl⟩ := hcs
    exact ⟨[], At.nil _ _ _, fun _ h => by cases h⟩
  · simp [Value.cells] at hcs
    obtain ⟨rfl, rfl, rfl⟩ := hcs
    have hzl : len ≤ zs.length := by split at hz <;> omega
    have hlen : (zs.take len).length = len := by rw [List.length_take]; omega
    refine ⟨zs.take len, ⟨some a, cap, a.block, a.off, by rw [hlen], fun h0 => ?_, by rw [hlen]; exact hl, hm, fun k x hk j u hu => ?_⟩, fun x hx => hwz x (List.mem_of_mem_take hx)⟩
    · obtain ⟨b, off, spot⟩ := a
      have hs : spot = none := by simpa [Addr.add] using World.cell?_spot (hcell 0 (by omega))
      subst hs; rfl
    · obtain rfl : j = 0 := by
        rcases Nat.eq_zero_or_pos j with h | h
        · exact h
        · rw [List.getElem?_eq_none (by simp; omega)] at hu; cases hu
      obtain rfl : .int .i64 x = u := by simpa using hu
      have hk' : k < len := by
        rcases Nat.lt_or_ge k len with h | h
        · exact h
        · rw [List.getElem?_eq_none (by omega)] at hk; cases hk
      have hc := hcell k (by omega)
      have hx : zs.getD k 0 = x := by
        rw [List.getElem?_take_of_lt hk'] at hk
        simp [List.getD, hk]
      rw [hx] at hc
      obtain ⟨b, off, spot⟩ := a
      have hs : spot = none := by simpa [Addr.add] using World.cell?_spot (hcell 0 (by omega))
      subst hs
      have hadd : (⟨b, off, none⟩ : Addr).add k = ⟨b, off + k, none⟩ := by
        unfold Addr.add; split <;> simp_all
      rw [hadd] at hc
      simpa using hc

theorem global_lt {P : Program} {W : World} {g : Nat} (h : W.ShapedOpen P) (hg : g < P.globals.size) (h0 : (((begin P (fun _ _ => 0) default).world.heap[g]?).bind Obj.row?).isSome = true) : g < W.heap.size := by
  obtain ⟨⟨zero, t⟩, hx⟩ := Option.isSome_iff_exists.1 h0
  obtain ⟨cs, hh, _⟩ := h.1 g zero t hg hx
  exact (Array.getElem?_eq_some_iff.1 hh).1
theorem lastG : ((((begin Tryz.prog (fun _ _ => 0) default).world.heap[21 - 1]?).bind Obj.row?).isSome) = true := by kernel_rfl
theorem globals_le {W : World} (h : W.ShapedOpen Tryz.prog) : 21 ≤ W.heap.size := by
  have := global_lt h (g := 21 - 1) (of_decide_eq_true (by kernel_rfl)) lastG
  omega
theorem max_begin : ((begin Tryz.prog (fun _ _ => 0) default).world.heap[12]?).bind Obj.row? = some (#[.int .i64 0], 3) := by kernel_rfl
theorem lmax_of {W : World} (h : W.ShapedOpen Tryz.prog) : LMax W.heap.size W :=
  ⟨cell_of_shapedOpen_int (g := 12) (t := 3) h (of_decide_eq_true (by kernel_rfl)) max_begin rfl (by kernel_rfl) (by kernel_rfl) Tryz.underlying3, globals_le h, Nat.le_refl _⟩

theorem tabT : (Tryz.prog.globals[18]?).map (·.type) = some 324 := by kernel_rfl
theorem synG : Tryz.prog.globalNamed "strconv.ErrSyntax" = some 16 := by kernel_rfl
theorem synT : (Tryz.prog.globals[16]?).map (·.type) = some 35 := by kernel_rfl
theorem rngG : Tryz.prog.globalNamed "strconv.ErrRange" = some 17 := by kernel_rfl
theorem rngT : (Tryz.prog.globals[17]?).map (·.type) = some 35 := by kernel_rfl
theorem cells20 : Tryz.prog.cellsOf 324 = 20 := by kernel_rfl
theorem cellsU64 : Tryz.prog.cellsOf 282 = 1 := by kernel_rfl
theorem under20 : Tryz.prog.underlying 324 = some (.array 20 282) := by kernel_rfl
theorem underU64 : Tryz.prog.underlying 282 = some (.int .u64) := by kernel_rfl

theorem iface_laid {W : World} {L : List (String × DataW Unit)} {ps : List MemPlace} {i g : Nat} {n nm : String} {d : DataW Unit} (hv : DataW.LaidVars Tryz.prog W L ps) (hi : L[i]? = some (n, .iface nm d)) (hg : Tryz.prog.globalNamed n = some g) (ht : (Tryz.prog.globals[g]?).map (·.type) = some 35) :
    ∃ te pe, W.cell? ⟨g, 0, none⟩ = some (.iface te pe) := by
  obtain ⟨g', t, cs, fuel, p, h1, h2, h3, h4, h5⟩ := laidVars_get hv hi
  obtain rfl := Option.some.inj (hg.symm.trans h1)
  obtain rfl := Option.some.inj (ht.symm.trans h2)
  obtain ⟨l0⟩ := cs
  obtain ⟨f1, u, v, rfl, _, _⟩ := iface_of_trod Tryz.underlying35 h4
  exact ⟨u, v, by simpa using World.var?_cell hg h3 0⟩

theorem lnum_of {W : World} {L : List (String × DataW Unit)} {i j k : Nat} {n1 n2 : String} {d1 d2 : DataW Unit} (h : laidMet Tryz.prog L W) (hsh : W.ShapedOpen Tryz.prog) (hi : L[i]? = some ("internal/strconv.uint64pow10", Lib.tabData .u64 Lib.pow10Tab))
    (hj : L[j]? = some ("strconv.ErrSyntax", .iface n1 d1)) (hk : L[k]? = some ("strconv.ErrRange", .iface n2 d2)) : LNum W.heap.size W := by
  obtain ⟨ps, hv, _, _⟩ := h
  refine ⟨?_, iface_laid hv hj synG synT, iface_laid hv hk rngG rngT, globals_le hsh, Nat.le_refl _⟩
  obtain ⟨g', t, cs, fuel, p, h1, h2, h3, h4, h5⟩ := laidVars_get hv hi
  obtain rfl := Option.some.inj (pow10G.symm.trans h1)
  obtain rfl := Option.some.inj (tabT.symm.trans h2)
  unfold Lib.TabIs
  rw [h3, ← Lib.cells_of_tab under20 underU64 cellsU64 cells20 h4]
end Go.Proofs.YtpfohfihkmjnaaaGreatDoor
namespace Go.Proofs.YtpfohfihkmjnaaaGreatDoor
open Go.ChangeShapes Go.WideShapes Go.ChangeAt Go.RowKit

theorem some_ix {α : Type} {l : List α} {n k : Nat} (h : l.length = n) (hk : k < n) : ∃ x, l[k]? = some x := ⟨l[k]'(by omega), by simp [h, hk]⟩
theorem six_of {α : Type} : ∀ {l : List α}, l.length = 6 → ∃ a b c d e f, l = [a, b, c, d, e, f]
  | [a, b, c, d, e, f], _ => ⟨a, b, c, d, e, f, rfl⟩

set_option maxRecDepth 100000 in
/-- The slice's cells, by its elements' own reading. -/
theorem slice_came {H : Type} {enc : TypeId × Value → H} {W : World} {base fuel : Nat} {sp : Nat → Bool} {held : Bool} {cs : List Value} {y : DataW H × List MemPlace} {α : Type} (en : α → List Value) (sz : Nat) (hsz : 0 < sz) (tS tE : TypeId) (hu : Tryz.prog.underlying tS = some (.slice tE)) (hc : Tryz.prog.cellsOf tE = sz)
    (Pr : α → Prop) (one : ∀ (fuel : Nat) (sp : Nat → Bool) (held : Bool) (cs : List Value) (y : DataW H × List MemPlace), DataW.trod enc Tryz.prog W base sp held fuel tE cs = some y → ∃ x : α, cs = en x ∧ (en x).length = sz ∧ Pr x)
    (hf : DataW.trod enc Tryz.prog W base sp held fuel tS cs = some y) : ∃ v l, cs = [v] ∧ At en sz W v l ∧ ∀ x ∈ l, Pr x := by
  rcases DataW.trod_slice hu hf with ⟨hcs, hx⟩ | ⟨a, len', cap', elems, rest, n, _, hcs, _, _, hl, hm, hlen, hel, _, _⟩
  · exact ⟨_, [], hcs, At.nil _ _ _, fun _ h => by cases h⟩
  · refine ⟨.slice (some a) len' cap', ?_⟩
    rcases Nat.eq_zero_or_pos len' with rfl | hpos
    · exact ⟨[], hcs, ⟨some a, cap', 0, 0, rfl, fun h => absurd h (by simp), by simp, hm, fun k x h => by simp at h⟩, fun _ h => by cases h⟩
    obtain ⟨b, off, spot⟩ := a
    have hsp : spot = none := by
      have h1 := hel 0 hpos
      obtain ⟨y, hy⟩ := some_ix hlen hpos
      rw [hy, hc, Option.bind_eq_some_iff] at h1
      obtain ⟨cs, hcl, ht⟩ := h1
      obtain ⟨x, rfl, hxl, _⟩ := one _ _ _ _ _ ht
      obtain ⟨_, _, hcc⟩ := World.cells?_some hcl
      obtain ⟨u, hu0⟩ := some_ix hxl hsz
      have := hcc 0 hsz
      rw [hu0] at this
      have := World.cell?_spot this
      simpa [Addr.add] using this
    subst hsp
    have each : ∀ i, i < len' → ∃ x : α, (∀ j u, (en x)[j]? = some u → W.cell? ((⟨b, off, none⟩ : Addr).add (i * sz + j)) = some u) ∧ Pr x := by
      intro i hi
      have h1 := hel i hi
      obtain ⟨y, hy⟩ := some_ix hlen hi
      rw [hy, hc, Option.bind_eq_some_iff] at h1
      obtain ⟨cs, hcl, ht⟩ := h1
      obtain ⟨x, rfl, hxl, hp⟩ := one _ _ _ _ _ ht
      obtain ⟨_, _, hcc⟩ := World.cells?_some hcl
      refine ⟨x, fun j u hu => ?_, hp⟩
      have hj : j < sz := by
        rcases Nat.lt_or_ge j sz with h | h
        · exact h
        · rw [List.getElem?_eq_none (by omega)] at hu; cases hu
      have := hcc j hj
      rw [hu] at this
      rw [add_lit] at this
      rw [add_lit] at this
      rw [add_lit, ← Nat.add_assoc]
      exact this
    have build : ∀ m, m ≤ len' → ∃ l : List α, l.length = m ∧ (∀ k x, l[k]? = some x → ∀ j u, (en x)[j]? = some u → W.cell? ((⟨b, off, none⟩ : Addr).add (k * sz + j)) = some u) ∧ ∀ x ∈ l, Pr x := by
      intro m
      induction m with
      | zero => exact fun _ => ⟨[], rfl, fun k x h => by simp at h, fun _ h => by cases h⟩
      | succ m ih =>
        intro hm
        obtain ⟨l, h1, h2, h3⟩ := ih (by omega)
        obtain ⟨x, hx, hn⟩ := each m (by omega)
        refine ⟨l ++ [x], by simp [h1], fun k z hk j u hu => ?_, fun z hz => ?_⟩
        · rcases Nat.lt_or_ge k l.length with h | h
          · rw [List.getElem?_append_left h] at hk
            exact h2 k z hk j u hu
          · have hk' := (List.getElem?_eq_some_iff.1 hk).1
            rw [List.length_append, List.length_singleton] at hk'
            obtain rfl : k = l.length := by omega
            rw [List.getElem?_append_right (Nat.le_refl _), Nat.sub_self] at hk
            simp at hk
            subst hk
            rw [h1]
            exact hx j u hu
        · rcases List.mem_append.1 hz with h | h
          · exact h3 z h
          · simp at h; subst h; exact hn
    obtain ⟨l, h1, h2, h3⟩ := build len' (Nat.le_refl _)
    refine ⟨l, hcs, ⟨_, cap', b, off, by rw [h1], fun _ => rfl, by rw [h1]; exact hl, hm, fun k x hk j u hu => ?_⟩, h3⟩
    have := h2 k x hk j u hu
    rw [add_lit, ← Nat.add_assoc] at this
    exact this

set_option maxRecDepth 100000 in
/-- The same, of a parameter. -/
theorem param_came {H : Type} {enc : TypeId × Value → H} {W : World} {base : Nat} {sp : Nat → Bool} {v : Value} {d : DataW H} {p : List MemPlace} {α : Type} (en : α → List Value) (sz : Nat) (hsz : 0 < sz) (tS tE : TypeId) (hu : Tryz.prog.underlying tS = some (.slice tE)) (hc : Tryz.prog.cellsOf tE = sz)
    (Pr : α → Prop) (one : ∀ (fuel : Nat) (sp : Nat → Bool) (held : Bool) (cs : List Value) (y : DataW H × List MemPlace), DataW.trod enc Tryz.prog W 0 sp held fuel tE cs = some y → ∃ x : α, cs = en x ∧ (en x).length = sz ∧ Pr x)
    (hv : Value.okWide Tryz.prog W .any base tS v) (h : DataW.Trod enc Tryz.prog W 0 sp true tS v d p) : ∃ l, At en sz W v l ∧ ∀ x ∈ l, Pr x := by
  obtain ⟨a0, len, cap, rfl⟩ := okWide_slice hu hv
  obtain ⟨fuel, hf⟩ := h
  obtain ⟨v, l, hcs, ha, hp⟩ := slice_came en sz hsz tS tE hu hc Pr one hf
  simp [Value.cells] at hcs
  subst hcs
  exact ⟨l, ha, hp⟩

theorem str_of_trod {H : Type} {enc : TypeId × Value → H} {W : World} {base fuel : Nat} {sp : Nat → Bool} {held : Bool} {cs : List Value} {y : DataW H × List MemPlace} (h : DataW.trod enc Tryz.prog W base sp held fuel 9 cs = some y) :
    ∃ s : Str, cs = encS s := by
  obtain ⟨s, h0, _, _⟩ := DataW.trod_string Tryz.underlying9 h
  exact ⟨s.data.toList, by rw [h0]⟩
theorem cellsFile : Tryz.prog.cellsOf 43 = 6 := by kernel_rfl
theorem cellsStrF : Tryz.prog.cellsOf 9 = 1 := by kernel_rfl
/-- An integer's bounds. -/
def inI (n : Int) : Prop := -9223372036854775808 ≤ n ∧ n ≤ 9223372036854775807
def FileWf (x : Fl) : Prop := inI x.n ∧ inI x.lo ∧ inI x.hi ∧ inI x.seq
/-- One file, read. -/
theorem file_of_trod {H : Type} {enc : TypeId × Value → H} {W : World} {base fuel : Nat} {sp : Nat → Bool} {held : Bool} {cs : List Value} {y : DataW H × List MemPlace} (h : DataW.trod enc Tryz.prog W base sp held fuel 43 cs = some y) :
    ∃ x : Fl, cs = encF x ∧ (encF x).length = 6 ∧ FileWf x := by
  obtain ⟨xs, n, _, _, hl, hxs, hf⟩ := DataW.trod_struct Tryz.underlying43 h
  rw [cellsFile] at hl
  obtain ⟨c0, c1, c2, c3, c4, c5, rfl⟩ := six_of hl
  have f0 := hf 0 _ rfl
  have f1 := hf 1 _ rfl
  have f2 := hf 2 _ rfl
  have f3 := hf 3 _ rfl
  have f4 := hf 4 _ rfl
  have f5 := hf 5 _ rfl
  obtain ⟨x0, e0⟩ := some_ix hxs (k := 0) (by decide)
  obtain ⟨x1, e1⟩ := some_ix hxs (k := 1) (by decide)
  obtain ⟨x2, e2⟩ := some_ix hxs (k := 2) (by decide)
  obtain ⟨x3, e3⟩ := some_ix hxs (k := 3) (by decide)
  obtain ⟨x4, e4⟩ := some_ix hxs (k := 4) (by decide)
  obtain ⟨x5, e5⟩ := some_ix hxs (k := 5) (by decide)
  rw [e0] at f0; rw [e1] at f1; rw [e2] at f2; rw [e3] at f3; rw [e4] at f4; rw [e5] at f5
  obtain ⟨s0, h0, _, _⟩ := DataW.trod_string Tryz.underlying9 f0
  obtain ⟨s1, h1, _, _⟩ := DataW.trod_string Tryz.underlying9 f1
  obtain ⟨m2, h2, _, w2⟩ := DataW.trod_int Tryz.underlying3 f2
  obtain ⟨m3, h3, _, w3⟩ := DataW.trod_int Tryz.underlying3 f3
  obtain ⟨m4, h4, _, w4⟩ := DataW.trod_int Tryz.underlying3 f4
  obtain ⟨m5, h5, _, w5⟩ := DataW.trod_int Tryz.underlying3 f5
  simp [cellsStrF, cellsInt] at h0 h1 h2 h3 h4 h5
  subst h0 h1 h2 h3 h4 h5
  exact ⟨⟨s0.data.toList, s1.data.toList, m2, m3, m4, m5⟩, by simp, rfl, bounds_i64 w2, bounds_i64 w3, bounds_i64 w4, bounds_i64 w5⟩
set_option maxRecDepth 100000 in
/-- A slice of files that came in. -/
theorem files_came {H : Type} {enc : TypeId × Value → H} {W : World} {base : Nat} {sp : Nat → Bool} {v : Value} {d : DataW H} {p : List MemPlace} (hv : Value.okWide Tryz.prog W .any base 23 v)
    (h : DataW.Trod enc Tryz.prog W 0 sp true 23 v d p) : ∃ l, FilesAt W v l ∧ ∀ x ∈ l, FileWf x :=
  param_came encF 6 (by decide) _ _ Tryz.underlying23 cellsFile FileWf (fun _ _ _ _ _ ht => file_of_trod ht) hv h
end Go.Proofs.YtpfohfihkmjnaaaGreatDoor
namespace Go.Proofs.YtpfohfihkmjnaaaGreatDoor
open Go.ChangeShapes Go.WideShapes Go.ChangeAt Go.RowKit

set_option maxRecDepth 100000 in
theorem int_came {H : Type} {enc : TypeId × Value → H} {W : World} {base : Nat} {sp : Nat → Bool} {v : Value} {d : DataW H} {p : List MemPlace} (hv : Value.okWide Tryz.prog W .any base 3 v)
    (h : DataW.Trod enc Tryz.prog W 0 sp true 3 v d p) : ∃ x, v = .int .i64 x ∧ (-9223372036854775808 ≤ x ∧ x ≤ 9223372036854775807) := by
  obtain ⟨x, h1, _, _, wx⟩ := open_int Tryz.underlying3 hv h
  exact ⟨x, h1, bounds_i64 wx⟩
set_option maxRecDepth 100000 in
theorem str_came {H : Type} {enc : TypeId × Value → H} {W : World} {base : Nat} {sp : Nat → Bool} {v : Value} {d : DataW H} {p : List MemPlace} (hv : Value.okWide Tryz.prog W .any base 9 v)
    (h : DataW.Trod enc Tryz.prog W 0 sp true 9 v d p) : ∃ s : Str, v = S s ∧ (s.length : Int) ≤ 9223372036854775807 := by
  obtain ⟨s, h1, _, _, ws⟩ := ChangeMaps.open_string Tryz.underlying9 hv h
  refine ⟨s.data.toList, by rw [h1], ?_⟩
  have : s.data.toList.length = s.size := Array.length_toList
  unfold maxLen at ws; omega
theorem bounds_u8 {n : Int} (h : (Lit.int .u8 n).wf = true) : 0 ≤ n ∧ n ≤ 255 := by
  simp [Lit.wf, IntKind.min, IntKind.max, IntKind.signed, IntKind.bits] at h
  omega
set_option maxRecDepth 100000 in
theorem byte_came {H : Type} {enc : TypeId × Value → H} {W : World} {base : Nat} {sp : Nat → Bool} {v : Value} {d : DataW H} {p : List MemPlace} (hv : Value.okWide Tryz.prog W .any base 5 v)
    (h : DataW.Trod enc Tryz.prog W 0 sp true 5 v d p) : ∃ c : UInt8, v = .int .u8 c.toNat := by
  obtain ⟨x, h1, _, _, wx⟩ := open_int Tryz.underlying5 hv h
  have hb := bounds_u8 wx
  refine ⟨UInt8.ofNat x.toNat, ?_⟩
  rw [h1]
  congr 1
  rw [UInt8.toNat_ofNat', Nat.mod_eq_of_lt (by omega)]
  omega
set_option maxRecDepth 100000 in
/-- A file by value. -/
theorem file_came {H : Type} {enc : TypeId × Value → H} {W : World} {base : Nat} {sp : Nat → Bool} {v : Value} {d : DataW H} {p : List MemPlace} (hv : Value.okWide Tryz.prog W .any base 43 v)
    (h : DataW.Trod enc Tryz.prog W 0 sp true 43 v d p) : ∃ f : Fl, v = fileV f ∧ FileWf f := by
  obtain ⟨cs, rfl, hsz⟩ := okWide_struct Tryz.underlying43 hv
  obtain ⟨fuel, hf⟩ := h
  obtain ⟨x, h1, h2, h3⟩ := file_of_trod hf
  refine ⟨x, ?_, h3⟩
  simp only [Value.cells] at h1
  exact congrArg Value.agg (Array.toList_inj.1 h1)

theorem trodAll_five {H : Type} {enc : TypeId × Value → H} {P : Program} {w : World} {base : Nat} {sp : Nat → Bool} {held : Bool} {t1 t2 t3 t4 t5 : TypeId} {args : Array Value} {ds : List (DataW H)} {ps : List MemPlace} (h : DataW.TrodAll enc P w base sp held [t1, t2, t3, t4, t5] args.toList ds ps) :
    ∃ v1 v2 v3 v4 v5 d1 d2 d3 d4 d5 p1 p2 p3 p4 p5, args = #[v1, v2, v3, v4, v5] ∧ ds = [d1, d2, d3, d4, d5] ∧ ps = p1 ++ (p2 ++ (p3 ++ (p4 ++ p5))) ∧ DataW.Trod enc P w base sp held t1 v1 d1 p1 ∧ DataW.Trod enc P w base sp held t2 v2 d2 p2 ∧ DataW.Trod enc P w base sp held t3 v3 d3 p3 ∧ DataW.Trod enc P w base sp held t4 v4 d4 p4 ∧ DataW.Trod enc P w base sp held t5 v5 d5 p5 := by
  obtain ⟨l⟩ := args
  obtain ⟨v1, l1, d1, e1, p1, q1, rfl, rfl, rfl, h1, h⟩ := trodAll_cons h
  obtain ⟨v2, l2, d2, e2, p2, q2, rfl, rfl, rfl, h2, h⟩ := trodAll_cons h
  obtain ⟨v3, l3, d3, e3, p3, q3, rfl, rfl, rfl, h3, h⟩ := trodAll_cons h
  obtain ⟨v4, l4, d4, e4, p4, q4, rfl, rfl, rfl, h4, h⟩ := trodAll_cons h
  obtain ⟨v5, l5, d5, e5, p5, q5, rfl, rfl, rfl, h5, h⟩ := trodAll_cons h
  obtain ⟨rfl, rfl, rfl⟩ := trodAll_nil h
  exact ⟨v1, v2, v3, v4, v5, d1, d2, d3, d4, d5, p1, p2, p3, p4, p5, rfl, rfl, by simp, h1, h2, h3, h4, h5⟩
theorem trodAll_six {H : Type} {enc : TypeId × Value → H} {P : Program} {w : World} {base : Nat} {sp : Nat → Bool} {held : Bool} {t1 t2 t3 t4 t5 t6 : TypeId} {args : Array Value} {ds : List (DataW H)} {ps : List MemPlace} (h : DataW.TrodAll enc P w base sp held [t1, t2, t3, t4, t5, t6] args.toList ds ps) :
    ∃ v1 v2 v3 v4 v5 v6 d1 d2 d3 d4 d5 d6 p1 p2 p3 p4 p5 p6, args = #[v1, v2, v3, v4, v5, v6] ∧ ds = [d1, d2, d3, d4, d5, d6] ∧ ps = p1 ++ (p2 ++ (p3 ++ (p4 ++ (p5 ++ p6)))) ∧ DataW.Trod enc P w base sp held t1 v1 d1 p1 ∧ DataW.Trod enc P w base sp held t2 v2 d2 p2 ∧ DataW.Trod enc P w base sp held t3 v3 d3 p3 ∧ DataW.Trod enc P w base sp held t4 v4 d4 p4 ∧ DataW.Trod enc P w base sp held t5 v5 d5 p5 ∧ DataW.Trod enc P w base sp held t6 v6 d6 p6 := by
  obtain ⟨l⟩ := args
  obtain ⟨v1, l1, d1, e1, p1, q1, rfl, rfl, rfl, h1, h⟩ := trodAll_cons h
  obtain ⟨v2, l2, d2, e2, p2, q2, rfl, rfl, rfl, h2, h⟩ := trodAll_cons h
  obtain ⟨v3, l3, d3, e3, p3, q3, rfl, rfl, rfl, h3, h⟩ := trodAll_cons h
  obtain ⟨v4, l4, d4, e4, p4, q4, rfl, rfl, rfl, h4, h⟩ := trodAll_cons h
  obtain ⟨v5, l5, d5, e5, p5, q5, rfl, rfl, rfl, h5, h⟩ := trodAll_cons h
  obtain ⟨v6, l6, d6, e6, p6, q6, rfl, rfl, rfl, h6, h⟩ := trodAll_cons h
  obtain ⟨rfl, rfl, rfl⟩ := trodAll_nil h
  exact ⟨v1, v2, v3, v4, v5, v6, d1, d2, d3, d4, d5, d6, p1, p2, p3, p4, p5, p6, rfl, rfl, by simp, h1, h2, h3, h4, h5, h6⟩
end Go.Proofs.YtpfohfihkmjnaaaGreatDoor
namespace Go.Proofs.YtpfohfihkmjnaaaGreatDoor
open Go.ChangeShapes Go.WideShapes Go.ChangeAt Go.RowKit

theorem cellsSnap : Tryz.prog.cellsOf 25 = 7 := by kernel_rfl
theorem cellsFiles : Tryz.prog.cellsOf 23 = 1 := by kernel_rfl
theorem seven_of {α : Type} : ∀ {l : List α}, l.length = 7 → ∃ a b c d e f g, l = [a, b, c, d, e, f, g]
  | [a, b, c, d, e, f, g], _ => ⟨a, b, c, d, e, f, g, rfl⟩
structure SnWf (s : Sn) : Prop where
  id : inI s.id
  parent : inI s.parent
  seq : inI s.seq
  day : inI s.day
  index : inI s.index
  files : ∀ x ∈ s.files, FileWf x
theorem snap_of_trod {H : Type} {enc : TypeId × Value → H} {W : World} {base fuel : Nat} {sp : Nat → Bool} {held : Bool} {cs : List Value} {y : DataW H × List MemPlace} (h : DataW.trod enc Tryz.prog W base sp held fuel 25 cs = some y) :
    ∃ (u : Value) (x : Sn), cs = [.int .i64 x.id, .int .i64 x.parent, .int .i64 x.seq, .int .i64 x.day, .int .i64 x.index, S x.op, u] ∧ FilesAt W u x.files ∧ SnWf x := by
  obtain ⟨xs, n, _, _, hl, hxs, hf⟩ := DataW.trod_struct Tryz.underlying25 h
  rw [cellsSnap] at hl
  obtain ⟨c0, c1, c2, c3, c4, c5, c6, rfl⟩ := seven_of hl
  have f0 := hf 0 _ rfl
  have f1 := hf 1 _ rfl
  have f2 := hf 2 _ rfl
  have f3 := hf 3 _ rfl
  have f4 := hf 4 _ rfl
  have f5 := hf 5 _ rfl
  have f6 := hf 6 _ rfl
  obtain ⟨x0, e0⟩ := some_ix hxs (k := 0) (by decide)
  obtain ⟨x1, e1⟩ := some_ix hxs (k := 1) (by decide)
  obtain ⟨x2, e2⟩ := some_ix hxs (k := 2) (by decide)
  obtain ⟨x3, e3⟩ := some_ix hxs (k := 3) (by decide)
  obtain ⟨x4, e4⟩ := some_ix hxs (k := 4) (by decide)
  obtain ⟨x5, e5⟩ := some_ix hxs (k := 5) (by decide)
  obtain ⟨x6, e6⟩ := some_ix hxs (k := 6) (by decide)
  rw [e0] at f0; rw [e1] at f1; rw [e2] at f2; rw [e3] at f3; rw [e4] at f4; rw [e5] at f5; rw [e6] at f6
  obtain ⟨m0, h0, _, w0⟩ := DataW.trod_int Tryz.underlying3 f0
  obtain ⟨m1, h1, _, w1⟩ := DataW.trod_int Tryz.underlying3 f1
  obtain ⟨m2, h2, _, w2⟩ := DataW.trod_int Tryz.underlying3 f2
  obtain ⟨m3, h3, _, w3⟩ := DataW.trod_int Tryz.underlying3 f3
  obtain ⟨m4, h4, _, w4⟩ := DataW.trod_int Tryz.underlying3 f4
  obtain ⟨s5, h5, _, _⟩ := DataW.trod_string Tryz.underlying9 f5
  obtain ⟨u, l, h6, ha, hw⟩ := slice_came encF 6 (by decide) _ _ Tryz.underlying23 cellsFile FileWf (fun _ _ _ _ _ ht => file_of_trod ht) f6
  simp [cellsStrF, cellsInt, cellsFiles] at h0 h1 h2 h3 h4 h5 h6
  subst h0 h1 h2 h3 h4 h5 h6
  exact ⟨_, ⟨m0, m1, m2, m3, m4, s5.data.toList, l⟩, by simp, ha, ⟨bounds_i64 w0, bounds_i64 w1, bounds_i64 w2, bounds_i64 w3, bounds_i64 w4, hw⟩⟩
set_option maxRecDepth 100000 in
/-- A snap by value. -/
theorem snap_came {H : Type} {enc : TypeId × Value → H} {W : World} {base : Nat} {sp : Nat → Bool} {v : Value} {d : DataW H} {p : List MemPlace} (hv : Value.okWide Tryz.prog W .any base 25 v)
    (h : DataW.Trod enc Tryz.prog W 0 sp true 25 v d p) : ∃ u s, v = snapV s u ∧ FilesAt W u s.files ∧ SnWf s := by
  obtain ⟨cs, rfl, hsz⟩ := okWide_struct Tryz.underlying25 hv
  obtain ⟨fuel, hf⟩ := h
  obtain ⟨u, x, h1, h2, h3⟩ := snap_of_trod hf
  refine ⟨u, x, ?_, h2, h3⟩
  simp only [Value.cells] at h1
  exact congrArg Value.agg (Array.toList_inj.1 h1)
end Go.Proofs.YtpfohfihkmjnaaaGreatDoor
namespace Go.Proofs.YtpfohfihkmjnaaaGreatDoor
open Go.ChangeShapes Go.WideShapes Go.ChangeAt Go.RowKit

theorem cellsRow : Tryz.prog.cellsOf 106 = 3 := by kernel_rfl
theorem three_of {α : Type} : ∀ {l : List α}, l.length = 3 → ∃ a b c, l = [a, b, c]
  | [a, b, c], _ => ⟨a, b, c, rfl⟩
theorem row_of_trod {H : Type} {enc : TypeId × Value → H} {W : World} {base fuel : Nat} {sp : Nat → Bool} {held : Bool} {cs : List Value} {y : DataW H × List MemPlace} (h : DataW.trod enc Tryz.prog W base sp held fuel 106 cs = some y) :
    ∃ x : Rw, cs = encR x ∧ (encR x).length = 3 ∧ RowWf x := by
  obtain ⟨xs, n, _, _, hl, hxs, hf⟩ := DataW.trod_struct Tryz.underlying106 h
  rw [cellsRow] at hl
  obtain ⟨c0, c1, c2, rfl⟩ := three_of hl
  have f0 := hf 0 _ rfl
  have f1 := hf 1 _ rfl
  have f2 := hf 2 _ rfl
  obtain ⟨x0, e0⟩ := some_ix hxs (k := 0) (by decide)
  obtain ⟨x1, e1⟩ := some_ix hxs (k := 1) (by decide)
  obtain ⟨x2, e2⟩ := some_ix hxs (k := 2) (by decide)
  rw [e0] at f0; rw [e1] at f1; rw [e2] at f2
  obtain ⟨s0, h0, _, _⟩ := DataW.trod_string Tryz.underlying9 f0
  obtain ⟨m1, h1, _, w1⟩ := DataW.trod_int Tryz.underlying3 f1
  obtain ⟨m2, h2, _, w2⟩ := DataW.trod_int Tryz.underlying3 f2
  simp [cellsStrF, cellsInt] at h0 h1 h2
  subst h0 h1 h2
  exact ⟨⟨s0.data.toList, m1, m2⟩, by simp, rfl, bounds_i64 w1, bounds_i64 w2⟩
set_option maxRecDepth 100000 in
/-- A slice of rows that came in. -/
theorem rows_came {H : Type} {enc : TypeId × Value → H} {W : World} {base : Nat} {sp : Nat → Bool} {v : Value} {d : DataW H} {p : List MemPlace} (hv : Value.okWide Tryz.prog W .any base 44 v)
    (h : DataW.Trod enc Tryz.prog W 0 sp true 44 v d p) : ∃ l, RowsAt W v l ∧ ∀ x ∈ l, RowWf x :=
  param_came encR 3 (by decide) _ _ Tryz.underlying44 cellsRow RowWf (fun _ _ _ _ _ ht => row_of_trod ht) hv h
end Go.Proofs.YtpfohfihkmjnaaaGreatDoor
namespace Go.Proofs.YtpfohfihkmjnaaaGreatDoor
open Go.ChangeShapes Go.WideShapes Go.ChangeAt Go.RowKit

theorem cellsPc : Tryz.prog.cellsOf 71 = 6 := by kernel_rfl
theorem cellsRows : Tryz.prog.cellsOf 44 = 1 := by kernel_rfl
theorem cellsInts : Tryz.prog.cellsOf 69 = 1 := by kernel_rfl
structure PcWf (W : World) (x : Pc) : Prop where
  seq : inI x.seq
  ra : RowsAt W x.va x.rows
  ka : IntsAt W x.vk x.keys
  rw : ∀ r ∈ x.rows, RowWf r
  kw : ∀ k ∈ x.keys, inI k
theorem int_of_trod {H : Type} {enc : TypeId × Value → H} {W : World} {base fuel : Nat} {sp : Nat → Bool} {held : Bool} {cs : List Value} {y : DataW H × List MemPlace} (h : DataW.trod enc Tryz.prog W base sp held fuel 3 cs = some y) :
    ∃ n : Int, cs = encI n ∧ (encI n).length = 1 ∧ inI n := by
  obtain ⟨m, h0, _, w⟩ := DataW.trod_int Tryz.underlying3 h
  exact ⟨m, by rw [h0], rfl, bounds_i64 w⟩
theorem pc_of_trod {H : Type} {enc : TypeId × Value → H} {W : World} {base fuel : Nat} {sp : Nat → Bool} {held : Bool} {cs : List Value} {y : DataW H × List MemPlace} (h : DataW.trod enc Tryz.prog W base sp held fuel 71 cs = some y) :
    ∃ x : Pc, cs = encPc x ∧ (encPc x).length = 6 ∧ PcWf W x := by
  obtain ⟨xs, n, _, _, hl, hxs, hf⟩ := DataW.trod_struct Tryz.underlying71 h
  rw [cellsPc] at hl
  obtain ⟨c0, c1, c2, c3, c4, c5, rfl⟩ := six_of hl
  have f0 := hf 0 _ rfl
  have f1 := hf 1 _ rfl
  have f2 := hf 2 _ rfl
  have f3 := hf 3 _ rfl
  have f4 := hf 4 _ rfl
  have f5 := hf 5 _ rfl
  obtain ⟨x0, e0⟩ := some_ix hxs (k := 0) (by decide)
  obtain ⟨x1, e1⟩ := some_ix hxs (k := 1) (by decide)
  obtain ⟨x2, e2⟩ := some_ix hxs (k := 2) (by decide)
  obtain ⟨x3, e3⟩ := some_ix hxs (k := 3) (by decide)
  obtain ⟨x4, e4⟩ := some_ix hxs (k := 4) (by decide)
  obtain ⟨x5, e5⟩ := some_ix hxs (k := 5) (by decide)
  rw [e0] at f0; rw [e1] at f1; rw [e2] at f2; rw [e3] at f3; rw [e4] at f4; rw [e5] at f5
  obtain ⟨s0, h0, _, _⟩ := DataW.trod_string Tryz.underlying9 f0
  obtain ⟨s1, h1, _, _⟩ := DataW.trod_string Tryz.underlying9 f1
  obtain ⟨s2, h2, _, _⟩ := DataW.trod_string Tryz.underlying9 f2
  obtain ⟨va, rs, h3, ha, hr⟩ := slice_came encR 3 (by decide) _ _ Tryz.underlying44 cellsRow RowWf (fun _ _ _ _ _ ht => row_of_trod ht) f3
  obtain ⟨vk, ks, h4, hka, hk⟩ := slice_came encI 1 (by decide) _ _ Tryz.underlying69 cellsInt inI (fun _ _ _ _ _ ht => int_of_trod ht) f4
  obtain ⟨m5, h5, _, w5⟩ := DataW.trod_int Tryz.underlying3 f5
  simp [cellsStrF, cellsInt, cellsRows, cellsInts] at h0 h1 h2 h3 h4 h5
  subst h0 h1 h2 h3 h4 h5
  refine ⟨⟨s0.data.toList, s1.data.toList, s2.data.toList, rs, ks, m5, _, _⟩, ?_, rfl, ⟨bounds_i64 w5, ha, hka, hr, hk⟩⟩
  simp
set_option maxRecDepth 100000 in
theorem pieces_came {H : Type} {enc : TypeId × Value → H} {W : World} {base : Nat} {sp : Nat → Bool} {v : Value} {d : DataW H} {p : List MemPlace} (hv : Value.okWide Tryz.prog W .any base 22 v)
    (h : DataW.Trod enc Tryz.prog W 0 sp true 22 v d p) : ∃ l, PiecesAt W v l ∧ ∀ x ∈ l, PcWf W x :=
  param_came encPc 6 (by decide) _ _ Tryz.underlying22 cellsPc (PcWf W) (fun _ _ _ _ _ ht => pc_of_trod ht) hv h
end Go.Proofs.YtpfohfihkmjnaaaGreatDoor
