/- deedboxlaw3.ScanTells: what a scan tells is as the document's answer has it: the walk. Printed by gen_sc.py. From the row's condition on the listed variables to what the walks ask: the sentinels, and what errors.As reads. The builder with the row's listed variables and the world's shape both; slices of numbers that came in; the library's variables out of the condition. A slice that came in, of whatever elements; texts; files. Parameters that came in: a number, a text, a byte, a file by value; lists of five and six parameters. Snaps that came in: by value, and in a slice. A witness's world that has both: all listed data laid by the function, and the handle that errors.As reads. Rows that came in. A slice of pieces that came in. -/
import Derived.Test.YtefoaeamfkbgbaaGreatDoorSte1
import Derived.Test.YtefoaeamfkbgbaaGreatDoorSte2
import Derived.Test.YtefoaeamfkbgbaaGreatDoorP13
import Derived.Test.YtefoaeamfkbgbaaGreatDoorP1
import Derived.Deep.DeepCutAuto
import Derived.Deep.RegionHeld3
import Derived.Deep.RegionLaw
import Derived.OwnWalk
import Derived.BigQuiet
import Derived.LaidLaws
import Derived.LaidHandle
import Derived.Stop.LaidErr
import Derived.Test.YtefoaeamfkbgbaaGreatDoorP8
import Derived.HandedShaped
import Derived.OpenShut
import Derived.Carry
import Derived.Shelf.Vars
import Derived.ProofKit
import Derived.LaidMore
import Derived.Lay
import Derived.Test.YtefoaeamfkbgbaaGreatDoorP18
import Derived.Test.YtefoaeamfkbgbaaGreatDoorP10
import Derived.Test.YtefoaeamfkbgbaaGreatDoorP16
namespace Go.Proofs.YtefoaeamfkbgbaaGreatDoor
open Go.RowKit Go.Maps
theorem rows_len2 (os : List Ob) (s : Sn) (lo hi : Int) : (rowsL os s lo hi).length ≤ 2400 := by
  unfold rowsL
  split
  · rename_i h
    rw [sort_len]
    obtain ⟨hr, hf⟩ := rowsE_nil h
    have h1 := allUp_len (os := os) (l := pruneL s.files lo hi) (lo := lo) (hi := hi) hf
    have h2 : (pruneL s.files lo hi).length ≤ s.files.length := List.length_filter_le _ _
    have h3 := hr.lst.len
    unfold allO
    omega
  · simp
theorem asked_len {s : Sn} {l : List Fl} (h1 : s.files.length ≤ 61) (h2 : l.length ≤ 61) : (asked s l).files.length ≤ 61 := by
  unfold asked
  split
  · exact h2
  · exact h1
theorem own_past {α : Type} {enc : α → List Value} {e : TypeId} {sz B g : Nat} {w : World} {v : Value} {l : List α} (h : Own enc e sz B w v l) (hg : g < B) : v.ownBlock ≠ some g := fun h' => by
  have := (World.ownsRow.lt h g h').1
  omega
set_option maxHeartbeats 4000000 in
set_option maxRecDepth 20000 in
theorem scanTells_any (E : Nat → Addr) (B : Nat) (vp : Value) (l : List Pc) (v : Value) (s : Sn) (lo hi key : Int) (w : World) (hE : Errs allE E B w) (hA : AsVar w) (hgB : 12 < B) (hT : LNum B w) (hM : LMax B w) (hlp : PiecesAt w vp l) (hh : HeldPc w l) (hl : FilesAt w v s.files) :
    Calls Tryz.prog 5 #[vp, snapV s v, .int .i64 lo, .int .i64 hi, .int .i64 key] w fun e w' => e = .returned (.bool true) ∧ Below w.heap.size w w' := by
  have hBw := hE.le
  have hif := isIfaceE
  have X := Lib.hid (fun W (h : Below w.heap.size w W) => (⟨hE.below' h hBw, hT.below' h hBw, hM.below' h hBw⟩ : Errs allE E B W ∧ LNum B W ∧ LMax B W))
  have XF := Lib.hid (fun W (h : Below w.heap.size w W) => (⟨hlp.below h, hh.below h, hl.below h⟩ : PiecesAt W vp l ∧ HeldPc W l ∧ FilesAt W v s.files))
  have XA := Lib.hid (fun W (h : Below w.heap.size w W) => hA.below (h.mono hBw) hgB)
  obtain ⟨a, c, rfl, -, -⟩ := At.form' hl
  obtain ⟨ap, cp, rfl, -, -⟩ := At.form' hlp
  have hba : Below w.heap.size w (w.alloc (.cells #[.int .i64 s.id, .int .i64 s.parent, .int .i64 s.seq, .int .i64 s.day, .int .i64 s.index, S s.op, .slice a s.files.length c] 25)) := (Below.refl _ _).alloc (Nat.le_refl _) _
  have hg0 := heap_alloc_new w (.cells #[.int .i64 s.id, .int .i64 s.parent, .int .i64 s.seq, .int .i64 s.day, .int .i64 s.index, S s.op, .slice a s.files.length c] 25)
  have HG := Lib.hid (fun W (h : Below (w.alloc (.cells #[.int .i64 s.id, .int .i64 s.parent, .int .i64 s.seq, .int .i64 s.day, .int .i64 s.index, S s.op, .slice a s.files.length c] 25)).heap.size (w.alloc (.cells #[.int .i64 s.id, .int .i64 s.parent, .int .i64 s.seq, .int .i64 s.day, .int .i64 s.index, S s.op, .slice a s.files.length c] 25)) W) => rowKept hg0 h)
  have HSz := Lib.hid (Array.getElem?_eq_some_iff.1 hg0).1
  clear hE hT hM hlp hh hl hg0 hA
  go_enter Tryz.func5, Tryz.ntmps5
  go_upto_region 1 with fail
  generalize w.alloc (.cells #[.int .i64 s.id, .int .i64 s.parent, .int .i64 s.seq, .int .i64 s.day, .int .i64 s.index, S s.op, .slice a s.files.length c] 25) = w0 at *
  have HSc := Lib.hid (scanned_any E B w0 ((X.out _ hba).1.sub (by decide)) (X.out _ hba).2.1 (X.out _ hba).2.2)
  go_wp2_with fail
  refine HSc.out.mono ?_
  rintro e w1 ⟨rfl, hb1⟩
  have hbw1 := hba.trans (hb1.mono hba.size)
  have hlp := longPiecesD_any (.slice ap l.length cp) l w1 (XF.out _ hbw1).1 (XF.out _ hbw1).2.1
  clear HSc
  rcases Decidable.em (shortPcs l) with hsp | hsp
  case inr =>
    rw [decide_eq_false hsp, Bool.not_false] at hlp
    have HLp := Lib.hid hlp
    clear hsp hlp
    go_wp2_with fail
    refine HLp.out.mono ?_
    rintro e w2 ⟨rfl, rfl⟩
    go_wp2_with fail
    go_ret
    exact ⟨rfl, hbw1⟩
  rw [decide_eq_true hsp, Bool.not_true] at hlp
  have HLp := Lib.hid hlp
  have HSp := Lib.hid hsp
  clear hsp hlp
  obtain ⟨c0, c1, c2, c3, c4, c5, c6⟩ := snRow7 (HG.out _ hb1)
  have hls := longSnapD_any s _ w1 (XF.out _ hbw1).2.2
  rcases Decidable.em (shortS s) with hss | hss
  case inr =>
    rw [if_neg hss] at hls
    have HLs := Lib.hid hls
    clear hss hls
    go_wp2_with fail
    refine HLp.out.mono ?_
    rintro e w2 ⟨rfl, rfl⟩
    go_wp2_with fail
    refine HLs.out.mono ?_
    rintro e w2 ⟨rfl, hb2⟩
    go_wp2_with fail
    go_ret
    exact ⟨rfl, hbw1.trans (hb2.mono hbw1.size)⟩
  rw [if_pos hss] at hls
  have HLs := Lib.hid hls
  have HMs := Lib.hid hss.2.mid
  have HSl := Lib.hid hss.2.len
  clear hss hls
  go_wp2_with fail
  refine HLp.out.mono ?_
  rintro e w2 ⟨rfl, rfl⟩
  go_wp2_with fail
  refine HLs.out.mono ?_
  rintro e w2 ⟨rfl, hb2⟩
  have hbw2 := hbw1.trans (hb2.mono hbw1.size)
  have hb02 := hb1.trans (hb2.mono hb1.size)
  clear c0 c1 c2 c3 c4 c5 c6 HLp HLs
  have HTa := Lib.hid (tableL_any E B _ l w2 ((X.out _ hbw2).1.sub (by decide)) (XF.out _ hbw2).1 (XF.out _ hbw2).2.1 HSp.out)
  have hTb := TbOk.of (l := l) (fun p hp => (HSp.out.2 p hp).2.2.1) (by have := HSp.out.1; omega)
  have HTn : Hid (l.length ≤ 15) := Lib.hid HSp.out.1
  obtain ⟨t, ht⟩ : ∃ t, tableTb l = t := ⟨_, rfl⟩
  rw [ht] at HTa hTb
  have HTb := Lib.hid hTb
  have HTx : Hid (∀ o ∈ t.1.objs, o.text.length ≤ 10000) := Lib.hid (fun o ho => by have := hTb.txt o ho; omega)
  clear ht hTb
  go_wp2_with fail
  refine HTa.out.mono ?_
  rintro e w3 ⟨sb, mb, xb, vm, u, rfl, htw, hfl⟩
  have hb23 := htw.bel
  have hbw3 := hbw2.trans (hb23.mono hbw2.size)
  have hb03 := hb02.trans (hb23.mono hb02.size)
  have HN : Hid (w.heap.size ≠ sb ∧ w.heap.size ≠ mb ∧ w.heap.size ≠ xb) := Lib.hid (by have h1 := HSz.out; have h2 := htw.h1; have h3 := htw.h2; have h4 := htw.h3; have h5 := hb02.size; omega)
  have HTw := Lib.hid (htw.base hbw2)
  have HFl := Lib.hid hfl
  obtain ⟨au, cu, rfl, -, -⟩ := At.form' hfl
  clear HTa htw hfl hb23
  have hg3 := HG.out _ hb03
  obtain ⟨-, -, -, -, -, -, c6⟩ := snRow7 hg3
  have f6 := frozen_row (i := 6) hg3
  go_upto_if 51 with fail
  go_cut [] (fun wx => ∃ v2 : Value, wx.heap[w.heap.size]? = some (.cells #[.int .i64 (asked s t.2).id, .int .i64 (asked s t.2).parent, .int .i64 (asked s t.2).seq, .int .i64 (asked s t.2).day, .int .i64 (asked s t.2).index, S (asked s t.2).op, v2] 25 (0, 0)) ∧ FilesAt wx v2 (asked s t.2).files ∧ Twin w sb mb xb vm t.1 wx)
  case first =>
    by_cases hz : s.files = []
    case pos =>
      have hz1 : s.files.length = 0 := by rw [hz]; rfl
      have hz2 : ((s.files.length : Int) == 0) = true := by rw [hz1]; rfl
      have hak : asked s t.2 = { s with files := t.2 } := if_pos hz
      have HAk := Lib.hid hak
      have HG3 := Lib.hid hg3
      clear hz hak hg3
      go_wp2_with fail
      go_meet
      rw [HAk.out]
      exact ⟨_, snap_set HG3.out, filesAt_snap HG3.out rfl _ HFl.out, HTw.out.away HG3.out (Nat.le_refl _) HN.out.1 HN.out.2.1 HN.out.2.2 _⟩
    have hz1 : ¬ s.files.length = 0 := fun h => hz (List.eq_nil_of_length_eq_zero h)
    have hz2 : ((s.files.length : Int) == 0) = false := by simp; omega
    have hak : asked s t.2 = s := if_neg hz
    have HAk := Lib.hid hak
    have HG3 := Lib.hid hg3
    clear hz hak hg3
    go_wp2_with fail
    go_meet
    rw [HAk.out]
    exact ⟨_, HG3.out, (XF.out _ hbw3).2.2, HTw.out⟩
  case rest =>
  obtain ⟨v2, hg2, hfl2, htw2⟩ := hcut
  obtain ⟨w4, rfl⟩ : ∃ w4, w4 = wc := ⟨wc, rfl⟩
  have HM2 := Lib.hid (asked_mid (s := s) (l := t.2) HMs.out HTb.out.mid)
  have HS2l := Lib.hid (asked_len (s := s) (l := t.2) HSl.out (by have h1 := HTb.out.len; have h2 := HTn.out; omega))
  obtain ⟨s2, hs2⟩ : ∃ s2, asked s t.2 = s2 := ⟨_, rfl⟩
  rw [hs2] at hg2 hfl2 HM2 HS2l
  obtain ⟨a2, c2, rfl, -, -⟩ := At.form' hfl2
  have hbw4 := htw2.bel
  have HGs := Lib.hid (fun W (h : Below w4.heap.size w4 W) => snRow7 (rowKept hg2 h))
  have HFl2 := Lib.hid hfl2
  have HTw2 := Lib.hid htw2
  have HX4 := Lib.hid (fun W (h : Below w4.heap.size w4 W) => X.out W (hbw4.trans (h.mono hbw4.size)))
  clear c6 f6 hg3 hg2 hfl2 htw2 hs2 HG
  have XA4 := Lib.hid (fun W (h : Below w4.heap.size w4 W) => XA.out W (hbw4.trans (h.mono hbw4.size)))
  have HOw := Lib.hid (fun W (h : Below w4.heap.size w4 W) => ownSnap_any s2 (.slice a2 s2.files.length c2) W (HFl2.out.below h) (by have := HS2l.out; omega))
  have HRf := Lib.hid (fun lo hi W (h : Below w4.heap.size w4 W) => rowsOf_any w.heap.size xb vm t.1 s2 (.slice a2 s2.files.length c2) lo hi W (HTw2.out.mdl.below h) HTx.out (HFl2.out.below h) HM2.out)
  unfold RoPost at HRf
  have HRo := Lib.hid (fun a lo hi W (h : Below w4.heap.size w4 W) (hu : FilesAt W a s2.files) => scanRows_any E B sb mb t.1 s2 a lo hi W ((HX4.out W h).1.sub (by decide)) (HX4.out W h).2.1 (HX4.out W h).2.2 (HTw2.out.sto.below h) HTx.out hu HM2.out)
  have HCo := Lib.hid (fun a W (h : Below w4.heap.size w4 W) (hu : FilesAt W a s2.files) => scanCount_any E B sb mb t.1 s2 a W ((HX4.out W h).1.sub (by decide)) (HX4.out W h).2.1 (HX4.out W h).2.2 (HTw2.out.sto.below h) HTx.out hu HM2.out)
  have HLe := Lib.hid (fun lo hi => rows_len2 t.1.objs s2 lo hi)
  have HFi := Lib.hid (fun a W (h : Below w4.heap.size w4 W) (hu : FilesAt W a s2.files) => scanFindO_any E B sb mb t.1 s2 a key W ((HX4.out W h).1.sub (by decide)) (HX4.out W h).2.1 (HX4.out W h).2.2 (HTw2.out.sto.below h) HTx.out hu HM2.out (by have := HLe.out key key; omega))
  have HFa := Lib.hid (fun lo hi (h1 : lo ≤ -1073741824) (h2 : 1073741824 ≤ hi) => And.intro (rowsE_far (os := t.1.objs) (s := s2) h1 h2) (rowsL_far (os := t.1.objs) (s := s2) h1 h2))
  obtain ⟨c0, c1, c2', c3, c4, c5, c6⟩ := HGs.out w4 (Below.refl _ _)
  have HOw1 := Lib.hid (HOw.out w4 (Below.refl _ _))
  go_wp2_with fail
  refine HOw1.out.mono ?_
  rintro e w5 ⟨u0, rfl, hu0, hb5⟩
  clear c0 c1 c2' c3 c4 c5 c6 HOw1
  obtain ⟨a5, c5, rfl, -, -⟩ := At.form' hu0
  have HRo1 := Lib.hid (HRo.out _ lo hi w5 hb5 hu0)
  clear hu0
  go_wp2_with fail
  refine HRo1.out.mono ?_
  rintro e w6 ⟨u1, ev1, rfl, hev1, hu1, hb6⟩
  clear HRo1
  have hb46 := hb5.trans (hb6.mono hb5.size)
  have hro1 := HRf.out lo hi w6 hb46
  obtain ⟨er, her⟩ : ∃ er, rowsE t.1.objs s2 lo hi = er := ⟨_, rfl⟩
  obtain ⟨A, hA⟩ : ∃ A, rowsL t.1.objs s2 lo hi = A := ⟨_, rfl⟩
  rw [her] at hev1 hro1
  rw [hA] at hu1 hro1
  have HRf1 := Lib.hid hro1
  obtain ⟨c0, c1, c2', c3, c4, c5', c6⟩ := HGs.out w6 hb46
  clear her hA hro1
  go_wp2_with fail
  refine HRf1.out.mono ?_
  rintro e w7 ⟨u2, rfl, hu2, hb7⟩
  clear c0 c1 c2' c3 c4 c5' c6 HRf1
  have hb47 := hb46.trans (hb7.mono hb46.size)
  rw [show faultOf er = .agg #[.int .i64 (er.code : Nat), .int .i64 er.place] from rfl]
  obtain ⟨a6, c6, rfl, -, -⟩ := At.form' hu1
  obtain ⟨a7, c7, rfl, -, -⟩ := At.form' hu2
  have hba8 : Below w7.heap.size w7 (w7.alloc (.cells #[.int .i64 (er.code : Nat), .int .i64 er.place] 58)) := (Below.refl _ _).alloc (Nat.le_refl _) _
  have hg8 := heap_alloc_new w7 (.cells #[.int .i64 (er.code : Nat), .int .i64 er.place] 58)
  have hb48 := hb47.trans (hba8.mono hb47.size)
  have HU1 := Lib.hid (hu1.below (hb7.trans (hba8.mono hb7.size)))
  have HU2 := Lib.hid (hu2.below hba8)
  have HEv1 := Lib.hid (hev1.below (hb7.trans (hba8.mono hb7.size)))
  have HG4 : Hid (w4.heap.size ≤ w7.heap.size) := Lib.hid hb47.size
  clear hu1 hu2 hev1 hba8
  go_upto_region 11 with fail
  generalize w7.alloc (.cells #[.int .i64 (er.code : Nat), .int .i64 er.place] 58) = w8 at *
  obtain ⟨G, hG⟩ : ∃ G, w7.heap.size = G := ⟨_, rfl⟩
  rw [hG] at hg8 HG4 ⊢
  clear hG
  obtain ⟨e0, e1, -⟩ := faultRow hg8
  have HFt := Lib.hid (faultedAt3_any E B er ev1 w8 (HX4.out w8 hb48).1 (XA4.out w8 hb48) hgB HEv1.out)
  go_wp2_with fail
  refine HFt.out.mono ?_
  rintro e w9 ⟨rfl, hb9⟩
  clear e0 e1 HFt HEv1
  have hb49 := hb48.trans (hb9.mono hb48.size)
  have hg9 := rowKept hg8 hb9
  have hsm := sameRows_any _ _ A A w9 (HU1.out.below hb9) (HU2.out.below hb9)
  rw [decide_eq_true rfl] at hsm
  have HSm := Lib.hid hsm
  clear hsm HU1 HU2 hg8
  go_wp2_with fail
  refine HSm.out.mono ?_
  rintro e wA ⟨rfl, hbA⟩
  have hb4A := hb49.trans (hbA.mono hb49.size)
  have hgA := rowKept hg9 hbA
  clear HSm hg9
  obtain ⟨c0, c1, c2', c3, c4, c5', c6'⟩ := HGs.out wA hb4A
  have HOw1 := Lib.hid (HOw.out wA hb4A)
  go_wp2_with fail
  refine HOw1.out.mono ?_
  rintro e wB ⟨u0, rfl, hu0, hbB⟩
  clear c0 c1 c2' c3 c4 c5' c6' HOw1
  have hb4B := hb4A.trans (hbB.mono hb4A.size)
  obtain ⟨a8, c8, rfl, -, -⟩ := At.form' hu0
  have hco := HCo.out _ wB hb4B hu0
  obtain ⟨er2, her⟩ : ∃ er, rowsE t.1.objs s2 iMin iMax = er := ⟨_, rfl⟩
  obtain ⟨A2, hA⟩ : ∃ A, rowsL t.1.objs s2 iMin iMax = A := ⟨_, rfl⟩
  rw [her, hA] at hco
  have HCo1 := Lib.hid hco
  clear hu0 hco
  go_wp2_with fail
  refine HCo1.out.mono ?_
  rintro e wC ⟨ev2, rfl, hev2, hbC⟩
  clear HCo1
  have hb4C := hb4B.trans (hbC.mono hb4B.size)
  have hgC := rowKept hgA (hbB.trans (hbC.mono hbB.size))
  obtain ⟨c0, c1, c2', c3, c4, c5', c6'⟩ := HGs.out wC hb4C
  have hro1 := HRf.out (-1099511627776) 1099511627776 wC hb4C
  have hfar := HFa.out (-1099511627776) 1099511627776 (by omega) (by omega)
  rw [hfar.1, hfar.2, her, hA] at hro1
  have HRf1 := Lib.hid hro1
  clear her hA hro1 hgA hfar
  go_wp2_with fail
  refine HRf1.out.mono ?_
  rintro e wD ⟨u3, rfl, hu3, hbD⟩
  clear c0 c1 c2' c3 c4 c5' c6' HRf1
  have hb4D := hb4C.trans (hbD.mono hb4C.size)
  have hgD := rowKept hgC hbD
  rw [show faultOf er2 = .agg #[.int .i64 (er2.code : Nat), .int .i64 er2.place] from rfl]
  obtain ⟨a9, c9, rfl, -, -⟩ := At.form' hu3
  obtain ⟨e0, e1, ez⟩ := faultRow hgD
  have f0 := ez 0; have f1 := ez 1
  have hb4E := (hb4D.setCell (p := ⟨G, 0, none⟩) HG4.out (.int .i64 (er2.code : Nat))).setCell (p := ⟨G, 1, none⟩) HG4.out (.int .i64 er2.place)
  have hgE := set_two hgD (.int .i64 (er2.code : Nat)) (.int .i64 er2.place)
  have hevE := (hev2.below hbD).apart e1 (two_apart (W := wD) (g := G) (.int .i64 (er2.code : Nat)) (.int .i64 er2.place))
  have HEv2 := Lib.hid hevE
  clear hu3 hev2 hevE hgC ez
  go_upto_region 15 with fail
  generalize (wD.setCell ⟨G, 0, none⟩ (.int .i64 (er2.code : Nat))).setCell ⟨G, 1, none⟩ (.int .i64 er2.place) = wE at *
  clear e0 e1 f0 f1 hgD
  obtain ⟨e0, e1, -⟩ := faultRow hgE
  have HFt := Lib.hid (faultedAt3_any E B er2 ev2 wE (HX4.out wE hb4E).1 (XA4.out wE hb4E) hgB HEv2.out)
  have gn : ((A2.length : Int) != (A2.length : Int)) = false := by simp
  go_wp2_with fail
  refine HFt.out.mono ?_
  rintro e wF ⟨rfl, hbF⟩
  clear e0 e1 HFt HEv2
  have hb4F := hb4E.trans (hbF.mono hb4E.size)
  have hgF := rowKept hgE hbF
  obtain ⟨c0, c1, c2', c3, c4, c5', c6'⟩ := HGs.out wF hb4F
  have HOw1 := Lib.hid (HOw.out wF hb4F)
  clear hgE
  go_wp2_with fail
  refine HOw1.out.mono ?_
  rintro e wG ⟨u0, rfl, hu0, hbG⟩
  clear c0 c1 c2' c3 c4 c5' c6' HOw1 gn
  have hb4G := hb4F.trans (hbG.mono hb4F.size)
  have hgG := rowKept hgF hbG
  have HGl : Hid (G < wG.heap.size) := Lib.hid (Array.getElem?_eq_some_iff.1 hgG).1
  obtain ⟨aG, cG, rfl, -, -⟩ := At.form' hu0
  have hfi := HFi.out _ wG hb4G hu0
  obtain ⟨er3, her⟩ : ∃ er, rowsE t.1.objs s2 key key = er := ⟨_, rfl⟩
  obtain ⟨R, hA⟩ : ∃ A, rowsL t.1.objs s2 key key = A := ⟨_, rfl⟩
  have hRl := HLe.out key key
  rw [hA] at hRl
  rw [her, hA] at hfi
  have HFi1 := Lib.hid hfi
  have HRl := Lib.hid hRl
  clear hu0 hfi hgF hRl
  go_wp2_with fail
  refine HFi1.out.mono ?_
  rintro e wH ⟨u4, ev3, rfl, hev3, hu4, hbH⟩
  clear HFi1
  have hb4H := hb4G.trans (hbH.mono hb4G.size)
  have hgH := rowKept hgG hbH
  obtain ⟨c0, c1, c2', c3, c4, c5', c6'⟩ := HGs.out wH hb4H
  have hro1 := HRf.out key key wH hb4H
  rw [her, hA] at hro1
  have HRf1 := Lib.hid hro1
  clear her hA hro1 hgG
  go_wp2_with fail
  refine HRf1.out.mono ?_
  rintro e wI ⟨u5, rfl, hu5, hbI⟩
  clear c0 c1 c2' c3 c4 c5' c6' HRf1
  have hb4I := hb4H.trans (hbI.mono hb4H.size)
  have hgI := rowKept hgH hbI
  rw [show faultOf er3 = .agg #[.int .i64 (er3.code : Nat), .int .i64 er3.place] from rfl]
  obtain ⟨e0, e1, ez⟩ := faultRow hgI
  have f0 := ez 0; have f1 := ez 1
  have hb4J := (hb4I.setCell (p := ⟨G, 0, none⟩) HG4.out (.int .i64 (er3.code : Nat))).setCell (p := ⟨G, 1, none⟩) HG4.out (.int .i64 er3.place)
  have hgJ := set_two hgI (.int .i64 (er3.code : Nat)) (.int .i64 er3.place)
  have hevJ := (hev3.below hbI).apart e1 (two_apart (W := wI) (g := G) (.int .i64 (er3.code : Nat)) (.int .i64 er3.place))
  have huJ := rowsAt_away hgI (.int .i64 (er3.code : Nat)) (.int .i64 er3.place) hu5
  have hu4I := hu4.below hbI
  have hvJ := (own_but (own_but hu4I (own_past hu4I HGl.out) (own_past hu4I HGl.out) (But2.set (sb := G) (mb := G) wI 0 (.int .i64 (er3.code : Nat)))) (own_past hu4I HGl.out) (own_past hu4I HGl.out) (But2.set (sb := G) (mb := G) _ 1 (.int .i64 er3.place))).at encI_enc
  have HEv3 := Lib.hid hevJ
  have HVJ := Lib.hid hvJ
  obtain ⟨aJ, cJ, rfl, -, -⟩ := At.form' hvJ
  obtain ⟨aR, cR, bR, oR, rfl, haR, hcR, hcmR, hxR⟩ := huJ
  unfold maxLen at hcmR
  have HXR := Lib.hid hxR
  clear hu5 hev3 hevJ hgH ez hu4 hu4I hvJ hxR
  go_upto_region 19 with fail
  generalize (wI.setCell ⟨G, 0, none⟩ (.int .i64 (er3.code : Nat))).setCell ⟨G, 1, none⟩ (.int .i64 er3.place) = wJ at *
  clear e0 e1 f0 f1 hgI
  have HGJ := Lib.hid hgJ
  clear hgJ
  go_wp2_with fail
  go_loopw [21, 22] (fun u i wr => ∃ (k : Nat) (Q : List Int) (vw : Value), k ≤ R.length ∧ i = .int .i64 k ∧ vw = u ∧ Q.length = k ∧ Hid (Q = insAll ((R.take k).map (·.val))) ∧ Hid (IntsAt wr vw Q) ∧ Below wJ.heap.size wJ wr) (fun _ i _ => R.length - (intOf i).toNat)
  case atStart => exact ⟨0, [], _, by omega, rfl, rfl, rfl, Lib.hid (by rw [List.take_zero]; rfl), Lib.hid (At.nil _ _ _), Below.refl _ _⟩
  case round =>
    obtain ⟨k, Q, vw, hk, rfl, rfl, hQl, hQ, hq, hb⟩ := hrel
    obtain ⟨wo, rfl⟩ : ∃ wo, wo = wr := ⟨wr, rfl⟩
    by_cases hlt : k < R.length
    case neg =>
      obtain rfl : k = R.length := by omega
      have f9 : decide ((R.length : Int) < (R.length : Int)) = false := by simp
      have HQv : Hid (Q = valsR R) := Lib.hid (by rw [hQ.out, List.take_length, insAll_sort]; rfl)
      have hb4o := hb4J.trans (hb.mono hb4J.size)
      obtain ⟨c0, c1, c2', c3, c4, c5', c6'⟩ := HGs.out wo hb4o
      have HNl := Lib.hid (scanRowsNil_any E B s2 (.slice a2 s2.files.length c2) lo hi wo ((HX4.out wo hb4o).1.sub (by decide)) (HFl2.out.below hb4o))
      obtain ⟨aw, cw, rfl, -, -⟩ := At.form' hq.out
      clear hQl
      go_wp2_with fail
      refine HNl.out.mono ?_
      rintro e wK ⟨ev4, rfl, hev4, hbK⟩
      clear c0 c1 c2' c3 c4 c5' c6' HNl
      have hb4K := hb4o.trans (hbK.mono hb4o.size)
      have hJK := hb.trans (hbK.mono hb.size)
      obtain ⟨e0, e1, -⟩ := faultRow (rowKept HGJ.out hJK)
      have HFt := Lib.hid (faultedAt3_any E B er3 ev3 wK (HX4.out wK hb4K).1 (XA4.out wK hb4K) hgB (HEv3.out.below hJK))
      go_wp2_with fail
      refine HFt.out.mono ?_
      rintro e wL ⟨rfl, hbL⟩
      clear e0 e1 HFt
      have hb4L := hb4K.trans (hbL.mono hb4K.size)
      have hsi := sameInts_any _ _ (valsR R) Q wL (HVJ.out.below (hJK.trans (hbL.mono hJK.size))) (hq.out.below (hbK.trans (hbL.mono hbK.size)))
      rw [decide_eq_true HQv.out.symm] at hsi
      have HSi := Lib.hid hsi
      have HEv4 := Lib.hid (hev4.below hbL)
      clear hsi hev4
      go_wp2_with fail
      refine HSi.out.mono ?_
      rintro e wM ⟨rfl, hbM⟩
      have hb4M := hb4L.trans (hbM.mono hb4L.size)
      have HCd := Lib.hid (codedT3_any E B 3 ev4 wM (HX4.out wM hb4M).1 (XA4.out wM hb4M) (HEv4.out.below hbM))
      go_wp2_with fail
      refine HCd.out.mono ?_
      rintro e wN ⟨rfl, hbN⟩
      go_wp2_with fail
      go_ret
      exact ⟨rfl, hbw4.trans ((hb4M.trans (hbN.mono hb4M.size)).mono hbw4.size)⟩
    obtain ⟨x, hxk⟩ := get_ex hlt
    have CX := Lib.hid (fun W (h : Below wJ.heap.size wJ W) => rwCells HXR.out h hxk)
    have i1 := idx_at (c := cR) 3 Tryz.underlying39 szRw haR k hlt
    have hk1 : (k : Int) < (R.length : Int) := by omega
    have hup : Q.Pairwise (· ≤ ·) := by rw [hQ.out]; exact insAll_up _
    have HQ2 : Hid (insAll ((R.take (k + 1)).map (·.val)) = insV x.val Q) := Lib.hid (by rw [take_snoc' hxk, List.map_append, List.map_singleton, insV_snoc, hQ.out])
    have HUp := Lib.hid hup
    have HU := Lib.hid hq.out
    obtain ⟨au', cu', bu, ou, rfl, hau, hcu, hcmu, hxu⟩ := hq.out
    unfold maxLen at hcmu
    rw [hQl] at hau hcu ⊢
    have Hql := Lib.hid hQl
    have HXu := Lib.hid hxu
    clear hQ hup hxk hQl hxu hq
    go_upto_block 2 with fail
    go_cut [23] (fun u wx => ∃ p : Nat, u = .int .i64 p ∧ p ≤ k ∧ (∀ (j : Nat) (y : Int), p ≤ j → Q[j]? = some y → x.val < y) ∧ (∀ y, 0 < p → Q[p - 1]? = some y → y ≤ x.val) ∧ Below wo.heap.size wo wx)
    case first =>
      go_wp2_with fail
      go_loopw [23] (fun u wx => ∃ p : Nat, u = .int .i64 p ∧ p ≤ k ∧ Hid (∀ (j : Nat) (y : Int), p ≤ j → Q[j]? = some y → x.val < y) ∧ Below wo.heap.size wo wx) (fun i _ => (intOf i).toNat)
      case atStart => exact ⟨k, rfl, Nat.le_refl _, Lib.hid fun j y hj hy => absurd (List.getElem?_eq_some_iff.1 hy).1 (by have := Hql.out; omega), Below.refl _ _⟩
      case round =>
        obtain ⟨p, rfl, hp, hj, hbx⟩ := hrel
        by_cases hp0 : p = 0
        · subst hp0
          have g0 : decide ((0 : Int) < ((0 : Nat) : Int)) = false := by simp
          go_wp2_with fail
          go_quiet (fail)
          go_wp2_with fail
          go_meet
          exact ⟨0, rfl, by omega, hj.out, fun y h => absurd h (by omega), Bdn hbx _⟩
        have hp1 : (0 : Int) < p := by omega
        obtain ⟨y, hyp⟩ := get_ex (l := Q) (k := p - 1) (by have := Hql.out; omega)
        have hcast : ((p - 1 : Nat) : Int) = (p : Int) - 1 := by omega
        have i2 := idx_at (c := cu') 1 Tryz.underlying26 szInt hau (p - 1) (by omega)
        simp only [hcast, Nat.mul_one] at i2
        have hwk : IntKind.i64.wrap ((p : Int) - 1) = (p : Int) - 1 := by rw [IntKind.wrap_i64]; omega
        have hwk2 : wrap64 ((p : Int) - 1) = (p : Int) - 1 := IntWalk.wrap64_in _ (by omega)
        have hp2 : (0 : Int) ≤ (p : Int) - 1 := by omega
        have hp3 : (1 : Int) ≤ (p : Int) := by omega
        have hp4 : 0 < p := by omega
        obtain ⟨r0, r1, r2⟩ := CX.out _ (hb.trans (hbx.mono hb.size))
        have x0 := (hbx.cell (World.block_lt_of_cell? _ _ (HXu.out (p - 1) y hyp 0 _ rfl))).trans (HXu.out (p - 1) y hyp 0 _ rfl)
        simp only [Nat.mul_one, Nat.add_zero] at x0
        have HY := Lib.hid hyp
        clear hyp hcast hp0
        by_cases hls : x.val < y
        · have HLs := Lib.hid hls
          go_wp2_with fail
          go_quiet (fail)
          go_wp2_with fail
          refine ⟨⟨p - 1, by go_num, by omega, Lib.hid fun j z hj' hz => ?_, Bdn hbx _⟩, by simp [intOf]; omega⟩
          rcases Nat.lt_or_ge j p with h | h
          · obtain rfl : j = p - 1 := by omega
            rw [HY.out] at hz; cases hz; exact HLs.out
          · exact hj.out j z h hz
        · have hls2 : decide (x.val < y) = false := decide_eq_false hls
          have HLs : Hid (y ≤ x.val) := Lib.hid (by omega)
          clear hls
          go_wp2_with fail
          go_quiet (fail)
          go_wp2_with fail
          go_meet
          refine ⟨p, rfl, hp, hj.out, fun z _ hz => ?_, Bdn hbx _⟩
          rw [HY.out] at hz; cases hz; exact HLs.out
    case rest =>
      obtain ⟨p, rfl, hp, h1, h2, hbx⟩ := hcut
      have HIns : Hid (insV x.val Q = Q.take p ++ x.val :: Q.drop p) := Lib.hid (insV_from HUp.out (by rw [Hql.out]; exact hp) h1 h2)
      clear h1 h2
      have hbW := hb.trans (hbx.mono hb.size)
      obtain ⟨hs1, hsA⟩ := sl_to (P := Tryz.prog) Tryz.underlying26 szInt HU.out p (by rw [Hql.out]; exact hp)
      obtain ⟨a2', c2', hs2, hsB⟩ := sl_from (P := Tryz.prog) Tryz.underlying26 szInt HU.out p (by rw [Hql.out]; exact hp)
      rw [Hql.out] at hs1 hs2 hsB
      have hlt1 : (Q.take p).length = p := by rw [List.length_take, Hql.out]; omega
      have hld1 : (Q.drop p).length = k - p := by rw [List.length_drop, Hql.out]
      have hat1 := hsA.below hbx
      have hsrc1 := hat1.src encI_enc (by decide)
      rw [hlt1] at hsrc1
      have HB := Lib.hid (hsB.below hbx)
      have HLT := Lib.hid hlt1; have HLD := Lib.hid hld1
      have hRl2 := HRl.out
      clear hsA hsB hat1 hlt1 hld1
      go_wp2_with (first
        | (at_builtin; refine wpList_app rfl _ _ _ rfl wc.heap.size elInt (.slice none 0 0) 0 [] rfl (Own.nil encI _ 1 _ _) _ _ _ rfl hsrc1 (by unfold maxLen; omega) (by omega) (Nat.le_refl _) ?_; intro v1 w2' hown1 hg1 _; have hown1' : Own encI 3 1 wc.heap.size w2' v1 (Q.take p) := (by unfold Own; rw [HLT.out]; simpa using hown1); have hb2' : Below wc.heap.size wc w2' := (Below.refl _ _).grown hg1 (Nat.le_refl _) (fun k hk => by cases hk); obtain ⟨r0, r1, r2⟩ := CX.out _ (hbW.trans (hb2'.mono hbW.size)); clear hown1 hg1 hsrc1)
        | (at_builtin; refine wpList_app rfl _ _ _ rfl wc.heap.size elInt v1 (Q.take p).length _ rfl (hown1'.alloc _) (.slice (some ⟨w2'.heap.size, 0, none⟩) 1 1) 1 (encI x.val) rfl (src_one rfl rfl (by simp [Value.oneCell'])) (by rw [HLT.out]; unfold maxLen; omega) (by rw [HLT.out]; omega) (by have := hb2'.size; simp; omega) ?_; intro v2' w3' hown2 hg2 _; have hown2' := Own.snoc hown2; have hb3' : Below wc.heap.size wc w3' := (Bapp (hb2'.alloc hb2'.size _) (hown1'.alloc _) hg2 (Nat.le_refl _) (by have := hb2'.size; simp; omega)); have hsrc3 := (HB.out.below hb3').src encI_enc (by decide); rw [HLD.out] at hsrc3; have hl3 : (Q.take p ++ [x.val]).length = p + 1 := (by rw [List.length_append, HLT.out]; rfl); have HL3 := Lib.hid hl3; clear hown2 hg2 r0 r1 r2 hl3)
        | (at_builtin; refine wpList_app rfl _ _ _ rfl wc.heap.size elInt v2' (Q.take p ++ [x.val]).length _ rfl hown2' _ _ _ rfl hsrc3 (by rw [HL3.out]; unfold maxLen; omega) (by rw [HL3.out]; omega) hb3'.size ?_; intro v3 w4' hown3 hg3 _))
      have hown3' : Own encI 3 1 wc.heap.size w4' v3 (insV x.val Q) := by
        rw [HIns.out, show Q.take p ++ x.val :: Q.drop p = (Q.take p ++ [x.val]) ++ Q.drop p by simp]
        unfold Own
        rw [List.length_append, List.flatMap_append, HLD.out]
        exact hown3
      have hb4' := Bapp hb3' hown2' hg3 (Nat.le_refl _) hb3'.size
      have hbw4' := hbW.trans (hb4'.mono hbW.size)
      go_roundw
      case rel => exact ⟨k + 1, insV x.val Q, v3, by omega, by go_num, rfl, by rw [(insV_perm x.val Q).length_eq, List.length_cons, Hql.out], Lib.hid HQ2.out.symm, Lib.hid (hown3'.at encI_enc), hbw4'⟩
      case measure => simp [intOf]; omega
end Go.Proofs.YtefoaeamfkbgbaaGreatDoor
namespace Go.Proofs.YtefoaeamfkbgbaaGreatDoor
open Go.RowKit Go.ChangeShapes Go.WideShapes
def errName : Nat → String
  | 1 => "deedbox/api.ErrText" | 2 => "deedbox/api.ErrBound" | 3 => "deedbox/api.ErrShape" | 4 => "deedbox/api.ErrKind" | 5 => "deedbox/api.ErrName" | 6 => "deedbox/api.ErrNone"
  | 7 => "deedbox/api.ErrExist" | 8 => "deedbox/api.ErrFull" | 9 => "deedbox/api.ErrOrder" | 10 => "deedbox/api.ErrSum" | 11 => "deedbox/api.ErrStale" | _ => "deedbox/api.ErrOff"
theorem errName_inj : ∀ c ∈ allE, ∀ d ∈ allE, errName c = errName d → c = d := by decide
theorem laidVars_get {P : Program} {w : World} : ∀ {L : List (String × DataW Unit)} {ps : List MemPlace} {i : Nat} {n : String} {d : DataW Unit}, DataW.LaidVars P w L ps → L[i]? = some (n, d) →
    ∃ g t cs fuel p, P.globalNamed n = some g ∧ (P.globals[g]?).map (·.type) = some t ∧ w.var? P n = some cs ∧ DataW.trod (fun _ => ()) P w 0 (fun _ => true) false fuel t cs.toList = some (d, p) ∧ ∀ x ∈ MemPlace.row ⟨g, 0, none⟩ cs.size ++ p, x ∈ ps
  | [], _, i, n, d, _, hi => by simp at hi
  | (n0, d0) :: r, ps, 0, n, d, h, hi => by
    obtain ⟨g, t, cs, fuel, p, q, h1, h2, h3, h4, _, rfl⟩ := h
    simp only [List.getElem?_cons_zero, Option.some.injEq, Prod.mk.injEq] at hi
    obtain ⟨rfl, rfl⟩ := hi
    exact ⟨g, t, cs, fuel, p, h1, h2, h3, h4, fun x hx => List.mem_append_left _ hx⟩
  | (n0, d0) :: r, ps, i + 1, n, d, h, hi => by
    obtain ⟨g, t, cs, fuel, p, q, _, _, _, _, h5, rfl⟩ := h
    obtain ⟨g', t', cs', fuel', p', h1, h2, h3, h4, h6⟩ := laidVars_get h5 (by simpa using hi)
    exact ⟨g', t', cs', fuel', p', h1, h2, h3, h4, fun x hx => List.mem_append_right _ (h6 x hx)⟩
theorem laidVars_apart {P : Program} {w : World} : ∀ {L : List (String × DataW Unit)} {ps : List MemPlace} {i j : Nat} {n m : String} {d e : DataW Unit}, DataW.LaidVars P w L ps → ps.Nodup → i < j → L[i]? = some (n, d) → L[j]? = some (m, e) →
    ∃ (g : Nat) (t : TypeId) (cs : Array Value) (fuel : Nat) (p : List MemPlace) (g' : Nat) (t' : TypeId) (cs' : Array Value) (fuel' : Nat) (p' : List MemPlace), P.globalNamed n = some g ∧ (P.globals[g]?).map (·.type) = some t ∧ w.var? P n = some cs ∧ DataW.trod (fun _ => ()) P w 0 (fun _ => true) false fuel t cs.toList = some (d, p) ∧
      P.globalNamed m = some g' ∧ (P.globals[g']?).map (·.type) = some t' ∧ w.var? P m = some cs' ∧ DataW.trod (fun _ => ()) P w 0 (fun _ => true) false fuel' t' cs'.toList = some (e, p') ∧ ∀ x ∈ p, x ∉ p'
  | [], _, i, j, n, m, d, e, _, _, _, hi, _ => by simp at hi
  | (n0, d0) :: r, ps, 0, j + 1, n, m, d, e, h, hnd, _, hi, hj => by
    obtain ⟨g, t, cs, fuel, p, q, h1, h2, h3, h4, h5, rfl⟩ := h
    simp only [List.getElem?_cons_zero, Option.some.injEq, Prod.mk.injEq] at hi
    obtain ⟨rfl, rfl⟩ := hi
    obtain ⟨g', t', cs', fuel', p', h1', h2', h3', h4', h6⟩ := laidVars_get h5 (by simpa using hj)
    refine ⟨g, t, cs, fuel, p, g', t', cs', fuel', p', h1, h2, h3, h4, h1', h2', h3', h4', fun x hx hx' => ?_⟩
    have hd := (List.nodup_append.1 hnd).2.2
    exact hd x (List.mem_append_right _ hx) x (h6 x (List.mem_append_right _ hx')) rfl
  | (n0, d0) :: r, ps, i + 1, j + 1, n, m, d, e, h, hnd, hij, hi, hj => by
    obtain ⟨g, t, cs, fuel, p, q, _, _, _, _, h5, rfl⟩ := h
    exact laidVars_apart (i := i) (j := j) h5 (List.nodup_append.1 hnd).2.1 (by omega) (by simpa using hi) (by simpa using hj)
  | _ :: _, _, _, 0, _, _, _, _, _, _, hij, _, _ => by omega
/-- Behind what address a variable's error lies. -/
noncomputable def addrOf (W : World) (c : Nat) : Addr :=
  match W.var? Tryz.prog (errName c) with
  | some #[.iface _ (.pointer (some a))] => a
  | _ => ⟨0, 0, none⟩
theorem gn1 : Tryz.prog.globalNamed (errName 1) = some (errG 1) := by kernel_rfl
theorem gn2 : Tryz.prog.globalNamed (errName 2) = some (errG 2) := by kernel_rfl
theorem gn3 : Tryz.prog.globalNamed (errName 3) = some (errG 3) := by kernel_rfl
theorem gn4 : Tryz.prog.globalNamed (errName 4) = some (errG 4) := by kernel_rfl
theorem gn5 : Tryz.prog.globalNamed (errName 5) = some (errG 5) := by kernel_rfl
theorem gn6 : Tryz.prog.globalNamed (errName 6) = some (errG 6) := by kernel_rfl
theorem gn7 : Tryz.prog.globalNamed (errName 7) = some (errG 7) := by kernel_rfl
theorem gn8 : Tryz.prog.globalNamed (errName 8) = some (errG 8) := by kernel_rfl
theorem gn9 : Tryz.prog.globalNamed (errName 9) = some (errG 9) := by kernel_rfl
theorem gn10 : Tryz.prog.globalNamed (errName 10) = some (errG 10) := by kernel_rfl
theorem gn11 : Tryz.prog.globalNamed (errName 11) = some (errG 11) := by kernel_rfl
theorem gn12 : Tryz.prog.globalNamed (errName 12) = some (errG 12) := by kernel_rfl
theorem gt1 : (Tryz.prog.globals[errG 1]?).map (·.type) = some 35 := by kernel_rfl
theorem gt2 : (Tryz.prog.globals[errG 2]?).map (·.type) = some 35 := by kernel_rfl
theorem gt3 : (Tryz.prog.globals[errG 3]?).map (·.type) = some 35 := by kernel_rfl
theorem gt4 : (Tryz.prog.globals[errG 4]?).map (·.type) = some 35 := by kernel_rfl
theorem gt5 : (Tryz.prog.globals[errG 5]?).map (·.type) = some 35 := by kernel_rfl
theorem gt6 : (Tryz.prog.globals[errG 6]?).map (·.type) = some 35 := by kernel_rfl
theorem gt7 : (Tryz.prog.globals[errG 7]?).map (·.type) = some 35 := by kernel_rfl
theorem gt8 : (Tryz.prog.globals[errG 8]?).map (·.type) = some 35 := by kernel_rfl
theorem gt9 : (Tryz.prog.globals[errG 9]?).map (·.type) = some 35 := by kernel_rfl
theorem gt10 : (Tryz.prog.globals[errG 10]?).map (·.type) = some 35 := by kernel_rfl
theorem gt11 : (Tryz.prog.globals[errG 11]?).map (·.type) = some 35 := by kernel_rfl
theorem gt12 : (Tryz.prog.globals[errG 12]?).map (·.type) = some 35 := by kernel_rfl
theorem starE : "*" ++ "errors.errorString" = "*errors.errorString" := by decide
theorem rowE (u : TypeId) (h : Tryz.prog.typeName? 3 u = some "*errors.errorString") : u = 335 :=
  typeName_ptr_named (nm := "errors.errorString") (by rw [starE]; kernel_rfl) (by kernel_rfl) (by decide) u (by rw [starE]; exact h)
theorem cellsErrStr : Tryz.prog.cellsOf 337 = 1 := by kernel_rfl
theorem cellsStr : Tryz.prog.cellsOf 9 = 1 := by kernel_rfl
set_option maxRecDepth 100000 in
/-- WHAT THE CONDITION GIVES THE WALKS: the sentinels of the numbers D, where the list L bears each at the place idx says. -/
theorem errs_of_laid {L : List (String × DataW Unit)} {W : World} (h : laidMet Tryz.prog L W) (D : List Nat) (idx : Nat → Nat) (hD : ∀ c ∈ D, c ∈ allE)
    (hg : ∀ c ∈ D, Tryz.prog.globalNamed (errName c) = some (errG c)) (ht : ∀ c ∈ D, (Tryz.prog.globals[errG c]?).map (·.type) = some 35)
    (hL : ∀ c ∈ D, ∃ text, L[idx c]? = some (errName c, .iface "*errors.errorString" (.ptr (.agg [.lit (.string text)])))) :
    Errs D (addrOf W) W.heap.size W := by
  obtain ⟨ps, hv, hnd, hrows⟩ := h
  have key : ∀ c ∈ D, ∀ {g t cs fuel p text}, Tryz.prog.globalNamed (errName c) = some g → (Tryz.prog.globals[g]?).map (·.type) = some t → W.var? Tryz.prog (errName c) = some cs →
      DataW.trod (fun _ => ()) Tryz.prog W 0 (fun _ => true) false fuel t cs.toList = some (.iface "*errors.errorString" (.ptr (.agg [.lit (.string text)])), p) → (∀ x ∈ MemPlace.row ⟨g, 0, none⟩ cs.size, x ∈ ps) →
      W.cell? ⟨errG c, 0, none⟩ = some (.iface 335 (.pointer (some (addrOf W c)))) ∧ (∃ s, W.cell? (addrOf W c) = some (.string s)) ∧ p = MemPlace.row (addrOf W c) 1 := by
    intro c hc g t cs fuel p text h1 h2 h3 h4 h5
    obtain rfl := Option.some.inj ((hg c hc).symm.trans h1)
    obtain rfl := Option.some.inj ((ht c hc).symm.trans h2)
    obtain ⟨l0⟩ := cs
    have ok0 : ∀ u v, l0 = [.iface u v] → Value.okWide Tryz.prog W .any 0 u v := fun u v e => by
      subst e
      exact (hrows (errG c) 0 (h5 _ (by simp [MemPlace.row]))).2 u v (by simpa using World.var?_cell h1 h3 0)
    obtain ⟨a0, s0, rfl, hc0, hs0, hz0, rfl⟩ := errorString_of_trod Tryz.underlying35 rowE Tryz.underlying335 Tryz.underlying337 rfl rfl Tryz.underlying9 cellsErrStr cellsStr h4 ok0
    have ea : addrOf W c = a0 := by
      unfold addrOf
      rw [h3]
      exact rfl
    refine ⟨?_, ⟨s0, by rw [ea]; exact hc0⟩, by rw [ea]⟩
    rw [ea]
    simpa using World.var?_cell h1 h3 0
  have get : ∀ c ∈ D, W.cell? ⟨errG c, 0, none⟩ = some (.iface 335 (.pointer (some (addrOf W c)))) ∧ (∃ s, W.cell? (addrOf W c) = some (.string s)) ∧ MemPlace.cell (addrOf W c).block (addrOf W c).off ∈ ps := by
    intro c hc
    obtain ⟨text, hl⟩ := hL c hc
    obtain ⟨g, t, cs, fuel, p, h1, h2, h3, h4, h5⟩ := laidVars_get hv hl
    obtain ⟨k1, k2, rfl⟩ := key c hc h1 h2 h3 h4 (fun x hx => h5 x (List.mem_append_left _ hx))
    exact ⟨k1, k2, h5 _ (List.mem_append_right _ (by simp [MemPlace.row]))⟩
  have apart : ∀ c ∈ D, ∀ d ∈ D, idx c < idx d → addrOf W c ≠ addrOf W d := by
    intro c hc d hd hlt he
    obtain ⟨t1, hl1⟩ := hL c hc
    obtain ⟨t2, hl2⟩ := hL d hd
    obtain ⟨g, t, cs, fuel, p, g', t', cs', fuel', p', a1, a2, a3, a4, b1, b2, b3, b4, hap⟩ := laidVars_apart hv hnd hlt hl1 hl2
    obtain ⟨g0, t0, cs0, f0, p0, u1, u2, u3, u4, u5⟩ := laidVars_get hv hl1
    obtain ⟨g0', t0', cs0', f0', p0', v1, v2, v3, v4, v5⟩ := laidVars_get hv hl2
    obtain rfl := Option.some.inj (a1.symm.trans u1)
    obtain rfl := Option.some.inj (a3.symm.trans u3)
    obtain rfl := Option.some.inj (b1.symm.trans v1)
    obtain rfl := Option.some.inj (b3.symm.trans v3)
    obtain ⟨_, _, rfl⟩ := key c hc a1 a2 a3 a4 (fun x hx => u5 x (List.mem_append_left _ hx))
    obtain ⟨_, _, rfl⟩ := key d hd b1 b2 b3 b4 (fun x hx => v5 x (List.mem_append_left _ hx))
    rw [he] at hap
    exact hap (.cell (addrOf W d).block (addrOf W d).off) (by simp [MemPlace.row]) (by simp [MemPlace.row])
  refine ⟨fun c hc => (get c hc).1, fun c hc => (hrows _ _ (get c hc).2.2).1, fun c hc => ?_, fun c hc d hd he => ?_, Nat.le_refl _⟩
  · obtain ⟨k1, ⟨s, k2⟩, _⟩ := get c hc
    exact ⟨World.block_lt_of_cell? W _ k2, World.block_lt_of_cell? W ⟨errG c, 0, none⟩ k1⟩
  · rcases Nat.lt_trichotomy (idx c) (idx d) with h | h | h
    · exact absurd he (apart c hc d hd h)
    · obtain ⟨t1, hl1⟩ := hL c hc
      obtain ⟨t2, hl2⟩ := hL d hd
      rw [h, hl2] at hl1
      have : errName d = errName c := by simpa using congrArg (fun x => x.1) (Option.some.inj hl1)
      exact errName_inj c (hD c hc) d (hD d hd) this.symm
    · exact absurd he.symm (apart d hd c hc h)
theorem etG : Tryz.prog.globalNamed "errors.errorType" = some 12 := by kernel_rfl
theorem rtT : (Tryz.prog.cutTypes.find? (·.1 == "internal/reflectlite.rtype")).map (·.2) = some 269 := by kernel_rfl
theorem oneRowE : ((List.range 364).filter fun t => Tryz.prog.rowNamed t [101, 114, 114, 111, 114]) = [35] := by kernel_rfl
theorem typesSize : Tryz.prog.types.size = 364 := by kernel_rfl
theorem asVar_of_laid {L : List (String × DataW Unit)} {W : World} (h : handlesMet Tryz.prog L W) (hm : ("errors.errorType", .iface "internal/reflectlite.rtype" (.agg [.ptr (.lit (.string [101, 114, 114, 111, 114]))])) ∈ L) : AsVar W := by
  obtain ⟨name, u, ty, e1, e2, e3, e4, e5⟩ := h _ hm
  have en : name = [101, 114, 114, 111, 114] := (Option.some.inj e1).symm
  subst en
  obtain rfl := Option.some.inj (rtT.symm.trans e2)
  have hm : ty ∈ (List.range 364).filter fun t => Tryz.prog.rowNamed t [101, 114, 114, 111, 114] := List.mem_filter.2 ⟨List.mem_range.2 (by rw [← typesSize]; exact e3), e4⟩
  rw [oneRowE] at hm
  obtain rfl := List.mem_singleton.1 hm
  have hh : typeHandle Tryz.prog 35 = .pointer (some ⟨21, 35, none⟩) := by kernel_rfl
  rw [hh] at e5
  have := World.var?_cell etG e5 0
  unfold AsVar
  simpa using this
end Go.Proofs.YtefoaeamfkbgbaaGreatDoor
namespace Go.Proofs.YtefoaeamfkbgbaaGreatDoor
open Go.ChangeShapes Go.WideShapes Go.ChangeAt Go.RowKit
theorem handed_both {H : Type} {enc : TypeId × Value → H} {a : Assume} {C : Checked} {os : Os} {f : FuncId} {fn : Func} {s : ChangeSpec} {conds : List PathCond} {apart fresh handsOn again : Bool} {X : World → Array Value → Prop}
    (hX : ∀ (w w' : World) (args : Array Value), w.heap = w'.heap → X w args → X w' args)
    (own : ownKnob C.prog.godebug = none) (started : os.Started) (noInit : C.prog.inits.idxOf? f = none) (hfn : C.prog.funcs[f]? = some fn)
    (witness : ∃ (w : World) (tape : Tape) (i : Input), w.os = os ∧ (w.forCall tape i).Shaped C.prog ∧ i.vars = [] ∧ Input.okWide C.prog (w.forCall tape i) .any w.heap.size f i ∧
      ((s.pre enc C.prog fn conds apart (w.forCall tape i).memory i.args ∧ X (w.forCall tape i).memory i.args) ∧ sizedMet enc C.prog fn (OpenSpec.ofChange s) apart (w.forCall tape i).memory i.args) ∧ a.holds C.prog (lone (Frame.enter C.prog f i.args .normal) [] (w.forCall tape i)))
    (contract : ∀ (W : World) (base : Nat) (args : Array Value) (ds gs : List (DataW H)) (before : List MemPlace),
      (∀ (j : Nat) t v, fn.params[j]? = some t → args[j]? = some v → Value.okWide C.prog W .any base t v) →
      DataW.Whole enc C.prog fn.params.toList s.vars apart W args.toList ds gs before → X W args → W.ShapedOpen C.prog →
      Calls C.prog f args W fun e W' => ∃ v, e = .returned v ∧ s.post enc C.prog fn apart fresh handsOn again W args v W') :
    ReturnsInHanded a C os f .any (fun w args => (s.pre enc C.prog fn conds apart w args ∧ X w args) ∧ sizedMet enc C.prog fn (OpenSpec.ofChange s) apart w args) (s.post enc C.prog fn apart fresh handsOn again) := by
  refine returnsInHanded_of_calls own started noInit witness ?_
  intro w tape i _ hsh _ hok hpre _
  obtain ⟨_, _, _, fn', hfn', _, _, _, _, hval⟩ := hok
  have e : fn' = fn := Option.some.inj (hfn'.symm.trans hfn)
  subst e
  obtain ⟨⟨⟨ds, gs, before, hw, hc⟩, hx⟩, hz⟩ := hpre
  have hw' := DataW.Whole.of_heap (w' := w.forCall tape i) (by rfl) hw
  refine (contract (w.forCall tape i) w.heap.size i.args ds gs before hval hw' (hX _ _ _ (by rfl) hx) hsh).mono fun e W' ⟨v, he, hp⟩ => ?_
  subst he
  exact ChangeSpec.post_blind hp
theorem cellsInt : Tryz.prog.cellsOf 3 = 1 := by kernel_rfl
theorem laidOut : laidOutB Tryz.prog = true := by kernel_rfl
theorem global_lt {P : Program} {W : World} {g : Nat} (h : W.ShapedOpen P) (hg : g < P.globals.size) (h0 : (((begin P (fun _ _ => 0) default).world.heap[g]?).bind Obj.row?).isSome = true) : g < W.heap.size := by
  obtain ⟨⟨zero, t⟩, hx⟩ := Option.isSome_iff_exists.1 h0
  obtain ⟨cs, hh, _⟩ := h.1 g zero t hg hx
  exact (Array.getElem?_eq_some_iff.1 hh).1
theorem lastG : ((((begin Tryz.prog (fun _ _ => 0) default).world.heap[21 - 1]?).bind Obj.row?).isSome) = true := by kernel_rfl
theorem globals_le {W : World} (h : W.ShapedOpen Tryz.prog) : 21 ≤ W.heap.size := by
  have := global_lt h (g := 21 - 1) (of_decide_eq_true (by kernel_rfl)) lastG
  omega
theorem max_begin : ((begin Tryz.prog (fun _ _ => 0) default).world.heap[14]?).bind Obj.row? = some (#[.int .i64 0], 3) := by kernel_rfl
theorem lmax_of {W : World} (h : W.ShapedOpen Tryz.prog) : LMax W.heap.size W :=
  ⟨cell_of_shapedOpen_int (g := 14) (t := 3) h (of_decide_eq_true (by kernel_rfl)) max_begin rfl (by kernel_rfl) (by kernel_rfl) Tryz.underlying3, globals_le h, Nat.le_refl _⟩
theorem tabT : (Tryz.prog.globals[13]?).map (·.type) = some 294 := by kernel_rfl
theorem synG : Tryz.prog.globalNamed "strconv.ErrSyntax" = some 19 := by kernel_rfl
theorem synT : (Tryz.prog.globals[19]?).map (·.type) = some 35 := by kernel_rfl
theorem rngG : Tryz.prog.globalNamed "strconv.ErrRange" = some 20 := by kernel_rfl
theorem rngT : (Tryz.prog.globals[20]?).map (·.type) = some 35 := by kernel_rfl
theorem cells20 : Tryz.prog.cellsOf 294 = 20 := by kernel_rfl
theorem cellsU64 : Tryz.prog.cellsOf 206 = 1 := by kernel_rfl
theorem under20 : Tryz.prog.underlying 294 = some (.array 20 206) := by kernel_rfl
theorem underU64 : Tryz.prog.underlying 206 = some (.int .u64) := by kernel_rfl
theorem iface_laid {W : World} {L : List (String × DataW Unit)} {ps : List MemPlace} {i g : Nat} {n nm : String} {d : DataW Unit} (hv : DataW.LaidVars Tryz.prog W L ps) (hi : L[i]? = some (n, .iface nm d)) (hg : Tryz.prog.globalNamed n = some g) (ht : (Tryz.prog.globals[g]?).map (·.type) = some 35) :
    ∃ te pe, W.cell? ⟨g, 0, none⟩ = some (.iface te pe) := by
  obtain ⟨g', t, cs, fuel, p, h1, h2, h3, h4, h5⟩ := laidVars_get hv hi
  obtain rfl := Option.some.inj (hg.symm.trans h1)
  obtain rfl := Option.some.inj (ht.symm.trans h2)
  obtain ⟨l0⟩ := cs
  obtain ⟨f1, u, v, rfl, _, _⟩ := iface_of_trod Tryz.underlying35 h4
  exact ⟨u, v, by simpa using World.var?_cell hg h3 0⟩
theorem lnum_of {W : World} {L : List (String × DataW Unit)} {i j k : Nat} {n1 n2 : String} {d1 d2 : DataW Unit} (h : laidMet Tryz.prog L W) (hsh : W.ShapedOpen Tryz.prog) (hi : L[i]? = some ("internal/strconv.uint64pow10", Lib.tabData .u64 Lib.pow10Tab))
    (hj : L[j]? = some ("strconv.ErrSyntax", .iface n1 d1)) (hk : L[k]? = some ("strconv.ErrRange", .iface n2 d2)) : LNum W.heap.size W := by
  obtain ⟨ps, hv, _, _⟩ := h
  refine ⟨?_, iface_laid hv hj synG synT, iface_laid hv hk rngG rngT, globals_le hsh, Nat.le_refl _⟩
  obtain ⟨g', t, cs, fuel, p, h1, h2, h3, h4, h5⟩ := laidVars_get hv hi
  obtain rfl := Option.some.inj (pow10G.symm.trans h1)
  obtain rfl := Option.some.inj (tabT.symm.trans h2)
  unfold Lib.TabIs
  rw [h3, ← Lib.cells_of_tab under20 underU64 cellsU64 cells20 h4]
end Go.Proofs.YtefoaeamfkbgbaaGreatDoor
namespace Go.Proofs.YtefoaeamfkbgbaaGreatDoor
open Go.ChangeShapes Go.WideShapes Go.ChangeAt Go.RowKit
theorem some_ix {α : Type} {l : List α} {n k : Nat} (h : l.length = n) (hk : k < n) : ∃ x, l[k]? = some x := ⟨l[k]'(by omega), by simp [h, hk]⟩
theorem six_of {α : Type} : ∀ {l : List α}, l.length = 6 → ∃ a b c d e f, l = [a, b, c, d, e, f]
  | [a, b, c, d, e, f], _ => ⟨a, b, c, d, e, f, rfl⟩
set_option maxRecDepth 100000 in
/-- The slice's cells, by its elements' own reading. -/
theorem slice_came {H : Type} {enc : TypeId × Value → H} {W : World} {base fuel : Nat} {sp : Nat → Bool} {held : Bool} {cs : List Value} {y : DataW H × List MemPlace} {α : Type} (en : α → List Value) (sz : Nat) (hsz : 0 < sz) (tS tE : TypeId) (hu : Tryz.prog.underlying tS = some (.slice tE)) (hc : Tryz.prog.cellsOf tE = sz)
    (Pr : α → Prop) (one : ∀ (fuel : Nat) (sp : Nat → Bool) (held : Bool) (cs : List Value) (y : DataW H × List MemPlace), DataW.trod enc Tryz.prog W base sp held fuel tE cs = some y → ∃ x : α, cs = en x ∧ (en x).length = sz ∧ Pr x)
    (hf : DataW.trod enc Tryz.prog W base sp held fuel tS cs = some y) : ∃ v l, cs = [v] ∧ At en sz W v l ∧ ∀ x ∈ l, Pr x := by
  rcases DataW.trod_slice hu hf with ⟨hcs, hx⟩ | ⟨a, len', cap', elems, rest, n, _, hcs, _, _, hl, hm, hlen, hel, _, _⟩
  · exact ⟨_, [], hcs, At.nil _ _ _, fun _ h => by cases h⟩
  · refine ⟨.slice (some a) len' cap', ?_⟩
    rcases Nat.eq_zero_or_pos len' with rfl | hpos
    · exact ⟨[], hcs, ⟨some a, cap', 0, 0, rfl, fun h => absurd h (by simp), by simp, hm, fun k x h => by simp at h⟩, fun _ h => by cases h⟩
    obtain ⟨b, off, spot⟩ := a
    have hsp : spot = none := by
      have h1 := hel 0 hpos
      obtain ⟨y, hy⟩ := some_ix hlen hpos
      rw [hy, hc, Option.bind_eq_some_iff] at h1
      obtain ⟨cs, hcl, ht⟩ := h1
      obtain ⟨x, rfl, hxl, _⟩ := one _ _ _ _ _ ht
      obtain ⟨_, _, hcc⟩ := World.cells?_some hcl
      obtain ⟨u, hu0⟩ := some_ix hxl hsz
      have := hcc 0 hsz
      rw [hu0] at this
      have := World.cell?_spot this
      simpa [Addr.add] using this
    subst hsp
    have each : ∀ i, i < len' → ∃ x : α, (∀ j u, (en x)[j]? = some u → W.cell? ((⟨b, off, none⟩ : Addr).add (i * sz + j)) = some u) ∧ Pr x := by
      intro i hi
      have h1 := hel i hi
      obtain ⟨y, hy⟩ := some_ix hlen hi
      rw [hy, hc, Option.bind_eq_some_iff] at h1
      obtain ⟨cs, hcl, ht⟩ := h1
      obtain ⟨x, rfl, hxl, hp⟩ := one _ _ _ _ _ ht
      obtain ⟨_, _, hcc⟩ := World.cells?_some hcl
      refine ⟨x, fun j u hu => ?_, hp⟩
      have hj : j < sz := by
        rcases Nat.lt_or_ge j sz with h | h
        · exact h
        · rw [List.getElem?_eq_none (by omega)] at hu; cases hu
      have := hcc j hj
      rw [hu] at this
      rw [add_lit] at this
      rw [add_lit] at this
      rw [add_lit, ← Nat.add_assoc]
      exact this
    have build : ∀ m, m ≤ len' → ∃ l : List α, l.length = m ∧ (∀ k x, l[k]? = some x → ∀ j u, (en x)[j]? = some u → W.cell? ((⟨b, off, none⟩ : Addr).add (k * sz + j)) = some u) ∧ ∀ x ∈ l, Pr x := by
      intro m
      induction m with
      | zero => exact fun _ => ⟨[], rfl, fun k x h => by simp at h, fun _ h => by cases h⟩
      | succ m ih =>
        intro hm
        obtain ⟨l, h1, h2, h3⟩ := ih (by omega)
        obtain ⟨x, hx, hn⟩ := each m (by omega)
        refine ⟨l ++ [x], by simp [h1], fun k z hk j u hu => ?_, fun z hz => ?_⟩
        · rcases Nat.lt_or_ge k l.length with h | h
          · rw [List.getElem?_append_left h] at hk
            exact h2 k z hk j u hu
          · have hk' := (List.getElem?_eq_some_iff.1 hk).1
            rw [List.length_append, List.length_singleton] at hk'
            obtain rfl : k = l.length := by omega
            rw [List.getElem?_append_right (Nat.le_refl _), Nat.sub_self] at hk
            simp at hk
            subst hk
            rw [h1]
            exact hx j u hu
        · rcases List.mem_append.1 hz with h | h
          · exact h3 z h
          · simp at h; subst h; exact hn
    obtain ⟨l, h1, h2, h3⟩ := build len' (Nat.le_refl _)
    refine ⟨l, hcs, ⟨_, cap', b, off, by rw [h1], fun _ => rfl, by rw [h1]; exact hl, hm, fun k x hk j u hu => ?_⟩, h3⟩
    have := h2 k x hk j u hu
    rw [add_lit, ← Nat.add_assoc] at this
    exact this
set_option maxRecDepth 100000 in
/-- The same, of a parameter. -/
theorem param_came {H : Type} {enc : TypeId × Value → H} {W : World} {base : Nat} {sp : Nat → Bool} {v : Value} {d : DataW H} {p : List MemPlace} {α : Type} (en : α → List Value) (sz : Nat) (hsz : 0 < sz) (tS tE : TypeId) (hu : Tryz.prog.underlying tS = some (.slice tE)) (hc : Tryz.prog.cellsOf tE = sz)
    (Pr : α → Prop) (one : ∀ (fuel : Nat) (sp : Nat → Bool) (held : Bool) (cs : List Value) (y : DataW H × List MemPlace), DataW.trod enc Tryz.prog W 0 sp held fuel tE cs = some y → ∃ x : α, cs = en x ∧ (en x).length = sz ∧ Pr x)
    (hv : Value.okWide Tryz.prog W .any base tS v) (h : DataW.Trod enc Tryz.prog W 0 sp true tS v d p) : ∃ l, At en sz W v l ∧ ∀ x ∈ l, Pr x := by
  obtain ⟨a0, len, cap, rfl⟩ := okWide_slice hu hv
  obtain ⟨fuel, hf⟩ := h
  obtain ⟨v, l, hcs, ha, hp⟩ := slice_came en sz hsz tS tE hu hc Pr one hf
  simp [Value.cells] at hcs
  subst hcs
  exact ⟨l, ha, hp⟩
theorem cellsFile : Tryz.prog.cellsOf 44 = 6 := by kernel_rfl
theorem cellsStrF : Tryz.prog.cellsOf 9 = 1 := by kernel_rfl
/-- An integer's bounds. -/
def inI (n : Int) : Prop := -9223372036854775808 ≤ n ∧ n ≤ 9223372036854775807
def FileWf (x : Fl) : Prop := inI x.n ∧ inI x.lo ∧ inI x.hi ∧ inI x.seq
/-- One file, read. -/
theorem file_of_trod {H : Type} {enc : TypeId × Value → H} {W : World} {base fuel : Nat} {sp : Nat → Bool} {held : Bool} {cs : List Value} {y : DataW H × List MemPlace} (h : DataW.trod enc Tryz.prog W base sp held fuel 44 cs = some y) :
    ∃ x : Fl, cs = encF x ∧ (encF x).length = 6 ∧ FileWf x := by
  obtain ⟨xs, n, _, _, hl, hxs, hf⟩ := DataW.trod_struct Tryz.underlying44 h
  rw [cellsFile] at hl
  obtain ⟨c0, c1, c2, c3, c4, c5, rfl⟩ := six_of hl
  have f0 := hf 0 _ rfl
  have f1 := hf 1 _ rfl
  have f2 := hf 2 _ rfl
  have f3 := hf 3 _ rfl
  have f4 := hf 4 _ rfl
  have f5 := hf 5 _ rfl
  obtain ⟨x0, e0⟩ := some_ix hxs (k := 0) (by decide)
  obtain ⟨x1, e1⟩ := some_ix hxs (k := 1) (by decide)
  obtain ⟨x2, e2⟩ := some_ix hxs (k := 2) (by decide)
  obtain ⟨x3, e3⟩ := some_ix hxs (k := 3) (by decide)
  obtain ⟨x4, e4⟩ := some_ix hxs (k := 4) (by decide)
  obtain ⟨x5, e5⟩ := some_ix hxs (k := 5) (by decide)
  rw [e0] at f0; rw [e1] at f1; rw [e2] at f2; rw [e3] at f3; rw [e4] at f4; rw [e5] at f5
  obtain ⟨s0, h0, _, _⟩ := DataW.trod_string Tryz.underlying9 f0
  obtain ⟨s1, h1, _, _⟩ := DataW.trod_string Tryz.underlying9 f1
  obtain ⟨m2, h2, _, w2⟩ := DataW.trod_int Tryz.underlying3 f2
  obtain ⟨m3, h3, _, w3⟩ := DataW.trod_int Tryz.underlying3 f3
  obtain ⟨m4, h4, _, w4⟩ := DataW.trod_int Tryz.underlying3 f4
  obtain ⟨m5, h5, _, w5⟩ := DataW.trod_int Tryz.underlying3 f5
  simp [cellsStrF, cellsInt] at h0 h1 h2 h3 h4 h5
  subst h0 h1 h2 h3 h4 h5
  exact ⟨⟨s0.data.toList, s1.data.toList, m2, m3, m4, m5⟩, by simp, rfl, bounds_i64 w2, bounds_i64 w3, bounds_i64 w4, bounds_i64 w5⟩
end Go.Proofs.YtefoaeamfkbgbaaGreatDoor
namespace Go.Proofs.YtefoaeamfkbgbaaGreatDoor
open Go.ChangeShapes Go.WideShapes Go.ChangeAt Go.RowKit
set_option maxRecDepth 100000 in
theorem int_came {H : Type} {enc : TypeId × Value → H} {W : World} {base : Nat} {sp : Nat → Bool} {v : Value} {d : DataW H} {p : List MemPlace} (hv : Value.okWide Tryz.prog W .any base 3 v)
    (h : DataW.Trod enc Tryz.prog W 0 sp true 3 v d p) : ∃ x, v = .int .i64 x ∧ (-9223372036854775808 ≤ x ∧ x ≤ 9223372036854775807) := by
  obtain ⟨x, h1, _, _, wx⟩ := open_int Tryz.underlying3 hv h
  exact ⟨x, h1, bounds_i64 wx⟩
theorem trodAll_five {H : Type} {enc : TypeId × Value → H} {P : Program} {w : World} {base : Nat} {sp : Nat → Bool} {held : Bool} {t1 t2 t3 t4 t5 : TypeId} {args : Array Value} {ds : List (DataW H)} {ps : List MemPlace} (h : DataW.TrodAll enc P w base sp held [t1, t2, t3, t4, t5] args.toList ds ps) :
    ∃ v1 v2 v3 v4 v5 d1 d2 d3 d4 d5 p1 p2 p3 p4 p5, args = #[v1, v2, v3, v4, v5] ∧ ds = [d1, d2, d3, d4, d5] ∧ ps = p1 ++ (p2 ++ (p3 ++ (p4 ++ p5))) ∧ DataW.Trod enc P w base sp held t1 v1 d1 p1 ∧ DataW.Trod enc P w base sp held t2 v2 d2 p2 ∧ DataW.Trod enc P w base sp held t3 v3 d3 p3 ∧ DataW.Trod enc P w base sp held t4 v4 d4 p4 ∧ DataW.Trod enc P w base sp held t5 v5 d5 p5 := by
  obtain ⟨l⟩ := args
  obtain ⟨v1, l1, d1, e1, p1, q1, rfl, rfl, rfl, h1, h⟩ := trodAll_cons h
  obtain ⟨v2, l2, d2, e2, p2, q2, rfl, rfl, rfl, h2, h⟩ := trodAll_cons h
  obtain ⟨v3, l3, d3, e3, p3, q3, rfl, rfl, rfl, h3, h⟩ := trodAll_cons h
  obtain ⟨v4, l4, d4, e4, p4, q4, rfl, rfl, rfl, h4, h⟩ := trodAll_cons h
  obtain ⟨v5, l5, d5, e5, p5, q5, rfl, rfl, rfl, h5, h⟩ := trodAll_cons h
  obtain ⟨rfl, rfl, rfl⟩ := trodAll_nil h
  exact ⟨v1, v2, v3, v4, v5, d1, d2, d3, d4, d5, p1, p2, p3, p4, p5, rfl, rfl, by simp, h1, h2, h3, h4, h5⟩
end Go.Proofs.YtefoaeamfkbgbaaGreatDoor
namespace Go.Proofs.YtefoaeamfkbgbaaGreatDoor
open Go.ChangeShapes Go.WideShapes Go.ChangeAt Go.RowKit
theorem cellsSnap : Tryz.prog.cellsOf 25 = 7 := by kernel_rfl
theorem cellsFiles : Tryz.prog.cellsOf 23 = 1 := by kernel_rfl
theorem seven_of {α : Type} : ∀ {l : List α}, l.length = 7 → ∃ a b c d e f g, l = [a, b, c, d, e, f, g]
  | [a, b, c, d, e, f, g], _ => ⟨a, b, c, d, e, f, g, rfl⟩
structure SnWf (s : Sn) : Prop where
  id : inI s.id
  parent : inI s.parent
  seq : inI s.seq
  day : inI s.day
  index : inI s.index
  files : ∀ x ∈ s.files, FileWf x
theorem snap_of_trod {H : Type} {enc : TypeId × Value → H} {W : World} {base fuel : Nat} {sp : Nat → Bool} {held : Bool} {cs : List Value} {y : DataW H × List MemPlace} (h : DataW.trod enc Tryz.prog W base sp held fuel 25 cs = some y) :
    ∃ (u : Value) (x : Sn), cs = [.int .i64 x.id, .int .i64 x.parent, .int .i64 x.seq, .int .i64 x.day, .int .i64 x.index, S x.op, u] ∧ FilesAt W u x.files ∧ SnWf x := by
  obtain ⟨xs, n, _, _, hl, hxs, hf⟩ := DataW.trod_struct Tryz.underlying25 h
  rw [cellsSnap] at hl
  obtain ⟨c0, c1, c2, c3, c4, c5, c6, rfl⟩ := seven_of hl
  have f0 := hf 0 _ rfl
  have f1 := hf 1 _ rfl
  have f2 := hf 2 _ rfl
  have f3 := hf 3 _ rfl
  have f4 := hf 4 _ rfl
  have f5 := hf 5 _ rfl
  have f6 := hf 6 _ rfl
  obtain ⟨x0, e0⟩ := some_ix hxs (k := 0) (by decide)
  obtain ⟨x1, e1⟩ := some_ix hxs (k := 1) (by decide)
  obtain ⟨x2, e2⟩ := some_ix hxs (k := 2) (by decide)
  obtain ⟨x3, e3⟩ := some_ix hxs (k := 3) (by decide)
  obtain ⟨x4, e4⟩ := some_ix hxs (k := 4) (by decide)
  obtain ⟨x5, e5⟩ := some_ix hxs (k := 5) (by decide)
  obtain ⟨x6, e6⟩ := some_ix hxs (k := 6) (by decide)
  rw [e0] at f0; rw [e1] at f1; rw [e2] at f2; rw [e3] at f3; rw [e4] at f4; rw [e5] at f5; rw [e6] at f6
  obtain ⟨m0, h0, _, w0⟩ := DataW.trod_int Tryz.underlying3 f0
  obtain ⟨m1, h1, _, w1⟩ := DataW.trod_int Tryz.underlying3 f1
  obtain ⟨m2, h2, _, w2⟩ := DataW.trod_int Tryz.underlying3 f2
  obtain ⟨m3, h3, _, w3⟩ := DataW.trod_int Tryz.underlying3 f3
  obtain ⟨m4, h4, _, w4⟩ := DataW.trod_int Tryz.underlying3 f4
  obtain ⟨s5, h5, _, _⟩ := DataW.trod_string Tryz.underlying9 f5
  obtain ⟨u, l, h6, ha, hw⟩ := slice_came encF 6 (by decide) _ _ Tryz.underlying23 cellsFile FileWf (fun _ _ _ _ _ ht => file_of_trod ht) f6
  simp [cellsStrF, cellsInt, cellsFiles] at h0 h1 h2 h3 h4 h5 h6
  subst h0 h1 h2 h3 h4 h5 h6
  exact ⟨_, ⟨m0, m1, m2, m3, m4, s5.data.toList, l⟩, by simp, ha, ⟨bounds_i64 w0, bounds_i64 w1, bounds_i64 w2, bounds_i64 w3, bounds_i64 w4, hw⟩⟩
set_option maxRecDepth 100000 in
/-- A snap by value. -/
theorem snap_came {H : Type} {enc : TypeId × Value → H} {W : World} {base : Nat} {sp : Nat → Bool} {v : Value} {d : DataW H} {p : List MemPlace} (hv : Value.okWide Tryz.prog W .any base 25 v)
    (h : DataW.Trod enc Tryz.prog W 0 sp true 25 v d p) : ∃ u s, v = snapV s u ∧ FilesAt W u s.files ∧ SnWf s := by
  obtain ⟨cs, rfl, hsz⟩ := okWide_struct Tryz.underlying25 hv
  obtain ⟨fuel, hf⟩ := h
  obtain ⟨u, x, h1, h2, h3⟩ := snap_of_trod hf
  refine ⟨u, x, ?_, h2, h3⟩
  simp only [Value.cells] at h1
  exact congrArg Value.agg (Array.toList_inj.1 h1)
end Go.Proofs.YtefoaeamfkbgbaaGreatDoor
namespace Go.Proofs.YtefoaeamfkbgbaaGreatDoor
open Go.ChangeShapes Go.WideShapes Go.ChangeAt Go.RowKit
theorem laidMet_layVars_all {P : Program} {w0 w' : World} {l : List (String × DataW Unit)} (hh : w'.heap = (w0.layVars P l).heap) (hf : w0.layFits P l [] = true) (hi : w0.layIfaces P l w' = true) : laidMet P l w' := by
  have e1 : (l.filter fun x => (l.map (·.1)).contains x.1) = l := List.filter_eq_self.2 fun x hx => List.contains_iff_mem.2 (List.mem_map.2 ⟨x, hx, rfl⟩)
  have e2 : (l.filter fun x => !(l.map (·.1)).contains x.1) = [] := List.filter_eq_nil_iff.2 fun x hx => by rw [List.contains_iff_mem.2 (List.mem_map.2 ⟨x, hx, rfl⟩)]; simp
  exact laidMet_layVars (w0 := w0) (l.map (·.1)) [] (by rw [e1]; exact hh) (by rw [e1]; exact hf) (by rw [e1]; exact hi) (by rw [e2]; exact LaidIn.none)
/-- The world at the beginning, the handle laid. -/
noncomputable def handleW (os : Os) : World := (World.holding Tryz.prog os ⟨#[], #[], []⟩).setCell ⟨12, 0, none⟩ (.iface 269 (.agg #[.pointer (some ⟨21, 35, none⟩)]))
noncomputable def witW (os : Os) (l : List (String × DataW Unit)) : World := (handleW os).layVars Tryz.prog (l.filter fun x => x.2.handleName?.isNone)
theorem witW_os (os : Os) (l : List (String × DataW Unit)) : (witW os l).os = os := World.layVars_os _ _ _
theorem witW_met (os : Os) (l : List (String × DataW Unit)) (args : Array Value) (hf : (handleW os).layFits Tryz.prog (l.filter fun x => x.2.handleName?.isNone) [] = true) (hi : (handleW os).layIfaces Tryz.prog (l.filter fun x => x.2.handleName?.isNone) (witW os l) = true)
    (hh : (l.filter fun x => x.2.handleName?.isSome).all (handleAtB Tryz.prog ((witW os l).forCall (fun _ _ => 0) ⟨#[], args, []⟩).memory) = true) :
    laidMetH Tryz.prog l ((witW os l).forCall (fun _ _ => 0) ⟨#[], args, []⟩).memory := by
  have h : laidMet Tryz.prog (l.filter fun x => x.2.handleName?.isNone) (witW os l) := laidMet_layVars_all (w0 := handleW os) rfl hf hi
  exact laidMetH_of_parts (h.of_heap (by simp [World.memory, World.forCall, Input.heap])) hh
end Go.Proofs.YtefoaeamfkbgbaaGreatDoor
namespace Go.Proofs.YtefoaeamfkbgbaaGreatDoor
open Go.ChangeShapes Go.WideShapes Go.ChangeAt Go.RowKit
theorem cellsRow : Tryz.prog.cellsOf 65 = 3 := by kernel_rfl
theorem three_of {α : Type} : ∀ {l : List α}, l.length = 3 → ∃ a b c, l = [a, b, c]
  | [a, b, c], _ => ⟨a, b, c, rfl⟩
theorem row_of_trod {H : Type} {enc : TypeId × Value → H} {W : World} {base fuel : Nat} {sp : Nat → Bool} {held : Bool} {cs : List Value} {y : DataW H × List MemPlace} (h : DataW.trod enc Tryz.prog W base sp held fuel 65 cs = some y) :
    ∃ x : Rw, cs = encR x ∧ (encR x).length = 3 ∧ RowWf x := by
  obtain ⟨xs, n, _, _, hl, hxs, hf⟩ := DataW.trod_struct Tryz.underlying65 h
  rw [cellsRow] at hl
  obtain ⟨c0, c1, c2, rfl⟩ := three_of hl
  have f0 := hf 0 _ rfl
  have f1 := hf 1 _ rfl
  have f2 := hf 2 _ rfl
  obtain ⟨x0, e0⟩ := some_ix hxs (k := 0) (by decide)
  obtain ⟨x1, e1⟩ := some_ix hxs (k := 1) (by decide)
  obtain ⟨x2, e2⟩ := some_ix hxs (k := 2) (by decide)
  rw [e0] at f0; rw [e1] at f1; rw [e2] at f2
  obtain ⟨s0, h0, _, _⟩ := DataW.trod_string Tryz.underlying9 f0
  obtain ⟨m1, h1, _, w1⟩ := DataW.trod_int Tryz.underlying3 f1
  obtain ⟨m2, h2, _, w2⟩ := DataW.trod_int Tryz.underlying3 f2
  simp [cellsStrF, cellsInt] at h0 h1 h2
  subst h0 h1 h2
  exact ⟨⟨s0.data.toList, m1, m2⟩, by simp, rfl, bounds_i64 w1, bounds_i64 w2⟩
end Go.Proofs.YtefoaeamfkbgbaaGreatDoor
namespace Go.Proofs.YtefoaeamfkbgbaaGreatDoor
open Go.ChangeShapes Go.WideShapes Go.ChangeAt Go.RowKit
theorem cellsPc : Tryz.prog.cellsOf 72 = 6 := by kernel_rfl
theorem cellsRows : Tryz.prog.cellsOf 39 = 1 := by kernel_rfl
theorem cellsInts : Tryz.prog.cellsOf 26 = 1 := by kernel_rfl
structure PcWf (W : World) (x : Pc) : Prop where
  seq : inI x.seq
  ra : RowsAt W x.va x.rows
  ka : IntsAt W x.vk x.keys
  rw : ∀ r ∈ x.rows, RowWf r
  kw : ∀ k ∈ x.keys, inI k
theorem int_of_trod {H : Type} {enc : TypeId × Value → H} {W : World} {base fuel : Nat} {sp : Nat → Bool} {held : Bool} {cs : List Value} {y : DataW H × List MemPlace} (h : DataW.trod enc Tryz.prog W base sp held fuel 3 cs = some y) :
    ∃ n : Int, cs = encI n ∧ (encI n).length = 1 ∧ inI n := by
  obtain ⟨m, h0, _, w⟩ := DataW.trod_int Tryz.underlying3 h
  exact ⟨m, by rw [h0], rfl, bounds_i64 w⟩
theorem pc_of_trod {H : Type} {enc : TypeId × Value → H} {W : World} {base fuel : Nat} {sp : Nat → Bool} {held : Bool} {cs : List Value} {y : DataW H × List MemPlace} (h : DataW.trod enc Tryz.prog W base sp held fuel 72 cs = some y) :
    ∃ x : Pc, cs = encPc x ∧ (encPc x).length = 6 ∧ PcWf W x := by
  obtain ⟨xs, n, _, _, hl, hxs, hf⟩ := DataW.trod_struct Tryz.underlying72 h
  rw [cellsPc] at hl
  obtain ⟨c0, c1, c2, c3, c4, c5, rfl⟩ := six_of hl
  have f0 := hf 0 _ rfl
  have f1 := hf 1 _ rfl
  have f2 := hf 2 _ rfl
  have f3 := hf 3 _ rfl
  have f4 := hf 4 _ rfl
  have f5 := hf 5 _ rfl
  obtain ⟨x0, e0⟩ := some_ix hxs (k := 0) (by decide)
  obtain ⟨x1, e1⟩ := some_ix hxs (k := 1) (by decide)
  obtain ⟨x2, e2⟩ := some_ix hxs (k := 2) (by decide)
  obtain ⟨x3, e3⟩ := some_ix hxs (k := 3) (by decide)
  obtain ⟨x4, e4⟩ := some_ix hxs (k := 4) (by decide)
  obtain ⟨x5, e5⟩ := some_ix hxs (k := 5) (by decide)
  rw [e0] at f0; rw [e1] at f1; rw [e2] at f2; rw [e3] at f3; rw [e4] at f4; rw [e5] at f5
  obtain ⟨s0, h0, _, _⟩ := DataW.trod_string Tryz.underlying9 f0
  obtain ⟨s1, h1, _, _⟩ := DataW.trod_string Tryz.underlying9 f1
  obtain ⟨s2, h2, _, _⟩ := DataW.trod_string Tryz.underlying9 f2
  obtain ⟨va, rs, h3, ha, hr⟩ := slice_came encR 3 (by decide) _ _ Tryz.underlying39 cellsRow RowWf (fun _ _ _ _ _ ht => row_of_trod ht) f3
  obtain ⟨vk, ks, h4, hka, hk⟩ := slice_came encI 1 (by decide) _ _ Tryz.underlying26 cellsInt inI (fun _ _ _ _ _ ht => int_of_trod ht) f4
  obtain ⟨m5, h5, _, w5⟩ := DataW.trod_int Tryz.underlying3 f5
  simp [cellsStrF, cellsInt, cellsRows, cellsInts] at h0 h1 h2 h3 h4 h5
  subst h0 h1 h2 h3 h4 h5
  refine ⟨⟨s0.data.toList, s1.data.toList, s2.data.toList, rs, ks, m5, _, _⟩, ?_, rfl, ⟨bounds_i64 w5, ha, hka, hr, hk⟩⟩
  simp
set_option maxRecDepth 100000 in
theorem pieces_came {H : Type} {enc : TypeId × Value → H} {W : World} {base : Nat} {sp : Nat → Bool} {v : Value} {d : DataW H} {p : List MemPlace} (hv : Value.okWide Tryz.prog W .any base 22 v)
    (h : DataW.Trod enc Tryz.prog W 0 sp true 22 v d p) : ∃ l, PiecesAt W v l ∧ ∀ x ∈ l, PcWf W x :=
  param_came encPc 6 (by decide) _ _ Tryz.underlying22 cellsPc (PcWf W) (fun _ _ _ _ _ ht => pc_of_trod ht) hv h
end Go.Proofs.YtefoaeamfkbgbaaGreatDoor
