/- A file of keys that is put last: plain. deedboxlaw3.ScanDeletes: a file of keys that is newer than all takes all rows of these keys, and no others; one that is as old as the oldest takes none: the walk. Printed by gen_sc.py. -/
import Derived.Test.YtefoaeamfkbgbaaGreatDoorP22
import Derived.Test.YtefoaeamfkbgbaaGreatDoorP25
import Derived.Test.YtefoaeamfkbgbaaGreatDoorP14
import Derived.Test.YtefoaeamfkbgbaaGreatDoorP17
import Derived.Test.YtefoaeamfkbgbaaGreatDoorP13
import Derived.Test.YtefoaeamfkbgbaaGreatDoorP12
import Derived.Test.YtefoaeamfkbgbaaGreatDoorP2
import Derived.Deep.DeepCutAuto
import Derived.Deep.RegionHeld3
import Derived.Deep.RegionLaw
import Derived.OwnWalk
import Derived.BigQuiet
namespace Go.Proofs.YtefoaeamfkbgbaaGreatDoor
open Go.RowKit

section
variable {os : List Ob} {x : Ob} {f : Fl} {l : List Fl} {lo hi : Int}
theorem textO_put (hr : Rising os) (hn : getO os x.name = none) (h : f.path ≠ x.name) : textO (putO x os) f.path = textO os f.path := by
  unfold textO
  rw [getO_put_other hr hn h]
theorem fileE_put (hr : Rising os) (hn : getO os x.name = none) (h : f.path ≠ x.name) : fileE (putO x os) f = fileE os f := by
  unfold fileE
  rw [textO_put hr hn h, getO_put_other hr hn h]
theorem rowsO_put (hr : Rising os) (hn : getO os x.name = none) (h : f.path ≠ x.name) : rowsO (putO x os) f = rowsO os f := by
  unfold rowsO
  rw [textO_put hr hn h]
theorem keysO_put (hr : Rising os) (hn : getO os x.name = none) (h : f.path ≠ x.name) : keysO (putO x os) f = keysO os f := by
  unfold keysO
  rw [textO_put hr hn h]
theorem killed_put (hr : Rising os) (hn : getO os x.name = none) (q k : Int) : ∀ {l : List Fl}, (∀ f ∈ l, f.path ≠ x.name) → killed (putO x os) l q k = killed os l q k
  | [], _ => rfl
  | g :: l, h => by
    rw [killed_cons, killed_cons, keysO_put hr hn (h g (by simp)), killed_put hr hn q k fun f hf => h f (by simp [hf])]
theorem allO_put (hr : Rising os) (hn : getO os x.name = none) (h : ∀ f ∈ l, f.path ≠ x.name) : allO (putO x os) l lo hi = allO os l lo hi := by
  unfold allO
  refine flatMap_same fun f hf => ?_
  unfold leftO
  rw [rowsO_put hr hn (h f hf)]
  refine List.filter_congr fun r _ => ?_
  rw [killed_put hr hn _ _ h]
theorem scanF_put (hr : Rising os) (hn : getO os x.name = none) (h : ∀ f ∈ l, f.path ≠ x.name) : scanF (putO x os) lo hi l = scanF os lo hi l := by
  funext i
  unfold scanF
  cases hi' : l[i]? with
  | none => rfl
  | some f =>
    simp only
    rw [fileE_put hr hn (h f (List.mem_of_getElem? hi'))]
/-- An object more, of another name. -/
theorem rows_put {s : Sn} (hr : Rising os) (hn : getO os x.name = none) (h : ∀ f ∈ s.files, f.path ≠ x.name) : rowsE (putO x os) s lo hi = rowsE os s lo hi ∧ rowsL (putO x os) s lo hi = rowsL os s lo hi := by
  have e : rowsE (putO x os) s lo hi = rowsE os s lo hi := by
    unfold rowsE
    rw [scanF_put hr hn h]
  refine ⟨e, ?_⟩
  unfold rowsL
  rw [e, allO_put (l := pruneL s.files lo hi) hr hn fun f hf => h f (List.mem_filter.1 hf).1]
end
abbrev pG99 : Str := [103, 111, 110, 101, 47, 57, 57]
theorem itoa_99 : Lib.itoa 99 = [57, 57] := (Lib.itoa_nonneg 99).trans (Lib.decDigits_two (by decide) (by decide))
theorem path_g99 : pathF pG99 = some (kGone, 99) := by
  have hc : Lib.cut pG99 [47] = (kGone, [57, 57], true) := cut_app1 (p := kGone) (q := [57, 57]) (by decide)
  have hn : numOf [57, 57] = some 99 := (numOf_iff _ 99).2 ⟨by decide, itoa_99⟩
  unfold pathF
  rw [hc, if_pos ⟨rfl, .inr rfl⟩]
  show (numOf [57, 57]).bind _ = _
  rw [hn]
  rfl
theorem kind_g99 : kindF pG99 = kGone := by unfold kindF; rw [path_g99]; rfl
/-- What is known of a file of keys. -/
def fK (ks : List Int) (q : Int) : Fl := ⟨pG99, [45], (risOf ks).length, (endsI (risOf ks)).1, (endsI (risOf ks)).2, q⟩
theorem made_back {ks : List Int} (hm : madeE ks = .nil) : goneE (madeT ks) = .nil ∧ goneL (madeT ks) = risOf ks := by
  obtain ⟨h1, h2⟩ := madeE_nil hm
  unfold madeT
  rw [if_pos hm]
  exact goneRead_text (risOf_up ks) h2 h1
theorem ris_ne {ks : List Int} (h : ks ≠ []) : risOf ks ≠ [] := by
  obtain ⟨k, hk⟩ := List.exists_mem_of_ne_nil ks h
  exact List.ne_nil_of_mem (mem_risOf.2 hk)
theorem of_keys {ks : List Int} {q : Int} (hm : madeE ks = .nil) (hne : ks ≠ []) (h1 : 1 ≤ q) (h2 : q ≤ 1073741824) : ofText pG99 [45] (madeT ks) q = (fK ks q, 0) := by
  obtain ⟨hE, hL⟩ := made_back hm
  obtain ⟨hl, hfar⟩ := madeE_nil hm
  have hkE : keysE kGone (madeT ks) = .nil := by unfold keysE; rw [if_pos rfl, hE]; rfl
  have hkL : keysL kGone (madeT ks) = risOf ks := by unfold keysL; rw [if_pos rfl, hL]
  have hf : ofFile pG99 [45] (madeT ks) q = fK ks q := by
    unfold ofFile fK
    rw [kind_g99, hkL]
  have hr := ris_ne hne
  obtain ⟨e1, e2⟩ := ends_within (l := risOf ks) (B := 1073741824) (by omega) fun x hx => near (hfar x hx)
  obtain ⟨m1, m2, m3⟩ := ends_mem hr
  have hle := (m3 _ m1).2
  have hpos := List.length_pos_iff.2 hr
  have hck : checkF (fK ks q) = 0 := checkF_right (f := fK ks q) path_g99 (by show partOk (kindF pG99) [45] = true; rw [kind_g99]; decide) (by
    unfold boundF farN fK
    simp only
    omega)
  rw [ofText_fine (by rw [path_g99]; simp) (by rw [kind_g99, hkE]; simp [Er.code]) (by rw [hf]; exact hck), hf]
theorem fK_check {ks : List Int} {q : Int} (hm : madeE ks = .nil) (hne : ks ≠ []) (h1 : 1 ≤ q) (h2 : q ≤ 1073741824) : checkF (fK ks q) = 0 := by
  have e := of_keys hm hne h1 h2
  obtain ⟨-, -, h3, h4⟩ := ofText_inv (show (ofText pG99 [45] (madeT ks) q).2 = 0 by rw [e])
  rw [e] at h4
  rw [← h4] at h3
  exact h3
def newerS (s : Sn) (fs : List Fl) (ks : List Int) : Sn := { s with seq := s.seq + 1, files := placeF (fK ks (s.seq + 1)) fs }
def olderS (s : Sn) (fs : List Fl) (ks : List Int) : Sn := { s with files := placeF (fK ks 1) fs }
theorem drop_ris (l : List Rw) (ks : List Int) : dropR l (risOf ks) = dropR l ks := by
  unfold dropR
  refine List.filter_congr fun r _ => ?_
  rw [Bool.eq_iff_iff]
  simp only [Bool.not_eq_true', decide_eq_false_iff_not, mem_risOf]
theorem scan_deletes {t : St × List Fl} {n : Nat} (ht : TbOk t n) (hn : n ≤ 40) {s : Sn} {ks : List Int} (hm : madeE ks = .nil) (hne : ks ≠ []) (hE : rowsE t.1.objs { s with files := t.2 } iMin iMax = .nil) (hq : s.seq < 1073741824) (hf : findV t.2 pG99 < 0) :
    putL t.1 pG99 [45] (madeT ks) (s.seq + 1) = (fK ks (s.seq + 1), true) ∧ (∀ o ∈ (putS t.1 pG99 (madeT ks)).objs, o.text.length ≤ 2700) ∧
    (rowsE (putS t.1 pG99 (madeT ks)).objs (newerS s t.2 ks) iMin iMax = .nil ∧ rowsL (putS t.1 pG99 (madeT ks)).objs (newerS s t.2 ks) iMin iMax = dropR (rowsL t.1.objs { s with files := t.2 } iMin iMax) ks) ∧
    (1 ≤ s.seq → rowsE (putS t.1 pG99 (madeT ks)).objs (olderS s t.2 ks) iMin iMax = .nil ∧ rowsL (putS t.1 pG99 (madeT ks)).objs (olderS s t.2 ks) iMin iMax = rowsL t.1.objs { s with files := t.2 } iMin iMax) := by
  have hRs := (rowsE_nil hE).1
  have hb := hRs.bnd
  have hseq : 0 ≤ s.seq := by have := hRs.nums.2.2.1.1; exact this
  have hg : getO t.1.objs pG99 = none := getO_none.2 fun o ho e => by
    obtain ⟨g, hgm, hge⟩ := ht.only o ho
    exact findV_neg.1 hf g hgm (hge.trans e)
  have hT := madeT_len ks
  have htot := ht.tot
  have hnum := ht.num
  obtain ⟨hp1, hp2⟩ := put_fine (s := t.1) (path_name path_g99) (t := madeT ks) (by omega) ht.on ht.cut hg (by omega) (by omega)
  have hoff : ∀ f ∈ t.2, f.path ≠ (⟨pG99, madeT ks, t.1.day⟩ : Ob).name := findV_neg.1 hf
  have hkey := findV_off ht.ok (p := pG99) (by rw [path_g99]; simp) hf
  have hlen := ht.len
  obtain ⟨r1, r2⟩ := rows_put (s := { s with files := t.2 }) (lo := iMin) (hi := iMax) ht.ris (x := ⟨pG99, madeT ks, t.1.day⟩) hg hoff
  have hE' := r1.trans hE
  rw [hp2]
  have hfe : ∀ q, 1 ≤ q → q ≤ 1073741824 → fileE (putO ⟨pG99, madeT ks, t.1.day⟩ t.1.objs) (fK ks q) = 0 := fun q h1 h2 =>
    fileE_of (getO_put_same ht.ris (x := ⟨pG99, madeT ks, t.1.day⟩) hg) (of_keys hm hne h1 h2)
  have hko : ∀ q, keysO (putO ⟨pG99, madeT ks, t.1.day⟩ t.1.objs) (fK ks q) = risOf ks := fun q => by
    unfold keysO
    rw [if_pos (by rfl)]
    have : textO (putO ⟨pG99, madeT ks, t.1.day⟩ t.1.objs) pG99 = madeT ks := by
      unfold textO
      rw [getO_put_same ht.ris (x := ⟨pG99, madeT ks, t.1.day⟩) hg]
      rfl
    show goneL (textO _ pG99) = _
    rw [this, (made_back hm).2]
  have hrl : ∀ q, 1 ≤ q → q ≤ 1073741824 → RightL (placeF (fK ks q) t.2) := fun q h1 h2 =>
    ⟨by rw [placeF_len]; omega, fun g hgm => by
      rcases mem_placeF.1 hgm with rfl | hgm
      · exact fK_check hm hne h1 h2
      · exact ht.ok g hgm, placeF_up ht.up hkey⟩
  have hbn : snapBound (newerS s t.2 ks) = false := by
    unfold snapBound inB at hb ⊢
    unfold newerS
    simp only [Bool.or_eq_false_iff, Bool.not_eq_false', Bool.and_eq_true, decide_eq_true_eq, decide_eq_false_iff_not] at hb ⊢
    omega
  have hR1 : RightSn (newerS s t.2 ks) := ⟨hbn, hRs.op, hrl _ (by omega) (by omega), fun f hfm => by
    show f.seq ≤ s.seq + 1
    rcases mem_placeF.1 hfm with rfl | hfm
    · exact Int.le_refl _
    · have := hRs.sq f hfm
      have h' : f.seq ≤ s.seq := this
      omega⟩
  refine ⟨by unfold putL; rw [if_pos hp1, of_keys hm hne (by omega) (by omega)]; rfl, fun o ho => ?_, ?_, fun h1 => ?_⟩
  · rcases mem_putO.1 ho with rfl | ho
    · show (madeT ks).length ≤ _; omega
    · exact ht.txt o ho
  · obtain ⟨k1, k2⟩ := rows_newer (s := { s with files := t.2 }) (s' := newerS s t.2 ks) (f := fK ks (s.seq + 1)) hE' hR1 rfl rfl (hfe _ (by omega) (by omega)) (by show s.seq < s.seq + 1; omega)
    refine ⟨k1, ?_⟩
    rw [k2, hko, drop_ris, r2]
  · have hR2 : RightSn (olderS s t.2 ks) := ⟨hb, hRs.op, hrl _ (by omega) (by omega), fun f hfm => by
      show f.seq ≤ s.seq
      rcases mem_placeF.1 hfm with rfl | hfm
      · exact h1
      · exact hRs.sq f hfm⟩
    obtain ⟨k1, k2⟩ := rows_older (s := { s with files := t.2 }) (s' := olderS s t.2 ks) (f := fK ks 1) hE' hR2 rfl rfl (hfe _ (by omega) (by omega)) (Int.le_refl _)
    exact ⟨k1, by rw [k2, r2]⟩
end Go.Proofs.YtefoaeamfkbgbaaGreatDoor
namespace Go.Proofs.YtefoaeamfkbgbaaGreatDoor
open Go.RowKit Go.Maps

theorem rows_len' {os : List Ob} {s : Sn} {lo hi : Int} (h : rowsE os s lo hi = .nil) : (rowsL os s lo hi).length ≤ 2400 := by
  unfold rowsL
  rw [if_pos h, sort_len]
  obtain ⟨hr, hf⟩ := rowsE_nil h
  have h1 := allUp_len (os := os) (l := pruneL s.files lo hi) (lo := lo) (hi := hi) hf
  have h2 : (pruneL s.files lo hi).length ≤ s.files.length := List.length_filter_le _ _
  have h3 := hr.lst.len
  unfold allO
  omega
theorem fK_mid (ks : List Int) (q : Int) : midF (fK ks q) := ⟨by show pG99.length ≤ _; decide, by show [45].length ≤ _; decide⟩
/-- Rows that lie beside a store, when only the store has turned. -/
theorem rows_turn {w w' : World} {sb mb : Nat} {st : St} {v : Value} {l : List Rw} (h : RowsAt w v l) (hs : StoreAt w sb mb st) (hb : But2 sb mb w w') : RowsAt w' v l := by
  obtain ⟨a, c, b, o, hv, ha, hc, hm, hx⟩ := h
  refine ⟨a, c, b, o, hv, ha, hc, hm, fun k y hk j u hu => ?_⟩
  have c0 := hx k y hk 0 _ rfl
  have c1 := hx k y hk 1 _ rfl
  have c2 := hx k y hk 2 _ rfl
  have n1 : b ≠ sb := by
    rintro rfl
    have hg := hs.blk
    rw [cell_of_row w _ _ _ _ (0, 0) hg] at c0 c1 c2
    rcases Nat.lt_or_ge (o + k * 3) 5 with h' | h'
    · have : o + k * 3 = 0 ∨ o + k * 3 = 1 ∨ o + k * 3 = 2 ∨ o + k * 3 = 3 ∨ o + k * 3 = 4 := by omega
      rcases this with e | e | e | e | e <;> rw [e] at c0 c1 c2 <;> simp at c0 c1 c2
    · rw [Array.getElem?_eq_none (by simp; omega)] at c0; cases c0
  have n2 : b ≠ mb := by
    rintro rfl
    obtain ⟨es, clock, hg, _⟩ := hs.own
    unfold World.cell? at c0
    rw [hg] at c0
    cases c0
  have hc := hx k y hk j u hu
  have := hb.block b (World.block_lt_of_cell? w _ c0) n1 n2
  rw [← hc]
  unfold World.cell?
  simp only [this]
set_option maxHeartbeats 4000000 in
set_option maxRecDepth 20000 in
theorem scanDeletes_any (E : Nat → Addr) (B : Nat) (vp : Value) (l : List Pc) (v : Value) (s : Sn) (vk : Value) (ks : List Int) (w : World) (hE : Errs [1, 2, 3, 4, 5, 6, 7, 8, 9, 10, 12] E B w) (hT : LNum B w) (hM : LMax B w) (hlp : PiecesAt w vp l) (hh : HeldPc w l) (hl : FilesAt w v s.files) (hk : IntsAt w vk ks) :
    Calls Tryz.prog 3 #[vp, snapV s v, vk] w fun e w' => e = .returned (.bool true) ∧ Below w.heap.size w w' := by
  have hBw := hE.le
  have hif := isIfaceE
  have X := Lib.hid (fun W (h : Below w.heap.size w W) => (⟨hE.below' h hBw, hT.below' h hBw, hM.below' h hBw⟩ : Errs [1, 2, 3, 4, 5, 6, 7, 8, 9, 10, 12] E B W ∧ LNum B W ∧ LMax B W))
  have XF := Lib.hid (fun W (h : Below w.heap.size w W) => (⟨hlp.below h, hh.below h, hl.below h⟩ : PiecesAt W vp l ∧ HeldPc W l ∧ FilesAt W v s.files))
  have XK := Lib.hid (fun W (h : Below w.heap.size w W) => hk.below h)
  obtain ⟨a, c, rfl, -, -⟩ := At.form' hl
  obtain ⟨ap, cp, rfl, -, -⟩ := At.form' hlp
  obtain ⟨ak, ck, rfl, -, -⟩ := At.form' hk
  have hba : Below w.heap.size w (w.alloc (.cells #[.int .i64 s.id, .int .i64 s.parent, .int .i64 s.seq, .int .i64 s.day, .int .i64 s.index, S s.op, .slice a s.files.length c] 25)) := (Below.refl _ _).alloc (Nat.le_refl _) _
  have hg0 := heap_alloc_new w (.cells #[.int .i64 s.id, .int .i64 s.parent, .int .i64 s.seq, .int .i64 s.day, .int .i64 s.index, S s.op, .slice a s.files.length c] 25)
  have HG := Lib.hid (fun W (h : Below (w.alloc (.cells #[.int .i64 s.id, .int .i64 s.parent, .int .i64 s.seq, .int .i64 s.day, .int .i64 s.index, S s.op, .slice a s.files.length c] 25)).heap.size (w.alloc (.cells #[.int .i64 s.id, .int .i64 s.parent, .int .i64 s.seq, .int .i64 s.day, .int .i64 s.index, S s.op, .slice a s.files.length c] 25)) W) => rowKept hg0 h)
  have HSz := Lib.hid (Array.getElem?_eq_some_iff.1 hg0).1
  clear hE hT hM hlp hh hl hg0 hk
  go_enter Tryz.func3, Tryz.ntmps3
  go_upto_region 1 with fail
  generalize w.alloc (.cells #[.int .i64 s.id, .int .i64 s.parent, .int .i64 s.seq, .int .i64 s.day, .int .i64 s.index, S s.op, .slice a s.files.length c] 25) = w0 at *
  have HSc := Lib.hid (scanned_any E B w0 ((X.out _ hba).1.sub (by decide)) (X.out _ hba).2.1 (X.out _ hba).2.2)
  go_wp2_with fail
  refine HSc.out.mono ?_
  rintro e w1 ⟨rfl, hb1⟩
  have hbw1 := hba.trans (hb1.mono hba.size)
  have hlp := longPiecesD_any (.slice ap l.length cp) l w1 (XF.out _ hbw1).1 (XF.out _ hbw1).2.1
  clear HSc
  rcases Decidable.em (shortPcs l) with hsp | hsp
  case inr =>
    rw [decide_eq_false hsp, Bool.not_false] at hlp
    have HLp := Lib.hid hlp
    clear hsp hlp
    go_wp2_with fail
    refine HLp.out.mono ?_
    rintro e w2 ⟨rfl, rfl⟩
    go_wp2_with fail
    go_ret
    exact ⟨rfl, hbw1⟩
  rw [decide_eq_true hsp, Bool.not_true] at hlp
  have HLp := Lib.hid hlp
  have HSp := Lib.hid hsp
  clear hsp hlp
  obtain ⟨c0, c1, c2, c3, c4, c5, c6⟩ := snRow7 (HG.out _ hb1)
  have hls := longSnapD_any s _ w1 (XF.out _ hbw1).2.2
  rcases Decidable.em (shortS s) with hss | hss
  case inr =>
    rw [if_neg hss] at hls
    have HLs := Lib.hid hls
    clear hss hls
    go_wp2_with fail
    refine HLp.out.mono ?_
    rintro e w2 ⟨rfl, rfl⟩
    go_wp2_with fail
    refine HLs.out.mono ?_
    rintro e w2 ⟨rfl, hb2⟩
    go_wp2_with fail
    go_ret
    exact ⟨rfl, hbw1.trans (hb2.mono hbw1.size)⟩
  rw [if_pos hss] at hls
  have HLs := Lib.hid hls
  have HMs := Lib.hid hss.2.mid
  clear hss hls
  go_wp2_with fail
  refine HLp.out.mono ?_
  rintro e w2 ⟨rfl, rfl⟩
  go_wp2_with fail
  refine HLs.out.mono ?_
  rintro e w2 ⟨rfl, hb2⟩
  have hbw2 := hbw1.trans (hb2.mono hbw1.size)
  have hb02 := hb1.trans (hb2.mono hb1.size)
  clear c0 c1 c2 c3 c4 c5 c6 HLp HLs
  by_cases hkl : ks.length ≤ 40
  case neg =>
    have g1 : (40 : Int) < (ks.length : Int) := by omega
    go_wp2_with fail
    go_ret
    exact ⟨rfl, hbw2⟩
  have g1 : decide ((40 : Int) < (ks.length : Int)) = false := by simp; omega
  have g2 : decide (40 < ks.length) = false := by simp; omega
  have HTa := Lib.hid (tableL_any E B _ l w2 ((X.out _ hbw2).1.sub (by decide)) (XF.out _ hbw2).1 (XF.out _ hbw2).2.1 HSp.out)
  have hTb := TbOk.of (l := l) (fun p hp => (HSp.out.2 p hp).2.2.1) (by have := HSp.out.1; omega)
  have HTn : Hid (l.length ≤ 15) := Lib.hid HSp.out.1
  obtain ⟨t, ht⟩ : ∃ t, tableTb l = t := ⟨_, rfl⟩
  rw [ht] at HTa hTb
  have HTb := Lib.hid hTb
  have HTx : Hid (∀ o ∈ t.1.objs, o.text.length ≤ 10000) := Lib.hid (fun o ho => by have := hTb.txt o ho; omega)
  clear ht hTb
  go_wp2_with fail
  refine HTa.out.mono ?_
  rintro e w3 ⟨sb, mb, xb, vm, u, rfl, htw, hfl⟩
  have hb23 := htw.bel
  have hbw3 := hbw2.trans (hb23.mono hbw2.size)
  have hb03 := hb02.trans (hb23.mono hb02.size)
  have HN : Hid (w.heap.size ≠ sb ∧ w.heap.size ≠ mb ∧ w.heap.size ≠ xb) := Lib.hid (by have h1 := HSz.out; have h2 := htw.h1; have h3 := htw.h2; have h4 := htw.h3; have h5 := hb02.size; omega)
  have HTw := Lib.hid (htw.base hbw2)
  have HFl := Lib.hid hfl
  obtain ⟨au, cu, rfl, -, -⟩ := At.form' hfl
  clear HTa htw hfl hb23
  have HOi := Lib.hid (ownInts_any _ ks w3 (XK.out _ hbw3) (by omega))
  go_wp2_with fail
  refine HOi.out.mono ?_
  rintro e w4 ⟨v4, rfl, hv4, hb4⟩
  have hbw4 := hbw3.trans (hb4.mono hbw3.size)
  obtain ⟨a4, c4, rfl, -, -⟩ := At.form' (hv4.at encI_enc)
  have HMk := Lib.hid (goneMake_any E B _ ks w4 ((X.out _ hbw4).1.sub (by decide)) (X.out _ hbw4).2.1 (hv4.at encI_enc) (by omega))
  clear hv4 HOi
  go_wp2_with fail
  refine HMk.out.mono ?_
  rintro e w5 ⟨ev, rfl, hev, hb5⟩
  have hbw5 := hbw4.trans (hb5.mono hbw4.size)
  have hb35 := hb4.trans (hb5.mono hb4.size)
  clear HMk
  by_cases hmk : madeE ks = .nil
  case neg =>
    obtain ⟨t1, x1, rfl⟩ := hev.iface hmk
    clear hev hmk
    go_wp2_with fail
    go_ret
    exact ⟨rfl, hbw5⟩
  rw [hmk] at hev
  obtain rfl : ev = .nilIface := hev
  by_cases hne : ks = []
  case pos =>
    have g3 : ks.length = 0 := by rw [hne]; rfl
    have g4 : ((ks.length : Int) == 0) = true := by rw [g3]; rfl
    clear hne hmk
    go_wp2_with fail
    go_ret
    exact ⟨rfl, hbw5⟩
  have g3 : ¬ ks.length = 0 := fun h => hne (List.eq_nil_of_length_eq_zero h)
  have g4 : ((ks.length : Int) == 0) = false := by simp; omega
  have HMd := Lib.hid hmk
  have HNe := Lib.hid hne
  have hg5 := HG.out _ (hb03.trans (hb35.mono hb03.size))
  have f6 := frozen_row (i := 6) hg5
  have q6 : w5.cell? ⟨w.heap.size, 6, none⟩ = some (.slice a s.files.length c) := by rw [cell_of_row w5 _ _ _ _ (0, 0) hg5]; rfl
  have HTw5 := Lib.hid (HTw.out.below hb35)
  have HFl5 := Lib.hid (HFl.out.below hb35)
  have hgS := snap_set (u := .slice au t.2.length cu) hg5
  have htwS := HTw5.out.away hg5 (Nat.le_refl _) HN.out.1 HN.out.2.1 HN.out.2.2 (i := 6) (.slice au t.2.length cu)
  have hflS := filesAt_snap hg5 rfl (.slice au t.2.length cu) HFl5.out
  have hbwS := htwS.bel
  have HGone := Lib.hid (madeT_len ks)
  clear hne hmk hg5 hb35 hb4 hb5 HTw HFl HTw5 HFl5
  go_upto_region 9 with fail
  clear f6 g3 g4 q6
  generalize w5.setCell ⟨w.heap.size, 6, none⟩ (.slice au t.2.length cu) = w6 at *
  obtain ⟨s1, hs1⟩ : ∃ s1 : Sn, s1 = { s with files := t.2 } := ⟨_, rfl⟩
  have hf1 : s1.files = t.2 := by rw [hs1]
  have hgS1 : w6.heap[w.heap.size]? = some (.cells #[.int .i64 s1.id, .int .i64 s1.parent, .int .i64 s1.seq, .int .i64 s1.day, .int .i64 s1.index, S s1.op, .slice au t.2.length cu] 25 (0, 0)) := by rw [hs1]; exact hgS
  have HGS := Lib.hid (fun W (h : Below w6.heap.size w6 W) => rowKept hgS1 h)
  have HX6 := Lib.hid (fun W (h : Below w6.heap.size w6 W) => X.out W (hbwS.trans (h.mono hbwS.size)))
  have HFS := Lib.hid hflS
  have HStS := Lib.hid htwS.sto
  have HB0 : Hid (w.heap.size ≤ sb ∧ w.heap.size ≤ mb) := Lib.hid ⟨htwS.h1, htwS.h2⟩
  have HMi := Lib.hid HTb.out.mid
  have HRo1 := Lib.hid (scanRows_any E B sb mb t.1 s1 (.slice au t.2.length cu) iMin iMax w6 ((HX6.out _ (Below.refl _ _)).1.sub (by decide)) (HX6.out _ (Below.refl _ _)).2.1 (HX6.out _ (Below.refl _ _)).2.2 HStS.out HTx.out (by rw [hf1]; exact HFS.out) (by rw [hf1]; exact HMi.out))
  have HF1 := Lib.hid hf1
  obtain ⟨c0, c1, c2, c3, c4', c5, c6⟩ := snRow7 (HGS.out w6 (Below.refl _ _))
  have HSeqs : Hid (s.id = s1.id ∧ s.parent = s1.parent ∧ s.seq = s1.seq ∧ s.day = s1.day ∧ s.index = s1.index ∧ s.op = s1.op) := Lib.hid (by rw [hs1]; exact ⟨rfl, rfl, rfl, rfl, rfl, rfl⟩)
  clear hs1 hf1 hgS hgS1 hflS htwS
  go_wp2_with fail
  refine HRo1.out.mono ?_
  rintro e w7 ⟨u1, ev, rfl, hev, hu1, hb7⟩
  have hbw7 := hbwS.trans (hb7.mono hbwS.size)
  clear c0 c1 c2 c3 c4' c5 c6 HRo1
  by_cases hE : rowsE t.1.objs s1 iMin iMax = .nil
  case neg =>
    obtain ⟨t1, x1, rfl⟩ := hev.iface hE
    clear hE hu1 hev
    go_wp2_with fail
    go_ret
    exact ⟨rfl, hbw7⟩
  rw [hE] at hev
  obtain rfl : ev = .nilIface := hev
  have HE := Lib.hid hE
  clear hE
  obtain ⟨-, -, c2, -, -, -, -⟩ := snRow7 (HGS.out w7 hb7)
  by_cases hq : s1.seq < 1073741824
  case neg =>
    have g5 : (1073741824 : Int) ≤ s1.seq := by omega
    clear hq
    go_wp2_with fail
    go_ret
    exact ⟨rfl, hbw7⟩
  have g5 : decide ((1073741824 : Int) ≤ s1.seq) = false := by simp; omega
  have HFd := Lib.hid (listFind_any (.slice au t.2.length cu) t.2 pG99 w7 (HFS.out.below hb7))
  by_cases hfd : findV t.2 pG99 < 0
  case neg =>
    obtain ⟨fv, hfv⟩ : ∃ fv, findV t.2 pG99 = fv := ⟨_, rfl⟩
    rw [hfv] at HFd hfd
    have g6 : (0 : Int) ≤ fv := by omega
    clear hfd hfv hq
    go_wp2_with fail
    refine HFd.out.mono ?_
    rintro e w8 ⟨rfl, hb8⟩
    go_wp2_with fail
    go_ret
    exact ⟨rfl, hbw7.trans (hb8.mono hbw7.size)⟩
  have hpl := scan_deletes HTb.out (by have := HTn.out; omega) (s := s1) HMd.out HNe.out (by rw [show ({ s1 with files := t.2 } : Sn) = s1 by rw [← HF1.out]]; exact HE.out) hq hfd
  rw [show ({ s1 with files := t.2 } : Sn) = s1 by rw [← HF1.out]] at hpl
  have hsq0 : 0 ≤ s1.seq := ((rowsE_nil HE.out).1.nums).2.2.1.1
  have hlen := rows_len' HE.out
  obtain ⟨A, hA⟩ : ∃ A, rowsL t.1.objs s1 iMin iMax = A := ⟨_, rfl⟩
  rw [hA] at hpl hu1 hlen
  obtain ⟨a7, c7, rfl, -, -⟩ := At.form' hu1
  have HU7 := Lib.hid hu1
  obtain ⟨TT, hTT⟩ : ∃ TT, madeT ks = TT := ⟨_, rfl⟩
  rw [hTT] at hpl HGone ⊢
  obtain ⟨st2, hst2⟩ : ∃ st2, putS t.1 pG99 TT = st2 := ⟨_, rfl⟩
  rw [hst2] at hpl
  obtain ⟨hpl1, hpl2, hpl3, hpl4⟩ := hpl
  obtain ⟨f, hf⟩ : ∃ f, fK ks (s1.seq + 1) = f := ⟨_, rfl⟩
  rw [hf] at hpl1
  have HFk := Lib.hid hf
  have HPl1 := Lib.hid hpl1; have HPl2 := Lib.hid hpl2; have HPl3 := Lib.hid hpl3; have HPl4 := Lib.hid hpl4
  have HSt2 := Lib.hid hst2
  obtain ⟨fv, hfv⟩ : ∃ fv, findV t.2 pG99 = fv := ⟨_, rfl⟩
  rw [hfv] at HFd hfd
  have g6 : decide ((0 : Int) ≤ fv) = false := by simp; omega
  clear hf hpl1 hpl2 hpl3 hpl4 hst2 hTT hA hu1 hfv hfd
  go_wp2_with fail
  refine HFd.out.mono ?_
  rintro e w8 ⟨rfl, hb8⟩
  have hb68 := hb7.trans (hb8.mono hb7.size)
  have hbw8 := hbw7.trans (hb8.mono hbw7.size)
  have HSt8 := Lib.hid (HStS.out.below hb68)
  have HL8 : Hid (sb < w8.heap.size ∧ mb < w8.heap.size ∧ w.heap.size < w8.heap.size) := Lib.hid ⟨HSt8.out.lt, HSt8.out.ltm, (Array.getElem?_eq_some_iff.1 (HGS.out w8 hb68)).1⟩
  have HW8 := Lib.hid (fun W (h : But2 sb mb w8 W) => (⟨But2.below hbw8 h HB0.out.1 HB0.out.2 hbw8.size, at_turn (HFS.out.below hb68) (fun _ => rfl) (by decide) h HSt8.out.thin.1 HSt8.out.thin.2, rows_turn (HU7.out.below hb8) HSt8.out h, (h.block w.heap.size HL8.out.2.2 HN.out.1 HN.out.2.1).trans (HGS.out w8 hb68)⟩ : Below w.heap.size w W ∧ FilesAt W (.slice au t.2.length cu) t.2 ∧ RowsAt W (.slice a7 A.length c7) A ∧ W.heap[w.heap.size]? = some (.cells #[.int .i64 s1.id, .int .i64 s1.parent, .int .i64 s1.seq, .int .i64 s1.day, .int .i64 s1.index, S s1.op, .slice au t.2.length cu] 25 (0, 0))))
  clear c2 HFd hb7 hb8 HU7 HFS HGS hbw7 hbw5 hbw4 hbw3
  obtain ⟨c0, c1, c2, c3, c4', c5, c6⟩ := snRow7 (HW8.out w8 (But2.of (Below.refl _ _))).2.2.2
  have hbA := (But2.of (sb := sb) (mb := mb) (Below.refl w8.heap.size w8)).trans (But2.of ((Below.refl w8.heap.size w8).alloc (Nat.le_refl _) (snObj s1 (.slice au t.2.length cu))))
  have hgA := heap_alloc_new w8 (snObj s1 (.slice au t.2.length cu))
  have HStA := Lib.hid (HSt8.out.below ((Below.refl w8.heap.size w8).alloc (Nat.le_refl _) (snObj s1 (.slice au t.2.length cu))))
  go_upto_region 13 with fail
  generalize w8.alloc (snObj s1 (.slice au t.2.length cu)) = wA at *
  obtain ⟨S2, hS2⟩ : ∃ S2, w8.heap.size = S2 := ⟨_, rfl⟩
  have HS2 : Hid (w8.heap.size ≤ S2 ∧ S2 ≠ sb ∧ S2 ≠ mb ∧ S2 ≠ w.heap.size ∧ w.heap.size ≠ S2) := Lib.hid (by have := HL8.out; omega)
  rw [hS2] at hgA ⊢
  clear hS2 c0 c1 c2 c3 c4' c5 c6
  obtain ⟨-, -, c2, -, -, -, -⟩ := snRow7 (HW8.out wA hbA).2.2.2
  have f2 := frozen_row (i := 2) hgA
  have q2 : wA.cell? ⟨S2, 2, none⟩ = some (.int .i64 s1.seq) := by rw [cell_of_row wA _ _ _ _ (0, 0) hgA]; rfl
  have hw1 : wrap64 (s1.seq + 1) = s1.seq + 1 := IntWalk.wrap64_in _ (by omega)
  have hw2 : IntKind.i64.wrap (s1.seq + 1) = s1.seq + 1 := IntWalk.i64_in _ (by omega)
  have hbB := hbA.away HS2.out.1 (i := 2) (.int .i64 (s1.seq + 1))
  have HStB := Lib.hid (HStA.out.away HS2.out.2.1 HS2.out.2.2.1 (i := 2) (.int .i64 (s1.seq + 1)))
  have hgB' := heap_setCell_same wA S2 2 _ _ (.int .i64 (s1.seq + 1)) hgA
  have hgB : (wA.setCell ⟨S2, 2, none⟩ (.int .i64 (s1.seq + 1))).heap[S2]? = some (.cells #[.int .i64 s1.id, .int .i64 s1.parent, .int .i64 (s1.seq + 1), .int .i64 s1.day, .int .i64 s1.index, S s1.op, .slice au t.2.length cu] 25 (0, 0)) := hgB'
  clear hgA hgB'
  go_upto_region 14 with fail
  generalize wA.setCell ⟨S2, 2, none⟩ (.int .i64 (s1.seq + 1)) = wB at *
  clear c2 f2 q2 hw1 hw2 hbA
  have c2 : wB.cell? ⟨S2, 2, none⟩ = some (.int .i64 (s1.seq + 1)) := by rw [cell_of_row wB _ _ _ _ (0, 0) hgB]; rfl
  have HXB := Lib.hid (X.out _ (HW8.out wB hbB).1)
  have hPu := putL_any E B sb mb t.1 pG99 [45] TT (s1.seq + 1) wB (HXB.out.1.sub (by decide)) HXB.out.2.1 HXB.out.2.2 HStB.out (by decide) (by decide) (by have := HGone.out; omega) (Nat.le_trans hBw HB0.out.1) (Nat.le_trans hBw HB0.out.2)
  unfold PutPost at hPu
  rw [HPl1.out, HSt2.out] at hPu
  have HPu := Lib.hid hPu
  have HL2 := Lib.hid (Array.getElem?_eq_some_iff.1 hgB).1
  clear hPu
  go_wp2_with fail
  refine HPu.out.mono ?_
  rintro e wC ⟨rfl, hstC, hbC⟩
  have hb8C := hbB.trans hbC
  have hgC := (hbC.block S2 HL2.out HS2.out.2.1 HS2.out.2.2.1).trans hgB
  clear c2 HPu hgB
  unfold fileV
  have hba2 : Below wC.heap.size wC (wC.alloc (.cells #[S f.path, S f.part, .int .i64 f.n, .int .i64 f.lo, .int .i64 f.hi, .int .i64 f.seq] 44)) := (Below.refl _ _).alloc (Nat.le_refl _) _
  have hgF := heap_alloc_new wC (.cells #[S f.path, S f.part, .int .i64 f.n, .int .i64 f.lo, .int .i64 f.hi, .int .i64 f.seq] 44)
  have hb8D := hb8C.trans (But2.of hba2)
  have hgD := rowKept hgC hba2
  have HStD := Lib.hid (hstC.below hba2)
  have HFb : Hid (w8.heap.size ≤ wC.heap.size ∧ wC.heap.size ≠ sb ∧ wC.heap.size ≠ mb ∧ wC.heap.size ≠ S2 ∧ S2 ≠ wC.heap.size) := Lib.hid (by have h1 := hb8C.size; have h2 := HL8.out; have h3 := (Array.getElem?_eq_some_iff.1 hgC).1; omega)
  clear hstC hgC hbC hb8C hbB hba2
  go_upto_region 15 with fail
  generalize wC.alloc (.cells #[S f.path, S f.part, .int .i64 f.n, .int .i64 f.lo, .int .i64 f.hi, .int .i64 f.seq] 44) = wD at *
  obtain ⟨F, hF⟩ : ∃ F, wC.heap.size = F := ⟨_, rfl⟩
  rw [hF] at hgF HFb ⊢
  clear hF
  obtain ⟨e0, e1, e2, e3, e4, e5⟩ := rowF6 hgF
  have HMf : Hid (midF f) := Lib.hid (by rw [← HFk.out]; exact fK_mid ks _)
  have HPc := Lib.hid (placed_any (.slice au t.2.length cu) t.2 f wD (HW8.out wD hb8D).2.1 (by have h1 := HTb.out.len; have h2 := HTn.out; omega) HMi.out HMf.out)
  go_wp2_with fail
  refine HPc.out.mono ?_
  rintro e wE ⟨u2, rfl, hu2, hbE⟩
  clear e0 e1 e2 e3 e4 e5 HPc
  obtain ⟨PL, hPL⟩ : ∃ PL, placeF f t.2 = PL := ⟨_, rfl⟩
  rw [hPL] at hu2
  obtain ⟨aE, cE, rfl, -, -⟩ := At.form' hu2
  have hb8E := hb8D.trans (But2.of hbE)
  have hgE := rowKept hgD hbE
  have hgFE := rowKept hgF hbE
  have HStE := Lib.hid (HStD.out.below hbE)
  have hb8G := hb8E.away HS2.out.1 (i := 6) (.slice aE PL.length cE)
  have HStG := Lib.hid (HStE.out.away HS2.out.2.1 HS2.out.2.2.1 (i := 6) (.slice aE PL.length cE))
  have hgG := snap_set (u := .slice aE PL.length cE) hgE
  have hgFG := (set_other (w := wE) (i := 6) HFb.out.2.2.2.2 (.slice aE PL.length cE)).trans hgFE
  have hflG := filesAt_snap hgE rfl (.slice aE PL.length cE) hu2
  have f6 := frozen_row (i := 6) hgE
  have q6 : wE.cell? ⟨S2, 6, none⟩ = some (.slice au t.2.length cu) := by rw [cell_of_row wE _ _ _ _ (0, 0) hgE]; rfl
  clear hgD hgF hgFE hb8D hbE hb8E hu2 HStD
  go_upto_region 18 with fail
  generalize wE.setCell ⟨S2, 6, none⟩ (.slice aE PL.length cE) = wG at *
  clear f6 hgE q6
  obtain ⟨s2, hs2⟩ : ∃ s2, s2 = newerS s1 t.2 ks := ⟨_, rfl⟩
  have hgG2 : wG.heap[S2]? = some (.cells #[.int .i64 s2.id, .int .i64 s2.parent, .int .i64 s2.seq, .int .i64 s2.day, .int .i64 s2.index, S s2.op, .slice aE PL.length cE] 25 (0, 0)) := by rw [hs2]; exact hgG
  have hfs2 : s2.files = PL := by rw [hs2, ← hPL, ← HFk.out]; rfl
  have hpl3 := HPl3.out
  rw [← hs2] at hpl3
  have HXG := Lib.hid (X.out _ (HW8.out wG hb8G).1)
  have hmid2 : ∀ x ∈ s2.files, midF x := by
    rw [hfs2, ← hPL]
    intro x hx
    rcases mem_placeF.1 hx with rfl | hx
    · exact HMf.out
    · exact HMi.out x hx
  have hro := scanRows_any E B sb mb st2 s2 (.slice aE PL.length cE) iMin iMax wG (HXG.out.1.sub (by decide)) HXG.out.2.1 HXG.out.2.2 HStG.out (fun o ho => by have := HPl2.out o ho; omega) (by rw [hfs2]; exact hflG) hmid2
  rw [hpl3.1, hpl3.2] at hro
  have HRo2 := Lib.hid hro
  obtain ⟨c0, c1, c2, c3, c4', c5, c6⟩ := snRow7 hgG2
  clear hro hs2 hfs2 hpl3 hgG hflG hPL hgG2 hmid2
  go_wp2_with fail
  refine HRo2.out.mono ?_
  rintro e wH ⟨u3, ev, rfl, hev, hu3, hbH⟩
  obtain rfl : ev = .nilIface := hev
  clear c0 c1 c2 c3 c4' c5 c6 HRo2 HXG
  have hb8H := hb8G.trans (But2.of hbH)
  have hgFH := rowKept hgFG hbH
  have HStH := Lib.hid (HStG.out.below hbH)
  obtain ⟨aH, cH, rfl, -, -⟩ := At.form' hu3
  have HU3 := Lib.hid hu3
  have HDr := Lib.hid (rowDrop_any (.slice a7 A.length c7) (.slice ak ks.length ck) A ks wH (HW8.out wH hb8H).2.2.1 (XK.out _ (HW8.out wH hb8H).1) (by omega) (by omega))
  clear hu3 hgFG hbH hb8G HStG
  go_wp2_with fail
  refine HDr.out.mono ?_
  rintro e wI ⟨v8, rfl, hv8, hbI⟩
  obtain ⟨aI, cI, rfl, -, -⟩ := At.form' (hv8.at encR_enc)
  have hsm := sameRows_any _ _ (dropR A ks) (dropR A ks) wI (HU3.out.below hbI) (hv8.at encR_enc)
  rw [decide_eq_true rfl] at hsm
  have HSm := Lib.hid hsm
  clear hsm hv8 HDr
  go_wp2_with fail
  refine HSm.out.mono ?_
  rintro e wJ ⟨rfl, hbJ⟩
  have hHJ := hbI.trans (hbJ.mono hbI.size)
  have hb8J := hb8H.trans (But2.of hHJ)
  have hgFJ := rowKept hgFH hHJ
  have HStJ := Lib.hid (HStH.out.below hHJ)
  have f5 := frozen_row (i := 5) hgFJ
  have q5 : wJ.cell? ⟨F, 5, none⟩ = some (.int .i64 f.seq) := by rw [cell_of_row wJ _ _ _ _ (0, 0) hgFJ]; rfl
  have hb8K := hb8J.away HFb.out.1 (i := 5) (.int .i64 1)
  have HStK := Lib.hid (HStJ.out.away HFb.out.2.1 HFb.out.2.2.1 (i := 5) (.int .i64 1))
  have hgK' := heap_setCell_same wJ F 5 _ _ (.int .i64 1) hgFJ
  obtain ⟨f1, hf1⟩ : ∃ f1, f1 = fK ks 1 := ⟨_, rfl⟩
  have hgK : (wJ.setCell ⟨F, 5, none⟩ (.int .i64 1)).heap[F]? = some (.cells #[S f1.path, S f1.part, .int .i64 f1.n, .int .i64 f1.lo, .int .i64 f1.hi, .int .i64 f1.seq] 44 (0, 0)) := by
    rw [hf1]
    rw [← HFk.out] at hgK'
    exact hgK'
  have HF1k := Lib.hid hf1
  clear HSm HU3 hbI hbJ hHJ hgFH hgK' hf1 HStH hb8H hgFJ HStJ hb8J
  go_upto_region 22 with fail
  generalize wJ.setCell ⟨F, 5, none⟩ (.int .i64 1) = wK at *
  clear f5 q5
  obtain ⟨c0, c1, c2, c3, c4', c5, c6⟩ := snRow7 (HW8.out wK hb8K).2.2.2
  have hbl : Below wK.heap.size wK (wK.alloc (snObj s1 (.slice au t.2.length cu))) := (Below.refl _ _).alloc (Nat.le_refl _) _
  have hb8L := hb8K.trans (But2.of hbl)
  have hgL := heap_alloc_new wK (snObj s1 (.slice au t.2.length cu))
  have HStL := Lib.hid (HStK.out.below hbl)
  have hgFL := rowKept hgK hbl
  have HS3 : Hid (w8.heap.size ≤ wK.heap.size ∧ wK.heap.size ≠ sb ∧ wK.heap.size ≠ mb ∧ F ≠ wK.heap.size) := Lib.hid (by have h1 := hb8K.size; have h2 := HL8.out; have h3 := (Array.getElem?_eq_some_iff.1 hgK).1; omega)
  clear hbl hgK
  go_upto_region 23 with fail
  generalize wK.alloc (snObj s1 (.slice au t.2.length cu)) = wL at *
  obtain ⟨S3, hS3⟩ : ∃ S3, wK.heap.size = S3 := ⟨_, rfl⟩
  rw [hS3] at hgL HS3 ⊢
  clear hS3 c0 c1 c2 c3 c4' c5 c6 hb8K HStK
  obtain ⟨e0, e1, e2, e3, e4, e5⟩ := rowF6 hgFL
  have HMf1 : Hid (midF f1) := Lib.hid (by rw [HF1k.out]; exact fK_mid ks _)
  have HPc := Lib.hid (placed_any (.slice au t.2.length cu) t.2 f1 wL (HW8.out wL hb8L).2.1 (by have h1 := HTb.out.len; have h2 := HTn.out; omega) HMi.out HMf1.out)
  go_wp2_with fail
  refine HPc.out.mono ?_
  rintro e wM ⟨u4, rfl, hu4, hbM⟩
  clear e0 e1 e2 e3 e4 e5 HPc
  obtain ⟨PM, hPM⟩ : ∃ PM, placeF f1 t.2 = PM := ⟨_, rfl⟩
  rw [hPM] at hu4
  obtain ⟨aM, cM, rfl, -, -⟩ := At.form' hu4
  have hb8M := hb8L.trans (But2.of hbM)
  have hgM := rowKept hgL hbM
  have HStM := Lib.hid (HStL.out.below hbM)
  have hb8N := hb8M.away HS3.out.1 (i := 6) (.slice aM PM.length cM)
  have HStN := Lib.hid (HStM.out.away HS3.out.2.1 HS3.out.2.2.1 (i := 6) (.slice aM PM.length cM))
  have hgN := snap_set (u := .slice aM PM.length cM) hgM
  have hflN := filesAt_snap hgM rfl (.slice aM PM.length cM) hu4
  have f6 := frozen_row (i := 6) hgM
  have q6 : wM.cell? ⟨S3, 6, none⟩ = some (.slice au t.2.length cu) := by rw [cell_of_row wM _ _ _ _ (0, 0) hgM]; rfl
  clear hgL hgFL hb8L hb8M hbM hu4 HStL
  go_upto_region 24 with fail
  generalize wM.setCell ⟨S3, 6, none⟩ (.slice aM PM.length cM) = wN at *
  clear f6 hgM q6
  obtain ⟨s3, hs3⟩ : ∃ s3, s3 = olderS s1 t.2 ks := ⟨_, rfl⟩
  have hgN3 : wN.heap[S3]? = some (.cells #[.int .i64 s3.id, .int .i64 s3.parent, .int .i64 s3.seq, .int .i64 s3.day, .int .i64 s3.index, S s3.op, .slice aM PM.length cM] 25 (0, 0)) := by rw [hs3]; exact hgN
  have hfs3 : s3.files = PM := by rw [hs3, ← hPM, HF1k.out]; rfl
  have hsq3 : s3.seq = s1.seq := by rw [hs3]; rfl
  have HXN := Lib.hid (X.out _ (HW8.out wN hb8N).1)
  have hbwN := (HW8.out wN hb8N).1
  obtain ⟨c0, c1, c2, c3, c4', c5, c6⟩ := snRow7 hgN3
  clear hgN hgN3
  by_cases hold : s3.seq < 1
  case pos =>
    clear hs3 hfs3 hsq3 hflN
    go_wp2_with fail
    go_ret
    exact ⟨rfl, hbwN⟩
  have g7 : decide (s3.seq < 1) = false := decide_eq_false hold
  have hpl4 := HPl4.out (by omega)
  rw [← hs3] at hpl4
  have hmid3 : ∀ x ∈ s3.files, midF x := by
    rw [hfs3, ← hPM]
    intro x hx
    rcases mem_placeF.1 hx with rfl | hx
    · exact HMf1.out
    · exact HMi.out x hx
  have hro := scanRows_any E B sb mb st2 s3 (.slice aM PM.length cM) iMin iMax wN (HXN.out.1.sub (by decide)) HXN.out.2.1 HXN.out.2.2 HStN.out (fun o ho => by have := HPl2.out o ho; omega) (by rw [hfs3]; exact hflN) hmid3
  rw [hpl4.1, hpl4.2] at hro
  have HRo3 := Lib.hid hro
  clear hro hs3 hfs3 hsq3 hpl4 hflN hPM hold hmid3
  go_wp2_with fail
  refine HRo3.out.mono ?_
  rintro e wO ⟨u5, ev, rfl, hev, hu5, hbO⟩
  obtain rfl : ev = .nilIface := hev
  clear c0 c1 c2 c3 c4' c5 c6 HRo3
  have hb8O := hb8N.trans (But2.of hbO)
  obtain ⟨aO, cO, rfl, -, -⟩ := At.form' hu5
  have hsm := sameRows_any _ _ A A wO hu5 (HW8.out wO hb8O).2.2.1
  rw [decide_eq_true rfl] at hsm
  have HSm := Lib.hid hsm
  clear hsm hu5
  go_wp2_with fail
  refine HSm.out.mono ?_
  rintro e wQ ⟨rfl, hbQ⟩
  go_wp2_with fail
  go_ret
  exact ⟨rfl, (HW8.out wQ (hb8O.trans (But2.of hbQ))).1⟩
end Go.Proofs.YtefoaeamfkbgbaaGreatDoor
