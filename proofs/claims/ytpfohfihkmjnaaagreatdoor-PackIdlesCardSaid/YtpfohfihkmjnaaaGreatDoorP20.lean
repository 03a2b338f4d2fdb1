/- (*scan.reader).read: the walk. slices.IndexFunc and ContainsFunc at []string and at []api.File, at whatever function value that answers by a plain predicate. scan.Rows' closures: is a row's key gone?. scan.Rows: the walk. deedboxlaw1.dated: a closed fact of files of rows. deedboxlaw3.tabled, scanned: a closed fact. scan.Count, scan.Find: the walks. A table beside a snap that is written. A snap without its idle files, file by file: plain. -/
import Derived.Test.YtpfohfihkmjnaaaGreatDoorP19
import Derived.Test.YtpfohfihkmjnaaaGreatDoorP15
import Derived.Test.YtpfohfihkmjnaaaGreatDoorP13
import Derived.Deep.RegionWith
import Derived.Deep.DrawnRows
import Derived.Deep.RegionLaw
import Derived.Test.YtpfohfihkmjnaaaGreatDoorP12
import Derived.Test.YtpfohfihkmjnaaaGreatDoorP8
import Derived.Test.YtpfohfihkmjnaaaGreatDoorP9
import Derived.Deep.RegionHeld3
import Derived.Deep.DeepCutAuto
import Derived.Test.YtpfohfihkmjnaaaGreatDoorP7
import Derived.Test.YtpfohfihkmjnaaaGreatDoorP4
import Derived.Test.YtpfohfihkmjnaaaGreatDoorP11
import Derived.Test.YtpfohfihkmjnaaaGreatDoorP16
namespace Go.Proofs.YtpfohfihkmjnaaaGreatDoor
open Go.RowKit Go.Maps

/-- A row stays where only blocks turn that hold no cells. -/
theorem At.turned {α : Type} {enc : α → List Value} {sz : Nat} {w w' : World} {v : Value} {l : List α} (h : At enc sz w v l) (hw : ∀ k, k < w.heap.size → (∀ o, w.cell? ⟨k, o, none⟩ = none) ∨ w'.heap[k]? = w.heap[k]?) : At enc sz w' v l := by
  obtain ⟨a, c, b, o, hv, ha, hc, hm, hx⟩ := h
  refine ⟨a, c, b, o, hv, ha, hc, hm, fun k x hk j u hu => ?_⟩
  have h1 := hx k x hk j u hu
  have h2 : b < w.heap.size := World.block_lt_of_cell? w _ h1
  rcases hw b h2 with h3 | h3
  · rw [h3] at h1; cases h1
  · exact (World.cell?_of_block (w := w) (w' := w') (a := ⟨b, o + k * sz + j, none⟩) h3).trans h1
theorem map_cell {w : World} {b n : Nat} {xs : List (Str × Value)} (h : w.ownsMap Tryz.prog 9 heldR b n (mapV xs)) (o : Nat) : w.cell? ⟨b, o, none⟩ = none := by
  obtain ⟨es, clock, hb, -⟩ := h
  simp [World.cell?, hb]

/-- A reader in block rb, its maps in mr and mk, behind the files fs; all of it at B or behind it. -/
structure ReadAt (os : List Ob) (W : World) (B rb mr mk : Nat) (fs : List Fl) : Prop where
  blk : W.heap[rb]? = some (.cells #[.map (some mr), .map (some mk)] 98 (0, 0))
  low : B ≤ rb ∧ B ≤ mr ∧ B ≤ mk
  ne : mr ≠ mk ∧ rb ≠ mr ∧ rb ≠ mk
  maps : ∃ xr xk nr nk, nr ≤ fs.length ∧ nk ≤ fs.length ∧ W.ownsMap Tryz.prog 9 heldR mr nr (mapV xr) ∧ W.ownsMap Tryz.prog 9 heldR mk nk (mapV xk) ∧ Stock os W fs xr xk
section
variable {os : List Ob} {W W' : World} {B rb mr mk : Nat} {fs : List Fl}
theorem ReadAt.lt (h : ReadAt os W B rb mr mk fs) : rb < W.heap.size := (Array.getElem?_eq_some_iff.1 h.blk).1
theorem ReadAt.below (h : ReadAt os W B rb mr mk fs) (hb : Below W.heap.size W W') : ReadAt os W' B rb mr mk fs := by
  obtain ⟨xr, xk, nr, nk, h1, h2, h3, h4, h5⟩ := h.maps
  have hg : W.grownBy W' none := ⟨hb.os, hb.tape, hb.output, hb.size, fun k hk _ => hb.block k hk⟩
  exact ⟨(hb.block rb h.lt).trans h.blk, h.low, h.ne, xr, xk, nr, nk, h1, h2, h3.kept hg (by simp), h4.kept hg (by simp), h5.below hb⟩
theorem ReadAt.c0 (h : ReadAt os W B rb mr mk fs) : W.cell? ⟨rb, 0, none⟩ = some (.map (some mr)) := by rw [cell_of_row W _ _ _ _ (0, 0) h.blk]; rfl
theorem ReadAt.c1 (h : ReadAt os W B rb mr mk fs) : W.cell? ⟨rb, 1, none⟩ = some (.map (some mk)) := by rw [cell_of_row W _ _ _ _ (0, 0) h.blk]; rfl
theorem ReadAt.putRows (h : ReadAt os W B rb mr mk fs) {f : Fl} {v : Value} (hg : isG f = false) (hv : RowsAt W v (rowsO os f)) (hd : ∀ g ∈ fs, g.path ≠ f.path) (hp : f.path.length ≤ 100000) (hn : fs.length ≤ 100000) :
    ∃ w', (Instr.mapUpdate 95 (.map (some mr)) (S f.path) v).run Tryz.prog W = .ok () w' ∧ ReadAt os w' B rb mr mk (fs ++ [f]) ∧ W.grownBy w' (some mr) := by
  obtain ⟨xr, xk, nr, nk, h1, h2, h3, h4, h5⟩ := h.maps
  obtain ⟨w', k1, k2, k3⟩ := updSR h3 f.path hp (by unfold maxLen; omega) v
  have ht : ∀ k, k < W.heap.size → (∀ o, W.cell? ⟨k, o, none⟩ = none) ∨ w'.heap[k]? = W.heap[k]? := fun k hk => by
    by_cases e : k = mr
    · subst e; exact .inl (map_cell h3)
    · exact .inr (k3.block k hk (fun h' => e (Option.some.inj h')))
  refine ⟨w', k1, ⟨(k3.block rb h.lt (fun h' => h.ne.2.1 (Option.some.inj h'))).trans h.blk, h.low, h.ne, _, _, nr + 1, nk, by simp; omega, by simp; omega, k2, h4.kept k3 (fun h' => h.ne.1 (Option.some.inj h').symm), ?_⟩, k3⟩
  exact (h5.putRows hg hv hd).moved (fun v l h' => h'.turned ht) (fun v l h' => h'.turned ht)
theorem ReadAt.putKeys (h : ReadAt os W B rb mr mk fs) {f : Fl} {v : Value} (hg : isG f = true) (hv : IntsAt W v (keysO os f)) (hd : ∀ g ∈ fs, g.path ≠ f.path) (hp : f.path.length ≤ 100000) (hn : fs.length ≤ 100000) :
    ∃ w', (Instr.mapUpdate 96 (.map (some mk)) (S f.path) v).run Tryz.prog W = .ok () w' ∧ ReadAt os w' B rb mr mk (fs ++ [f]) ∧ W.grownBy w' (some mk) := by
  obtain ⟨xr, xk, nr, nk, h1, h2, h3, h4, h5⟩ := h.maps
  obtain ⟨w', k1, k2, k3⟩ := updSI h4 f.path hp (by unfold maxLen; omega) v
  have ht : ∀ k, k < W.heap.size → (∀ o, W.cell? ⟨k, o, none⟩ = none) ∨ w'.heap[k]? = W.heap[k]? := fun k hk => by
    by_cases e : k = mk
    · subst e; exact .inl (map_cell h4)
    · exact .inr (k3.block k hk (fun h' => e (Option.some.inj h')))
  refine ⟨w', k1, ⟨(k3.block rb h.lt (fun h' => h.ne.2.2 (Option.some.inj h'))).trans h.blk, h.low, h.ne, _, _, nr, nk + 1, by simp; omega, by simp; omega, h3.kept k3 (fun h' => h.ne.1 (Option.some.inj h')), k2, ?_⟩, k3⟩
  exact (h5.putKeys hg hv hd).moved (fun v l h' => h'.turned ht) (fun v l h' => h'.turned ht)
end

theorem erOf_pos' {c : Nat} (h : c ≠ 0) : erOf c = .bare c := if_neg h
theorem fileE_none {os : List Ob} {f : Fl} (h : getO os f.path = none) : fileE os f = 6 := by unfold fileE; rw [h]; rfl
theorem fileE_some {os : List Ob} {f y : Fl} {o : Ob} {c : Nat} (h : getO os f.path = some o) (h2 : ofText f.path f.part o.text f.seq = (y, c)) : fileE os f = if c ≠ 0 then c else if y ≠ f then 3 else 0 := by
  have ht : textO os f.path = o.text := by unfold textO; rw [h]; rfl
  unfold fileE
  rw [ht, h2, h]
  simp
theorem turnD {w w3 w4 : World} {D : Nat → Prop} {m : Nat} (hb : Below w.heap.size w w3) (hg : w3.grownBy w4 (some m)) (hD : D m) : ButD D w w4 :=
  ⟨hg.os.trans hb.os, hg.tape.trans hb.tape, hg.output.trans hb.output, Nat.le_trans hb.size hg.size, fun k hk hn => (hg.block k (Nat.lt_of_lt_of_le hk hb.size) (fun e => hn (by rw [Option.some.inj e]; exact hD))).trans (hb.block k hk)⟩
attribute [local go_sem ↓] Go.wp_at_zero Go.wp_at_succ in
set_option maxHeartbeats 4000000 in
set_option maxRecDepth 20000 in
theorem srRead_any (E : Nat → Addr) (B : Nat) (sb mb : Nat) (st : St) (B0 rb mr mk : Nat) (fs : List Fl) (f : Fl) (w : World) (hE : Errs [1, 2, 3, 4, 5, 6, 8, 9, 10] E B w) (hT : LNum B w) (hM : LMax B w) (h : StoreAt w sb mb st) (hx : ∀ o ∈ st.objs, o.text.length ≤ 10000)
    (hr : ReadAt st.objs w B0 rb mr mk fs) (hd : ∀ g ∈ fs, g.path ≠ f.path) (hn : fs.length ≤ 1000) (hf : midF f) :
    Calls Tryz.prog 46 #[.pointer (some ⟨rb, 0, none⟩), stP sb, fileV f] w fun e w' => ∃ ev, e = .returned ev ∧ ErV E w' ev (erOf (fileE st.objs f)) ∧ (fileE st.objs f = 0 → ReadAt st.objs w' B0 rb mr mk (fs ++ [f])) ∧ ButD (fun k => k = mr ∨ k = mk) w w' := by
  have hBw := hE.le
  have hif := isIfaceE
  have X := Lib.hid (fun W (hb : Below w.heap.size w W) => (⟨hE.below' hb hBw, hT.below' hb hBw, hM.below' hb hBw, h.below hb, hr.below hb⟩ : Errs [1, 2, 3, 4, 5, 6, 8, 9, 10] E B W ∧ LNum B W ∧ LMax B W ∧ StoreAt W sb mb st ∧ ReadAt st.objs W B0 rb mr mk fs))
  have V3 := Lib.hid (fun W (hb : Below w.heap.size w W) => (hE.below' hb hBw).var 3 (by decide))
  have hba : Below w.heap.size w (w.alloc (fileO f)) := (Below.refl _ _).alloc (Nat.le_refl _) _
  have CF := Lib.hid (fun W (h : Below (w.alloc (fileO f)).heap.size (w.alloc (fileO f)) W) => fileCells (f := f) (w := w) rfl h)
  have HX := Lib.hid hx; have HD := Lib.hid hd; have HN := Lib.hid hn; have HF := Lib.hid hf
  clear hE hT hM h hx hr hd hn hf
  go_enter Tryz.func46, Tryz.ntmps46
  go_upto_region 1 with fail
  generalize w.alloc (fileO f) = w0 at *
  obtain ⟨c0, c1, c2, c3, c4, c5⟩ := CF.out _ (Below.refl _ _)
  have HGt := Lib.hid (get_any E B sb mb st f.path w0 ((X.out _ hba).1.sub (by decide)) (X.out _ hba).2.2.2.1 HF.out.1)
  cases ho : getO st.objs f.path with
  | none =>
    have HE6 := Lib.hid (fileE_none ho)
    rw [ho] at HGt
    clear ho
    go_wp2_with fail
    refine HGt.out.mono ?_
    rintro e w1 ⟨ev, rfl, hev, hb1⟩
    have hbw1 := hba.trans (hb1.mono hba.size)
    have HEv := Lib.hid hev
    obtain ⟨t1, x1, rfl⟩ := hev.iface (by simp)
    clear hev c0 c1 c2 c3 c4 c5
    go_wp2_with fail
    go_ret
    refine ⟨_, rfl, ?_, ?_, ButD.of hbw1⟩
    · rw [HE6.out]; exact HEv.out
    · rw [HE6.out]; intro h0; cases h0
  | some o =>
    obtain ⟨y, c, hyc⟩ : ∃ y c, ofText f.path f.part o.text f.seq = (y, c) := ⟨_, _, rfl⟩
    have HEc := Lib.hid (fileE_some ho hyc)
    have HTx : Hid (textO st.objs f.path = o.text) := Lib.hid (by unfold textO; rw [ho]; rfl)
    have HLo := Lib.hid (HX.out o (getO_mem ho).1)
    rw [ho] at HGt
    have HYc := Lib.hid hyc
    clear ho hyc
    go_wp2_with fail
    refine HGt.out.mono ?_
    rintro e w1 ⟨ev, rfl, hev, hb1⟩
    obtain rfl : ev = .nilIface := hev
    have hbw1 := hba.trans (hb1.mono hba.size)
    have HOf := Lib.hid (fileOf_any E B f.path f.part o.text f.seq w1 ((X.out _ hbw1).1.sub (by decide)) (X.out _ hbw1).2.1 (X.out _ hbw1).2.2.1 HF.out.1 HF.out.2 (.inl HLo.out) (by have := HLo.out; omega))
    unfold OfPost at HOf
    rw [HYc.out] at HOf
    clear c0 c1 c2 c3 c4 c5 HGt
    obtain ⟨c0, c1, c2, c3, c4, c5⟩ := CF.out _ hb1
    go_wp2_with fail
    refine HOf.out.mono ?_
    rintro e w2 ⟨ev, rfl, hev, hb2⟩
    have hb02 := hb1.trans (hb2.mono hb1.size)
    have hbw2 := hbw1.trans (hb2.mono hbw1.size)
    have hb23 : Below w2.heap.size w2 (w2.alloc (fileO y)) := (Below.refl _ _).alloc (Nat.le_refl _) _
    have hb03 := hb02.trans (hb23.mono hb02.size)
    have hbw3 := hbw2.trans (hb23.mono hbw2.size)
    have HEv := Lib.hid (hev.below hb23)
    have CY := Lib.hid (fun W (h : Below (w2.alloc (fileO y)).heap.size (w2.alloc (fileO y)) W) => fileCells (f := y) (w := w2) rfl h)
    clear c0 c1 c2 c3 c4 c5 HOf
    by_cases hc : c = 0
    case neg =>
      obtain ⟨t1, x1, rfl⟩ := hev.iface (by rw [erOf_pos' hc]; simp)
      have HEc2 : Hid (fileE st.objs f = c) := Lib.hid (by rw [HEc.out, if_pos hc])
      have HC := Lib.hid hc
      clear hev hc
      go_wp2_with fail
      go_ret
      refine ⟨_, rfl, ?_, ?_, ButD.of hbw3⟩
      · rw [HEc2.out]; exact HEv.out
      · rw [HEc2.out]; exact fun h0 => absurd h0 HC.out
    subst hc
    obtain rfl : ev = .nilIface := hev
    go_upto_region 5 with fail
    generalize w2.alloc (fileO y) = w3 at *
    obtain ⟨c0, c1, c2, c3, c4, c5⟩ := CF.out _ hb03
    obtain ⟨y0, y1, y2, y3, y4, y5⟩ := CY.out _ (Below.refl _ _)
    have hnq := fl_neq y f
    have hgd := fl_guard
    by_cases hy : y = f
    case neg =>
      have HEc2 : Hid (fileE st.objs f = 3) := Lib.hid (by rw [HEc.out, if_neg (by simp), if_pos hy])
      rw [decide_eq_false hy, Bool.not_false] at hnq
      have v3 := V3.out _ hbw3
      simp only [errG] at v3
      clear hy
      go_wp2_with fail
      go_ret
      refine ⟨_, rfl, ?_, ?_, ButD.of hbw3⟩
      · rw [HEc2.out]; exact ⟨by decide, rfl⟩
      · rw [HEc2.out]; intro h0; cases h0
    rw [decide_eq_true hy, Bool.not_true] at hnq
    have HE0 : Hid (fileE st.objs f = 0) := Lib.hid (by rw [HEc.out, if_neg (by simp), if_neg (by simp [hy])])
    have HRk := Lib.hid (read_known HE0.out)
    have HPt := Lib.hid (show (f.part == [45]) = isG f from rfl)
    clear hy HEc
    cases hgf : isG f with
    | true =>
      have hp : (f.part == [45]) = true := hgf
      have hK : keysO st.objs f = goneL o.text := by unfold keysO; rw [if_pos hgf, HTx.out]
      have hE := (HRk.out.2.1 hgf).1
      rw [HTx.out] at hE
      have HK := Lib.hid hK; have HGE := Lib.hid hE; have HGf := Lib.hid hgf
      clear hK hE hgf
      have hd3 : Below w3.heap.size w3 w3.drew := (Below.refl _ _).drew
      have hbwd := hbw3.trans (hd3.mono hbw3.size)
      have hb0d := hb03.trans (hd3.mono hb03.size)
      have HGr := Lib.hid (goneRead_any E B o.text w3.drew ((X.out _ hbwd).1.sub (by decide)) (X.out _ hbwd).2.1 (X.out _ hbwd).2.2.1 (by have := HLo.out; omega))
      go_upto_region 10 with fail
      clear y0 y1 y2 y3 y4 y5 hnq hgd c0 c1 c2 c3 c4 c5
      obtain ⟨c0, -, -, -, -, -⟩ := CF.out _ hb0d
      have r1 := (X.out _ hbwd).2.2.2.2.c1
      go_region_with ((go_at_call 97; refine HGr.out.mono ?_; rintro e w4 ⟨u, ev, rfl, hev, hu, hb4⟩; rw [HGE.out] at hev; obtain rfl : ev = .nilIface := hev; have hbw4 := hbwd.trans (hb4.mono hbwd.size); have hb04 := hb0d.trans (hb4.mono hb0d.size); have R4 := Lib.hid (X.out _ hbw4).2.2.2.2; rw [← HK.out] at hu; obtain ⟨w5, hup, hr5, hg5⟩ := R4.out.putKeys HGf.out hu HD.out HF.out.1 (by have := HN.out; omega); have HR5 := Lib.hid hr5; have HG5 := Lib.hid hg5; clear c0 r1 hu hr5 hg5; obtain ⟨c0, -, -, -, -, -⟩ := CF.out _ hb04; have r1 := R4.out.c1))
      all_goals
        go_wp2_with fail
        go_ret
        exact ⟨_, rfl, by rw [HE0.out]; rfl, fun _ => HR5.out, turnD hbw4 HG5.out (.inr rfl)⟩
    | false =>
      have hp : (f.part == [45]) = false := hgf
      have hK : rowsO st.objs f = dataL o.text := by unfold rowsO; rw [if_neg (by rw [hgf]; decide), HTx.out]
      have hE := (HRk.out.2.2 hgf).1
      rw [HTx.out] at hE
      have HK := Lib.hid hK; have HGE := Lib.hid hE; have HGf := Lib.hid hgf
      clear hK hE hgf
      have hd3 : Below w3.heap.size w3 w3.drew := (Below.refl _ _).drew
      have hbwd := hbw3.trans (hd3.mono hbw3.size)
      have hb0d := hb03.trans (hd3.mono hb03.size)
      have HGr := Lib.hid (dataRead_any E B o.text w3.drew ((X.out _ hbwd).1.sub (by decide)) (X.out _ hbwd).2.1 (X.out _ hbwd).2.2.1 (.inl HLo.out) (by have := HLo.out; omega))
      go_upto_region 11 with fail
      clear y0 y1 y2 y3 y4 y5 hnq hgd c0 c1 c2 c3 c4 c5
      obtain ⟨c0, -, -, -, -, -⟩ := CF.out _ hb0d
      have r1 := (X.out _ hbwd).2.2.2.2.c0
      go_region_with ((go_at_call 98; refine HGr.out.mono ?_; rintro e w4 ⟨u, ev, rfl, hev, hu, hb4⟩; rw [HGE.out] at hev; obtain rfl : ev = .nilIface := hev; have hbw4 := hbwd.trans (hb4.mono hbwd.size); have hb04 := hb0d.trans (hb4.mono hb0d.size); have R4 := Lib.hid (X.out _ hbw4).2.2.2.2; rw [← HK.out] at hu; obtain ⟨w5, hup, hr5, hg5⟩ := R4.out.putRows HGf.out hu HD.out HF.out.1 (by have := HN.out; omega); have HR5 := Lib.hid hr5; have HG5 := Lib.hid hg5; clear c0 r1 hu hr5 hg5; obtain ⟨c0, -, -, -, -, -⟩ := CF.out _ hb04; have r1 := R4.out.c0))
      all_goals
        go_wp2_with fail
        go_ret
        exact ⟨_, rfl, by rw [HE0.out]; rfl, fun _ => HR5.out, turnD hbw4 HG5.out (.inl rfl)⟩
end Go.Proofs.YtpfohfihkmjnaaaGreatDoor
namespace Go.Proofs.YtpfohfihkmjnaaaGreatDoor
open Go.RowKit
theorem idx_any {α : Type} {p : α → Bool} {l : List α} : decide (0 ≤ idxVal p l) = l.any p := by
  unfold idxVal
  cases h : l.findIdx? p with
  | none =>
    have : l.any p = false := List.any_eq_false.2 fun x hx => by simpa using List.findIdx?_eq_none_iff.1 h x hx
    rw [this]; rfl
  | some i =>
    obtain ⟨h1, h2, -⟩ := List.findIdx?_eq_some_iff_getElem.1 h
    have : l.any p = true := List.any_eq_true.2 ⟨l[i], List.getElem_mem h1, h2⟩
    rw [this]
    simp
theorem idx_ways {α : Type} (p : α → Bool) (l : List α) : (l.any p = true ∧ 0 ≤ idxVal p l) ∨ (l.any p = false ∧ decide (0 ≤ idxVal p l) = false) := by
  have := idx_any (p := p) (l := l)
  cases h : l.any p with
  | true => rw [h] at this; exact .inl ⟨rfl, by simpa using this⟩
  | false => rw [h] at this; exact .inr ⟨rfl, this⟩
theorem containsFuncF_any (f : FuncId) (caps : Array Value) (p : Fl → Bool) (base : Nat) (w0 : World) (v : Value) (l : List Fl) (w : World) (hf : Clo Tryz.prog f) (hp : PredOn Tryz.prog f caps fileV l p base w0)
    (hl : FilesAt w v l) (hw : Below base w0 w) (hB : base ≤ w.heap.size) :
    Calls Tryz.prog 52 #[v, .func (.func f) #[] caps] w fun e w' => e = .returned (.bool (l.any p)) ∧ Below w.heap.size w w' := by
  have HI := Lib.hid (indexFuncF_any f caps p base w0 v l w hf hp hl hw hB)
  obtain ⟨a, c, rfl, -, -⟩ := At.form' hl
  rcases idx_ways p l with ⟨h1, h2⟩ | ⟨h1, h2⟩
  all_goals
    rw [h1]
    clear h1
    generalize idxVal p l = i at *
    go_enter Tryz.func52, Tryz.ntmps52
    go_wp2_with fail
    refine HI.out.mono ?_
    rintro e w1 ⟨rfl, hb1⟩
    go_wp2_with fail
    go_ret
    exact ⟨rfl, hb1⟩
end Go.Proofs.YtpfohfihkmjnaaaGreatDoor
namespace Go.Proofs.YtpfohfihkmjnaaaGreatDoor
open Go.RowKit Go.Maps

theorem up_of_nextI : ∀ {l : List Int}, (∀ (k : Nat) (x y : Int), l[k]? = some y → l[k + 1]? = some x → y < x) → upI l
  | [], _ => .nil
  | [a], _ => List.pairwise_singleton _ _
  | a :: b :: r, h => by
    have ih : upI (b :: r) := up_of_nextI fun k x y h1 h2 => h (k + 1) x y (by simpa using h1) (by simpa using h2)
    have hab : a < b := h 0 b a rfl rfl
    refine List.pairwise_cons.2 ⟨fun x hx => ?_, ih⟩
    rcases List.mem_cons.1 hx with rfl | hx
    · exact hab
    · exact Int.lt_trans hab ((List.pairwise_cons.1 ih).1 x hx)
theorem gone_right {s : Str} (h : goneE s = .nil) : upI (goneL s) ∧ (goneL s).length ≤ 40 := by
  obtain ⟨-, -, -, e4, e5⟩ := readEr_text h
  have hL : goneL s = (splitL s).dropLast.map numD := by unfold goneL; rw [if_pos h]
  rw [hL]
  refine ⟨up_of_nextI fun k x y h1 h2 => ?_, e5⟩
  rw [List.getElem?_map] at h1 h2
  obtain ⟨s1, g1, rfl⟩ := Option.map_eq_some_iff.1 h1
  obtain ⟨s2, g2, rfl⟩ := Option.map_eq_some_iff.1 h2
  obtain ⟨p1, q1⟩ := List.getElem?_eq_some_iff.1 g1
  obtain ⟨p2, q2⟩ := List.getElem?_eq_some_iff.1 g2
  rw [List.getElem_dropLast] at q1 q2
  rw [List.length_dropLast] at p1 p2
  have r1 : (splitL s)[k]? = some s1 := by rw [List.getElem?_eq_getElem (by omega), q1]
  have r2 : (splitL s)[k + 1]? = some s2 := by rw [List.getElem?_eq_getElem (by omega), q2]
  have hb := e4 (k + 1) (by omega)
  unfold goneBad at hb
  rw [r2] at hb
  simp only at hb
  split at hb
  · cases hb
  split at hb
  · cases hb
  split at hb
  · cases hb
  rename_i h3
  apply Classical.byContradiction
  intro hle
  exact h3 ⟨by omega, s1, by rw [Nat.add_sub_cancel]; exact r1, by omega⟩
theorem keysO_right {os : List Ob} {f : Fl} (h : fileE os f = 0) : upI (keysO os f) ∧ (keysO os f).length ≤ 40 := by
  cases hg : isG f with
  | true =>
    have := gone_right ((read_known h).2.1 hg).1
    unfold keysO
    rw [if_pos hg]
    exact this
  | false => rw [keysO_data hg]; exact ⟨List.Pairwise.nil, by simp⟩

set_option maxHeartbeats 1000000 in
set_option maxRecDepth 20000 in
theorem srIn_any (os : List Ob) (B0 rb mr mk : Nat) (fs : List Fl) (f g : Fl) (x : Rw) (fb rx xb : Nat) (w : World) (hr : ReadAt os w B0 rb mr mk fs) (hup : UpF fs) (hg : g ∈ fs) (hok : fileE os g = 0) (hm : g.path.length ≤ 100000)
    (h1 : w.cell? ⟨fb, 5, none⟩ = some (.int .i64 f.seq)) (h2 : w.cell? ⟨rx, 0, none⟩ = some (.pointer (some ⟨rb, 0, none⟩))) (h3 : w.cell? ⟨xb, 1, none⟩ = some (.int .i64 x.key)) :
    Calls Tryz.prog 53 #[fileV g, .pointer (some ⟨fb, 0, none⟩), .pointer (some ⟨rx, 0, none⟩), .pointer (some ⟨xb, 0, none⟩)] w fun e w' => e = .returned (.bool (decide (f.seq < g.seq) && decide (x.key ∈ keysO os g))) ∧ Below w.heap.size w w' := by
  have hba : Below w.heap.size w (w.alloc (fileO g)) := (Below.refl _ _).alloc (Nat.le_refl _) _
  have CF := Lib.hid (fun W (h : Below (w.alloc (fileO g)).heap.size (w.alloc (fileO g)) W) => fileCells (f := g) (w := w) rfl h)
  obtain ⟨xr, xk, nr, nk, -, -, -, hmk, hst⟩ := hr.maps
  obtain ⟨v, hv⟩ : ∃ v, (getP g.path xk).getD (.slice none 0 0) = v := ⟨_, rfl⟩
  have HK := Lib.hid (fun W (hb : Below w.heap.size w W) => (⟨(hb.cell (World.block_lt_of_cell? w _ h1)).trans h1, (hb.cell (World.block_lt_of_cell? w _ h2)).trans h2, (hb.cell (World.block_lt_of_cell? w _ h3)).trans h3, (hr.below hb).c1, by
    have hgb : w.grownBy W none := ⟨hb.os, hb.tape, hb.output, hb.size, fun k hk _ => hb.block k hk⟩
    have := lookSI (hmk.kept hgb (by simp)) g.path hm
    rwa [hv] at this⟩ : W.cell? ⟨fb, 5, none⟩ = some (.int .i64 f.seq) ∧ W.cell? ⟨rx, 0, none⟩ = some (.pointer (some ⟨rb, 0, none⟩)) ∧ W.cell? ⟨xb, 1, none⟩ = some (.int .i64 x.key) ∧ W.cell? ⟨rb, 1, none⟩ = some (.map (some mk)) ∧ (Instr.lookup 96 (.map (some mk)) (S g.path) false).run Tryz.prog W = .ok v W))
  have hvk := hst.keysAt hup hg
  rw [hv] at hvk
  obtain ⟨hu1, hu2⟩ := keysO_right hok
  have HV := Lib.hid hvk
  have HH := Lib.hid (fun W (hb : Below w.heap.size w W) => goneHas_any v (keysO os g) x.key W (hvk.below hb) (by omega) hu1)
  clear hr hup hg hok h1 h2 h3 hmk hst hv hvk hu1 hu2
  by_cases hq : f.seq < g.seq
  case neg =>
    rw [decide_eq_false hq, Bool.false_and]
    have gq : decide (f.seq < g.seq) = false := decide_eq_false hq
    clear hq
    obtain ⟨k1, k2, k3, k4, k5⟩ := HK.out _ hba
    obtain ⟨c0, c1, c2, c3, c4, c5⟩ := CF.out _ (Below.refl _ _)
    go_enter Tryz.func53, Tryz.ntmps53
    go_upto_region 1 with fail
    generalize w.alloc (fileO g) = w0 at *
    go_quiet (fail)
    go_wp2_with fail
    go_ret
    exact ⟨rfl, Bdn hba _⟩
  rw [decide_eq_true hq, Bool.true_and]
  go_enter Tryz.func53, Tryz.ntmps53
  go_upto_region 1 with fail
  generalize w.alloc (fileO g) = w0 at *
  have hd : Below w0.heap.size w0 w0.drew := (Below.refl _ _).drew
  have hbd := hba.trans (hd.mono hba.size)
  obtain ⟨k1, k2, k3, k4, k5⟩ := HK.out _ hbd
  obtain ⟨c0, c1, c2, c3, c4, c5⟩ := CF.out _ hd
  go_region_held3 (fun w' => w'.cell? ⟨w.heap.size, 5, none⟩ = some (.int .i64 g.seq) ∧ w'.cell? ⟨w.heap.size, 0, none⟩ = some (S g.path) ∧ w'.cell? ⟨fb, 5, none⟩ = some (.int .i64 f.seq) ∧ w'.cell? ⟨rx, 0, none⟩ = some (.pointer (some ⟨rb, 0, none⟩)) ∧ w'.cell? ⟨xb, 1, none⟩ = some (.int .i64 x.key) ∧ w'.cell? ⟨rb, 1, none⟩ = some (.map (some mk)) ∧ (Instr.lookup 96 (.map (some mk)) (S g.path) false).run Tryz.prog w' = .ok v w') (exact ⟨c5, c0, k1, k2, k3, k4, k5⟩)
    ((go_at_call 54; (with_reducible refine (HH.out _ hbd).mono ?_); rintro e w1 ⟨rfl, hb1⟩; have hb01 := hd.trans (hb1.mono hd.size); have hbw1 := hbd.trans (hb1.mono hbd.size); clear k1 k2 k3 k4 k5 c0 c1 c2 c3 c4 c5; obtain ⟨k1, k2, k3, k4, k5⟩ := HK.out _ hbw1; obtain ⟨c0, c1, c2, c3, c4, c5⟩ := CF.out _ hb01))
  all_goals
    go_wp2_with fail
    go_ret
    exact ⟨rfl, hbw1⟩
theorem clo_srIn : Clo Tryz.prog 53 := fun _ _ => by kernel_rfl
set_option maxHeartbeats 1000000 in
set_option maxRecDepth 20000 in
theorem srOut_any (os : List Ob) (B0 rb mr mk : Nat) (fs : List Fl) (f : Fl) (x : Rw) (lb fb rx : Nat) (v : Value) (w : World) (hr : ReadAt os w B0 rb mr mk fs) (hup : UpF fs) (hok : ∀ g ∈ fs, fileE os g = 0) (hm : ∀ g ∈ fs, midF g)
    (h0 : w.cell? ⟨lb, 0, none⟩ = some v) (hl : FilesAt w v fs) (h1 : w.cell? ⟨fb, 5, none⟩ = some (.int .i64 f.seq)) (h2 : w.cell? ⟨rx, 0, none⟩ = some (.pointer (some ⟨rb, 0, none⟩))) :
    Calls Tryz.prog 51 #[rowV x, .pointer (some ⟨lb, 0, none⟩), .pointer (some ⟨fb, 0, none⟩), .pointer (some ⟨rx, 0, none⟩)] w fun e w' => e = .returned (.bool (killed os fs f.seq x.key)) ∧ Below w.heap.size w w' := by
  have hba : Below w.heap.size w (w.alloc (.cells #[S x.part, .int .i64 x.key, .int .i64 x.val] 106)) := (Below.refl _ _).alloc (Nat.le_refl _) _
  have hgx := heap_alloc_new w (.cells #[S x.part, .int .i64 x.key, .int .i64 x.val] 106)
  obtain ⟨a, c, rfl, -, -⟩ := At.form' hl
  have h0' := (hba.cell (World.block_lt_of_cell? w _ h0)).trans h0
  have HKl : Hid (∀ q k, (fs.any fun g => decide (q < g.seq) && decide (k ∈ keysO os g)) = killed os fs q k) := Lib.hid fun _ _ => rfl
  have HP := Lib.hid (fun (W : World) (hW : Below w.heap.size w W) (hx : W.cell? ⟨w.heap.size, 1, none⟩ = some (.int .i64 x.key)) (g : Fl) (hg : g ∈ fs) => srIn_any os B0 rb mr mk fs f g x fb rx w.heap.size W (hr.below hW) hup hg (hok g hg) (hm g hg).1 ((hW.cell (World.block_lt_of_cell? w _ h1)).trans h1) ((hW.cell (World.block_lt_of_cell? w _ h2)).trans h2) hx)
  have HL := Lib.hid (hl.below hba)
  clear hr hup hok hm h0 hl h1 h2
  go_enter Tryz.func51, Tryz.ntmps51
  go_upto_region 1 with fail
  generalize w.alloc (.cells #[S x.part, .int .i64 x.key, .int .i64 x.val] 106) = w0 at *
  have HCf := Lib.hid (containsFuncF_any 53 #[.pointer (some ⟨fb, 0, none⟩), .pointer (some ⟨rx, 0, none⟩), .pointer (some ⟨w.heap.size, 0, none⟩)] (fun g => decide (f.seq < g.seq) && decide (x.key ∈ keysO os g)) w0.heap.size w0 (.slice a fs.length c) fs w0 clo_srIn
    (fun W g hg hW _ => by
      have hx : W.cell? ⟨w.heap.size, 1, none⟩ = some (.int .i64 x.key) := by rw [cell_of_row W _ _ _ _ (0, 0) (rowKept hgx hW)]; rfl
      exact HP.out W (hba.trans (hW.mono hba.size)) hx g hg) HL.out (Below.refl _ _) (Nat.le_refl _))
  rw [HKl.out] at HCf
  clear hgx
  go_wp2_with fail
  refine HCf.out.mono ?_
  rintro e w1 ⟨rfl, hb1⟩
  go_wp2_with fail
  go_ret
  exact ⟨rfl, hba.trans (hb1.mono hba.size)⟩
theorem clo_srOut : Clo Tryz.prog 51 := fun _ _ => by kernel_rfl
end Go.Proofs.YtpfohfihkmjnaaaGreatDoor
namespace Go.Proofs.YtpfohfihkmjnaaaGreatDoor
open Go.RowKit Go.Maps

theorem rowsO_len {os : List Ob} {f : Fl} (h : fileE os f = 0) : (rowsO os f).length ≤ 40 := by
  cases hg : isG f with
  | true => rw [rowsO_gone hg]; simp
  | false =>
    obtain ⟨hE, -, -⟩ := (read_known h).2.2 hg
    obtain ⟨-, -, -, -, e5⟩ := readEr_text hE
    unfold rowsO dataL
    rw [if_neg (by rw [hg]; decide), if_pos hE]
    unfold keysR at e5
    rwa [List.length_map] at e5
theorem leftO_len {os : List Ob} {l : List Fl} {lo hi : Int} {f : Fl} (h : fileE os f = 0) : (withinR (rowsO os f) lo hi).length ≤ 40 ∧ (leftO os l lo hi f).length ≤ 40 := by
  have h1 := rowsO_len h
  have h2 : (withinR (rowsO os f) lo hi).length ≤ (rowsO os f).length := List.length_filter_le _ _
  have h3 : (leftO os l lo hi f).length ≤ (withinR (rowsO os f) lo hi).length := List.length_filter_le _ _
  omega
theorem allUp_len {os : List Ob} {l : List Fl} {lo hi : Int} : ∀ {m : List Fl}, (∀ f ∈ m, fileE os f = 0) → (m.flatMap (leftO os l lo hi)).length ≤ m.length * 40
  | [], _ => by simp
  | f :: m, h => by
    have h1 := (leftO_len (l := l) (lo := lo) (hi := hi) (h f (by simp))).2
    have h2 := allUp_len (os := os) (l := l) (lo := lo) (hi := hi) (m := m) fun g hg => h g (by simp [hg])
    rw [List.flatMap_cons, List.length_append, List.length_cons]
    omega
theorem take_flat {α β : Type} {g : α → List β} {l : List α} {k : Nat} {x : α} (h : l[k]? = some x) : (l.take (k + 1)).flatMap g = (l.take k).flatMap g ++ g x := by
  rw [List.take_add_one, h, List.flatMap_append]
  simp
theorem snRow7 {W : World} {g : Nat} {s : Sn} {v : Value} {t : TypeId} (h : W.heap[g]? = some (.cells #[.int .i64 s.id, .int .i64 s.parent, .int .i64 s.seq, .int .i64 s.day, .int .i64 s.index, S s.op, v] t (0, 0))) :
    W.cell? ⟨g, 0, none⟩ = some (.int .i64 s.id) ∧ W.cell? ⟨g, 1, none⟩ = some (.int .i64 s.parent) ∧ W.cell? ⟨g, 2, none⟩ = some (.int .i64 s.seq) ∧ W.cell? ⟨g, 3, none⟩ = some (.int .i64 s.day) ∧ W.cell? ⟨g, 4, none⟩ = some (.int .i64 s.index) ∧ W.cell? ⟨g, 5, none⟩ = some (S s.op) ∧ W.cell? ⟨g, 6, none⟩ = some v := by
  refine ⟨?_, ?_, ?_, ?_, ?_, ?_, ?_⟩ <;> (rw [cell_of_row W _ _ _ _ (0, 0) h]; rfl)
/-- A reader made anew. -/
theorem read_new (os : List Ob) (w : World) (B m : Nat) (hm : w.heap.size = m) (hB : B ≤ m) :
    ReadAt os (((w.alloc (.map #[] 0)).alloc (.map #[] 0)).alloc (.cells #[.map (some m), .map (some (m + 1))] 98)) B (m + 1 + 1) m (m + 1) [] := by
  subst hm
  have h1 := World.ownsMap_made w Tryz.prog 9 heldR
  have h2 := World.ownsMap_made (w.alloc (.map #[] 0)) Tryz.prog 9 heldR
  rw [show (w.alloc (.map #[] 0)).heap.size = w.heap.size + 1 by simp] at h2
  have h3 := heap_alloc_new ((w.alloc (.map #[] 0)).alloc (.map #[] 0)) (.cells #[.map (some w.heap.size), .map (some (w.heap.size + 1))] 98)
  rw [show ((w.alloc (.map #[] 0)).alloc (.map #[] 0)).heap.size = w.heap.size + 1 + 1 by simp] at h3
  exact ⟨h3, by omega, by omega, [], [], 0, 0, Nat.le_refl _, Nat.le_refl _, (h1.alloc _).alloc _, h2.alloc _, Stock.nil _ _⟩
theorem own_app {α : Type} {enc : α → List Value} {e : TypeId} {sz B : Nat} {w : World} {v : Value} {l m : List α} (h : w.ownsRow B e sz v (l.length + m.length) (l.flatMap enc ++ m.flatMap enc)) : Own enc e sz B w v (l ++ m) := by
  unfold Own
  rw [List.flatMap_append, List.length_append]
  exact h
/-- An append in a region that draws, by what it is known to answer. -/
theorem step_run_app2 {P : Program} {ops : Array Oper} {o : Oper} {a : Act} {w : World} {K : Act → World → Prop} {Q : Exit → Act → World → Prop} {E : Prop}
    (hg : o.guard = none) (s x : Operand) (t : TypeId) (hop : o.op = Op.call { callee := Callee.builtin Builtin.append, args := #[s, x], argTypes := #[t, t] })
    (sv xv : Value) (hs : a.eval s = sv) (hx : a.eval x = xv) {v' : Value} {w' : World} (hrun : (Builtin.append_ #[t, t] o.type #[sv, xv]).run P w = .ok v' w') (hK : K (a.put o.dst v') w') :
    if Region.wanted o (yielded ops a.tmps) = true then Oper.wp P o a w K Q else E := by
  have hw : Region.wanted o (yielded ops a.tmps) = true := by simp [Region.wanted, hg]
  rw [if_pos hw]
  unfold Oper.wp execOp
  simp only [hop, resolve, invoke, builtin, Sem.run_bind, Sem.run_pure, Result.andThen_ok, List.map_toArray, List.map_cons, List.map_nil, hs, hx, hrun]
  exact hK

set_option maxHeartbeats 8000000 in
set_option maxRecDepth 20000 in
theorem scanRows_any (E : Nat → Addr) (B : Nat) (sb mb : Nat) (st : St) (s : Sn) (v : Value) (lo hi : Int) (w : World) (hE : Errs [1, 2, 3, 4, 5, 6, 8, 9, 10] E B w) (hT : LNum B w) (hM : LMax B w) (h : StoreAt w sb mb st) (hx : ∀ o ∈ st.objs, o.text.length ≤ 10000)
    (hl : FilesAt w v s.files) (hs : ∀ x ∈ s.files, midF x) :
    Calls Tryz.prog 14 #[stP sb, snapV s v, .int .i64 lo, .int .i64 hi] w fun e w' => ∃ u ev, e = .returned (.tuple #[u, ev]) ∧ ErV E w' ev (rowsE st.objs s lo hi) ∧ RowsAt w' u (rowsL st.objs s lo hi) ∧ Below w.heap.size w w' := by
  have hBw := hE.le
  have hif := isIfaceE
  have X := Lib.hid (fun W (hb : Below w.heap.size w W) => (⟨hE.below' hb hBw, hT.below' hb hBw, hM.below' hb hBw, h.below hb, hl.below hb⟩ : Errs [1, 2, 3, 4, 5, 6, 8, 9, 10] E B W ∧ LNum B W ∧ LMax B W ∧ StoreAt W sb mb st ∧ FilesAt W v s.files))
  obtain ⟨a, c, rfl, -, -⟩ := At.form' hl
  have hba : Below w.heap.size w (w.alloc (.cells #[.int .i64 s.id, .int .i64 s.parent, .int .i64 s.seq, .int .i64 s.day, .int .i64 s.index, S s.op, .slice a s.files.length c] 25)) := (Below.refl _ _).alloc (Nat.le_refl _) _
  have hg0 := heap_alloc_new w (.cells #[.int .i64 s.id, .int .i64 s.parent, .int .i64 s.seq, .int .i64 s.day, .int .i64 s.index, S s.op, .slice a s.files.length c] 25)
  have HX := Lib.hid hx; have HS := Lib.hid hs
  have HMm := Lib.hid (@run_makeMap Tryz.prog)
  clear hE hT hM h hl hx hs
  go_enter Tryz.func14, Tryz.ntmps14
  go_upto_region 3 with fail
  generalize w.alloc (.cells #[.int .i64 s.id, .int .i64 s.parent, .int .i64 s.seq, .int .i64 s.day, .int .i64 s.index, S s.op, .slice a s.files.length c] 25) = w0 at *
  obtain ⟨c0, c1, c2, c3, c4, c5, c6⟩ := snRow7 hg0
  have HG0 := Lib.hid hg0
  have HCk := Lib.hid (snapCheck_any E B s _ w0 ((X.out _ hba).1.sub (by decide)) (X.out _ hba).2.1 (X.out _ hba).2.2.1 (X.out _ hba).2.2.2.2 HS.out)
  clear hg0
  go_wp2_with fail
  refine HCk.out.mono ?_
  rintro e w1 ⟨ev, rfl, hev, hb1⟩
  have hbw1 := hba.trans (hb1.mono hba.size)
  clear HCk c0 c1 c2 c3 c4 c5 c6
  by_cases hck : snapCheck s = .nil
  case neg =>
    have hre : rowsE st.objs s lo hi = snapCheck s := if_pos hck
    have hrl : rowsL st.objs s lo hi = [] := if_neg (by rw [hre]; exact hck)
    have HR := Lib.hid (And.intro hre hrl)
    have HEv := Lib.hid hev
    obtain ⟨t1, x1, rfl⟩ := hev.iface hck
    clear hre hrl hck hev
    go_wp2_with fail
    go_ret2
    exact ⟨_, _, rfl, by rw [HR.out.1]; exact HEv.out, by rw [HR.out.2]; exact At.nil _ _ _, hbw1⟩
  rw [hck] at hev
  obtain rfl : ev = .nilIface := hev
  have HRs := Lib.hid ((snap_iff s).1 hck)
  have HRe : Hid (rowsE st.objs s lo hi = firstErr (scanF st.objs lo hi s.files) s.files.length) := Lib.hid (if_neg (by rw [hck]; simp))
  clear hck
  obtain ⟨-, -, -, -, -, -, c6⟩ := snRow7 (rowKept HG0.out hb1)
  have HPr := Lib.hid (listPrune_any _ s.files lo hi w1 (X.out _ hbw1).2.2.2.2 (by have := HRs.out.lst.len; omega))
  go_wp2_with fail
  refine HPr.out.mono ?_
  rintro e w2 ⟨v2, rfl, hv2, hb2⟩
  obtain ⟨l, hll⟩ : ∃ l, pruneL s.files lo hi = l := ⟨_, rfl⟩
  rw [hll] at hv2
  have HLl := Lib.hid hll
  have hbw2 := hbw1.trans (hb2.mono hbw1.size)
  have hb02 := hb1.trans (hb2.mono hb1.size)
  obtain ⟨al, cl, bl, ol, rfl, hal, hcl, hcml, hxl⟩ := hv2
  unfold maxLen at hcml
  clear hll c6 HPr
  have hmm := HMm.out
  have q1 : Below w2.heap.size w2 (w2.alloc (.cells #[.slice al l.length cl] 23)) := (Below.refl _ _).alloc (Nat.le_refl _) _
  have z1 : (w2.alloc (.cells #[.slice al l.length cl] 23)).heap.size = w2.heap.size + 1 := by simp
  have q2 : Below (w2.alloc (.cells #[.slice al l.length cl] 23)).heap.size (w2.alloc (.cells #[.slice al l.length cl] 23)) ((((w2.alloc (.cells #[.slice al l.length cl] 23)).alloc (.map #[] 0)).alloc (.map #[] 0)).alloc (.cells #[.map (some (w2.heap.size + 1)), .map (some (w2.heap.size + 1 + 1))] 98)) := (((Below.refl _ _).alloc (Nat.le_refl _) _).alloc (by simp) _).alloc (by simp) _
  have z2 : ((((w2.alloc (.cells #[.slice al l.length cl] 23)).alloc (.map #[] 0)).alloc (.map #[] 0)).alloc (.cells #[.map (some (w2.heap.size + 1)), .map (some (w2.heap.size + 1 + 1))] 98)).heap.size = w2.heap.size + 1 + 1 + 1 + 1 := by simp
  have q3 : Below ((((w2.alloc (.cells #[.slice al l.length cl] 23)).alloc (.map #[] 0)).alloc (.map #[] 0)).alloc (.cells #[.map (some (w2.heap.size + 1)), .map (some (w2.heap.size + 1 + 1))] 98)).heap.size ((((w2.alloc (.cells #[.slice al l.length cl] 23)).alloc (.map #[] 0)).alloc (.map #[] 0)).alloc (.cells #[.map (some (w2.heap.size + 1)), .map (some (w2.heap.size + 1 + 1))] 98)) (((((w2.alloc (.cells #[.slice al l.length cl] 23)).alloc (.map #[] 0)).alloc (.map #[] 0)).alloc (.cells #[.map (some (w2.heap.size + 1)), .map (some (w2.heap.size + 1 + 1))] 98)).alloc (.cells #[.pointer (some ⟨w2.heap.size + 1 + 1 + 1, 0, none⟩)] 94)) := (Below.refl _ _).alloc (Nat.le_refl _) _
  have q13 : Below (w2.alloc (.cells #[.slice al l.length cl] 23)).heap.size (w2.alloc (.cells #[.slice al l.length cl] 23)) (((((w2.alloc (.cells #[.slice al l.length cl] 23)).alloc (.map #[] 0)).alloc (.map #[] 0)).alloc (.cells #[.map (some (w2.heap.size + 1)), .map (some (w2.heap.size + 1 + 1))] 98)).alloc (.cells #[.pointer (some ⟨w2.heap.size + 1 + 1 + 1, 0, none⟩)] 94)) := q2.trans (q3.mono q2.size)
  have q23 : Below w2.heap.size w2 (((((w2.alloc (.cells #[.slice al l.length cl] 23)).alloc (.map #[] 0)).alloc (.map #[] 0)).alloc (.cells #[.map (some (w2.heap.size + 1)), .map (some (w2.heap.size + 1 + 1))] 98)).alloc (.cells #[.pointer (some ⟨w2.heap.size + 1 + 1 + 1, 0, none⟩)] 94)) := q1.trans (q13.mono q1.size)
  have hlb : (((((w2.alloc (.cells #[.slice al l.length cl] 23)).alloc (.map #[] 0)).alloc (.map #[] 0)).alloc (.cells #[.map (some (w2.heap.size + 1)), .map (some (w2.heap.size + 1 + 1))] 98)).alloc (.cells #[.pointer (some ⟨w2.heap.size + 1 + 1 + 1, 0, none⟩)] 94)).heap[w2.heap.size]? = some (.cells #[.slice al l.length cl] 23) := rowKept (heap_alloc_new w2 (.cells #[.slice al l.length cl] 23)) q13
  have hrx : (((((w2.alloc (.cells #[.slice al l.length cl] 23)).alloc (.map #[] 0)).alloc (.map #[] 0)).alloc (.cells #[.map (some (w2.heap.size + 1)), .map (some (w2.heap.size + 1 + 1))] 98)).alloc (.cells #[.pointer (some ⟨w2.heap.size + 1 + 1 + 1, 0, none⟩)] 94)).heap[w2.heap.size + 1 + 1 + 1 + 1]? = some (.cells #[.pointer (some ⟨w2.heap.size + 1 + 1 + 1, 0, none⟩)] 94) := by rw [← z2]; exact heap_alloc_new _ _
  have hrd := (read_new st.objs (w2.alloc (.cells #[.slice al l.length cl] 23)) w.heap.size (w2.heap.size + 1) z1 (by have := hbw2.size; omega)).below q3
  have HLb := Lib.hid hlb; have HRx := Lib.hid hrx; have HRd := Lib.hid hrd; have HQ := Lib.hid q23
  have HXl := Lib.hid hxl
  have hb23 := hbw2.trans (q23.mono hbw2.size)
  have hb03 := hb02.trans (q23.mono hb02.size)
  have HUl : Hid (UpF l ∧ (∀ g ∈ l, midF g) ∧ l.length ≤ 60) := Lib.hid (by
    rw [← HLl.out]
    refine ⟨HRs.out.lst.ris.filter _, fun g hg => HS.out g (List.mem_filter.1 hg).1, ?_⟩
    have := HRs.out.lst.len
    have h2 : (pruneL s.files lo hi).length ≤ s.files.length := List.length_filter_le _ _
    omega)
  clear q1 z1 q2 z2 q3 q13 hlb hrx hrd hxl
  go_upto_region 8 with fail
  generalize (((((w2.alloc (.cells #[.slice al l.length cl] 23)).alloc (.map #[] 0)).alloc (.map #[] 0)).alloc (.cells #[.map (some (w2.heap.size + 1)), .map (some (w2.heap.size + 1 + 1))] 98)).alloc (.cells #[.pointer (some ⟨w2.heap.size + 1 + 1 + 1, 0, none⟩)] 94)) = w3 at *
  clear q23
  have k0 : w3.cell? ⟨w2.heap.size, 0, none⟩ = some (.slice al l.length cl) := by rw [cell_of_row w3 _ _ _ _ (0, 0) HLb.out]; rfl
  go_wp2_with fail
  clear k0
  have hl60 := HUl.out.2.2
  go_loopw [38] (fun i wr => ∃ k : Nat, k ≤ l.length ∧ i = .int .i64 k ∧ Hid (ReadAt st.objs wr w.heap.size (w2.heap.size + 1 + 1 + 1) (w2.heap.size + 1) (w2.heap.size + 1 + 1) (l.take k)) ∧ Hid (∀ j < k, ∀ g, l[j]? = some g → fileE st.objs g = 0) ∧ Hid (ButD (fun k => k = w2.heap.size + 1 ∨ k = w2.heap.size + 1 + 1) w3 wr)) (fun i _ => l.length - (intOf i).toNat)
  case atStart => exact ⟨0, by omega, rfl, Lib.hid (by rw [List.take_zero]; exact HRd.out), Lib.hid fun j hj => absurd hj (by omega), Lib.hid (ButD.of (Below.refl _ _))⟩
  case round =>
    obtain ⟨k, hk, rfl, hrd, hj, hbd⟩ := hrel
    obtain ⟨wo, rfl⟩ : ∃ wo, wo = wr := ⟨wr, rfl⟩
    have h3o : Below (w2.heap.size + 1) w3 wo := hbd.out.below (fun k hk => by omega) (by have := (Array.getElem?_eq_some_iff.1 HLb.out).1; omega)
    have h2o : Below w2.heap.size w2 wo := HQ.out.trans (h3o.mono (by omega))
    have h0o : Below w0.heap.size w0 wo := hb02.trans (h2o.mono hb02.size)
    have hwo : Below w.heap.size w wo := hbw2.trans (h2o.mono hbw2.size)
    have hlbo : wo.heap[w2.heap.size]? = some (.cells #[.slice al l.length cl] 23) := (h3o.block _ (by omega)).trans HLb.out
    have hrxo : wo.heap[w2.heap.size + 1 + 1 + 1 + 1]? = some (.cells #[.pointer (some ⟨w2.heap.size + 1 + 1 + 1, 0, none⟩)] 94) := (hbd.out.block _ (Array.getElem?_eq_some_iff.1 HRx.out).1 (by omega)).trans HRx.out
    by_cases hlt : k < l.length
    case neg =>
      obtain rfl : k = l.length := by omega
      have f1 : decide ((l.length : Int) < (l.length : Int)) = false := by simp
      have HAll : Hid (∀ g ∈ l, fileE st.objs g = 0) := Lib.hid (fun g hg => by
        obtain ⟨j, hj1, hj2⟩ := List.getElem_of_mem hg
        exact hj.out j hj1 g (by rw [List.getElem?_eq_getElem hj1, hj2]))
      have HRl : Hid (rowsE st.objs s lo hi = .nil ∧ rowsL st.objs s lo hi = sortR (l.flatMap (leftO st.objs l lo hi))) := Lib.hid (by
        have h1 : rowsE st.objs s lo hi = .nil := rowsE_of HRs.out (by rw [HLl.out]; exact HAll.out)
        refine ⟨h1, ?_⟩
        unfold rowsL allO
        rw [if_pos h1, HLl.out])
      have hRo : ReadAt st.objs wo w.heap.size (w2.heap.size + 1 + 1 + 1) (w2.heap.size + 1) (w2.heap.size + 1 + 1) l := by have := hrd.out; rwa [List.take_length] at this
      have HRo := Lib.hid hRo
      have HLo := Lib.hid hlbo
      have HXo := Lib.hid hrxo
      have hN4 : w2.heap.size + 1 + 1 + 1 + 1 < wo.heap.size := (Array.getElem?_eq_some_iff.1 hrxo).1
      have k0 : wo.cell? ⟨w2.heap.size, 0, none⟩ = some (.slice al l.length cl) := by rw [cell_of_row wo _ _ _ _ (0, 0) hlbo]; rfl
      clear hRo hrd hj hbd hlbo hrxo hlt hk
      go_wp2_with fail
      clear f1 k0
      go_loopw [16, 61] (fun u16 i wr => ∃ (j : Nat) (u : Value), j ≤ l.length ∧ i = .int .i64 j ∧ u = u16 ∧ Hid (Own encR 106 3 wo.heap.size wr u ((l.take j).flatMap (leftO st.objs l lo hi))) ∧ Below wo.heap.size wo wr) (fun _ i _ => l.length - (intOf i).toNat)
      case atStart => exact ⟨0, _, by omega, rfl, rfl, Lib.hid (by rw [List.take_zero]; exact Own.nil _ _ _ _ _), Below.refl _ _⟩
      case round =>
        obtain ⟨j, u, hj, rfl, rfl, ho, hb⟩ := hrel
        obtain ⟨wp, rfl⟩ : ∃ wp, wp = wr := ⟨wr, rfl⟩
        have hwp := hwo.trans (hb.mono hwo.size)
        by_cases hlj : j < l.length
        case neg =>
          obtain rfl : j = l.length := by omega
          have f1 : decide ((l.length : Int) < (l.length : Int)) = false := by simp
          have hu := ho.out
          rw [List.take_length] at hu
          have HSo := Lib.hid (rowSort_any u _ wp (hu.at encR_enc) (by have := allUp_len (os := st.objs) (l := l) (lo := lo) (hi := hi) (m := l) HAll.out; omega))
          clear hu
          go_wp2_with fail
          refine HSo.out.mono ?_
          rintro e w8 ⟨u8, rfl, hu8, hb8⟩
          go_wp2_with fail
          go_ret2
          exact ⟨_, _, rfl, by rw [HRl.out.1]; rfl, by rw [HRl.out.2]; exact hu8.at encR_enc, hwp.trans (hb8.mono hwp.size)⟩
        have f1 : (j : Int) < (l.length : Int) := by omega
        obtain ⟨f, hfk⟩ := get_ex hlj
        have i1 := idx_at (c := cl) 6 Tryz.underlying23 szFl hal j hlj
        have h2p : Below w2.heap.size w2 wp := h2o.trans (hb.mono h2o.size)
        obtain ⟨c0, c1, c2, c3, c4, c5⟩ := flCells HXl.out h2p hfk
        have hwA : Below wp.heap.size wp (wp.alloc (fileO f)) := (Below.refl _ _).alloc (Nat.le_refl _) _
        have HGA := Lib.hid (heap_alloc_new wp (fileO f))
        have HFk := Lib.hid hfk
        have HMf := Lib.hid (HUl.out.2.1 f (List.mem_of_getElem? hfk))
        have HFe := Lib.hid (HAll.out f (List.mem_of_getElem? hfk))
        have hV2 : FilesAt w2 (.slice al l.length cl) l := ⟨al, cl, bl, ol, rfl, hal, hcl, by unfold maxLen; omega, HXl.out⟩
        have HV2 := Lib.hid hV2
        obtain ⟨xr, xk, nr, nk, -, -, hmr, -, hst⟩ := HRo.out.maps
        obtain ⟨v, hv⟩ : ∃ v, (getP f.path xr).getD (.slice none 0 0) = v := ⟨_, rfl⟩
        have hvr := hst.rowsAt HUl.out.1 (List.mem_of_getElem? hfk)
        rw [hv] at hvr
        have HK := Lib.hid (fun W (hW : Below wo.heap.size wo W) (hF : W.heap[wp.heap.size]? = some (fileO f)) => (⟨by rw [cell_of_row W _ _ _ _ (0, 0) ((hW.block _ hN4).trans HXo.out)]; rfl, (HRo.out.below hW).c0, (rowF6 (f := f) hF).1, by
          have hgb : wo.grownBy W none := ⟨hW.os, hW.tape, hW.output, hW.size, fun k hk _ => hW.block k hk⟩
          have := lookSR (hmr.kept hgb (by simp)) f.path HMf.out.1
          rwa [hv] at this⟩ : W.cell? ⟨w2.heap.size + 1 + 1 + 1 + 1, 0, none⟩ = some (.pointer (some ⟨w2.heap.size + 1 + 1 + 1, 0, none⟩)) ∧ W.cell? ⟨w2.heap.size + 1 + 1 + 1, 0, none⟩ = some (.map (some (w2.heap.size + 1))) ∧ W.cell? ⟨wp.heap.size, 0, none⟩ = some (S f.path) ∧ (Instr.lookup 95 (.map (some (w2.heap.size + 1))) (S f.path) false).run Tryz.prog W = .ok v W))
        have HWi := Lib.hid (fun W (hW : Below wo.heap.size wo W) => rowWithin_any v (rowsO st.objs f) lo hi W (hvr.below hW) (by have := rowsO_len HFe.out; omega))
        have HPd := Lib.hid (fun W x (hW : Below wo.heap.size wo W) (hF : W.heap[wp.heap.size]? = some (fileO f)) => srOut_any st.objs w.heap.size (w2.heap.size + 1 + 1 + 1) (w2.heap.size + 1) (w2.heap.size + 1 + 1) l f x w2.heap.size wp.heap.size (w2.heap.size + 1 + 1 + 1 + 1) (.slice al l.length cl) W (HRo.out.below hW) HUl.out.1 HAll.out HUl.out.2.1 (by rw [cell_of_row W _ _ _ _ (0, 0) ((hW.block _ (by omega)).trans HLo.out)]; rfl) (HV2.out.below (h2o.trans (hW.mono h2o.size))) (rowF6 (f := f) hF).2.2.2.2.2 (by rw [cell_of_row W _ _ _ _ (0, 0) ((hW.block _ hN4).trans HXo.out)]; rfl))
        have HL2 : Hid (((l.take j).flatMap (leftO st.objs l lo hi)).length ≤ 2400 ∧ (leftO st.objs l lo hi f).length ≤ 40) := Lib.hid ⟨by
          have := allUp_len (os := st.objs) (l := l) (lo := lo) (hi := hi) (m := l.take j) (fun g hg => HAll.out g (List.mem_of_mem_take hg))
          rw [List.length_take] at this
          have := HUl.out.2.2
          omega, (leftO_len HFe.out).2⟩
        obtain ⟨L, hLe⟩ : ∃ L, (l.take j).flatMap (leftO st.objs l lo hi) = L := ⟨_, rfl⟩
        rw [hLe] at ho HL2
        have HLe := Lib.hid hLe
        have HHo := Lib.hid ho.out
        have HWA := Lib.hid hwA
        have HHb := Lib.hid hb
        obtain ⟨au, cu, hue, -, -⟩ := At.form' (ho.out.at encR_enc)
        subst hue
        clear hfk hV2 hmr hst hv hvr ho hwA hLe
        go_upto_region 19 with fail
        generalize wp.alloc (fileO f) = wA at *
        clear c0 c1 c2 c3 c4 c5 i1
        have hAq : Below wp.heap.size wp wA.drew := HWA.out.drew
        have hoq : Below wo.heap.size wo wA.drew := HHb.out.trans (hAq.mono HHb.out.size)
        have hfq : wA.drew.heap[wp.heap.size]? = some (fileO f) := HGA.out
        obtain ⟨k1, k2, k3, k4⟩ := HK.out _ hoq hfq
        have HDe := Lib.hid (fun u1 v1 (hu1 : Own encR 106 3 wA.drew.heap.size v1 u1 (withinR (rowsO st.objs f) lo hi)) (hv1 : Below wA.drew.heap.size wA.drew v1) => deleteFuncR_any 51 #[.pointer (some ⟨w2.heap.size, 0, none⟩), .pointer (some ⟨wp.heap.size, 0, none⟩), .pointer (some ⟨w2.heap.size + 1 + 1 + 1 + 1, 0, none⟩)] (fun x => killed st.objs l f.seq x.key) wA.drew.heap.size wA.drew u1 (withinR (rowsO st.objs f) lo hi) v1 clo_srOut (fun W x _ hW _ => HPd.out W x (hoq.trans (hW.mono hoq.size)) (rowKept hfq hW)) hu1 hv1 hv1.size)
        go_region_held3 (fun w' => w'.cell? ⟨w2.heap.size + 1 + 1 + 1 + 1, 0, none⟩ = some (.pointer (some ⟨w2.heap.size + 1 + 1 + 1, 0, none⟩)) ∧ w'.cell? ⟨w2.heap.size + 1 + 1 + 1, 0, none⟩ = some (.map (some (w2.heap.size + 1))) ∧ w'.cell? ⟨wp.heap.size, 0, none⟩ = some (S f.path) ∧ (Instr.lookup 95 (.map (some (w2.heap.size + 1))) (S f.path) false).run Tryz.prog w' = .ok v w') (exact ⟨k1, k2, k3, k4⟩) (first
          | (go_at_call 50; (with_reducible refine (HWi.out _ hoq).mono ?_); rintro e v1 ⟨u1, rfl, hu1, hv1⟩; have ho1 := hoq.trans (hv1.mono hoq.size); have HF1 := Lib.hid (rowKept hfq hv1); have HU1 := Lib.hid hu1; have HV1 := Lib.hid hv1; clear k1 k2 k3 k4 hu1; obtain ⟨k1, k2, k3, k4⟩ := HK.out _ ho1 HF1.out)
          | (go_at_call 49; (with_reducible refine (HDe.out _ _ HU1.out HV1.out).mono ?_); rintro e v2 ⟨u2, rfl, hu2, hv2⟩; have ho2 := hoq.trans ((HV1.out.trans hv2).mono hoq.size); have HF2 := Lib.hid (rowKept hfq (HV1.out.trans hv2)); have hOut := HHo.out.below (hAq.trans ((HV1.out.trans hv2).mono hAq.size)); have hsrc := (hu2.at encR_enc).src encR_enc (by decide); obtain ⟨v6, w6, happ, hown6, hg6, -⟩ := run_app (P := Tryz.prog) v2 wo.heap.size 44 44 106 3 32 elRw (.slice au L.length cu) L.length _ hOut u2 _ _ hsrc (by have h := HL2.out; have h2 : (leftO st.objs l lo hi f).length = ((withinR (rowsO st.objs f) lo hi).filter fun x => !killed st.objs l f.seq x.key).length := rfl; unfold maxLen; omega) (by have h := HL2.out; have h2 : (leftO st.objs l lo hi f).length = ((withinR (rowsO st.objs f) lo hi).filter fun x => !killed st.objs l f.seq x.key).length := rfl; omega) ho2.size; have HAp := Lib.hid happ; have HOw := Lib.hid hown6; have ho6 := ho2.grown hg6 ho2.size (fun b hb' => (World.ownsRow.lt hOut b hb').1); have HF6 : Hid (w6.heap[wp.heap.size]? = some (fileO f)) := Lib.hid ((hg6.block _ (Array.getElem?_eq_some_iff.1 HF2.out).1 (fun e => by have := (World.ownsRow.lt HHo.out wp.heap.size e.symm).2; omega)).trans HF2.out); clear k1 k2 k3 k4 hu2 hv2 hOut hsrc happ hown6 hg6; obtain ⟨k1, k2, k3, k4⟩ := HK.out _ ho2 HF2.out)
          | ((refine step_run_app2 (by rfl) _ _ _ (by rfl) _ _ (by rfl) (by rfl) HAp.out ?_); clear k1 k2 k3 k4; obtain ⟨k1, k2, k3, k4⟩ := HK.out _ ho6 HF6.out))
        all_goals
          go_wp2_with fail
          go_roundw
          case rel => exact ⟨j + 1, v6, by omega, by go_num, rfl, Lib.hid (by rw [take_flat HFk.out, HLe.out]; exact own_app HOw.out), ho6⟩
          case measure => simp [intOf]; omega
    have f1 : (k : Int) < (l.length : Int) := by omega
    obtain ⟨f, hfk⟩ := get_ex hlt
    have i1 := idx_at (c := cl) 6 Tryz.underlying23 szFl hal k hlt
    obtain ⟨c0, c1, c2, c3, c4, c5⟩ := flCells HXl.out h2o hfk
    have hwA : Below wo.heap.size wo (wo.alloc (fileO f)) := (Below.refl _ _).alloc (Nat.le_refl _) _
    have CF := Lib.hid (fun W (h : Below (wo.alloc (fileO f)).heap.size (wo.alloc (fileO f)) W) => fileCells (f := f) (w := wo) rfl h)
    have hrxA := rowKept hrxo hwA
    have hrx0 : (wo.alloc (fileO f)).cell? ⟨w2.heap.size + 1 + 1 + 1 + 1, 0, none⟩ = some (.pointer (some ⟨w2.heap.size + 1 + 1 + 1, 0, none⟩)) := by rw [cell_of_row _ _ _ _ _ (0, 0) hrxA]; rfl
    have hbwA := hwo.trans (hwA.mono hwo.size)
    have HRr := Lib.hid (srRead_any E B sb mb st w.heap.size (w2.heap.size + 1 + 1 + 1) (w2.heap.size + 1) (w2.heap.size + 1 + 1) (l.take k) f (wo.alloc (fileO f)) (X.out _ hbwA).1 (X.out _ hbwA).2.1 (X.out _ hbwA).2.2.1 (X.out _ hbwA).2.2.2.1 HX.out (hrd.out.below hwA) (fun g hg e => by
      obtain ⟨j, hj1, hj2⟩ := List.getElem_of_mem hg
      rw [List.length_take] at hj1
      rw [List.getElem_take] at hj2
      have hlt2 := List.pairwise_iff_getElem.1 HUl.out.1 j k (by omega) hlt (by omega)
      have hfe : l[k] = f := (List.getElem?_eq_some_iff.1 hfk).2
      rw [hj2, hfe, e] at hlt2
      omega) (by rw [List.length_take]; omega) (HUl.out.2.1 f (List.mem_of_getElem? hfk)))
    have HFk := Lib.hid hfk
    have Hrd := hrd; have Hj := hj
    have HWA := Lib.hid hwA
    have hgA := heap_alloc_new wo (fileO f)
    have HGA := Lib.hid hgA
    have hN4 : w2.heap.size + 1 + 1 + 1 + 1 < wo.heap.size := by have := (Array.getElem?_eq_some_iff.1 hrxo).1; exact this
    have HN4 := Lib.hid hN4
    clear hfk hrxA hlbo hrxo hgA hN4
    go_upto_region 11 with fail
    generalize wo.alloc (fileO f) = wA at *
    clear c0 c1 c2 c3 c4 c5 i1
    obtain ⟨c0, c1, c2, c3, c4, c5⟩ := CF.out _ (Below.refl _ _)
    go_wp2_with fail
    refine HRr.out.mono ?_
    rintro e w5 ⟨ev, rfl, hev, hok, hbd5⟩
    have hbdo : ButD (fun k => k = w2.heap.size + 1 ∨ k = w2.heap.size + 1 + 1) wo w5 := (ButD.of HWA.out).trans hbd5 (fun k hk => .inl hk)
    have hbd35 : ButD (fun k => k = w2.heap.size + 1 ∨ k = w2.heap.size + 1 + 1) w3 w5 := hbd.out.trans hbdo (fun k hk => .inl hk)
    have h35 : Below (w2.heap.size + 1) w3 w5 := hbd35.below (fun k hk => by omega) (by have := (Array.getElem?_eq_some_iff.1 HLb.out).1; omega)
    have h25 : Below w2.heap.size w2 w5 := HQ.out.trans (h35.mono (by omega))
    have h05 : Below w0.heap.size w0 w5 := hb02.trans (h25.mono hb02.size)
    have hw5 : Below w.heap.size w w5 := hbw2.trans (h25.mono hbw2.size)
    have hfb : w5.heap[wo.heap.size]? = some (fileO f) := (hbd5.block _ (Array.getElem?_eq_some_iff.1 HGA.out).1 (by have := HN4.out; omega)).trans HGA.out
    have HOk := Lib.hid hok; have HD35 := Lib.hid hbd35; have HFb := Lib.hid hfb
    clear c0 c1 c2 c3 c4 c5 hrx0 HRr hok hbd5 hbdo hbd35 hfb hl60
    by_cases hfe : fileE st.objs f = 0
    case neg =>
      obtain ⟨i, hi1, hi2⟩ := scan_hit (os := st.objs) (files := s.files) (lo := lo) (hi := hi) HRs.out.lst.ris (by rw [HLl.out]; exact HFk.out) (fun j hj' g hg => Hj.out j hj' g (by rwa [HLl.out] at hg)) hfe
      have hre : rowsE st.objs s lo hi = .loc (fileE st.objs f) i := by rw [HRe.out]; exact hi2
      have hrl : rowsL st.objs s lo hi = [] := if_neg (by rw [hre]; simp)
      have HR := Lib.hid (And.intro hre hrl)
      have hev0 := hev
      rw [erOf_pos' hfe] at hev0
      obtain ⟨hc12, rfl⟩ := hev0
      obtain ⟨-, -, -, -, -, -, c6⟩ := snRow7 (rowKept HG0.out h05)
      obtain ⟨y0, -, -, -, -, -⟩ := rowF6 (f := f) HFb.out
      have HFi := Lib.hid (listFind_any _ s.files f.path w5 (X.out _ hw5).2.2.2.2)
      rw [hi1] at HFi
      have HEv := Lib.hid hev
      have HC := Lib.hid (And.intro hc12 hfe)
      clear hre hrl hi1 hi2 hev hc12 hfe
      go_wp2_with fail
      refine HFi.out.mono ?_
      rintro e w6 ⟨rfl, hb6⟩
      have hw6 := hw5.trans (hb6.mono hw5.size)
      clear c6 y0
      go_wp2_with fail
      refine (fileBare_any E (erOf (fileE st.objs f)) _ w6 (erOf_any HEv.out)).mono ?_
      rintro e w' ⟨ev', rfl, hev', rfl⟩
      rw [erOf_pos' HC.out.2] at hev'
      obtain ⟨-, rfl⟩ := hev'
      go_wp2_with fail
      go_ret2
      refine ⟨_, _, rfl, ?_, by rw [HR.out.2]; exact At.nil _ _ _, hw6.alloc hw6.size _⟩
      rw [HR.out.1]
      exact ⟨HC.out.1, w6.heap.size, rfl, by rw [cell_of_row _ _ _ _ _ (0, 0) (heap_alloc_new w6 _)]; rfl, by rw [cell_of_row _ _ _ _ _ (0, 0) (heap_alloc_new w6 _)]; rfl⟩
    rw [hfe] at hev
    obtain rfl : ev = .nilIface := hev
    have HFe := Lib.hid hfe
    clear hfe
    go_wp2_with fail
    go_roundw
    case rel => exact ⟨k + 1, by omega, by go_num, Lib.hid (by rw [List.take_add_one, HFk.out]; exact HOk.out HFe.out), Lib.hid (fun j hj' g hg => by
      rcases Nat.lt_or_ge j k with h' | h'
      · exact Hj.out j h' g hg
      · obtain rfl : j = k := by omega
        rw [HFk.out] at hg
        obtain rfl := Option.some.inj hg
        exact HFe.out), HD35⟩
    case measure => simp [intOf]; omega
end Go.Proofs.YtpfohfihkmjnaaaGreatDoor
namespace Go.Proofs.YtpfohfihkmjnaaaGreatDoor
open Go.RowKit

abbrev r1D : Rw := ⟨[97], 1, 2⟩
theorem r1_check : rowCheck r1D = 0 := by decide
theorem r1_sort : sortR [r1D] = [r1D] := by decide
theorem made_r1 : makeE [r1D] = .nil := by
  refine makeE_fine (by decide) fun j hj => ?_
  have h0 : j = 0 := by simpa using hj
  subst h0
  exact r1_check
theorem text_r1 : makeT [r1D] = dataText [r1D] := by rw [make_text made_r1, r1_sort]
theorem all_r1 : ∀ r ∈ [r1D], rowCheck r = 0 := fun r hr => by
  rw [List.mem_singleton.1 hr]; exact r1_check
theorem read_r1 : dataE (dataText [r1D]) = .nil ∧ dataL (dataText [r1D]) = [r1D] := dataRead_text (by unfold upR; simp) all_r1 (by decide)
theorem sum_nine : sumOf [49, 50, 51, 52, 53, 54, 55, 56, 57] = 3421780262 := by kernel_rfl
theorem row_new (w : World) {H : Nat} (hH : w.heap.size = H) (r : Rw) : RowsAt (w.alloc (.cells #[S r.part, .int .i64 r.key, .int .i64 r.val] 106)) (.slice (some ⟨H, 0, none⟩) 1 1) [r] := by
  subst hH
  obtain ⟨d0, d1, d2⟩ := rowCells (r := r) (w := w) rfl (Below.refl _ _)
  refine ⟨_, 1, w.heap.size, 0, rfl, fun _ => rfl, Nat.le_refl _, by unfold maxLen; omega, fun k x hk j u hu => ?_⟩
  have hk0 : k = 0 := by have := (List.getElem?_eq_some_iff.1 hk).1; simpa using this
  subst hk0
  have hx : x = r := by simpa using hk.symm
  subst hx
  match j, hu with
  | 0, hu => rw [← Option.some.inj hu]; exact d0
  | 1, hu => rw [← Option.some.inj hu]; exact d1
  | 2, hu => rw [← Option.some.inj hu]; exact d2
end Go.Proofs.YtpfohfihkmjnaaaGreatDoor
namespace Go.Proofs.YtpfohfihkmjnaaaGreatDoor
open Go.RowKit Go.Maps

theorem at_row2 {α : Type} {enc : α → List Value} {sz : Nat} (he : ∀ x, (enc x).length = sz) {w : World} {H : Nat} {cs : Array Value} {t : TypeId} {x y : α} (h : w.heap[H]? = some (.cells cs t (0, 0))) (hcs : cs.toList = enc x ++ enc y) : At enc sz w (.slice (some ⟨H, 0, none⟩) 2 2) [x, y] := by
  refine ⟨_, 2, H, 0, rfl, fun _ => rfl, Nat.le_refl _, by unfold maxLen; omega, fun k z hk j u hu => ?_⟩
  have hj : j < sz := by have := (List.getElem?_eq_some_iff.1 hu).1; rwa [he] at this
  rw [cell_of_row w _ _ _ _ (0, 0) h, ← Array.getElem?_toList, hcs]
  have hk2 : k < 2 := (List.getElem?_eq_some_iff.1 hk).1
  rcases (show k = 0 ∨ k = 1 by omega) with rfl | rfl
  · obtain rfl : x = z := Option.some.inj hk
    rw [List.getElem?_append_left (by rw [he]; omega)]
    simpa using hu
  · obtain rfl : y = z := Option.some.inj hk
    rw [List.getElem?_append_right (by rw [he]; omega), he]
    rw [show 0 + 1 * sz + j - sz = j by omega]
    exact hu
theorem results_tct {P : Program} {fn : Func} {u p q : Tmp} {ty : TypeId} (h : fn.results = #[.tmp u, .cell p ty, .tmp q]) (tmps : Array Value) (w : World) (g : Nat) (t : TypeId) (cs : Array Value) (fr : Nat × Nat) (d : TypeDesc)
    (hp : tmps.getD p undef = .pointer (some ⟨g, 0, none⟩)) (hg : w.heap[g]? = some (.cells cs t fr))
    (hu : P.underlying ty = some d) (hd : (match d with | .struct _ | .array _ _ => true | _ => false) = true) (hi : (P.info? ty).map (·.size) = some cs.size) {v v2 : Value} (hv : tmps.getD u undef = v) (hv2 : tmps.getD q undef = v2) :
    (results fn tmps).run P w = .ok (.tuple #[v, .agg cs, v2]) w := by
  have hp' : tmps[p]?.getD undef = .pointer (some ⟨g, 0, none⟩) := by simpa using hp
  have hv' : tmps[u]?.getD undef = v := by simpa using hv
  have hv2' : tmps[q]?.getD undef = v2 := by simpa using hv2
  simp [results, h, hp', hv', hv2', asAddr, run_loadVar_row w g t ty cs fr d hg hu hd hi]
theorem StoreAt.sev {w : World} {sb mb g : Nat} {s : St} (h : StoreAt w sb mb s) (h1 : g ≠ sb) (h2 : g ≠ mb) (b0 b1 b2 b3 b4 b5 b6 : Value) : StoreAt (sev w g b0 b1 b2 b3 b4 b5 b6) sb mb s :=
  ((((((h.away h1 h2 _).away h1 h2 _).away h1 h2 _).away h1 h2 _).away h1 h2 _).away h1 h2 _).away h1 h2 _
theorem sev_heap {w : World} {g k : Nat} (h : g ≠ k) (b0 b1 b2 b3 b4 b5 b6 : Value) : (sev w g b0 b1 b2 b3 b4 b5 b6).heap[k]? = w.heap[k]? := by
  rw [set_other h, set_other h, set_other h, set_other h, set_other h, set_other h, set_other h]
end Go.Proofs.YtpfohfihkmjnaaaGreatDoor
namespace Go.Proofs.YtpfohfihkmjnaaaGreatDoor
open Go.RowKit Go.Maps

end Go.Proofs.YtpfohfihkmjnaaaGreatDoor
namespace Go.Proofs.YtpfohfihkmjnaaaGreatDoor
open Go.RowKit Go.Maps

abbrev snObj (s : Sn) (v : Value) : Obj := .cells #[.int .i64 s.id, .int .i64 s.parent, .int .i64 s.seq, .int .i64 s.day, .int .i64 s.index, S s.op, v] 25
theorem snap_set {W : World} {g : Nat} {a0 a1 a2 a3 a4 a5 v u : Value} {t : TypeId} (h : W.heap[g]? = some (.cells #[a0, a1, a2, a3, a4, a5, v] t (0, 0))) : (W.setCell ⟨g, 6, none⟩ u).heap[g]? = some (.cells #[a0, a1, a2, a3, a4, a5, u] t (0, 0)) :=
  heap_setCell_same W g 6 #[a0, a1, a2, a3, a4, a5, v] t u h
theorem filesAt_snap {W : World} {g : Nat} {a0 a1 a2 a3 a4 : Int} {a5 : Str} {v u : Value} {l : List Fl} {t : TypeId} (h : W.heap[g]? = some (.cells #[.int .i64 a0, .int .i64 a1, .int .i64 a2, .int .i64 a3, .int .i64 a4, S a5, v] t (0, 0))) {av : Option Addr} {nv cv : Nat} (hv : v = .slice av nv cv) (x : Value) (hu : FilesAt W u l) :
    FilesAt (W.setCell ⟨g, 6, none⟩ x) u l := by
  obtain ⟨a, c, b, o, hv', ha, hc, hm, hx⟩ := hu
  refine ⟨a, c, b, o, hv', ha, hc, hm, fun k y hk j z hz => ?_⟩
  have hbA : b ≠ g := by
    rintro rfl
    have c1 := hx k y hk 0 _ rfl
    have c2 := hx k y hk 1 _ rfl
    rw [cell_of_row W _ _ _ _ (0, 0) h] at c1 c2
    rcases Nat.lt_or_ge (o + k * 6) 7 with h' | h'
    · have : o + k * 6 = 0 ∨ o + k * 6 = 1 ∨ o + k * 6 = 2 ∨ o + k * 6 = 3 ∨ o + k * 6 = 4 ∨ o + k * 6 = 5 ∨ o + k * 6 = 6 := by omega
      rcases this with e | e | e | e | e | e | e <;> rw [e] at c1 c2 <;> simp [hv] at c1 c2
    · rw [Array.getElem?_eq_none (by simp; omega)] at c1; cases c1
  rw [World.cell?_setCell_other _ _ _ _ (by intro e; have := congrArg Addr.block e; simp at this; omega)]
  exact hx k y hk j z hz
section
variable {w0 w w1 W : World} {sb mb xb : Nat} {v : Value} {s : St}
theorem Twin.base (h : Twin w1 sb mb xb v s W) (hb : Below w0.heap.size w0 w1) : Twin w0 sb mb xb v s W :=
  { h with
    mdl := ⟨h.mdl.blk, own_base h.mdl.own hb.size, h.mdl.ok⟩
    bel := hb.trans (h.bel.mono hb.size)
    h1 := Nat.le_trans hb.size h.h1
    h2 := Nat.le_trans hb.size h.h2
    h3 := Nat.le_trans hb.size h.h3 }
theorem Twin.away (h : Twin w0 sb mb xb v s W) {g i : Nat} {cs : Array Value} (hg : W.heap[g]? = some (.cells cs 25 (0, 0))) (hge : w0.heap.size ≤ g) (n1 : g ≠ sb) (n2 : g ≠ mb) (n3 : g ≠ xb) (x : Value) : Twin w0 sb mb xb v s (W.setCell ⟨g, i, none⟩ x) :=
  { h with
    sto := h.sto.away n1 n2 x
    mdl := ⟨(set_other n3 x).trans h.mdl.blk, own_but h.mdl.own (own_ne h.mdl.own hg (fun cs hc => by simp at hc)) (own_ne h.mdl.own hg (fun cs hc => by simp at hc)) (But2.set (mb := g) W i x), h.mdl.ok⟩
    bel := h.bel.setCell (p := ⟨g, i, none⟩) hge x }
end
/-- The files that a scan is asked for. -/
def asked (s : Sn) (l : List Fl) : Sn := if s.files = [] then { s with files := l } else s
theorem asked_mid {s : Sn} {l : List Fl} (h1 : ∀ x ∈ s.files, midF x) (h2 : ∀ x ∈ l, midF x) : ∀ x ∈ (asked s l).files, midF x := by
  unfold asked
  split
  · exact h2
  · exact h1
end Go.Proofs.YtpfohfihkmjnaaaGreatDoor
namespace Go.Proofs.YtpfohfihkmjnaaaGreatDoor
open Go.RowKit

/-- The idle files' paths. -/
def idleL (l : List Fl) : List Str := (l.filter (idleF l)).map (·.path)
def remK (l : List Fl) (ps : List Str) : List Fl := l.filter fun f => !decide (f.path ∈ ps)
theorem remK_nil (l : List Fl) : remK l [] = l := List.filter_eq_self.2 fun _ _ => by simp
theorem remK_snoc (l : List Fl) (ps : List Str) (p : Str) : remK l (ps ++ [p]) = dropF (remK l ps) p := by
  unfold remK dropF
  rw [List.filter_filter]
  refine List.filter_congr fun f _ => ?_
  rw [Bool.eq_iff_iff]
  simp only [List.mem_append, List.mem_singleton, Bool.not_eq_true', decide_eq_false_iff_not, Bool.and_eq_true, beq_eq_false_iff_ne]
  exact ⟨fun h => ⟨fun h' => h (.inr h'), fun h' => h (.inl h')⟩, fun ⟨h1, h2⟩ h => h.elim h2 h1⟩
theorem right_rem {l : List Fl} (h : RightL l) (ps : List Str) : RightL (remK l ps) :=
  ⟨Nat.le_trans (List.length_filter_le ..) h.len, fun f hf => h.ok f (List.mem_filter.1 hf).1, h.ris.filter _⟩
theorem right_inj {l : List Fl} (h : RightL l) {f g : Fl} (hf : f ∈ l) (hg : g ∈ l) (e : f.path = g.path) : f = g := by
  obtain ⟨i, hi, rfl⟩ := List.getElem_of_mem hf
  obtain ⟨j, hj, rfl⟩ := List.getElem_of_mem hg
  rcases Nat.lt_trichotomy i j with h' | h' | h'
  · have := List.pairwise_iff_getElem.1 h.ris i j hi hj h'
    rw [e] at this; omega
  · subst h'; rfl
  · have := List.pairwise_iff_getElem.1 h.ris j i hj hi h'
    rw [e] at this; omega
theorem mem_idleL {l : List Fl} (h : RightL l) {f : Fl} (hf : f ∈ l) : f.path ∈ idleL l ↔ idleF l f = true := by
  unfold idleL
  rw [List.mem_map]
  constructor
  · rintro ⟨g, hg, e⟩
    obtain ⟨h1, h2⟩ := List.mem_filter.1 hg
    rw [← right_inj h h1 hf e]
    exact h2
  · intro hi
    exact ⟨f, List.mem_filter.2 ⟨hf, hi⟩, rfl⟩
theorem remK_idle {l : List Fl} (h : RightL l) : remK l (idleL l) = l.filter fun g => !idleF l g := by
  unfold remK
  refine List.filter_congr fun f hf => ?_
  rw [Bool.eq_iff_iff]
  simp only [Bool.not_eq_true', decide_eq_false_iff_not]
  rw [mem_idleL h hf, Bool.not_eq_true]
theorem idleL_nodup {l : List Fl} (h : RightL l) : (idleL l).Nodup := by
  unfold idleL
  rw [List.Nodup, List.pairwise_map]
  refine (h.ris.filter _).imp fun {a b} hab e => ?_
  rw [e] at hab
  omega
/-- The next idle file is taken out. -/
theorem idle_next {l : List Fl} (h : RightL l) {k : Nat} {p : Str} (hp : (idleL l)[k]? = some p) :
    removeE (remK l ((idleL l).take k)) p = .nil ∧ removeL (remK l ((idleL l).take k)) p = remK l ((idleL l).take (k + 1)) := by
  obtain ⟨hk, hpe⟩ := List.getElem?_eq_some_iff.1 hp
  have hmem : p ∈ idleL l := List.mem_of_getElem? hp
  obtain ⟨f, hf, hfp⟩ := List.mem_map.1 hmem
  have hf1 := (List.mem_filter.1 hf).1
  have hno : p ∉ (idleL l).take k := by
    intro hin
    obtain ⟨j, hj, e⟩ := List.getElem_of_mem hin
    rw [List.length_take] at hj
    rw [List.getElem_take, ← hpe] at e
    exact List.pairwise_iff_getElem.1 (idleL_nodup h) j k (by omega) hk (by omega) e
  have hin : f ∈ remK l ((idleL l).take k) := List.mem_filter.2 ⟨hf1, by rw [hfp]; simp [hno]⟩
  obtain ⟨j, hj, hjf⟩ := List.getElem_of_mem hin
  have hra := remove_add (k := j) (x := f) (right_rem h _) (by rw [List.getElem?_eq_getElem hj, hjf])
  rw [hfp] at hra
  refine ⟨hra.1, ?_⟩
  unfold removeL
  rw [if_pos hra.1, ← remK_snoc, take_snoc' hp]
theorem idle_right {s : Sn} (h : RightSn s) (ps : List Str) : RightSn { s with files := remK s.files ps } :=
  ⟨h.bnd, h.op, right_rem h.lst ps, fun f hf => h.sq f (List.mem_filter.1 hf).1⟩
/-- Without its idle files a snap has the rows it has. -/
theorem rows_without {os : List Ob} {s : Sn} (h : rowsE os s iMin iMax = .nil) :
    rowsE os { s with files := remK s.files (idleL s.files) } iMin iMax = .nil ∧ rowsL os { s with files := remK s.files (idleL s.files) } iMin iMax = rowsL os s iMin iMax := by
  have hr := (rowsE_nil h).1
  exact rows_idle (s' := { s with files := remK s.files (idleL s.files) }) h (idle_right hr _) (remK_idle hr.lst)
end Go.Proofs.YtpfohfihkmjnaaaGreatDoor
