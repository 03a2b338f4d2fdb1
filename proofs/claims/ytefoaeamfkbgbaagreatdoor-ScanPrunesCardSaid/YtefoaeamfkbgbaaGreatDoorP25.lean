/- scan.Count, scan.Find: the walks. A table beside a snap that is written. deedboxlaw3.ScanPrunes: rows of some keys are all rows, of these keys; of two parts of the keys they are all: the walk. Printed by gen_sc.py. From the row's condition on the listed variables to what the walks ask: the sentinels, and what errors.As reads. The builder with the row's listed variables and the world's shape both; slices of numbers that came in; the library's variables out of the condition. A slice that came in, of whatever elements; texts; files. -/
import Derived.Test.YtefoaeamfkbgbaaGreatDoorP24
import Derived.Test.YtefoaeamfkbgbaaGreatDoorP14
import Derived.Test.YtefoaeamfkbgbaaGreatDoorP22
import Derived.Test.YtefoaeamfkbgbaaGreatDoorP19
import Derived.Test.YtefoaeamfkbgbaaGreatDoorP13
import Derived.Deep.DeepCutAuto
import Derived.Deep.RegionHeld3
import Derived.Deep.RegionLaw
import Derived.OwnWalk
import Derived.BigQuiet
import Derived.Test.YtefoaeamfkbgbaaGreatDoorP1
import Derived.LaidLaws
import Derived.LaidHandle
import Derived.Stop.LaidErr
import Derived.Test.YtefoaeamfkbgbaaGreatDoorP8
import Derived.HandedShaped
import Derived.OpenShut
import Derived.Carry
import Derived.Shelf.Vars
import Derived.ProofKit
import Derived.LaidMore
import Derived.Lay
namespace Go.Proofs.YtefoaeamfkbgbaaGreatDoor
open Go.RowKit Go.Maps

set_option maxRecDepth 20000 in
theorem scanCount_any (E : Nat → Addr) (B : Nat) (sb mb : Nat) (st : St) (s : Sn) (v : Value) (w : World) (hE : Errs [1, 2, 3, 4, 5, 6, 8, 9, 10] E B w) (hT : LNum B w) (hM : LMax B w) (h : StoreAt w sb mb st) (hx : ∀ o ∈ st.objs, o.text.length ≤ 10000)
    (hl : FilesAt w v s.files) (hs : ∀ x ∈ s.files, midF x) :
    Calls Tryz.prog 19 #[stP sb, snapV s v] w fun e w' => ∃ ev, e = .returned (.tuple #[.int .i64 ((rowsL st.objs s iMin iMax).length : Int), ev]) ∧ ErV E w' ev (rowsE st.objs s iMin iMax) ∧ Below w.heap.size w w' := by
  have hBw := hE.le
  obtain ⟨n, hn⟩ : ∃ n : Nat, (rowsL st.objs s iMin iMax).length = n := ⟨_, rfl⟩
  rw [hn]
  have HN := Lib.hid hn
  clear hn
  obtain ⟨a, c, rfl, -, -⟩ := At.form' hl
  have hba : Below w.heap.size w (w.alloc (.cells #[.int .i64 s.id, .int .i64 s.parent, .int .i64 s.seq, .int .i64 s.day, .int .i64 s.index, S s.op, .slice a s.files.length c] 25)) := (Below.refl _ _).alloc (Nat.le_refl _) _
  have HRo := Lib.hid (scanRows_any E B sb mb st s _ iMin iMax _ (hE.below' hba hBw) (hT.below' hba hBw) (hM.below' hba hBw) (h.below hba) hx (hl.below hba) hs)
  clear hE hT hM h hx hl hs
  go_enter Tryz.func19, Tryz.ntmps19
  go_wp2_with fail
  refine HRo.out.mono ?_
  rintro e w1 ⟨u, ev, rfl, hev, hu, hb1⟩
  obtain ⟨au, cu, rfl, -, -⟩ := At.form' hu
  rw [HN.out]
  have HEv := Lib.hid hev
  clear hu hev
  go_wp2_with fail
  go_ret2
  exact ⟨_, rfl, HEv.out, hba.trans (hb1.mono hba.size)⟩
/-- The values of rows, rising. -/
def valsR (l : List Rw) : List Int := sortI (l.map (·.val))
set_option maxHeartbeats 1000000 in
set_option maxRecDepth 20000 in
theorem scanFind_any (E : Nat → Addr) (B : Nat) (sb mb : Nat) (st : St) (s : Sn) (v : Value) (key : Int) (w : World) (hE : Errs [1, 2, 3, 4, 5, 6, 8, 9, 10] E B w) (hT : LNum B w) (hM : LMax B w) (h : StoreAt w sb mb st) (hx : ∀ o ∈ st.objs, o.text.length ≤ 10000)
    (hl : FilesAt w v s.files) (hs : ∀ x ∈ s.files, midF x) (hn : (rowsL st.objs s key key).length ≤ 100000) :
    Calls Tryz.prog 25 #[stP sb, snapV s v, .int .i64 key] w fun e w' => ∃ u ev, e = .returned (.tuple #[u, ev]) ∧ ErV E w' ev (rowsE st.objs s key key) ∧ IntsAt w' u (valsR (rowsL st.objs s key key)) ∧ Below w.heap.size w w' := by
  have hBw := hE.le
  obtain ⟨l, hll⟩ : ∃ l, rowsL st.objs s key key = l := ⟨_, rfl⟩
  rw [hll] at hn
  have HLl := Lib.hid hll
  obtain ⟨a, c, rfl, -, -⟩ := At.form' hl
  have hba : Below w.heap.size w (w.alloc (.cells #[.int .i64 s.id, .int .i64 s.parent, .int .i64 s.seq, .int .i64 s.day, .int .i64 s.index, S s.op, .slice a s.files.length c] 25)) := (Below.refl _ _).alloc (Nat.le_refl _) _
  have HRo := Lib.hid (scanRows_any E B sb mb st s _ key key _ (hE.below' hba hBw) (hT.below' hba hBw) (hM.below' hba hBw) (h.below hba) hx (hl.below hba) hs)
  rw [hll] at HRo ⊢
  have HN := Lib.hid hn
  clear hE hT hM h hx hl hs hll hn
  go_enter Tryz.func25, Tryz.ntmps25
  go_wp2_with fail
  refine HRo.out.mono ?_
  rintro e w1 ⟨u, ev, rfl, hev, hu, hb1⟩
  have hbw1 := hba.trans (hb1.mono hba.size)
  obtain ⟨al, cl, bl, ol, rfl, hal, hcl, hcml, hxl⟩ := hu
  unfold maxLen at hcml
  have HEv := Lib.hid hev
  have HXl := Lib.hid hxl
  clear hev hxl
  go_wp2_with fail
  go_loopw [10, 23] (fun t10 i wr => ∃ (k : Nat) (vo : Value), k ≤ l.length ∧ i = .int .i64 k ∧ vo = t10 ∧ Hid (Own encI 3 1 w1.heap.size wr vo ((l.take k).map (·.val))) ∧ Below w1.heap.size w1 wr) (fun _ i _ => l.length - (intOf i).toNat)
  case atStart => exact ⟨0, _, by omega, rfl, rfl, Lib.hid (by rw [List.take_zero]; exact Own.nil _ _ _ _ _), Below.refl _ _⟩
  case round =>
    obtain ⟨k, vo, hk, rfl, rfl, ho, hb⟩ := hrel
    obtain ⟨wo, rfl⟩ : ∃ wo, wo = wr := ⟨wr, rfl⟩
    by_cases hlt : k < l.length
    case neg =>
      obtain rfl : k = l.length := by omega
      have f1 : decide ((l.length : Int) < (l.length : Int)) = false := by simp
      have ho2 := ho.out
      rw [List.take_length] at ho2
      have HSo := Lib.hid (sortI_any w1.heap.size vo _ wo ho2 hb.size (by rw [List.length_map]; exact HN.out))
      have hbwo := hbw1.trans (hb.mono hbw1.size)
      clear ho2
      go_wp2_with fail
      refine HSo.out.mono ?_
      rintro e w3 ⟨rfl, ho3, hb3⟩
      have HO3 := Lib.hid ho3
      clear ho3
      go_wp2_with fail
      go_ret2
      exact ⟨_, _, rfl, HEv.out.below (hb.trans hb3), HO3.out.at encI_enc, hbw1.trans ((hb.trans hb3).mono hbw1.size)⟩
    have f1 : (k : Int) < (l.length : Int) := by omega
    obtain ⟨x, hxk⟩ := get_ex hlt
    have i1 := idx_at (c := cl) 3 Tryz.underlying39 szRw hal k hlt
    obtain ⟨c0, c1, c2⟩ := rwCells HXl.out hb hxk
    have hwA : Below wo.heap.size wo (wo.alloc (.cells #[S x.part, .int .i64 x.key, .int .i64 x.val] 65)) := (Below.refl _ _).alloc (Nat.le_refl _) _
    have hgA := heap_alloc_new wo (.cells #[S x.part, .int .i64 x.key, .int .i64 x.val] 65)
    have HHo := Lib.hid (ho.out.below hwA)
    have HXk := Lib.hid hxk
    have hbA := hb.alloc hb.size (.cells #[S x.part, .int .i64 x.key, .int .i64 x.val] 65)
    have hlk : ((l.take k).map (·.val)).length = k := by rw [List.length_map, List.length_take]; omega
    obtain ⟨q, hq⟩ : ∃ q, (l.take k).map (·.val) = q := ⟨_, rfl⟩
    rw [hq] at HHo hlk
    have HQ := Lib.hid hq
    have HLk := Lib.hid hlk
    clear hxk hlk ho hq
    go_upto_region 6 with fail
    clear c0 c1 c2 i1
    generalize wo.alloc (.cells #[S x.part, .int .i64 x.key, .int .i64 x.val] 65) = wA at *
    have d2 : wA.cell? ⟨wo.heap.size, 2, none⟩ = some (.int .i64 x.val) := by rw [cell_of_row wA _ _ _ _ (0, 0) hgA]; rfl
    have HbA := Lib.hid hbA.size
    clear hgA hwA
    go_wp2_with (at_builtin; refine wpList_app rfl _ _ _ rfl w1.heap.size elInt vo q.length _ rfl (HHo.out.alloc _) (.slice (some ⟨wA.heap.size, 0, none⟩) 1 1) 1 (encI x.val) rfl (src_one rfl rfl (by simp [Value.oneCell'])) (by have h1 := HLk.out; have h2 := HN.out; unfold maxLen; omega) (by have h1 := HLk.out; have h2 := HN.out; omega) (by have := HbA.out; simp; omega) ?_; intro v' w2 hown hg _)
    have ho2 := Own.snoc hown
    have hb2 := (hbA.alloc hbA.size (.cells #[.int .i64 x.val] 3)).grown hg (by have := hbA.size; simp; omega) (fun b hb' => (World.ownsRow.lt HHo.out b hb').1)
    have HO2 := Lib.hid ho2
    clear hown hg ho2
    go_roundw
    case rel => exact ⟨k + 1, v', by omega, by go_num, rfl, Lib.hid (by rw [List.take_add_one, HXk.out, List.map_append, HQ.out]; exact HO2.out), hb2⟩
    case measure => simp [intOf]; omega
end Go.Proofs.YtefoaeamfkbgbaaGreatDoor
namespace Go.Proofs.YtefoaeamfkbgbaaGreatDoor
open Go.RowKit Go.Maps

abbrev snObj (s : Sn) (v : Value) : Obj := .cells #[.int .i64 s.id, .int .i64 s.parent, .int .i64 s.seq, .int .i64 s.day, .int .i64 s.index, S s.op, v] 25
theorem snap_set {W : World} {g : Nat} {a0 a1 a2 a3 a4 a5 v u : Value} {t : TypeId} (h : W.heap[g]? = some (.cells #[a0, a1, a2, a3, a4, a5, v] t (0, 0))) : (W.setCell ⟨g, 6, none⟩ u).heap[g]? = some (.cells #[a0, a1, a2, a3, a4, a5, u] t (0, 0)) :=
  heap_setCell_same W g 6 #[a0, a1, a2, a3, a4, a5, v] t u h
theorem filesAt_snap {W : World} {g : Nat} {a0 a1 a2 a3 a4 : Int} {a5 : Str} {v u : Value} {l : List Fl} {t : TypeId} (h : W.heap[g]? = some (.cells #[.int .i64 a0, .int .i64 a1, .int .i64 a2, .int .i64 a3, .int .i64 a4, S a5, v] t (0, 0))) {av : Option Addr} {nv cv : Nat} (hv : v = .slice av nv cv) (x : Value) (hu : FilesAt W u l) :
    FilesAt (W.setCell ⟨g, 6, none⟩ x) u l := by
  obtain ⟨a, c, b, o, hv', ha, hc, hm, hx⟩ := hu
  refine ⟨a, c, b, o, hv', ha, hc, hm, fun k y hk j z hz => ?_⟩
  have hbA : b ≠ g := by
    rintro rfl
    have c1 := hx k y hk 0 _ rfl
    have c2 := hx k y hk 1 _ rfl
    rw [cell_of_row W _ _ _ _ (0, 0) h] at c1 c2
    rcases Nat.lt_or_ge (o + k * 6) 7 with h' | h'
    · have : o + k * 6 = 0 ∨ o + k * 6 = 1 ∨ o + k * 6 = 2 ∨ o + k * 6 = 3 ∨ o + k * 6 = 4 ∨ o + k * 6 = 5 ∨ o + k * 6 = 6 := by omega
      rcases this with e | e | e | e | e | e | e <;> rw [e] at c1 c2 <;> simp [hv] at c1 c2
    · rw [Array.getElem?_eq_none (by simp; omega)] at c1; cases c1
  rw [World.cell?_setCell_other _ _ _ _ (by intro e; have := congrArg Addr.block e; simp at this; omega)]
  exact hx k y hk j z hz
section
variable {w0 w w1 W : World} {sb mb xb : Nat} {v : Value} {s : St}
theorem Twin.base (h : Twin w1 sb mb xb v s W) (hb : Below w0.heap.size w0 w1) : Twin w0 sb mb xb v s W :=
  { h with
    mdl := ⟨h.mdl.blk, own_base h.mdl.own hb.size, h.mdl.ok⟩
    bel := hb.trans (h.bel.mono hb.size)
    h1 := Nat.le_trans hb.size h.h1
    h2 := Nat.le_trans hb.size h.h2
    h3 := Nat.le_trans hb.size h.h3 }
theorem Twin.away (h : Twin w0 sb mb xb v s W) {g i : Nat} {cs : Array Value} (hg : W.heap[g]? = some (.cells cs 25 (0, 0))) (hge : w0.heap.size ≤ g) (n1 : g ≠ sb) (n2 : g ≠ mb) (n3 : g ≠ xb) (x : Value) : Twin w0 sb mb xb v s (W.setCell ⟨g, i, none⟩ x) :=
  { h with
    sto := h.sto.away n1 n2 x
    mdl := ⟨(set_other n3 x).trans h.mdl.blk, own_but h.mdl.own (own_ne h.mdl.own hg (fun cs hc => by simp at hc)) (own_ne h.mdl.own hg (fun cs hc => by simp at hc)) (But2.set (mb := g) W i x), h.mdl.ok⟩
    bel := h.bel.setCell (p := ⟨g, i, none⟩) hge x }
end
/-- The files that a scan is asked for. -/
def asked (s : Sn) (l : List Fl) : Sn := if s.files = [] then { s with files := l } else s
theorem asked_mid {s : Sn} {l : List Fl} (h1 : ∀ x ∈ s.files, midF x) (h2 : ∀ x ∈ l, midF x) : ∀ x ∈ (asked s l).files, midF x := by
  unfold asked
  split
  · exact h2
  · exact h1
end Go.Proofs.YtefoaeamfkbgbaaGreatDoor
namespace Go.Proofs.YtefoaeamfkbgbaaGreatDoor
open Go.RowKit Go.Maps

theorem rowsL_bad' {os : List Ob} {s : Sn} {lo hi : Int} (h : rowsE os s lo hi ≠ .nil) : rowsL os s lo hi = [] := if_neg h
theorem rows_len {os : List Ob} {s : Sn} {lo hi : Int} (h : rowsE os s lo hi = .nil) : (rowsL os s lo hi).length ≤ 2400 := by
  unfold rowsL
  rw [if_pos h, sort_len]
  obtain ⟨hr, hf⟩ := rowsE_nil h
  have h1 := allUp_len (os := os) (l := pruneL s.files lo hi) (lo := lo) (hi := hi) hf
  have h2 : (pruneL s.files lo hi).length ≤ s.files.length := List.length_filter_le _ _
  have h3 := hr.lst.len
  unfold allO
  omega
theorem within_len (l : List Rw) (lo hi : Int) : (withinR l lo hi).length ≤ l.length := List.length_filter_le _ _
theorem within_split (l : List Rw) {x : Int} (h1 : iMin ≤ x) (h2 : x ≤ iMax) : (withinR l iMin x ++ withinR l (x + 1) iMax).Perm (withinR l iMin iMax) := by
  have e1 : withinR l iMin x = (withinR l iMin iMax).filter fun r => decide (r.key ≤ x) := by
    unfold withinR
    rw [List.filter_filter]
    refine List.filter_congr fun r _ => ?_
    rw [Bool.eq_iff_iff]
    simp only [withinP, Bool.and_eq_true, Bool.not_eq_true', Bool.or_eq_false_iff, decide_eq_true_eq, decide_eq_false_iff_not]
    omega
  have e2 : withinR l (x + 1) iMax = (withinR l iMin iMax).filter fun r => !decide (r.key ≤ x) := by
    unfold withinR
    rw [List.filter_filter]
    refine List.filter_congr fun r _ => ?_
    rw [Bool.eq_iff_iff]
    simp only [withinP, Bool.and_eq_true, Bool.not_eq_true', Bool.or_eq_false_iff, decide_eq_false_iff_not]
    omega
  rw [e1, e2]
  exact List.filter_append_perm _ _
set_option maxHeartbeats 4000000 in
set_option maxRecDepth 20000 in
theorem scanPrunes_any (E : Nat → Addr) (B : Nat) (vp : Value) (l : List Pc) (v : Value) (s : Sn) (lo hi : Int) (w : World) (hE : Errs [1, 2, 3, 4, 5, 6, 7, 8, 9, 10, 12] E B w) (hT : LNum B w) (hM : LMax B w) (hlp : PiecesAt w vp l) (hh : HeldPc w l) (hl : FilesAt w v s.files) (h1lo : -9223372036854775808 ≤ lo) (h2lo : lo ≤ 9223372036854775807) :
    Calls Tryz.prog 4 #[vp, snapV s v, .int .i64 lo, .int .i64 hi] w fun e w' => e = .returned (.bool true) ∧ Below w.heap.size w w' := by
  have hBw := hE.le
  have hif := isIfaceE
  have X := Lib.hid (fun W (h : Below w.heap.size w W) => (⟨hE.below' h hBw, hT.below' h hBw, hM.below' h hBw⟩ : Errs [1, 2, 3, 4, 5, 6, 7, 8, 9, 10, 12] E B W ∧ LNum B W ∧ LMax B W))
  have XF := Lib.hid (fun W (h : Below w.heap.size w W) => (⟨hlp.below h, hh.below h, hl.below h⟩ : PiecesAt W vp l ∧ HeldPc W l ∧ FilesAt W v s.files))
  obtain ⟨a, c, rfl, -, -⟩ := At.form' hl
  obtain ⟨ap, cp, rfl, -, -⟩ := At.form' hlp
  have hba : Below w.heap.size w (w.alloc (.cells #[.int .i64 s.id, .int .i64 s.parent, .int .i64 s.seq, .int .i64 s.day, .int .i64 s.index, S s.op, .slice a s.files.length c] 25)) := (Below.refl _ _).alloc (Nat.le_refl _) _
  have hg0 := heap_alloc_new w (.cells #[.int .i64 s.id, .int .i64 s.parent, .int .i64 s.seq, .int .i64 s.day, .int .i64 s.index, S s.op, .slice a s.files.length c] 25)
  have HG := Lib.hid (fun W (h : Below (w.alloc (.cells #[.int .i64 s.id, .int .i64 s.parent, .int .i64 s.seq, .int .i64 s.day, .int .i64 s.index, S s.op, .slice a s.files.length c] 25)).heap.size (w.alloc (.cells #[.int .i64 s.id, .int .i64 s.parent, .int .i64 s.seq, .int .i64 s.day, .int .i64 s.index, S s.op, .slice a s.files.length c] 25)) W) => rowKept hg0 h)
  have HSz := Lib.hid (Array.getElem?_eq_some_iff.1 hg0).1
  clear hE hT hM hlp hh hl hg0
  go_enter Tryz.func4, Tryz.ntmps4
  go_upto_region 1 with fail
  generalize w.alloc (.cells #[.int .i64 s.id, .int .i64 s.parent, .int .i64 s.seq, .int .i64 s.day, .int .i64 s.index, S s.op, .slice a s.files.length c] 25) = w0 at *
  have HSc := Lib.hid (scanned_any E B w0 ((X.out _ hba).1.sub (by decide)) (X.out _ hba).2.1 (X.out _ hba).2.2)
  go_wp2_with fail
  refine HSc.out.mono ?_
  rintro e w1 ⟨rfl, hb1⟩
  have hbw1 := hba.trans (hb1.mono hba.size)
  have hlp := longPiecesD_any (.slice ap l.length cp) l w1 (XF.out _ hbw1).1 (XF.out _ hbw1).2.1
  clear HSc
  rcases Decidable.em (shortPcs l) with hsp | hsp
  case inr =>
    rw [decide_eq_false hsp, Bool.not_false] at hlp
    have HLp := Lib.hid hlp
    clear hsp hlp
    go_wp2_with fail
    refine HLp.out.mono ?_
    rintro e w2 ⟨rfl, rfl⟩
    go_wp2_with fail
    go_ret
    exact ⟨rfl, hbw1⟩
  rw [decide_eq_true hsp, Bool.not_true] at hlp
  have HLp := Lib.hid hlp
  have HSp := Lib.hid hsp
  clear hsp hlp
  obtain ⟨c0, c1, c2, c3, c4, c5, c6⟩ := snRow7 (HG.out _ hb1)
  have hls := longSnapD_any s _ w1 (XF.out _ hbw1).2.2
  rcases Decidable.em (shortS s) with hss | hss
  case inr =>
    rw [if_neg hss] at hls
    have HLs := Lib.hid hls
    clear hss hls
    go_wp2_with fail
    refine HLp.out.mono ?_
    rintro e w2 ⟨rfl, rfl⟩
    go_wp2_with fail
    refine HLs.out.mono ?_
    rintro e w2 ⟨rfl, hb2⟩
    go_wp2_with fail
    go_ret
    exact ⟨rfl, hbw1.trans (hb2.mono hbw1.size)⟩
  rw [if_pos hss] at hls
  have HLs := Lib.hid hls
  have HMs := Lib.hid hss.2.mid
  clear hss hls
  go_wp2_with fail
  refine HLp.out.mono ?_
  rintro e w2 ⟨rfl, rfl⟩
  go_wp2_with fail
  refine HLs.out.mono ?_
  rintro e w2 ⟨rfl, hb2⟩
  have hbw2 := hbw1.trans (hb2.mono hbw1.size)
  have hb02 := hb1.trans (hb2.mono hb1.size)
  clear c0 c1 c2 c3 c4 c5 c6 HLp HLs
  have HTa := Lib.hid (tableL_any E B _ l w2 ((X.out _ hbw2).1.sub (by decide)) (XF.out _ hbw2).1 (XF.out _ hbw2).2.1 HSp.out)
  have hTb := TbOk.of (l := l) (fun p hp => (HSp.out.2 p hp).2.2.1) (by have := HSp.out.1; omega)
  have HTn : Hid (l.length ≤ 15) := Lib.hid HSp.out.1
  obtain ⟨t, ht⟩ : ∃ t, tableTb l = t := ⟨_, rfl⟩
  rw [ht] at HTa hTb
  have HTb := Lib.hid hTb
  have HTx : Hid (∀ o ∈ t.1.objs, o.text.length ≤ 10000) := Lib.hid (fun o ho => by have := hTb.txt o ho; omega)
  clear ht hTb
  go_wp2_with fail
  refine HTa.out.mono ?_
  rintro e w3 ⟨sb, mb, xb, vm, u, rfl, htw, hfl⟩
  have hb23 := htw.bel
  have hbw3 := hbw2.trans (hb23.mono hbw2.size)
  have hb03 := hb02.trans (hb23.mono hb02.size)
  have HN : Hid (w.heap.size ≠ sb ∧ w.heap.size ≠ mb ∧ w.heap.size ≠ xb) := Lib.hid (by have h1 := HSz.out; have h2 := htw.h1; have h3 := htw.h2; have h4 := htw.h3; have h5 := hb02.size; omega)
  have HTw := Lib.hid (htw.base hbw2)
  have HFl := Lib.hid hfl
  obtain ⟨au, cu, rfl, -, -⟩ := At.form' hfl
  clear HTa htw hfl hb23
  have hg3 := HG.out _ hb03
  obtain ⟨-, -, -, -, -, -, c6⟩ := snRow7 hg3
  have f6 := frozen_row (i := 6) hg3
  go_upto_if 47 with fail
  go_cut [] (fun wx => ∃ v2 : Value, wx.heap[w.heap.size]? = some (.cells #[.int .i64 (asked s t.2).id, .int .i64 (asked s t.2).parent, .int .i64 (asked s t.2).seq, .int .i64 (asked s t.2).day, .int .i64 (asked s t.2).index, S (asked s t.2).op, v2] 25 (0, 0)) ∧ FilesAt wx v2 (asked s t.2).files ∧ Twin w sb mb xb vm t.1 wx)
  case first =>
    by_cases hz : s.files = []
    case pos =>
      have hz1 : s.files.length = 0 := by rw [hz]; rfl
      have hz2 : ((s.files.length : Int) == 0) = true := by rw [hz1]; rfl
      have hak : asked s t.2 = { s with files := t.2 } := if_pos hz
      have HAk := Lib.hid hak
      have HG3 := Lib.hid hg3
      clear hz hak hg3
      go_wp2_with fail
      go_meet
      rw [HAk.out]
      exact ⟨_, snap_set HG3.out, filesAt_snap HG3.out rfl _ HFl.out, HTw.out.away HG3.out (Nat.le_refl _) HN.out.1 HN.out.2.1 HN.out.2.2 _⟩
    have hz1 : ¬ s.files.length = 0 := fun h => hz (List.eq_nil_of_length_eq_zero h)
    have hz2 : ((s.files.length : Int) == 0) = false := by simp; omega
    have hak : asked s t.2 = s := if_neg hz
    have HAk := Lib.hid hak
    have HG3 := Lib.hid hg3
    clear hz hak hg3
    go_wp2_with fail
    go_meet
    rw [HAk.out]
    exact ⟨_, HG3.out, (XF.out _ hbw3).2.2, HTw.out⟩
  case rest =>
  obtain ⟨v2, hg2, hfl2, htw2⟩ := hcut
  obtain ⟨w4, rfl⟩ : ∃ w4, w4 = wc := ⟨wc, rfl⟩
  have HM2 := Lib.hid (asked_mid (s := s) (l := t.2) HMs.out HTb.out.mid)
  obtain ⟨s2, hs2⟩ : ∃ s2, asked s t.2 = s2 := ⟨_, rfl⟩
  rw [hs2] at hg2 hfl2 HM2
  obtain ⟨a2, c2, rfl, -, -⟩ := At.form' hfl2
  have hbw4 := htw2.bel
  have HGs := Lib.hid (fun W (h : Below w4.heap.size w4 W) => snRow7 (rowKept hg2 h))
  have HFl2 := Lib.hid hfl2
  have HTw2 := Lib.hid htw2
  have HX4 := Lib.hid (fun W (h : Below w4.heap.size w4 W) => X.out W (hbw4.trans (h.mono hbw4.size)))
  clear c6 f6 hg3 hg2 hfl2 htw2 hs2 HG
  have HRo := Lib.hid (fun lo hi W (h : Below w4.heap.size w4 W) => scanRows_any E B sb mb t.1 s2 (.slice a2 s2.files.length c2) lo hi W ((HX4.out W h).1.sub (by decide)) (HX4.out W h).2.1 (HX4.out W h).2.2 (HTw2.out.sto.below h) HTx.out (HFl2.out.below h) HM2.out)
  have HCo := Lib.hid (fun W (h : Below w4.heap.size w4 W) => scanCount_any E B sb mb t.1 s2 (.slice a2 s2.files.length c2) W ((HX4.out W h).1.sub (by decide)) (HX4.out W h).2.1 (HX4.out W h).2.2 (HTw2.out.sto.below h) HTx.out (HFl2.out.below h) HM2.out)
  have HRo1 := Lib.hid (HRo.out iMin iMax w4 (Below.refl _ _))
  obtain ⟨c0, c1, c2', c3, c4, c5, c6⟩ := HGs.out w4 (Below.refl _ _)
  go_wp2_with fail
  refine HRo1.out.mono ?_
  rintro e w5 ⟨u1, ev, rfl, hev, hu1, hb5⟩
  clear c0 c1 c2' c3 c4 c5 c6 HRo1
  have hbw5 := hbw4.trans (hb5.mono hbw4.size)
  by_cases hE : rowsE t.1.objs s2 iMin iMax = .nil
  case neg =>
    rw [rowsL_bad' hE] at hu1
    obtain ⟨t1, x1, rfl⟩ := hev.iface hE
    obtain ⟨a3, c3, rfl, -, -⟩ := At.form' hu1
    clear hE hu1 hev
    simp only [List.length_nil]
    go_wp2_with fail
    go_ret
    exact ⟨rfl, hbw5⟩
  rw [hE] at hev
  obtain rfl : ev = .nilIface := hev
  have HPr := Lib.hid (fun a b => rows_prune (os := t.1.objs) (s := s2) a b hE)
  have hlen := rows_len hE
  obtain ⟨A, hA⟩ : ∃ A, rowsL t.1.objs s2 iMin iMax = A := ⟨_, rfl⟩
  rw [hA] at HPr hu1 hlen
  obtain ⟨a3, c3, rfl, -, -⟩ := At.form' hu1
  have HU1 := Lib.hid hu1
  have hfull := (HPr.out iMin iMax).2
  rw [hA] at hfull
  have HFull := Lib.hid hfull
  clear hu1 hE hA hfull
  obtain ⟨c0, c1, c2', c3', c4, c5, c6⟩ := HGs.out w5 hb5
  have HRo2 := Lib.hid (HRo.out lo hi w5 hb5)
  go_wp2_with fail
  refine HRo2.out.mono ?_
  rintro e w6 ⟨u2, ev, rfl, hev, hu2, hb6⟩
  clear c0 c1 c2' c3' c4 c5 c6 HRo2
  have hb46 := hb5.trans (hb6.mono hb5.size)
  rw [(HPr.out lo hi).1] at hev
  rw [(HPr.out lo hi).2] at hu2
  obtain rfl : ev = .nilIface := hev
  obtain ⟨a4, c4, rfl, -, -⟩ := At.form' hu2
  have HU2 := Lib.hid hu2
  have HWi := Lib.hid (rowWithin_any _ A lo hi w6 (HU1.out.below hb6) (by omega))
  clear hu2
  go_wp2_with fail
  refine HWi.out.mono ?_
  rintro e w7 ⟨v7, rfl, hv7, hb7⟩
  have hb47 := hb46.trans (hb7.mono hb46.size)
  obtain ⟨a7, c7, rfl, -, -⟩ := At.form' (hv7.at encR_enc)
  have hsm := sameRows_any _ _ (withinR A lo hi) (withinR A lo hi) w7 (HU2.out.below hb7) (hv7.at encR_enc)
  rw [decide_eq_true rfl] at hsm
  have HSm := Lib.hid hsm
  clear hv7 hsm
  go_wp2_with fail
  refine HSm.out.mono ?_
  rintro e w8 ⟨rfl, hb8⟩
  have hb48 := hb47.trans (hb8.mono hb47.size)
  have HU8 := Lib.hid (HU1.out.below (hb6.trans ((hb7.trans (hb8.mono hb7.size)).mono hb6.size)))
  clear HWi HSm HU2
  obtain ⟨c0, c1, c2', c3', c4', c5, c6⟩ := HGs.out w8 hb48
  have HRo3 := Lib.hid (HRo.out iMin lo w8 hb48)
  go_wp2_with fail
  refine HRo3.out.mono ?_
  rintro e w9 ⟨u3, ev, rfl, hev, hu3, hb9⟩
  clear c0 c1 c2' c3' c4' c5 c6 HRo3
  have hb49 := hb48.trans (hb9.mono hb48.size)
  rw [(HPr.out iMin lo).1] at hev
  rw [(HPr.out iMin lo).2] at hu3
  obtain rfl : ev = .nilIface := hev
  obtain ⟨a9, c9, rfl, -, -⟩ := At.form' hu3
  have HU3 := Lib.hid hu3
  have HU9 := Lib.hid (HU8.out.below hb9)
  clear hu3 HU8
  by_cases hmx : lo = 9223372036854775807
  case pos =>
    have hsm := sameRows_any _ _ (withinR A iMin lo) A w9 HU3.out HU9.out
    rw [decide_eq_true (by rw [hmx]; exact HFull.out.symm)] at hsm
    have HSm := Lib.hid hsm
    have g1 : (lo == 9223372036854775807) = true := by rw [hmx]; rfl
    clear hsm hmx h1lo h2lo
    go_wp2_with fail
    refine HSm.out.mono ?_
    rintro e wx ⟨rfl, hbx⟩
    go_wp2_with fail
    go_ret
    exact ⟨rfl, (hbw4.trans (hb49.mono hbw4.size)).trans (hbx.mono (hbw4.trans (hb49.mono hbw4.size)).size)⟩
  have g1 : (lo == 9223372036854775807) = false := by simpa using hmx
  have hw1 : wrap64 (lo + 1) = lo + 1 := IntWalk.wrap64_in _ (by omega)
  have hw2 : IntKind.i64.wrap (lo + 1) = lo + 1 := IntWalk.i64_in _ (by omega)
  obtain ⟨c0, c1, c2', c3', c4', c5, c6⟩ := HGs.out w9 hb49
  have HRo4 := Lib.hid (HRo.out (lo + 1) iMax w9 hb49)
  go_wp2_with fail
  refine HRo4.out.mono ?_
  rintro e wA ⟨u4, ev, rfl, hev, hu4, hbA⟩
  clear c0 c1 c2' c3' c4' c5 c6 HRo4
  have hb4A := hb49.trans (hbA.mono hb49.size)
  rw [(HPr.out (lo + 1) iMax).1] at hev
  rw [(HPr.out (lo + 1) iMax).2] at hu4
  obtain rfl : ev = .nilIface := hev
  obtain ⟨aA, cA, rfl, -, -⟩ := At.form' hu4
  have HU4 := Lib.hid hu4
  have hco := HCo.out wA hb4A
  rw [(HPr.out iMin iMax).1] at hco
  rw [(HPr.out iMin iMax).2, ← HFull.out] at hco
  have HCo1 := Lib.hid hco
  obtain ⟨c0, c1, c2', c3', c4', c5, c6⟩ := HGs.out wA hb4A
  clear hu4 hco hw1 hw2
  go_wp2_with fail
  refine HCo1.out.mono ?_
  rintro e wB ⟨ev, rfl, hev, hbB⟩
  clear c0 c1 c2' c3' c4' c5 c6 HCo1
  have hb4B := hb4A.trans (hbB.mono hb4A.size)
  obtain rfl : ev = .nilIface := hev
  have hwl1 := within_len A iMin lo
  have hwl2 := within_len A (lo + 1) iMax
  have HOw := Lib.hid (ownRows_any _ (withinR A iMin lo) wB (HU3.out.below (hbA.trans (hbB.mono hbA.size))) (by omega))
  go_wp2_with fail
  refine HOw.out.mono ?_
  rintro e wC ⟨vC, rfl, hvC, hbC⟩
  have hb4C := hb4B.trans (hbC.mono hb4B.size)
  have hsrc := (HU4.out.below (hbB.trans (hbC.mono hbB.size))).src encR_enc (by decide)
  have HSp2 := Lib.hid (within_split A h1lo h2lo)
  obtain ⟨L1, hL1⟩ : ∃ L1, withinR A iMin lo = L1 := ⟨_, rfl⟩
  obtain ⟨L2, hL2⟩ : ∃ L2, withinR A (lo + 1) iMax = L2 := ⟨_, rfl⟩
  rw [hL1] at hvC hwl1
  rw [hL2] at hsrc hwl2
  rw [hL1, hL2, ← HFull.out] at HSp2
  have HVC := Lib.hid hvC
  have HU9' := Lib.hid (HU9.out.below (hbA.trans ((hbB.trans (hbC.mono hbB.size)).mono hbA.size)))
  rw [hL2]
  clear hL1 hL2 hvC HOw
  go_wp2_with (at_builtin; refine wpList_app rfl _ _ _ rfl wB.heap.size elRw vC L1.length _ rfl HVC.out _ _ _ rfl hsrc (by unfold maxLen; omega) (by omega) hbC.size ?_; intro vD wD hown hgD _)
  have hoD := own_app hown
  have hbBD := Bapp hbC HVC.out hgD (Nat.le_refl _) hbC.size
  have hb4D := hb4B.trans (hbBD.mono hb4B.size)
  have HUD := Lib.hid (HU9.out.below (hbA.trans ((hbB.trans (hbBD.mono hbB.size)).mono hbA.size)))
  obtain ⟨aD, cD, rfl, -, -⟩ := At.form' (hoD.at encR_enc)
  have hsame := rowSame_any _ _ (L1 ++ L2) A wD (hoD.at encR_enc) HUD.out (by rw [List.length_append]; omega) (by omega)
  rw [decide_eq_true (sort_eq.2 HSp2.out)] at hsame
  have HSame := Lib.hid hsame
  clear hown hgD hoD hsame hsrc
  go_wp2_with fail
  refine HSame.out.mono ?_
  rintro e wE ⟨rfl, hbE⟩
  have hb4E := hb4D.trans (hbE.mono hb4D.size)
  go_wp2_with fail
  go_ret
  exact ⟨rfl, hbw4.trans (hb4E.mono hbw4.size)⟩
end Go.Proofs.YtefoaeamfkbgbaaGreatDoor
namespace Go.Proofs.YtefoaeamfkbgbaaGreatDoor
open Go.RowKit Go.ChangeShapes Go.WideShapes

def errName : Nat → String
  | 1 => "deedbox/api.ErrText" | 2 => "deedbox/api.ErrBound" | 3 => "deedbox/api.ErrShape" | 4 => "deedbox/api.ErrKind" | 5 => "deedbox/api.ErrName" | 6 => "deedbox/api.ErrNone"
  | 7 => "deedbox/api.ErrExist" | 8 => "deedbox/api.ErrFull" | 9 => "deedbox/api.ErrOrder" | 10 => "deedbox/api.ErrSum" | 11 => "deedbox/api.ErrStale" | _ => "deedbox/api.ErrOff"
theorem errName_inj : ∀ c ∈ allE, ∀ d ∈ allE, errName c = errName d → c = d := by decide

theorem laidVars_get {P : Program} {w : World} : ∀ {L : List (String × DataW Unit)} {ps : List MemPlace} {i : Nat} {n : String} {d : DataW Unit}, DataW.LaidVars P w L ps → L[i]? = some (n, d) →
    ∃ g t cs fuel p, P.globalNamed n = some g ∧ (P.globals[g]?).map (·.type) = some t ∧ w.var? P n = some cs ∧ DataW.trod (fun _ => ()) P w 0 (fun _ => true) false fuel t cs.toList = some (d, p) ∧ ∀ x ∈ MemPlace.row ⟨g, 0, none⟩ cs.size ++ p, x ∈ ps
  | [], _, i, n, d, _, hi => by simp at hi
  | (n0, d0) :: r, ps, 0, n, d, h, hi => by
    obtain ⟨g, t, cs, fuel, p, q, h1, h2, h3, h4, _, rfl⟩ := h
    simp only [List.getElem?_cons_zero, Option.some.injEq, Prod.mk.injEq] at hi
    obtain ⟨rfl, rfl⟩ := hi
    exact ⟨g, t, cs, fuel, p, h1, h2, h3, h4, fun x hx => List.mem_append_left _ hx⟩
  | (n0, d0) :: r, ps, i + 1, n, d, h, hi => by
    obtain ⟨g, t, cs, fuel, p, q, _, _, _, _, h5, rfl⟩ := h
    obtain ⟨g', t', cs', fuel', p', h1, h2, h3, h4, h6⟩ := laidVars_get h5 (by simpa using hi)
    exact ⟨g', t', cs', fuel', p', h1, h2, h3, h4, fun x hx => List.mem_append_right _ (h6 x hx)⟩

theorem laidVars_apart {P : Program} {w : World} : ∀ {L : List (String × DataW Unit)} {ps : List MemPlace} {i j : Nat} {n m : String} {d e : DataW Unit}, DataW.LaidVars P w L ps → ps.Nodup → i < j → L[i]? = some (n, d) → L[j]? = some (m, e) →
    ∃ (g : Nat) (t : TypeId) (cs : Array Value) (fuel : Nat) (p : List MemPlace) (g' : Nat) (t' : TypeId) (cs' : Array Value) (fuel' : Nat) (p' : List MemPlace), P.globalNamed n = some g ∧ (P.globals[g]?).map (·.type) = some t ∧ w.var? P n = some cs ∧ DataW.trod (fun _ => ()) P w 0 (fun _ => true) false fuel t cs.toList = some (d, p) ∧
      P.globalNamed m = some g' ∧ (P.globals[g']?).map (·.type) = some t' ∧ w.var? P m = some cs' ∧ DataW.trod (fun _ => ()) P w 0 (fun _ => true) false fuel' t' cs'.toList = some (e, p') ∧ ∀ x ∈ p, x ∉ p'
  | [], _, i, j, n, m, d, e, _, _, _, hi, _ => by simp at hi
  | (n0, d0) :: r, ps, 0, j + 1, n, m, d, e, h, hnd, _, hi, hj => by
    obtain ⟨g, t, cs, fuel, p, q, h1, h2, h3, h4, h5, rfl⟩ := h
    simp only [List.getElem?_cons_zero, Option.some.injEq, Prod.mk.injEq] at hi
    obtain ⟨rfl, rfl⟩ := hi
    obtain ⟨g', t', cs', fuel', p', h1', h2', h3', h4', h6⟩ := laidVars_get h5 (by simpa using hj)
    refine ⟨g, t, cs, fuel, p, g', t', cs', fuel', p', h1, h2, h3, h4, h1', h2', h3', h4', fun x hx hx' => ?_⟩
    have hd := (List.nodup_append.1 hnd).2.2
    exact hd x (List.mem_append_right _ hx) x (h6 x (List.mem_append_right _ hx')) rfl
  | (n0, d0) :: r, ps, i + 1, j + 1, n, m, d, e, h, hnd, hij, hi, hj => by
    obtain ⟨g, t, cs, fuel, p, q, _, _, _, _, h5, rfl⟩ := h
    exact laidVars_apart (i := i) (j := j) h5 (List.nodup_append.1 hnd).2.1 (by omega) (by simpa using hi) (by simpa using hj)
  | _ :: _, _, _, 0, _, _, _, _, _, _, hij, _, _ => by omega

/-- Behind what address a variable's error lies. -/
noncomputable def addrOf (W : World) (c : Nat) : Addr :=
  match W.var? Tryz.prog (errName c) with
  | some #[.iface _ (.pointer (some a))] => a
  | _ => ⟨0, 0, none⟩

theorem gn1 : Tryz.prog.globalNamed (errName 1) = some (errG 1) := by kernel_rfl
theorem gn2 : Tryz.prog.globalNamed (errName 2) = some (errG 2) := by kernel_rfl
theorem gn3 : Tryz.prog.globalNamed (errName 3) = some (errG 3) := by kernel_rfl
theorem gn4 : Tryz.prog.globalNamed (errName 4) = some (errG 4) := by kernel_rfl
theorem gn5 : Tryz.prog.globalNamed (errName 5) = some (errG 5) := by kernel_rfl
theorem gn6 : Tryz.prog.globalNamed (errName 6) = some (errG 6) := by kernel_rfl
theorem gn7 : Tryz.prog.globalNamed (errName 7) = some (errG 7) := by kernel_rfl
theorem gn8 : Tryz.prog.globalNamed (errName 8) = some (errG 8) := by kernel_rfl
theorem gn9 : Tryz.prog.globalNamed (errName 9) = some (errG 9) := by kernel_rfl
theorem gn10 : Tryz.prog.globalNamed (errName 10) = some (errG 10) := by kernel_rfl
theorem gn11 : Tryz.prog.globalNamed (errName 11) = some (errG 11) := by kernel_rfl
theorem gn12 : Tryz.prog.globalNamed (errName 12) = some (errG 12) := by kernel_rfl
theorem gt1 : (Tryz.prog.globals[errG 1]?).map (·.type) = some 35 := by kernel_rfl
theorem gt2 : (Tryz.prog.globals[errG 2]?).map (·.type) = some 35 := by kernel_rfl
theorem gt3 : (Tryz.prog.globals[errG 3]?).map (·.type) = some 35 := by kernel_rfl
theorem gt4 : (Tryz.prog.globals[errG 4]?).map (·.type) = some 35 := by kernel_rfl
theorem gt5 : (Tryz.prog.globals[errG 5]?).map (·.type) = some 35 := by kernel_rfl
theorem gt6 : (Tryz.prog.globals[errG 6]?).map (·.type) = some 35 := by kernel_rfl
theorem gt7 : (Tryz.prog.globals[errG 7]?).map (·.type) = some 35 := by kernel_rfl
theorem gt8 : (Tryz.prog.globals[errG 8]?).map (·.type) = some 35 := by kernel_rfl
theorem gt9 : (Tryz.prog.globals[errG 9]?).map (·.type) = some 35 := by kernel_rfl
theorem gt10 : (Tryz.prog.globals[errG 10]?).map (·.type) = some 35 := by kernel_rfl
theorem gt11 : (Tryz.prog.globals[errG 11]?).map (·.type) = some 35 := by kernel_rfl
theorem gt12 : (Tryz.prog.globals[errG 12]?).map (·.type) = some 35 := by kernel_rfl
theorem starE : "*" ++ "errors.errorString" = "*errors.errorString" := by decide
theorem rowE (u : TypeId) (h : Tryz.prog.typeName? 3 u = some "*errors.errorString") : u = 335 :=
  typeName_ptr_named (nm := "errors.errorString") (by rw [starE]; kernel_rfl) (by kernel_rfl) (by decide) u (by rw [starE]; exact h)
theorem cellsErrStr : Tryz.prog.cellsOf 337 = 1 := by kernel_rfl
theorem cellsStr : Tryz.prog.cellsOf 9 = 1 := by kernel_rfl

set_option maxRecDepth 100000 in
/-- WHAT THE CONDITION GIVES THE WALKS: the sentinels of the numbers D, where the list L bears each at the place idx says. -/
theorem errs_of_laid {L : List (String × DataW Unit)} {W : World} (h : laidMet Tryz.prog L W) (D : List Nat) (idx : Nat → Nat) (hD : ∀ c ∈ D, c ∈ allE)
    (hg : ∀ c ∈ D, Tryz.prog.globalNamed (errName c) = some (errG c)) (ht : ∀ c ∈ D, (Tryz.prog.globals[errG c]?).map (·.type) = some 35)
    (hL : ∀ c ∈ D, ∃ text, L[idx c]? = some (errName c, .iface "*errors.errorString" (.ptr (.agg [.lit (.string text)])))) :
    Errs D (addrOf W) W.heap.size W := by
  obtain ⟨ps, hv, hnd, hrows⟩ := h
  have key : ∀ c ∈ D, ∀ {g t cs fuel p text}, Tryz.prog.globalNamed (errName c) = some g → (Tryz.prog.globals[g]?).map (·.type) = some t → W.var? Tryz.prog (errName c) = some cs →
      DataW.trod (fun _ => ()) Tryz.prog W 0 (fun _ => true) false fuel t cs.toList = some (.iface "*errors.errorString" (.ptr (.agg [.lit (.string text)])), p) → (∀ x ∈ MemPlace.row ⟨g, 0, none⟩ cs.size, x ∈ ps) →
      W.cell? ⟨errG c, 0, none⟩ = some (.iface 335 (.pointer (some (addrOf W c)))) ∧ (∃ s, W.cell? (addrOf W c) = some (.string s)) ∧ p = MemPlace.row (addrOf W c) 1 := by
    intro c hc g t cs fuel p text h1 h2 h3 h4 h5
    obtain rfl := Option.some.inj ((hg c hc).symm.trans h1)
    obtain rfl := Option.some.inj ((ht c hc).symm.trans h2)
    obtain ⟨l0⟩ := cs
    have ok0 : ∀ u v, l0 = [.iface u v] → Value.okWide Tryz.prog W .any 0 u v := fun u v e => by
      subst e
      exact (hrows (errG c) 0 (h5 _ (by simp [MemPlace.row]))).2 u v (by simpa using World.var?_cell h1 h3 0)
    obtain ⟨a0, s0, rfl, hc0, hs0, hz0, rfl⟩ := errorString_of_trod Tryz.underlying35 rowE Tryz.underlying335 Tryz.underlying337 rfl rfl Tryz.underlying9 cellsErrStr cellsStr h4 ok0
    have ea : addrOf W c = a0 := by
      unfold addrOf
      rw [h3]
      exact rfl
    refine ⟨?_, ⟨s0, by rw [ea]; exact hc0⟩, by rw [ea]⟩
    rw [ea]
    simpa using World.var?_cell h1 h3 0
  have get : ∀ c ∈ D, W.cell? ⟨errG c, 0, none⟩ = some (.iface 335 (.pointer (some (addrOf W c)))) ∧ (∃ s, W.cell? (addrOf W c) = some (.string s)) ∧ MemPlace.cell (addrOf W c).block (addrOf W c).off ∈ ps := by
    intro c hc
    obtain ⟨text, hl⟩ := hL c hc
    obtain ⟨g, t, cs, fuel, p, h1, h2, h3, h4, h5⟩ := laidVars_get hv hl
    obtain ⟨k1, k2, rfl⟩ := key c hc h1 h2 h3 h4 (fun x hx => h5 x (List.mem_append_left _ hx))
    exact ⟨k1, k2, h5 _ (List.mem_append_right _ (by simp [MemPlace.row]))⟩
  have apart : ∀ c ∈ D, ∀ d ∈ D, idx c < idx d → addrOf W c ≠ addrOf W d := by
    intro c hc d hd hlt he
    obtain ⟨t1, hl1⟩ := hL c hc
    obtain ⟨t2, hl2⟩ := hL d hd
    obtain ⟨g, t, cs, fuel, p, g', t', cs', fuel', p', a1, a2, a3, a4, b1, b2, b3, b4, hap⟩ := laidVars_apart hv hnd hlt hl1 hl2
    obtain ⟨g0, t0, cs0, f0, p0, u1, u2, u3, u4, u5⟩ := laidVars_get hv hl1
    obtain ⟨g0', t0', cs0', f0', p0', v1, v2, v3, v4, v5⟩ := laidVars_get hv hl2
    obtain rfl := Option.some.inj (a1.symm.trans u1)
    obtain rfl := Option.some.inj (a3.symm.trans u3)
    obtain rfl := Option.some.inj (b1.symm.trans v1)
    obtain rfl := Option.some.inj (b3.symm.trans v3)
    obtain ⟨_, _, rfl⟩ := key c hc a1 a2 a3 a4 (fun x hx => u5 x (List.mem_append_left _ hx))
    obtain ⟨_, _, rfl⟩ := key d hd b1 b2 b3 b4 (fun x hx => v5 x (List.mem_append_left _ hx))
    rw [he] at hap
    exact hap (.cell (addrOf W d).block (addrOf W d).off) (by simp [MemPlace.row]) (by simp [MemPlace.row])
  refine ⟨fun c hc => (get c hc).1, fun c hc => (hrows _ _ (get c hc).2.2).1, fun c hc => ?_, fun c hc d hd he => ?_, Nat.le_refl _⟩
  · obtain ⟨k1, ⟨s, k2⟩, _⟩ := get c hc
    exact ⟨World.block_lt_of_cell? W _ k2, World.block_lt_of_cell? W ⟨errG c, 0, none⟩ k1⟩
  · rcases Nat.lt_trichotomy (idx c) (idx d) with h | h | h
    · exact absurd he (apart c hc d hd h)
    · obtain ⟨t1, hl1⟩ := hL c hc
      obtain ⟨t2, hl2⟩ := hL d hd
      rw [h, hl2] at hl1
      have : errName d = errName c := by simpa using congrArg (fun x => x.1) (Option.some.inj hl1)
      exact errName_inj c (hD c hc) d (hD d hd) this.symm
    · exact absurd he.symm (apart d hd c hc h)

theorem etG : Tryz.prog.globalNamed "errors.errorType" = some 12 := by kernel_rfl
theorem rtT : (Tryz.prog.cutTypes.find? (·.1 == "internal/reflectlite.rtype")).map (·.2) = some 269 := by kernel_rfl
theorem oneRowE : ((List.range 364).filter fun t => Tryz.prog.rowNamed t [101, 114, 114, 111, 114]) = [35] := by kernel_rfl
theorem typesSize : Tryz.prog.types.size = 364 := by kernel_rfl
theorem asVar_of_laid {L : List (String × DataW Unit)} {W : World} (h : handlesMet Tryz.prog L W) (hm : ("errors.errorType", .iface "internal/reflectlite.rtype" (.agg [.ptr (.lit (.string [101, 114, 114, 111, 114]))])) ∈ L) : AsVar W := by
  obtain ⟨name, u, ty, e1, e2, e3, e4, e5⟩ := h _ hm
  have en : name = [101, 114, 114, 111, 114] := (Option.some.inj e1).symm
  subst en
  obtain rfl := Option.some.inj (rtT.symm.trans e2)
  have hm : ty ∈ (List.range 364).filter fun t => Tryz.prog.rowNamed t [101, 114, 114, 111, 114] := List.mem_filter.2 ⟨List.mem_range.2 (by rw [← typesSize]; exact e3), e4⟩
  rw [oneRowE] at hm
  obtain rfl := List.mem_singleton.1 hm
  have hh : typeHandle Tryz.prog 35 = .pointer (some ⟨21, 35, none⟩) := by kernel_rfl
  rw [hh] at e5
  have := World.var?_cell etG e5 0
  unfold AsVar
  simpa using this
end Go.Proofs.YtefoaeamfkbgbaaGreatDoor
namespace Go.Proofs.YtefoaeamfkbgbaaGreatDoor
open Go.ChangeShapes Go.WideShapes Go.ChangeAt Go.RowKit

theorem handed_both {H : Type} {enc : TypeId × Value → H} {a : Assume} {C : Checked} {os : Os} {f : FuncId} {fn : Func} {s : ChangeSpec} {conds : List PathCond} {apart fresh handsOn again : Bool} {X : World → Array Value → Prop}
    (hX : ∀ (w w' : World) (args : Array Value), w.heap = w'.heap → X w args → X w' args)
    (own : ownKnob C.prog.godebug = none) (started : os.Started) (noInit : C.prog.inits.idxOf? f = none) (hfn : C.prog.funcs[f]? = some fn)
    (witness : ∃ (w : World) (tape : Tape) (i : Input), w.os = os ∧ (w.forCall tape i).Shaped C.prog ∧ i.vars = [] ∧ Input.okWide C.prog (w.forCall tape i) .any w.heap.size f i ∧
      ((s.pre enc C.prog fn conds apart (w.forCall tape i).memory i.args ∧ X (w.forCall tape i).memory i.args) ∧ sizedMet enc C.prog fn (OpenSpec.ofChange s) apart (w.forCall tape i).memory i.args) ∧ a.holds C.prog (lone (Frame.enter C.prog f i.args .normal) [] (w.forCall tape i)))
    (contract : ∀ (W : World) (base : Nat) (args : Array Value) (ds gs : List (DataW H)) (before : List MemPlace),
      (∀ (j : Nat) t v, fn.params[j]? = some t → args[j]? = some v → Value.okWide C.prog W .any base t v) →
      DataW.Whole enc C.prog fn.params.toList s.vars apart W args.toList ds gs before → X W args → W.ShapedOpen C.prog →
      Calls C.prog f args W fun e W' => ∃ v, e = .returned v ∧ s.post enc C.prog fn apart fresh handsOn again W args v W') :
    ReturnsInHanded a C os f .any (fun w args => (s.pre enc C.prog fn conds apart w args ∧ X w args) ∧ sizedMet enc C.prog fn (OpenSpec.ofChange s) apart w args) (s.post enc C.prog fn apart fresh handsOn again) := by
  refine returnsInHanded_of_calls own started noInit witness ?_
  intro w tape i _ hsh _ hok hpre _
  obtain ⟨_, _, _, fn', hfn', _, _, _, _, hval⟩ := hok
  have e : fn' = fn := Option.some.inj (hfn'.symm.trans hfn)
  subst e
  obtain ⟨⟨⟨ds, gs, before, hw, hc⟩, hx⟩, hz⟩ := hpre
  have hw' := DataW.Whole.of_heap (w' := w.forCall tape i) (by rfl) hw
  refine (contract (w.forCall tape i) w.heap.size i.args ds gs before hval hw' (hX _ _ _ (by rfl) hx) hsh).mono fun e W' ⟨v, he, hp⟩ => ?_
  subst he
  exact ChangeSpec.post_blind hp

theorem cellsInt : Tryz.prog.cellsOf 3 = 1 := by kernel_rfl
theorem laidOut : laidOutB Tryz.prog = true := by kernel_rfl

set_option maxRecDepth 100000 in
/-- A slice of numbers that came in. -/
theorem ints_came {H : Type} {enc : TypeId × Value → H} {W : World} {base : Nat} {sp : Nat → Bool} {v : Value} {d : DataW H} {p : List MemPlace} (hv : Value.okWide Tryz.prog W .any base 26 v)
    (h : DataW.Trod enc Tryz.prog W 0 sp true 26 v d p) : ∃ l, IntsAt W v l ∧ ∀ x ∈ l, (Lit.int .i64 x).wf = true := by
  obtain ⟨a0, len, cap, rfl⟩ := okWide_slice Tryz.underlying26 hv
  obtain ⟨fuel, hf⟩ := h
  rcases open_ints Tryz.underlying26 Tryz.underlying3 cellsInt hf with ⟨hcs, hx⟩ | ⟨a, len', cap', zs, hcs, _, hl, hm, hz, hx, hcell, hwz⟩
  · simp [Value.cells] at hcs
    obtain ⟨rfl, rfl, rfl⟩ := hcs
    exact ⟨[], At.nil _ _ _, fun _ h => by cases h⟩
  · simp [Value.cells] at hcs
    obtain ⟨rfl, rfl, rfl⟩ := hcs
    have hzl : len ≤ zs.length := by split at hz <;> omega
    have hlen : (zs.take len).length = len := by rw [List.length_take]; omega
    refine ⟨zs.take len, ⟨some a, cap, a.block, a.off, by rw [hlen], fun h0 => ?_, by rw [hlen]; exact hl, hm, fun k x hk j u hu => ?_⟩, fun x hx => hwz x (List.mem_of_mem_take hx)⟩
    · obtain ⟨b, off, spot⟩ := a
      have hs : spot = none := by simpa [Addr.add] using World.cell?_spot (hcell 0 (by omega))
      subst hs; rfl
    · obtain rfl : j = 0 := by
        rcases Nat.eq_zero_or_pos j with h | h
        · exact h
        · rw [List.getElem?_eq_none (by simp; omega)] at hu; cases hu
      obtain rfl : .int .i64 x = u := by simpa using hu
      have hk' : k < len := by
        rcases Nat.lt_or_ge k len with h | h
        · exact h
        · rw [List.getElem?_eq_none (by omega)] at hk; cases hk
      have hc := hcell k (by omega)
      have hx : zs.getD k 0 = x := by
        rw [List.getElem?_take_of_lt hk'] at hk
        simp [List.getD, hk]
      rw [hx] at hc
      obtain ⟨b, off, spot⟩ := a
      have hs : spot = none := by simpa [Addr.add] using World.cell?_spot (hcell 0 (by omega))
      subst hs
      have hadd : (⟨b, off, none⟩ : Addr).add k = ⟨b, off + k, none⟩ := by
        unfold Addr.add; split <;> simp_all
      rw [hadd] at hc
      simpa using hc

theorem global_lt {P : Program} {W : World} {g : Nat} (h : W.ShapedOpen P) (hg : g < P.globals.size) (h0 : (((begin P (fun _ _ => 0) default).world.heap[g]?).bind Obj.row?).isSome = true) : g < W.heap.size := by
  obtain ⟨⟨zero, t⟩, hx⟩ := Option.isSome_iff_exists.1 h0
  obtain ⟨cs, hh, _⟩ := h.1 g zero t hg hx
  exact (Array.getElem?_eq_some_iff.1 hh).1
theorem lastG : ((((begin Tryz.prog (fun _ _ => 0) default).world.heap[21 - 1]?).bind Obj.row?).isSome) = true := by kernel_rfl
theorem globals_le {W : World} (h : W.ShapedOpen Tryz.prog) : 21 ≤ W.heap.size := by
  have := global_lt h (g := 21 - 1) (of_decide_eq_true (by kernel_rfl)) lastG
  omega
theorem max_begin : ((begin Tryz.prog (fun _ _ => 0) default).world.heap[14]?).bind Obj.row? = some (#[.int .i64 0], 3) := by kernel_rfl
theorem lmax_of {W : World} (h : W.ShapedOpen Tryz.prog) : LMax W.heap.size W :=
  ⟨cell_of_shapedOpen_int (g := 14) (t := 3) h (of_decide_eq_true (by kernel_rfl)) max_begin rfl (by kernel_rfl) (by kernel_rfl) Tryz.underlying3, globals_le h, Nat.le_refl _⟩

theorem tabT : (Tryz.prog.globals[13]?).map (·.type) = some 294 := by kernel_rfl
theorem synG : Tryz.prog.globalNamed "strconv.ErrSyntax" = some 19 := by kernel_rfl
theorem synT : (Tryz.prog.globals[19]?).map (·.type) = some 35 := by kernel_rfl
theorem rngG : Tryz.prog.globalNamed "strconv.ErrRange" = some 20 := by kernel_rfl
theorem rngT : (Tryz.prog.globals[20]?).map (·.type) = some 35 := by kernel_rfl
theorem cells20 : Tryz.prog.cellsOf 294 = 20 := by kernel_rfl
theorem cellsU64 : Tryz.prog.cellsOf 206 = 1 := by kernel_rfl
theorem under20 : Tryz.prog.underlying 294 = some (.array 20 206) := by kernel_rfl
theorem underU64 : Tryz.prog.underlying 206 = some (.int .u64) := by kernel_rfl

theorem iface_laid {W : World} {L : List (String × DataW Unit)} {ps : List MemPlace} {i g : Nat} {n nm : String} {d : DataW Unit} (hv : DataW.LaidVars Tryz.prog W L ps) (hi : L[i]? = some (n, .iface nm d)) (hg : Tryz.prog.globalNamed n = some g) (ht : (Tryz.prog.globals[g]?).map (·.type) = some 35) :
    ∃ te pe, W.cell? ⟨g, 0, none⟩ = some (.iface te pe) := by
  obtain ⟨g', t, cs, fuel, p, h1, h2, h3, h4, h5⟩ := laidVars_get hv hi
  obtain rfl := Option.some.inj (hg.symm.trans h1)
  obtain rfl := Option.some.inj (ht.symm.trans h2)
  obtain ⟨l0⟩ := cs
  obtain ⟨f1, u, v, rfl, _, _⟩ := iface_of_trod Tryz.underlying35 h4
  exact ⟨u, v, by simpa using World.var?_cell hg h3 0⟩

theorem lnum_of {W : World} {L : List (String × DataW Unit)} {i j k : Nat} {n1 n2 : String} {d1 d2 : DataW Unit} (h : laidMet Tryz.prog L W) (hsh : W.ShapedOpen Tryz.prog) (hi : L[i]? = some ("internal/strconv.uint64pow10", Lib.tabData .u64 Lib.pow10Tab))
    (hj : L[j]? = some ("strconv.ErrSyntax", .iface n1 d1)) (hk : L[k]? = some ("strconv.ErrRange", .iface n2 d2)) : LNum W.heap.size W := by
  obtain ⟨ps, hv, _, _⟩ := h
  refine ⟨?_, iface_laid hv hj synG synT, iface_laid hv hk rngG rngT, globals_le hsh, Nat.le_refl _⟩
  obtain ⟨g', t, cs, fuel, p, h1, h2, h3, h4, h5⟩ := laidVars_get hv hi
  obtain rfl := Option.some.inj (pow10G.symm.trans h1)
  obtain rfl := Option.some.inj (tabT.symm.trans h2)
  unfold Lib.TabIs
  rw [h3, ← Lib.cells_of_tab under20 underU64 cellsU64 cells20 h4]
end Go.Proofs.YtefoaeamfkbgbaaGreatDoor
namespace Go.Proofs.YtefoaeamfkbgbaaGreatDoor
open Go.ChangeShapes Go.WideShapes Go.ChangeAt Go.RowKit

theorem some_ix {α : Type} {l : List α} {n k : Nat} (h : l.length = n) (hk : k < n) : ∃ x, l[k]? = some x := ⟨l[k]'(by omega), by simp [h, hk]⟩
theorem six_of {α : Type} : ∀ {l : List α}, l.length = 6 → ∃ a b c d e f, l = [a, b, c, d, e, f]
  | [a, b, c, d, e, f], _ => ⟨a, b, c, d, e, f, rfl⟩

set_option maxRecDepth 100000 in
/-- The slice's cells, by its elements' own reading. -/
theorem slice_came {H : Type} {enc : TypeId × Value → H} {W : World} {base fuel : Nat} {sp : Nat → Bool} {held : Bool} {cs : List Value} {y : DataW H × List MemPlace} {α : Type} (en : α → List Value) (sz : Nat) (hsz : 0 < sz) (tS tE : TypeId) (hu : Tryz.prog.underlying tS = some (.slice tE)) (hc : Tryz.prog.cellsOf tE = sz)
    (Pr : α → Prop) (one : ∀ (fuel : Nat) (sp : Nat → Bool) (held : Bool) (cs : List Value) (y : DataW H × List MemPlace), DataW.trod enc Tryz.prog W base sp held fuel tE cs = some y → ∃ x : α, cs = en x ∧ (en x).length = sz ∧ Pr x)
    (hf : DataW.trod enc Tryz.prog W base sp held fuel tS cs = some y) : ∃ v l, cs = [v] ∧ At en sz W v l ∧ ∀ x ∈ l, Pr x := by
  rcases DataW.trod_slice hu hf with ⟨hcs, hx⟩ | ⟨a, len', cap', elems, rest, n, _, hcs, _, _, hl, hm, hlen, hel, _, _⟩
  · exact ⟨_, [], hcs, At.nil _ _ _, fun _ h => by cases h⟩
  · refine ⟨.slice (some a) len' cap', ?_⟩
    rcases Nat.eq_zero_or_pos len' with rfl | hpos
    · exact ⟨[], hcs, ⟨some a, cap', 0, 0, rfl, fun h => absurd h (by simp), by simp, hm, fun k x h => by simp at h⟩, fun _ h => by cases h⟩
    obtain ⟨b, off, spot⟩ := a
    have hsp : spot = none := by
      have h1 := hel 0 hpos
      obtain ⟨y, hy⟩ := some_ix hlen hpos
      rw [hy, hc, Option.bind_eq_some_iff] at h1
      obtain ⟨cs, hcl, ht⟩ := h1
      obtain ⟨x, rfl, hxl, _⟩ := one _ _ _ _ _ ht
      obtain ⟨_, _, hcc⟩ := World.cells?_some hcl
      obtain ⟨u, hu0⟩ := some_ix hxl hsz
      have := hcc 0 hsz
      rw [hu0] at this
      have := World.cell?_spot this
      simpa [Addr.add] using this
    subst hsp
    have each : ∀ i, i < len' → ∃ x : α, (∀ j u, (en x)[j]? = some u → W.cell? ((⟨b, off, none⟩ : Addr).add (i * sz + j)) = some u) ∧ Pr x := by
      intro i hi
      have h1 := hel i hi
      obtain ⟨y, hy⟩ := some_ix hlen hi
      rw [hy, hc, Option.bind_eq_some_iff] at h1
      obtain ⟨cs, hcl, ht⟩ := h1
      obtain ⟨x, rfl, hxl, hp⟩ := one _ _ _ _ _ ht
      obtain ⟨_, _, hcc⟩ := World.cells?_some hcl
      refine ⟨x, fun j u hu => ?_, hp⟩
      have hj : j < sz := by
        rcases Nat.lt_or_ge j sz with h | h
        · exact h
        · rw [List.getElem?_eq_none (by omega)] at hu; cases hu
      have := hcc j hj
      rw [hu] at this
      rw [add_lit] at this
      rw [add_lit] at this
      rw [add_lit, ← Nat.add_assoc]
      exact this
    have build : ∀ m, m ≤ len' → ∃ l : List α, l.length = m ∧ (∀ k x, l[k]? = some x → ∀ j u, (en x)[j]? = some u → W.cell? ((⟨b, off, none⟩ : Addr).add (k * sz + j)) = some u) ∧ ∀ x ∈ l, Pr x := by
      intro m
      induction m with
      | zero => exact fun _ => ⟨[], rfl, fun k x h => by simp at h, fun _ h => by cases h⟩
      | succ m ih =>
        intro hm
        obtain ⟨l, h1, h2, h3⟩ := ih (by omega)
        obtain ⟨x, hx, hn⟩ := each m (by omega)
        refine ⟨l ++ [x], by simp [h1], fun k z hk j u hu => ?_, fun z hz => ?_⟩
        · rcases Nat.lt_or_ge k l.length with h | h
          · rw [List.getElem?_append_left h] at hk
            exact h2 k z hk j u hu
          · have hk' := (List.getElem?_eq_some_iff.1 hk).1
            rw [List.length_append, List.length_singleton] at hk'
            obtain rfl : k = l.length := by omega
            rw [List.getElem?_append_right (Nat.le_refl _), Nat.sub_self] at hk
            simp at hk
            subst hk
            rw [h1]
            exact hx j u hu
        · rcases List.mem_append.1 hz with h | h
          · exact h3 z h
          · simp at h; subst h; exact hn
    obtain ⟨l, h1, h2, h3⟩ := build len' (Nat.le_refl _)
    refine ⟨l, hcs, ⟨_, cap', b, off, by rw [h1], fun _ => rfl, by rw [h1]; exact hl, hm, fun k x hk j u hu => ?_⟩, h3⟩
    have := h2 k x hk j u hu
    rw [add_lit, ← Nat.add_assoc] at this
    exact this

set_option maxRecDepth 100000 in
/-- The same, of a parameter. -/
theorem param_came {H : Type} {enc : TypeId × Value → H} {W : World} {base : Nat} {sp : Nat → Bool} {v : Value} {d : DataW H} {p : List MemPlace} {α : Type} (en : α → List Value) (sz : Nat) (hsz : 0 < sz) (tS tE : TypeId) (hu : Tryz.prog.underlying tS = some (.slice tE)) (hc : Tryz.prog.cellsOf tE = sz)
    (Pr : α → Prop) (one : ∀ (fuel : Nat) (sp : Nat → Bool) (held : Bool) (cs : List Value) (y : DataW H × List MemPlace), DataW.trod enc Tryz.prog W 0 sp held fuel tE cs = some y → ∃ x : α, cs = en x ∧ (en x).length = sz ∧ Pr x)
    (hv : Value.okWide Tryz.prog W .any base tS v) (h : DataW.Trod enc Tryz.prog W 0 sp true tS v d p) : ∃ l, At en sz W v l ∧ ∀ x ∈ l, Pr x := by
  obtain ⟨a0, len, cap, rfl⟩ := okWide_slice hu hv
  obtain ⟨fuel, hf⟩ := h
  obtain ⟨v, l, hcs, ha, hp⟩ := slice_came en sz hsz tS tE hu hc Pr one hf
  simp [Value.cells] at hcs
  subst hcs
  exact ⟨l, ha, hp⟩

theorem str_of_trod {H : Type} {enc : TypeId × Value → H} {W : World} {base fuel : Nat} {sp : Nat → Bool} {held : Bool} {cs : List Value} {y : DataW H × List MemPlace} (h : DataW.trod enc Tryz.prog W base sp held fuel 9 cs = some y) :
    ∃ s : Str, cs = encS s := by
  obtain ⟨s, h0, _, _⟩ := DataW.trod_string Tryz.underlying9 h
  exact ⟨s.data.toList, by rw [h0]⟩
theorem cellsFile : Tryz.prog.cellsOf 44 = 6 := by kernel_rfl
theorem cellsStrF : Tryz.prog.cellsOf 9 = 1 := by kernel_rfl
/-- An integer's bounds. -/
def inI (n : Int) : Prop := -9223372036854775808 ≤ n ∧ n ≤ 9223372036854775807
def FileWf (x : Fl) : Prop := inI x.n ∧ inI x.lo ∧ inI x.hi ∧ inI x.seq
/-- One file, read. -/
theorem file_of_trod {H : Type} {enc : TypeId × Value → H} {W : World} {base fuel : Nat} {sp : Nat → Bool} {held : Bool} {cs : List Value} {y : DataW H × List MemPlace} (h : DataW.trod enc Tryz.prog W base sp held fuel 44 cs = some y) :
    ∃ x : Fl, cs = encF x ∧ (encF x).length = 6 ∧ FileWf x := by
  obtain ⟨xs, n, _, _, hl, hxs, hf⟩ := DataW.trod_struct Tryz.underlying44 h
  rw [cellsFile] at hl
  obtain ⟨c0, c1, c2, c3, c4, c5, rfl⟩ := six_of hl
  have f0 := hf 0 _ rfl
  have f1 := hf 1 _ rfl
  have f2 := hf 2 _ rfl
  have f3 := hf 3 _ rfl
  have f4 := hf 4 _ rfl
  have f5 := hf 5 _ rfl
  obtain ⟨x0, e0⟩ := some_ix hxs (k := 0) (by decide)
  obtain ⟨x1, e1⟩ := some_ix hxs (k := 1) (by decide)
  obtain ⟨x2, e2⟩ := some_ix hxs (k := 2) (by decide)
  obtain ⟨x3, e3⟩ := some_ix hxs (k := 3) (by decide)
  obtain ⟨x4, e4⟩ := some_ix hxs (k := 4) (by decide)
  obtain ⟨x5, e5⟩ := some_ix hxs (k := 5) (by decide)
  rw [e0] at f0; rw [e1] at f1; rw [e2] at f2; rw [e3] at f3; rw [e4] at f4; rw [e5] at f5
  obtain ⟨s0, h0, _, _⟩ := DataW.trod_string Tryz.underlying9 f0
  obtain ⟨s1, h1, _, _⟩ := DataW.trod_string Tryz.underlying9 f1
  obtain ⟨m2, h2, _, w2⟩ := DataW.trod_int Tryz.underlying3 f2
  obtain ⟨m3, h3, _, w3⟩ := DataW.trod_int Tryz.underlying3 f3
  obtain ⟨m4, h4, _, w4⟩ := DataW.trod_int Tryz.underlying3 f4
  obtain ⟨m5, h5, _, w5⟩ := DataW.trod_int Tryz.underlying3 f5
  simp [cellsStrF, cellsInt] at h0 h1 h2 h3 h4 h5
  subst h0 h1 h2 h3 h4 h5
  exact ⟨⟨s0.data.toList, s1.data.toList, m2, m3, m4, m5⟩, by simp, rfl, bounds_i64 w2, bounds_i64 w3, bounds_i64 w4, bounds_i64 w5⟩
set_option maxRecDepth 100000 in
/-- A slice of files that came in. -/
theorem files_came {H : Type} {enc : TypeId × Value → H} {W : World} {base : Nat} {sp : Nat → Bool} {v : Value} {d : DataW H} {p : List MemPlace} (hv : Value.okWide Tryz.prog W .any base 23 v)
    (h : DataW.Trod enc Tryz.prog W 0 sp true 23 v d p) : ∃ l, FilesAt W v l ∧ ∀ x ∈ l, FileWf x :=
  param_came encF 6 (by decide) _ _ Tryz.underlying23 cellsFile FileWf (fun _ _ _ _ _ ht => file_of_trod ht) hv h
end Go.Proofs.YtefoaeamfkbgbaaGreatDoor
