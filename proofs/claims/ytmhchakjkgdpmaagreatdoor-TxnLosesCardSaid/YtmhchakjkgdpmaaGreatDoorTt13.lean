/- txn.Begin and txn.Txn's Commit: the walks. deedboxref2.SameFiles. deedboxlaw2.one, listed. snap.First; the statements' own helpers on snaps: OwnSnap, LongSnap, SameSnap, snapped. Changes of a table in memory: adds of files, removes of paths. -/
import Derived.Test.YtmhchakjkgdpmaaGreatDoorTt12
import Derived.Test.YtmhchakjkgdpmaaGreatDoorTt4
import Derived.Deep.RegionWith
import Derived.Deep.DeepCutAuto
import Derived.Test.YtmhchakjkgdpmaaGreatDoorTt5
import Derived.Laws.StructEq
import Derived.Test.YtmhchakjkgdpmaaGreatDoorTt7
import Derived.Test.YtmhchakjkgdpmaaGreatDoorTt6
namespace Go.Proofs.YtmhchakjkgdpmaaGreatDoor
open Go.RowKit

abbrev snCells (s : Sn) (v : Value) : Array Value := #[.int .i64 s.id, .int .i64 s.parent, .int .i64 s.seq, .int .i64 s.day, .int .i64 s.index, S s.op, v]
theorem rowS7 {W : World} {g : Nat} {s : Sn} {v : Value} {t : TypeId} (h : W.heap[g]? = some (.cells #[.int .i64 s.id, .int .i64 s.parent, .int .i64 s.seq, .int .i64 s.day, .int .i64 s.index, S s.op, v] t (0, 0))) :
    W.cell? ⟨g, 0, none⟩ = some (.int .i64 s.id) ∧ W.cell? ⟨g, 1, none⟩ = some (.int .i64 s.parent) ∧ W.cell? ⟨g, 2, none⟩ = some (.int .i64 s.seq) ∧ W.cell? ⟨g, 3, none⟩ = some (.int .i64 s.day) ∧ W.cell? ⟨g, 4, none⟩ = some (.int .i64 s.index) ∧ W.cell? ⟨g, 5, none⟩ = some (S s.op) ∧ W.cell? ⟨g, 6, none⟩ = some v := by
  refine ⟨?_, ?_, ?_, ?_, ?_, ?_, ?_⟩ <;> (rw [cell_of_row W _ _ _ _ (0, 0) h]; rfl)

def BegPost (E : Nat → Addr) (s : Sn) (w : World) (e : Ending) (w' : World) : Prop :=
  Below w.heap.size w w' ∧ ((snapCheck s ≠ .nil ∧ ∃ ev, e = .returned (.tuple #[.pointer none, ev]) ∧ ErV E w' ev (snapCheck s)) ∨
  (snapCheck s = .nil ∧ ∃ tb vf, ∃ D K : Nat → Prop, e = .returned (.tuple #[.pointer (some ⟨tb, 0, none⟩), .nilIface]) ∧ TxAt 115 w.heap.size w' D K tb (beginT s) vf (.slice none 0 0) (.slice none 0 0) ∧ (∀ k, D k ∨ K k → w.heap.size ≤ k)))
set_option maxHeartbeats 1000000 in
set_option maxRecDepth 20000 in
theorem txBegin_any (E : Nat → Addr) (B : Nat) (s : Sn) (v : Value) (w : World) (hE : Errs [2, 4, 5, 8, 9] E B w) (hT : LNum B w) (hM : LMax B w) (hl : FilesAt w v s.files) (hs : ∀ x ∈ s.files, midF x) (hn : s.files.length ≤ 100000) :
    Calls Tryz.prog 14 #[snapV s v] w (BegPost E s w) := by
  have hBw := hE.le
  have hif := isIfaceE
  have X := Lib.hid (fun W (hb : Below w.heap.size w W) => (⟨hE.below' hb hBw, hT.below' hb hBw, hM.below' hb hBw, hl.below hb⟩ : Errs [2, 4, 5, 8, 9] E B W ∧ LNum B W ∧ LMax B W ∧ FilesAt W v s.files))
  have hba : Below w.heap.size w (w.alloc (.cells #[.int .i64 s.id, .int .i64 s.parent, .int .i64 s.seq, .int .i64 s.day, .int .i64 s.index, S s.op, v] 24)) := (Below.refl _ _).alloc (Nat.le_refl _) _
  have hg0 := heap_alloc_new w (.cells #[.int .i64 s.id, .int .i64 s.parent, .int .i64 s.seq, .int .i64 s.day, .int .i64 s.index, S s.op, v] 24)
  have hsz : (w.alloc (.cells #[.int .i64 s.id, .int .i64 s.parent, .int .i64 s.seq, .int .i64 s.day, .int .i64 s.index, S s.op, v] 24)).heap.size = w.heap.size + 1 := by simp
  obtain ⟨a, c, rfl, -, -⟩ := At.form' hl
  have HG0 := Lib.hid hg0; have HSz := Lib.hid hsz
  clear hg0 hsz hl hE hT hM
  go_enter Tryz.func14, Tryz.ntmps14
  go_upto_region 1 with fail
  generalize w.alloc (.cells #[.int .i64 s.id, .int .i64 s.parent, .int .i64 s.seq, .int .i64 s.day, .int .i64 s.index, S s.op, .slice a s.files.length c] 24) = w0 at *
  obtain ⟨c0, c1, c2, c3, c4, c5, c6⟩ := rowS7 HG0.out
  have HCk := Lib.hid (snapCheck_any E B s _ w0 (X.out _ hba).1 (X.out _ hba).2.1 (X.out _ hba).2.2.1 (X.out _ hba).2.2.2 hs)
  go_wp2_with fail
  refine HCk.out.mono ?_
  rintro e w1 ⟨ev, rfl, hev, hb1⟩
  have hbw1 := hba.trans (hb1.mono hba.size)
  have HG1 := Lib.hid (rowKept HG0.out hb1)
  clear c0 c1 c2 c3 c4 c5 c6 HCk
  by_cases hck : snapCheck s = .nil
  case neg =>
    have HEv := Lib.hid hev
    obtain ⟨t1, x1, rfl⟩ := hev.iface hck
    have HN := Lib.hid hck
    clear hev hck
    go_wp2_with fail
    go_ret2
    exact ⟨hbw1, .inl ⟨HN.out, _, rfl, HEv.out⟩⟩
  rw [hck] at hev
  obtain rfl : ev = .nilIface := hev
  have HN := Lib.hid hck
  clear hck
  obtain ⟨c0, c1, c2, c3, c4, c5, c6⟩ := rowS7 HG1.out
  have HCl := Lib.hid (cloneF_any _ s.files w1 (X.out _ hbw1).2.2.2 hn)
  go_wp2_with fail
  refine HCl.out.mono ?_
  rintro e w2 ⟨v2, rfl, hown2, hb2⟩
  have hbw2 := hbw1.trans (hb2.mono hbw1.size)
  have hg2 := rowKept HG1.out hb2
  have hz2 := hb2.size
  have hz1 := hb1.size
  obtain ⟨a2, n2, c2', rfl⟩ : ∃ a n c, v2 = .slice a n c := by obtain ⟨a2, c2', e2, -, -⟩ := At.form' (hown2.at encF_enc); exact ⟨_, _, _, e2⟩
  clear c0 c1 c2 c3 c4 c5 c6
  obtain ⟨c0, c1, c2, c3, c4, c5, c6⟩ := rowS7 hg2
  have hfz : w2.frozen? ⟨w.heap.size, 6, none⟩ = false := frozen_row hg2
  go_upto_region 5 with fail
  have hg3 := row_setCell hg2 (i := 6) (.slice a2 n2 c2')
  have hb3 : Below w.heap.size w (w2.setCell ⟨w.heap.size, 6, none⟩ (.slice a2 n2 c2')) := hbw2.setCell (p := ⟨w.heap.size, 6, none⟩) (Nat.le_refl _) _
  have hown3 : Own encF 37 6 w1.heap.size (w2.setCell ⟨w.heap.size, 6, none⟩ (.slice a2 n2 c2')) (.slice a2 n2 c2') s.files := hown2.store (by rw [HSz.out] at hz1; omega) 6 _
  simp only [List.setIfInBounds_toArray, List.set_cons_succ, List.set_cons_zero] at hg3
  clear c0 c1 c2 c3 c4 c5 c6 hfz hg2 hown2
  generalize w2.setCell ⟨w.heap.size, 6, none⟩ (.slice a2 n2 c2') = w3 at *
  obtain ⟨c0, c1, c2, c3, c4, c5, c6⟩ := rowS7 hg3
  have HO3 := Lib.hid hown3
  clear hg3 hown3
  go_wp2_with fail
  go_ret2
  have hb4 : Below w3.heap.size w3 (w3.alloc (.cells #[.int .i64 s.id, .int .i64 s.parent, .int .i64 s.seq, .int .i64 s.day, .int .i64 s.index, S s.op, .slice a2 n2 c2', .slice none 0 0, .slice none 0 0] 115)) := (Below.refl _ _).alloc (Nat.le_refl _) _
  have ho4 := HO3.out.below hb4
  have hsz3 : (w3.alloc (.cells #[.int .i64 s.id, .int .i64 s.parent, .int .i64 s.seq, .int .i64 s.day, .int .i64 s.index, S s.op, .slice a2 n2 c2', .slice none 0 0, .slice none 0 0] 115)).heap.size = w3.heap.size + 1 := by simp
  have hk : ∀ k, (Value.slice a2 n2 c2').ownBlock = some k → w1.heap.size ≤ k ∧ k < w3.heap.size := fun k hk => World.ownsRow.lt HO3.out k hk
  have hz3 := hb3.size
  refine ⟨hb3.trans (hb4.mono hb3.size), .inr ⟨HN.out, w3.heap.size, .slice a2 n2 c2', fun k => k = w3.heap.size, fun k => (Value.slice a2 n2 c2').ownBlock = some k, rfl, ⟨heap_alloc_new w3 _, fun W hW => (ho4.blocked fun g hg => hW g hg).at encF_enc, Own.nil _ _ _ _ _, Own.nil _ _ _ _ _, rfl, fun k hk => (by cases hk), fun k hk => (by cases hk), fun k hk => (by cases hk), fun k hk => (by subst hk; rw [hsz3]; omega), fun k h1 h2 => (by have := hk k h1; omega), fun k h1 => (by have := hk k h1; rw [hsz3]; omega)⟩, fun k h1 => ?_⟩⟩
  rcases h1 with h1 | h1
  · omega
  · have := hk k h1; have := hbw1.size; omega
set_option maxRecDepth 20000 in
theorem commit1_any (p : Str) (b : Nat) (v : Value) (l : List Fl) (w : World) (h1 : w.cell? ⟨b, 6, none⟩ = some v) (hl : FilesAt w v l) :
    Calls Tryz.prog 65 #[S p, .pointer (some ⟨b, 0, none⟩)] w fun e w' => e = .returned (.bool (decide (findV l p < 0))) ∧ Below w.heap.size w w' := by
  have HF := Lib.hid (listFind_any v l p w hl)
  obtain ⟨a, c, rfl, -, -⟩ := At.form' hl
  clear hl
  by_cases h : findV l p < 0
  · rw [decide_eq_true h]
    generalize findV l p = fv at *
    go_enter Tryz.func65, Tryz.ntmps65
    go_wp2_with fail
    refine HF.out.mono ?_
    rintro e w1 ⟨rfl, hb1⟩
    go_wp2_with fail
    go_ret
    exact ⟨rfl, hb1⟩
  · rw [decide_eq_false h]
    have g := decide_eq_false h
    clear h
    generalize findV l p = fv at *
    go_enter Tryz.func65, Tryz.ntmps65
    go_wp2_with fail
    refine HF.out.mono ?_
    rintro e w1 ⟨rfl, hb1⟩
    go_wp2_with fail
    go_ret
    exact ⟨rfl, hb1⟩
set_option maxRecDepth 20000 in
theorem commit2_any (x : Fl) (b : Nat) (v : Value) (l : List Fl) (w : World) (h1 : w.cell? ⟨b, 6, none⟩ = some v) (hl : FilesAt w v l) :
    Calls Tryz.prog 67 #[fileV x, .pointer (some ⟨b, 0, none⟩)] w fun e w' => e = .returned (.bool (decide (0 ≤ findV l x.path))) ∧ Below w.heap.size w w' := by
  have hba : Below w.heap.size w (w.alloc (.cells #[S x.path, S x.part, .int .i64 x.n, .int .i64 x.lo, .int .i64 x.hi, .int .i64 x.seq] 37)) := (Below.refl _ _).alloc (Nat.le_refl _) _
  have h1' := (hba.cell (World.block_lt_of_cell? w _ h1)).trans h1
  have HF := Lib.hid (listFind_any v l x.path _ (hl.below hba))
  obtain ⟨a, c, rfl, -, -⟩ := At.form' hl
  clear hl
  by_cases h : 0 ≤ findV l x.path
  · rw [decide_eq_true h]
    generalize findV l x.path = fv at *
    go_enter Tryz.func67, Tryz.ntmps67
    go_wp2_with fail
    refine HF.out.mono ?_
    rintro e w1 ⟨rfl, hb1⟩
    go_wp2_with fail
    go_ret
    exact ⟨rfl, hba.trans (hb1.mono hba.size)⟩
  · rw [decide_eq_false h]
    have g := decide_eq_false h
    clear h
    generalize findV l x.path = fv at *
    go_enter Tryz.func67, Tryz.ntmps67
    go_wp2_with fail
    refine HF.out.mono ?_
    rintro e w1 ⟨rfl, hb1⟩
    go_wp2_with fail
    go_ret
    exact ⟨rfl, hba.trans (hb1.mono hba.size)⟩
theorem clo_commit1 : Clo Tryz.prog 65 := fun _ _ => by kernel_rfl
theorem clo_commit2 : Clo Tryz.prog 67 := fun _ _ => by kernel_rfl
abbrev zS7 : Array Value := #[.int .i64 0, .int .i64 0, .int .i64 0, .int .i64 0, .int .i64 0, S [], .slice none 0 0]
def CmtPost (E : Nat → Addr) (er : Er) (x : Sn) (w : World) (e : Ending) (w' : World) : Prop := ∃ u ev, e = .returned (.tuple #[snapV x u, ev]) ∧ FilesAt w' u x.files ∧ ErV E w' ev er ∧ Below w.heap.size w w'
theorem cmt_zero {E : Nat → Addr} {er : Er} {x : Sn} {w W : World} {Z : Nat} {tmps : Array Value} {ev : Value} (hp : tmps.getD 10 undef = .pointer (some ⟨Z, 0, none⟩)) (hv : tmps.getD 11 undef = ev) (hx : x = zeroSn) (hev : ErV E W ev er)
    (hF : W.heap[Z]? = some (.cells #[.int .i64 0, .int .i64 0, .int .i64 0, .int .i64 0, .int .i64 0, S [], .slice none 0 0] 24 (0, 0))) (hb : Below w.heap.size w W) (hZ : w.heap.size ≤ Z) :
    bodyPost Tryz.prog Tryz.f18 (CmtPost E er x w) .ret ⟨tmps, []⟩ (sev W Z (.int .i64 0) (.int .i64 0) (.int .i64 0) (.int .i64 0) (.int .i64 0) (.string ⟨#[]⟩) (.slice none 0 0)) := by
  subst hv hx
  have hc : W.cell? ⟨Z, 1, none⟩ = some (.int .i64 0) := by rw [cell_of_row W _ _ _ _ (0, 0) hF]; rfl
  refine bodyPost_ret (ret_row rfl tmps _ Z 24 zS7 (0, 0) _ hp (sev_new hF _ _ _ _ _ _ _) Tryz.underlying24 rfl (by kernel_rfl)) rfl ⟨.slice none 0 0, tmps.getD 11 undef, rfl, At.nil _ _ _, hev.away hc fun p hp => sev_cell hp _ _ _ _ _ _ _, sev_below hb hZ _ _ _ _ _ _ _⟩
theorem cmt_zero_drew {E : Nat → Addr} {er : Er} {x : Sn} {w W : World} {Z : Nat} {tmps : Array Value} {ev : Value} (hp : tmps.getD 10 undef = .pointer (some ⟨Z, 0, none⟩)) (hv : tmps.getD 11 undef = ev) (hx : x = zeroSn) (hev : ErV E W ev er)
    (hF : W.heap[Z]? = some (.cells #[.int .i64 0, .int .i64 0, .int .i64 0, .int .i64 0, .int .i64 0, S [], .slice none 0 0] 24 (0, 0))) (hb : Below w.heap.size w W) (hZ : w.heap.size ≤ Z) :
    bodyPost Tryz.prog Tryz.f18 (CmtPost E er x w) .ret ⟨tmps, []⟩ (sev W Z (.int .i64 0) (.int .i64 0) (.int .i64 0) (.int .i64 0) (.int .i64 0) (.string ⟨#[]⟩) (.slice none 0 0)).drew := by
  subst hv hx
  have hc : W.cell? ⟨Z, 1, none⟩ = some (.int .i64 0) := by rw [cell_of_row W _ _ _ _ (0, 0) hF]; rfl
  have h1 : ErV E (sev W Z (.int .i64 0) (.int .i64 0) (.int .i64 0) (.int .i64 0) (.int .i64 0) (.string ⟨#[]⟩) (.slice none 0 0)) (tmps.getD 11 undef) er := hev.away hc fun p hp => sev_cell hp _ _ _ _ _ _ _
  have h2 : Below w.heap.size w (sev W Z (.int .i64 0) (.int .i64 0) (.int .i64 0) (.int .i64 0) (.int .i64 0) (.string ⟨#[]⟩) (.slice none 0 0)) := sev_below hb hZ _ _ _ _ _ _ _
  have h3 := h1.below (Below.refl (sev W Z (.int .i64 0) (.int .i64 0) (.int .i64 0) (.int .i64 0) (.int .i64 0) (.string ⟨#[]⟩) (.slice none 0 0)).heap.size (sev W Z (.int .i64 0) (.int .i64 0) (.int .i64 0) (.int .i64 0) (.int .i64 0) (.string ⟨#[]⟩) (.slice none 0 0))).drew
  refine bodyPost_ret (ret_row rfl tmps _ Z 24 zS7 (0, 0) _ hp (by rw [World.heap_drew]; exact sev_new hF _ _ _ _ _ _ _) Tryz.underlying24 rfl (by kernel_rfl)) rfl ⟨.slice none 0 0, tmps.getD 11 undef, rfl, At.nil _ _ _, h3, h2.drew⟩
theorem commitS_bad {t : Tx} {now : Sn} {id day index : Int} (h : commitE t now id day index ≠ .nil) : commitS t now id day index = zeroSn := if_neg h
set_option maxHeartbeats 4000000 in
set_option maxRecDepth 20000 in
theorem txCommit_any (E : Nat → Addr) (B0 B : Nat) (D K : Nat → Prop) (tb : Nat) (t : Tx) (vf va vr : Value) (now : Sn) (vn : Value) (id day index : Int) (w : World) (hE : Errs [2, 4, 5, 7, 8, 9, 11] E B0 w) (hT : LNum B0 w) (hM : LMax B0 w) (h : TxAt 115 B w D K tb t vf va vr) (hok : TxOk t)
    (hl : FilesAt w vn now.files) (hs : ∀ x ∈ now.files, midF x) (hal : t.adds.length ≤ 1000) (hrl : t.removes.length ≤ 1000) (hpa : ∀ f ∈ t.adds, midF f) :
    Calls Tryz.prog 18 #[.pointer (some ⟨tb, 0, none⟩), snapV now vn, .int .i64 id, .int .i64 day, .int .i64 index] w (CmtPost E (commitE t now id day index) (commitS t now id day index) w) := by
  have hBw := hE.le
  have hif := isIfaceE
  have X := Lib.hid (fun W (hb : Below w.heap.size w W) => (⟨hE.below' hb hBw, hT.below' hb hBw, hM.below' hb hBw, hl.below hb, h.below hb⟩ : Errs [2, 4, 5, 7, 8, 9, 11] E B0 W ∧ LNum B0 W ∧ LMax B0 W ∧ FilesAt W vn now.files ∧ TxAt 115 B W D K tb t vf va vr))
  have V0 := fun w6 (h6 : Below w.heap.size w w6) => (⟨(hE.below' h6 hBw).var 7 (by decide), (hE.below' h6 hBw).var 11 (by decide)⟩ : _ ∧ _)
  simp only [errG] at V0
  have V := Lib.hid V0
  obtain ⟨Z, hZ⟩ : ∃ Z, w.heap.size + 1 = Z := ⟨_, rfl⟩
  have n11 : (¬ (2 = Z)) ∧ ¬ (Z = 2) := by
    have h := (hE.lt 11 (by decide)).2
    have h1 : errG 11 = 2 := rfl
    rw [h1] at h; omega
  have n7 : (¬ (0 = Z)) ∧ ¬ (Z = 0) := by
    have h := (hE.lt 7 (by decide)).2
    have h1 : errG 7 = 0 := rfl
    rw [h1] at h; omega
  obtain ⟨n111, n112⟩ := n11; obtain ⟨n71, n72⟩ := n7
  have hba1 : Below w.heap.size w (w.alloc (.cells #[.int .i64 now.id, .int .i64 now.parent, .int .i64 now.seq, .int .i64 now.day, .int .i64 now.index, S now.op, vn] 24)) := (Below.refl _ _).alloc (Nat.le_refl _) _
  have hsz1 : (w.alloc (.cells #[.int .i64 now.id, .int .i64 now.parent, .int .i64 now.seq, .int .i64 now.day, .int .i64 now.index, S now.op, vn] 24)).heap.size = w.heap.size + 1 := by simp
  have hba2 : Below (w.alloc (.cells #[.int .i64 now.id, .int .i64 now.parent, .int .i64 now.seq, .int .i64 now.day, .int .i64 now.index, S now.op, vn] 24)).heap.size (w.alloc (.cells #[.int .i64 now.id, .int .i64 now.parent, .int .i64 now.seq, .int .i64 now.day, .int .i64 now.index, S now.op, vn] 24)) ((w.alloc (.cells #[.int .i64 now.id, .int .i64 now.parent, .int .i64 now.seq, .int .i64 now.day, .int .i64 now.index, S now.op, vn] 24)).alloc (.cells #[.int .i64 0, .int .i64 0, .int .i64 0, .int .i64 0, .int .i64 0, S [], .slice none 0 0] 24)) := (Below.refl _ _).alloc (Nat.le_refl _) _
  have hba := hba1.trans (hba2.mono hba1.size)
  have hgb := rowKept (heap_alloc_new w (.cells #[.int .i64 now.id, .int .i64 now.parent, .int .i64 now.seq, .int .i64 now.day, .int .i64 now.index, S now.op, vn] 24)) hba2
  have hgz := heap_alloc_new (w.alloc (.cells #[.int .i64 now.id, .int .i64 now.parent, .int .i64 now.seq, .int .i64 now.day, .int .i64 now.index, S now.op, vn] 24)) (.cells #[.int .i64 0, .int .i64 0, .int .i64 0, .int .i64 0, .int .i64 0, S [], .slice none 0 0] 24)
  have hsz2 : ((w.alloc (.cells #[.int .i64 now.id, .int .i64 now.parent, .int .i64 now.seq, .int .i64 now.day, .int .i64 now.index, S now.op, vn] 24)).alloc (.cells #[.int .i64 0, .int .i64 0, .int .i64 0, .int .i64 0, .int .i64 0, S [], .slice none 0 0] 24)).heap.size = w.heap.size + 2 := by simp
  rw [hsz1, hZ] at hgz
  have HGb := Lib.hid (fun W (hb : Below ((w.alloc (.cells #[.int .i64 now.id, .int .i64 now.parent, .int .i64 now.seq, .int .i64 now.day, .int .i64 now.index, S now.op, vn] 24)).alloc (.cells #[.int .i64 0, .int .i64 0, .int .i64 0, .int .i64 0, .int .i64 0, S [], .slice none 0 0] 24)).heap.size ((w.alloc (.cells #[.int .i64 now.id, .int .i64 now.parent, .int .i64 now.seq, .int .i64 now.day, .int .i64 now.index, S now.op, vn] 24)).alloc (.cells #[.int .i64 0, .int .i64 0, .int .i64 0, .int .i64 0, .int .i64 0, S [], .slice none 0 0] 24)) W) => rowKept hgb hb)
  have HGz := Lib.hid (fun W (hb : Below ((w.alloc (.cells #[.int .i64 now.id, .int .i64 now.parent, .int .i64 now.seq, .int .i64 now.day, .int .i64 now.index, S now.op, vn] 24)).alloc (.cells #[.int .i64 0, .int .i64 0, .int .i64 0, .int .i64 0, .int .i64 0, S [], .slice none 0 0] 24)).heap.size ((w.alloc (.cells #[.int .i64 now.id, .int .i64 now.parent, .int .i64 now.seq, .int .i64 now.day, .int .i64 now.index, S now.op, vn] 24)).alloc (.cells #[.int .i64 0, .int .i64 0, .int .i64 0, .int .i64 0, .int .i64 0, S [], .slice none 0 0] 24)) W) => rowKept hgz hb)
  have HSz := Lib.hid hsz2
  obtain ⟨an, cn, rfl, -, -⟩ := At.form' hl
  obtain ⟨a, c, rfl, -, -⟩ := At.form' h.addsAt
  obtain ⟨a2, c2, rfl, -, -⟩ := At.form' h.remsAt
  have HCE : Hid (commitE t now id day index = if snapCheck now ≠ .nil then snapCheck now else if goneT t now.files = true then .bare 11 else if thereT t now.files = true then .bare 7 else (snapCheck (snapT t now id day index)).noPlace) := Lib.hid rfl
  have HCS := Lib.hid (@commitS_bad t now id day index)
  have HZ : Hid (w.heap.size ≤ Z) := Lib.hid (by omega)
  clear hba1 hba2 hsz1 hsz2 hgb hgz hE hT hM h hl V0
  go_enter Tryz.func18, Tryz.ntmps18
  go_upto_region 1 with fail
  generalize (w.alloc (.cells #[.int .i64 now.id, .int .i64 now.parent, .int .i64 now.seq, .int .i64 now.day, .int .i64 now.index, S now.op, .slice an now.files.length cn] 24)).alloc (.cells #[.int .i64 0, .int .i64 0, .int .i64 0, .int .i64 0, .int .i64 0, S [], .slice none 0 0] 24) = w0 at *
  try rw [hZ]
  have HZe := Lib.hid hZ
  clear hZ
  obtain ⟨c0, c1, c2', c3, c4, c5, c6⟩ := rowS7 (HGb.out _ (Below.refl _ _))
  have HCk := Lib.hid (snapCheck_any E B0 now _ w0 ((X.out _ hba).1.sub (by decide)) (X.out _ hba).2.1 (X.out _ hba).2.2.1 (X.out _ hba).2.2.2.1 hs)
  go_wp2_with fail
  refine HCk.out.mono ?_
  rintro e w1 ⟨ev, rfl, hev, hb1⟩
  have hbw1 := hba.trans (hb1.mono hba.size)
  clear c0 c1 c2' c3 c4 c5 c6 HCk
  by_cases hck : snapCheck now = .nil
  case neg =>
    have HEv := Lib.hid hev
    obtain ⟨t1, x1, rfl⟩ := hev.iface hck
    have HC2 : Hid (commitE t now id day index = snapCheck now) := Lib.hid (by rw [HCE.out, if_pos hck])
    have HS2 : Hid (commitS t now id day index = zeroSn) := Lib.hid (HCS.out (by rw [HC2.out]; exact hck))
    clear hev hck
    have hgz := HGz.out _ hb1
    have fz : ∀ j, w1.frozen? ⟨Z, j, none⟩ = false := fun j => frozen_row hgz
    have f0 := fz 0; have f1 := fz 1; have f2 := fz 2; have f3 := fz 3; have f4 := fz 4; have f5 := fz 5; have f6 := fz 6
    obtain ⟨z0, z1, z2, z3, z4, z5, z6⟩ := rowS7 (s := zeroSn) hgz
    have HZz := Lib.hid hgz
    clear fz hgz
    go_wp2_with fail
    exact cmt_zero rfl rfl HS2.out (by rw [HC2.out]; exact HEv.out) HZz.out hbw1 HZ.out
  rw [hck] at hev
  obtain rfl : ev = .nilIface := hev
  have HR := Lib.hid ((snap_iff now).1 hck)
  have HC1 : Hid (commitE t now id day index = if goneT t now.files = true then .bare 11 else if thereT t now.files = true then .bare 7 else (snapCheck (snapT t now id day index)).noPlace) := Lib.hid (by rw [HCE.out, if_neg (by rw [hck]; simp)])
  clear hck HCE
  have hcell1 := (X.out _ hbw1).2.2.2.2.c8
  have hco1 := containsFuncS_any 65 #[.pointer (some ⟨w.heap.size, 0, none⟩)] (fun s => decide (findV now.files s < 0)) w1.heap.size w1 _ t.removes w1 clo_commit1 (fun W x _ hbW hle => commit1_any x w.heap.size _ now.files W (rowS7 (HGb.out W (hb1.trans (hbW.mono hb1.size)))).2.2.2.2.2.2 (X.out W (hbw1.trans (hbW.mono hbw1.size))).2.2.2.1) (X.out _ hbw1).2.2.2.2.remsAt (Below.refl _ _) (Nat.le_refl _)
  rw [show (t.removes.any (fun s => decide (findV now.files s < 0))) = goneT t now.files from rfl] at hco1
  have HCo1 := Lib.hid hco1
  clear hco1
  by_cases hgo : goneT t now.files = true
  case pos =>
    have HC2 : Hid (commitE t now id day index = .bare 11) := Lib.hid (by rw [HC1.out, if_pos hgo])
    have HS2 : Hid (commitS t now id day index = zeroSn) := Lib.hid (HCS.out (by rw [HC2.out]; simp))
    rw [hgo] at HCo1
    clear hgo
    go_wp2_with fail
    refine HCo1.out.mono ?_
    rintro e w2 ⟨rfl, hb2⟩
    have hb02 := hb1.trans (hb2.mono hb1.size)
    have hbw2 := hbw1.trans (hb2.mono hbw1.size)
    obtain ⟨v7, v11⟩ := V.out _ hbw2
    have hgz := HGz.out _ hb02
    have fz : ∀ j, w2.frozen? ⟨Z, j, none⟩ = false := fun j => frozen_row hgz
    have f0 := fz 0; have f1 := fz 1; have f2 := fz 2; have f3 := fz 3; have f4 := fz 4; have f5 := fz 5; have f6 := fz 6
    obtain ⟨z0, z1, z2, z3, z4, z5, z6⟩ := rowS7 (s := zeroSn) hgz
    have HZz := Lib.hid hgz
    clear fz hgz
    go_wp2_with fail
    go_region
    go_wp2_with fail
    first
      | exact cmt_zero_drew rfl rfl HS2.out (by rw [HC2.out]; exact ⟨by decide, rfl⟩) HZz.out hbw2 HZ.out
      | exact cmt_zero rfl rfl HS2.out (by rw [HC2.out]; exact ⟨by decide, rfl⟩) HZz.out hbw2 HZ.out
  have HC2 : Hid (commitE t now id day index = if thereT t now.files = true then .bare 7 else (snapCheck (snapT t now id day index)).noPlace) := Lib.hid (by rw [HC1.out, if_neg hgo])
  have hgo' : goneT t now.files = false := by simpa using hgo
  rw [hgo'] at HCo1
  clear hgo hgo' HC1
  go_wp2_with fail
  refine HCo1.out.mono ?_
  rintro e w2 ⟨rfl, hb2⟩
  have hb02 := hb1.trans (hb2.mono hb1.size)
  have hbw2 := hbw1.trans (hb2.mono hbw1.size)
  clear hcell1 HCo1 hb2
  have hcell2 := (X.out _ hbw2).2.2.2.2.c7
  have hco2 := containsFuncF_any 67 #[.pointer (some ⟨w.heap.size, 0, none⟩)] (fun f => decide (0 ≤ findV now.files f.path)) w2.heap.size w2 _ t.adds w2 clo_commit2 (fun W x _ hbW hle => commit2_any x w.heap.size _ now.files W (rowS7 (HGb.out W (hb02.trans (hbW.mono hb02.size)))).2.2.2.2.2.2 (X.out W (hbw2.trans (hbW.mono hbw2.size))).2.2.2.1) (X.out _ hbw2).2.2.2.2.addsAt (Below.refl _ _) (Nat.le_refl _)
  rw [show (t.adds.any (fun f => decide (0 ≤ findV now.files f.path))) = thereT t now.files from rfl] at hco2
  have HCo2 := Lib.hid hco2
  clear hco2
  by_cases hth : thereT t now.files = true
  case pos =>
    have HC3 : Hid (commitE t now id day index = .bare 7) := Lib.hid (by rw [HC2.out, if_pos hth])
    have HS2 : Hid (commitS t now id day index = zeroSn) := Lib.hid (HCS.out (by rw [HC3.out]; simp))
    rw [hth] at HCo2
    clear hth
    go_wp2_with fail
    refine HCo2.out.mono ?_
    rintro e w3 ⟨rfl, hb3⟩
    have hb03 := hb02.trans (hb3.mono hb02.size)
    have hbw3 := hbw2.trans (hb3.mono hbw2.size)
    obtain ⟨v7, v11⟩ := V.out _ hbw3
    have hgz := HGz.out _ hb03
    have fz : ∀ j, w3.frozen? ⟨Z, j, none⟩ = false := fun j => frozen_row hgz
    have f0 := fz 0; have f1 := fz 1; have f2 := fz 2; have f3 := fz 3; have f4 := fz 4; have f5 := fz 5; have f6 := fz 6
    obtain ⟨z0, z1, z2, z3, z4, z5, z6⟩ := rowS7 (s := zeroSn) hgz
    have HZz := Lib.hid hgz
    clear fz hgz
    go_wp2_with fail
    go_region
    go_wp2_with fail
    first
      | exact cmt_zero_drew rfl rfl HS2.out (by rw [HC3.out]; exact ⟨by decide, rfl⟩) HZz.out hbw3 HZ.out
      | exact cmt_zero rfl rfl HS2.out (by rw [HC3.out]; exact ⟨by decide, rfl⟩) HZz.out hbw3 HZ.out
  have HC3 : Hid (commitE t now id day index = (snapCheck (snapT t now id day index)).noPlace) := Lib.hid (by rw [HC2.out, if_neg hth])
  have hth' : thereT t now.files = false := by simpa using hth
  have HTh := Lib.hid hth'
  rw [hth'] at HCo2
  clear hth hth' HC2
  go_wp2_with fail
  refine HCo2.out.mono ?_
  rintro e w3 ⟨rfl, hb3⟩
  have hb03 := hb02.trans (hb3.mono hb02.size)
  have hbw3 := hbw2.trans (hb3.mono hbw2.size)
  clear hcell2 HCo2 hb3
  have hseq : 0 ≤ now.seq ∧ now.seq ≤ 1073741824 := (HR.out.nums).2.2.1
  obtain ⟨hq1, hq2⟩ := hseq
  go_upto_region 8 with fail
  have hopc := fun W (hb : Below w3.heap.size w3 W) => txOp_any B D K tb t vf _ _ W (X.out _ (hbw3.trans (hb.mono hbw3.size))).2.2.2.2
  obtain ⟨op, hop⟩ : ∃ op, opT t = op := ⟨_, rfl⟩
  rw [hop] at hopc
  have HOp := Lib.hid hopc
  have HOpe := Lib.hid hop
  clear hopc hop
  have hwr : IntKind.i64.wrap (now.seq + 1) = now.seq + 1 := by rw [IntKind.wrap_i64]; omega
  go_cut [13] (fun p wx => ∃ g, p = .pointer (some ⟨g, 0, none⟩) ∧ w3.heap.size ≤ g ∧ wx.heap[g]? = some (.cells #[.int .i64 id, .int .i64 now.id, .int .i64 (now.seq + 1), .int .i64 day, .int .i64 index, S op, .slice none 0 0] 24 (0, 0)) ∧ Below w3.heap.size w3 wx)
  case first =>
    have hd : Below w3.heap.size w3 w3.drew := (Below.refl _ _).drew
    have hsk : ∀ W, Below w3.heap.size w3 W → W.cell? ⟨w.heap.size, 0, none⟩ = some (.int .i64 now.id) ∧ W.cell? ⟨w.heap.size, 2, none⟩ = some (.int .i64 now.seq) := fun W hb => by
      obtain ⟨c0, c1, c2', c3, c4, c5, c6⟩ := rowS7 (HGb.out _ (hb03.trans (hb.mono hb03.size)))
      exact ⟨c0, c2'⟩
    have HSk := Lib.hid hsk
    clear hsk
    go_wp2_with fail
    have hda : Below w3.heap.size w3 (w3.alloc (.cells #[.int .i64 0, .int .i64 0, .int .i64 0, .int .i64 0, .int .i64 0, .string ⟨#[]⟩, .slice none 0 0] 24)).drew := hd.alloc hd.size _
    have hzn : (w3.alloc (.cells #[.int .i64 0, .int .i64 0, .int .i64 0, .int .i64 0, .int .i64 0, .string ⟨#[]⟩, .slice none 0 0] 24)).drew.heap[w3.heap.size]? = some (.cells #[.int .i64 0, .int .i64 0, .int .i64 0, .int .i64 0, .int .i64 0, .string ⟨#[]⟩, .slice none 0 0] 24 (0, 0)) := heap_alloc_new w3.drew _
    have HZn := Lib.hid hzn
    clear hzn
    go_region_held3 (fun w' => w'.cell? ⟨w.heap.size, 0, none⟩ = some (.int .i64 now.id) ∧ w'.cell? ⟨w.heap.size, 2, none⟩ = some (.int .i64 now.seq)) ((refine HSk.out _ ?_; first | (with_reducible exact hd) | (with_reducible exact hda) | (with_reducible exact hw4) | (with_reducible exact hw4.alloc hw4.size _) | (with_reducible exact sev_below hw4 (Nat.le_refl _) _ _ _ _ _ _ _))) (first
      | (go_at_call 68; (with_reducible refine (HOp.out _ hd).mono ?_); rintro e w4 ⟨rfl, hb4⟩; have hw4 : Below w3.heap.size w3 w4 := hd.trans (hb4.mono hd.size))
      | (go_at_call 68; (with_reducible refine (HOp.out _ hda).mono ?_); rintro e w4 ⟨rfl, hb4⟩; have hw4 : Below w3.heap.size w3 w4 := hda.trans (hb4.mono hda.size); have hzk := rowKept HZn.out hb4; have zq : ∀ j, w4.frozen? ⟨w3.heap.size, j, none⟩ = false := (fun j => frozen_row hzk); have q0 := zq 0; have q1 := zq 1; have q2 := zq 2; have q3 := zq 3; have q4 := zq 4; have q5 := zq 5; have q6 := zq 6; obtain ⟨y0, y1, y2, y3, y4, y5, y6⟩ := rowS7 (s := zeroSn) hzk; clear zq))
    · go_wp2_with fail
      go_meet
      exact ⟨_, rfl, hw4.size, heap_alloc_new w4 _, hw4.alloc hw4.size _⟩
    · go_wp2_with fail
      go_meet
      exact ⟨_, rfl, Nat.le_refl _, sev_new (rowKept HZn.out hb4) _ _ _ _ _ _ _, sev_below hw4 (Nat.le_refl _) _ _ _ _ _ _ _⟩
  case rest =>
    obtain ⟨g, rfl, hgw, hgs, hb35⟩ := hcut
    obtain ⟨w5, rfl⟩ : ∃ w5, w5 = wc := ⟨wc, rfl⟩
    have hb05 := hb03.trans (hb35.mono hb03.size)
    have hbw5 := hbw3.trans (hb35.mono hbw3.size)
    obtain ⟨c0, c1, c2', c3, c4, c5, c6⟩ := rowS7 (HGb.out _ hb05)
    obtain ⟨d0, d1, d2, d3, d4, d5, d6⟩ := rowS7 (s := ⟨id, now.id, now.seq + 1, day, index, op, []⟩) hgs
    have HFi := Lib.hid (txFiles_any B0 B D K tb t vf _ _ _ now.files op (now.seq + 1) w5 (X.out _ hbw5).2.1 (X.out _ hbw5).2.2.1 (X.out _ hbw5).2.2.2.2 hok HR.out.lst HTh.out (X.out _ hbw5).2.2.2.1 hal hrl (fun f hf => (hpa f hf).1) (fun f hf => (hs f hf).1))
    have hgl := (Array.getElem?_eq_some_iff.1 hgs).1
    have HGs := Lib.hid hgs
    clear hgs
    go_wp2_with fail
    refine HFi.out.mono ?_
    rintro e w6 ⟨u, rfl, hown, hb6⟩
    have hg6 := rowKept HGs.out hb6
    have hb06 := hb05.trans (hb6.mono hb05.size)
    have hbw6 := hbw5.trans (hb6.mono hbw5.size)
    obtain ⟨ua, un, uc, rfl⟩ : ∃ a n c, u = .slice a n c := by obtain ⟨a2, c2', e2, -, -⟩ := At.form' (hown.at encF_enc); exact ⟨_, _, _, e2⟩
    clear c0 c1 c2' c3 c4 c5 c6 d0 d1 d2 d3 d4 d5 d6 HFi
    obtain ⟨d0, d1, d2, d3, d4, d5, d6⟩ := rowS7 (s := ⟨id, now.id, now.seq + 1, day, index, op, []⟩) hg6
    have hfz : w6.frozen? ⟨g, 6, none⟩ = false := frozen_row hg6
    go_upto_region 10 with fail
    have hwg : w.heap.size ≤ g := Nat.le_trans hbw3.size hgw
    have hz3 := hb03.size
    have hg7 := row_setCell hg6 (i := 6) (.slice ua un uc)
    have hb7 : Below w.heap.size w (w6.setCell ⟨g, 6, none⟩ (.slice ua un uc)) := hbw6.setCell (p := ⟨g, 6, none⟩) hwg _
    have hb07 : Below w0.heap.size w0 (w6.setCell ⟨g, 6, none⟩ (.slice ua un uc)) := hb06.setCell (p := ⟨g, 6, none⟩) (Nat.le_trans hz3 hgw) _
    have hown7 : Own encF 37 6 w5.heap.size (w6.setCell ⟨g, 6, none⟩ (.slice ua un uc)) (.slice ua un uc) (filesT t now.files op (now.seq + 1)) := hown.store hgl 6 _
    simp only [List.setIfInBounds_toArray, List.set_cons_succ, List.set_cons_zero] at hg7
    clear d0 d1 d2 d3 d4 d5 d6 hfz hg6 hown
    generalize w6.setCell ⟨g, 6, none⟩ (.slice ua un uc) = w7 at *
    have hST : snapT t now id day index = ⟨id, now.id, now.seq + 1, day, index, op, filesT t now.files op (now.seq + 1)⟩ := by unfold snapT; rw [HOpe.out]
    have hmf : ∀ x ∈ filesT t now.files op (now.seq + 1), midF x := fun x hx => by
      rcases mem_filesT.1 hx with ⟨h1, -⟩ | h1
      · exact hs x h1
      · obtain ⟨y, hy, rfl⟩ := List.mem_map.1 h1
        exact hpa y hy
    obtain ⟨ns, hns⟩ : ∃ ns : Sn, snapT t now id day index = ns := ⟨_, rfl⟩
    rw [hns] at hST HC3
    have hnf : ns.files = filesT t now.files op (now.seq + 1) := by rw [hST]
    rw [← hnf] at hown7 hmf
    have hgn : w7.heap[g]? = some (.cells #[.int .i64 ns.id, .int .i64 ns.parent, .int .i64 ns.seq, .int .i64 ns.day, .int .i64 ns.index, S ns.op, .slice ua un uc] 24 (0, 0)) := by rw [hST]; exact hg7
    have HNs := Lib.hid hns
    obtain ⟨d0, d1, d2, d3, d4, d5, d6⟩ := rowS7 (s := ns) hgn
    have HO7 := Lib.hid hown7
    have HGn := Lib.hid hgn
    have HCk := Lib.hid (snapCheck_any E B0 ns _ w7 ((X.out _ hb7).1.sub (by decide)) (X.out _ hb7).2.1 (X.out _ hb7).2.2.1 (hown7.at encF_enc) hmf)
    clear hg7 hgn hown7 hST hnf hns hmf
    go_wp2_with fail
    refine HCk.out.mono ?_
    rintro e w8 ⟨ev, rfl, hev, hb8⟩
    have hbw8 := hb7.trans (hb8.mono hb7.size)
    have hb08 := hb07.trans (hb8.mono hb07.size)
    clear d0 d1 d2 d3 d4 d5 d6 HCk
    by_cases hck : snapCheck ns = .nil
    case neg =>
      have HBr := Lib.hid (fileBare_any E _ ev w8 hev)
      have HS2 : Hid (commitS t now id day index = zeroSn) := Lib.hid (HCS.out (by rw [HC3.out]; exact fun h => hck (noPlace_eq_nil.1 h)))
      obtain ⟨t1, x1, rfl⟩ := hev.iface hck
      clear hev hck
      have hgz := HGz.out _ hb08
      have fz : ∀ j, w8.frozen? ⟨Z, j, none⟩ = false := fun j => frozen_row hgz
      have f0 := fz 0; have f1 := fz 1; have f2 := fz 2; have f3 := fz 3; have f4 := fz 4; have f5 := fz 5; have f6 := fz 6
      obtain ⟨z0, z1, z2, z3, z4, z5, z6⟩ := rowS7 (s := zeroSn) hgz
      have HZz := Lib.hid hgz
      clear fz hgz
      go_wp2_with fail
      refine HBr.out.mono ?_
      rintro e w9 ⟨v9, rfl, hv9, rfl⟩
      have HV9 := Lib.hid hv9
      clear hv9
      go_wp2_with fail
      exact cmt_zero rfl rfl HS2.out (by rw [HC3.out]; exact HV9.out) HZz.out hbw8 HZ.out
    rw [hck] at hev
    obtain rfl : ev = .nilIface := hev
    have HC4 : Hid (commitE t now id day index = .nil) := Lib.hid (by rw [HC3.out, hck]; rfl)
    have HS4 : Hid (commitS t now id day index = ns) := Lib.hid (by unfold commitS; rw [if_pos HC4.out]; exact HNs.out)
    obtain ⟨d0, d1, d2, d3, d4, d5, d6⟩ := rowS7 (s := ns) (rowKept HGn.out hb8)
    have HO8 := Lib.hid (HO7.out.below hb8)
    clear hck
    have hgz := HGz.out _ hb08
    have fz : ∀ j, w8.frozen? ⟨Z, j, none⟩ = false := fun j => frozen_row hgz
    have f0 := fz 0; have f1 := fz 1; have f2 := fz 2; have f3 := fz 3; have f4 := fz 4; have f5 := fz 5; have f6 := fz 6
    obtain ⟨z0, z1, z2, z3, z4, z5, z6⟩ := rowS7 (s := zeroSn) hgz
    have HZz := Lib.hid hgz
    clear fz hgz
    have hz0 := hb05.size
    have hZl : Z < w5.heap.size := by have := HSz.out; have := HZe.out; omega
    go_wp2_with fail
    have HAt : FilesAt (sev w8 Z (.int .i64 ns.id) (.int .i64 ns.parent) (.int .i64 ns.seq) (.int .i64 ns.day) (.int .i64 ns.index) (S ns.op) (.slice ua un uc)) (.slice ua un uc) ns.files := At.sev HO8.out (Below.refl _ _) hZl _ _ _ _ _ _ _
    refine bodyPost_ret (ret_row rfl _ _ Z 24 #[.int .i64 ns.id, .int .i64 ns.parent, .int .i64 ns.seq, .int .i64 ns.day, .int .i64 ns.index, S ns.op, .slice ua un uc] (0, 0) _ rfl (sev_new HZz.out _ _ _ _ _ _ _) Tryz.underlying24 rfl (by kernel_rfl)) rfl ⟨.slice ua un uc, .nilIface, ?_, ?_, ?_, sev_below hbw8 HZ.out _ _ _ _ _ _ _⟩
    · rw [HS4.out]; rfl
    · rw [HS4.out]; exact HAt
    · rw [HC4.out]; rfl
end Go.Proofs.YtmhchakjkgdpmaaGreatDoor
namespace Go.Proofs.YtmhchakjkgdpmaaGreatDoor
open Go.RowKit

theorem fl_equalIn (x y : Fl) (w : World) : (Op.equalIn 10000 37 (fileV x) (fileV y)).run Tryz.prog w = .ok (decide (x = y)) w := by
  have uS := Tryz.underlying9
  have uI := Tryz.underlying3
  have aS := Tryz.isAgg9
  have aI := Tryz.isAgg3
  have zS := Tryz.sizeOf9
  have zI := Tryz.sizeOf3
  have hS : Tryz.prog.underlying 37 = some (.struct (Tryz.prog.fieldsOf 37)) := by kernel_rfl
  have hp : Tryz.prog.stoodInHeld 37 = false := by kernel_rfl
  rw [show (10000 : Nat) = 9999 + 1 from rfl, run_equalIn_agg w 9999 37 _ _ hS hp]
  simp only [Program.fieldsOf, Tryz.underlying37]
  go_simp
  cases x with
  | mk p1 q1 n1 a1 b1 s1 =>
  cases y with
  | mk p2 q2 n2 a2 b2 s2 =>
  by_cases h1 : p1 = p2 <;> by_cases h2 : q1 = q2 <;> by_cases h3 : n1 = n2 <;> by_cases h4 : a1 = a2 <;> by_cases h5 : b1 = b2 <;> by_cases h6 : s1 = s2 <;> simp [h1, h2, h3, h4, h5, h6]
theorem fl_neq (x y : Fl) (w : World) : (binOp .neq 37 (fileV x) (fileV y)).run Tryz.prog w = .ok (.bool (!decide (x = y))) w := by
  rw [run_neq_struct, fl_equalIn]; rfl
theorem fl_eql (x y : Fl) (w : World) : (binOp .eql 37 (fileV x) (fileV y)).run Tryz.prog w = .ok (.bool (decide (x = y))) w := by
  rw [run_eql_struct, fl_equalIn]; rfl
theorem fl_guard : Tryz.prog.eqGuardType Tryz.prog.depth 37 = false := by kernel_rfl
set_option maxRecDepth 20000 in
theorem sameFiles_any (v u : Value) (l m : List Fl) (w : World) (hl : FilesAt w v l) (hm : FilesAt w u m) :
    Calls Tryz.prog 78 #[v, u] w fun e w' => e = .returned (.bool (decide (l = m))) ∧ Below w.heap.size w w' := by
  obtain ⟨a, c, b, o, rfl, ha, hc, hcm, hx⟩ := hl
  obtain ⟨a', c', b', o', rfl, ha', hc', hcm', hx'⟩ := hm
  unfold maxLen at hcm hcm'
  by_cases hlen : l.length = m.length
  case neg =>
    have hne : ((l.length : Int) != (m.length : Int)) = true := by simp; omega
    go_enter Tryz.func78, Tryz.ntmps78
    go_wp2_with fail
    go_ret
    exact ⟨ret_bool (decide_eq_false fun e => hlen (by rw [e])).symm, Below.refl _ _⟩
  have hne : ((l.length : Int) != (m.length : Int)) = false := by simp [hlen]
  have Hl := Lib.hid hlen; clear hlen
  go_enter Tryz.func78, Tryz.ntmps78
  go_wp2_with fail
  go_loopw [5] (fun i wr => ∃ k : Nat, k ≤ l.length ∧ i = .int .i64 k ∧ Hid (∀ j < k, l[j]? = m[j]?) ∧ Below w.heap.size w wr) (fun i _ => l.length - (intOf i).toNat)
  case atStart => exact ⟨0, by omega, rfl, Lib.hid fun j hj => absurd hj (by omega), Below.refl _ _⟩
  case round =>
    obtain ⟨k, hk, rfl, hj, hb⟩ := hrel
    by_cases hlt : k < l.length
    case neg =>
      obtain rfl : k = l.length := by omega
      go_wp2_with fail
      go_ret
      exact ⟨ret_bool (decide_eq_true (list_ext_upto Hl.out hj.out)).symm, hb⟩
    obtain ⟨x, hxk⟩ := get_ex hlt
    obtain ⟨y, hyk⟩ := get_ex (l := m) (k := k) (by rw [← Hl.out]; exact hlt)
    obtain ⟨c0, c1, c2, c3, c4, c5⟩ := flCells hx hb hxk
    obtain ⟨d0, d1, d2, d3, d4, d5⟩ := flCells hx' hb hyk
    have i1 := idx_at (c := c) 6 Tryz.underlying22 szFl ha k hlt
    have i2 := idx_at (c := c') 6 Tryz.underlying22 szFl ha' k (by rw [← Hl.out]; exact hlt)
    have hk1 : (k : Int) < (l.length : Int) := by omega
    have hn := fl_neq x y
    have hgd := fl_guard
    have Hx := Lib.hid hxk; clear hxk
    have Hy := Lib.hid hyk; clear hyk
    go_wp2_with fail
    go_quiet (fail)
    by_cases he : x = y
    · rw [decide_eq_true he]
      have He := Lib.hid he; clear he
      go_wp2_with fail
      go_roundw
      case rel => exact ⟨k + 1, by omega, by go_num, (Lib.hid fun j hj' => by
        rcases Nat.lt_or_ge j k with h | h
        · exact hj.out j h
        · obtain rfl : j = k := by omega
          rw [Hx.out, Hy.out, He.out]), Bdn hb _⟩
      case measure => simp [intOf]; omega
    · rw [decide_eq_false he]
      have He := Lib.hid he; clear he
      go_wp2_with fail
      go_ret
      refine ⟨ret_bool (decide_eq_false fun e => He.out ?_).symm, Bdn hb _⟩
      have := Hx.out; rw [e, Hy.out] at this; exact (Option.some.inj this).symm
end Go.Proofs.YtmhchakjkgdpmaaGreatDoor
namespace Go.Proofs.YtmhchakjkgdpmaaGreatDoor
open Go.RowKit

abbrev oneF (p : Str) (n : Int) : Fl := ⟨p, [97], 1, 0, 0, n⟩
abbrev pD1 : Str := [100, 97, 116, 97, 47, 49]
abbrev pD2 : Str := [100, 97, 116, 97, 47, 50]
theorem itoa0 : Lib.itoa 0 = [48] := (Lib.itoa_nonneg 0).trans (Lib.decDigits_one (by decide))
theorem itoa1 : Lib.itoa 1 = [49] := (Lib.itoa_nonneg 1).trans (Lib.decDigits_one (by decide))
theorem itoa2 : Lib.itoa 2 = [50] := (Lib.itoa_nonneg 2).trans (Lib.decDigits_one (by decide))
theorem pathD1 : pathF pD1 = some (kData, 1) := by
  have h : numOf [49] = some 1 := by have := numOf_itoa (n := 1) (by decide) (by decide); rwa [itoa1] at this
  have hc : Lib.cut pD1 [47] = (kData, [49], true) := cut_app1 (c := 47) (p := kData) (q := [49]) (by decide)
  unfold pathF
  rw [hc]
  simp only [h]
  rfl
theorem pathD2 : pathF pD2 = some (kData, 2) := by
  have h : numOf [50] = some 2 := by have := numOf_itoa (n := 2) (by decide) (by decide); rwa [itoa2] at this
  have hc : Lib.cut pD2 [47] = (kData, [50], true) := cut_app1 (c := 47) (p := kData) (q := [50]) (by decide)
  unfold pathF
  rw [hc]
  simp only [h]
  rfl
theorem check_one {p : Str} {n : Int} (h : pathF p = some (kData, n)) : checkF (oneF p 1) = 0 := by
  refine checkF_right h ?_ (by unfold boundF farN; simp)
  have : kindF p = kData := by unfold kindF; rw [h]; rfl
  show partOk (kindF p) [97] = true
  rw [this]; decide
theorem keyD1 : keyP pD1 = 2147483649 := by unfold keyP; rw [pathD1]; rfl
theorem keyD2 : keyP pD2 = 2147483650 := by unfold keyP; rw [pathD2]; rfl
theorem right_two : RightL [oneF pD1 1, oneF pD2 1] :=
  ⟨by decide, fun f hf => by
    rcases List.mem_cons.1 hf with rfl | hf
    · exact check_one pathD1
    · obtain rfl := List.mem_singleton.1 hf
      exact check_one pathD2, List.pairwise_cons.2 ⟨fun g hg => by
    obtain rfl := List.mem_singleton.1 hg
    show keyP pD1 < keyP pD2
    rw [keyD1, keyD2]; decide, by simp⟩⟩
theorem text_two : listText [oneF pD1 1, oneF pD2 1] = [100, 97, 116, 97, 47, 49, 32, 97, 32, 49, 32, 48, 32, 48, 32, 49, 10, 100, 97, 116, 97, 47, 50, 32, 97, 32, 49, 32, 48, 32, 48, 32, 49, 10] := by
  simp [listText, fileLine, numsTail, itoa0, itoa1]

theorem file_new (f : Fl) (w : World) (t : TypeId) (H : Nat) (hH : w.heap.size = H) : FilesAt (w.alloc (.cells #[S f.path, S f.part, .int .i64 f.n, .int .i64 f.lo, .int .i64 f.hi, .int .i64 f.seq] t)) (.slice (some ⟨H, 0, none⟩) 1 1) [f] := by
  subst hH
  refine ⟨_, _, w.heap.size, 0, rfl, fun _ => rfl, Nat.le_refl 1, (by decide : 1 ≤ maxLen), fun k z hk j u hu => ?_⟩
  have hk' : k = 0 := by
    rcases Nat.eq_zero_or_pos k with h | h
    · exact h
    · rw [List.getElem?_eq_none (by simp; omega)] at hk; cases hk
  subst hk'
  obtain rfl : f = z := by simpa using hk
  rw [cell_of_row (w.alloc _) w.heap.size _ _ t (0, 0) (heap_alloc_new w _)]
  simpa using hu
end Go.Proofs.YtmhchakjkgdpmaaGreatDoor
namespace Go.Proofs.YtmhchakjkgdpmaaGreatDoor
open Go.RowKit

def firstSn : Sn := ⟨1, 0, 0, 0, 0, kStart, []⟩
theorem right_first : RightSn firstSn := ⟨by decide, by decide, ⟨by decide, fun f h => absurd h (by simp [firstSn]), by simp [firstSn]⟩, fun f h => absurd h (by simp [firstSn])⟩
theorem text_first : snapText firstSn = [115, 110, 97, 112, 32, 49, 32, 48, 32, 48, 32, 48, 32, 48, 32, 115, 116, 97, 114, 116, 32, 48, 10] := by
  have h : sumOf (listText firstSn.files) = 0 := by decide
  unfold snapText
  rw [h]
  simp [snapHead, numsTail, firstSn, listText, itoa0, itoa1]

theorem snapFirst_any (w : World) : Calls Tryz.prog 59 #[] w fun e w' => e = .returned (snapV firstSn (.slice none 0 0)) ∧ Below w.heap.size w w' := by
  go_enter Tryz.func59, Tryz.ntmps59
  go_wp2_with fail
  exact bodyPost_ret (results_cell_row rfl _ _ w.heap.size _ _ (0, 0) _ rfl (heap_alloc_new w _) Tryz.underlying24 rfl (by kernel_rfl)) rfl ⟨rfl, (Below.refl _ _).alloc (Nat.le_refl _) _⟩

theorem own_low {α : Type} {enc : α → List Value} {e : TypeId} {sz B B' : Nat} {w : World} {v : Value} {l : List α} (h : Own enc e sz B' w v l) (hB : B ≤ B') : Own enc e sz B w v l := by
  obtain ⟨h1, h2⟩ := h
  refine ⟨h1, ?_⟩
  rcases h2 with h0 | ⟨g, cap, cur, hv, hg, rest⟩
  · exact .inl h0
  · exact .inr ⟨g, cap, cur, hv, Nat.le_trans hB hg, rest⟩
set_option maxRecDepth 20000 in
theorem ownSnapO_any (s : Sn) (v : Value) (w : World) (hl : FilesAt w v s.files) (hn : s.files.length ≤ 100000) :
    Calls Tryz.prog 15 #[snapV s v] w fun e w' => ∃ u, e = .returned (snapV s u) ∧ Own encF 37 6 w.heap.size w' u s.files ∧ Below w.heap.size w w' := by
  obtain ⟨w1, hw1⟩ : ∃ w1, w1 = w.alloc (.cells #[.int .i64 s.id, .int .i64 s.parent, .int .i64 s.seq, .int .i64 s.day, .int .i64 s.index, S s.op, v] 24) := ⟨_, rfl⟩
  have hb1 : Below w.heap.size w w1 := hw1 ▸ (Below.refl _ _).alloc (Nat.le_refl _) _
  have hs1 : w1.heap.size = w.heap.size + 1 := by rw [hw1]; simp
  have hba : Below w1.heap.size w1 (w1.alloc (.cells #[.int .i64 0, .int .i64 0, .int .i64 0, .int .i64 0, .int .i64 0, S [], .slice none 0 0] 24)) := (Below.refl _ _).alloc (Nat.le_refl _) _
  have CS := Lib.hid (fun w6 (h : Below w1.heap.size w1 w6) => snapCells (s := s) (v := v) (t := 24) (hw1 ▸ h))
  have HGs := Lib.hid (fun w6 (h : Below w1.heap.size w1 w6) => (h.block w.heap.size (by omega)).trans (hw1 ▸ heap_alloc_new w _ : w1.heap[w.heap.size]? = some (.cells #[.int .i64 s.id, .int .i64 s.parent, .int .i64 s.seq, .int .i64 s.day, .int .i64 s.index, S s.op, v] 24)))
  have HW := Lib.hid hw1
  have CZ := Lib.hid (fun w6 (h : Below (w1.alloc (.cells #[.int .i64 0, .int .i64 0, .int .i64 0, .int .i64 0, .int .i64 0, S [], .slice none 0 0] 24)).heap.size (w1.alloc (.cells #[.int .i64 0, .int .i64 0, .int .i64 0, .int .i64 0, .int .i64 0, S [], .slice none 0 0] 24)) w6) => snapCells (s := zeroSn) (v := .slice none 0 0) h)
  have HGz := Lib.hid (fun w6 (h : Below (w1.alloc (.cells #[.int .i64 0, .int .i64 0, .int .i64 0, .int .i64 0, .int .i64 0, S [], .slice none 0 0] 24)).heap.size (w1.alloc (.cells #[.int .i64 0, .int .i64 0, .int .i64 0, .int .i64 0, .int .i64 0, S [], .slice none 0 0] 24)) w6) => (h.block w1.heap.size (by simp)).trans (heap_alloc_new w1 (.cells #[.int .i64 0, .int .i64 0, .int .i64 0, .int .i64 0, .int .i64 0, S [], .slice none 0 0] 24)))
  have HSz : Hid ((w1.alloc (.cells #[.int .i64 0, .int .i64 0, .int .i64 0, .int .i64 0, .int .i64 0, S [], .slice none 0 0] 24)).heap.size = w.heap.size + 2) := Lib.hid (by simp [hs1])
  go_enter Tryz.func15, Tryz.ntmps15
  obtain ⟨c0, c1, c2, c3, c4, c5, c6⟩ := CS.out _ hba
  go_wp2_with fail
  rw [← HW.out]
  generalize w1.alloc (.cells #[.int .i64 0, .int .i64 0, .int .i64 0, .int .i64 0, .int .i64 0, S [], .slice none 0 0] 24) = w2 at *
  refine (ownFiles_any v s.files w2 (hl.below (hb1.trans (hba.mono hb1.size))) hn).mono ?_
  rintro e w3 ⟨u, rfl, hown, hb3⟩
  have hb13 := hba.trans (hb3.mono hba.size)
  have hb03 := hb1.trans (hb13.mono hb1.size)
  clear c0 c1 c2 c3 c4 c5 c6
  obtain ⟨c0, c1, c2, c3, c4, c5, c6⟩ := CS.out _ hb13
  obtain ⟨d0, d1, d2, d3, d4, d5, d6⟩ := CZ.out _ hb3
  rw [hs1] at d0 d1 d2 d3 d4 d5 d6
  have hg1 := HGs.out _ hb13
  have hg2 := HGz.out _ hb3
  rw [hs1] at hg2
  have f6 : w3.frozen? ⟨w.heap.size, 6, none⟩ = false := frozen_row hg1
  have fz : ∀ j, w3.frozen? ⟨w.heap.size + 1, j, none⟩ = false := fun j => frozen_row hg2
  have e0 := fz 0; have e1 := fz 1; have e2 := fz 2; have e3 := fz 3; have e4 := fz 4; have e5 := fz 5; have e6 := fz 6
  have HG2 := Lib.hid hg2
  clear fz hg1 hg2
  have hne : ¬ (w.heap.size + 1 = w.heap.size) := by omega
  obtain ⟨au, nu, cu, rfl⟩ : ∃ au nu cu, u = .slice au nu cu := by
    obtain ⟨a', c', h', -⟩ := (hown.at encF_enc).form'
    exact ⟨_, _, _, h'⟩
  go_wp2_with fail
  refine bodyPost_ret (results_cell_row rfl _ _ (w.heap.size + 1) 24 #[.int .i64 s.id, .int .i64 s.parent, .int .i64 s.seq, .int .i64 s.day, .int .i64 s.index, S s.op, .slice au nu cu] (0, 0) _ rfl (sev_new ((heap_setCell_other _ _ _ _ (by simp)).trans HG2.out) _ _ _ _ _ _ _) Tryz.underlying24 rfl (by kernel_rfl)) rfl ⟨_, rfl, ?_, ?_⟩
  · have hz := HSz.out
    have k0 : w.heap.size < w2.heap.size := by omega
    have k1 : w.heap.size + 1 < w2.heap.size := by omega
    exact own_low ((((((((hown.store k0 6 _).store k1 0 _).store k1 1 _).store k1 2 _).store k1 3 _).store k1 4 _).store k1 5 _).store k1 6 _) (by omega)
  · exact sev_below (hb03.setCell (p := ⟨w.heap.size, 6, none⟩) (Nat.le_refl _) _) (by omega) _ _ _ _ _ _ _
theorem ownSnap_any (s : Sn) (v : Value) (w : World) (hl : FilesAt w v s.files) (hn : s.files.length ≤ 100000) :
    Calls Tryz.prog 15 #[snapV s v] w fun e w' => ∃ u, e = .returned (snapV s u) ∧ FilesAt w' u s.files ∧ Below w.heap.size w w' :=
  (ownSnapO_any s v w hl hn).mono fun _ _ ⟨u, h1, h2, h3⟩ => ⟨u, h1, h2.at encF_enc, h3⟩

set_option maxRecDepth 20000 in
theorem longSnap_any (s : Sn) (v : Value) (w : World) (hl : FilesAt w v s.files) :
    Calls Tryz.prog 12 #[snapV s v] w fun e w' => (e = .returned (.int .i64 1) ∨ (e = .returned (.int .i64 0) ∧ s.op.length ≤ 30 ∧ s.files.length ≤ 61 ∧ ∀ f ∈ s.files, shortF f)) ∧ Below w.heap.size w w' := by
  have hb0 : Below w.heap.size w (w.alloc (.cells #[.int .i64 s.id, .int .i64 s.parent, .int .i64 s.seq, .int .i64 s.day, .int .i64 s.index, S s.op, v] 24)) := (Below.refl _ _).alloc (Nat.le_refl _) _
  obtain ⟨c0, c1, c2, c3, c4, c5, c6⟩ := snapCells (s := s) (v := v) (t := 24) (Below.refl _ (w.alloc (.cells #[.int .i64 s.id, .int .i64 s.parent, .int .i64 s.seq, .int .i64 s.day, .int .i64 s.index, S s.op, v] 24)))
  have hL := longFiles_any v s.files (w.alloc (.cells #[.int .i64 s.id, .int .i64 s.parent, .int .i64 s.seq, .int .i64 s.day, .int .i64 s.index, S s.op, v] 24)) (hl.below hb0)
  have HL := Lib.hid hL; clear hL
  by_cases h1 : s.op.length ≤ 30
  · have g1 : decide ((30 : Int) < (s.op.length : Int)) = false := by simp; omega
    go_enter Tryz.func12, Tryz.ntmps12
    go_wp2_with fail
    refine HL.out.mono ?_
    rintro e w2 ⟨he, hb2⟩
    have hb2' := hb0.trans (hb2.mono hb0.size)
    clear c0 c1 c2 c3 c4 c5 c6
    rcases he with rfl | ⟨rfl, hlen, hsh⟩
    · go_wp2_with fail
      go_ret
      exact ⟨.inl rfl, hb2'⟩
    · have HS := Lib.hid hsh; clear hsh
      go_wp2_with fail
      go_ret
      exact ⟨.inr ⟨rfl, h1, hlen, HS.out⟩, hb2'⟩
  · have g1 : (30 : Int) < (s.op.length : Int) := by omega
    clear h1
    go_enter Tryz.func12, Tryz.ntmps12
    go_wp2_with fail
    go_ret
    exact ⟨.inl rfl, hb0⟩

theorem sn_ways (a b : Sn) : (decide (a = b) = false ∧ ((a.id != b.id) = true ∨ ((a.id != b.id) = false ∧ ((a.parent != b.parent) = true ∨ ((a.parent != b.parent) = false ∧ ((a.seq != b.seq) = true ∨ ((a.seq != b.seq) = false ∧ ((a.day != b.day) = true ∨ ((a.day != b.day) = false ∧ (a.index != b.index) = true)))))))) ) ∨
    ((a.id != b.id) = false ∧ (a.parent != b.parent) = false ∧ (a.seq != b.seq) = false ∧ (a.day != b.day) = false ∧ (a.index != b.index) = false ∧ decide (a = b) = ((a.op == b.op) && decide (a.files = b.files))) := by
  obtain ⟨a1, a2, a3, a4, a5, a6, a7⟩ := a
  obtain ⟨b1, b2, b3, b4, b5, b6, b7⟩ := b
  by_cases h1 : a1 = b1 <;> by_cases h2 : a2 = b2 <;> by_cases h3 : a3 = b3 <;> by_cases h4 : a4 = b4 <;> by_cases h5 : a5 = b5 <;> simp [h1, h2, h3, h4, h5]
  rw [Bool.eq_iff_iff]; simp
set_option maxHeartbeats 1000000 in
set_option maxRecDepth 20000 in
theorem sameSnap_any (a b : Sn) (u v : Value) (w : World) (ha : FilesAt w u a.files) (hb : FilesAt w v b.files) :
    Calls Tryz.prog 28 #[snapV a u, snapV b v] w fun e w' => e = .returned (.bool (decide (a = b))) ∧ Below w.heap.size w w' := by
  obtain ⟨w1, hw1⟩ : ∃ w1, w1 = w.alloc (.cells #[.int .i64 a.id, .int .i64 a.parent, .int .i64 a.seq, .int .i64 a.day, .int .i64 a.index, S a.op, u] 24) := ⟨_, rfl⟩
  have hb1 : Below w.heap.size w w1 := hw1 ▸ (Below.refl _ _).alloc (Nat.le_refl _) _
  obtain ⟨w2, hw2⟩ : ∃ w2, w2 = w1.alloc (.cells #[.int .i64 b.id, .int .i64 b.parent, .int .i64 b.seq, .int .i64 b.day, .int .i64 b.index, S b.op, v] 24) := ⟨_, rfl⟩
  have hb12 : Below w1.heap.size w1 w2 := hw2 ▸ (Below.refl _ _).alloc (Nat.le_refl _) _
  have hb2 := hb1.trans (hb12.mono hb1.size)
  obtain ⟨c0, c1, c2, c3, c4, c5, c6⟩ := snapCells (s := a) (v := u) (t := 24) (hw1 ▸ hb12)
  obtain ⟨d0, d1, d2, d3, d4, d5, d6⟩ := snapCells (w := w1) (s := b) (v := v) (t := 24) (w6 := w2) (by rw [hw2]; exact Below.refl _ _)
  have hs1 : w1.heap.size = w.heap.size + 1 := by rw [hw1]; simp
  rw [hs1] at d0 d1 d2 d3 d4 d5 d6
  have hS := sameFiles_any u v a.files b.files w2 (ha.below hb2) (hb.below hb2)
  have HSm := Lib.hid hS
  clear hS hs1
  rcases sn_ways a b with ⟨hne, hw⟩ | ⟨g1, g2, g3, g4, g5, he⟩
  · rw [hne]
    clear hne
    rcases hw with g1 | ⟨g1, g2 | ⟨g2, g3 | ⟨g3, g4 | ⟨g4, g5⟩⟩⟩⟩
    all_goals
      go_enter Tryz.func28, Tryz.ntmps28
      go_wp2_with fail
      rw [← hw1, ← hw2]
      go_wp2_with fail
      go_ret
      exact ⟨rfl, hb2⟩
  rw [he]
  clear he
  by_cases ho : a.op = b.op
  · have g6 : (a.op == b.op) = true := by simpa using ho
    rw [g6, Bool.true_and]
    clear ho
    go_enter Tryz.func28, Tryz.ntmps28
    go_wp2_with fail
    rw [← hw1, ← hw2]
    go_wp2_with fail
    refine HSm.out.mono ?_
    rintro e w3 ⟨rfl, hb3⟩
    go_wp2_with fail
    go_ret
    exact ⟨rfl, hb2.trans (hb3.mono hb2.size)⟩
  · have g6 : (a.op == b.op) = false := by simpa using ho
    rw [g6, Bool.false_and]
    clear ho
    go_enter Tryz.func28, Tryz.ntmps28
    go_wp2_with fail
    rw [← hw1, ← hw2]
    go_wp2_with fail
    go_ret
    exact ⟨rfl, hb2⟩

end Go.Proofs.YtmhchakjkgdpmaaGreatDoor
namespace Go.Proofs.YtmhchakjkgdpmaaGreatDoor
open Go.RowKit

/-- A change: add a file, or remove a path. -/
structure Ch where
  add : Bool
  file : Fl
  path : Str
abbrev encCh (c : Ch) : List Value := [.bool c.add, S c.file.path, S c.file.part, .int .i64 c.file.n, .int .i64 c.file.lo, .int .i64 c.file.hi, .int .i64 c.file.seq, S c.path]
theorem encCh_enc : Enc encCh 8 := fun c => ⟨rfl, by simp [Value.oneCell']⟩
abbrev ChangesAt (w : World) (v : Value) (l : List Ch) : Prop := At encCh 8 w v l
abbrev chO (c : Ch) : Obj := .cells #[.bool c.add, S c.file.path, S c.file.part, .int .i64 c.file.n, .int .i64 c.file.lo, .int .i64 c.file.hi, .int .i64 c.file.seq, S c.path] 39
theorem szCh (w : World) : (sizeOf 39).run Tryz.prog w = .ok 8 w := by kernel_rfl
/-- A round's cells. -/
theorem chCells {w w' : World} {b o : Nat} {l : List Ch} {k : Nat} {x : Ch} (hx : ∀ (k : Nat) (x : Ch), l[k]? = some x → ∀ (j : Nat) (u : Value), (encCh x)[j]? = some u → w.cell? ⟨b, o + k * 8 + j, none⟩ = some u) (hb : Below w.heap.size w w') (hk : l[k]? = some x) :
    w'.cell? ⟨b, o + k * 8, none⟩ = some (.bool x.add) ∧ w'.cell? ⟨b, o + k * 8 + 1, none⟩ = some (S x.file.path) ∧ w'.cell? ⟨b, o + k * 8 + 2, none⟩ = some (S x.file.part) ∧ w'.cell? ⟨b, o + k * 8 + 3, none⟩ = some (.int .i64 x.file.n) ∧ w'.cell? ⟨b, o + k * 8 + 4, none⟩ = some (.int .i64 x.file.lo) ∧ w'.cell? ⟨b, o + k * 8 + 5, none⟩ = some (.int .i64 x.file.hi) ∧ w'.cell? ⟨b, o + k * 8 + 6, none⟩ = some (.int .i64 x.file.seq) ∧ w'.cell? ⟨b, o + k * 8 + 7, none⟩ = some (S x.path) := by
  have h := fun j u hu => by
    have := hx k x hk j u hu
    exact (hb.cell (World.block_lt_of_cell? w _ this)).trans this
  exact ⟨h 0 _ rfl, h 1 _ rfl, h 2 _ rfl, h 3 _ rfl, h 4 _ rfl, h 5 _ rfl, h 6 _ rfl, h 7 _ rfl⟩
end Go.Proofs.YtmhchakjkgdpmaaGreatDoor
