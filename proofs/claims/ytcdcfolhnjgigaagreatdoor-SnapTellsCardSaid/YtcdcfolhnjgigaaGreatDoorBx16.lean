/- deedboxref2.ReadSnap: the walk. deedboxref2.SnapText: the walk. Printed by gen_st.py. -/
import Derived.Test.YtcdcfolhnjgigaaGreatDoorBx13
import Derived.Test.YtcdcfolhnjgigaaGreatDoorBx14
import Derived.Test.YtcdcfolhnjgigaaGreatDoorBx15
import Derived.Deep.CutBlock
import Derived.Deep.DeepCutAuto
import Derived.Deep.RegionWith
import Derived.Deep.RegionLaw
import Derived.Test.YtcdcfolhnjgigaaGreatDoorBx12
import Derived.Test.YtcdcfolhnjgigaaGreatDoorBx9
namespace Go.Proofs.YtcdcfolhnjgigaaGreatDoor
open Go.RowKit
attribute [local go_sem] bget

/-- Two results that are variables in memory. -/
theorem results_cells2 {P : Program} {fn : Func} {p q : Tmp} {t1 t2 : TypeId} (h : fn.results = #[.cell p t1, .cell q t2]) (tmps : Array Value) (w : World) (g1 g2 : Nat) (e1 e2 : TypeId) (cs1 cs2 : Array Value) (r1 r2 : Nat × Nat) (d1 d2 : TypeDesc)
    (hp : tmps.getD p undef = .pointer (some ⟨g1, 0, none⟩)) (hq : tmps.getD q undef = .pointer (some ⟨g2, 0, none⟩)) (hg1 : w.heap[g1]? = some (.cells cs1 e1 r1)) (hg2 : w.heap[g2]? = some (.cells cs2 e2 r2))
    (hu1 : P.underlying t1 = some d1) (hd1 : (match d1 with | .struct _ | .array _ _ => true | _ => false) = true) (hi1 : (P.info? t1).map (·.size) = some cs1.size)
    (hu2 : P.underlying t2 = some d2) (hd2 : (match d2 with | .struct _ | .array _ _ => true | _ => false) = true) (hi2 : (P.info? t2).map (·.size) = some cs2.size) :
    (results fn tmps).run P w = .ok (.tuple #[.agg cs1, .agg cs2]) w := by
  have hp' : tmps[p]?.getD undef = .pointer (some ⟨g1, 0, none⟩) := by simpa using hp
  have hq' : tmps[q]?.getD undef = .pointer (some ⟨g2, 0, none⟩) := by simpa using hq
  simp [results, h, hp', hq', asAddr, run_loadVar_row w g1 e1 t1 cs1 r1 d1 hg1 hu1 hd1 hi1, run_loadVar_row w g2 e2 t2 cs2 r2 d2 hg2 hu2 hd2 hi2]
theorem sev_other {w : World} {g k : Nat} (h : g ≠ k) (b0 b1 b2 b3 b4 b5 b6 : Value) : (sev w g b0 b1 b2 b3 b4 b5 b6).heap[k]? = w.heap[k]? := by
  have e : ∀ (W : World) (j : Nat) (x : Value), (W.setCell ⟨g, j, none⟩ x).heap[k]? = W.heap[k]? := fun W j x => heap_setCell_other _ _ _ _ h.symm
  simp only [sev, e]
theorem two_other {w : World} {g k : Nat} (h : g ≠ k) (x y : Value) : ((w.setCell ⟨g, 0, none⟩ x).setCell ⟨g, 1, none⟩ y).heap[k]? = w.heap[k]? := by
  have e : ∀ (W : World) (j : Nat) (x : Value), (W.setCell ⟨g, j, none⟩ x).heap[k]? = W.heap[k]? := fun W j x => heap_setCell_other _ _ _ _ h.symm
  simp only [e]
/-- Files do not lie where no two texts stand side by side. -/
theorem FilesAt.kept {w w' : World} {v : Value} {l : List Fl} {gs : Nat → Prop} (h : FilesAt w v l) (hno : ∀ g, gs g → ∀ (o : Nat) (p q : Str), ¬ (w.cell? ⟨g, o, none⟩ = some (S p) ∧ w.cell? ⟨g, o + 1, none⟩ = some (S q))) (hw : ∀ a : Addr, ¬ gs a.block → w'.cell? a = w.cell? a) : FilesAt w' v l := by
  obtain ⟨a, c, b, o, hv, ha, hc, hm, hx⟩ := h
  refine ⟨a, c, b, o, hv, ha, hc, hm, fun k x hk j u hu => ?_⟩
  have hb : ¬ gs b := fun hg => hno b hg (o + k * 6) x.path x.part ⟨by simpa using hx k x hk 0 _ rfl, hx k x hk 1 _ rfl⟩
  exact (hw _ hb).trans (hx k x hk j u hu)
theorem numsOf_snoc (l : List Str) (g : Str) : numsOf (l ++ [g]) = (numsOf l).bind fun ys => (numOf g).map fun y => ys ++ [y] := mapM_snoc numOf l g

abbrev z7c : Array Value := #[.int .i64 0, .int .i64 0, .int .i64 0, .int .i64 0, .int .i64 0, S [], .slice none 0 0]
theorem zero_facts {W : World} {A : Nat} {t : TypeId} (h : W.heap[A]? = some (.cells z7c t (0, 0))) : (∀ j, W.frozen? ⟨A, j, none⟩ = false) ∧ W.cell? ⟨A, 0, none⟩ = some (.int .i64 0) ∧ W.cell? ⟨A, 1, none⟩ = some (.int .i64 0) ∧ W.cell? ⟨A, 2, none⟩ = some (.int .i64 0) ∧ W.cell? ⟨A, 3, none⟩ = some (.int .i64 0) ∧ W.cell? ⟨A, 4, none⟩ = some (.int .i64 0) ∧ W.cell? ⟨A, 5, none⟩ = some (S []) ∧ W.cell? ⟨A, 6, none⟩ = some (.slice none 0 0) := by
  refine ⟨fun j => frozen_row h, ?_, ?_, ?_, ?_, ?_, ?_, ?_⟩ <;> (rw [cell_of_row W _ _ _ _ (0, 0) h]; rfl)
theorem zero_two {W : World} {A : Nat} {t : TypeId} (h : W.heap[A]? = some (.cells #[.int .i64 0, .int .i64 0] t (0, 0))) : (∀ j, W.frozen? ⟨A, j, none⟩ = false) ∧ W.cell? ⟨A, 0, none⟩ = some (.int .i64 0) ∧ W.cell? ⟨A, 1, none⟩ = some (.int .i64 0) := by
  refine ⟨fun j => frozen_row h, ?_, ?_⟩ <;> (rw [cell_of_row W _ _ _ _ (0, 0) h]; rfl)

def ReadSnapPost (w : World) (s : Str) (e : Ending) (w' : World) : Prop := ∃ u, e = .returned (.tuple #[snapV (snapRead s).1 u, faultOf (snapRead s).2]) ∧ FilesAt w' u (snapRead s).1.files ∧ Below w.heap.size w w'
/-- The two variables of the result, turned. -/
theorem readSnap_done {w W : World} {s : Str} {tmps : Array Value} (hp : tmps.getD 2 undef = .pointer (some ⟨w.heap.size, 0, none⟩)) (hq : tmps.getD 3 undef = .pointer (some ⟨w.heap.size + 1, 0, none⟩)) {x : Sn} {u : Value} {er : Er} (hr : snapRead s = (x, er))
    (hA : W.heap[w.heap.size]? = some (.cells #[.int .i64 x.id, .int .i64 x.parent, .int .i64 x.seq, .int .i64 x.day, .int .i64 x.index, S x.op, u] 58 (0, 0))) (hF : W.heap[w.heap.size + 1]? = some (.cells #[.int .i64 (er.code : Int), .int .i64 er.place] 62 (0, 0)))
    (hu : FilesAt W u x.files) (hb : Below w.heap.size w W) : bodyPost Tryz.prog Tryz.f41 (ReadSnapPost w s) .ret ⟨tmps, []⟩ W := by
  refine bodyPost_ret (results_cells2 rfl tmps W w.heap.size (w.heap.size + 1) _ _ _ _ _ _ _ _ hp hq hA hF Tryz.underlying58 rfl (by kernel_rfl) Tryz.underlying62 rfl (by kernel_rfl)) rfl ⟨u, ?_, ?_, hb⟩
  · rw [hr]; rfl
  · rw [hr]; exact hu
theorem five_ints {l : List Int} (h : l.length = 5) : ∃ a b c d e, l = [a, b, c, d, e] := by
  match l, h with
  | [a, b, c, d, e], _ => exact ⟨a, b, c, d, e, rfl⟩
theorem bad_end {w W : World} {s : Str} {tmps : Array Value} (hp : tmps.getD 2 undef = .pointer (some ⟨w.heap.size, 0, none⟩)) (hq : tmps.getD 3 undef = .pointer (some ⟨w.heap.size + 1, 0, none⟩)) {er : Er} {cc pp : Int} (hr : snapRead s = (zeroSn, er)) (hcc : (er.code : Int) = cc) (hpp : er.place = pp)
    (hA : W.heap[w.heap.size]? = some (.cells z7c 58 (0, 0))) (hF : W.heap[w.heap.size + 1]? = some (.cells #[.int .i64 0, .int .i64 0] 62 (0, 0))) (hb : Below w.heap.size w W) :
    bodyPost Tryz.prog Tryz.f41 (ReadSnapPost w s) .ret ⟨tmps, []⟩ (((sev W w.heap.size (.int .i64 0) (.int .i64 0) (.int .i64 0) (.int .i64 0) (.int .i64 0) (S []) (.slice none 0 0)).setCell ⟨w.heap.size + 1, 0, none⟩ (.int .i64 cc)).setCell ⟨w.heap.size + 1, 1, none⟩ (.int .i64 pp)).drew := by
  subst hcc hpp
  have h1 : (((sev W w.heap.size (.int .i64 0) (.int .i64 0) (.int .i64 0) (.int .i64 0) (.int .i64 0) (S []) (.slice none 0 0)).setCell ⟨w.heap.size + 1, 0, none⟩ (.int .i64 (er.code : Int))).setCell ⟨w.heap.size + 1, 1, none⟩ (.int .i64 er.place)).heap[w.heap.size]? = some (.cells z7c 58 (0, 0)) := (two_other (g := w.heap.size + 1) (k := w.heap.size) (by omega) _ _).trans (sev_new hA _ _ _ _ _ _ _)
  have h3 : Below w.heap.size w (((sev W w.heap.size (.int .i64 0) (.int .i64 0) (.int .i64 0) (.int .i64 0) (.int .i64 0) (S []) (.slice none 0 0)).setCell ⟨w.heap.size + 1, 0, none⟩ (.int .i64 (er.code : Int))).setCell ⟨w.heap.size + 1, 1, none⟩ (.int .i64 er.place)) := ((sev_below hb (Nat.le_refl _) _ _ _ _ _ _ _).setCell (p := ⟨w.heap.size + 1, 0, none⟩) (by simp) _).setCell (p := ⟨w.heap.size + 1, 1, none⟩) (by simp) _
  have h2 := set_two (w := sev W w.heap.size (.int .i64 0) (.int .i64 0) (.int .i64 0) (.int .i64 0) (.int .i64 0) (S []) (.slice none 0 0)) (g := w.heap.size + 1) ((sev_other (w := W) (g := w.heap.size) (k := w.heap.size + 1) (by omega) (.int .i64 0) (.int .i64 0) (.int .i64 0) (.int .i64 0) (.int .i64 0) (S []) (.slice none 0 0)).trans hF) (.int .i64 (er.code : Int)) (.int .i64 er.place)
  exact readSnap_done hp hq hr (by rw [World.heap_drew]; exact h1) (by rw [World.heap_drew]; exact h2) (At.nil _ _ _) (Bdn h3 1)
theorem sev_low {w : World} {g : Nat} {a : Addr} (h : a.block ≠ g) (b0 b1 b2 b3 b4 b5 b6 x y : Value) (k : Nat) (hk : a.block ≠ k) : (((sev w g b0 b1 b2 b3 b4 b5 b6).setCell ⟨k, 0, none⟩ x).setCell ⟨k, 1, none⟩ y).cell? a = w.cell? a := by
  rw [World.cell?_setCell_other _ _ _ _ (fun e => hk (by cases e; rfl)), World.cell?_setCell_other _ _ _ _ (fun e => hk (by cases e; rfl))]
  exact sev_cell h b0 b1 b2 b3 b4 b5 b6
theorem good_end {w W : World} {s : Str} {tmps : Array Value} (hp : tmps.getD 2 undef = .pointer (some ⟨w.heap.size, 0, none⟩)) (hq : tmps.getD 3 undef = .pointer (some ⟨w.heap.size + 1, 0, none⟩)) {x : Sn} {u : Value} (hr : snapRead s = (x, .nil))
    (hA : W.heap[w.heap.size]? = some (.cells z7c 58 (0, 0))) (hF : W.heap[w.heap.size + 1]? = some (.cells #[.int .i64 0, .int .i64 0] 62 (0, 0))) (hu : FilesAt W u x.files) (hb : Below w.heap.size w W) :
    bodyPost Tryz.prog Tryz.f41 (ReadSnapPost w s) .ret ⟨tmps, []⟩ (((sev W w.heap.size (.int .i64 x.id) (.int .i64 x.parent) (.int .i64 x.seq) (.int .i64 x.day) (.int .i64 x.index) (S x.op) u).setCell ⟨w.heap.size + 1, 0, none⟩ (.int .i64 0)).setCell ⟨w.heap.size + 1, 1, none⟩ (.int .i64 (-1))) := by
  have h1 := (two_other (w := sev W w.heap.size (.int .i64 x.id) (.int .i64 x.parent) (.int .i64 x.seq) (.int .i64 x.day) (.int .i64 x.index) (S x.op) u) (g := w.heap.size + 1) (k := w.heap.size) (by omega) (.int .i64 0) (.int .i64 (-1))).trans (sev_new hA (.int .i64 x.id) (.int .i64 x.parent) (.int .i64 x.seq) (.int .i64 x.day) (.int .i64 x.index) (S x.op) u)
  have h2 := set_two (w := sev W w.heap.size (.int .i64 x.id) (.int .i64 x.parent) (.int .i64 x.seq) (.int .i64 x.day) (.int .i64 x.index) (S x.op) u) (g := w.heap.size + 1) ((sev_other (w := W) (g := w.heap.size) (k := w.heap.size + 1) (by omega) (.int .i64 x.id) (.int .i64 x.parent) (.int .i64 x.seq) (.int .i64 x.day) (.int .i64 x.index) (S x.op) u).trans hF) (.int .i64 0) (.int .i64 (-1))
  have h3 := ((sev_below hb (Nat.le_refl _) (.int .i64 x.id) (.int .i64 x.parent) (.int .i64 x.seq) (.int .i64 x.day) (.int .i64 x.index) (S x.op) u).setCell (p := ⟨w.heap.size + 1, 0, none⟩) (by simp) (.int .i64 0)).setCell (p := ⟨w.heap.size + 1, 1, none⟩) (by simp) (.int .i64 (-1))
  refine readSnap_done hp hq (er := .nil) hr h1 h2 ?_ h3
  refine FilesAt.kept (gs := fun g => g = w.heap.size ∨ g = w.heap.size + 1) hu ?_ ?_
  · rintro g (rfl | rfl) o p q ⟨c1, c2⟩
    · rw [cell_of_row W _ _ _ _ (0, 0) hA] at c1 c2
      rcases Nat.lt_or_ge o 7 with h | h
      · have : o = 0 ∨ o = 1 ∨ o = 2 ∨ o = 3 ∨ o = 4 ∨ o = 5 ∨ o = 6 := by omega
        rcases this with rfl | rfl | rfl | rfl | rfl | rfl | rfl <;> simp at c1 c2
      · rw [Array.getElem?_eq_none (by simpa using h)] at c1; cases c1
    · rw [cell_of_row W _ _ _ _ (0, 0) hF] at c1
      rcases Nat.lt_or_ge o 2 with h | h
      · have : o = 0 ∨ o = 1 := by omega
        rcases this with rfl | rfl <;> simp at c1
      · rw [Array.getElem?_eq_none (by simpa using h)] at c1; cases c1
  · intro a ha
    exact sev_low (fun e => ha (.inl e)) _ _ _ _ _ _ _ _ _ _ (fun e => ha (.inr e))
theorem listRead_code {s : Str} (h : listReadE s ≠ .nil) : 0 < (listReadE s).code := by
  unfold listReadE linesE at h ⊢
  split
  · decide
  · rename_i h0
    rw [if_neg h0] at h
    exact firstFrom_code h
theorem snapCheck_code {s : Sn} (h : snapCheck s ≠ .nil) : 0 < (snapCheck s).code := by
  unfold snapCheck at h ⊢
  split
  · decide
  · rename_i h0
    rw [if_neg h0] at h
    split
    · decide
    · rename_i h1
      rw [if_neg h1] at h
      split
      · rename_i h2; exact listCheck_code' h2
      · rename_i h2
        rw [if_neg h2] at h
        exact firstFrom_code h
theorem no10 {s : Str} {k : Nat} (h : ∀ j < k, ∀ x, s[j]? = some x → x ≠ 10) : (10 : UInt8) ∉ s.take k := fun hm => by
  obtain ⟨j, hj⟩ := List.getElem?_of_mem hm
  have hjl := (List.getElem?_eq_some_iff.1 hj).1
  rw [List.length_take] at hjl
  rw [List.getElem?_take_of_lt (by omega)] at hj
  exact h j (by omega) 10 hj rfl

set_option maxHeartbeats 16000000 in
set_option maxRecDepth 20000 in
theorem refReadSnap_any (s : Str) (w : World) (hs : s.length ≤ 10000 ∨ 20000 < s.length) (hs2 : s.length ≤ 100000) :
    Calls Tryz.prog 41 #[S s] w (ReadSnapPost w s) := by
  obtain ⟨w0, hw0⟩ : ∃ w0, w0 = w.alloc (.cells z7c 58) := ⟨_, rfl⟩
  obtain ⟨w1, hw1⟩ : ∃ w1, w1 = w0.alloc (.cells #[.int .i64 0, .int .i64 0] 62) := ⟨_, rfl⟩
  have hz0 : w0.heap.size = w.heap.size + 1 := by rw [hw0]; simp
  have hz1 : w1.heap.size = w.heap.size + 2 := by rw [hw1]; simp [hz0]
  have hb01 : Below w0.heap.size w0 w1 := hw1 ▸ (Below.refl _ _).alloc (Nat.le_refl _) _
  have hb0 : Below w.heap.size w w0 := hw0 ▸ (Below.refl _ _).alloc (Nat.le_refl _) _
  have hb1 := hb0.trans (hb01.mono hb0.size)
  have HG := Lib.hid (fun W (h : Below w1.heap.size w1 W) => (⟨((hb01.trans (h.mono hb01.size)).block w.heap.size (by omega)).trans (by rw [hw0]; exact heap_alloc_new w _), (h.block (w.heap.size + 1) (by omega)).trans (by rw [hw1, ← hz0]; exact heap_alloc_new w0 _)⟩ : W.heap[w.heap.size]? = some (.cells z7c 58 (0, 0)) ∧ W.heap[w.heap.size + 1]? = some (.cells #[.int .i64 0, .int .i64 0] 62 (0, 0))))
  have HZ := Lib.hid hz1
  have HW : Hid (w1 = (w.alloc (.cells z7c 58)).alloc (.cells #[.int .i64 0, .int .i64 0] 62)) := Lib.hid (by rw [hw1, hw0])
  clear hz0 hz1 hw1 hw0 hb0 hb01
  go_enter Tryz.func41, Tryz.ntmps41
  go_upto_region 1 with fail
  rw [← HW.out]
  clear w0 HW
  by_cases hlong : 20000 < s.length
  · have g1 : (20000 : Int) < s.length := by omega
    have HL := Lib.hid hlong
    clear hlong hs
    go_wp2_with fail
    refine (refBare_any 2 _).mono ?_
    rintro eB w2 ⟨rfl, hbB⟩
    have hbZ := (Below.refl w1.heap.size w1).trans (hbB.mono (Below.refl w1.heap.size w1).size)
    obtain ⟨hA, hF⟩ := HG.out _ hbZ
    obtain ⟨fz, z0, z1, z2, z3, z4, z5, z6⟩ := zero_facts hA
    obtain ⟨fy, y0, y1⟩ := zero_two hF
    have f0 := fz 0; have f1 := fz 1; have f2 := fz 2; have f3 := fz 3; have f4 := fz 4; have f5 := fz 5; have f6 := fz 6; have g0 := fy 0; have g1 := fy 1
    have HA := Lib.hid hA; have HF := Lib.hid hF; have HR := Lib.hid (snapRead_long HL.out)
    have HB := Lib.hid (hb1.trans (hbZ.mono hb1.size))
    clear fz fy hA hF hbB hbZ
    unfold faultV
    go_wp2_with fail
    exact readSnap_done rfl rfl HR.out ((two_other (by omega) _ _).trans (sev_new HA.out _ _ _ _ _ _ _)) (set_two ((sev_other (by omega) _ _ _ _ _ _ _).trans HF.out) _ _) (At.nil _ _ _) ((sev_below HB.out (Nat.le_refl _) _ _ _ _ _ _ _).setCell (by simp) _ |>.setCell (by simp) _)
  have g1 : decide ((20000 : Int) < s.length) = false := by simp; omega
  have hs10 : s.length ≤ 10000 := hs.resolve_right hlong
  have HLn := Lib.hid hlong
  clear hs hlong
  go_upto_block 0 with fail
  go_cut [4] (fun u wx => ∃ k : Nat, u = .int .i64 k ∧ k ≤ s.length ∧ (∀ j < k, ∀ x, s[j]? = some x → x ≠ 10) ∧ (∀ x, s[k]? = some x → x = 10) ∧ wx = w1)
  case first =>
    go_wp2_with fail
    go_loop [4] (fun i => ∃ k : Nat, i = .int .i64 k ∧ k ≤ s.length ∧ Hid (∀ j < k, ∀ x, s[j]? = some x → x ≠ 10)) (fun i => s.length - (intOf i).toNat)
    case atStart => exact ⟨0, rfl, by omega, Lib.hid fun j hj => absurd hj (by omega)⟩
    case round =>
      obtain ⟨k, rfl, hk, hj⟩ := hrel
      by_cases hlt : k < s.length
      case neg =>
        have f : decide ((k : Int) < (s.length : Int)) = false := by simp; omega
        go_wp2_with fail
        go_meet
        refine ⟨k, rfl, hk, hj.out, ?_, rfl⟩
        intro x hx
        rw [List.getElem?_eq_none (by omega)] at hx
        cases hx
      have f : (k : Int) < (s.length : Int) := by omega
      obtain ⟨x, hxk⟩ := get_ex hlt
      have ix := str_at (P := Tryz.prog) Tryz.underlying9 s k x hxk
      have HX := Lib.hid hxk
      clear hxk
      by_cases h10 : x = 10
      · have e : ((x.toNat : Int) != 10) = false := by rw [h10]; rfl
        have H10 := Lib.hid h10
        clear h10
        go_wp2_with fail
        go_meet
        refine ⟨k, rfl, hk, hj.out, fun y hy => ?_, rfl⟩
        rw [HX.out] at hy
        cases hy
        exact H10.out
      · have e : ((x.toNat : Int) != 10) = true := by
          rw [bne_iff_ne]
          intro h
          exact h10 (UInt8.toNat_inj.1 (by show x.toNat = 10; omega))
        have H10 := Lib.hid h10
        clear h10
        go_wp2_with fail
        refine ⟨⟨k + 1, by go_num, by omega, Lib.hid fun j hj' y hy => ?_⟩, by simp [intOf]; omega⟩
        rcases Nat.lt_or_ge j k with h | h
        · exact hj.out j h y hy
        · obtain rfl : j = k := by omega
          rw [HX.out] at hy
          cases hy
          exact H10.out
  case rest =>
    obtain ⟨k, rfl, hk, hj, hk2, hwc⟩ := hcut
    rw [hwc]
    clear hwc
    have hn10 := no10 hj
    have hsl := str_to (P := Tryz.prog) Tryz.underlying9 s k hk hs2
    have htl : (s.take k).length = k := by rw [List.length_take]; omega
    have HN10 := Lib.hid hn10
    have HK2 := Lib.hid hk2
    clear hj hk2 hn10
    go_wp2_with fail
    refine (cut32_any (s.take k) _ (by omega)).mono ?_
    rintro e w2 ⟨v2, rfl, hown, hb2⟩
    obtain ⟨av, cv, rfl, -, -⟩ := At.form' (hown.at encS_enc)
    have hwm : ∀ x ∈ cutAt 32 (s.take k), x.length ≤ 10000 := fun x hx => by have := cutAt_mem_len (c := 32) hx; omega
    have HWm := Lib.hid hwm
    clear hwm hsl
    by_cases hnl : k = s.length
    · have hno : headAt s = none := by
        have h10 : (10 : UInt8) ∉ s := by have := HN10.out; rwa [hnl, List.take_length] at this
        unfold headAt
        rw [cut_none1 h10]; rfl
      have HNo := Lib.hid hno
      have e0 : ((k : Int) == (s.length : Int)) = true := by rw [beq_iff_eq]; omega
      clear hnl hno hown
      go_wp2_with fail
      refine (refBare_any 1 _).mono ?_
      rintro eB w3 ⟨rfl, hbB⟩
      have hbZ := hb2.trans (hbB.mono hb2.size)
      obtain ⟨hA, hF⟩ := HG.out _ hbZ
      obtain ⟨fz, z0, z1, z2, z3, z4, z5, z6⟩ := zero_facts hA
      obtain ⟨fy, y0, y1⟩ := zero_two hF
      have f0 := fz 0; have f1 := fz 1; have f2 := fz 2; have f3 := fz 3; have f4 := fz 4; have f5 := fz 5; have f6 := fz 6; have g0 := fy 0; have g1 := fy 1
      have HA := Lib.hid hA; have HF := Lib.hid hF; have HR := Lib.hid (snapRead_none HLn.out HNo.out)
      have HB := Lib.hid (hb1.trans (hbZ.mono hb1.size))
      clear fz fy hA hF hbB hbZ
      unfold faultV
      go_wp2_with fail
      exact readSnap_done rfl rfl HR.out ((two_other (by omega) _ _).trans (sev_new HA.out _ _ _ _ _ _ _)) (set_two ((sev_other (by omega) _ _ _ _ _ _ _).trans HF.out) _ _) (At.nil _ _ _) ((sev_below HB.out (Nat.le_refl _) _ _ _ _ _ _ _).setCell (by simp) _ |>.setCell (by simp) _)
    have hk10 : s[k]? = some 10 := by
      obtain ⟨x, hx⟩ := get_ex (l := s) (k := k) (by omega)
      rw [hx, HK2.out x hx]
    have hcut' : Lib.cut s [10] = (s.take k, s.drop (k + 1), true) := by
      have hsp : s = s.take k ++ 10 :: s.drop (k + 1) := by
        obtain ⟨hlt, he⟩ := List.getElem?_eq_some_iff.1 hk10
        rw [← he, ← List.drop_eq_getElem_cons hlt, List.take_append_drop]
      have h := cut_app1 (q := s.drop (k + 1)) HN10.out
      rw [← hsp] at h
      exact h
    have hHA : headAt s = headOf (cutAt 32 (s.take k)) := by unfold headAt; rw [hcut']; rfl
    have HBody : Hid ((Lib.cut s [10]).2.1 = s.drop (k + 1)) := Lib.hid (by rw [hcut'])
    have e0 : ((k : Int) == (s.length : Int)) = false := beq_eq_false_iff_ne.2 (by omega)
    have hkl : k < s.length := by omega
    clear hk10 hcut' hnl HK2
    generalize cutAt 32 (s.take k) = Wd at *
    by_cases h8 : Wd.length = 8
    case neg =>
      have e8 : ((Wd.length : Int) != 8) = true := by rw [bne_iff_ne]; omega
      have HNo := Lib.hid (hHA.trans (headOf_len h8))
      clear hHA h8 hown
      go_wp2_with fail
      refine (refBare_any 1 _).mono ?_
      rintro eB w3 ⟨rfl, hbB⟩
      have hbZ := hb2.trans (hbB.mono hb2.size)
      obtain ⟨hA, hF⟩ := HG.out _ hbZ
      obtain ⟨fz, z0, z1, z2, z3, z4, z5, z6⟩ := zero_facts hA
      obtain ⟨fy, y0, y1⟩ := zero_two hF
      have f0 := fz 0; have f1 := fz 1; have f2 := fz 2; have f3 := fz 3; have f4 := fz 4; have f5 := fz 5; have f6 := fz 6; have g0 := fy 0; have g1 := fy 1
      have HA := Lib.hid hA; have HF := Lib.hid hF; have HR := Lib.hid (snapRead_none HLn.out HNo.out)
      have HB := Lib.hid (hb1.trans (hbZ.mono hb1.size))
      clear fz fy hA hF hbB hbZ
      unfold faultV
      go_wp2_with fail
      exact readSnap_done rfl rfl HR.out ((two_other (by omega) _ _).trans (sev_new HA.out _ _ _ _ _ _ _)) (set_two ((sev_other (by omega) _ _ _ _ _ _ _).trans HF.out) _ _) (At.nil _ _ _) ((sev_below HB.out (Nat.le_refl _) _ _ _ _ _ _ _).setCell (by simp) _ |>.setCell (by simp) _)
    obtain ⟨t, a, b, c, d, e, o, g, rfl⟩ := eight_strs h8
    have HHa := Lib.hid hHA
    clear hHA h8
    obtain ⟨gb, cap, cur, hv, -, -, hcap, hcm, -, -⟩ := hown.open (by simp)
    simp only [Value.slice.injEq] at hv
    obtain ⟨rfl, -, rfl⟩ := hv
    simp only [List.length_cons, List.length_nil, Nat.zero_add, Nat.reduceAdd] at hcap
    unfold maxLen at hcm
    have hx := hown.cells1 (f := S) encS_enc (fun _ => rfl)
    have x0 := hx 0 t rfl
    have x6 := hx 6 o rfl
    have x7 := hx 7 g rfl
    have ix0 := idx_at (P := Tryz.prog) (c := cv) (o := 0) (b := gb) (n := 8) 1 Tryz.underlying115 szStr (fun _ => rfl) 0 (by decide)
    have ix6 := idx_at (P := Tryz.prog) (c := cv) (o := 0) (b := gb) (n := 8) 1 Tryz.underlying115 szStr (fun _ => rfl) 6 (by decide)
    have ix7 := idx_at (P := Tryz.prog) (c := cv) (o := 0) (b := gb) (n := 8) 1 Tryz.underlying115 szStr (fun _ => rfl) 7 (by decide)
    simp only [Nat.mul_one, Nat.zero_add] at ix0 ix6 ix7
    have i0 : ((0 : Nat) : Int) = 0 := rfl
    have i6 : ((6 : Nat) : Int) = 6 := rfl
    have i7 : ((7 : Nat) : Int) = 7 := rfl
    rw [i0] at ix0
    rw [i6] at ix6
    rw [i7] at ix7
    clear i0 i6 i7
    have hat1 : StrsAt w2 (.slice (some ⟨gb, 1, none⟩) 5 (cv - 1)) [a, b, c, d, e] := ⟨_, cv - 1, gb, 1, rfl, fun _ => rfl, by simp only [List.length_cons, List.length_nil]; omega, by unfold maxLen; omega, fun k x hk j u hu => by
      have := hown.cells encS_enc (k + 1) x (by simpa using (List.getElem?_append_left (l₂ := [o, g]) (List.getElem?_eq_some_iff.1 hk).1).trans hk) j u hu
      rw [show 1 + k * 1 + j = (k + 1) * 1 + j by omega]; exact this⟩
    have hr1 : ∀ W, (Instr.slice 115 (.slice (some ⟨gb, 0, none⟩) 8 cv) (some (.int .i64 1)) (some (.int .i64 6)) none).run Tryz.prog W = .ok (.slice (some ⟨gb, 1, none⟩) 5 (cv - 1)) W := fun W => by
      have q1 : (6 : Int) ≤ (cv : Int) := by omega
      have q2 : ¬ cv = 1 := by omega
      have q3 : 6 ≤ cv := by omega
      have hadd : (⟨gb, 0, none⟩ : Addr).add 1 = ⟨gb, 1, none⟩ := by unfold Addr.add; simp
      simp [Instr.slice, Instr.sliceBounds, run_underlying Tryz.underlying115, go_sem, q1, q2]
    have HW5 : Hid (∀ x ∈ [a, b, c, d, e], x.length ≤ 100000) := Lib.hid fun x hx => by
      have := HWm.out x (by
        simp only [List.mem_cons, List.not_mem_nil, or_false] at hx ⊢
        rcases hx with h | h | h | h | h <;> simp [h])
      omega
    have hgl : g.length ≤ 100000 := by have := HWm.out g (by simp); omega
    have HAt := Lib.hid hat1
    clear hx hown hat1
    simp only [List.length_cons, List.length_nil, Nat.zero_add, Nat.reduceAdd]
    go_wp2_with fail
    refine (numbersOf_any _ [a, b, c, d, e] w2 HAt.out (by simp) HW5.out).mono ?_
    rintro e' w3 ⟨vn, rfl, hv1, hv2, hb3⟩
    have hb13 := hb2.trans (hb3.mono hb2.size)
    have x0 := (hb3.cell (World.block_lt_of_cell? _ _ x0)).trans x0
    have x6 := (hb3.cell (World.block_lt_of_cell? _ _ x6)).trans x6
    have x7 := (hb3.cell (World.block_lt_of_cell? _ _ x7)).trans x7
    go_wp2_with fail
    refine (numberOf_any g _ hgl).mono ?_
    rintro e' w4 ⟨rfl, hw4⟩
    subst hw4
    rw [numRef_eq]
    have h6 : numsOf [a, b, c, d, e, g] = (numsOf [a, b, c, d, e]).bind fun ys => (numOf g).map fun y => ys ++ [y] := numsOf_snoc [a, b, c, d, e] g
    have hbadt : t ≠ kSnap → headAt s = none := fun h => HHa.out.trans (headOf_bad h)
    have hnil : numsOf [a, b, c, d, e, g] = none → headAt s = none := fun h => by
      by_cases ht : t = kSnap
      · subst ht; exact HHa.out.trans (headOf_nil h)
      · exact hbadt ht
    have hsix : ∀ n0 n1 n2 n3 n4 n5, t = kSnap → numsOf [a, b, c, d, e, g] = some [n0, n1, n2, n3, n4, n5] → headAt s = some (⟨n0, n1, n2, n3, n4, o, []⟩, n5) := fun n0 n1 n2 n3 n4 n5 ht h => by
      subst ht; exact HHa.out.trans (headOf_six h)
    cases hns : numsOf [a, b, c, d, e] with
    | none =>
      have HNo := Lib.hid (hnil (by rw [h6, hns]; rfl))
      obtain rfl := hv2 hns
      simp only [Option.isSome_none]
      clear hns hv1 hv2 h6 hbadt hnil hsix
      go_wp2_with fail
      refine (refBare_any 1 _).mono ?_
      rintro eB w5 ⟨rfl, hbB⟩
      have hbZ := hb13.trans (hbB.mono hb13.size)
      obtain ⟨hA, hF⟩ := HG.out _ hbZ
      obtain ⟨fz, z0, z1, z2, z3, z4, z5, z6⟩ := zero_facts hA
      obtain ⟨fy, y0, y1⟩ := zero_two hF
      have f0 := fz 0; have f1 := fz 1; have f2 := fz 2; have f3 := fz 3; have f4 := fz 4; have f5 := fz 5; have f6 := fz 6; have g0 := fy 0; have g1 := fy 1
      have HA := Lib.hid hA; have HF := Lib.hid hF; have HR := Lib.hid (snapRead_none HLn.out HNo.out)
      have HB := Lib.hid (hb1.trans (hbZ.mono hb1.size))
      clear fz fy hA hF hbB hbZ
      unfold faultV
      go_wp2_with fail
      exact readSnap_done rfl rfl HR.out ((two_other (by omega) _ _).trans (sev_new HA.out _ _ _ _ _ _ _)) (set_two ((sev_other (by omega) _ _ _ _ _ _ _).trans HF.out) _ _) (At.nil _ _ _) ((sev_below HB.out (Nat.le_refl _) _ _ _ _ _ _ _).setCell (by simp) _ |>.setCell (by simp) _)
    | some ys =>
      have hown := hv1 ys hns
      simp only [Option.isSome_some]
      cases hng : numOf g with
      | none =>
        have HNo := Lib.hid (hnil (by rw [h6, hns, hng]; rfl))
        simp only [Option.isSome_none]
        clear hns hng hv1 hv2 h6 hbadt hnil hsix
        obtain ⟨a1, a2, hvn, -, -⟩ := At.form' (hown.at encI_enc)
        clear hown
        go_wp2_with fail
        refine (refBare_any 1 _).mono ?_
        rintro eB w5 ⟨rfl, hbB⟩
        have hbZ := hb13.trans (hbB.mono hb13.size)
        obtain ⟨hA, hF⟩ := HG.out _ hbZ
        obtain ⟨fz, z0, z1, z2, z3, z4, z5, z6⟩ := zero_facts hA
        obtain ⟨fy, y0, y1⟩ := zero_two hF
        have f0 := fz 0; have f1 := fz 1; have f2 := fz 2; have f3 := fz 3; have f4 := fz 4; have f5 := fz 5; have f6 := fz 6; have g0 := fy 0; have g1 := fy 1
        have HA := Lib.hid hA; have HF := Lib.hid hF; have HR := Lib.hid (snapRead_none HLn.out HNo.out)
        have HB := Lib.hid (hb1.trans (hbZ.mono hb1.size))
        clear fz fy hA hF hbB hbZ
        unfold faultV
        go_wp2_with fail
        exact readSnap_done rfl rfl HR.out ((two_other (by omega) _ _).trans (sev_new HA.out _ _ _ _ _ _ _)) (set_two ((sev_other (by omega) _ _ _ _ _ _ _).trans HF.out) _ _) (At.nil _ _ _) ((sev_below HB.out (Nat.le_refl _) _ _ _ _ _ _ _).setCell (by simp) _ |>.setCell (by simp) _)
      | some n5 =>
        simp only [Option.isSome_some]
        by_cases ht : t = kSnap
        case neg =>
          have HNo := Lib.hid (hbadt ht)
          have gt : (t == [115, 110, 97, 112]) = false := by simpa using ht
          clear hns hng hv1 hv2 h6 hbadt hnil hsix ht hown
          go_wp2_with fail
          refine (refBare_any 1 _).mono ?_
          rintro eB w5 ⟨rfl, hbB⟩
          have hbZ := hb13.trans (hbB.mono hb13.size)
          obtain ⟨hA, hF⟩ := HG.out _ hbZ
          obtain ⟨fz, z0, z1, z2, z3, z4, z5, z6⟩ := zero_facts hA
          obtain ⟨fy, y0, y1⟩ := zero_two hF
          have f0 := fz 0; have f1 := fz 1; have f2 := fz 2; have f3 := fz 3; have f4 := fz 4; have f5 := fz 5; have f6 := fz 6; have g0 := fy 0; have g1 := fy 1
          have HA := Lib.hid hA; have HF := Lib.hid hF; have HR := Lib.hid (snapRead_none HLn.out HNo.out)
          have HB := Lib.hid (hb1.trans (hbZ.mono hb1.size))
          clear fz fy hA hF hbB hbZ
          unfold faultV
          go_wp2_with fail
          exact readSnap_done rfl rfl HR.out ((two_other (by omega) _ _).trans (sev_new HA.out _ _ _ _ _ _ _)) (set_two ((sev_other (by omega) _ _ _ _ _ _ _).trans HF.out) _ _) (At.nil _ _ _) ((sev_below HB.out (Nat.le_refl _) _ _ _ _ _ _ _).setCell (by simp) _ |>.setCell (by simp) _)
        subst ht
        have hyl := mapM_len _ hns
        obtain ⟨n0, n1, n2, n3, n4, rfl⟩ := five_ints (l := ys) (by simpa using hyl)
        have hh := hsix n0 n1 n2 n3 n4 n5 rfl (by rw [h6, hns, hng]; rfl)
        have HRd : Hid (snapRead s = bodyRead ⟨n0, n1, n2, n3, n4, o, []⟩ n5 (s.drop (k + 1))) := Lib.hid (by rw [snapRead_some HLn.out hh, HBody.out])
        obtain ⟨an, cn, bn, on, hvn, han, hcn, hcmn, hxn⟩ := hown.at encI_enc
        subst hvn
        obtain rfl := han (by simp)
        have z0 := hxn 0 _ rfl 0 _ rfl
        have z1 := hxn 1 _ rfl 0 _ rfl
        have z2 := hxn 2 _ rfl 0 _ rfl
        have z3 := hxn 3 _ rfl 0 _ rfl
        have z4 := hxn 4 _ rfl 0 _ rfl
        simp only [Nat.mul_one, Nat.add_zero] at z0 z1 z2 z3 z4
        have KS := Lib.hid (fun W (h : Below w3.heap.size w3 W) => (⟨(h.cell (World.block_lt_of_cell? w3 _ x6)).trans x6, (h.cell (World.block_lt_of_cell? w3 _ z0)).trans z0, (h.cell (World.block_lt_of_cell? w3 _ z1)).trans z1, (h.cell (World.block_lt_of_cell? w3 _ z2)).trans z2, (h.cell (World.block_lt_of_cell? w3 _ z3)).trans z3, (h.cell (World.block_lt_of_cell? w3 _ z4)).trans z4⟩ : _ ∧ _ ∧ _ ∧ _ ∧ _ ∧ _))
        have gt : ((kSnap : Str) == [115, 110, 97, 112]) = true := by decide
        have hsf := str_from (P := Tryz.prog) Tryz.underlying9 s (k + 1) (by omega) hs2
        rw [show ((k + 1 : Nat) : Int) = (k : Int) + 1 by omega] at hsf
        have hbl : (s.drop (k + 1)).length ≤ 10000 := by rw [List.length_drop]; omega
        obtain ⟨bd, hbd⟩ : ∃ bd, s.drop (k + 1) = bd := ⟨_, rfl⟩
        rw [hbd] at HRd hsf hbl
        clear hns hng hv1 hv2 h6 hbadt hnil hsix hh hown hxn han hcn hcmn hyl hbd
        have hl5 : [n0, n1, n2, n3, n4].length = 5 := rfl
        rw [hl5]
        clear hl5
        go_wp2_with fail
        refine (refSum_any bd _ (by omega)).mono ?_
        rintro e' w5 ⟨rfl, hw5⟩
        subst hw5
        have HSf := Lib.hid hsf
        by_cases hsum : n5 = (sumOf bd : Int)
        case neg =>
          have e9 : (n5 != (sumOf bd : Int)) = true := by rw [bne_iff_ne]; exact hsum
          have HNo : Hid (snapRead s = (zeroSn, .bare 10)) := Lib.hid (by rw [HRd.out]; unfold bodyRead; rw [if_pos hsum])
          clear hsum hsf x0 x6 x7 z0 z1 z2 z3 z4
          go_wp2_with fail
          refine (refBare_any 10 _).mono ?_
          rintro eB w5 ⟨rfl, hbB⟩
          have hbZ := hb13.trans (hbB.mono hb13.size)
          obtain ⟨hA, hF⟩ := HG.out _ hbZ
          obtain ⟨fz, z0, z1, z2, z3, z4, z5, z6⟩ := zero_facts hA
          obtain ⟨fy, y0, y1⟩ := zero_two hF
          have f0 := fz 0; have f1 := fz 1; have f2 := fz 2; have f3 := fz 3; have f4 := fz 4; have f5 := fz 5; have f6 := fz 6; have g0 := fy 0; have g1 := fy 1
          have HA := Lib.hid hA; have HF := Lib.hid hF; have HR := Lib.hid (HNo.out)
          have HB := Lib.hid (hb1.trans (hbZ.mono hb1.size))
          clear fz fy hA hF hbB hbZ
          unfold faultV
          go_wp2_with fail
          exact readSnap_done rfl rfl HR.out ((two_other (by omega) _ _).trans (sev_new HA.out _ _ _ _ _ _ _)) (set_two ((sev_other (by omega) _ _ _ _ _ _ _).trans HF.out) _ _) (At.nil _ _ _) ((sev_below HB.out (Nat.le_refl _) _ _ _ _ _ _ _).setCell (by simp) _ |>.setCell (by simp) _)
        have e9 : (n5 != (sumOf bd : Int)) = false := by rw [hsum]; simp
        have HRd2 : Hid (snapRead s = if listReadE bd ≠ .nil then (zeroSn, listReadE bd) else if snapCheck ⟨n0, n1, n2, n3, n4, o, listReadL bd⟩ ≠ .nil then (zeroSn, snapCheck ⟨n0, n1, n2, n3, n4, o, listReadL bd⟩) else (⟨n0, n1, n2, n3, n4, o, listReadL bd⟩, .nil)) := Lib.hid (by rw [HRd.out]; unfold bodyRead; rw [if_neg (fun h => h hsum)])
        clear hsum HRd x0 x6 x7 z0 z1 z2 z3 z4
        go_wp2_with fail
        refine (refReadList_any bd _ hbl).mono ?_
        rintro e' w5 ⟨u, rfl, hu, hb5⟩
        have hb15 := hb13.trans (hb5.mono hb13.size)
        rw [show faultOf (listReadE bd) = .agg #[.int .i64 ((listReadE bd).code : Int), .int .i64 (listReadE bd).place] from rfl]
        obtain ⟨cc, hcc⟩ : ∃ cc : Int, ((listReadE bd).code : Int) = cc := ⟨_, rfl⟩
        obtain ⟨pp, hpp⟩ : ∃ pp : Int, (listReadE bd).place = pp := ⟨_, rfl⟩
        rw [hcc, hpp]
        have hbF : Below w5.heap.size w5 (w5.alloc (.cells #[.int .i64 cc, .int .i64 pp] 62)) := (Below.refl _ _).alloc (Nat.le_refl _) _
        have d0 : (w5.alloc (.cells #[.int .i64 cc, .int .i64 pp] 62)).cell? ⟨w5.heap.size, 0, none⟩ = some (.int .i64 cc) := newCell (Below.refl _ _) 0 rfl
        have d1 : (w5.alloc (.cells #[.int .i64 cc, .int .i64 pp] 62)).cell? ⟨w5.heap.size, 1, none⟩ = some (.int .i64 pp) := newCell (Below.refl _ _) 1 rfl
        have hgT := heap_alloc_new w5 (.cells #[.int .i64 cc, .int .i64 pp] 62)
        have h5z := hb15.size
        obtain ⟨T, hT⟩ : ∃ T, w5.heap.size = T := ⟨_, rfl⟩
        rw [hT] at d0 d1 hgT h5z
        go_upto_region 16 with fail
        generalize w5.alloc (.cells #[.int .i64 cc, .int .i64 pp] 62) = w6 at *
        have hb16 := hb15.trans (hbF.mono hb15.size)
        have hu6 := hu.below hbF
        have hz1 := HZ.out
        by_cases hl : listReadE bd = .nil
        case neg =>
          have hpos : (0 : Int) < cc := by have := listRead_code hl; omega
          have HNo : Hid (snapRead s = (zeroSn, listReadE bd)) := Lib.hid (by rw [HRd2.out, if_pos hl])
          have HCc := Lib.hid hcc
          have HPp := Lib.hid hpp
          obtain ⟨hA, hF⟩ := HG.out w6 hb16
          obtain ⟨fz, y0, y1, y2, y3, y4, y5, y6⟩ := zero_facts hA
          obtain ⟨fy, v0, v1⟩ := zero_two hF
          have f0 := fz 0; have f1 := fz 1; have f2 := fz 2; have f3 := fz 3; have f4 := fz 4; have f5 := fz 5; have f6 := fz 6; have m0 := fy 0; have m1 := fy 1
          have HA := Lib.hid hA; have HF := Lib.hid hF
          have HB := Lib.hid (hb1.trans (hb16.mono hb1.size))
          have n1 : ¬ (T = w.heap.size) := by omega
          have n2 : ¬ (T = w.heap.size + 1) := by omega
          have n3 : ¬ (w.heap.size = T) := by omega
          have n4 : ¬ (w.heap.size + 1 = T) := by omega
          clear hl hcc hpp hA hF fz fy hgT HRd2 hu hu6 hsf
          go_wp2_with fail
          go_region_law (fail)
          all_goals
            go_wp2_with fail
            exact bad_end rfl rfl HNo.out HCc.out HPp.out HA.out HF.out HB.out
        have hcc0 : cc = 0 := by rw [← hcc, hl]; rfl
        have HRd3 : Hid (snapRead s = if snapCheck ⟨n0, n1, n2, n3, n4, o, listReadL bd⟩ ≠ .nil then (zeroSn, snapCheck ⟨n0, n1, n2, n3, n4, o, listReadL bd⟩) else (⟨n0, n1, n2, n3, n4, o, listReadL bd⟩, .nil)) := Lib.hid (by rw [HRd2.out, if_neg (fun h => h hl)])
        have hmid := right_mid (listRead_right hl)
        subst hcc0
        clear hcc hpp hl HRd2 hsf
        generalize listReadL bd = fl at *
        obtain ⟨au, nu, cu, rfl⟩ : ∃ au nu cu, u = .slice au nu cu := by
          obtain ⟨a', c', h', -⟩ := At.form' hu6
          exact ⟨_, _, _, h'⟩
        have HMid := Lib.hid hmid
        have HU6 := Lib.hid hu6
        have HU5 := Lib.hid hu
        clear hu
        have hb36 := hb5.trans (hbF.mono hb5.size)
        have KS6 := Lib.hid (fun W (h : Below w6.heap.size w6 W) => KS.out W (hb36.trans (h.mono hb36.size)))
        have TS := Lib.hid (fun W (h : Below w6.heap.size w6 W) => (h.block T (Array.getElem?_eq_some_iff.1 hgT).1).trans hgT)
        have h6z := hbF.size
        have hTl := (Array.getElem?_eq_some_iff.1 hgT).1
        obtain ⟨x6, z0, z1, z2, z3, z4⟩ := KS6.out _ (Below.refl _ _)
        have HB16 := Lib.hid hb16
        clear hmid hu6 hgT hb36
        go_wp2_with fail
        go_region_held3 (fun w' => w'.cell? ⟨gb, 6, none⟩ = some (S o) ∧ w'.cell? ⟨bn, on, none⟩ = some (.int .i64 n0) ∧ w'.cell? ⟨bn, on + 1, none⟩ = some (.int .i64 n1) ∧ w'.cell? ⟨bn, on + 2, none⟩ = some (.int .i64 n2) ∧ w'.cell? ⟨bn, on + 3, none⟩ = some (.int .i64 n3) ∧ w'.cell? ⟨bn, on + 4, none⟩ = some (.int .i64 n4)) (first | exact ⟨x6, z0, z1, z2, z3, z4⟩ | (obtain ⟨q0, q1, q2, q3, q4, q5⟩ := KS6.out _ (((Below.refl _ _).alloc (Nat.le_refl _) _).drew); exact ⟨q0, q1, q2, q3, q4, q5⟩) | (obtain ⟨q0, q1, q2, q3, q4, q5⟩ := KS6.out _ ((Below.refl _ _).drew.alloc (Nat.le_refl _) _); exact ⟨q0, q1, q2, q3, q4, q5⟩)) (fail)
        have hb8 : Below w6.heap.size w6 (w6.alloc (.cells #[.int .i64 n0, .int .i64 n1, .int .i64 n2, .int .i64 n3, .int .i64 n4, S o, .slice au nu cu] 58)).drew := ((Below.refl _ _).alloc (Nat.le_refl _) _).drew
        have CF := Lib.hid (fun w9 (h : Below (w6.alloc (.cells #[.int .i64 n0, .int .i64 n1, .int .i64 n2, .int .i64 n3, .int .i64 n4, S o, .slice au nu cu] 58)).heap.size (w6.alloc (.cells #[.int .i64 n0, .int .i64 n1, .int .i64 n2, .int .i64 n3, .int .i64 n4, S o, .slice au nu cu] 58)).drew w9) => snapCells (s := ⟨n0, n1, n2, n3, n4, o, fl⟩) (v := .slice au nu cu) (t := 58) (((Below.refl _ _).drew).trans h))
        have hsz : (w6.alloc (.cells #[.int .i64 n0, .int .i64 n1, .int .i64 n2, .int .i64 n3, .int .i64 n4, S o, .slice au nu cu] 58)).heap.size = (w6.alloc (.cells #[.int .i64 n0, .int .i64 n1, .int .i64 n2, .int .i64 n3, .int .i64 n4, S o, .slice au nu cu] 58)).drew.heap.size := rfl
        rw [hsz] at CF
        generalize (w6.alloc (.cells #[.int .i64 n0, .int .i64 n1, .int .i64 n2, .int .i64 n3, .int .i64 n4, S o, .slice au nu cu] 58)).drew = w8 at *
        obtain ⟨k0, k1, k2, k3, k4, k5, k6⟩ := CF.out w8 (Below.refl _ _)
        have hfl8 := HU6.out.below hb8
        have HCk := Lib.hid (snapFault_any ⟨n0, n1, n2, n3, n4, o, fl⟩ (.slice au nu cu) w8 hfl8 HMid.out)
        clear hfl8 x6 z0 z1 z2 z3 z4 hsz d0 d1
        go_wp2_with fail
        refine HCk.out.mono ?_
        rintro e' w9 ⟨rfl, hb9⟩
        have hb69 := hb8.trans (hb9.mono hb8.size)
        clear k0 k1 k2 k3 k4 k5 k6 HCk
        rw [show faultOf (snapCheck ⟨n0, n1, n2, n3, n4, o, fl⟩) = .agg #[.int .i64 ((snapCheck ⟨n0, n1, n2, n3, n4, o, fl⟩).code : Int), .int .i64 (snapCheck ⟨n0, n1, n2, n3, n4, o, fl⟩).place] from rfl]
        obtain ⟨c2, hc2⟩ : ∃ c2 : Int, ((snapCheck ⟨n0, n1, n2, n3, n4, o, fl⟩).code : Int) = c2 := ⟨_, rfl⟩
        obtain ⟨p2, hp2⟩ : ∃ p2 : Int, (snapCheck ⟨n0, n1, n2, n3, n4, o, fl⟩).place = p2 := ⟨_, rfl⟩
        rw [hc2, hp2]
        have hgT9 := TS.out _ hb69
        have t0 : w9.cell? ⟨T, 0, none⟩ = some (.int .i64 0) := by rw [cell_of_row w9 _ _ _ _ (0, 0) hgT9]; rfl
        have t1 : w9.cell? ⟨T, 1, none⟩ = some (.int .i64 pp) := by rw [cell_of_row w9 _ _ _ _ (0, 0) hgT9]; rfl
        have q0 : w9.frozen? ⟨T, 0, none⟩ = false := frozen_row hgT9
        have q1 : w9.frozen? ⟨T, 1, none⟩ = false := frozen_row hgT9
        have HC2 := Lib.hid hc2
        have HP2 := Lib.hid hp2
        clear hc2 hp2
        go_upto_region 20 with fail
        have hb59 := hbF.trans (hb69.mono hbF.size)
        have hTz : w5.heap.size ≤ T := by omega
        have hb510 : Below w5.heap.size w5 ((w9.setCell ⟨T, 0, none⟩ (.int .i64 c2)).setCell ⟨T, 1, none⟩ (.int .i64 p2)) := (hb59.setCell (p := ⟨T, 0, none⟩) hTz _).setCell (p := ⟨T, 1, none⟩) hTz _
        have hb110 := hb15.trans (hb510.mono hb15.size)
        have hg10 := set_two hgT9 (.int .i64 c2) (.int .i64 p2)
        have hT6 : T ≠ w6.heap.size := by omega
        have KC : ∀ j u, w9.cell? ⟨w6.heap.size, j, none⟩ = some u → ((w9.setCell ⟨T, 0, none⟩ (.int .i64 c2)).setCell ⟨T, 1, none⟩ (.int .i64 p2)).cell? ⟨w6.heap.size, j, none⟩ = some u := fun j u h => by
          rw [World.cell?_setCell_other _ _ _ _ (fun e => hT6 (by cases e; rfl)), World.cell?_setCell_other _ _ _ _ (fun e => hT6 (by cases e; rfl))]
          exact h
        obtain ⟨k0, k1, k2, k3, k4, k5, k6⟩ := CF.out w9 hb9
        have k0 := KC _ _ k0; have k1 := KC _ _ k1; have k2 := KC _ _ k2; have k3 := KC _ _ k3; have k4 := KC _ _ k4; have k5 := KC _ _ k5; have k6 := KC _ _ k6
        clear KC t0 t1 q0 q1 hgT9 CF TS
        generalize (w9.setCell ⟨T, 0, none⟩ (.int .i64 c2)).setCell ⟨T, 1, none⟩ (.int .i64 p2) = w10 at *
        have u0 : w10.cell? ⟨T, 0, none⟩ = some (.int .i64 c2) := by rw [cell_of_row w10 _ _ _ _ (0, 0) hg10]; rfl
        have u1 : w10.cell? ⟨T, 1, none⟩ = some (.int .i64 p2) := by rw [cell_of_row w10 _ _ _ _ (0, 0) hg10]; rfl
        obtain ⟨hA, hF⟩ := HG.out w10 hb110
        obtain ⟨fz, y0, y1, y2, y3, y4, y5, y6⟩ := zero_facts hA
        obtain ⟨fy, v0, v1⟩ := zero_two hF
        have f0 := fz 0; have f1 := fz 1; have f2 := fz 2; have f3 := fz 3; have f4 := fz 4; have f5 := fz 5; have f6 := fz 6; have m0 := fy 0; have m1 := fy 1
        have HA := Lib.hid hA; have HF := Lib.hid hF
        have HB := Lib.hid (hb1.trans (hb110.mono hb1.size))
        have nt1 : ¬ (T = w.heap.size) := by omega
        have nt2 : ¬ (T = w.heap.size + 1) := by omega
        have nt3 : ¬ (w.heap.size = T) := by omega
        have nt4 : ¬ (w.heap.size + 1 = T) := by omega
        clear hA hF fz fy
        by_cases hcn : snapCheck ⟨n0, n1, n2, n3, n4, o, fl⟩ = .nil
        case neg =>
          have hpos : (0 : Int) < c2 := by have := snapCheck_code hcn; have := HC2.out; omega
          have HNo : Hid (snapRead s = (zeroSn, snapCheck ⟨n0, n1, n2, n3, n4, o, fl⟩)) := Lib.hid (by rw [HRd3.out, if_pos hcn])
          clear hcn k0 k1 k2 k3 k4 k5 k6
          go_wp2_with fail
          go_region_law (fail)
          all_goals
            go_wp2_with fail
            exact bad_end rfl rfl HNo.out HC2.out HP2.out HA.out HF.out HB.out
        have hc20 : c2 = 0 := by rw [← HC2.out, hcn]; rfl
        have HOk : Hid (snapRead s = (⟨n0, n1, n2, n3, n4, o, fl⟩, .nil)) := Lib.hid (by rw [HRd3.out, if_neg (fun h => h hcn)])
        have HU10 := Lib.hid (HU5.out.below hb510)
        have HB110 := Lib.hid hb110
        subst hc20
        clear hcn
        go_wp2_with fail
        go_region_with (go_at_call 95; refine (refFine_any _).mono ?_; rintro eF w11 ⟨rfl, hb11⟩; unfold faultV; have hbD : Below w10.heap.size w10 w10.drew := Bdn (Below.refl _ _) 1; have hb1011 := hbD.trans (hb11.mono hbD.size); have hb111 := HB110.out.trans (hb1011.mono HB110.out.size); have k0 := (hb1011.cell (World.block_lt_of_cell? _ _ k0)).trans k0; have k1 := (hb1011.cell (World.block_lt_of_cell? _ _ k1)).trans k1; have k2 := (hb1011.cell (World.block_lt_of_cell? _ _ k2)).trans k2; have k3 := (hb1011.cell (World.block_lt_of_cell? _ _ k3)).trans k3; have k4 := (hb1011.cell (World.block_lt_of_cell? _ _ k4)).trans k4; have k5 := (hb1011.cell (World.block_lt_of_cell? _ _ k5)).trans k5; have k6 := (hb1011.cell (World.block_lt_of_cell? _ _ k6)).trans k6; clear f0 f1 f2 f3 f4 f5 f6 m0 m1 y0 y1 y2 y3 y4 y5 y6 v0 v1; obtain ⟨hA, hF⟩ := HG.out w11 hb111; obtain ⟨fz, y0, y1, y2, y3, y4, y5, y6⟩ := zero_facts hA; obtain ⟨fy, v0, v1⟩ := zero_two hF; have f0 := fz 0; have f1 := fz 1; have f2 := fz 2; have f3 := fz 3; have f4 := fz 4; have f5 := fz 5; have f6 := fz 6; have m0 := fy 0; have m1 := fy 1; have HAe := Lib.hid hA; have HFe := Lib.hid hF; have HBe := Lib.hid (hb1.trans (hb111.mono hb1.size)); have HUe := Lib.hid (HU10.out.below hb1011); clear fz fy hA hF)
        all_goals
          go_wp2_with fail
          exact good_end (w := w) (W := w11) (x := ⟨n0, n1, n2, n3, n4, o, fl⟩) (u := .slice au nu cu) rfl rfl HOk.out HAe.out HFe.out HUe.out HBe.out
end Go.Proofs.YtcdcfolhnjgigaaGreatDoor
namespace Go.Proofs.YtcdcfolhnjgigaaGreatDoor
open Go.RowKit

set_option maxHeartbeats 2000000 in
set_option maxRecDepth 20000 in
theorem refSnapText_any (s : Sn) (v : Value) (w : World) (hl : FilesAt w v s.files) (hr : RightSn s) :
    Calls Tryz.prog 38 #[snapV s v] w fun e w' => e = .returned (S (snapText s)) ∧ Below w.heap.size w w' := by
  obtain ⟨a, c, rfl, -, -⟩ := At.form' hl
  have hb0 : Below w.heap.size w (w.alloc (.cells #[.int .i64 s.id, .int .i64 s.parent, .int .i64 s.seq, .int .i64 s.day, .int .i64 s.index, S s.op, .slice a s.files.length c] 58)) := (Below.refl _ _).alloc (Nat.le_refl _) _
  have CS := Lib.hid (fun w6 (h : Below (w.alloc (.cells #[.int .i64 s.id, .int .i64 s.parent, .int .i64 s.seq, .int .i64 s.day, .int .i64 s.index, S s.op, .slice a s.files.length c] 58)).heap.size (w.alloc (.cells #[.int .i64 s.id, .int .i64 s.parent, .int .i64 s.seq, .int .i64 s.day, .int .i64 s.index, S s.op, .slice a s.files.length c] 58)) w6) => snapCells h)
  obtain ⟨c0, c1, c2, c3, c4, c5, c6⟩ := CS.out _ (Below.refl _ _)
  have hLT := refListText_any (.slice a s.files.length c) s.files (w.alloc (.cells #[.int .i64 s.id, .int .i64 s.parent, .int .i64 s.seq, .int .i64 s.day, .int .i64 s.index, S s.op, .slice a s.files.length c] 58)) (hl.below hb0) hr.lst
  obtain ⟨n1, n2, n3, n4, n5⟩ := hr.nums
  have hop := (op_sign hr.op).2
  have hbl := text_len hr
  have hsl := sumOf_lt (listText s.files)
  obtain ⟨bd, hbd⟩ : ∃ bd, listText s.files = bd := ⟨_, rfl⟩
  have hst : snapText s = kSnap ++ (numsTail [s.id, s.parent, s.seq, s.day, s.index] ++ 32 :: (s.op ++ 32 :: Lib.itoa (sumOf bd))) ++ 10 :: bd := by rw [← hbd]; rfl
  rw [hbd] at hLT hbl hsl
  have HLT := Lib.hid hLT
  have HSt := Lib.hid hst
  clear hLT hst hbd
  obtain ⟨op, hope⟩ : ∃ op, s.op = op := ⟨_, rfl⟩
  have hopl : op.length ≤ 7 := by rw [← hope]; exact hop
  have l1 := itoa_len s.id (by omega) (by omega)
  have l2 := itoa_len s.parent (by omega) (by omega)
  have l3 := itoa_len s.seq (by omega) (by omega)
  have l4 := itoa_len s.day (by omega) (by omega)
  have l5 := itoa_len s.index (by omega) (by omega)
  have l6 := itoa_len (sumOf bd) (by omega) (by omega)
  have d1 := fun W => decimal_any s.id W (by omega) (by omega)
  have d2 := fun W => decimal_any s.parent W (by omega) (by omega)
  have d3 := fun W => decimal_any s.seq W (by omega) (by omega)
  have d4 := fun W => decimal_any s.day W (by omega) (by omega)
  have d5 := fun W => decimal_any s.index W (by omega) (by omega)
  have d6 := fun W => decimal_any (sumOf bd) W (by omega) (by omega)
  have ds := fun W => refSum_any bd W (by omega)
  clear hop hr hsl n1 n2 n3 n4 n5
  generalize ht1 : Lib.itoa s.id = t1 at *
  generalize ht2 : Lib.itoa s.parent = t2 at *
  generalize ht3 : Lib.itoa s.seq = t3 at *
  generalize ht4 : Lib.itoa s.day = t4 at *
  generalize ht5 : Lib.itoa s.index = t5 at *
  generalize ht6 : Lib.itoa (sumOf bd) = t6 at *
  have D1 := Lib.hid d1; have D2 := Lib.hid d2; have D3 := Lib.hid d3; have D4 := Lib.hid d4; have D5 := Lib.hid d5; have D6 := Lib.hid d6; have DS := Lib.hid ds
  clear d1 d2 d3 d4 d5 d6 ds
  have r1 := cat_run ⟨#[115, 110, 97, 112, 32]⟩ ⟨t1.toArray⟩ (5) (t1.length) rfl rfl (by omega)
  have r2 := cat_run (⟨#[115, 110, 97, 112, 32]⟩ ++ ⟨t1.toArray⟩) ⟨#[32]⟩ (5 + t1.length) (1) (by simp only [ByteArray.size_append]; rfl) rfl (by omega)
  have r3 := cat_run (⟨#[115, 110, 97, 112, 32]⟩ ++ ⟨t1.toArray⟩ ++ ⟨#[32]⟩) ⟨t2.toArray⟩ (5 + t1.length + 1) (t2.length) (by simp only [ByteArray.size_append]; rfl) rfl (by omega)
  have r4 := cat_run (⟨#[115, 110, 97, 112, 32]⟩ ++ ⟨t1.toArray⟩ ++ ⟨#[32]⟩ ++ ⟨t2.toArray⟩) ⟨#[32]⟩ (5 + t1.length + 1 + t2.length) (1) (by simp only [ByteArray.size_append]; rfl) rfl (by omega)
  have r5 := cat_run (⟨#[115, 110, 97, 112, 32]⟩ ++ ⟨t1.toArray⟩ ++ ⟨#[32]⟩ ++ ⟨t2.toArray⟩ ++ ⟨#[32]⟩) ⟨t3.toArray⟩ (5 + t1.length + 1 + t2.length + 1) (t3.length) (by simp only [ByteArray.size_append]; rfl) rfl (by omega)
  have r6 := cat_run (⟨#[115, 110, 97, 112, 32]⟩ ++ ⟨t1.toArray⟩ ++ ⟨#[32]⟩ ++ ⟨t2.toArray⟩ ++ ⟨#[32]⟩ ++ ⟨t3.toArray⟩) ⟨#[32]⟩ (5 + t1.length + 1 + t2.length + 1 + t3.length) (1) (by simp only [ByteArray.size_append]; rfl) rfl (by omega)
  have r7 := cat_run (⟨#[115, 110, 97, 112, 32]⟩ ++ ⟨t1.toArray⟩ ++ ⟨#[32]⟩ ++ ⟨t2.toArray⟩ ++ ⟨#[32]⟩ ++ ⟨t3.toArray⟩ ++ ⟨#[32]⟩) ⟨t4.toArray⟩ (5 + t1.length + 1 + t2.length + 1 + t3.length + 1) (t4.length) (by simp only [ByteArray.size_append]; rfl) rfl (by omega)
  have r8 := cat_run (⟨#[115, 110, 97, 112, 32]⟩ ++ ⟨t1.toArray⟩ ++ ⟨#[32]⟩ ++ ⟨t2.toArray⟩ ++ ⟨#[32]⟩ ++ ⟨t3.toArray⟩ ++ ⟨#[32]⟩ ++ ⟨t4.toArray⟩) ⟨#[32]⟩ (5 + t1.length + 1 + t2.length + 1 + t3.length + 1 + t4.length) (1) (by simp only [ByteArray.size_append]; rfl) rfl (by omega)
  have r9 := cat_run (⟨#[115, 110, 97, 112, 32]⟩ ++ ⟨t1.toArray⟩ ++ ⟨#[32]⟩ ++ ⟨t2.toArray⟩ ++ ⟨#[32]⟩ ++ ⟨t3.toArray⟩ ++ ⟨#[32]⟩ ++ ⟨t4.toArray⟩ ++ ⟨#[32]⟩) ⟨t5.toArray⟩ (5 + t1.length + 1 + t2.length + 1 + t3.length + 1 + t4.length + 1) (t5.length) (by simp only [ByteArray.size_append]; rfl) rfl (by omega)
  have r10 := cat_run (⟨#[115, 110, 97, 112, 32]⟩ ++ ⟨t1.toArray⟩ ++ ⟨#[32]⟩ ++ ⟨t2.toArray⟩ ++ ⟨#[32]⟩ ++ ⟨t3.toArray⟩ ++ ⟨#[32]⟩ ++ ⟨t4.toArray⟩ ++ ⟨#[32]⟩ ++ ⟨t5.toArray⟩) ⟨#[32]⟩ (5 + t1.length + 1 + t2.length + 1 + t3.length + 1 + t4.length + 1 + t5.length) (1) (by simp only [ByteArray.size_append]; rfl) rfl (by omega)
  have r11 := cat_run (⟨#[115, 110, 97, 112, 32]⟩ ++ ⟨t1.toArray⟩ ++ ⟨#[32]⟩ ++ ⟨t2.toArray⟩ ++ ⟨#[32]⟩ ++ ⟨t3.toArray⟩ ++ ⟨#[32]⟩ ++ ⟨t4.toArray⟩ ++ ⟨#[32]⟩ ++ ⟨t5.toArray⟩ ++ ⟨#[32]⟩) ⟨op.toArray⟩ (5 + t1.length + 1 + t2.length + 1 + t3.length + 1 + t4.length + 1 + t5.length + 1) (op.length) (by simp only [ByteArray.size_append]; rfl) rfl (by omega)
  have r12 := cat_run (⟨#[115, 110, 97, 112, 32]⟩ ++ ⟨t1.toArray⟩ ++ ⟨#[32]⟩ ++ ⟨t2.toArray⟩ ++ ⟨#[32]⟩ ++ ⟨t3.toArray⟩ ++ ⟨#[32]⟩ ++ ⟨t4.toArray⟩ ++ ⟨#[32]⟩ ++ ⟨t5.toArray⟩ ++ ⟨#[32]⟩ ++ ⟨op.toArray⟩) ⟨#[32]⟩ (5 + t1.length + 1 + t2.length + 1 + t3.length + 1 + t4.length + 1 + t5.length + 1 + op.length) (1) (by simp only [ByteArray.size_append]; rfl) rfl (by omega)
  have r13 := cat_run (⟨#[115, 110, 97, 112, 32]⟩ ++ ⟨t1.toArray⟩ ++ ⟨#[32]⟩ ++ ⟨t2.toArray⟩ ++ ⟨#[32]⟩ ++ ⟨t3.toArray⟩ ++ ⟨#[32]⟩ ++ ⟨t4.toArray⟩ ++ ⟨#[32]⟩ ++ ⟨t5.toArray⟩ ++ ⟨#[32]⟩ ++ ⟨op.toArray⟩ ++ ⟨#[32]⟩) ⟨t6.toArray⟩ (5 + t1.length + 1 + t2.length + 1 + t3.length + 1 + t4.length + 1 + t5.length + 1 + op.length + 1) (t6.length) (by simp only [ByteArray.size_append]; rfl) rfl (by omega)
  have r14 := cat_run (⟨#[115, 110, 97, 112, 32]⟩ ++ ⟨t1.toArray⟩ ++ ⟨#[32]⟩ ++ ⟨t2.toArray⟩ ++ ⟨#[32]⟩ ++ ⟨t3.toArray⟩ ++ ⟨#[32]⟩ ++ ⟨t4.toArray⟩ ++ ⟨#[32]⟩ ++ ⟨t5.toArray⟩ ++ ⟨#[32]⟩ ++ ⟨op.toArray⟩ ++ ⟨#[32]⟩ ++ ⟨t6.toArray⟩) ⟨#[10]⟩ (5 + t1.length + 1 + t2.length + 1 + t3.length + 1 + t4.length + 1 + t5.length + 1 + op.length + 1 + t6.length) (1) (by simp only [ByteArray.size_append]; rfl) rfl (by omega)
  have r15 := cat_run (⟨#[115, 110, 97, 112, 32]⟩ ++ ⟨t1.toArray⟩ ++ ⟨#[32]⟩ ++ ⟨t2.toArray⟩ ++ ⟨#[32]⟩ ++ ⟨t3.toArray⟩ ++ ⟨#[32]⟩ ++ ⟨t4.toArray⟩ ++ ⟨#[32]⟩ ++ ⟨t5.toArray⟩ ++ ⟨#[32]⟩ ++ ⟨op.toArray⟩ ++ ⟨#[32]⟩ ++ ⟨t6.toArray⟩ ++ ⟨#[10]⟩) ⟨bd.toArray⟩ (5 + t1.length + 1 + t2.length + 1 + t3.length + 1 + t4.length + 1 + t5.length + 1 + op.length + 1 + t6.length + 1) (bd.length) (by simp only [ByteArray.size_append]; rfl) rfl (by omega)
  have HAll : Hid ((⟨#[115, 110, 97, 112, 32]⟩ : ByteArray) ++ ⟨t1.toArray⟩ ++ ⟨#[32]⟩ ++ ⟨t2.toArray⟩ ++ ⟨#[32]⟩ ++ ⟨t3.toArray⟩ ++ ⟨#[32]⟩ ++ ⟨t4.toArray⟩ ++ ⟨#[32]⟩ ++ ⟨t5.toArray⟩ ++ ⟨#[32]⟩ ++ ⟨op.toArray⟩ ++ ⟨#[32]⟩ ++ ⟨t6.toArray⟩ ++ ⟨#[10]⟩ ++ ⟨bd.toArray⟩ = ⟨(snapText s).toArray⟩) := Lib.hid (by
    rw [HSt.out, hope]
    simp only [numsTail, List.flatMap_cons, List.flatMap_nil, ht1, ht2, ht3, ht4, ht5]
    apply ByteArray.ext
    simp)
  have HOp := Lib.hid hope
  clear ht1 ht2 ht3 ht4 ht5 ht6 hope
  go_enter Tryz.func38, Tryz.ntmps38
  go_wp2_with fail
  generalize w.alloc (.cells #[.int .i64 s.id, .int .i64 s.parent, .int .i64 s.seq, .int .i64 s.day, .int .i64 s.index, S s.op, .slice a s.files.length c] 58) = w0 at *
  refine HLT.out.mono ?_
  rintro e w1 ⟨rfl, hb1⟩
  have hb1d := hb1.drew
  clear c0 c1 c2 c3 c4 c5 c6
  obtain ⟨c0, c1, c2, c3, c4, c5, -⟩ := CS.out _ hb1d
  rw [HOp.out] at c5
  go_wp2_with fail
  go_region_held3 (fun w' => w'.cell? ⟨w.heap.size, 0, none⟩ = some (.int .i64 s.id) ∧ w'.cell? ⟨w.heap.size, 1, none⟩ = some (.int .i64 s.parent) ∧ w'.cell? ⟨w.heap.size, 2, none⟩ = some (.int .i64 s.seq) ∧ w'.cell? ⟨w.heap.size, 3, none⟩ = some (.int .i64 s.day) ∧ w'.cell? ⟨w.heap.size, 4, none⟩ = some (.int .i64 s.index) ∧ w'.cell? ⟨w.heap.size, 5, none⟩ = some (S op)) (exact ⟨c0, c1, c2, c3, c4, c5⟩) (first | (go_at_call 104; (with_reducible refine (D1.out _).mono ?_); rintro e v1 ⟨rfl, hd1⟩; have c0 := (hd1.cell (World.block_lt_of_cell? _ _ c0)).trans c0; have c1 := (hd1.cell (World.block_lt_of_cell? _ _ c1)).trans c1; have c2 := (hd1.cell (World.block_lt_of_cell? _ _ c2)).trans c2; have c3 := (hd1.cell (World.block_lt_of_cell? _ _ c3)).trans c3; have c4 := (hd1.cell (World.block_lt_of_cell? _ _ c4)).trans c4; have c5 := (hd1.cell (World.block_lt_of_cell? _ _ c5)).trans c5) | (go_at_call 104; (with_reducible refine (D2.out _).mono ?_); rintro e v2 ⟨rfl, hd2⟩; have c0 := (hd2.cell (World.block_lt_of_cell? _ _ c0)).trans c0; have c1 := (hd2.cell (World.block_lt_of_cell? _ _ c1)).trans c1; have c2 := (hd2.cell (World.block_lt_of_cell? _ _ c2)).trans c2; have c3 := (hd2.cell (World.block_lt_of_cell? _ _ c3)).trans c3; have c4 := (hd2.cell (World.block_lt_of_cell? _ _ c4)).trans c4; have c5 := (hd2.cell (World.block_lt_of_cell? _ _ c5)).trans c5) | (go_at_call 104; (with_reducible refine (D3.out _).mono ?_); rintro e v3 ⟨rfl, hd3⟩; have c0 := (hd3.cell (World.block_lt_of_cell? _ _ c0)).trans c0; have c1 := (hd3.cell (World.block_lt_of_cell? _ _ c1)).trans c1; have c2 := (hd3.cell (World.block_lt_of_cell? _ _ c2)).trans c2; have c3 := (hd3.cell (World.block_lt_of_cell? _ _ c3)).trans c3; have c4 := (hd3.cell (World.block_lt_of_cell? _ _ c4)).trans c4; have c5 := (hd3.cell (World.block_lt_of_cell? _ _ c5)).trans c5) | (go_at_call 104; (with_reducible refine (D4.out _).mono ?_); rintro e v4 ⟨rfl, hd4⟩; have c0 := (hd4.cell (World.block_lt_of_cell? _ _ c0)).trans c0; have c1 := (hd4.cell (World.block_lt_of_cell? _ _ c1)).trans c1; have c2 := (hd4.cell (World.block_lt_of_cell? _ _ c2)).trans c2; have c3 := (hd4.cell (World.block_lt_of_cell? _ _ c3)).trans c3; have c4 := (hd4.cell (World.block_lt_of_cell? _ _ c4)).trans c4; have c5 := (hd4.cell (World.block_lt_of_cell? _ _ c5)).trans c5) | (go_at_call 104; (with_reducible refine (D5.out _).mono ?_); rintro e v5 ⟨rfl, hd5⟩; have c0 := (hd5.cell (World.block_lt_of_cell? _ _ c0)).trans c0; have c1 := (hd5.cell (World.block_lt_of_cell? _ _ c1)).trans c1; have c2 := (hd5.cell (World.block_lt_of_cell? _ _ c2)).trans c2; have c3 := (hd5.cell (World.block_lt_of_cell? _ _ c3)).trans c3; have c4 := (hd5.cell (World.block_lt_of_cell? _ _ c4)).trans c4; have c5 := (hd5.cell (World.block_lt_of_cell? _ _ c5)).trans c5) | (go_at_call 104; (with_reducible refine (D6.out _).mono ?_); rintro e v6 ⟨rfl, hd6⟩; have c0 := (hd6.cell (World.block_lt_of_cell? _ _ c0)).trans c0; have c1 := (hd6.cell (World.block_lt_of_cell? _ _ c1)).trans c1; have c2 := (hd6.cell (World.block_lt_of_cell? _ _ c2)).trans c2; have c3 := (hd6.cell (World.block_lt_of_cell? _ _ c3)).trans c3; have c4 := (hd6.cell (World.block_lt_of_cell? _ _ c4)).trans c4; have c5 := (hd6.cell (World.block_lt_of_cell? _ _ c5)).trans c5) | (go_at_call 105; (with_reducible refine (DS.out _).mono ?_); rintro e vs ⟨rfl, rfl⟩))
  go_wp2_with fail
  go_ret
  refine ⟨?_, ?_⟩
  · show Ending.returned (.string ((⟨#[115, 110, 97, 112, 32]⟩ : ByteArray) ++ ⟨t1.toArray⟩ ++ ⟨#[32]⟩ ++ ⟨t2.toArray⟩ ++ ⟨#[32]⟩ ++ ⟨t3.toArray⟩ ++ ⟨#[32]⟩ ++ ⟨t4.toArray⟩ ++ ⟨#[32]⟩ ++ ⟨t5.toArray⟩ ++ ⟨#[32]⟩ ++ ⟨op.toArray⟩ ++ ⟨#[32]⟩ ++ ⟨t6.toArray⟩ ++ ⟨#[10]⟩ ++ ⟨bd.toArray⟩)) = _
    rw [HAll.out]
  · have hbw1 := hb0.trans (hb1d.mono hb0.size)
    have h1 := hbw1.trans (hd1.mono hbw1.size)
    have h2 := h1.trans (hd2.mono h1.size)
    have h3 := h2.trans (hd3.mono h2.size)
    have h4 := h3.trans (hd4.mono h3.size)
    have h5 := h4.trans (hd5.mono h4.size)
    exact h5.trans (hd6.mono h5.size)
end Go.Proofs.YtcdcfolhnjgigaaGreatDoor
