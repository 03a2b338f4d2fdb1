/- deedboxref3.Txn's Commit: the walk. Printed by gen_reftx.py. -/
import Derived.Test.YtmhchakjkgdpmaaGreatDoorTt13
import Derived.Test.YtmhchakjkgdpmaaGreatDoorTt12
import Derived.Test.YtmhchakjkgdpmaaGreatDoorTt14
import Derived.Test.YtmhchakjkgdpmaaGreatDoorTt8
import Derived.Test.YtmhchakjkgdpmaaGreatDoorTt5
import Derived.Deep.CutBlock
import Derived.Deep.RegionLaw
namespace Go.Proofs.YtmhchakjkgdpmaaGreatDoor
open Go.RowKit

theorem results_cells2' {P : Program} {fn : Func} {p q : Tmp} {t1 t2 : TypeId} (h : fn.results = #[.cell p t1, .cell q t2]) (tmps : Array Value) (w : World) (g1 g2 : Nat) (e1 e2 : TypeId) (cs1 cs2 : Array Value) (r1 r2 : Nat × Nat) (d1 d2 : TypeDesc)
    (hp : tmps.getD p undef = .pointer (some ⟨g1, 0, none⟩)) (hq : tmps.getD q undef = .pointer (some ⟨g2, 0, none⟩)) (hg1 : w.heap[g1]? = some (.cells cs1 e1 r1)) (hg2 : w.heap[g2]? = some (.cells cs2 e2 r2))
    (hu1 : P.underlying t1 = some d1) (hd1 : (match d1 with | .struct _ | .array _ _ => true | _ => false) = true) (hi1 : (P.info? t1).map (·.size) = some cs1.size)
    (hu2 : P.underlying t2 = some d2) (hd2 : (match d2 with | .struct _ | .array _ _ => true | _ => false) = true) (hi2 : (P.info? t2).map (·.size) = some cs2.size) :
    (results fn tmps).run P w = .ok (.tuple #[.agg cs1, .agg cs2]) w := by
  have hp' : tmps[p]?.getD undef = .pointer (some ⟨g1, 0, none⟩) := by simpa using hp
  have hq' : tmps[q]?.getD undef = .pointer (some ⟨g2, 0, none⟩) := by simpa using hq
  simp [results, h, hp', hq', asAddr, run_loadVar_row w g1 e1 t1 cs1 r1 d1 hg1 hu1 hd1 hi1, run_loadVar_row w g2 e2 t2 cs2 r2 d2 hg2 hu2 hd2 hi2]
theorem sev_otherT {w : World} {g k : Nat} (h : g ≠ k) (b0 b1 b2 b3 b4 b5 b6 : Value) : (sev w g b0 b1 b2 b3 b4 b5 b6).heap[k]? = w.heap[k]? := by
  have e : ∀ (W : World) (j : Nat) (x : Value), (W.setCell ⟨g, j, none⟩ x).heap[k]? = W.heap[k]? := fun W j x => heap_setCell_other _ _ _ _ h.symm
  simp only [sev, e]
theorem two_otherT {w : World} {g k : Nat} (h : g ≠ k) (x y : Value) : ((w.setCell ⟨g, 0, none⟩ x).setCell ⟨g, 1, none⟩ y).heap[k]? = w.heap[k]? := by
  have e : ∀ (W : World) (j : Nat) (x : Value), (W.setCell ⟨g, j, none⟩ x).heap[k]? = W.heap[k]? := fun W j x => heap_setCell_other _ _ _ _ h.symm
  simp only [e]
theorem rowF2 {W : World} {g : Nat} {a b : Value} {t : TypeId} (h : W.heap[g]? = some (.cells #[a, b] t (0, 0))) : W.cell? ⟨g, 0, none⟩ = some a ∧ W.cell? ⟨g, 1, none⟩ = some b ∧ ∀ j, W.frozen? ⟨g, j, none⟩ = false := by
  refine ⟨?_, ?_, fun j => frozen_row h⟩ <;> (rw [cell_of_row W _ _ _ _ (0, 0) h]; rfl)
def RcPost (er : Er) (x : Sn) (w : World) (e : Ending) (w' : World) : Prop := ∃ u, e = .returned (.tuple #[snapV x u, faultOf er]) ∧ FilesAt w' u x.files ∧ Below w.heap.size w w'
theorem rc_done {w W : World} {A Fb : Nat} {tmps : Array Value} {er : Er} {x : Sn} {u : Value} (hp : tmps.getD 10 undef = .pointer (some ⟨A, 0, none⟩)) (hq : tmps.getD 11 undef = .pointer (some ⟨Fb, 0, none⟩))
    (hA : W.heap[A]? = some (.cells #[.int .i64 x.id, .int .i64 x.parent, .int .i64 x.seq, .int .i64 x.day, .int .i64 x.index, S x.op, u] 24 (0, 0))) (hF : W.heap[Fb]? = some (.cells #[.int .i64 (er.code : Int), .int .i64 er.place] 49 (0, 0)))
    (hu : FilesAt W u x.files) (hb : Below w.heap.size w W) : bodyPost Tryz.prog Tryz.f27 (RcPost er x w) .ret ⟨tmps, []⟩ W :=
  bodyPost_ret (results_cells2' rfl tmps W A Fb _ _ _ _ _ _ _ _ hp hq hA hF Tryz.underlying24 rfl (by kernel_rfl) Tryz.underlying49 rfl (by kernel_rfl)) rfl ⟨u, rfl, hu, hb⟩
theorem rc_bad {w W : World} {A Fb : Nat} {tmps : Array Value} {er : Er} {x : Sn} {cc pp : Int} (hp : tmps.getD 10 undef = .pointer (some ⟨A, 0, none⟩)) (hq : tmps.getD 11 undef = .pointer (some ⟨Fb, 0, none⟩)) (hx : x = zeroSn) (hcc : (er.code : Int) = cc) (hpp : er.place = pp)
    (hA : W.heap[A]? = some (.cells zS7 24 (0, 0))) (hF : W.heap[Fb]? = some (.cells #[.int .i64 0, .int .i64 0] 49 (0, 0))) (hb : Below w.heap.size w W) (h1 : w.heap.size ≤ A) (h2 : w.heap.size ≤ Fb) (hne : A ≠ Fb) :
    bodyPost Tryz.prog Tryz.f27 (RcPost er x w) .ret ⟨tmps, []⟩ (((sev W A (.int .i64 0) (.int .i64 0) (.int .i64 0) (.int .i64 0) (.int .i64 0) (.string ⟨#[]⟩) (.slice none 0 0)).setCell ⟨Fb, 0, none⟩ (.int .i64 cc)).setCell ⟨Fb, 1, none⟩ (.int .i64 pp)) := by
  subst hcc hpp hx
  have e1 : (((sev W A (.int .i64 0) (.int .i64 0) (.int .i64 0) (.int .i64 0) (.int .i64 0) (.string ⟨#[]⟩) (.slice none 0 0)).setCell ⟨Fb, 0, none⟩ (.int .i64 (er.code : Int))).setCell ⟨Fb, 1, none⟩ (.int .i64 er.place)).heap[A]? = some (.cells zS7 24 (0, 0)) := (two_otherT (g := Fb) (k := A) hne.symm _ _).trans (sev_new hA _ _ _ _ _ _ _)
  have e2 := set_two (w := sev W A (.int .i64 0) (.int .i64 0) (.int .i64 0) (.int .i64 0) (.int .i64 0) (.string ⟨#[]⟩) (.slice none 0 0)) (g := Fb) ((sev_otherT (w := W) (g := A) (k := Fb) hne (.int .i64 0) (.int .i64 0) (.int .i64 0) (.int .i64 0) (.int .i64 0) (.string ⟨#[]⟩) (.slice none 0 0)).trans hF) (.int .i64 (er.code : Int)) (.int .i64 er.place)
  have e3 : Below w.heap.size w (((sev W A (.int .i64 0) (.int .i64 0) (.int .i64 0) (.int .i64 0) (.int .i64 0) (.string ⟨#[]⟩) (.slice none 0 0)).setCell ⟨Fb, 0, none⟩ (.int .i64 (er.code : Int))).setCell ⟨Fb, 1, none⟩ (.int .i64 er.place)) := ((sev_below hb h1 _ _ _ _ _ _ _).setCell (p := ⟨Fb, 0, none⟩) h2 _).setCell (p := ⟨Fb, 1, none⟩) h2 _
  exact rc_done (x := zeroSn) (u := .slice none 0 0) hp hq (e1) (e2) (At.nil _ _ _) e3
theorem rc_bad_drew {w W : World} {A Fb : Nat} {tmps : Array Value} {er : Er} {x : Sn} {cc pp : Int} (hp : tmps.getD 10 undef = .pointer (some ⟨A, 0, none⟩)) (hq : tmps.getD 11 undef = .pointer (some ⟨Fb, 0, none⟩)) (hx : x = zeroSn) (hcc : (er.code : Int) = cc) (hpp : er.place = pp)
    (hA : W.heap[A]? = some (.cells zS7 24 (0, 0))) (hF : W.heap[Fb]? = some (.cells #[.int .i64 0, .int .i64 0] 49 (0, 0))) (hb : Below w.heap.size w W) (h1 : w.heap.size ≤ A) (h2 : w.heap.size ≤ Fb) (hne : A ≠ Fb) :
    bodyPost Tryz.prog Tryz.f27 (RcPost er x w) .ret ⟨tmps, []⟩ (((sev W A (.int .i64 0) (.int .i64 0) (.int .i64 0) (.int .i64 0) (.int .i64 0) (.string ⟨#[]⟩) (.slice none 0 0)).setCell ⟨Fb, 0, none⟩ (.int .i64 cc)).setCell ⟨Fb, 1, none⟩ (.int .i64 pp)).drew := by
  subst hcc hpp hx
  have e1 : (((sev W A (.int .i64 0) (.int .i64 0) (.int .i64 0) (.int .i64 0) (.int .i64 0) (.string ⟨#[]⟩) (.slice none 0 0)).setCell ⟨Fb, 0, none⟩ (.int .i64 (er.code : Int))).setCell ⟨Fb, 1, none⟩ (.int .i64 er.place)).heap[A]? = some (.cells zS7 24 (0, 0)) := (two_otherT (g := Fb) (k := A) hne.symm _ _).trans (sev_new hA _ _ _ _ _ _ _)
  have e2 := set_two (w := sev W A (.int .i64 0) (.int .i64 0) (.int .i64 0) (.int .i64 0) (.int .i64 0) (.string ⟨#[]⟩) (.slice none 0 0)) (g := Fb) ((sev_otherT (w := W) (g := A) (k := Fb) hne (.int .i64 0) (.int .i64 0) (.int .i64 0) (.int .i64 0) (.int .i64 0) (.string ⟨#[]⟩) (.slice none 0 0)).trans hF) (.int .i64 (er.code : Int)) (.int .i64 er.place)
  have e3 : Below w.heap.size w (((sev W A (.int .i64 0) (.int .i64 0) (.int .i64 0) (.int .i64 0) (.int .i64 0) (.string ⟨#[]⟩) (.slice none 0 0)).setCell ⟨Fb, 0, none⟩ (.int .i64 (er.code : Int))).setCell ⟨Fb, 1, none⟩ (.int .i64 er.place)) := ((sev_below hb h1 _ _ _ _ _ _ _).setCell (p := ⟨Fb, 0, none⟩) h2 _).setCell (p := ⟨Fb, 1, none⟩) h2 _
  exact rc_done (x := zeroSn) (u := .slice none 0 0) hp hq (by rw [World.heap_drew]; exact e1) (by rw [World.heap_drew]; exact e2) (At.nil _ _ _) e3.drew
theorem rc_good {w W : World} {A Fb : Nat} {tmps : Array Value} {x : Sn} {u : Value} (hp : tmps.getD 10 undef = .pointer (some ⟨A, 0, none⟩)) (hq : tmps.getD 11 undef = .pointer (some ⟨Fb, 0, none⟩))
    (hA : W.heap[A]? = some (.cells zS7 24 (0, 0))) (hF : W.heap[Fb]? = some (.cells #[.int .i64 0, .int .i64 0] 49 (0, 0))) (hu : FilesAt W u x.files) (hb : Below w.heap.size w W) (h1 : w.heap.size ≤ A) (h2 : w.heap.size ≤ Fb) (hne : A ≠ Fb) :
    bodyPost Tryz.prog Tryz.f27 (RcPost .nil x w) .ret ⟨tmps, []⟩ (((sev W A (.int .i64 x.id) (.int .i64 x.parent) (.int .i64 x.seq) (.int .i64 x.day) (.int .i64 x.index) (S x.op) u).setCell ⟨Fb, 0, none⟩ (.int .i64 0)).setCell ⟨Fb, 1, none⟩ (.int .i64 (-1))) := by
  have e1 := (two_otherT (w := sev W A (.int .i64 x.id) (.int .i64 x.parent) (.int .i64 x.seq) (.int .i64 x.day) (.int .i64 x.index) (S x.op) u) (g := Fb) (k := A) hne.symm (.int .i64 0) (.int .i64 (-1))).trans (sev_new hA (.int .i64 x.id) (.int .i64 x.parent) (.int .i64 x.seq) (.int .i64 x.day) (.int .i64 x.index) (S x.op) u)
  have e2 := set_two (w := sev W A (.int .i64 x.id) (.int .i64 x.parent) (.int .i64 x.seq) (.int .i64 x.day) (.int .i64 x.index) (S x.op) u) (g := Fb) ((sev_otherT (w := W) (g := A) (k := Fb) hne (.int .i64 x.id) (.int .i64 x.parent) (.int .i64 x.seq) (.int .i64 x.day) (.int .i64 x.index) (S x.op) u).trans hF) (.int .i64 0) (.int .i64 (-1))
  have e3 : Below w.heap.size w (((sev W A (.int .i64 x.id) (.int .i64 x.parent) (.int .i64 x.seq) (.int .i64 x.day) (.int .i64 x.index) (S x.op) u).setCell ⟨Fb, 0, none⟩ (.int .i64 0)).setCell ⟨Fb, 1, none⟩ (.int .i64 (-1))) := ((sev_below hb h1 _ _ _ _ _ _ _).setCell (p := ⟨Fb, 0, none⟩) h2 _).setCell (p := ⟨Fb, 1, none⟩) h2 _
  refine rc_done (er := .nil) hp hq e1 e2 ?_ e3
  obtain ⟨a, c, b, o, hv, ha, hc, hm, hx⟩ := hu
  refine ⟨a, c, b, o, hv, ha, hc, hm, fun k y hk j v hv' => ?_⟩
  have hbA : b ≠ A := by
    rintro rfl
    have c1 := hx k y hk 0 _ rfl
    have c2 := hx k y hk 1 _ rfl
    rw [cell_of_row W _ _ _ _ (0, 0) hA] at c1 c2
    rcases Nat.lt_or_ge (o + k * 6) 7 with h | h
    · have : o + k * 6 = 0 ∨ o + k * 6 = 1 ∨ o + k * 6 = 2 ∨ o + k * 6 = 3 ∨ o + k * 6 = 4 ∨ o + k * 6 = 5 ∨ o + k * 6 = 6 := by omega
      rcases this with e | e | e | e | e | e | e <;> rw [e] at c1 c2 <;> simp at c1 c2
    · rw [Array.getElem?_eq_none (by simp; omega)] at c1; cases c1
  have hbF : b ≠ Fb := by
    rintro rfl
    have c1 := hx k y hk 0 _ rfl
    rw [cell_of_row W _ _ _ _ (0, 0) hF] at c1
    rcases Nat.lt_or_ge (o + k * 6) 2 with h | h
    · have : o + k * 6 = 0 ∨ o + k * 6 = 1 := by omega
      rcases this with e | e <;> rw [e] at c1 <;> simp at c1
    · rw [Array.getElem?_eq_none (by simp; omega)] at c1; cases c1
  have h3 := hx k y hk j v hv'
  rw [World.cell?_setCell_other _ _ _ _ (by intro e; have := congrArg Addr.block e; simp at this; omega), World.cell?_setCell_other _ _ _ _ (by intro e; have := congrArg Addr.block e; simp at this; omega), sev_cell (by exact hbA)]
  exact h3
theorem filesAt_away {W : World} {G : Nat} {x y : Int} {ty : TypeId} {u : Value} {l : List Fl} (hG : W.heap[G]? = some (.cells #[.int .i64 x, .int .i64 y] ty (0, 0))) (p q : Value) (hu : FilesAt W u l) : FilesAt ((W.setCell ⟨G, 0, none⟩ p).setCell ⟨G, 1, none⟩ q) u l := by
  obtain ⟨a, c, b, o, hv, ha, hc, hm, hx⟩ := hu
  refine ⟨a, c, b, o, hv, ha, hc, hm, fun k y hk j v hv' => ?_⟩
  have hbF : b ≠ G := by
    rintro rfl
    have c1 := hx k y hk 0 _ rfl
    rw [cell_of_row W _ _ _ _ (0, 0) hG] at c1
    rcases Nat.lt_or_ge (o + k * 6) 2 with h | h
    · have : o + k * 6 = 0 ∨ o + k * 6 = 1 := by omega
      rcases this with e | e <;> rw [e] at c1 <;> simp at c1
    · rw [Array.getElem?_eq_none (by simp; omega)] at c1; cases c1
  have h3 := hx k y hk j v hv'
  rw [World.cell?_setCell_other _ _ _ _ (by intro e; have := congrArg Addr.block e; simp at this; omega), World.cell?_setCell_other _ _ _ _ (by intro e; have := congrArg Addr.block e; simp at this; omega)]
  exact h3
def opA (t : Tx) (k : Nat) : Str := if ((t.adds.take k).any fun f => f.part == [45]) = true then kDelete else kAppend
theorem opA_zero (t : Tx) : opA t 0 = kAppend := rfl
theorem opA_full (t : Tx) : opA t t.adds.length = if delT t = true then kDelete else kAppend := by unfold opA delT; rw [List.take_length]
theorem opA_del {t : Tx} {k : Nat} {x : Fl} (hx : t.adds[k]? = some x) (h : (x.part == [45]) = true) : opA t (k + 1) = kDelete := by
  unfold opA
  rw [List.take_add_one, hx, List.any_append]
  simp [h]
theorem opA_not {t : Tx} {k : Nat} {x : Fl} (hx : t.adds[k]? = some x) (h : (x.part == [45]) = false) : opA t (k + 1) = opA t k := by
  unfold opA
  rw [List.take_add_one, hx, List.any_append]
  simp [h]
def dropK (t : Tx) (l : List Fl) (k : Nat) : List Fl := (t.removes.take k).foldl dropF l
theorem dropK_zero (t : Tx) (l : List Fl) : dropK t l 0 = l := rfl
theorem dropK_full (t : Tx) (l : List Fl) : dropK t l t.removes.length = keptT t l := by unfold dropK; rw [List.take_length, drops_kept]; rfl
theorem dropK_succ {t : Tx} {l : List Fl} {k : Nat} {p : Str} (hx : t.removes[k]? = some p) : dropK t l (k + 1) = dropF (dropK t l k) p := by
  unfold dropK
  rw [List.take_add_one, hx, List.foldl_append]
  rfl
theorem dropK_len (t : Tx) (l : List Fl) (k : Nat) : (dropK t l k).length ≤ l.length := by
  unfold dropK
  rw [drops_kept]
  exact List.length_filter_le ..
theorem snapCheck_code' {s : Sn} (h : snapCheck s ≠ .nil) : 0 < (snapCheck s).code := by
  unfold snapCheck at h ⊢
  split
  · decide
  · rename_i h0
    rw [if_neg h0] at h
    split
    · decide
    · rename_i h1
      rw [if_neg h1] at h
      split
      · rename_i h2; exact listCheck_code' h2
      · rename_i h2
        rw [if_neg h2] at h
        exact firstFrom_code h
set_option maxHeartbeats 8000000 in
set_option maxRecDepth 20000 in
theorem refTxCommit_any (B : Nat) (D K : Nat → Prop) (tb : Nat) (t : Tx) (vf va vr : Value) (now : Sn) (vn : Value) (id day index : Int) (w : World) (h : TxAt 54 B w D K tb t vf va vr)
    (hl : FilesAt w vn now.files) (hs : ∀ x ∈ now.files, midF x) (hal : t.adds.length ≤ 1000) (hrl : t.removes.length ≤ 1000) (hpa : ∀ f ∈ t.adds, midF f) :
    Calls Tryz.prog 27 #[.pointer (some ⟨tb, 0, none⟩), snapV now vn, .int .i64 id, .int .i64 day, .int .i64 index] w (RcPost (commitE t now id day index) (commitS t now id day index) w) := by
  have X := Lib.hid (fun W (hb : Below w.heap.size w W) => (⟨hl.below hb, h.below hb⟩ : FilesAt W vn now.files ∧ TxAt 54 B W D K tb t vf va vr))
  obtain ⟨A, hA⟩ : ∃ A, w.heap.size + 1 = A := ⟨_, rfl⟩
  obtain ⟨Fb, hFb⟩ : ∃ Fb, w.heap.size + 1 + 1 = Fb := ⟨_, rfl⟩
  have hsz1 : (w.alloc (.cells #[.int .i64 now.id, .int .i64 now.parent, .int .i64 now.seq, .int .i64 now.day, .int .i64 now.index, S now.op, vn] 24)).heap.size = w.heap.size + 1 := by simp
  have hsz2 : ((w.alloc (.cells #[.int .i64 now.id, .int .i64 now.parent, .int .i64 now.seq, .int .i64 now.day, .int .i64 now.index, S now.op, vn] 24)).alloc (.cells #[.int .i64 0, .int .i64 0, .int .i64 0, .int .i64 0, .int .i64 0, S [], .slice none 0 0] 24)).heap.size = w.heap.size + 1 + 1 := by simp
  have hsz3 : (((w.alloc (.cells #[.int .i64 now.id, .int .i64 now.parent, .int .i64 now.seq, .int .i64 now.day, .int .i64 now.index, S now.op, vn] 24)).alloc (.cells #[.int .i64 0, .int .i64 0, .int .i64 0, .int .i64 0, .int .i64 0, S [], .slice none 0 0] 24)).alloc (.cells #[.int .i64 0, .int .i64 0] 49)).heap.size = w.heap.size + 3 := by simp
  have hba1 : Below w.heap.size w (w.alloc (.cells #[.int .i64 now.id, .int .i64 now.parent, .int .i64 now.seq, .int .i64 now.day, .int .i64 now.index, S now.op, vn] 24)) := (Below.refl _ _).alloc (Nat.le_refl _) _
  have hba2 : Below (w.alloc (.cells #[.int .i64 now.id, .int .i64 now.parent, .int .i64 now.seq, .int .i64 now.day, .int .i64 now.index, S now.op, vn] 24)).heap.size (w.alloc (.cells #[.int .i64 now.id, .int .i64 now.parent, .int .i64 now.seq, .int .i64 now.day, .int .i64 now.index, S now.op, vn] 24)) ((w.alloc (.cells #[.int .i64 now.id, .int .i64 now.parent, .int .i64 now.seq, .int .i64 now.day, .int .i64 now.index, S now.op, vn] 24)).alloc (.cells #[.int .i64 0, .int .i64 0, .int .i64 0, .int .i64 0, .int .i64 0, S [], .slice none 0 0] 24)) := (Below.refl _ _).alloc (Nat.le_refl _) _
  have hba3 : Below ((w.alloc (.cells #[.int .i64 now.id, .int .i64 now.parent, .int .i64 now.seq, .int .i64 now.day, .int .i64 now.index, S now.op, vn] 24)).alloc (.cells #[.int .i64 0, .int .i64 0, .int .i64 0, .int .i64 0, .int .i64 0, S [], .slice none 0 0] 24)).heap.size ((w.alloc (.cells #[.int .i64 now.id, .int .i64 now.parent, .int .i64 now.seq, .int .i64 now.day, .int .i64 now.index, S now.op, vn] 24)).alloc (.cells #[.int .i64 0, .int .i64 0, .int .i64 0, .int .i64 0, .int .i64 0, S [], .slice none 0 0] 24)) (((w.alloc (.cells #[.int .i64 now.id, .int .i64 now.parent, .int .i64 now.seq, .int .i64 now.day, .int .i64 now.index, S now.op, vn] 24)).alloc (.cells #[.int .i64 0, .int .i64 0, .int .i64 0, .int .i64 0, .int .i64 0, S [], .slice none 0 0] 24)).alloc (.cells #[.int .i64 0, .int .i64 0] 49)) := (Below.refl _ _).alloc (Nat.le_refl _) _
  have hba := hba1.trans ((hba2.trans (hba3.mono hba2.size)).mono hba1.size)
  have hgb := rowKept (rowKept (heap_alloc_new w (.cells #[.int .i64 now.id, .int .i64 now.parent, .int .i64 now.seq, .int .i64 now.day, .int .i64 now.index, S now.op, vn] 24)) hba2) hba3
  have hga := rowKept (heap_alloc_new (w.alloc (.cells #[.int .i64 now.id, .int .i64 now.parent, .int .i64 now.seq, .int .i64 now.day, .int .i64 now.index, S now.op, vn] 24)) (.cells #[.int .i64 0, .int .i64 0, .int .i64 0, .int .i64 0, .int .i64 0, S [], .slice none 0 0] 24)) hba3
  have hgf := heap_alloc_new ((w.alloc (.cells #[.int .i64 now.id, .int .i64 now.parent, .int .i64 now.seq, .int .i64 now.day, .int .i64 now.index, S now.op, vn] 24)).alloc (.cells #[.int .i64 0, .int .i64 0, .int .i64 0, .int .i64 0, .int .i64 0, S [], .slice none 0 0] 24)) (.cells #[.int .i64 0, .int .i64 0] 49)
  rw [hsz1, hA] at hga
  rw [hsz2, hFb] at hgf
  have HGb := Lib.hid (fun W (hb : Below (((w.alloc (.cells #[.int .i64 now.id, .int .i64 now.parent, .int .i64 now.seq, .int .i64 now.day, .int .i64 now.index, S now.op, vn] 24)).alloc (.cells #[.int .i64 0, .int .i64 0, .int .i64 0, .int .i64 0, .int .i64 0, S [], .slice none 0 0] 24)).alloc (.cells #[.int .i64 0, .int .i64 0] 49)).heap.size (((w.alloc (.cells #[.int .i64 now.id, .int .i64 now.parent, .int .i64 now.seq, .int .i64 now.day, .int .i64 now.index, S now.op, vn] 24)).alloc (.cells #[.int .i64 0, .int .i64 0, .int .i64 0, .int .i64 0, .int .i64 0, S [], .slice none 0 0] 24)).alloc (.cells #[.int .i64 0, .int .i64 0] 49)) W) => rowKept hgb hb)
  have HGa := Lib.hid (fun W (hb : Below (((w.alloc (.cells #[.int .i64 now.id, .int .i64 now.parent, .int .i64 now.seq, .int .i64 now.day, .int .i64 now.index, S now.op, vn] 24)).alloc (.cells #[.int .i64 0, .int .i64 0, .int .i64 0, .int .i64 0, .int .i64 0, S [], .slice none 0 0] 24)).alloc (.cells #[.int .i64 0, .int .i64 0] 49)).heap.size (((w.alloc (.cells #[.int .i64 now.id, .int .i64 now.parent, .int .i64 now.seq, .int .i64 now.day, .int .i64 now.index, S now.op, vn] 24)).alloc (.cells #[.int .i64 0, .int .i64 0, .int .i64 0, .int .i64 0, .int .i64 0, S [], .slice none 0 0] 24)).alloc (.cells #[.int .i64 0, .int .i64 0] 49)) W) => rowKept hga hb)
  have HGf := Lib.hid (fun W (hb : Below (((w.alloc (.cells #[.int .i64 now.id, .int .i64 now.parent, .int .i64 now.seq, .int .i64 now.day, .int .i64 now.index, S now.op, vn] 24)).alloc (.cells #[.int .i64 0, .int .i64 0, .int .i64 0, .int .i64 0, .int .i64 0, S [], .slice none 0 0] 24)).alloc (.cells #[.int .i64 0, .int .i64 0] 49)).heap.size (((w.alloc (.cells #[.int .i64 now.id, .int .i64 now.parent, .int .i64 now.seq, .int .i64 now.day, .int .i64 now.index, S now.op, vn] 24)).alloc (.cells #[.int .i64 0, .int .i64 0, .int .i64 0, .int .i64 0, .int .i64 0, S [], .slice none 0 0] 24)).alloc (.cells #[.int .i64 0, .int .i64 0] 49)) W) => rowKept hgf hb)
  have HSz := Lib.hid hsz3
  have HN : Hid (w.heap.size ≤ A ∧ w.heap.size ≤ Fb ∧ A ≠ Fb) := Lib.hid (by omega)
  obtain ⟨an, cn, rfl, -, -⟩ := At.form' hl
  have hAdds := h.addsAt
  obtain ⟨a, c, b1, o1, rfl, ha1, hc1, hcm1, hx1⟩ := h.addsAt
  obtain ⟨a2, c2, b2, o2, rfl, ha2, hc2, hcm2, hx2⟩ := h.remsAt
  unfold maxLen at hcm1 hcm2
  have HX1 := Lib.hid hx1; have HX2 := Lib.hid hx2
  have HFo := Lib.hid (fun p W (hb : Below w.heap.size w W) => findOf_any _ now.files p W (X.out W hb).1)
  have HCE : Hid (commitE t now id day index = if snapCheck now ≠ .nil then snapCheck now else if goneT t now.files = true then .bare 11 else if thereT t now.files = true then .bare 7 else (snapCheck (snapT t now id day index)).noPlace) := Lib.hid rfl
  have HCS := Lib.hid (@commitS_bad t now id day index)
  clear hba1 hba2 hba3 hsz1 hsz2 hsz3 hgb hga hgf h hl hAdds hx1 hx2
  go_enter Tryz.func27, Tryz.ntmps27
  go_upto_region 1 with fail
  generalize ((w.alloc (.cells #[.int .i64 now.id, .int .i64 now.parent, .int .i64 now.seq, .int .i64 now.day, .int .i64 now.index, S now.op, .slice an now.files.length cn] 24)).alloc (.cells #[.int .i64 0, .int .i64 0, .int .i64 0, .int .i64 0, .int .i64 0, S [], .slice none 0 0] 24)).alloc (.cells #[.int .i64 0, .int .i64 0] 49) = w0 at *
  try rw [hA]
  rw [hA] at hFb
  try rw [hFb]
  clear hA hFb
  obtain ⟨c0, c1, c2', c3, c4, c5, c6⟩ := rowS7 (HGb.out _ (Below.refl _ _))
  have HFa := Lib.hid (snapFault_any now _ w0 (X.out _ hba).1 hs)
  go_wp2_with fail
  refine HFa.out.mono ?_
  rintro e w1 ⟨rfl, hb1⟩
  have hbw1 := hba.trans (hb1.mono hba.size)
  clear c0 c1 c2' c3 c4 c5 c6 HFa
  rw [show faultOf (snapCheck now) = .agg #[.int .i64 ((snapCheck now).code : Int), .int .i64 (snapCheck now).place] from rfl]
  obtain ⟨cc, hcc⟩ : ∃ cc : Nat, (snapCheck now).code = cc := ⟨_, rfl⟩
  obtain ⟨pp, hpp⟩ : ∃ pp : Int, (snapCheck now).place = pp := ⟨_, rfl⟩
  rw [hcc, hpp]
  have hb2 : Below w1.heap.size w1 (w1.alloc (.cells #[.int .i64 (cc : Nat), .int .i64 pp] 49)) := (Below.refl _ _).alloc (Nat.le_refl _) _
  have hgg := heap_alloc_new w1 (.cells #[.int .i64 (cc : Nat), .int .i64 pp] 49)
  have hb02 := hb1.trans (hb2.mono hb1.size)
  have hbw2 := hbw1.trans (hb2.mono hbw1.size)
  have hG0 : w0.heap.size ≤ w1.heap.size := hb1.size
  go_upto_region 2 with fail
  generalize w1.alloc (.cells #[.int .i64 (cc : Nat), .int .i64 pp] 49) = w2 at *
  obtain ⟨G, hG⟩ : ∃ G, w1.heap.size = G := ⟨_, rfl⟩
  rw [hG] at hgg hG0 ⊢
  have HGg := Lib.hid hgg
  have HCp : Hid ((snapCheck now).code = cc ∧ (snapCheck now).place = pp) := Lib.hid ⟨hcc, hpp⟩
  obtain ⟨e0, e1, ez⟩ := rowF2 hgg
  clear hG hgg ez hb2
  by_cases hck : snapCheck now = .nil
  case neg =>
    have hpos := snapCheck_code' hck
    rw [hcc] at hpos
    have gp : (0 : Int) < (cc : Int) := by omega
    have HC2 : Hid (commitE t now id day index = snapCheck now) := Lib.hid (by rw [HCE.out, if_pos hck])
    have HS2 : Hid (commitS t now id day index = zeroSn) := Lib.hid (HCS.out (by rw [HC2.out]; exact hck))
    clear hck hcc hpp
    have hga := HGa.out _ hb02
    have hgf := HGf.out _ hb02
    obtain ⟨z0, z1, z2, z3, z4, z5, z6⟩ := rowS7 (s := zeroSn) hga
    obtain ⟨y0, y1, yz⟩ := rowF2 hgf
    have fz : ∀ j, w2.frozen? ⟨A, j, none⟩ = false := fun j => frozen_row hga
    have f0 := fz 0; have f1 := fz 1; have f2 := fz 2; have f3 := fz 3; have f4 := fz 4; have f5 := fz 5; have f6 := fz 6
    have gy0 := yz 0; have gy1 := yz 1
    have HAz := Lib.hid hga; have HFz := Lib.hid hgf
    clear fz yz hga hgf
    have hGA : ¬ G = A ∧ ¬ A = G ∧ ¬ G = Fb ∧ ¬ Fb = G ∧ ¬ A = Fb ∧ ¬ Fb = A := by have h1 := HSz.out; have h2 := HN.out; have h3 := (Array.getElem?_eq_some_iff.1 (HGa.out _ (Below.refl _ _))).1; have h4 := (Array.getElem?_eq_some_iff.1 (HGf.out _ (Below.refl _ _))).1; omega
    obtain ⟨k1, k2, k3, k4, k5, k6⟩ := hGA
    go_wp2_with fail
    go_region_law (fail)
    all_goals
      go_wp2_with fail
      first
        | exact rc_bad_drew rfl rfl HS2.out (by rw [HC2.out, HCp.out.1]) (by rw [HC2.out]; exact HCp.out.2) HAz.out HFz.out hbw2 HN.out.1 HN.out.2.1 HN.out.2.2
        | exact rc_bad rfl rfl HS2.out (by rw [HC2.out, HCp.out.1]) (by rw [HC2.out]; exact HCp.out.2) HAz.out HFz.out hbw2 HN.out.1 HN.out.2.1 HN.out.2.2
  have HR := Lib.hid ((snap_iff now).1 hck)
  have hc0 : cc = 0 := by rw [hck] at hcc; exact hcc.symm
  have g1 : decide ((0 : Int) < (cc : Int)) = false := by simp [hc0]
  have g2 : decide (0 < cc) = false := by simp [hc0]
  have HC1 : Hid (commitE t now id day index = if goneT t now.files = true then .bare 11 else if thereT t now.files = true then .bare 7 else (snapCheck (snapT t now id day index)).noPlace) := Lib.hid (by rw [HCE.out, if_neg (by rw [hck]; simp)])
  have hseq : 0 ≤ now.seq ∧ now.seq ≤ 1073741824 := (HR.out.nums).2.2.1
  obtain ⟨hq1, hq2⟩ := hseq
  clear hck hcc hpp hc0 HCE HCp
  go_upto_block 0 with fail
  clear e0 e1
  go_cut [13] (fun _ wx => goneT t now.files = false ∧ Below w2.heap.size w2 wx)
  case first =>
    go_wp2_with fail
    go_loopw [13] (fun i wr => ∃ k : Nat, k ≤ t.removes.length ∧ i = .int .i64 k ∧ Hid (∀ j < k, ∀ p, t.removes[j]? = some p → 0 ≤ findV now.files p) ∧ Below w2.heap.size w2 wr) (fun i _ => t.removes.length - (intOf i).toNat)
    case atStart => exact ⟨0, by omega, rfl, Lib.hid fun j hj => absurd hj (by omega), Below.refl _ _⟩
    case round =>
      obtain ⟨k, hk, rfl, hj, hb⟩ := hrel
      obtain ⟨wo, rfl⟩ : ∃ wo, wo = wr := ⟨wr, rfl⟩
      have hbwo := hbw2.trans (hb.mono hbw2.size)
      have hb0o := hb02.trans (hb.mono hb02.size)
      have a8 := (X.out _ hbwo).2.c8
      by_cases hlt : k < t.removes.length
      case neg =>
        obtain rfl : k = t.removes.length := by omega
        have f : decide ((t.removes.length : Int) < (t.removes.length : Int)) = false := by simp
        have hgo : goneT t now.files = false := List.any_eq_false.2 fun p hp => by
          obtain ⟨j, hj1, hj2⟩ := List.getElem_of_mem hp
          have := hj.out j hj1 p (by rw [List.getElem?_eq_getElem hj1, hj2])
          simp; omega
        have HGo := Lib.hid hgo
        clear hgo
        go_wp2_with fail
        go_meet
        exact ⟨HGo.out, hb⟩
      have hk1 : (k : Int) < (t.removes.length : Int) := by omega
      obtain ⟨p, hpk⟩ := get_ex hlt
      have i1 := idx_at (c := c2) 1 Tryz.underlying35 szStr ha2 k hlt
      have hd : Below w.heap.size w wo.drew := hbwo.drew
      have x0 := (hd.cell (World.block_lt_of_cell? _ _ (HX2.out k p hpk 0 _ rfl))).trans (HX2.out k p hpk 0 _ rfl)
      simp only [Nat.mul_one, Nat.add_zero] at x0 i1
      have b6 := (rowS7 (HGb.out _ hb0o.drew)).2.2.2.2.2.2
      have HPk := Lib.hid hpk
      have HFp := Lib.hid (HFo.out p wo.drew hd)
      clear hpk
      by_cases hfv : findV now.files p < 0
      case pos =>
        have hgo : goneT t now.files = true := List.any_eq_true.2 ⟨p, List.mem_of_getElem? HPk.out, decide_eq_true hfv⟩
        have HC2 : Hid (commitE t now id day index = .bare 11) := Lib.hid (by rw [HC1.out, if_pos hgo])
        have HS2 : Hid (commitS t now id day index = zeroSn) := Lib.hid (HCS.out (by rw [HC2.out]; simp))
        generalize findV now.files p = fv at *
        clear hgo
        go_wp2_with fail
        first
          | go_region_held3 (fun w' => w'.cell? ⟨w.heap.size, 6, none⟩ = some (.slice an now.files.length cn) ∧ w'.cell? ⟨tb, 8, none⟩ = some (.slice a2 t.removes.length c2) ∧ w'.cell? ⟨b2, o2 + k, none⟩ = some (S p)) (exact ⟨b6, a8, x0⟩) ((go_at_call 20; (with_reducible refine HFp.out.mono ?_); rintro e w' ⟨rfl, rfl⟩))
          | fail
        all_goals
          go_wp2_with fail
          refine (refBare_any 11 _).mono ?_
          rintro e wx ⟨rfl, hbx⟩
          unfold faultV
          have hbwx := hd.trans (hbx.mono hd.size)
          have hb0x := hb0o.drew.trans (hbx.mono hb0o.drew.size)
          have hga := HGa.out _ hb0x
          have hgf := HGf.out _ hb0x
          obtain ⟨z0, z1, z2, z3, z4, z5, z6⟩ := rowS7 (s := zeroSn) hga
          obtain ⟨y0, y1, yz⟩ := rowF2 hgf
          have fz : ∀ j, wx.frozen? ⟨A, j, none⟩ = false := fun j => frozen_row hga
          have f0 := fz 0; have f1 := fz 1; have f2 := fz 2; have f3 := fz 3; have f4 := fz 4; have f5 := fz 5; have f6 := fz 6
          have gy0 := yz 0; have gy1 := yz 1
          have HAz := Lib.hid hga; have HFz := Lib.hid hgf
          clear fz yz hga hgf
          have hAF : A ≠ Fb ∧ Fb ≠ A := ⟨HN.out.2.2, fun h => HN.out.2.2 h.symm⟩
          obtain ⟨k1, k2⟩ := hAF
          clear b6 a8 x0 i1 hlt hk1 hk hq1 hq2 g1 g2 ha1 hc1 hcm1 ha2 hc2 hcm2
          go_wp2_with fail
          exact rc_bad rfl rfl HS2.out (by rw [HC2.out]; rfl) (by rw [HC2.out]; rfl) HAz.out HFz.out hbwx HN.out.1 HN.out.2.1 HN.out.2.2
      have gf : decide (findV now.files p < 0) = false := decide_eq_false hfv
      have HJ : Hid (∀ j < k + 1, ∀ q, t.removes[j]? = some q → 0 ≤ findV now.files q) := Lib.hid fun j hj' q hq => by
        rcases Nat.lt_or_ge j k with h | h
        · exact hj.out j h q hq
        · obtain rfl : j = k := by omega
          rw [HPk.out] at hq
          obtain rfl := Option.some.inj hq
          omega
      clear hfv
      generalize hfe : findV now.files p = fv at *
      clear hfe
      go_wp2_with fail
      first
        | go_region_held3 (fun w' => w'.cell? ⟨w.heap.size, 6, none⟩ = some (.slice an now.files.length cn) ∧ w'.cell? ⟨tb, 8, none⟩ = some (.slice a2 t.removes.length c2) ∧ w'.cell? ⟨b2, o2 + k, none⟩ = some (S p)) (exact ⟨b6, a8, x0⟩) ((go_at_call 20; (with_reducible refine HFp.out.mono ?_); rintro e w' ⟨rfl, rfl⟩))
        | fail
      all_goals
        go_wp2_with fail
        go_roundw
        case rel => exact ⟨k + 1, by omega, by go_num, HJ, hb.drew⟩
        case measure => simp [intOf]; omega
  case rest =>
    obtain ⟨hgo, hbA⟩ := hcut
    obtain ⟨wA, rfl⟩ : ∃ wA, wA = wc := ⟨wc, rfl⟩
    have hb0A := hb02.trans (hbA.mono hb02.size)
    have hbwA := hbw2.trans (hbA.mono hbw2.size)
    have HC2 : Hid (commitE t now id day index = if thereT t now.files = true then .bare 7 else (snapCheck (snapT t now id day index)).noPlace) := Lib.hid (by rw [HC1.out, if_neg (by rw [hgo]; simp)])
    have HOA0 := Lib.hid (opA_zero t)
    have HOAl := Lib.hid (opA_full t)
    have HOAd := Lib.hid (fun k x => @opA_del t k x)
    have HOAn := Lib.hid (fun k x => @opA_not t k x)
    clear hgo HC1
    generalize hopA : opA t = oA at *
    clear hopA
    go_upto_block 2 with fail
    go_cut [14, 15] (fun op _ wx => op = S (oA t.adds.length) ∧ thereT t now.files = false ∧ Below w2.heap.size w2 wx)
    case first =>
      go_wp2_with fail
      go_loopw [14, 15] (fun op i wr => ∃ k : Nat, k ≤ t.adds.length ∧ i = .int .i64 k ∧ op = S (oA k) ∧ Hid (∀ j < k, ∀ x, t.adds[j]? = some x → findV now.files x.path < 0) ∧ Below w2.heap.size w2 wr) (fun _ i _ => t.adds.length - (intOf i).toNat)
      case atStart => exact ⟨0, by omega, rfl, by rw [HOA0.out], Lib.hid fun j hj => absurd hj (by omega), hbA⟩
      case round =>
        obtain ⟨k, hk, rfl, rfl, hj, hb⟩ := hrel
        obtain ⟨wo, rfl⟩ : ∃ wo, wo = wr := ⟨wr, rfl⟩
        have hbwo := hbw2.trans (hb.mono hbw2.size)
        have hb0o := hb02.trans (hb.mono hb02.size)
        have a7 := (X.out _ hbwo).2.c7
        by_cases hlt : k < t.adds.length
        case neg =>
          obtain rfl : k = t.adds.length := by omega
          have f : decide ((t.adds.length : Int) < (t.adds.length : Int)) = false := by simp
          have hgo : thereT t now.files = false := List.any_eq_false.2 fun x hx => by
            obtain ⟨j, hj1, hj2⟩ := List.getElem_of_mem hx
            have := hj.out j hj1 x (by rw [List.getElem?_eq_getElem hj1, hj2])
            simp; omega
          have HGo := Lib.hid hgo
          clear hgo
          go_wp2_with fail
          go_meet
          exact ⟨rfl, HGo.out, hb⟩
        have hk1 : (k : Int) < (t.adds.length : Int) := by omega
        obtain ⟨x, hxk⟩ := get_ex hlt
        have i1 := idx_at (c := c) 6 Tryz.underlying22 szFl ha1 k hlt
        have hd : Below w.heap.size w wo.drew := hbwo.drew
        obtain ⟨x0, x1, -, -, -, -⟩ := flCells HX1.out hd hxk
        have b6 := (rowS7 (HGb.out _ hb0o.drew)).2.2.2.2.2.2
        have a7' := (X.out _ hd).2.c7
        have HXk := Lib.hid hxk
        have HFp := Lib.hid (HFo.out x.path wo.drew hd)
        clear hxk
        by_cases hfv : 0 ≤ findV now.files x.path
        case pos =>
          have hgo : thereT t now.files = true := List.any_eq_true.2 ⟨x, List.mem_of_getElem? HXk.out, decide_eq_true hfv⟩
          have HC3 : Hid (commitE t now id day index = .bare 7) := Lib.hid (by rw [HC2.out, if_pos hgo])
          have HS2 : Hid (commitS t now id day index = zeroSn) := Lib.hid (HCS.out (by rw [HC3.out]; simp))
          generalize findV now.files x.path = fv at *
          clear hgo
          go_wp2_with fail
          first
            | go_region_held3 (fun w' => w'.cell? ⟨w.heap.size, 6, none⟩ = some (.slice an now.files.length cn) ∧ w'.cell? ⟨tb, 7, none⟩ = some (.slice a t.adds.length c) ∧ w'.cell? ⟨b1, o1 + k * 6, none⟩ = some (S x.path)) (exact ⟨b6, a7, x0⟩) ((go_at_call 20; (with_reducible refine HFp.out.mono ?_); rintro e w' ⟨rfl, rfl⟩))
            | fail
          all_goals
            go_wp2_with fail
            refine (refBare_any 7 _).mono ?_
            rintro e wx ⟨rfl, hbx⟩
            unfold faultV
            have hbwx := hd.trans (hbx.mono hd.size)
            have hb0x := hb0o.drew.trans (hbx.mono hb0o.drew.size)
            have hga := HGa.out _ hb0x
            have hgf := HGf.out _ hb0x
            obtain ⟨z0, z1, z2, z3, z4, z5, z6⟩ := rowS7 (s := zeroSn) hga
            obtain ⟨y0, y1, yz⟩ := rowF2 hgf
            have fz : ∀ j, wx.frozen? ⟨A, j, none⟩ = false := fun j => frozen_row hga
            have f0 := fz 0; have f1 := fz 1; have f2 := fz 2; have f3 := fz 3; have f4 := fz 4; have f5 := fz 5; have f6 := fz 6
            have gy0 := yz 0; have gy1 := yz 1
            have HAz := Lib.hid hga; have HFz := Lib.hid hgf
            clear fz yz hga hgf
            have hAF : A ≠ Fb ∧ Fb ≠ A := ⟨HN.out.2.2, fun h => HN.out.2.2 h.symm⟩
            obtain ⟨k1, k2⟩ := hAF
            clear b6 a7 a7' x0 x1 i1 hlt hk1 hk hq1 hq2 g1 g2 ha1 hc1 hcm1 ha2 hc2 hcm2
            go_wp2_with fail
            exact rc_bad rfl rfl HS2.out (by rw [HC3.out]; rfl) (by rw [HC3.out]; rfl) HAz.out HFz.out hbwx HN.out.1 HN.out.2.1 HN.out.2.2
        have gf : decide (0 ≤ findV now.files x.path) = false := decide_eq_false hfv
        have HJ : Hid (∀ j < k + 1, ∀ q, t.adds[j]? = some q → findV now.files q.path < 0) := Lib.hid fun j hj' q hq => by
          rcases Nat.lt_or_ge j k with h | h
          · exact hj.out j h q hq
          · obtain rfl : j = k := by omega
            rw [HXk.out] at hq
            obtain rfl := Option.some.inj hq
            omega
        clear hfv
        generalize hfe : findV now.files x.path = fv at *
        clear hfe
        cases hdash : (x.part == [45])
        case true =>
          have HOk : Hid (oA (k + 1) = kDelete) := Lib.hid (HOAd.out k x HXk.out hdash)
          go_wp2_with fail
          first
            | go_region_held3 (fun w' => w'.cell? ⟨w.heap.size, 6, none⟩ = some (.slice an now.files.length cn) ∧ w'.cell? ⟨tb, 7, none⟩ = some (.slice a t.adds.length c) ∧ w'.cell? ⟨b1, o1 + k * 6, none⟩ = some (S x.path)) (exact ⟨b6, a7, x0⟩) ((go_at_call 20; (with_reducible refine HFp.out.mono ?_); rintro e w' ⟨rfl, rfl⟩))
            | fail
          all_goals
            go_wp2_with fail
            go_roundw
            case rel => exact ⟨k + 1, by omega, by go_num, by rw [HOk.out], HJ, hb.drew⟩
            case measure => simp [intOf]; omega
        case false =>
          have HOk : Hid (oA (k + 1) = oA k) := Lib.hid (HOAn.out k x HXk.out hdash)
          go_wp2_with fail
          first
            | go_region_held3 (fun w' => w'.cell? ⟨w.heap.size, 6, none⟩ = some (.slice an now.files.length cn) ∧ w'.cell? ⟨tb, 7, none⟩ = some (.slice a t.adds.length c) ∧ w'.cell? ⟨b1, o1 + k * 6, none⟩ = some (S x.path)) (exact ⟨b6, a7, x0⟩) ((go_at_call 20; (with_reducible refine HFp.out.mono ?_); rintro e w' ⟨rfl, rfl⟩))
            | fail
          all_goals
            go_wp2_with fail
            go_roundw
            case rel => exact ⟨k + 1, by omega, by go_num, by rw [HOk.out], HJ, hb.drew⟩
            case measure => simp [intOf]; omega
    case rest =>
      obtain ⟨rfl, hth, hbB⟩ := hcut
      obtain ⟨wB, rfl⟩ : ∃ wB, wB = wc := ⟨wc, rfl⟩
      have hb0B := hb02.trans (hbB.mono hb02.size)
      have hbwB := hbw2.trans (hbB.mono hbw2.size)
      have HC3 : Hid (commitE t now id day index = (snapCheck (snapT t now id day index)).noPlace) := Lib.hid (by rw [HC2.out, if_neg (by rw [hth]; simp)])
      have HTh := Lib.hid hth
      clear hth HC2 HOA0 HOAd HOAn
      have a8 := (X.out _ hbwB).2.c8
      have HOp : Hid (opT t = if t.removes ≠ [] then kRewrite else oA t.adds.length) := Lib.hid (by rw [HOAl.out]; rfl)
      obtain ⟨oB, hoB⟩ : ∃ oB, oA t.adds.length = oB := ⟨_, rfl⟩
      rw [hoB] at HOp ⊢
      clear hoB HOAl
      go_upto_if 87 with fail
      go_cut [14] (fun op wx => op = S (opT t) ∧ wx = wB)
      case first =>
        by_cases hr : t.removes = []
        case pos =>
          have hl : t.removes.length = 0 := by rw [hr]; rfl
          have gz : decide ((0 : Int) < (t.removes.length : Int)) = false := by simp [hl]
          have gz2 : decide (0 < t.removes.length) = false := by simp [hl]
          have gz3 : ¬ 0 < t.removes.length := by omega
          have HV : Hid (opT t = oB) := Lib.hid (by rw [HOp.out, if_neg (fun h => h hr)])
          clear hr
          go_wp2_with fail
          go_meet
          exact ⟨by rw [HV.out], rfl⟩
        case neg =>
          have hl : 0 < t.removes.length := List.length_pos_iff.2 hr
          have gz : (0 : Int) < (t.removes.length : Int) := by omega
          have HV : Hid (opT t = kRewrite) := Lib.hid (by rw [HOp.out, if_pos hr])
          clear hr
          go_wp2_with fail
          go_meet
          exact ⟨by rw [HV.out], rfl⟩
      case rest =>
        obtain ⟨rfl, rfl⟩ := hcut
        have HDz := Lib.hid (dropK_zero t now.files)
        have HDs := Lib.hid (fun k p => @dropK_succ t now.files k p)
        have HDf := Lib.hid (dropK_full t now.files)
        have HDl : Hid (∀ k, (dropK t now.files k).length ≤ 60) := Lib.hid fun k => Nat.le_trans (dropK_len t now.files k) HR.out.lst.len
        obtain ⟨op, hop⟩ : ∃ op, opT t = op := ⟨_, rfl⟩
        have HOpe := Lib.hid hop
        rw [hop]
        clear hop
        generalize hdk : dropK t now.files = dk at *
        clear hdk
        have b6 := (rowS7 (HGb.out _ hb0B)).2.2.2.2.2.2
        go_upto_block 4 with fail
        clear b6
        go_cut [16, 17] (fun l _ wx => ∃ v, v = l ∧ FilesAt wx v (keptT t now.files) ∧ Below w2.heap.size w2 wx)
        case first =>
          go_wp2_with fail
          go_loopw [16, 17] (fun l i wr => ∃ k : Nat, k ≤ t.removes.length ∧ i = .int .i64 k ∧ (∃ v, v = l ∧ FilesAt wr v (dk k)) ∧ Below w2.heap.size w2 wr) (fun _ i _ => t.removes.length - (intOf i).toNat)
          case atStart => exact ⟨0, by omega, rfl, ⟨_, rfl, by rw [HDz.out]; exact (X.out _ hbwB).1⟩, hbB⟩
          case round =>
            obtain ⟨k, hk, rfl, ⟨v, rfl, hv⟩, hb⟩ := hrel
            obtain ⟨wo, rfl⟩ : ∃ wo, wo = wr := ⟨wr, rfl⟩
            have hbwo := hbw2.trans (hb.mono hbw2.size)
            have a8 := (X.out _ hbwo).2.c8
            have HV := Lib.hid hv
            clear hv
            by_cases hlt : k < t.removes.length
            case neg =>
              obtain rfl : k = t.removes.length := by omega
              have f : decide ((t.removes.length : Int) < (t.removes.length : Int)) = false := by simp
              go_wp2_with fail
              go_meet
              exact ⟨_, rfl, by rw [← HDf.out]; exact HV.out, hb⟩
            have hk1 : (k : Int) < (t.removes.length : Int) := by omega
            obtain ⟨p, hpk⟩ := get_ex hlt
            have i1 := idx_at (c := c2) 1 Tryz.underlying35 szStr ha2 k hlt
            have x0 := (hbwo.cell (World.block_lt_of_cell? _ _ (HX2.out k p hpk 0 _ rfl))).trans (HX2.out k p hpk 0 _ rfl)
            simp only [Nat.mul_one, Nat.add_zero] at x0 i1
            have HSk := Lib.hid (HDs.out k p hpk)
            have HW := Lib.hid (without_any v (dk k) p wo HV.out (by have := HDl.out k; omega))
            clear hpk
            go_wp2_with fail
            refine HW.out.mono ?_
            rintro e w3 ⟨v3, rfl, hv3, hb3⟩
            have hv3' : FilesAt w3 v3 (dk (k + 1)) := by rw [HSk.out]; exact hv3
            have HV3 := Lib.hid hv3'
            clear hv3 hv3'
            go_wp2_with fail
            go_roundw
            case rel => exact ⟨k + 1, by omega, by go_num, ⟨_, rfl, HV3.out⟩, hb.trans (hb3.mono hb.size)⟩
            case measure => simp [intOf]; omega
        case rest =>
          obtain ⟨v, rfl, hv, hbC⟩ := hcut
          obtain ⟨wC, rfl⟩ : ∃ wC, wC = wc := ⟨wc, rfl⟩
          have hb0C := hb02.trans (hbC.mono hb02.size)
          have hbwC := hbw2.trans (hbC.mono hbw2.size)
          obtain ⟨pl, hpl⟩ : ∃ pl : Nat → List Fl, pl = fun k => placeAll ((newT t op (now.seq + 1)).take k) (keptT t now.files) := ⟨_, rfl⟩
          have HPz : Hid (pl 0 = keptT t now.files) := Lib.hid (by rw [hpl]; rfl)
          have HPs : Hid (∀ k x, t.adds[k]? = some x → pl (k + 1) = placeF (seqT t op (now.seq + 1) x) (pl k)) := Lib.hid fun k x hx => by rw [hpl]; simp only; rw [newT_snoc t op _ hx, placeAll_snoc]
          have HPf : Hid (pl t.adds.length = filesT t now.files op (now.seq + 1)) := Lib.hid (by rw [hpl]; simp only [filesT]; rw [List.take_of_length_le (by unfold newT; rw [List.length_map]; exact Nat.le_refl _)])
          have HPm : Hid (∀ k, ∀ y ∈ pl k, midF y) := Lib.hid fun k y hy => by
            rw [hpl] at hy
            rcases List.mem_append.1 ((placeAll_perm _ _).mem_iff.1 hy) with h | h
            · exact hs y (List.mem_filter.1 h).1
            · obtain ⟨g, hg, rfl⟩ := List.mem_map.1 (List.mem_of_mem_take h)
              exact hpa g hg
          have HPn : Hid (∀ k, (pl k).length ≤ 1060) := Lib.hid fun k => by
            rw [hpl]
            simp only
            rw [(placeAll_perm _ _).length_eq, List.length_append]
            have h1 := Nat.le_trans (List.length_filter_le (fun f : Fl => !decide (f.path ∈ t.removes)) now.files) HR.out.lst.len
            have h2 : ((newT t op (now.seq + 1)).take k).length ≤ t.adds.length := by rw [List.length_take]; unfold newT; rw [List.length_map]; omega
            unfold keptT
            omega
          have HSq : Hid (∀ x, seqT t op (now.seq + 1) x = { x with seq := if op = kRewrite ∧ x.part ≠ [45] then t.base.seq else now.seq + 1 }) := Lib.hid fun _ => rfl
          have HV := Lib.hid hv
          have HPa := Lib.hid hpa
          have hwr : IntKind.i64.wrap (now.seq + 1) = now.seq + 1 := by rw [IntKind.wrap_i64]; omega
          clear hpl hv hpa hs
          have a7 := (X.out _ hbwC).2.c7
          go_upto_block 6 with fail
          clear a7
          go_cut [16, 18] (fun l _ wx => ∃ v, v = l ∧ FilesAt wx v (filesT t now.files op (now.seq + 1)) ∧ Below w2.heap.size w2 wx)
          case first =>
            go_wp2_with fail
            go_loopw [16, 18] (fun l i wr => ∃ k : Nat, k ≤ t.adds.length ∧ i = .int .i64 k ∧ (∃ v, v = l ∧ FilesAt wr v (pl k)) ∧ Below w2.heap.size w2 wr) (fun _ i _ => t.adds.length - (intOf i).toNat)
            case atStart => exact ⟨0, by omega, rfl, ⟨_, rfl, by rw [HPz.out]; exact HV.out⟩, hbC⟩
            case round =>
              obtain ⟨k, hk, rfl, ⟨v, rfl, hv⟩, hb⟩ := hrel
              obtain ⟨wo, rfl⟩ : ∃ wo, wo = wr := ⟨wr, rfl⟩
              have hbwo := hbw2.trans (hb.mono hbw2.size)
              have hb0o := hb02.trans (hb.mono hb02.size)
              have a7 := (X.out _ hbwo).2.c7
              have HV := Lib.hid hv
              clear hv
              by_cases hlt : k < t.adds.length
              case neg =>
                obtain rfl : k = t.adds.length := by omega
                have f : decide ((t.adds.length : Int) < (t.adds.length : Int)) = false := by simp
                go_wp2_with fail
                go_meet
                exact ⟨_, rfl, by rw [← HPf.out]; exact HV.out, hb⟩
              have hk1 : (k : Int) < (t.adds.length : Int) := by omega
              obtain ⟨x, hxk⟩ := get_ex hlt
              obtain ⟨x0, x1, x2, x3, x4, x5⟩ := flCells HX1.out hbwo hxk
              have i1 := idx_at (c := c) 6 Tryz.underlying22 szFl ha1 k hlt
              have HSk := Lib.hid (HPs.out k x hxk)
              have HMx := Lib.hid (HPa.out x (List.mem_of_getElem? hxk))
              have hbA : Below wo.heap.size wo (wo.alloc (.cells #[S x.path, S x.part, .int .i64 x.n, .int .i64 x.lo, .int .i64 x.hi, .int .i64 (x.seq)] 37)) := (Below.refl _ _).alloc (Nat.le_refl _) _
              have b2c := (rowS7 (HGb.out _ (hb0o.trans (hbA.mono hb0o.size)))).2.2.1
              have hbB' : Below wo.heap.size wo (wo.alloc (.cells #[S x.path, S x.part, .int .i64 x.n, .int .i64 x.lo, .int .i64 x.hi, .int .i64 (now.seq + 1)] 37)) := (Below.refl _ _).alloc (Nat.le_refl _) _
              have hbnA := (X.out _ (hbwo.trans (hbB'.mono hbwo.size))).2.c2
              clear hxk
              by_cases hop : op = kRewrite
              case neg =>
                have gop : (op == [114, 101, 119, 114, 105, 116, 101]) = false := by simpa using hop
                have HQ : Hid (seqT t op (now.seq + 1) x = ⟨x.path, x.part, x.n, x.lo, x.hi, now.seq + 1⟩) := Lib.hid (by rw [HSq.out, if_neg (fun h => hop h.1)])
                clear hop
                have hbQ := hb.alloc hb.size (.cells #[S x.path, S x.part, .int .i64 x.n, .int .i64 x.lo, .int .i64 x.hi, .int .i64 (now.seq + 1)] 37)
                have hbQo : Below wo.heap.size wo (wo.alloc (.cells #[S x.path, S x.part, .int .i64 x.n, .int .i64 x.lo, .int .i64 x.hi, .int .i64 (now.seq + 1)] 37)) := (Below.refl _ _).alloc (Nat.le_refl _) _
                have hgQ := heap_alloc_new wo (.cells #[S x.path, S x.part, .int .i64 x.n, .int .i64 x.lo, .int .i64 x.hi, .int .i64 (now.seq + 1)] 37)
                go_upto_region 31 with fail
                generalize wo.alloc (.cells #[S x.path, S x.part, .int .i64 x.n, .int .i64 x.lo, .int .i64 x.hi, .int .i64 (now.seq + 1)] 37) = w3 at *
                obtain ⟨T, hT⟩ : ∃ T, wo.heap.size = T := ⟨_, rfl⟩
                rw [hT] at hgQ ⊢
                obtain ⟨d0, d1, d2, d3, d4, d5⟩ := rowF6 (f := ⟨x.path, x.part, x.n, x.lo, x.hi, now.seq + 1⟩) hgQ
                have HPl := Lib.hid (placed_any v (pl k) ⟨x.path, x.part, x.n, x.lo, x.hi, now.seq + 1⟩ w3 (HV.out.below hbQo) (by have := HPn.out k; omega) (HPm.out k) HMx.out)
                clear hgQ hT
                go_wp2_with fail
                refine HPl.out.mono ?_
                rintro e w4 ⟨v4, rfl, hv4, hb4⟩
                have hv4' : FilesAt w4 v4 (pl (k + 1)) := by rw [HSk.out, HQ.out]; exact hv4
                have HV4 := Lib.hid hv4'
                clear hv4 hv4'
                go_wp2_with fail
                go_roundw
                case rel => exact ⟨k + 1, by omega, by go_num, ⟨_, rfl, HV4.out⟩, hbQ.trans (hb4.mono hbQ.size)⟩
                case measure => simp [intOf]; omega
              have gop : (op == [114, 101, 119, 114, 105, 116, 101]) = true := by simpa using hop
              by_cases hpt : x.part = [45]
              case pos =>
                have gpt : (x.part == [45]) = true := by simpa using hpt
                have HQ : Hid (seqT t op (now.seq + 1) x = ⟨x.path, x.part, x.n, x.lo, x.hi, now.seq + 1⟩) := Lib.hid (by rw [HSq.out, if_neg (fun h => h.2 hpt)])
                clear hop hpt
                have hbQ := hb.alloc hb.size (.cells #[S x.path, S x.part, .int .i64 x.n, .int .i64 x.lo, .int .i64 x.hi, .int .i64 (now.seq + 1)] 37)
                have hbQo : Below wo.heap.size wo (wo.alloc (.cells #[S x.path, S x.part, .int .i64 x.n, .int .i64 x.lo, .int .i64 x.hi, .int .i64 (now.seq + 1)] 37)) := (Below.refl _ _).alloc (Nat.le_refl _) _
                have hgQ := heap_alloc_new wo (.cells #[S x.path, S x.part, .int .i64 x.n, .int .i64 x.lo, .int .i64 x.hi, .int .i64 (now.seq + 1)] 37)
                go_upto_region 31 with fail
                generalize wo.alloc (.cells #[S x.path, S x.part, .int .i64 x.n, .int .i64 x.lo, .int .i64 x.hi, .int .i64 (now.seq + 1)] 37) = w3 at *
                obtain ⟨T, hT⟩ : ∃ T, wo.heap.size = T := ⟨_, rfl⟩
                rw [hT] at hgQ ⊢
                obtain ⟨d0, d1, d2, d3, d4, d5⟩ := rowF6 (f := ⟨x.path, x.part, x.n, x.lo, x.hi, now.seq + 1⟩) hgQ
                have HPl := Lib.hid (placed_any v (pl k) ⟨x.path, x.part, x.n, x.lo, x.hi, now.seq + 1⟩ w3 (HV.out.below hbQo) (by have := HPn.out k; omega) (HPm.out k) HMx.out)
                clear hgQ hT
                go_wp2_with fail
                refine HPl.out.mono ?_
                rintro e w4 ⟨v4, rfl, hv4, hb4⟩
                have hv4' : FilesAt w4 v4 (pl (k + 1)) := by rw [HSk.out, HQ.out]; exact hv4
                have HV4 := Lib.hid hv4'
                clear hv4 hv4'
                go_wp2_with fail
                go_roundw
                case rel => exact ⟨k + 1, by omega, by go_num, ⟨_, rfl, HV4.out⟩, hbQ.trans (hb4.mono hbQ.size)⟩
                case measure => simp [intOf]; omega
              case neg =>
                have gpt : (x.part == [45]) = false := by simpa using hpt
                have HQ : Hid (seqT t op (now.seq + 1) x = ⟨x.path, x.part, x.n, x.lo, x.hi, t.base.seq⟩) := Lib.hid (by rw [HSq.out, if_pos ⟨hop, hpt⟩])
                clear hop hpt
                have hbQ := hb.alloc hb.size (.cells #[S x.path, S x.part, .int .i64 x.n, .int .i64 x.lo, .int .i64 x.hi, .int .i64 (t.base.seq)] 37)
                have hbQo : Below wo.heap.size wo (wo.alloc (.cells #[S x.path, S x.part, .int .i64 x.n, .int .i64 x.lo, .int .i64 x.hi, .int .i64 (t.base.seq)] 37)) := (Below.refl _ _).alloc (Nat.le_refl _) _
                have hgQ := heap_alloc_new wo (.cells #[S x.path, S x.part, .int .i64 x.n, .int .i64 x.lo, .int .i64 x.hi, .int .i64 (t.base.seq)] 37)
                go_upto_region 31 with fail
                generalize wo.alloc (.cells #[S x.path, S x.part, .int .i64 x.n, .int .i64 x.lo, .int .i64 x.hi, .int .i64 (t.base.seq)] 37) = w3 at *
                obtain ⟨T, hT⟩ : ∃ T, wo.heap.size = T := ⟨_, rfl⟩
                rw [hT] at hgQ ⊢
                obtain ⟨d0, d1, d2, d3, d4, d5⟩ := rowF6 (f := ⟨x.path, x.part, x.n, x.lo, x.hi, t.base.seq⟩) hgQ
                have HPl := Lib.hid (placed_any v (pl k) ⟨x.path, x.part, x.n, x.lo, x.hi, t.base.seq⟩ w3 (HV.out.below hbQo) (by have := HPn.out k; omega) (HPm.out k) HMx.out)
                clear hgQ hT
                go_wp2_with fail
                refine HPl.out.mono ?_
                rintro e w4 ⟨v4, rfl, hv4, hb4⟩
                have hv4' : FilesAt w4 v4 (pl (k + 1)) := by rw [HSk.out, HQ.out]; exact hv4
                have HV4 := Lib.hid hv4'
                clear hv4 hv4'
                go_wp2_with fail
                go_roundw
                case rel => exact ⟨k + 1, by omega, by go_num, ⟨_, rfl, HV4.out⟩, hbQ.trans (hb4.mono hbQ.size)⟩
                case measure => simp [intOf]; omega
          case rest =>
            obtain ⟨v, rfl, hv, hbD⟩ := hcut
            obtain ⟨wD, rfl⟩ : ∃ wD, wD = wc := ⟨wc, rfl⟩
            have hb0D := hb02.trans (hbD.mono hb02.size)
            have hbwD := hbw2.trans (hbD.mono hbw2.size)
            have hmf : ∀ y ∈ filesT t now.files op (now.seq + 1), midF y := fun y hy => HPm.out t.adds.length y (by rw [HPf.out]; exact hy)
            have hse : snapT t now id day index = ⟨id, now.id, now.seq + 1, day, index, op, filesT t now.files op (now.seq + 1)⟩ := by unfold snapT; rw [HOpe.out]
            obtain ⟨fl, hfl⟩ : ∃ fl, filesT t now.files op (now.seq + 1) = fl := ⟨_, rfl⟩
            rw [hfl] at hv hmf hse
            have HSe := Lib.hid hse
            obtain ⟨av, cv, rfl, -, -⟩ := At.form' hv
            clear hfl hse HPs HPz HPf HPm HPn HSq HPa HX1 HX2 HDz HDs HDf HDl
            have hbE : Below wD.heap.size wD (wD.alloc (.cells #[.int .i64 id, .int .i64 now.id, .int .i64 (now.seq + 1), .int .i64 day, .int .i64 index, S op, .slice av fl.length cv] 24)) := (Below.refl _ _).alloc (Nat.le_refl _) _
            have hgE := heap_alloc_new wD (.cells #[.int .i64 id, .int .i64 now.id, .int .i64 (now.seq + 1), .int .i64 day, .int .i64 index, S op, .slice av fl.length cv] 24)
            have hfE := hv.below hbE
            obtain ⟨c0, -, c2', -, -, -, -⟩ := rowS7 (HGb.out _ hb0D)
            go_upto_region 33 with fail
            clear c0 c2'
            generalize wD.alloc (.cells #[.int .i64 id, .int .i64 now.id, .int .i64 (now.seq + 1), .int .i64 day, .int .i64 index, S op, .slice av fl.length cv] 24) = wE at *
            obtain ⟨T, hT⟩ : ∃ T, wD.heap.size = T := ⟨_, rfl⟩
            rw [hT] at hgE ⊢
            have hTz : w2.heap.size ≤ T := by rw [← hT]; exact hbD.size
            have hgE' : wE.heap[T]? = some (.cells #[.int .i64 id, .int .i64 now.id, .int .i64 (now.seq + 1), .int .i64 day, .int .i64 index, S op, .slice av fl.length cv] 24 (0, 0)) := hgE
            obtain ⟨s0, s1, s2, s3, s4, s5, s6⟩ := rowS7 (s := ⟨id, now.id, now.seq + 1, day, index, op, fl⟩) hgE'
            have HFa := Lib.hid (snapFault_any ⟨id, now.id, now.seq + 1, day, index, op, fl⟩ _ wE hfE hmf)
            have HE := Lib.hid hgE'
            have HfE := Lib.hid hfE
            clear hgE hgE' hfE hv hmf
            go_wp2_with fail
            refine HFa.out.mono ?_
            rintro e w5 ⟨rfl, hb5⟩
            obtain ⟨sn, hsn⟩ : ∃ sn : Sn, (⟨id, now.id, now.seq + 1, day, index, op, fl⟩ : Sn) = sn := ⟨_, rfl⟩
            rw [hsn] at HSe HFa ⊢
            rw [show faultOf (snapCheck sn) = .agg #[.int .i64 ((snapCheck sn).code : Int), .int .i64 (snapCheck sn).place] from rfl]
            obtain ⟨c9, hc9⟩ : ∃ c9 : Nat, (snapCheck sn).code = c9 := ⟨_, rfl⟩
            obtain ⟨p9, hp9⟩ : ∃ p9 : Int, (snapCheck sn).place = p9 := ⟨_, rfl⟩
            rw [hc9, hp9]
            have hb25 : Below w2.heap.size w2 w5 := (hbD.trans (hbE.mono hbD.size)).trans (hb5.mono (Nat.le_trans hbD.size hbE.size))
            have hG5 := rowKept HGg.out hb25
            have hE5 := rowKept HE.out hb5
            obtain ⟨e0, e1, ez⟩ := rowF2 hG5
            have ez0 := ez 0; have ez1 := ez 1
            have hG6 := set_two hG5 (.int .i64 (c9 : Int)) (.int .i64 p9)
            have HfG := Lib.hid (filesAt_away hG5 (.int .i64 (c9 : Int)) (.int .i64 p9) (HfE.out.below hb5))
            go_upto_region 34 with fail
            have hb05 := hb02.trans (hb25.mono hb02.size)
            have hbw5 := hbw2.trans (hb25.mono hbw2.size)
            have hGlt := (Array.getElem?_eq_some_iff.1 hG5).1
            have hAlt := (Array.getElem?_eq_some_iff.1 (HGa.out _ (Below.refl _ _))).1
            have hFlt := (Array.getElem?_eq_some_iff.1 (HGf.out _ (Below.refl _ _))).1
            have hGlt2 := (Array.getElem?_eq_some_iff.1 HGg.out).1
            have hGw : w.heap.size ≤ G := by have := HSz.out; omega
            have hA6 := (two_otherT (g := G) (k := A) (by omega) (.int .i64 (c9 : Int)) (.int .i64 p9)).trans (HGa.out _ hb05)
            have hF6 := (two_otherT (g := G) (k := Fb) (by omega) (.int .i64 (c9 : Int)) (.int .i64 p9)).trans (HGf.out _ hb05)
            have hE6 := (two_otherT (g := G) (k := T) (by omega) (.int .i64 (c9 : Int)) (.int .i64 p9)).trans hE5
            have hb6 := (hbw5.setCell (p := ⟨G, 0, none⟩) hGw (.int .i64 (c9 : Int))).setCell (p := ⟨G, 1, none⟩) hGw (.int .i64 p9)
            have Hc9 := Lib.hid hc9
            have Hp9 := Lib.hid hp9
            clear e0 e1 ez ez0 ez1 s0 s1 s2 s3 s4 s5 s6 hc9 hp9
            generalize (w5.setCell ⟨G, 0, none⟩ (.int .i64 (c9 : Int))).setCell ⟨G, 1, none⟩ (.int .i64 p9) = w6 at *
            obtain ⟨e0, e1, ez⟩ := rowF2 hG6
            clear ez
            by_cases hck : snapCheck sn = .nil
            case neg =>
              have hpos := snapCheck_code' hck
              rw [Hc9.out] at hpos
              have gp : (0 : Int) < (c9 : Int) := by omega
              have HC4 : Hid (commitE t now id day index = (snapCheck sn).noPlace) := Lib.hid (by rw [HC3.out, HSe.out])
              have HS4 : Hid (commitS t now id day index = zeroSn) := Lib.hid (HCS.out (by rw [HC4.out]; exact fun h => hck (by revert h; cases snapCheck sn <;> simp [Er.noPlace])))
              go_wp2_with fail
              refine (refBare_any _ _).mono ?_
              rintro e w7 ⟨rfl, hb7⟩
              unfold faultV
              have hA7 := rowKept hA6 hb7
              have hF7 := rowKept hF6 hb7
              have hbw7 := hb6.trans (hb7.mono hb6.size)
              obtain ⟨z0, z1, z2, z3, z4, z5, z6⟩ := rowS7 (s := zeroSn) hA7
              obtain ⟨y0, y1, yz⟩ := rowF2 hF7
              have fz : ∀ j, w7.frozen? ⟨A, j, none⟩ = false := fun j => frozen_row hA7
              have f0 := fz 0; have f1 := fz 1; have f2 := fz 2; have f3 := fz 3; have f4 := fz 4; have f5 := fz 5; have f6 := fz 6
              have gy0 := yz 0; have gy1 := yz 1
              have HAz := Lib.hid hA7; have HFz := Lib.hid hF7
              have hAF : A ≠ Fb ∧ Fb ≠ A := ⟨HN.out.2.2, fun h => HN.out.2.2 h.symm⟩
              obtain ⟨k1, k2⟩ := hAF
              clear fz yz
              clear e0 e1
              go_wp2_with fail
              exact rc_bad rfl rfl HS4.out (by rw [HC4.out, ← Hc9.out]; cases snapCheck sn <;> rfl) (by rw [HC4.out]; cases snapCheck sn <;> rfl) HAz.out HFz.out hbw7 HN.out.1 HN.out.2.1 HN.out.2.2
            have h90 : c9 = 0 := by rw [← Hc9.out, hck]; rfl
            have gz1 : decide ((0 : Int) < (c9 : Int)) = false := by simp [h90]
            have gz2 : decide (0 < c9) = false := by simp [h90]
            have gz3 : ¬ 0 < c9 := by omega
            have HC4 : Hid (commitE t now id day index = .nil) := Lib.hid (by rw [HC3.out, HSe.out, hck]; rfl)
            have HS4 : Hid (commitS t now id day index = sn) := Lib.hid (by unfold commitS; rw [if_pos HC4.out, HSe.out])
            obtain ⟨s0, s1, s2, s3, s4, s5, s6⟩ := rowS7 (s := ⟨id, now.id, now.seq + 1, day, index, op, fl⟩) hE6
            obtain ⟨z0, z1, z2, z3, z4, z5, z6⟩ := rowS7 (s := zeroSn) hA6
            obtain ⟨y0, y1, yz⟩ := rowF2 hF6
            have fz : ∀ j, w6.frozen? ⟨A, j, none⟩ = false := fun j => frozen_row hA6
            have f0 := fz 0; have f1 := fz 1; have f2 := fz 2; have f3 := fz 3; have f4 := fz 4; have f5 := fz 5; have f6 := fz 6
            have gy0 := yz 0; have gy1 := yz 1
            have HAz := Lib.hid hA6; have HFz := Lib.hid hF6
            have hAF : A ≠ Fb ∧ Fb ≠ A := ⟨HN.out.2.2, fun h => HN.out.2.2 h.symm⟩
            obtain ⟨k1, k2⟩ := hAF
            clear fz yz
            go_wp2_with fail
            have HfG0 := HfG
            have HSn := Lib.hid hsn
            clear hsn
            have hd6 : Below w6.heap.size w6 w6.drew := (Below.refl _ _).drew
            clear s0 s1 s2 s3 s4 s5 s6 z0 z1 z2 z3 z4 z5 z6 y0 y1 f0 f1 f2 f3 f4 f5 f6 gy0 gy1
            obtain ⟨s0, s1, s2, s3, s4, s5, s6⟩ := rowS7 (s := ⟨id, now.id, now.seq + 1, day, index, op, fl⟩) (rowKept hE6 hd6)
            have HE6 := Lib.hid hE6
            clear hE6 hG6 hA6 hF6 e0 e1
            first
              | go_region_with ((go_at_call 74; refine (refFine_any _).mono ?_; rintro e w7 ⟨rfl, hb7'⟩; unfold faultV; have hb7 := hd6.trans (hb7'.mono hd6.size); have HA7 := Lib.hid (rowKept HAz.out hb7); have HF7 := Lib.hid (rowKept HFz.out hb7); have HfF := Lib.hid (HfG0.out.below hb7); have hbw7 := hb6.trans (hb7.mono hb6.size); clear s0 s1 s2 s3 s4 s5 s6 hb7'; obtain ⟨s0, s1, s2, s3, s4, s5, s6⟩ := rowS7 (s := ⟨id, now.id, now.seq + 1, day, index, op, fl⟩) (rowKept HE6.out hb7); obtain ⟨z0, z1, z2, z3, z4, z5, z6⟩ := rowS7 (s := zeroSn) HA7.out; obtain ⟨y0, y1, yz⟩ := rowF2 HF7.out; have fz : ∀ j, w7.frozen? ⟨A, j, none⟩ = false := fun j => frozen_row HA7.out; have f0 := fz 0; have f1 := fz 1; have f2 := fz 2; have f3 := fz 3; have f4 := fz 4; have f5 := fz 5; have f6 := fz 6; have gy0 := yz 0; have gy1 := yz 1; clear fz yz))
              | fail
            all_goals
              go_wp2_with fail
              rw [HC4.out, HS4.out, ← HSn.out]
              exact rc_good (x := ⟨id, now.id, now.seq + 1, day, index, op, fl⟩) (u := .slice av fl.length cv) rfl rfl HA7.out HF7.out HfF.out hbw7 HN.out.1 HN.out.2.1 HN.out.2.2
end Go.Proofs.YtmhchakjkgdpmaaGreatDoor
