/- Snaps that came in: by value, and in a slice. deedboxlaw3: expired, ExpireTells: the walk. A witness's world that has both: all listed data laid by the function, and the handle that errors.As reads. A slice of snaps that came in. A slice of acts that came in. Slices of texts that came in. deedboxref1.Cut, InInts; deedboxref2.IDsText: the walks. -/
import Derived.Test.YtikboodjfanjkaaGreatDoorBx15
import Derived.Test.YtikboodjfanjkaaGreatDoorBx6
import Derived.Test.YtikboodjfanjkaaGreatDoorBx10
import Derived.Test.YtikboodjfanjkaaGreatDoorBx12
import Derived.Test.YtikboodjfanjkaaGreatDoorBx13
import Derived.Test.YtikboodjfanjkaaGreatDoorBx9
import Derived.Test.YtikboodjfanjkaaGreatDoorBx11
import Derived.Lay
import Derived.LaidMore
import Derived.LaidHandle
import Derived.ProofKit
import Derived.SliceStrings
import Derived.Test.YtikboodjfanjkaaGreatDoorBx3
namespace Go.Proofs.YtikboodjfanjkaaGreatDoor
open Go.ChangeShapes Go.WideShapes Go.ChangeAt Go.RowKit

theorem cellsSnap : Tryz.prog.cellsOf 30 = 7 := by kernel_rfl
theorem cellsFiles : Tryz.prog.cellsOf 28 = 1 := by kernel_rfl
theorem seven_of {α : Type} : ∀ {l : List α}, l.length = 7 → ∃ a b c d e f g, l = [a, b, c, d, e, f, g]
  | [a, b, c, d, e, f, g], _ => ⟨a, b, c, d, e, f, g, rfl⟩
structure SnWf (s : Sn) : Prop where
  id : inI s.id
  parent : inI s.parent
  seq : inI s.seq
  day : inI s.day
  index : inI s.index
  files : ∀ x ∈ s.files, FileWf x
theorem snap_of_trod {H : Type} {enc : TypeId × Value → H} {W : World} {base fuel : Nat} {sp : Nat → Bool} {held : Bool} {cs : List Value} {y : DataW H × List MemPlace} (h : DataW.trod enc Tryz.prog W base sp held fuel 30 cs = some y) :
    ∃ (u : Value) (x : Sn), cs = [.int .i64 x.id, .int .i64 x.parent, .int .i64 x.seq, .int .i64 x.day, .int .i64 x.index, S x.op, u] ∧ FilesAt W u x.files ∧ SnWf x := by
  obtain ⟨xs, n, _, _, hl, hxs, hf⟩ := DataW.trod_struct Tryz.underlying30 h
  rw [cellsSnap] at hl
  obtain ⟨c0, c1, c2, c3, c4, c5, c6, rfl⟩ := seven_of hl
  have f0 := hf 0 _ rfl
  have f1 := hf 1 _ rfl
  have f2 := hf 2 _ rfl
  have f3 := hf 3 _ rfl
  have f4 := hf 4 _ rfl
  have f5 := hf 5 _ rfl
  have f6 := hf 6 _ rfl
  obtain ⟨x0, e0⟩ := some_ix hxs (k := 0) (by decide)
  obtain ⟨x1, e1⟩ := some_ix hxs (k := 1) (by decide)
  obtain ⟨x2, e2⟩ := some_ix hxs (k := 2) (by decide)
  obtain ⟨x3, e3⟩ := some_ix hxs (k := 3) (by decide)
  obtain ⟨x4, e4⟩ := some_ix hxs (k := 4) (by decide)
  obtain ⟨x5, e5⟩ := some_ix hxs (k := 5) (by decide)
  obtain ⟨x6, e6⟩ := some_ix hxs (k := 6) (by decide)
  rw [e0] at f0; rw [e1] at f1; rw [e2] at f2; rw [e3] at f3; rw [e4] at f4; rw [e5] at f5; rw [e6] at f6
  obtain ⟨m0, h0, _, w0⟩ := DataW.trod_int Tryz.underlying3 f0
  obtain ⟨m1, h1, _, w1⟩ := DataW.trod_int Tryz.underlying3 f1
  obtain ⟨m2, h2, _, w2⟩ := DataW.trod_int Tryz.underlying3 f2
  obtain ⟨m3, h3, _, w3⟩ := DataW.trod_int Tryz.underlying3 f3
  obtain ⟨m4, h4, _, w4⟩ := DataW.trod_int Tryz.underlying3 f4
  obtain ⟨s5, h5, _, _⟩ := DataW.trod_string Tryz.underlying9 f5
  obtain ⟨u, l, h6, ha, hw⟩ := slice_came encF 6 (by decide) _ _ Tryz.underlying28 cellsFile FileWf (fun _ _ _ _ _ ht => file_of_trod ht) f6
  simp [cellsStrF, cellsInt, cellsFiles] at h0 h1 h2 h3 h4 h5 h6
  subst h0 h1 h2 h3 h4 h5 h6
  exact ⟨_, ⟨m0, m1, m2, m3, m4, s5.data.toList, l⟩, by simp, ha, ⟨bounds_i64 w0, bounds_i64 w1, bounds_i64 w2, bounds_i64 w3, bounds_i64 w4, hw⟩⟩
set_option maxRecDepth 100000 in
/-- A snap by value. -/
theorem snap_came {H : Type} {enc : TypeId × Value → H} {W : World} {base : Nat} {sp : Nat → Bool} {v : Value} {d : DataW H} {p : List MemPlace} (hv : Value.okWide Tryz.prog W .any base 30 v)
    (h : DataW.Trod enc Tryz.prog W 0 sp true 30 v d p) : ∃ u s, v = snapV s u ∧ FilesAt W u s.files ∧ SnWf s := by
  obtain ⟨cs, rfl, hsz⟩ := okWide_struct Tryz.underlying30 hv
  obtain ⟨fuel, hf⟩ := h
  obtain ⟨u, x, h1, h2, h3⟩ := snap_of_trod hf
  refine ⟨u, x, ?_, h2, h3⟩
  simp only [Value.cells] at h1
  exact congrArg Value.agg (Array.toList_inj.1 h1)
end Go.Proofs.YtikboodjfanjkaaGreatDoor
namespace Go.Proofs.YtikboodjfanjkaaGreatDoor
open Go.RowKit Go.Maps

/-- A row that is laid anew, of whatever elements. -/
theorem at_new {α : Type} {enc : α → List Value} {sz : Nat} (hen : Enc enc sz) (l : List α) (w : World) (t : TypeId) (H n : Nat) (cs : Array Value) (hH : w.heap.size = H) (hcs : cs = (l.flatMap enc).toArray) (hn : l.length = n) (hm : n ≤ 100000) : At enc sz (w.alloc (.cells cs t)) (.slice (some ⟨H, 0, none⟩) n n) l := by
  subst hH hcs hn
  refine ⟨_, _, w.heap.size, 0, rfl, fun _ => rfl, Nat.le_refl _, by unfold maxLen; omega, fun k z hk j u hu => ?_⟩
  have := flat_get hen l k z hk j u hu
  rw [cell_of_row (w.alloc _) w.heap.size _ _ t (0, 0) (heap_alloc_new w _)]
  simpa using this

abbrev e1 : SnV := ⟨⟨1, 0, 0, 0, 0, [], []⟩, none, 0, 0⟩
abbrev e2 : SnV := ⟨⟨2, 0, 0, 3, 0, [], []⟩, none, 0, 0⟩
abbrev e3 : SnV := ⟨⟨4, 0, 0, 4, 0, [], []⟩, none, 0, 0⟩
theorem keep_e : keepL (plainS [e1, e2, e3]) 9 6 0 = [2, 4] := by decide
theorem reach_e : reachL (plainS [e1]) = [[115, 110, 97, 112, 47, 49]] := by
  rw [reach_same]
  have : nameS 1 = [115, 110, 97, 112, 47, 49] := by unfold nameS; rw [itoa1]; rfl
  show withL [] (nameS 1) = _
  rw [this]; rfl
theorem few_e : FewSn [e1] := ⟨by decide, fun x hx => by obtain rfl := List.mem_singleton.1 hx; decide, fun x hx => by obtain rfl := List.mem_singleton.1 hx; decide⟩
theorem held_e (w : World) : HeldSn w [e1, e2, e3] := fun x hx => by
  simp only [List.mem_cons, List.mem_nil_iff, or_false] at hx
  rcases hx with rfl | rfl | rfl <;> exact At.nil _ _ _
set_option maxRecDepth 20000 in
theorem expired_any (B : Nat) (w : World) (hT : LTab B w) :
    Calls Tryz.prog 7 #[] w fun e w' => e = .returned (.bool true) ∧ Below w.heap.size w w' := by
  have hBw := hT.le
  have hl1 : SnapsAt (w.alloc (.cells ([e1, e2, e3].flatMap encSn).toArray 30)) (.slice (some ⟨w.heap.size, 0, none⟩) 3 3) [e1, e2, e3] := at_new encSn_enc _ w 30 _ 3 _ rfl rfl rfl (by decide)
  have hb1 : Below w.heap.size w (w.alloc (.cells ([e1, e2, e3].flatMap encSn).toArray 30)) := (Below.refl _ _).alloc (Nat.le_refl _) _
  have HL := Lib.hid hl1
  have HB := Lib.hid hb1
  clear hl1 hb1
  go_enter Tryz.func7, Tryz.ntmps7
  go_wp2_with fail
  refine (keep_any _ [e1, e2, e3] 9 6 0 (w.alloc (.cells ([e1, e2, e3].flatMap encSn).toArray 30)) HL.out (by decide)).mono ?_
  rintro e w2 ⟨u2, rfl, hu2, hb2⟩
  have hb2' := HB.out.trans (hb2.mono HB.out.size)
  have hl2 := HL.out.below hb2
  rw [keep_e] at hu2
  have HU := Lib.hid (hu2.at encI_enc)
  clear HL HB hu2 hb2
  have hbB : Below w2.heap.size w2 (w2.alloc (.cells #[.int .i64 2, .int .i64 4] 3)) := (Below.refl _ _).alloc (Nat.le_refl _) _
  have hI : IntsAt (w2.alloc (.cells #[.int .i64 2, .int .i64 4] 3)) (.slice (some ⟨w2.heap.size, 0, none⟩) 2 2) [2, 4] := at_new encI_enc [2, 4] w2 3 _ 2 _ rfl rfl rfl (by decide)
  have HI := Lib.hid hI
  have HL2 := Lib.hid hl2
  clear hI hl2
  go_wp2_with fail
  refine (sameInts_any _ _ [2, 4] [2, 4] _ (HU.out.below hbB) HI.out).mono ?_
  rintro e w3 ⟨rfl, hb3⟩
  have hb23 := hbB.trans (hb3.mono hbB.size)
  have hb3' := hb2'.trans (hb23.mono hb2'.size)
  have hl3 := at_take (HL2.out.below hb23) (k := 1) (by decide)
  have HL3 := Lib.hid hl3
  rw [decide_eq_true (rfl : ([2, 4] : List Int) = [2, 4])]
  clear hl3 HL2 HI HU hbB hb23
  go_wp2_with fail
  refine (reach_any B _ [e1] w3 (hT.below' hb3' hBw) HL3.out (fun x hx => held_e _ x (by obtain rfl := List.mem_singleton.1 hx; simp)) few_e).mono ?_
  rintro e w4 ⟨u4, rfl, hu4, hb4⟩
  rw [reach_e] at hu4
  have hb4' := hb3'.trans (hb4.mono hb3'.size)
  have HU := Lib.hid (hu4.at encS_enc)
  have hbC : Below w4.heap.size w4 (w4.alloc (.cells #[S [115, 110, 97, 112, 47, 49]] 9)) := (Below.refl _ _).alloc (Nat.le_refl _) _
  have hI : StrsAt (w4.alloc (.cells #[S [115, 110, 97, 112, 47, 49]] 9)) (.slice (some ⟨w4.heap.size, 0, none⟩) 1 1) [[115, 110, 97, 112, 47, 49]] := at_new encS_enc [[115, 110, 97, 112, 47, 49]] w4 9 _ 1 _ rfl rfl rfl (by decide)
  have HI := Lib.hid hI
  clear hI hu4 hb4 HL3
  go_wp2_with fail
  refine (sameTexts_any _ _ [[115, 110, 97, 112, 47, 49]] [[115, 110, 97, 112, 47, 49]] _ (HU.out.below hbC) HI.out).mono ?_
  rintro e w5 ⟨rfl, hb5⟩
  rw [decide_eq_true (rfl : ([[115, 110, 97, 112, 47, 49]] : List Str) = [[115, 110, 97, 112, 47, 49]])]
  go_wp2_with fail
  go_ret
  exact ⟨rfl, hb4'.trans ((hbC.trans (hb5.mono hbC.size)).mono hb4'.size)⟩
end Go.Proofs.YtikboodjfanjkaaGreatDoor
namespace Go.Proofs.YtikboodjfanjkaaGreatDoor
open Go.ChangeShapes Go.WideShapes Go.ChangeAt Go.RowKit

theorem laidMet_layVars_all {P : Program} {w0 w' : World} {l : List (String × DataW Unit)} (hh : w'.heap = (w0.layVars P l).heap) (hf : w0.layFits P l [] = true) (hi : w0.layIfaces P l w' = true) : laidMet P l w' := by
  have e1 : (l.filter fun x => (l.map (·.1)).contains x.1) = l := List.filter_eq_self.2 fun x hx => List.contains_iff_mem.2 (List.mem_map.2 ⟨x, hx, rfl⟩)
  have e2 : (l.filter fun x => !(l.map (·.1)).contains x.1) = [] := List.filter_eq_nil_iff.2 fun x hx => by rw [List.contains_iff_mem.2 (List.mem_map.2 ⟨x, hx, rfl⟩)]; simp
  exact laidMet_layVars (w0 := w0) (l.map (·.1)) [] (by rw [e1]; exact hh) (by rw [e1]; exact hf) (by rw [e1]; exact hi) (by rw [e2]; exact LaidIn.none)

/-- The world at the beginning, the handle laid. -/
noncomputable def handleW (os : Os) : World := (World.holding Tryz.prog os ⟨#[], #[], []⟩).setCell ⟨12, 0, none⟩ (.iface 246 (.agg #[.pointer (some ⟨21, 62, none⟩)]))
noncomputable def witW (os : Os) (l : List (String × DataW Unit)) : World := (handleW os).layVars Tryz.prog (l.filter fun x => x.2.handleName?.isNone)
theorem witW_os (os : Os) (l : List (String × DataW Unit)) : (witW os l).os = os := World.layVars_os _ _ _
theorem witW_met (os : Os) (l : List (String × DataW Unit)) (args : Array Value) (hf : (handleW os).layFits Tryz.prog (l.filter fun x => x.2.handleName?.isNone) [] = true) (hi : (handleW os).layIfaces Tryz.prog (l.filter fun x => x.2.handleName?.isNone) (witW os l) = true)
    (hh : (l.filter fun x => x.2.handleName?.isSome).all (handleAtB Tryz.prog ((witW os l).forCall (fun _ _ => 0) ⟨#[], args, []⟩).memory) = true) :
    laidMetH Tryz.prog l ((witW os l).forCall (fun _ _ => 0) ⟨#[], args, []⟩).memory := by
  have h : laidMet Tryz.prog (l.filter fun x => x.2.handleName?.isNone) (witW os l) := laidMet_layVars_all (w0 := handleW os) rfl hf hi
  exact laidMetH_of_parts (h.of_heap (by simp [World.memory, World.forCall, Input.heap])) hh
end Go.Proofs.YtikboodjfanjkaaGreatDoor
namespace Go.Proofs.YtikboodjfanjkaaGreatDoor
open Go.ChangeShapes Go.WideShapes Go.ChangeAt Go.RowKit

set_option maxRecDepth 100000 in
theorem snaps_came {H : Type} {enc : TypeId × Value → H} {W : World} {base : Nat} {sp : Nat → Bool} {v : Value} {d : DataW H} {p : List MemPlace} (hv : Value.okWide Tryz.prog W .any base 22 v)
    (h : DataW.Trod enc Tryz.prog W 0 sp true 22 v d p) : ∃ l, SnapsAt W v l ∧ ∀ x ∈ l, FilesAt W x.u x.s.files ∧ SnWf x.s :=
  param_came encSn 7 (by decide) _ _ Tryz.underlying22 cellsSnap (fun x => FilesAt W x.u x.s.files ∧ SnWf x.s) (fun _ _ _ _ _ ht => by
    obtain ⟨u, s, h1, h2, h3⟩ := snap_of_trod ht
    obtain ⟨a, c, rfl, -, -⟩ := h2.form'
    exact ⟨⟨s, a, s.files.length, c⟩, h1, rfl, h2, h3⟩) hv h
end Go.Proofs.YtikboodjfanjkaaGreatDoor
namespace Go.Proofs.YtikboodjfanjkaaGreatDoor
open Go.ChangeShapes Go.WideShapes Go.ChangeAt Go.RowKit

theorem cellsAct : Tryz.prog.cellsOf 43 = 4 := by kernel_rfl
theorem four_of {α : Type} : ∀ {l : List α}, l.length = 4 → ∃ a b c d, l = [a, b, c, d]
  | [a, b, c, d], _ => ⟨a, b, c, d, rfl⟩
theorem some_at {α : Type} {l : List α} {n k : Nat} (h : l.length = n) (hk : k < n) : ∃ x, l[k]? = some x := ⟨l[k]'(by omega), by simp [h, hk]⟩

/-- One act, read. -/
theorem act_of_trod {H : Type} {enc : TypeId × Value → H} {W : World} {base fuel : Nat} {sp : Nat → Bool} {held : Bool} {cs : List Value} {y : DataW H × List MemPlace} (h : DataW.trod enc Tryz.prog W base sp held fuel 43 cs = some y) :
    ∃ x : Ac, cs = encA x ∧ x.n ≤ 9223372036854775807 := by
  obtain ⟨xs, n, _, _, hl, hxs, hf⟩ := DataW.trod_struct Tryz.underlying43 h
  rw [cellsAct] at hl
  obtain ⟨c0, c1, c2, c3, rfl⟩ := four_of hl
  have f0 := hf 0 _ rfl
  have f1 := hf 1 _ rfl
  have f2 := hf 2 _ rfl
  have f3 := hf 3 _ rfl
  obtain ⟨x0, e0⟩ := some_at hxs (k := 0) (by decide)
  obtain ⟨x1, e1⟩ := some_at hxs (k := 1) (by decide)
  obtain ⟨x2, e2⟩ := some_at hxs (k := 2) (by decide)
  obtain ⟨x3, e3⟩ := some_at hxs (k := 3) (by decide)
  rw [e0] at f0; rw [e1] at f1; rw [e2] at f2; rw [e3] at f3
  obtain ⟨s0, h0, _, _⟩ := DataW.trod_string Tryz.underlying9 f0
  obtain ⟨s1, h1, _, _⟩ := DataW.trod_string Tryz.underlying9 f1
  obtain ⟨s2, h2, _, _⟩ := DataW.trod_string Tryz.underlying9 f2
  obtain ⟨m, h3, _, hw⟩ := DataW.trod_int Tryz.underlying3 f3
  simp [cellsStr, cellsInt] at h0 h1 h2 h3
  subst h0 h1 h2 h3
  exact ⟨⟨s0.data.toList, s1.data.toList, s2.data.toList, m⟩, by simp, (bounds_i64 hw).2⟩

set_option maxRecDepth 100000 in
/-- A slice of acts that came in. -/
theorem acts_came {H : Type} {enc : TypeId × Value → H} {W : World} {base : Nat} {sp : Nat → Bool} {v : Value} {d : DataW H} {p : List MemPlace} (hv : Value.okWide Tryz.prog W .any base 23 v)
    (h : DataW.Trod enc Tryz.prog W 0 sp true 23 v d p) : ∃ l, ActsAt W v l ∧ ∀ x ∈ l, x.n ≤ 9223372036854775807 := by
  obtain ⟨a0, len, cap, rfl⟩ := okWide_slice Tryz.underlying23 hv
  obtain ⟨fuel, hf⟩ := h
  rcases DataW.trod_slice Tryz.underlying23 hf with ⟨hcs, hx⟩ | ⟨a, len', cap', elems, rest, n, _, hcs, _, _, hl, hm, hlen, hel, _, _⟩
  · simp [Value.cells] at hcs
    obtain ⟨rfl, rfl, rfl⟩ := hcs
    exact ⟨[], At.nil _ _ _, fun _ h => by cases h⟩
  · simp [Value.cells] at hcs
    obtain ⟨rfl, rfl, rfl⟩ := hcs
    rcases Nat.eq_zero_or_pos len with rfl | hpos
    · exact ⟨[], ⟨some a, cap, 0, 0, rfl, fun h => absurd h (by simp), by simp, hm, fun k x h => by simp at h⟩, fun _ h => by cases h⟩
    obtain ⟨b, off, spot⟩ := a
    have hsp : spot = none := by
      have h1 := hel 0 hpos
      obtain ⟨y, hy⟩ := some_at hlen hpos
      rw [hy, cellsAct, Option.bind_eq_some_iff] at h1
      obtain ⟨cs, hc, ht⟩ := h1
      obtain ⟨x, rfl, _⟩ := act_of_trod ht
      obtain ⟨_, _, hc⟩ := World.cells?_some hc
      have := World.cell?_spot (hc 0 (by decide))
      simpa [Addr.add] using this
    subst hsp
    have each : ∀ i, i < len → ∃ x : Ac, (∀ j u, (encA x)[j]? = some u → W.cell? ((⟨b, off, none⟩ : Addr).add (i * 4 + j)) = some u) ∧ x.n ≤ 9223372036854775807 := by
      intro i hi
      have h1 := hel i hi
      obtain ⟨y, hy⟩ := some_at hlen hi
      rw [hy, cellsAct, Option.bind_eq_some_iff] at h1
      obtain ⟨cs, hc, ht⟩ := h1
      obtain ⟨x, rfl, hn⟩ := act_of_trod ht
      obtain ⟨_, _, hc⟩ := World.cells?_some hc
      refine ⟨x, fun j u hu => ?_, hn⟩
      have hj : j < 4 := by
        rcases Nat.lt_or_ge j 4 with h | h
        · exact h
        · rw [List.getElem?_eq_none (by simpa using h)] at hu; cases hu
      have := hc j hj
      rw [hu] at this
      rw [add_lit] at this
      rw [add_lit] at this
      rw [add_lit, ← Nat.add_assoc]
      exact this
    have build : ∀ m, m ≤ len → ∃ l : List Ac, l.length = m ∧ (∀ k x, l[k]? = some x → ∀ j u, (encA x)[j]? = some u → W.cell? ((⟨b, off, none⟩ : Addr).add (k * 4 + j)) = some u) ∧ ∀ x ∈ l, x.n ≤ 9223372036854775807 := by
      intro m
      induction m with
      | zero => exact fun _ => ⟨[], rfl, fun k x h => by simp at h, fun _ h => by cases h⟩
      | succ m ih =>
        intro hm
        obtain ⟨l, h1, h2, h3⟩ := ih (by omega)
        obtain ⟨x, hx, hn⟩ := each m (by omega)
        refine ⟨l ++ [x], by simp [h1], fun k z hk j u hu => ?_, fun z hz => ?_⟩
        · rcases Nat.lt_or_ge k l.length with h | h
          · rw [List.getElem?_append_left h] at hk
            exact h2 k z hk j u hu
          · have hk' := (List.getElem?_eq_some_iff.1 hk).1
            rw [List.length_append, List.length_singleton] at hk'
            obtain rfl : k = l.length := by omega
            rw [List.getElem?_append_right (Nat.le_refl _), Nat.sub_self] at hk
            simp at hk
            subst hk
            rw [h1]
            exact hx j u hu
        · rcases List.mem_append.1 hz with h | h
          · exact h3 z h
          · simp at h; subst h; exact hn
    obtain ⟨l, h1, h2, h3⟩ := build len (Nat.le_refl _)
    refine ⟨l, ⟨_, cap, b, off, by rw [h1], fun _ => rfl, by rw [h1]; exact hl, hm, fun k x hk j u hu => ?_⟩, h3⟩
    have := h2 k x hk j u hu
    rw [add_lit, ← Nat.add_assoc] at this
    exact this
end Go.Proofs.YtikboodjfanjkaaGreatDoor
namespace Go.Proofs.YtikboodjfanjkaaGreatDoor
open Go.ChangeShapes Go.WideShapes Go.ChangeAt Go.RowKit


set_option maxRecDepth 100000 in
/-- A slice of texts that came in. -/
theorem strs_came {H : Type} {enc : TypeId × Value → H} {W : World} {base : Nat} {sp : Nat → Bool} {v : Value} {d : DataW H} {p : List MemPlace} (hv : Value.okWide Tryz.prog W .any base 24 v)
    (h : DataW.Trod enc Tryz.prog W 0 sp true 24 v d p) : ∃ l, StrsAt W v l ∧ ∀ x ∈ l, x.length ≤ maxLen := by
  obtain ⟨a0, len, cap, rfl⟩ := okWide_slice Tryz.underlying24 hv
  obtain ⟨fuel, hf⟩ := h
  rcases open_strings Tryz.underlying24 Tryz.underlying9 cellsStr hf with ⟨hcs, hx⟩ | ⟨a, len', cap', zs, hcs, _, hl, hm, hz, hx, hcell, hwz⟩
  · simp [Value.cells] at hcs
    obtain ⟨rfl, rfl, rfl⟩ := hcs
    exact ⟨[], At.nil _ _ _, fun _ h => by cases h⟩
  · simp [Value.cells] at hcs
    obtain ⟨rfl, rfl, rfl⟩ := hcs
    have hzl : len ≤ zs.length := by split at hz <;> omega
    have hlen : ((zs.take len).map (·.data.toList)).length = len := by rw [List.length_map, List.length_take]; omega
    refine ⟨(zs.take len).map (·.data.toList), ⟨some a, cap, a.block, a.off, by rw [hlen], fun h0 => ?_, by rw [hlen]; exact hl, hm, fun k x hk j u hu => ?_⟩, fun x hx => ?_⟩
    · obtain ⟨b, off, spot⟩ := a
      have hs : spot = none := by simpa [Addr.add] using World.cell?_spot (hcell 0 (by omega))
      subst hs; rfl
    · obtain rfl : j = 0 := by
        rcases Nat.eq_zero_or_pos j with h | h
        · exact h
        · rw [List.getElem?_eq_none (by simp; omega)] at hu; cases hu
      obtain rfl : S x = u := by simpa using hu
      have hk' : k < len := by
        rcases Nat.lt_or_ge k len with h | h
        · exact h
        · rw [List.getElem?_eq_none (by omega)] at hk; cases hk
      have hc := hcell k (by omega)
      have hx : S x = .string (zs.getD k ByteArray.empty) := by
        rw [List.getElem?_map, List.getElem?_take_of_lt hk'] at hk
        obtain ⟨y, hy, rfl⟩ := Option.map_eq_some_iff.1 hk
        have : zs.getD k ByteArray.empty = y := by simp [List.getD, hy]
        rw [this]
      rw [← hx] at hc
      obtain ⟨b, off, spot⟩ := a
      have hs : spot = none := by simpa [Addr.add] using World.cell?_spot (hcell 0 (by omega))
      subst hs
      have hadd : (⟨b, off, none⟩ : Addr).add k = ⟨b, off + k, none⟩ := by
        unfold Addr.add; split <;> simp_all
      rw [hadd] at hc
      simpa using hc
    · obtain ⟨y, hy, rfl⟩ := List.mem_map.1 hx
      have := hwz y (List.mem_of_mem_take hy)
      rw [Array.length_toList]
      exact this
end Go.Proofs.YtikboodjfanjkaaGreatDoor
namespace Go.Proofs.YtikboodjfanjkaaGreatDoor
open Go.RowKit
attribute [local go_sem] bget bapp

theorem drop_cut {s : Str} {f k : Nat} (hf : f ≤ k) (hk : k < s.length) : s.drop f = (s.drop f).take (k - f) ++ s[k] :: s.drop (k + 1) := by
  have h1 : s.drop k = s[k] :: s.drop (k + 1) := List.drop_eq_getElem_cons hk
  have h2 : (s.drop f).drop (k - f) = s.drop k := by rw [List.drop_drop]; congr 1; omega
  rw [← h1, ← h2, List.take_append_drop]
theorem take_cut {s : Str} {f k : Nat} (hf : f ≤ k) (hk : k < s.length) : (s.drop f).take (k + 1 - f) = (s.drop f).take (k - f) ++ [s[k]] := by
  rw [show k + 1 - f = (k - f) + 1 by omega]
  refine take_snoc' ?_
  rw [List.getElem?_drop, show f + (k - f) = k by omega]; simp [hk]

set_option maxRecDepth 20000 in
set_option maxHeartbeats 400000 in
theorem refCut_any (s : Str) (c : UInt8) (w : World) (hs : s.length ≤ 100000) :
    Calls Tryz.prog 101 #[S s, .int .u8 c.toNat] w fun e w' => ∃ v', e = .returned v' ∧ Own encS 9 1 w.heap.size w' v' (cutAt c s) ∧ Below w.heap.size w w' := by
  go_enter Tryz.func101, Tryz.ntmps101
  go_wp2_with fail
  go_loopw [5, 6, 7] (fun o f i wr => ∃ (k m : Nat) (out : List Str), k ≤ s.length ∧ m ≤ k ∧ i = .int .i64 k ∧ f = .int .i64 m ∧ Hid (cutAt c s = out ++ cutAt c (s.drop m)) ∧ Hid (c ∉ (s.drop m).take (k - m)) ∧ out.length ≤ k ∧ Own encS 9 1 w.heap.size wr o out ∧ Below w.heap.size w wr) (fun _ _ i _ => s.length - (intOf i).toNat)
  case atStart => exact ⟨0, 0, [], by omega, by omega, rfl, rfl, rfl, by simp [Hid], by simp, Own.nil _ _ _ _ _, Below.refl _ _⟩
  case round =>
    obtain ⟨k, m, out, hk, hm, rfl, rfl, hcut, hno, hol, ho, hb⟩ := hrel
    have hmk : (m : Int) ≤ k := by omega
    have hks : (k : Int) ≤ s.length := by omega
    by_cases hlt : k < s.length
    · have hk1 : (k : Int) < s.length := by omega
      by_cases he : s[k] = c
      · have g1 : ((s[k].toNat : Int) == c.toNat) = true := by rw [he]; simp
        have hd := drop_cut hm hlt
        have hc2 : cutAt c s = (out ++ [(s.drop m).take (k - m)]) ++ cutAt c (s.drop (k + 1)) := by
          rw [hcut.out]
          have : cutAt c (s.drop m) = (s.drop m).take (k - m) :: cutAt c (s.drop (k + 1)) := by
            conv => lhs; rw [hd, he]
            exact cutAt_app hno.out
          rw [this]; simp
        have Hc := Lib.hid hc2
        clear he hd hc2
        go_wp2_with (at_builtin; refine wpList_app rfl _ _ _ rfl w.heap.size elStr _ out.length _ rfl (ho.alloc _) (.slice (some ⟨wr.heap.size, 0, none⟩) 1 1) 1 [.string ((ByteArray.mk s.toArray).extract m k)] rfl (src_one rfl rfl (by simp [Value.oneCell'])) (by unfold maxLen; omega) (by omega) (by have := hb.size; simp; omega) ?_; intro v' w2 hown hg _)
        rw [ByteArray.extract_mk] at hown
        go_roundw
        case rel => exact ⟨k + 1, k + 1, out ++ [(s.drop m).take (k - m)], by omega, by omega, by go_num, by go_num, Hc.out, by simp [Hid], by simp; omega, Own.snoc hown, Bapp (hb.alloc hb.size _) (ho.alloc _) hg (Nat.le_refl _) (by have := hb.size; simp; omega)⟩
        case measure => simp [intOf]; omega
      · have g1 : ((s[k].toNat : Int) == c.toNat) = false := by
          simp; intro h; apply he; apply UInt8.toNat_inj.1; exact Int.ofNat.inj h
        have hn2 : c ∉ (s.drop m).take (k + 1 - m) := by
          rw [take_cut hm hlt]; intro h
          rcases List.mem_append.1 h with h | h
          · exact hno.out h
          · exact he (List.mem_singleton.1 h).symm
        have Hn := Lib.hid hn2
        clear he hn2
        go_wp2_with fail
        go_roundw
        case rel => exact ⟨k + 1, m, out, by omega, by omega, by go_num, rfl, hcut, Hn, by omega, ho, hb⟩
        case measure => simp [intOf]; omega
    · obtain rfl : k = s.length := by omega
      have hc2 : cutAt c s = out ++ [s.drop m] := by
        have h := hno.out
        rw [List.take_of_length_le (by simp)] at h
        rw [hcut.out, cutAt_none h]
      have Hc := Lib.hid hc2
      clear hc2
      go_wp2_with (at_builtin; refine wpList_app rfl _ _ _ rfl w.heap.size elStr _ out.length _ rfl (ho.alloc _) (.slice (some ⟨wr.heap.size, 0, none⟩) 1 1) 1 [.string ((ByteArray.mk s.toArray).extract m s.length)] rfl (src_one rfl rfl (by simp [Value.oneCell'])) (by unfold maxLen; omega) (by omega) (by have := hb.size; simp; omega) ?_; intro v' w2 hown hg _)
      rw [extract_from] at hown
      go_ret
      exact ⟨_, rfl, by rw [Hc.out]; exact Own.snoc hown, Bapp (hb.alloc hb.size _) (ho.alloc _) hg (Nat.le_refl _) (by have := hb.size; simp; omega)⟩

theorem inInts_any (n : Int) (v : Value) (l : List Int) (w : World) (hl : IntsAt w v l) :
    Calls Tryz.prog 22 #[.int .i64 n, v] w fun e w' => e = .returned (.bool (decide (n ∈ l))) ∧ Below w.heap.size w w' := by
  obtain ⟨a, c, b, o, rfl, ha, hc, hcm, hx⟩ := hl
  unfold maxLen at hcm
  go_enter Tryz.func22, Tryz.ntmps22
  go_wp2_with fail
  go_loopw [5] (fun i wr => ∃ k : Nat, k ≤ l.length ∧ i = .int .i64 k ∧ Hid (∀ j < k, l[j]? ≠ some n) ∧ Below w.heap.size w wr) (fun i _ => l.length - (intOf i).toNat)
  case atStart => exact ⟨0, by omega, rfl, fun j hj => absurd hj (by omega), Below.refl _ _⟩
  case round =>
    obtain ⟨k, hk, rfl, hj, hb⟩ := hrel
    by_cases hlt : k < l.length
    · obtain ⟨x, hxk⟩ := get_ex hlt
      have c1 := hx k x hxk 0 _ rfl
      have c1 := (hb.cell (World.block_lt_of_cell? w _ c1)).trans c1
      have i1 := idx_at (c := c) 1 Tryz.underlying33 szInt ha k hlt
      have hk1 : (k : Int) < (l.length : Int) := by omega
      simp only [Nat.mul_one, Nat.add_zero] at c1 i1
      have Hx := Lib.hid hxk; clear hxk
      go_wp2_with fail
      · have he : x = n := by simpa using ‹(x == n) = true›
        go_ret
        exact ⟨ret_bool (decide_eq_true (by rw [← he]; exact List.mem_of_getElem? Hx.out)).symm, hb⟩
      · have hne' : x ≠ n := by simpa using ‹(x == n) = false›
        go_roundw
        case rel => exact ⟨k + 1, by omega, by go_num, (fun j hj' => by
          rcases Nat.lt_or_ge j k with h | h
          · exact hj.out j h
          · obtain rfl : j = k := by omega
            rw [Hx.out]; exact fun e => hne' (Option.some.inj e)), hb⟩
        case measure => simp [intOf]; omega
    · obtain rfl : k = l.length := by omega
      go_wp2_with fail
      go_ret
      refine ⟨ret_bool (decide_eq_false fun e => ?_).symm, hb⟩
      obtain ⟨j, hjl, hje⟩ := List.getElem_of_mem e
      exact hj.out j hjl (by simp [hjl, hje])

end Go.Proofs.YtikboodjfanjkaaGreatDoor
