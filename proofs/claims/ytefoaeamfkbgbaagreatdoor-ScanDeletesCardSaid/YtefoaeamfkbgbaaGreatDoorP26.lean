/- Parameters that came in: a number, a text, a byte, a file by value; lists of five and six parameters. Snaps that came in: by value, and in a slice. Rows that came in. A slice of pieces that came in. -/
import Derived.Test.YtefoaeamfkbgbaaGreatDoorP25
import Derived.Test.YtefoaeamfkbgbaaGreatDoorP18
import Derived.Test.YtefoaeamfkbgbaaGreatDoorP10
import Derived.Test.YtefoaeamfkbgbaaGreatDoorP16
namespace Go.Proofs.YtefoaeamfkbgbaaGreatDoor
open Go.ChangeShapes Go.WideShapes Go.ChangeAt Go.RowKit

set_option maxRecDepth 100000 in
theorem int_came {H : Type} {enc : TypeId × Value → H} {W : World} {base : Nat} {sp : Nat → Bool} {v : Value} {d : DataW H} {p : List MemPlace} (hv : Value.okWide Tryz.prog W .any base 3 v)
    (h : DataW.Trod enc Tryz.prog W 0 sp true 3 v d p) : ∃ x, v = .int .i64 x ∧ (-9223372036854775808 ≤ x ∧ x ≤ 9223372036854775807) := by
  obtain ⟨x, h1, _, _, wx⟩ := open_int Tryz.underlying3 hv h
  exact ⟨x, h1, bounds_i64 wx⟩
set_option maxRecDepth 100000 in
theorem str_came {H : Type} {enc : TypeId × Value → H} {W : World} {base : Nat} {sp : Nat → Bool} {v : Value} {d : DataW H} {p : List MemPlace} (hv : Value.okWide Tryz.prog W .any base 9 v)
    (h : DataW.Trod enc Tryz.prog W 0 sp true 9 v d p) : ∃ s : Str, v = S s ∧ (s.length : Int) ≤ 9223372036854775807 := by
  obtain ⟨s, h1, _, _, ws⟩ := ChangeMaps.open_string Tryz.underlying9 hv h
  refine ⟨s.data.toList, by rw [h1], ?_⟩
  have : s.data.toList.length = s.size := Array.length_toList
  unfold maxLen at ws; omega
theorem bounds_u8 {n : Int} (h : (Lit.int .u8 n).wf = true) : 0 ≤ n ∧ n ≤ 255 := by
  simp [Lit.wf, IntKind.min, IntKind.max, IntKind.signed, IntKind.bits] at h
  omega
set_option maxRecDepth 100000 in
theorem byte_came {H : Type} {enc : TypeId × Value → H} {W : World} {base : Nat} {sp : Nat → Bool} {v : Value} {d : DataW H} {p : List MemPlace} (hv : Value.okWide Tryz.prog W .any base 5 v)
    (h : DataW.Trod enc Tryz.prog W 0 sp true 5 v d p) : ∃ c : UInt8, v = .int .u8 c.toNat := by
  obtain ⟨x, h1, _, _, wx⟩ := open_int Tryz.underlying5 hv h
  have hb := bounds_u8 wx
  refine ⟨UInt8.ofNat x.toNat, ?_⟩
  rw [h1]
  congr 1
  rw [UInt8.toNat_ofNat', Nat.mod_eq_of_lt (by omega)]
  omega
set_option maxRecDepth 100000 in
/-- A file by value. -/
theorem file_came {H : Type} {enc : TypeId × Value → H} {W : World} {base : Nat} {sp : Nat → Bool} {v : Value} {d : DataW H} {p : List MemPlace} (hv : Value.okWide Tryz.prog W .any base 44 v)
    (h : DataW.Trod enc Tryz.prog W 0 sp true 44 v d p) : ∃ f : Fl, v = fileV f ∧ FileWf f := by
  obtain ⟨cs, rfl, hsz⟩ := okWide_struct Tryz.underlying44 hv
  obtain ⟨fuel, hf⟩ := h
  obtain ⟨x, h1, h2, h3⟩ := file_of_trod hf
  refine ⟨x, ?_, h3⟩
  simp only [Value.cells] at h1
  exact congrArg Value.agg (Array.toList_inj.1 h1)

theorem trodAll_five {H : Type} {enc : TypeId × Value → H} {P : Program} {w : World} {base : Nat} {sp : Nat → Bool} {held : Bool} {t1 t2 t3 t4 t5 : TypeId} {args : Array Value} {ds : List (DataW H)} {ps : List MemPlace} (h : DataW.TrodAll enc P w base sp held [t1, t2, t3, t4, t5] args.toList ds ps) :
    ∃ v1 v2 v3 v4 v5 d1 d2 d3 d4 d5 p1 p2 p3 p4 p5, args = #[v1, v2, v3, v4, v5] ∧ ds = [d1, d2, d3, d4, d5] ∧ ps = p1 ++ (p2 ++ (p3 ++ (p4 ++ p5))) ∧ DataW.Trod enc P w base sp held t1 v1 d1 p1 ∧ DataW.Trod enc P w base sp held t2 v2 d2 p2 ∧ DataW.Trod enc P w base sp held t3 v3 d3 p3 ∧ DataW.Trod enc P w base sp held t4 v4 d4 p4 ∧ DataW.Trod enc P w base sp held t5 v5 d5 p5 := by
  obtain ⟨l⟩ := args
  obtain ⟨v1, l1, d1, e1, p1, q1, rfl, rfl, rfl, h1, h⟩ := trodAll_cons h
  obtain ⟨v2, l2, d2, e2, p2, q2, rfl, rfl, rfl, h2, h⟩ := trodAll_cons h
  obtain ⟨v3, l3, d3, e3, p3, q3, rfl, rfl, rfl, h3, h⟩ := trodAll_cons h
  obtain ⟨v4, l4, d4, e4, p4, q4, rfl, rfl, rfl, h4, h⟩ := trodAll_cons h
  obtain ⟨v5, l5, d5, e5, p5, q5, rfl, rfl, rfl, h5, h⟩ := trodAll_cons h
  obtain ⟨rfl, rfl, rfl⟩ := trodAll_nil h
  exact ⟨v1, v2, v3, v4, v5, d1, d2, d3, d4, d5, p1, p2, p3, p4, p5, rfl, rfl, by simp, h1, h2, h3, h4, h5⟩
theorem trodAll_six {H : Type} {enc : TypeId × Value → H} {P : Program} {w : World} {base : Nat} {sp : Nat → Bool} {held : Bool} {t1 t2 t3 t4 t5 t6 : TypeId} {args : Array Value} {ds : List (DataW H)} {ps : List MemPlace} (h : DataW.TrodAll enc P w base sp held [t1, t2, t3, t4, t5, t6] args.toList ds ps) :
    ∃ v1 v2 v3 v4 v5 v6 d1 d2 d3 d4 d5 d6 p1 p2 p3 p4 p5 p6, args = #[v1, v2, v3, v4, v5, v6] ∧ ds = [d1, d2, d3, d4, d5, d6] ∧ ps = p1 ++ (p2 ++ (p3 ++ (p4 ++ (p5 ++ p6)))) ∧ DataW.Trod enc P w base sp held t1 v1 d1 p1 ∧ DataW.Trod enc P w base sp held t2 v2 d2 p2 ∧ DataW.Trod enc P w base sp held t3 v3 d3 p3 ∧ DataW.Trod enc P w base sp held t4 v4 d4 p4 ∧ DataW.Trod enc P w base sp held t5 v5 d5 p5 ∧ DataW.Trod enc P w base sp held t6 v6 d6 p6 := by
  obtain ⟨l⟩ := args
  obtain ⟨v1, l1, d1, e1, p1, q1, rfl, rfl, rfl, h1, h⟩ := trodAll_cons h
  obtain ⟨v2, l2, d2, e2, p2, q2, rfl, rfl, rfl, h2, h⟩ := trodAll_cons h
  obtain ⟨v3, l3, d3, e3, p3, q3, rfl, rfl, rfl, h3, h⟩ := trodAll_cons h
  obtain ⟨v4, l4, d4, e4, p4, q4, rfl, rfl, rfl, h4, h⟩ := trodAll_cons h
  obtain ⟨v5, l5, d5, e5, p5, q5, rfl, rfl, rfl, h5, h⟩ := trodAll_cons h
  obtain ⟨v6, l6, d6, e6, p6, q6, rfl, rfl, rfl, h6, h⟩ := trodAll_cons h
  obtain ⟨rfl, rfl, rfl⟩ := trodAll_nil h
  exact ⟨v1, v2, v3, v4, v5, v6, d1, d2, d3, d4, d5, d6, p1, p2, p3, p4, p5, p6, rfl, rfl, by simp, h1, h2, h3, h4, h5, h6⟩
end Go.Proofs.YtefoaeamfkbgbaaGreatDoor
namespace Go.Proofs.YtefoaeamfkbgbaaGreatDoor
open Go.ChangeShapes Go.WideShapes Go.ChangeAt Go.RowKit

theorem cellsSnap : Tryz.prog.cellsOf 25 = 7 := by kernel_rfl
theorem cellsFiles : Tryz.prog.cellsOf 23 = 1 := by kernel_rfl
theorem seven_of {α : Type} : ∀ {l : List α}, l.length = 7 → ∃ a b c d e f g, l = [a, b, c, d, e, f, g]
  | [a, b, c, d, e, f, g], _ => ⟨a, b, c, d, e, f, g, rfl⟩
structure SnWf (s : Sn) : Prop where
  id : inI s.id
  parent : inI s.parent
  seq : inI s.seq
  day : inI s.day
  index : inI s.index
  files : ∀ x ∈ s.files, FileWf x
theorem snap_of_trod {H : Type} {enc : TypeId × Value → H} {W : World} {base fuel : Nat} {sp : Nat → Bool} {held : Bool} {cs : List Value} {y : DataW H × List MemPlace} (h : DataW.trod enc Tryz.prog W base sp held fuel 25 cs = some y) :
    ∃ (u : Value) (x : Sn), cs = [.int .i64 x.id, .int .i64 x.parent, .int .i64 x.seq, .int .i64 x.day, .int .i64 x.index, S x.op, u] ∧ FilesAt W u x.files ∧ SnWf x := by
  obtain ⟨xs, n, _, _, hl, hxs, hf⟩ := DataW.trod_struct Tryz.underlying25 h
  rw [cellsSnap] at hl
  obtain ⟨c0, c1, c2, c3, c4, c5, c6, rfl⟩ := seven_of hl
  have f0 := hf 0 _ rfl
  have f1 := hf 1 _ rfl
  have f2 := hf 2 _ rfl
  have f3 := hf 3 _ rfl
  have f4 := hf 4 _ rfl
  have f5 := hf 5 _ rfl
  have f6 := hf 6 _ rfl
  obtain ⟨x0, e0⟩ := some_ix hxs (k := 0) (by decide)
  obtain ⟨x1, e1⟩ := some_ix hxs (k := 1) (by decide)
  obtain ⟨x2, e2⟩ := some_ix hxs (k := 2) (by decide)
  obtain ⟨x3, e3⟩ := some_ix hxs (k := 3) (by decide)
  obtain ⟨x4, e4⟩ := some_ix hxs (k := 4) (by decide)
  obtain ⟨x5, e5⟩ := some_ix hxs (k := 5) (by decide)
  obtain ⟨x6, e6⟩ := some_ix hxs (k := 6) (by decide)
  rw [e0] at f0; rw [e1] at f1; rw [e2] at f2; rw [e3] at f3; rw [e4] at f4; rw [e5] at f5; rw [e6] at f6
  obtain ⟨m0, h0, _, w0⟩ := DataW.trod_int Tryz.underlying3 f0
  obtain ⟨m1, h1, _, w1⟩ := DataW.trod_int Tryz.underlying3 f1
  obtain ⟨m2, h2, _, w2⟩ := DataW.trod_int Tryz.underlying3 f2
  obtain ⟨m3, h3, _, w3⟩ := DataW.trod_int Tryz.underlying3 f3
  obtain ⟨m4, h4, _, w4⟩ := DataW.trod_int Tryz.underlying3 f4
  obtain ⟨s5, h5, _, _⟩ := DataW.trod_string Tryz.underlying9 f5
  obtain ⟨u, l, h6, ha, hw⟩ := slice_came encF 6 (by decide) _ _ Tryz.underlying23 cellsFile FileWf (fun _ _ _ _ _ ht => file_of_trod ht) f6
  simp [cellsStrF, cellsInt, cellsFiles] at h0 h1 h2 h3 h4 h5 h6
  subst h0 h1 h2 h3 h4 h5 h6
  exact ⟨_, ⟨m0, m1, m2, m3, m4, s5.data.toList, l⟩, by simp, ha, ⟨bounds_i64 w0, bounds_i64 w1, bounds_i64 w2, bounds_i64 w3, bounds_i64 w4, hw⟩⟩
set_option maxRecDepth 100000 in
/-- A snap by value. -/
theorem snap_came {H : Type} {enc : TypeId × Value → H} {W : World} {base : Nat} {sp : Nat → Bool} {v : Value} {d : DataW H} {p : List MemPlace} (hv : Value.okWide Tryz.prog W .any base 25 v)
    (h : DataW.Trod enc Tryz.prog W 0 sp true 25 v d p) : ∃ u s, v = snapV s u ∧ FilesAt W u s.files ∧ SnWf s := by
  obtain ⟨cs, rfl, hsz⟩ := okWide_struct Tryz.underlying25 hv
  obtain ⟨fuel, hf⟩ := h
  obtain ⟨u, x, h1, h2, h3⟩ := snap_of_trod hf
  refine ⟨u, x, ?_, h2, h3⟩
  simp only [Value.cells] at h1
  exact congrArg Value.agg (Array.toList_inj.1 h1)
end Go.Proofs.YtefoaeamfkbgbaaGreatDoor
namespace Go.Proofs.YtefoaeamfkbgbaaGreatDoor
open Go.ChangeShapes Go.WideShapes Go.ChangeAt Go.RowKit

theorem cellsRow : Tryz.prog.cellsOf 65 = 3 := by kernel_rfl
theorem three_of {α : Type} : ∀ {l : List α}, l.length = 3 → ∃ a b c, l = [a, b, c]
  | [a, b, c], _ => ⟨a, b, c, rfl⟩
theorem row_of_trod {H : Type} {enc : TypeId × Value → H} {W : World} {base fuel : Nat} {sp : Nat → Bool} {held : Bool} {cs : List Value} {y : DataW H × List MemPlace} (h : DataW.trod enc Tryz.prog W base sp held fuel 65 cs = some y) :
    ∃ x : Rw, cs = encR x ∧ (encR x).length = 3 ∧ RowWf x := by
  obtain ⟨xs, n, _, _, hl, hxs, hf⟩ := DataW.trod_struct Tryz.underlying65 h
  rw [cellsRow] at hl
  obtain ⟨c0, c1, c2, rfl⟩ := three_of hl
  have f0 := hf 0 _ rfl
  have f1 := hf 1 _ rfl
  have f2 := hf 2 _ rfl
  obtain ⟨x0, e0⟩ := some_ix hxs (k := 0) (by decide)
  obtain ⟨x1, e1⟩ := some_ix hxs (k := 1) (by decide)
  obtain ⟨x2, e2⟩ := some_ix hxs (k := 2) (by decide)
  rw [e0] at f0; rw [e1] at f1; rw [e2] at f2
  obtain ⟨s0, h0, _, _⟩ := DataW.trod_string Tryz.underlying9 f0
  obtain ⟨m1, h1, _, w1⟩ := DataW.trod_int Tryz.underlying3 f1
  obtain ⟨m2, h2, _, w2⟩ := DataW.trod_int Tryz.underlying3 f2
  simp [cellsStrF, cellsInt] at h0 h1 h2
  subst h0 h1 h2
  exact ⟨⟨s0.data.toList, m1, m2⟩, by simp, rfl, bounds_i64 w1, bounds_i64 w2⟩
set_option maxRecDepth 100000 in
/-- A slice of rows that came in. -/
theorem rows_came {H : Type} {enc : TypeId × Value → H} {W : World} {base : Nat} {sp : Nat → Bool} {v : Value} {d : DataW H} {p : List MemPlace} (hv : Value.okWide Tryz.prog W .any base 39 v)
    (h : DataW.Trod enc Tryz.prog W 0 sp true 39 v d p) : ∃ l, RowsAt W v l ∧ ∀ x ∈ l, RowWf x :=
  param_came encR 3 (by decide) _ _ Tryz.underlying39 cellsRow RowWf (fun _ _ _ _ _ ht => row_of_trod ht) hv h
end Go.Proofs.YtefoaeamfkbgbaaGreatDoor
namespace Go.Proofs.YtefoaeamfkbgbaaGreatDoor
open Go.ChangeShapes Go.WideShapes Go.ChangeAt Go.RowKit

theorem cellsPc : Tryz.prog.cellsOf 72 = 6 := by kernel_rfl
theorem cellsRows : Tryz.prog.cellsOf 39 = 1 := by kernel_rfl
theorem cellsInts : Tryz.prog.cellsOf 26 = 1 := by kernel_rfl
structure PcWf (W : World) (x : Pc) : Prop where
  seq : inI x.seq
  ra : RowsAt W x.va x.rows
  ka : IntsAt W x.vk x.keys
  rw : ∀ r ∈ x.rows, RowWf r
  kw : ∀ k ∈ x.keys, inI k
theorem int_of_trod {H : Type} {enc : TypeId × Value → H} {W : World} {base fuel : Nat} {sp : Nat → Bool} {held : Bool} {cs : List Value} {y : DataW H × List MemPlace} (h : DataW.trod enc Tryz.prog W base sp held fuel 3 cs = some y) :
    ∃ n : Int, cs = encI n ∧ (encI n).length = 1 ∧ inI n := by
  obtain ⟨m, h0, _, w⟩ := DataW.trod_int Tryz.underlying3 h
  exact ⟨m, by rw [h0], rfl, bounds_i64 w⟩
theorem pc_of_trod {H : Type} {enc : TypeId × Value → H} {W : World} {base fuel : Nat} {sp : Nat → Bool} {held : Bool} {cs : List Value} {y : DataW H × List MemPlace} (h : DataW.trod enc Tryz.prog W base sp held fuel 72 cs = some y) :
    ∃ x : Pc, cs = encPc x ∧ (encPc x).length = 6 ∧ PcWf W x := by
  obtain ⟨xs, n, _, _, hl, hxs, hf⟩ := DataW.trod_struct Tryz.underlying72 h
  rw [cellsPc] at hl
  obtain ⟨c0, c1, c2, c3, c4, c5, rfl⟩ := six_of hl
  have f0 := hf 0 _ rfl
  have f1 := hf 1 _ rfl
  have f2 := hf 2 _ rfl
  have f3 := hf 3 _ rfl
  have f4 := hf 4 _ rfl
  have f5 := hf 5 _ rfl
  obtain ⟨x0, e0⟩ := some_ix hxs (k := 0) (by decide)
  obtain ⟨x1, e1⟩ := some_ix hxs (k := 1) (by decide)
  obtain ⟨x2, e2⟩ := some_ix hxs (k := 2) (by decide)
  obtain ⟨x3, e3⟩ := some_ix hxs (k := 3) (by decide)
  obtain ⟨x4, e4⟩ := some_ix hxs (k := 4) (by decide)
  obtain ⟨x5, e5⟩ := some_ix hxs (k := 5) (by decide)
  rw [e0] at f0; rw [e1] at f1; rw [e2] at f2; rw [e3] at f3; rw [e4] at f4; rw [e5] at f5
  obtain ⟨s0, h0, _, _⟩ := DataW.trod_string Tryz.underlying9 f0
  obtain ⟨s1, h1, _, _⟩ := DataW.trod_string Tryz.underlying9 f1
  obtain ⟨s2, h2, _, _⟩ := DataW.trod_string Tryz.underlying9 f2
  obtain ⟨va, rs, h3, ha, hr⟩ := slice_came encR 3 (by decide) _ _ Tryz.underlying39 cellsRow RowWf (fun _ _ _ _ _ ht => row_of_trod ht) f3
  obtain ⟨vk, ks, h4, hka, hk⟩ := slice_came encI 1 (by decide) _ _ Tryz.underlying26 cellsInt inI (fun _ _ _ _ _ ht => int_of_trod ht) f4
  obtain ⟨m5, h5, _, w5⟩ := DataW.trod_int Tryz.underlying3 f5
  simp [cellsStrF, cellsInt, cellsRows, cellsInts] at h0 h1 h2 h3 h4 h5
  subst h0 h1 h2 h3 h4 h5
  refine ⟨⟨s0.data.toList, s1.data.toList, s2.data.toList, rs, ks, m5, _, _⟩, ?_, rfl, ⟨bounds_i64 w5, ha, hka, hr, hk⟩⟩
  simp
set_option maxRecDepth 100000 in
theorem pieces_came {H : Type} {enc : TypeId × Value → H} {W : World} {base : Nat} {sp : Nat → Bool} {v : Value} {d : DataW H} {p : List MemPlace} (hv : Value.okWide Tryz.prog W .any base 22 v)
    (h : DataW.Trod enc Tryz.prog W 0 sp true 22 v d p) : ∃ l, PiecesAt W v l ∧ ∀ x ∈ l, PcWf W x :=
  param_came encPc 6 (by decide) _ _ Tryz.underlying22 cellsPc (PcWf W) (fun _ _ _ _ _ ht => pc_of_trod ht) hv h
end Go.Proofs.YtefoaeamfkbgbaaGreatDoor
