/- A slice that came in, of whatever elements; texts; files. Parameters that came in: a number, a text, a byte, a file by value; lists of five and six parameters. Snaps that came in: by value, and in a slice. Rows that came in. A slice of pieces that came in. -/
import Derived.Test.YtpfohfihkmjnaaaGreatDoorPk19
import Derived.Test.YtpfohfihkmjnaaaGreatDoorPk5
import Derived.Test.YtpfohfihkmjnaaaGreatDoorPk11
import Derived.Test.YtpfohfihkmjnaaaGreatDoorPk6
import Derived.Test.YtpfohfihkmjnaaaGreatDoorPk10
namespace Go.Proofs.YtpfohfihkmjnaaaGreatDoor
open Go.ChangeShapes Go.WideShapes Go.ChangeAt Go.RowKit
theorem some_ix {α : Type} {l : List α} {n k : Nat} (h : l.length = n) (hk : k < n) : ∃ x, l[k]? = some x := ⟨l[k]'(by omega), by simp [h, hk]⟩
theorem six_of {α : Type} : ∀ {l : List α}, l.length = 6 → ∃ a b c d e f, l = [a, b, c, d, e, f]
  | [a, b, c, d, e, f], _ => ⟨a, b, c, d, e, f, rfl⟩
set_option maxRecDepth 100000 in
/-- The slice's cells, by its elements' own reading. -/
theorem slice_came {H : Type} {enc : TypeId × Value → H} {W : World} {base fuel : Nat} {sp : Nat → Bool} {held : Bool} {cs : List Value} {y : DataW H × List MemPlace} {α : Type} (en : α → List Value) (sz : Nat) (hsz : 0 < sz) (tS tE : TypeId) (hu : Tryz.prog.underlying tS = some (.slice tE)) (hc : Tryz.prog.cellsOf tE = sz)
    (Pr : α → Prop) (one : ∀ (fuel : Nat) (sp : Nat → Bool) (held : Bool) (cs : List Value) (y : DataW H × List MemPlace), DataW.trod enc Tryz.prog W base sp held fuel tE cs = some y → ∃ x : α, cs = en x ∧ (en x).length = sz ∧ Pr x)
    (hf : DataW.trod enc Tryz.prog W base sp held fuel tS cs = some y) : ∃ v l, cs = [v] ∧ At en sz W v l ∧ ∀ x ∈ l, Pr x := by
  rcases DataW.trod_slice hu hf with ⟨hcs, hx⟩ | ⟨a, len', cap', elems, rest, n, _, hcs, _, _, hl, hm, hlen, hel, _, _⟩
  · exact ⟨_, [], hcs, At.nil _ _ _, fun _ h => by cases h⟩
  · refine ⟨.slice (some a) len' cap', ?_⟩
    rcases Nat.eq_zero_or_pos len' with rfl | hpos
    · exact ⟨[], hcs, ⟨some a, cap', 0, 0, rfl, fun h => absurd h (by simp), by simp, hm, fun k x h => by simp at h⟩, fun _ h => by cases h⟩
    obtain ⟨b, off, spot⟩ := a
    have hsp : spot = none := by
      have h1 := hel 0 hpos
      obtain ⟨y, hy⟩ := some_ix hlen hpos
      rw [hy, hc, Option.bind_eq_some_iff] at h1
      obtain ⟨cs, hcl, ht⟩ := h1
      obtain ⟨x, rfl, hxl, _⟩ := one _ _ _ _ _ ht
      obtain ⟨_, _, hcc⟩ := World.cells?_some hcl
      obtain ⟨u, hu0⟩ := some_ix hxl hsz
      have := hcc 0 hsz
      rw [hu0] at this
      have := World.cell?_spot this
      simpa [Addr.add] using this
    subst hsp
    have each : ∀ i, i < len' → ∃ x : α, (∀ j u, (en x)[j]? = some u → W.cell? ((⟨b, off, none⟩ : Addr).add (i * sz + j)) = some u) ∧ Pr x := by
      intro i hi
      have h1 := hel i hi
      obtain ⟨y, hy⟩ := some_ix hlen hi
      rw [hy, hc, Option.bind_eq_some_iff] at h1
      obtain ⟨cs, hcl, ht⟩ := h1
      obtain ⟨x, rfl, hxl, hp⟩ := one _ _ _ _ _ ht
      obtain ⟨_, _, hcc⟩ := World.cells?_some hcl
      refine ⟨x, fun j u hu => ?_, hp⟩
      have hj : j < sz := by
        rcases Nat.lt_or_ge j sz with h | h
        · exact h
        · rw [List.getElem?_eq_none (by omega)] at hu; cases hu
      have := hcc j hj
      rw [hu] at this
      rw [add_lit] at this
      rw [add_lit] at this
      rw [add_lit, ← Nat.add_assoc]
      exact this
    have build : ∀ m, m ≤ len' → ∃ l : List α, l.length = m ∧ (∀ k x, l[k]? = some x → ∀ j u, (en x)[j]? = some u → W.cell? ((⟨b, off, none⟩ : Addr).add (k * sz + j)) = some u) ∧ ∀ x ∈ l, Pr x := by
      intro m
      induction m with
      | zero => exact fun _ => ⟨[], rfl, fun k x h => by simp at h, fun _ h => by cases h⟩
      | succ m ih =>
        intro hm
        obtain ⟨l, h1, h2, h3⟩ := ih (by omega)
        obtain ⟨x, hx, hn⟩ := each m (by omega)
        refine ⟨l ++ [x], by simp [h1], fun k z hk j u hu => ?_, fun z hz => ?_⟩
        · rcases Nat.lt_or_ge k l.length with h | h
          · rw [List.getElem?_append_left h] at hk
            exact h2 k z hk j u hu
          · have hk' := (List.getElem?_eq_some_iff.1 hk).1
            rw [List.length_append, List.length_singleton] at hk'
            obtain rfl : k = l.length := by omega
            rw [List.getElem?_append_right (Nat.le_refl _), Nat.sub_self] at hk
            simp at hk
            subst hk
            rw [h1]
            exact hx j u hu
        · rcases List.mem_append.1 hz with h | h
          · exact h3 z h
          · simp at h; subst h; exact hn
    obtain ⟨l, h1, h2, h3⟩ := build len' (Nat.le_refl _)
    refine ⟨l, hcs, ⟨_, cap', b, off, by rw [h1], fun _ => rfl, by rw [h1]; exact hl, hm, fun k x hk j u hu => ?_⟩, h3⟩
    have := h2 k x hk j u hu
    rw [add_lit, ← Nat.add_assoc] at this
    exact this
set_option maxRecDepth 100000 in
/-- The same, of a parameter. -/
theorem param_came {H : Type} {enc : TypeId × Value → H} {W : World} {base : Nat} {sp : Nat → Bool} {v : Value} {d : DataW H} {p : List MemPlace} {α : Type} (en : α → List Value) (sz : Nat) (hsz : 0 < sz) (tS tE : TypeId) (hu : Tryz.prog.underlying tS = some (.slice tE)) (hc : Tryz.prog.cellsOf tE = sz)
    (Pr : α → Prop) (one : ∀ (fuel : Nat) (sp : Nat → Bool) (held : Bool) (cs : List Value) (y : DataW H × List MemPlace), DataW.trod enc Tryz.prog W 0 sp held fuel tE cs = some y → ∃ x : α, cs = en x ∧ (en x).length = sz ∧ Pr x)
    (hv : Value.okWide Tryz.prog W .any base tS v) (h : DataW.Trod enc Tryz.prog W 0 sp true tS v d p) : ∃ l, At en sz W v l ∧ ∀ x ∈ l, Pr x := by
  obtain ⟨a0, len, cap, rfl⟩ := okWide_slice hu hv
  obtain ⟨fuel, hf⟩ := h
  obtain ⟨v, l, hcs, ha, hp⟩ := slice_came en sz hsz tS tE hu hc Pr one hf
  simp [Value.cells] at hcs
  subst hcs
  exact ⟨l, ha, hp⟩
theorem cellsFile : Tryz.prog.cellsOf 43 = 6 := by kernel_rfl
theorem cellsStrF : Tryz.prog.cellsOf 9 = 1 := by kernel_rfl
/-- An integer's bounds. -/
def inI (n : Int) : Prop := -9223372036854775808 ≤ n ∧ n ≤ 9223372036854775807
def FileWf (x : Fl) : Prop := inI x.n ∧ inI x.lo ∧ inI x.hi ∧ inI x.seq
/-- One file, read. -/
theorem file_of_trod {H : Type} {enc : TypeId × Value → H} {W : World} {base fuel : Nat} {sp : Nat → Bool} {held : Bool} {cs : List Value} {y : DataW H × List MemPlace} (h : DataW.trod enc Tryz.prog W base sp held fuel 43 cs = some y) :
    ∃ x : Fl, cs = encF x ∧ (encF x).length = 6 ∧ FileWf x := by
  obtain ⟨xs, n, _, _, hl, hxs, hf⟩ := DataW.trod_struct Tryz.underlying43 h
  rw [cellsFile] at hl
  obtain ⟨c0, c1, c2, c3, c4, c5, rfl⟩ := six_of hl
  have f0 := hf 0 _ rfl
  have f1 := hf 1 _ rfl
  have f2 := hf 2 _ rfl
  have f3 := hf 3 _ rfl
  have f4 := hf 4 _ rfl
  have f5 := hf 5 _ rfl
  obtain ⟨x0, e0⟩ := some_ix hxs (k := 0) (by decide)
  obtain ⟨x1, e1⟩ := some_ix hxs (k := 1) (by decide)
  obtain ⟨x2, e2⟩ := some_ix hxs (k := 2) (by decide)
  obtain ⟨x3, e3⟩ := some_ix hxs (k := 3) (by decide)
  obtain ⟨x4, e4⟩ := some_ix hxs (k := 4) (by decide)
  obtain ⟨x5, e5⟩ := some_ix hxs (k := 5) (by decide)
  rw [e0] at f0; rw [e1] at f1; rw [e2] at f2; rw [e3] at f3; rw [e4] at f4; rw [e5] at f5
  obtain ⟨s0, h0, _, _⟩ := DataW.trod_string Tryz.underlying9 f0
  obtain ⟨s1, h1, _, _⟩ := DataW.trod_string Tryz.underlying9 f1
  obtain ⟨m2, h2, _, w2⟩ := DataW.trod_int Tryz.underlying3 f2
  obtain ⟨m3, h3, _, w3⟩ := DataW.trod_int Tryz.underlying3 f3
  obtain ⟨m4, h4, _, w4⟩ := DataW.trod_int Tryz.underlying3 f4
  obtain ⟨m5, h5, _, w5⟩ := DataW.trod_int Tryz.underlying3 f5
  simp [cellsStrF, cellsInt] at h0 h1 h2 h3 h4 h5
  subst h0 h1 h2 h3 h4 h5
  exact ⟨⟨s0.data.toList, s1.data.toList, m2, m3, m4, m5⟩, by simp, rfl, bounds_i64 w2, bounds_i64 w3, bounds_i64 w4, bounds_i64 w5⟩
end Go.Proofs.YtpfohfihkmjnaaaGreatDoor
namespace Go.Proofs.YtpfohfihkmjnaaaGreatDoor
open Go.ChangeShapes Go.WideShapes Go.ChangeAt Go.RowKit
set_option maxRecDepth 100000 in
theorem int_came {H : Type} {enc : TypeId × Value → H} {W : World} {base : Nat} {sp : Nat → Bool} {v : Value} {d : DataW H} {p : List MemPlace} (hv : Value.okWide Tryz.prog W .any base 3 v)
    (h : DataW.Trod enc Tryz.prog W 0 sp true 3 v d p) : ∃ x, v = .int .i64 x ∧ (-9223372036854775808 ≤ x ∧ x ≤ 9223372036854775807) := by
  obtain ⟨x, h1, _, _, wx⟩ := open_int Tryz.underlying3 hv h
  exact ⟨x, h1, bounds_i64 wx⟩
end Go.Proofs.YtpfohfihkmjnaaaGreatDoor
namespace Go.Proofs.YtpfohfihkmjnaaaGreatDoor
open Go.ChangeShapes Go.WideShapes Go.ChangeAt Go.RowKit
theorem cellsSnap : Tryz.prog.cellsOf 25 = 7 := by kernel_rfl
theorem cellsFiles : Tryz.prog.cellsOf 23 = 1 := by kernel_rfl
theorem seven_of {α : Type} : ∀ {l : List α}, l.length = 7 → ∃ a b c d e f g, l = [a, b, c, d, e, f, g]
  | [a, b, c, d, e, f, g], _ => ⟨a, b, c, d, e, f, g, rfl⟩
structure SnWf (s : Sn) : Prop where
  id : inI s.id
  parent : inI s.parent
  seq : inI s.seq
  day : inI s.day
  index : inI s.index
  files : ∀ x ∈ s.files, FileWf x
theorem snap_of_trod {H : Type} {enc : TypeId × Value → H} {W : World} {base fuel : Nat} {sp : Nat → Bool} {held : Bool} {cs : List Value} {y : DataW H × List MemPlace} (h : DataW.trod enc Tryz.prog W base sp held fuel 25 cs = some y) :
    ∃ (u : Value) (x : Sn), cs = [.int .i64 x.id, .int .i64 x.parent, .int .i64 x.seq, .int .i64 x.day, .int .i64 x.index, S x.op, u] ∧ FilesAt W u x.files ∧ SnWf x := by
  obtain ⟨xs, n, _, _, hl, hxs, hf⟩ := DataW.trod_struct Tryz.underlying25 h
  rw [cellsSnap] at hl
  obtain ⟨c0, c1, c2, c3, c4, c5, c6, rfl⟩ := seven_of hl
  have f0 := hf 0 _ rfl
  have f1 := hf 1 _ rfl
  have f2 := hf 2 _ rfl
  have f3 := hf 3 _ rfl
  have f4 := hf 4 _ rfl
  have f5 := hf 5 _ rfl
  have f6 := hf 6 _ rfl
  obtain ⟨x0, e0⟩ := some_ix hxs (k := 0) (by decide)
  obtain ⟨x1, e1⟩ := some_ix hxs (k := 1) (by decide)
  obtain ⟨x2, e2⟩ := some_ix hxs (k := 2) (by decide)
  obtain ⟨x3, e3⟩ := some_ix hxs (k := 3) (by decide)
  obtain ⟨x4, e4⟩ := some_ix hxs (k := 4) (by decide)
  obtain ⟨x5, e5⟩ := some_ix hxs (k := 5) (by decide)
  obtain ⟨x6, e6⟩ := some_ix hxs (k := 6) (by decide)
  rw [e0] at f0; rw [e1] at f1; rw [e2] at f2; rw [e3] at f3; rw [e4] at f4; rw [e5] at f5; rw [e6] at f6
  obtain ⟨m0, h0, _, w0⟩ := DataW.trod_int Tryz.underlying3 f0
  obtain ⟨m1, h1, _, w1⟩ := DataW.trod_int Tryz.underlying3 f1
  obtain ⟨m2, h2, _, w2⟩ := DataW.trod_int Tryz.underlying3 f2
  obtain ⟨m3, h3, _, w3⟩ := DataW.trod_int Tryz.underlying3 f3
  obtain ⟨m4, h4, _, w4⟩ := DataW.trod_int Tryz.underlying3 f4
  obtain ⟨s5, h5, _, _⟩ := DataW.trod_string Tryz.underlying9 f5
  obtain ⟨u, l, h6, ha, hw⟩ := slice_came encF 6 (by decide) _ _ Tryz.underlying23 cellsFile FileWf (fun _ _ _ _ _ ht => file_of_trod ht) f6
  simp [cellsStrF, cellsInt, cellsFiles] at h0 h1 h2 h3 h4 h5 h6
  subst h0 h1 h2 h3 h4 h5 h6
  exact ⟨_, ⟨m0, m1, m2, m3, m4, s5.data.toList, l⟩, by simp, ha, ⟨bounds_i64 w0, bounds_i64 w1, bounds_i64 w2, bounds_i64 w3, bounds_i64 w4, hw⟩⟩
set_option maxRecDepth 100000 in
/-- A snap by value. -/
theorem snap_came {H : Type} {enc : TypeId × Value → H} {W : World} {base : Nat} {sp : Nat → Bool} {v : Value} {d : DataW H} {p : List MemPlace} (hv : Value.okWide Tryz.prog W .any base 25 v)
    (h : DataW.Trod enc Tryz.prog W 0 sp true 25 v d p) : ∃ u s, v = snapV s u ∧ FilesAt W u s.files ∧ SnWf s := by
  obtain ⟨cs, rfl, hsz⟩ := okWide_struct Tryz.underlying25 hv
  obtain ⟨fuel, hf⟩ := h
  obtain ⟨u, x, h1, h2, h3⟩ := snap_of_trod hf
  refine ⟨u, x, ?_, h2, h3⟩
  simp only [Value.cells] at h1
  exact congrArg Value.agg (Array.toList_inj.1 h1)
end Go.Proofs.YtpfohfihkmjnaaaGreatDoor
namespace Go.Proofs.YtpfohfihkmjnaaaGreatDoor
open Go.ChangeShapes Go.WideShapes Go.ChangeAt Go.RowKit
theorem cellsRow : Tryz.prog.cellsOf 106 = 3 := by kernel_rfl
theorem three_of {α : Type} : ∀ {l : List α}, l.length = 3 → ∃ a b c, l = [a, b, c]
  | [a, b, c], _ => ⟨a, b, c, rfl⟩
theorem row_of_trod {H : Type} {enc : TypeId × Value → H} {W : World} {base fuel : Nat} {sp : Nat → Bool} {held : Bool} {cs : List Value} {y : DataW H × List MemPlace} (h : DataW.trod enc Tryz.prog W base sp held fuel 106 cs = some y) :
    ∃ x : Rw, cs = encR x ∧ (encR x).length = 3 ∧ RowWf x := by
  obtain ⟨xs, n, _, _, hl, hxs, hf⟩ := DataW.trod_struct Tryz.underlying106 h
  rw [cellsRow] at hl
  obtain ⟨c0, c1, c2, rfl⟩ := three_of hl
  have f0 := hf 0 _ rfl
  have f1 := hf 1 _ rfl
  have f2 := hf 2 _ rfl
  obtain ⟨x0, e0⟩ := some_ix hxs (k := 0) (by decide)
  obtain ⟨x1, e1⟩ := some_ix hxs (k := 1) (by decide)
  obtain ⟨x2, e2⟩ := some_ix hxs (k := 2) (by decide)
  rw [e0] at f0; rw [e1] at f1; rw [e2] at f2
  obtain ⟨s0, h0, _, _⟩ := DataW.trod_string Tryz.underlying9 f0
  obtain ⟨m1, h1, _, w1⟩ := DataW.trod_int Tryz.underlying3 f1
  obtain ⟨m2, h2, _, w2⟩ := DataW.trod_int Tryz.underlying3 f2
  simp [cellsStrF, cellsInt] at h0 h1 h2
  subst h0 h1 h2
  exact ⟨⟨s0.data.toList, m1, m2⟩, by simp, rfl, bounds_i64 w1, bounds_i64 w2⟩
end Go.Proofs.YtpfohfihkmjnaaaGreatDoor
namespace Go.Proofs.YtpfohfihkmjnaaaGreatDoor
open Go.ChangeShapes Go.WideShapes Go.ChangeAt Go.RowKit
theorem cellsPc : Tryz.prog.cellsOf 71 = 6 := by kernel_rfl
theorem cellsRows : Tryz.prog.cellsOf 44 = 1 := by kernel_rfl
theorem cellsInts : Tryz.prog.cellsOf 69 = 1 := by kernel_rfl
structure PcWf (W : World) (x : Pc) : Prop where
  seq : inI x.seq
  ra : RowsAt W x.va x.rows
  ka : IntsAt W x.vk x.keys
  rw : ∀ r ∈ x.rows, RowWf r
  kw : ∀ k ∈ x.keys, inI k
theorem int_of_trod {H : Type} {enc : TypeId × Value → H} {W : World} {base fuel : Nat} {sp : Nat → Bool} {held : Bool} {cs : List Value} {y : DataW H × List MemPlace} (h : DataW.trod enc Tryz.prog W base sp held fuel 3 cs = some y) :
    ∃ n : Int, cs = encI n ∧ (encI n).length = 1 ∧ inI n := by
  obtain ⟨m, h0, _, w⟩ := DataW.trod_int Tryz.underlying3 h
  exact ⟨m, by rw [h0], rfl, bounds_i64 w⟩
theorem pc_of_trod {H : Type} {enc : TypeId × Value → H} {W : World} {base fuel : Nat} {sp : Nat → Bool} {held : Bool} {cs : List Value} {y : DataW H × List MemPlace} (h : DataW.trod enc Tryz.prog W base sp held fuel 71 cs = some y) :
    ∃ x : Pc, cs = encPc x ∧ (encPc x).length = 6 ∧ PcWf W x := by
  obtain ⟨xs, n, _, _, hl, hxs, hf⟩ := DataW.trod_struct Tryz.underlying71 h
  rw [cellsPc] at hl
  obtain ⟨c0, c1, c2, c3, c4, c5, rfl⟩ := six_of hl
  have f0 := hf 0 _ rfl
  have f1 := hf 1 _ rfl
  have f2 := hf 2 _ rfl
  have f3 := hf 3 _ rfl
  have f4 := hf 4 _ rfl
  have f5 := hf 5 _ rfl
  obtain ⟨x0, e0⟩ := some_ix hxs (k := 0) (by decide)
  obtain ⟨x1, e1⟩ := some_ix hxs (k := 1) (by decide)
  obtain ⟨x2, e2⟩ := some_ix hxs (k := 2) (by decide)
  obtain ⟨x3, e3⟩ := some_ix hxs (k := 3) (by decide)
  obtain ⟨x4, e4⟩ := some_ix hxs (k := 4) (by decide)
  obtain ⟨x5, e5⟩ := some_ix hxs (k := 5) (by decide)
  rw [e0] at f0; rw [e1] at f1; rw [e2] at f2; rw [e3] at f3; rw [e4] at f4; rw [e5] at f5
  obtain ⟨s0, h0, _, _⟩ := DataW.trod_string Tryz.underlying9 f0
  obtain ⟨s1, h1, _, _⟩ := DataW.trod_string Tryz.underlying9 f1
  obtain ⟨s2, h2, _, _⟩ := DataW.trod_string Tryz.underlying9 f2
  obtain ⟨va, rs, h3, ha, hr⟩ := slice_came encR 3 (by decide) _ _ Tryz.underlying44 cellsRow RowWf (fun _ _ _ _ _ ht => row_of_trod ht) f3
  obtain ⟨vk, ks, h4, hka, hk⟩ := slice_came encI 1 (by decide) _ _ Tryz.underlying69 cellsInt inI (fun _ _ _ _ _ ht => int_of_trod ht) f4
  obtain ⟨m5, h5, _, w5⟩ := DataW.trod_int Tryz.underlying3 f5
  simp [cellsStrF, cellsInt, cellsRows, cellsInts] at h0 h1 h2 h3 h4 h5
  subst h0 h1 h2 h3 h4 h5
  refine ⟨⟨s0.data.toList, s1.data.toList, s2.data.toList, rs, ks, m5, _, _⟩, ?_, rfl, ⟨bounds_i64 w5, ha, hka, hr, hk⟩⟩
  simp
set_option maxRecDepth 100000 in
theorem pieces_came {H : Type} {enc : TypeId × Value → H} {W : World} {base : Nat} {sp : Nat → Bool} {v : Value} {d : DataW H} {p : List MemPlace} (hv : Value.okWide Tryz.prog W .any base 22 v)
    (h : DataW.Trod enc Tryz.prog W 0 sp true 22 v d p) : ∃ l, PiecesAt W v l ∧ ∀ x ∈ l, PcWf W x :=
  param_came encPc 6 (by decide) _ _ Tryz.underlying22 cellsPc (PcWf W) (fun _ _ _ _ _ ht => pc_of_trod ht) hv h
end Go.Proofs.YtpfohfihkmjnaaaGreatDoor
