/- The builder with the row's listed variables and the world's shape both; slices of numbers that came in; the library's variables out of the condition. A slice that came in, of whatever elements; texts; files. Parameters that came in: a number, a text, a byte, a file by value; lists of five and six parameters. Snaps that came in: by value, and in a slice. A witness's world that has both: all listed data laid by the function, and the handle that errors.As reads. A slice of changes that came in. -/
import Derived.Test.YtmhchakjkgdpmaaGreatDoorTt16
import Derived.Test.YtmhchakjkgdpmaaGreatDoorTt4
import Derived.HandedShaped
import Derived.LaidLaws
import Derived.OpenShut
import Derived.Carry
import Derived.Shelf.Vars
import Derived.ProofKit
import Derived.LaidMore
import Derived.Lay
import Derived.Test.YtmhchakjkgdpmaaGreatDoorTt8
import Derived.LaidHandle
import Derived.Test.YtmhchakjkgdpmaaGreatDoorTt13
namespace Go.Proofs.YtmhchakjkgdpmaaGreatDoor
open Go.ChangeShapes Go.WideShapes Go.ChangeAt Go.RowKit

theorem handed_both {H : Type} {enc : TypeId × Value → H} {a : Assume} {C : Checked} {os : Os} {f : FuncId} {fn : Func} {s : ChangeSpec} {conds : List PathCond} {apart fresh handsOn again : Bool} {X : World → Array Value → Prop}
    (hX : ∀ (w w' : World) (args : Array Value), w.heap = w'.heap → X w args → X w' args)
    (own : ownKnob C.prog.godebug = none) (started : os.Started) (noInit : C.prog.inits.idxOf? f = none) (hfn : C.prog.funcs[f]? = some fn)
    (witness : ∃ (w : World) (tape : Tape) (i : Input), w.os = os ∧ (w.forCall tape i).Shaped C.prog ∧ i.vars = [] ∧ Input.okWide C.prog (w.forCall tape i) .any w.heap.size f i ∧
      ((s.pre enc C.prog fn conds apart (w.forCall tape i).memory i.args ∧ X (w.forCall tape i).memory i.args) ∧ sizedMet enc C.prog fn (OpenSpec.ofChange s) apart (w.forCall tape i).memory i.args) ∧ a.holds C.prog (lone (Frame.enter C.prog f i.args .normal) [] (w.forCall tape i)))
    (contract : ∀ (W : World) (base : Nat) (args : Array Value) (ds gs : List (DataW H)) (before : List MemPlace),
      (∀ (j : Nat) t v, fn.params[j]? = some t → args[j]? = some v → Value.okWide C.prog W .any base t v) →
      DataW.Whole enc C.prog fn.params.toList s.vars apart W args.toList ds gs before → X W args → W.ShapedOpen C.prog →
      Calls C.prog f args W fun e W' => ∃ v, e = .returned v ∧ s.post enc C.prog fn apart fresh handsOn again W args v W') :
    ReturnsInHanded a C os f .any (fun w args => (s.pre enc C.prog fn conds apart w args ∧ X w args) ∧ sizedMet enc C.prog fn (OpenSpec.ofChange s) apart w args) (s.post enc C.prog fn apart fresh handsOn again) := by
  refine returnsInHanded_of_calls own started noInit witness ?_
  intro w tape i _ hsh _ hok hpre _
  obtain ⟨_, _, _, fn', hfn', _, _, _, _, hval⟩ := hok
  have e : fn' = fn := Option.some.inj (hfn'.symm.trans hfn)
  subst e
  obtain ⟨⟨⟨ds, gs, before, hw, hc⟩, hx⟩, hz⟩ := hpre
  have hw' := DataW.Whole.of_heap (w' := w.forCall tape i) (by rfl) hw
  refine (contract (w.forCall tape i) w.heap.size i.args ds gs before hval hw' (hX _ _ _ (by rfl) hx) hsh).mono fun e W' ⟨v, he, hp⟩ => ?_
  subst he
  exact ChangeSpec.post_blind hp

theorem cellsInt : Tryz.prog.cellsOf 3 = 1 := by kernel_rfl
theorem laidOut : laidOutB Tryz.prog = true := by kernel_rfl

set_option maxRecDepth 100000 in
/-- A slice of numbers that came in. -/
theorem ints_came {H : Type} {enc : TypeId × Value → H} {W : World} {base : Nat} {sp : Nat → Bool} {v : Value} {d : DataW H} {p : List MemPlace} (hv : Value.okWide Tryz.prog W .any base 92 v)
    (h : DataW.Trod enc Tryz.prog W 0 sp true 92 v d p) : ∃ l, IntsAt W v l ∧ ∀ x ∈ l, (Lit.int .i64 x).wf = true := by
  obtain ⟨a0, len, cap, rfl⟩ := okWide_slice Tryz.underlying92 hv
  obtain ⟨fuel, hf⟩ := h
  rcases open_ints Tryz.underlying92 Tryz.underlying3 cellsInt hf with ⟨hcs, hx⟩ | ⟨a, len', cap', zs, hcs, _, hl, hm, hz, hx, hcell, hwz⟩
  · simp [Value.cells] at hcs
    obtain ⟨rfl, rfl, rfl⟩ := hcs
    exact ⟨[], At.nil _ _ _, fun _ h => by cases h⟩
  · simp [Value.cells] at hcs
    obtain ⟨rfl, rfl, rfl⟩ := hcs
    have hzl : len ≤ zs.length := by split at hz <;> omega
    have hlen : (zs.take len).length = len := by rw [List.length_take]; omega
    refine ⟨zs.take len, ⟨some a, cap, a.block, a.off, by rw [hlen], fun h0 => ?_, by rw [hlen]; exact hl, hm, fun k x hk j u hu => ?_⟩, fun x hx => hwz x (List.mem_of_mem_take hx)⟩
    · obtain ⟨b, off, spot⟩ := a
      have hs : spot = none := by simpa [Addr.add] using World.cell?_spot (hcell 0 (by omega))
      subst hs; rfl
    · obtain rfl : j = 0 := by
        rcases Nat.eq_zero_or_pos j with h | h
        · exact h
        · rw [List.getElem?_eq_none (by simp; omega)] at hu; cases hu
      obtain rfl : .int .i64 x = u := by simpa using hu
      have hk' : k < len := by
        rcases Nat.lt_or_ge k len with h | h
        · exact h
        · rw [List.getElem?_eq_none (by omega)] at hk; cases hk
      have hc := hcell k (by omega)
      have hx : zs.getD k 0 = x := by
        rw [List.getElem?_take_of_lt hk'] at hk
        simp [List.getD, hk]
      rw [hx] at hc
      obtain ⟨b, off, spot⟩ := a
      have hs : spot = none := by simpa [Addr.add] using World.cell?_spot (hcell 0 (by omega))
      subst hs
      have hadd : (⟨b, off, none⟩ : Addr).add k = ⟨b, off + k, none⟩ := by
        unfold Addr.add; split <;> simp_all
      rw [hadd] at hc
      simpa using hc

theorem global_lt {P : Program} {W : World} {g : Nat} (h : W.ShapedOpen P) (hg : g < P.globals.size) (h0 : (((begin P (fun _ _ => 0) default).world.heap[g]?).bind Obj.row?).isSome = true) : g < W.heap.size := by
  obtain ⟨⟨zero, t⟩, hx⟩ := Option.isSome_iff_exists.1 h0
  obtain ⟨cs, hh, _⟩ := h.1 g zero t hg hx
  exact (Array.getElem?_eq_some_iff.1 hh).1
theorem lastG : ((((begin Tryz.prog (fun _ _ => 0) default).world.heap[21 - 1]?).bind Obj.row?).isSome) = true := by kernel_rfl
theorem globals_le {W : World} (h : W.ShapedOpen Tryz.prog) : 21 ≤ W.heap.size := by
  have := global_lt h (g := 21 - 1) (of_decide_eq_true (by kernel_rfl)) lastG
  omega
theorem max_begin : ((begin Tryz.prog (fun _ _ => 0) default).world.heap[13]?).bind Obj.row? = some (#[.int .i64 0], 3) := by kernel_rfl
theorem lmax_of {W : World} (h : W.ShapedOpen Tryz.prog) : LMax W.heap.size W :=
  ⟨cell_of_shapedOpen_int (g := 13) (t := 3) h (of_decide_eq_true (by kernel_rfl)) max_begin rfl (by kernel_rfl) (by kernel_rfl) Tryz.underlying3, globals_le h, Nat.le_refl _⟩

theorem tabT : (Tryz.prog.globals[14]?).map (·.type) = some 367 := by kernel_rfl
theorem synG : Tryz.prog.globalNamed "strconv.ErrSyntax" = some 15 := by kernel_rfl
theorem synT : (Tryz.prog.globals[15]?).map (·.type) = some 31 := by kernel_rfl
theorem rngG : Tryz.prog.globalNamed "strconv.ErrRange" = some 16 := by kernel_rfl
theorem rngT : (Tryz.prog.globals[16]?).map (·.type) = some 31 := by kernel_rfl
theorem cells20 : Tryz.prog.cellsOf 367 = 20 := by kernel_rfl
theorem cellsU64 : Tryz.prog.cellsOf 293 = 1 := by kernel_rfl
theorem under20 : Tryz.prog.underlying 367 = some (.array 20 293) := by kernel_rfl
theorem underU64 : Tryz.prog.underlying 293 = some (.int .u64) := by kernel_rfl

theorem iface_laid {W : World} {L : List (String × DataW Unit)} {ps : List MemPlace} {i g : Nat} {n nm : String} {d : DataW Unit} (hv : DataW.LaidVars Tryz.prog W L ps) (hi : L[i]? = some (n, .iface nm d)) (hg : Tryz.prog.globalNamed n = some g) (ht : (Tryz.prog.globals[g]?).map (·.type) = some 31) :
    ∃ te pe, W.cell? ⟨g, 0, none⟩ = some (.iface te pe) := by
  obtain ⟨g', t, cs, fuel, p, h1, h2, h3, h4, h5⟩ := laidVars_get hv hi
  obtain rfl := Option.some.inj (hg.symm.trans h1)
  obtain rfl := Option.some.inj (ht.symm.trans h2)
  obtain ⟨l0⟩ := cs
  obtain ⟨f1, u, v, rfl, _, _⟩ := iface_of_trod Tryz.underlying31 h4
  exact ⟨u, v, by simpa using World.var?_cell hg h3 0⟩

theorem lnum_of {W : World} {L : List (String × DataW Unit)} {i j k : Nat} {n1 n2 : String} {d1 d2 : DataW Unit} (h : laidMet Tryz.prog L W) (hsh : W.ShapedOpen Tryz.prog) (hi : L[i]? = some ("internal/strconv.uint64pow10", Lib.tabData .u64 Lib.pow10Tab))
    (hj : L[j]? = some ("strconv.ErrSyntax", .iface n1 d1)) (hk : L[k]? = some ("strconv.ErrRange", .iface n2 d2)) : LNum W.heap.size W := by
  obtain ⟨ps, hv, _, _⟩ := h
  refine ⟨?_, iface_laid hv hj synG synT, iface_laid hv hk rngG rngT, globals_le hsh, Nat.le_refl _⟩
  obtain ⟨g', t, cs, fuel, p, h1, h2, h3, h4, h5⟩ := laidVars_get hv hi
  obtain rfl := Option.some.inj (pow10G.symm.trans h1)
  obtain rfl := Option.some.inj (tabT.symm.trans h2)
  unfold Lib.TabIs
  rw [h3, ← Lib.cells_of_tab under20 underU64 cellsU64 cells20 h4]
end Go.Proofs.YtmhchakjkgdpmaaGreatDoor
namespace Go.Proofs.YtmhchakjkgdpmaaGreatDoor
open Go.ChangeShapes Go.WideShapes Go.ChangeAt Go.RowKit

theorem some_ix {α : Type} {l : List α} {n k : Nat} (h : l.length = n) (hk : k < n) : ∃ x, l[k]? = some x := ⟨l[k]'(by omega), by simp [h, hk]⟩
theorem six_of {α : Type} : ∀ {l : List α}, l.length = 6 → ∃ a b c d e f, l = [a, b, c, d, e, f]
  | [a, b, c, d, e, f], _ => ⟨a, b, c, d, e, f, rfl⟩

set_option maxRecDepth 100000 in
/-- The slice's cells, by its elements' own reading. -/
theorem slice_came {H : Type} {enc : TypeId × Value → H} {W : World} {base fuel : Nat} {sp : Nat → Bool} {held : Bool} {cs : List Value} {y : DataW H × List MemPlace} {α : Type} (en : α → List Value) (sz : Nat) (hsz : 0 < sz) (tS tE : TypeId) (hu : Tryz.prog.underlying tS = some (.slice tE)) (hc : Tryz.prog.cellsOf tE = sz)
    (Pr : α → Prop) (one : ∀ (fuel : Nat) (sp : Nat → Bool) (held : Bool) (cs : List Value) (y : DataW H × List MemPlace), DataW.trod enc Tryz.prog W base sp held fuel tE cs = some y → ∃ x : α, cs = en x ∧ (en x).length = sz ∧ Pr x)
    (hf : DataW.trod enc Tryz.prog W base sp held fuel tS cs = some y) : ∃ v l, cs = [v] ∧ At en sz W v l ∧ ∀ x ∈ l, Pr x := by
  rcases DataW.trod_slice hu hf with ⟨hcs, hx⟩ | ⟨a, len', cap', elems, rest, n, _, hcs, _, _, hl, hm, hlen, hel, _, _⟩
  · exact ⟨_, [], hcs, At.nil _ _ _, fun _ h => by cases h⟩
  · refine ⟨.slice (some a) len' cap', ?_⟩
    rcases Nat.eq_zero_or_pos len' with rfl | hpos
    · exact ⟨[], hcs, ⟨some a, cap', 0, 0, rfl, fun h => absurd h (by simp), by simp, hm, fun k x h => by simp at h⟩, fun _ h => by cases h⟩
    obtain ⟨b, off, spot⟩ := a
    have hsp : spot = none := by
      have h1 := hel 0 hpos
      obtain ⟨y, hy⟩ := some_ix hlen hpos
      rw [hy, hc, Option.bind_eq_some_iff] at h1
      obtain ⟨cs, hcl, ht⟩ := h1
      obtain ⟨x, rfl, hxl, _⟩ := one _ _ _ _ _ ht
      obtain ⟨_, _, hcc⟩ := World.cells?_some hcl
      obtain ⟨u, hu0⟩ := some_ix hxl hsz
      have := hcc 0 hsz
      rw [hu0] at this
      have := World.cell?_spot this
      simpa [Addr.add] using this
    subst hsp
    have each : ∀ i, i < len' → ∃ x : α, (∀ j u, (en x)[j]? = some u → W.cell? ((⟨b, off, none⟩ : Addr).add (i * sz + j)) = some u) ∧ Pr x := by
      intro i hi
      have h1 := hel i hi
      obtain ⟨y, hy⟩ := some_ix hlen hi
      rw [hy, hc, Option.bind_eq_some_iff] at h1
      obtain ⟨cs, hcl, ht⟩ := h1
      obtain ⟨x, rfl, hxl, hp⟩ := one _ _ _ _ _ ht
      obtain ⟨_, _, hcc⟩ := World.cells?_some hcl
      refine ⟨x, fun j u hu => ?_, hp⟩
      have hj : j < sz := by
        rcases Nat.lt_or_ge j sz with h | h
        · exact h
        · rw [List.getElem?_eq_none (by omega)] at hu; cases hu
      have := hcc j hj
      rw [hu] at this
      rw [add_lit] at this
      rw [add_lit] at this
      rw [add_lit, ← Nat.add_assoc]
      exact this
    have build : ∀ m, m ≤ len' → ∃ l : List α, l.length = m ∧ (∀ k x, l[k]? = some x → ∀ j u, (en x)[j]? = some u → W.cell? ((⟨b, off, none⟩ : Addr).add (k * sz + j)) = some u) ∧ ∀ x ∈ l, Pr x := by
      intro m
      induction m with
      | zero => exact fun _ => ⟨[], rfl, fun k x h => by simp at h, fun _ h => by cases h⟩
      | succ m ih =>
        intro hm
        obtain ⟨l, h1, h2, h3⟩ := ih (by omega)
        obtain ⟨x, hx, hn⟩ := each m (by omega)
        refine ⟨l ++ [x], by simp [h1], fun k z hk j u hu => ?_, fun z hz => ?_⟩
        · rcases Nat.lt_or_ge k l.length with h | h
          · rw [List.getElem?_append_left h] at hk
            exact h2 k z hk j u hu
          · have hk' := (List.getElem?_eq_some_iff.1 hk).1
            rw [List.length_append, List.length_singleton] at hk'
            obtain rfl : k = l.length := by omega
            rw [List.getElem?_append_right (Nat.le_refl _), Nat.sub_self] at hk
            simp at hk
            subst hk
            rw [h1]
            exact hx j u hu
        · rcases List.mem_append.1 hz with h | h
          · exact h3 z h
          · simp at h; subst h; exact hn
    obtain ⟨l, h1, h2, h3⟩ := build len' (Nat.le_refl _)
    refine ⟨l, hcs, ⟨_, cap', b, off, by rw [h1], fun _ => rfl, by rw [h1]; exact hl, hm, fun k x hk j u hu => ?_⟩, h3⟩
    have := h2 k x hk j u hu
    rw [add_lit, ← Nat.add_assoc] at this
    exact this

set_option maxRecDepth 100000 in
/-- The same, of a parameter. -/
theorem param_came {H : Type} {enc : TypeId × Value → H} {W : World} {base : Nat} {sp : Nat → Bool} {v : Value} {d : DataW H} {p : List MemPlace} {α : Type} (en : α → List Value) (sz : Nat) (hsz : 0 < sz) (tS tE : TypeId) (hu : Tryz.prog.underlying tS = some (.slice tE)) (hc : Tryz.prog.cellsOf tE = sz)
    (Pr : α → Prop) (one : ∀ (fuel : Nat) (sp : Nat → Bool) (held : Bool) (cs : List Value) (y : DataW H × List MemPlace), DataW.trod enc Tryz.prog W 0 sp held fuel tE cs = some y → ∃ x : α, cs = en x ∧ (en x).length = sz ∧ Pr x)
    (hv : Value.okWide Tryz.prog W .any base tS v) (h : DataW.Trod enc Tryz.prog W 0 sp true tS v d p) : ∃ l, At en sz W v l ∧ ∀ x ∈ l, Pr x := by
  obtain ⟨a0, len, cap, rfl⟩ := okWide_slice hu hv
  obtain ⟨fuel, hf⟩ := h
  obtain ⟨v, l, hcs, ha, hp⟩ := slice_came en sz hsz tS tE hu hc Pr one hf
  simp [Value.cells] at hcs
  subst hcs
  exact ⟨l, ha, hp⟩

theorem str_of_trod {H : Type} {enc : TypeId × Value → H} {W : World} {base fuel : Nat} {sp : Nat → Bool} {held : Bool} {cs : List Value} {y : DataW H × List MemPlace} (h : DataW.trod enc Tryz.prog W base sp held fuel 9 cs = some y) :
    ∃ s : Str, cs = encS s := by
  obtain ⟨s, h0, _, _⟩ := DataW.trod_string Tryz.underlying9 h
  exact ⟨s.data.toList, by rw [h0]⟩
theorem cellsFile : Tryz.prog.cellsOf 37 = 6 := by kernel_rfl
theorem cellsStrF : Tryz.prog.cellsOf 9 = 1 := by kernel_rfl
/-- An integer's bounds. -/
def inI (n : Int) : Prop := -9223372036854775808 ≤ n ∧ n ≤ 9223372036854775807
def FileWf (x : Fl) : Prop := inI x.n ∧ inI x.lo ∧ inI x.hi ∧ inI x.seq
/-- One file, read. -/
theorem file_of_trod {H : Type} {enc : TypeId × Value → H} {W : World} {base fuel : Nat} {sp : Nat → Bool} {held : Bool} {cs : List Value} {y : DataW H × List MemPlace} (h : DataW.trod enc Tryz.prog W base sp held fuel 37 cs = some y) :
    ∃ x : Fl, cs = encF x ∧ (encF x).length = 6 ∧ FileWf x := by
  obtain ⟨xs, n, _, _, hl, hxs, hf⟩ := DataW.trod_struct Tryz.underlying37 h
  rw [cellsFile] at hl
  obtain ⟨c0, c1, c2, c3, c4, c5, rfl⟩ := six_of hl
  have f0 := hf 0 _ rfl
  have f1 := hf 1 _ rfl
  have f2 := hf 2 _ rfl
  have f3 := hf 3 _ rfl
  have f4 := hf 4 _ rfl
  have f5 := hf 5 _ rfl
  obtain ⟨x0, e0⟩ := some_ix hxs (k := 0) (by decide)
  obtain ⟨x1, e1⟩ := some_ix hxs (k := 1) (by decide)
  obtain ⟨x2, e2⟩ := some_ix hxs (k := 2) (by decide)
  obtain ⟨x3, e3⟩ := some_ix hxs (k := 3) (by decide)
  obtain ⟨x4, e4⟩ := some_ix hxs (k := 4) (by decide)
  obtain ⟨x5, e5⟩ := some_ix hxs (k := 5) (by decide)
  rw [e0] at f0; rw [e1] at f1; rw [e2] at f2; rw [e3] at f3; rw [e4] at f4; rw [e5] at f5
  obtain ⟨s0, h0, _, _⟩ := DataW.trod_string Tryz.underlying9 f0
  obtain ⟨s1, h1, _, _⟩ := DataW.trod_string Tryz.underlying9 f1
  obtain ⟨m2, h2, _, w2⟩ := DataW.trod_int Tryz.underlying3 f2
  obtain ⟨m3, h3, _, w3⟩ := DataW.trod_int Tryz.underlying3 f3
  obtain ⟨m4, h4, _, w4⟩ := DataW.trod_int Tryz.underlying3 f4
  obtain ⟨m5, h5, _, w5⟩ := DataW.trod_int Tryz.underlying3 f5
  simp [cellsStrF, cellsInt] at h0 h1 h2 h3 h4 h5
  subst h0 h1 h2 h3 h4 h5
  exact ⟨⟨s0.data.toList, s1.data.toList, m2, m3, m4, m5⟩, by simp, rfl, bounds_i64 w2, bounds_i64 w3, bounds_i64 w4, bounds_i64 w5⟩
set_option maxRecDepth 100000 in
/-- A slice of files that came in. -/
theorem files_came {H : Type} {enc : TypeId × Value → H} {W : World} {base : Nat} {sp : Nat → Bool} {v : Value} {d : DataW H} {p : List MemPlace} (hv : Value.okWide Tryz.prog W .any base 22 v)
    (h : DataW.Trod enc Tryz.prog W 0 sp true 22 v d p) : ∃ l, FilesAt W v l ∧ ∀ x ∈ l, FileWf x :=
  param_came encF 6 (by decide) _ _ Tryz.underlying22 cellsFile FileWf (fun _ _ _ _ _ ht => file_of_trod ht) hv h
end Go.Proofs.YtmhchakjkgdpmaaGreatDoor
namespace Go.Proofs.YtmhchakjkgdpmaaGreatDoor
open Go.ChangeShapes Go.WideShapes Go.ChangeAt Go.RowKit

set_option maxRecDepth 100000 in
theorem int_came {H : Type} {enc : TypeId × Value → H} {W : World} {base : Nat} {sp : Nat → Bool} {v : Value} {d : DataW H} {p : List MemPlace} (hv : Value.okWide Tryz.prog W .any base 3 v)
    (h : DataW.Trod enc Tryz.prog W 0 sp true 3 v d p) : ∃ x, v = .int .i64 x ∧ (-9223372036854775808 ≤ x ∧ x ≤ 9223372036854775807) := by
  obtain ⟨x, h1, _, _, wx⟩ := open_int Tryz.underlying3 hv h
  exact ⟨x, h1, bounds_i64 wx⟩
set_option maxRecDepth 100000 in
theorem str_came {H : Type} {enc : TypeId × Value → H} {W : World} {base : Nat} {sp : Nat → Bool} {v : Value} {d : DataW H} {p : List MemPlace} (hv : Value.okWide Tryz.prog W .any base 9 v)
    (h : DataW.Trod enc Tryz.prog W 0 sp true 9 v d p) : ∃ s : Str, v = S s ∧ (s.length : Int) ≤ 9223372036854775807 := by
  obtain ⟨s, h1, _, _, ws⟩ := ChangeMaps.open_string Tryz.underlying9 hv h
  refine ⟨s.data.toList, by rw [h1], ?_⟩
  have : s.data.toList.length = s.size := Array.length_toList
  unfold maxLen at ws; omega
theorem bounds_u8 {n : Int} (h : (Lit.int .u8 n).wf = true) : 0 ≤ n ∧ n ≤ 255 := by
  simp [Lit.wf, IntKind.min, IntKind.max, IntKind.signed, IntKind.bits] at h
  omega
set_option maxRecDepth 100000 in
theorem byte_came {H : Type} {enc : TypeId × Value → H} {W : World} {base : Nat} {sp : Nat → Bool} {v : Value} {d : DataW H} {p : List MemPlace} (hv : Value.okWide Tryz.prog W .any base 5 v)
    (h : DataW.Trod enc Tryz.prog W 0 sp true 5 v d p) : ∃ c : UInt8, v = .int .u8 c.toNat := by
  obtain ⟨x, h1, _, _, wx⟩ := open_int Tryz.underlying5 hv h
  have hb := bounds_u8 wx
  refine ⟨UInt8.ofNat x.toNat, ?_⟩
  rw [h1]
  congr 1
  rw [UInt8.toNat_ofNat', Nat.mod_eq_of_lt (by omega)]
  omega
set_option maxRecDepth 100000 in
/-- A file by value. -/
theorem file_came {H : Type} {enc : TypeId × Value → H} {W : World} {base : Nat} {sp : Nat → Bool} {v : Value} {d : DataW H} {p : List MemPlace} (hv : Value.okWide Tryz.prog W .any base 37 v)
    (h : DataW.Trod enc Tryz.prog W 0 sp true 37 v d p) : ∃ f : Fl, v = fileV f ∧ FileWf f := by
  obtain ⟨cs, rfl, hsz⟩ := okWide_struct Tryz.underlying37 hv
  obtain ⟨fuel, hf⟩ := h
  obtain ⟨x, h1, h2, h3⟩ := file_of_trod hf
  refine ⟨x, ?_, h3⟩
  simp only [Value.cells] at h1
  exact congrArg Value.agg (Array.toList_inj.1 h1)

theorem trodAll_five {H : Type} {enc : TypeId × Value → H} {P : Program} {w : World} {base : Nat} {sp : Nat → Bool} {held : Bool} {t1 t2 t3 t4 t5 : TypeId} {args : Array Value} {ds : List (DataW H)} {ps : List MemPlace} (h : DataW.TrodAll enc P w base sp held [t1, t2, t3, t4, t5] args.toList ds ps) :
    ∃ v1 v2 v3 v4 v5 d1 d2 d3 d4 d5 p1 p2 p3 p4 p5, args = #[v1, v2, v3, v4, v5] ∧ ds = [d1, d2, d3, d4, d5] ∧ ps = p1 ++ (p2 ++ (p3 ++ (p4 ++ p5))) ∧ DataW.Trod enc P w base sp held t1 v1 d1 p1 ∧ DataW.Trod enc P w base sp held t2 v2 d2 p2 ∧ DataW.Trod enc P w base sp held t3 v3 d3 p3 ∧ DataW.Trod enc P w base sp held t4 v4 d4 p4 ∧ DataW.Trod enc P w base sp held t5 v5 d5 p5 := by
  obtain ⟨l⟩ := args
  obtain ⟨v1, l1, d1, e1, p1, q1, rfl, rfl, rfl, h1, h⟩ := trodAll_cons h
  obtain ⟨v2, l2, d2, e2, p2, q2, rfl, rfl, rfl, h2, h⟩ := trodAll_cons h
  obtain ⟨v3, l3, d3, e3, p3, q3, rfl, rfl, rfl, h3, h⟩ := trodAll_cons h
  obtain ⟨v4, l4, d4, e4, p4, q4, rfl, rfl, rfl, h4, h⟩ := trodAll_cons h
  obtain ⟨v5, l5, d5, e5, p5, q5, rfl, rfl, rfl, h5, h⟩ := trodAll_cons h
  obtain ⟨rfl, rfl, rfl⟩ := trodAll_nil h
  exact ⟨v1, v2, v3, v4, v5, d1, d2, d3, d4, d5, p1, p2, p3, p4, p5, rfl, rfl, by simp, h1, h2, h3, h4, h5⟩
theorem trodAll_six {H : Type} {enc : TypeId × Value → H} {P : Program} {w : World} {base : Nat} {sp : Nat → Bool} {held : Bool} {t1 t2 t3 t4 t5 t6 : TypeId} {args : Array Value} {ds : List (DataW H)} {ps : List MemPlace} (h : DataW.TrodAll enc P w base sp held [t1, t2, t3, t4, t5, t6] args.toList ds ps) :
    ∃ v1 v2 v3 v4 v5 v6 d1 d2 d3 d4 d5 d6 p1 p2 p3 p4 p5 p6, args = #[v1, v2, v3, v4, v5, v6] ∧ ds = [d1, d2, d3, d4, d5, d6] ∧ ps = p1 ++ (p2 ++ (p3 ++ (p4 ++ (p5 ++ p6)))) ∧ DataW.Trod enc P w base sp held t1 v1 d1 p1 ∧ DataW.Trod enc P w base sp held t2 v2 d2 p2 ∧ DataW.Trod enc P w base sp held t3 v3 d3 p3 ∧ DataW.Trod enc P w base sp held t4 v4 d4 p4 ∧ DataW.Trod enc P w base sp held t5 v5 d5 p5 ∧ DataW.Trod enc P w base sp held t6 v6 d6 p6 := by
  obtain ⟨l⟩ := args
  obtain ⟨v1, l1, d1, e1, p1, q1, rfl, rfl, rfl, h1, h⟩ := trodAll_cons h
  obtain ⟨v2, l2, d2, e2, p2, q2, rfl, rfl, rfl, h2, h⟩ := trodAll_cons h
  obtain ⟨v3, l3, d3, e3, p3, q3, rfl, rfl, rfl, h3, h⟩ := trodAll_cons h
  obtain ⟨v4, l4, d4, e4, p4, q4, rfl, rfl, rfl, h4, h⟩ := trodAll_cons h
  obtain ⟨v5, l5, d5, e5, p5, q5, rfl, rfl, rfl, h5, h⟩ := trodAll_cons h
  obtain ⟨v6, l6, d6, e6, p6, q6, rfl, rfl, rfl, h6, h⟩ := trodAll_cons h
  obtain ⟨rfl, rfl, rfl⟩ := trodAll_nil h
  exact ⟨v1, v2, v3, v4, v5, v6, d1, d2, d3, d4, d5, d6, p1, p2, p3, p4, p5, p6, rfl, rfl, by simp, h1, h2, h3, h4, h5, h6⟩
end Go.Proofs.YtmhchakjkgdpmaaGreatDoor
namespace Go.Proofs.YtmhchakjkgdpmaaGreatDoor
open Go.ChangeShapes Go.WideShapes Go.ChangeAt Go.RowKit

theorem cellsSnap : Tryz.prog.cellsOf 24 = 7 := by kernel_rfl
theorem cellsFiles : Tryz.prog.cellsOf 22 = 1 := by kernel_rfl
theorem seven_of {α : Type} : ∀ {l : List α}, l.length = 7 → ∃ a b c d e f g, l = [a, b, c, d, e, f, g]
  | [a, b, c, d, e, f, g], _ => ⟨a, b, c, d, e, f, g, rfl⟩
structure SnWf (s : Sn) : Prop where
  id : inI s.id
  parent : inI s.parent
  seq : inI s.seq
  day : inI s.day
  index : inI s.index
  files : ∀ x ∈ s.files, FileWf x
theorem snap_of_trod {H : Type} {enc : TypeId × Value → H} {W : World} {base fuel : Nat} {sp : Nat → Bool} {held : Bool} {cs : List Value} {y : DataW H × List MemPlace} (h : DataW.trod enc Tryz.prog W base sp held fuel 24 cs = some y) :
    ∃ (u : Value) (x : Sn), cs = [.int .i64 x.id, .int .i64 x.parent, .int .i64 x.seq, .int .i64 x.day, .int .i64 x.index, S x.op, u] ∧ FilesAt W u x.files ∧ SnWf x := by
  obtain ⟨xs, n, _, _, hl, hxs, hf⟩ := DataW.trod_struct Tryz.underlying24 h
  rw [cellsSnap] at hl
  obtain ⟨c0, c1, c2, c3, c4, c5, c6, rfl⟩ := seven_of hl
  have f0 := hf 0 _ rfl
  have f1 := hf 1 _ rfl
  have f2 := hf 2 _ rfl
  have f3 := hf 3 _ rfl
  have f4 := hf 4 _ rfl
  have f5 := hf 5 _ rfl
  have f6 := hf 6 _ rfl
  obtain ⟨x0, e0⟩ := some_ix hxs (k := 0) (by decide)
  obtain ⟨x1, e1⟩ := some_ix hxs (k := 1) (by decide)
  obtain ⟨x2, e2⟩ := some_ix hxs (k := 2) (by decide)
  obtain ⟨x3, e3⟩ := some_ix hxs (k := 3) (by decide)
  obtain ⟨x4, e4⟩ := some_ix hxs (k := 4) (by decide)
  obtain ⟨x5, e5⟩ := some_ix hxs (k := 5) (by decide)
  obtain ⟨x6, e6⟩ := some_ix hxs (k := 6) (by decide)
  rw [e0] at f0; rw [e1] at f1; rw [e2] at f2; rw [e3] at f3; rw [e4] at f4; rw [e5] at f5; rw [e6] at f6
  obtain ⟨m0, h0, _, w0⟩ := DataW.trod_int Tryz.underlying3 f0
  obtain ⟨m1, h1, _, w1⟩ := DataW.trod_int Tryz.underlying3 f1
  obtain ⟨m2, h2, _, w2⟩ := DataW.trod_int Tryz.underlying3 f2
  obtain ⟨m3, h3, _, w3⟩ := DataW.trod_int Tryz.underlying3 f3
  obtain ⟨m4, h4, _, w4⟩ := DataW.trod_int Tryz.underlying3 f4
  obtain ⟨s5, h5, _, _⟩ := DataW.trod_string Tryz.underlying9 f5
  obtain ⟨u, l, h6, ha, hw⟩ := slice_came encF 6 (by decide) _ _ Tryz.underlying22 cellsFile FileWf (fun _ _ _ _ _ ht => file_of_trod ht) f6
  simp [cellsStrF, cellsInt, cellsFiles] at h0 h1 h2 h3 h4 h5 h6
  subst h0 h1 h2 h3 h4 h5 h6
  exact ⟨_, ⟨m0, m1, m2, m3, m4, s5.data.toList, l⟩, by simp, ha, ⟨bounds_i64 w0, bounds_i64 w1, bounds_i64 w2, bounds_i64 w3, bounds_i64 w4, hw⟩⟩
set_option maxRecDepth 100000 in
/-- A snap by value. -/
theorem snap_came {H : Type} {enc : TypeId × Value → H} {W : World} {base : Nat} {sp : Nat → Bool} {v : Value} {d : DataW H} {p : List MemPlace} (hv : Value.okWide Tryz.prog W .any base 24 v)
    (h : DataW.Trod enc Tryz.prog W 0 sp true 24 v d p) : ∃ u s, v = snapV s u ∧ FilesAt W u s.files ∧ SnWf s := by
  obtain ⟨cs, rfl, hsz⟩ := okWide_struct Tryz.underlying24 hv
  obtain ⟨fuel, hf⟩ := h
  obtain ⟨u, x, h1, h2, h3⟩ := snap_of_trod hf
  refine ⟨u, x, ?_, h2, h3⟩
  simp only [Value.cells] at h1
  exact congrArg Value.agg (Array.toList_inj.1 h1)
end Go.Proofs.YtmhchakjkgdpmaaGreatDoor
namespace Go.Proofs.YtmhchakjkgdpmaaGreatDoor
open Go.ChangeShapes Go.WideShapes Go.ChangeAt Go.RowKit

theorem laidMet_layVars_all {P : Program} {w0 w' : World} {l : List (String × DataW Unit)} (hh : w'.heap = (w0.layVars P l).heap) (hf : w0.layFits P l [] = true) (hi : w0.layIfaces P l w' = true) : laidMet P l w' := by
  have e1 : (l.filter fun x => (l.map (·.1)).contains x.1) = l := List.filter_eq_self.2 fun x hx => List.contains_iff_mem.2 (List.mem_map.2 ⟨x, hx, rfl⟩)
  have e2 : (l.filter fun x => !(l.map (·.1)).contains x.1) = [] := List.filter_eq_nil_iff.2 fun x hx => by rw [List.contains_iff_mem.2 (List.mem_map.2 ⟨x, hx, rfl⟩)]; simp
  exact laidMet_layVars (w0 := w0) (l.map (·.1)) [] (by rw [e1]; exact hh) (by rw [e1]; exact hf) (by rw [e1]; exact hi) (by rw [e2]; exact LaidIn.none)

/-- The world at the beginning, the handle laid. -/
noncomputable def handleW (os : Os) : World := (World.holding Tryz.prog os ⟨#[], #[], []⟩).setCell ⟨12, 0, none⟩ (.iface 321 (.agg #[.pointer (some ⟨21, 31, none⟩)]))
noncomputable def witW (os : Os) (l : List (String × DataW Unit)) : World := (handleW os).layVars Tryz.prog (l.filter fun x => x.2.handleName?.isNone)
theorem witW_os (os : Os) (l : List (String × DataW Unit)) : (witW os l).os = os := World.layVars_os _ _ _
theorem witW_met (os : Os) (l : List (String × DataW Unit)) (args : Array Value) (hf : (handleW os).layFits Tryz.prog (l.filter fun x => x.2.handleName?.isNone) [] = true) (hi : (handleW os).layIfaces Tryz.prog (l.filter fun x => x.2.handleName?.isNone) (witW os l) = true)
    (hh : (l.filter fun x => x.2.handleName?.isSome).all (handleAtB Tryz.prog ((witW os l).forCall (fun _ _ => 0) ⟨#[], args, []⟩).memory) = true) :
    laidMetH Tryz.prog l ((witW os l).forCall (fun _ _ => 0) ⟨#[], args, []⟩).memory := by
  have h : laidMet Tryz.prog (l.filter fun x => x.2.handleName?.isNone) (witW os l) := laidMet_layVars_all (w0 := handleW os) rfl hf hi
  exact laidMetH_of_parts (h.of_heap (by simp [World.memory, World.forCall, Input.heap])) hh
end Go.Proofs.YtmhchakjkgdpmaaGreatDoor
namespace Go.Proofs.YtmhchakjkgdpmaaGreatDoor
open Go.ChangeShapes Go.WideShapes Go.ChangeAt Go.RowKit

theorem cellsCh : Tryz.prog.cellsOf 39 = 8 := by kernel_rfl
theorem cellsBool : Tryz.prog.cellsOf 4 = 1 := by kernel_rfl
theorem eight_of {α : Type} : ∀ {l : List α}, l.length = 8 → ∃ a b c d e f g h, l = [a, b, c, d, e, f, g, h]
  | [a, b, c, d, e, f, g, h], _ => ⟨a, b, c, d, e, f, g, h, rfl⟩
structure ChWf (x : Ch) : Prop where
  file : FileWf x.file
theorem ch_of_trod {H : Type} {enc : TypeId × Value → H} {W : World} {base fuel : Nat} {sp : Nat → Bool} {held : Bool} {cs : List Value} {y : DataW H × List MemPlace} (h : DataW.trod enc Tryz.prog W base sp held fuel 39 cs = some y) :
    ∃ x : Ch, cs = encCh x ∧ (encCh x).length = 8 ∧ ChWf x := by
  obtain ⟨xs, n, _, _, hl, hxs, hf⟩ := DataW.trod_struct Tryz.underlying39 h
  rw [cellsCh] at hl
  obtain ⟨c0, c1, c2, c3, c4, c5, c6, c7, rfl⟩ := eight_of hl
  have f0 := hf 0 _ rfl
  have f1 := hf 1 _ rfl
  have f2 := hf 2 _ rfl
  obtain ⟨x0, e0⟩ := some_ix hxs (k := 0) (by decide)
  obtain ⟨x1, e1⟩ := some_ix hxs (k := 1) (by decide)
  obtain ⟨x2, e2⟩ := some_ix hxs (k := 2) (by decide)
  rw [e0] at f0; rw [e1] at f1; rw [e2] at f2
  obtain ⟨b0, h0, _⟩ := DataW.trod_bool Tryz.underlying4 f0
  obtain ⟨x, h1, -, hw⟩ := file_of_trod f1
  obtain ⟨s2, h2, _, _⟩ := DataW.trod_string Tryz.underlying9 f2
  simp [cellsStrF, cellsBool, cellsFile] at h0 h1 h2
  subst h0 h2
  obtain ⟨rfl, rfl, rfl, rfl, rfl, rfl⟩ := h1
  exact ⟨⟨b0, x, s2.data.toList⟩, by simp, rfl, ⟨hw⟩⟩
set_option maxRecDepth 100000 in
theorem changes_came {H : Type} {enc : TypeId × Value → H} {W : World} {base : Nat} {sp : Nat → Bool} {v : Value} {d : DataW H} {p : List MemPlace} (hv : Value.okWide Tryz.prog W .any base 25 v)
    (h : DataW.Trod enc Tryz.prog W 0 sp true 25 v d p) : ∃ l, ChangesAt W v l ∧ ∀ x ∈ l, ChWf x :=
  param_came encCh 8 (by decide) _ _ Tryz.underlying25 cellsCh ChWf (fun _ _ _ _ _ ht => ch_of_trod ht) hv h
end Go.Proofs.YtmhchakjkgdpmaaGreatDoor
