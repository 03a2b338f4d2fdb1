/- Files of rows in plain words: what is made, what is read; the two agree. slices.Values, AppendSeq, Collect at []api.Row: a range over a function. row.Compare, row.Less: the walks; what they call of package cmp. DERIVED: THE SHELF's CONTRACTS AT THIS DUMP, IN PLAIN WORDS (tools/lay-plain.mjs out of 'TryzSortF.lean', which tools/lay-shelf.mjs wrote): THE SAME DECLARATIONS UNDER THE SAME NAMES: 'import', 'namespace', 'open', 'def', 'theorem' AND NOTHING ELSE: no command of the shelf's: FOR A HAND-IN. Each laying: the table of numbers ('.._ren') and one theorem, a field a fact of the dump's own or the kernel's comparison; each contract: ONE APPLICATION. The document's answer on files: IsFar, IsName, PathOf, FileError, IsBehind: the walks. deedboxref1's faults: Bare, Fine; faulted; deedboxref2.IDsFault. deedboxref2.IDsFault: the walk. The document's answer on files: FileError, FileText, IsBehind, FindOf, ListFault, ListText: the walks. The document's answer on files: FileText: the walk. slices.BinarySearchFunc at []api.File; list.Find, Add, Remove. list.Add, list.Remove. slices.DeleteFunc, in plain words. Of no program. -/
import Derived.Test.YtpfohfihkmjnaaaGreatDoorPk5
import Derived.Test.YtpfohfihkmjnaaaGreatDoorPk6
import Derived.RangeFuncBox
import Derived.RangeFuncNested
import Derived.RangeFuncLeaves
import Derived.Shelf.Abstract
import Derived.WalkKit
import Derived.OwnWalkIn
import Derived.TacticsInMore
import Derived.LoopNIn
import Derived.LoopIn
import Derived.Maps.AppendAt
import Derived.Deep.RegionHeld3
import Derived.Deep.CutBlock
import Derived.Deep.DeepCutAuto
import Derived.Shelf.SlSortCmp.WholeK
import Derived.Test.YtpfohfihkmjnaaaGreatDoorProg
import Derived.Test.YtpfohfihkmjnaaaGreatDoorPk4
import Derived.Test.YtpfohfihkmjnaaaGreatDoorPk3
import Derived.Test.YtpfohfihkmjnaaaGreatDoorPk1
import Derived.Laws.Rows
import Derived.Laws.NewBlocks
import Derived.Laws.Tables
import Derived.Test.YtpfohfihkmjnaaaGreatDoorPk2
import Derived.Deep.LoopGhost
namespace Go.Proofs.YtpfohfihkmjnaaaGreatDoor
open Go.RowKit
def rowD (s : Str) : Rw := (rowRead s).1
def keysR (l : List Rw) : List Int := l.map (·.key)
def dataBad (ls : List Str) (i : Nat) : Nat :=
  match ls[i]? with
  | none => 0
  | some s => if (rowRead s).2 ≠ 0 then (rowRead s).2 else if 0 < i ∧ ∃ t, ls[i - 1]? = some t ∧ lessR (rowD s) (rowD t) = true then 9 else 0
def dataE (s : Str) : Er := readEr kData s dataBad (fun l => keysR (l.map rowD))
def dataL (s : Str) : List Rw := if dataE s = .nil then (splitL s).dropLast.map rowD else []
/-- What is made of rows. -/
def rowF (l : List Rw) (i : Nat) : Nat := match l[i]? with | none => 0 | some r => rowCheck r
def makeE (l : List Rw) : Er := if 40 < l.length then .bare 8 else firstErr (rowF l) l.length
def dataText (l : List Rw) : Str := wholeT kData (keysR l) (bodyT (l.map rowLine))
def makeT (l : List Rw) : Str := if makeE l = .nil then wholeT kData (keysR l) (bodyT ((sortR l).map rowLine)) else []
theorem ends_perm {l m : List Int} (h : l.Perm m) : endsI l = endsI m := by
  by_cases hl : l = []
  · subst hl
    rw [List.Perm.nil_eq h]
  · have hm : m ≠ [] := fun e => hl (by rw [e] at h; exact h.eq_nil)
    obtain ⟨a1, a2, a3⟩ := ends_mem hl
    obtain ⟨b1, b2, b3⟩ := ends_mem hm
    have c1 := b3 _ (h.mem_iff.1 a1)
    have c2 := b3 _ (h.mem_iff.1 a2)
    have c3 := a3 _ (h.mem_iff.2 b1)
    have c4 := a3 _ (h.mem_iff.2 b2)
    apply Prod.ext <;> omega
theorem make_text {l : List Rw} (h : makeE l = .nil) : makeT l = dataText (sortR l) := by
  unfold makeT dataText
  rw [if_pos h]
  have hp : (keysR (sortR l)).Perm (keysR l) := (sort_perm l).map _
  unfold wholeT
  rw [ends_perm hp, hp.length_eq]
theorem rowLine_len' {r : Rw} (h : rowCheck r = 0) : (rowLine r).length ≤ 60 := by
  obtain ⟨h1, h2, h3⟩ := rowCheck_zero h
  have hn := name_sign h1
  have k1 := near h2
  have k2 := near h3
  have l1 := itoa_len r.key (by omega) (by omega)
  have l2 := itoa_len r.val (by omega) (by omega)
  unfold rowLine numsTail
  simp only [List.flatMap_cons, List.flatMap_nil, List.append_nil, List.length_append, List.length_cons]
  omega
theorem keysR_near {l : List Rw} (h : ∀ r ∈ l, rowCheck r = 0) : ∀ x ∈ keysR l, ¬ farN x := fun x hx => by
  obtain ⟨r, hr, rfl⟩ := List.mem_map.1 hx
  exact (rowCheck_zero (h r hr)).2.1
theorem dataText_len {l : List Rw} (h : ∀ r ∈ l, rowCheck r = 0) (hk : l.length ≤ 40) : (dataText l).length ≤ 2700 := by
  have hs := sumOf_lt (bodyT (l.map rowLine))
  obtain ⟨e1, e2⟩ := ends_within (B := 1073741824) (by omega) fun x hx => near (keysR_near h x hx)
  have hkl : (keysR l).length = l.length := List.length_map _
  have h1 := blk_head_len (word := kData) (keysR l).length (endsI (keysR l)).1 (endsI (keysR l)).2 (sumOf (bodyT (l.map rowLine))) (by decide) (by omega) (by omega) (by omega) (by omega)
  have h2 := body_len (m := 60) (ls := l.map rowLine) fun s hs => by
    obtain ⟨r, hr, rfl⟩ := List.mem_map.1 hs
    exact rowLine_len' (h r hr)
  rw [List.length_map] at h2
  unfold dataText wholeT
  rw [List.length_append, List.length_cons]
  omega
theorem makeE_nil {l : List Rw} (h : makeE l = .nil) : l.length ≤ 40 ∧ ∀ r ∈ l, rowCheck r = 0 := by
  unfold makeE at h
  split at h
  · cases h
  refine ⟨by omega, fun r hr => ?_⟩
  obtain ⟨j, hj, he⟩ := List.getElem_of_mem hr
  have := firstErr_nil h j hj
  unfold rowF at this
  rw [List.getElem?_eq_getElem hj, he] at this
  exact this
theorem make_right {l : List Rw} (h : makeE l = .nil) : (sortR l).length ≤ 40 ∧ (∀ r ∈ sortR l, rowCheck r = 0) ∧ upR (sortR l) := by
  obtain ⟨h1, h2⟩ := makeE_nil h
  exact ⟨by rw [sort_len]; exact h1, fun r hr => h2 r ((sort_perm l).mem_iff.1 hr), sort_up l⟩
end Go.Proofs.YtpfohfihkmjnaaaGreatDoor
namespace Go.Proofs.YtpfohfihkmjnaaaGreatDoor
open Go.RowKit Go.Shelf
attribute [local go_sem] Oper.semAt_some
set_option maxRecDepth 100000 in
set_option maxHeartbeats 2000000 in
/-- slices.Values's closure, for every loop body that keeps what lay below n₀. -/
theorem values1R_in (F : Fence) (n : Nat) (h7 : F.fn 148) (hro : F.round = none) (hn : 1 ≤ n) (l Bs n₀ : Nat) (a : Option Addr) (c b o : Nat) (zs : List Rw) (ha : 0 < zs.length → a = some ⟨b, o, none⟩) (hb : 0 < zs.length → b < n₀) (J Jx : List Rw → World → Prop)
    (W : World) (hJ : AbidesFrom W.heap.size J) (hn₀ : n₀ ≤ W.heap.size) (hcm : zs.length ≤ 9223372036854775807)
    (hY : ∀ pre x W1, J pre W1 → pre.length < zs.length → YieldAt F (n - 1) Tryz.prog l #[rowV x] W1 fun e W' =>
      (e = .returned (.bool true) ∧ J (pre ++ [x]) W' ∧ Below n₀ W1 W') ∨ (e = .returned (.bool false) ∧ Jx (pre ++ [x]) W'))
    (hBs : W.cell? ⟨Bs, 0, none⟩ = some (.slice a zs.length c)) (hx : ∀ (k : Nat) (x : Rw), zs[k]? = some x → ∀ (j : Nat) (u : Value), (encR x)[j]? = some u → W.cell? ⟨b, o + k * 3 + j, none⟩ = some u) (h0 : J [] W) :
    CallsIn F n Tryz.prog 148 #[.func (.yield l) #[] #[], .pointer (some ⟨Bs, 0, none⟩)] W fun e W' => (∃ v, e = .returned v) ∧ ((∃ ys, ys = zs ∧ J ys W') ∨ (∃ pre, pre <+: zs ∧ Jx pre W')) := by
  refine callsIn_of_wp Tryz.func148 rfl h7 ?_ hro
  simp only [Tryz.ntmps148, List.size_toArray, List.length_cons, List.length_nil, Nat.reduceAdd, Nat.reduceSub, Array.replicate_succ, Array.replicate_zero, List.push_toArray, List.append_toArray, List.nil_append, List.cons_append]
  gi_wp2
  gi_loopw [7] (fun i wr => ∃ k : Nat, k ≤ zs.length ∧ i = .int .i64 k ∧ J (zs.take k) wr ∧ Below n₀ W wr) (fun i _ => zs.length - (intOf i).toNat)
  case atStart => exact ⟨0, Nat.zero_le _, rfl, h0, Below.refl _ _⟩
  case round =>
    obtain ⟨k, hk, rfl, hJs, hnx⟩ := hrel
    by_cases hlt : k < zs.length
    case neg =>
      obtain rfl : k = zs.length := by omega
      rw [List.take_length] at hJs
      gi_wp2
      go_end0
      exact ⟨⟨_, rfl⟩, .inl ⟨_, rfl, hJs⟩⟩
    obtain ⟨x, hxk⟩ := get_ex hlt
    have hbn := hb (by omega)
    have hcl := fun j u hu => (hnx.cell (p := ⟨b, o + k * 3 + j, none⟩) hbn).trans (hx k x hxk j u hu)
    have c0 := hcl 0 _ rfl
    have c1 := hcl 1 _ rfl
    have c2 := hcl 2 _ rfl
    have i1 := idx_at (c := c) 3 Tryz.underlying44 szRw ha k hlt
    have hk1 : (k : Int) < (zs.length : Int) := by omega
    simp only [Nat.add_zero] at c0 c1 c2
    obtain ⟨e0, e1, e2⟩ := rowCells (r := x) (w := wr) rfl (Below.refl _ _)
    have hJa : J (zs.take k) (wr.alloc (.cells #[S x.part, .int .i64 x.key, .int .i64 x.val] 106)) := hJ _ _ _ none hJs (World.grownBy_alloc wr _ none) (fun r e => by cases e)
    obtain ⟨fn, tmps, assign, body, hy, hR⟩ := hY _ x _ hJa (by rw [List.length_take]; omega)
    have hsn := take_snoc' hxk
    have HSn := Lib.hid hsn
    clear hsn hxk hcl
    gi_wp2
    refine hR.mono ?_
    rintro e W3 (⟨rfl, hJ3, hk3⟩ | ⟨rfl, hJx3⟩)
    · gi_wp2
      go_roundw
      case rel => exact ⟨k + 1, by omega, by simp, by rw [HSn.out]; exact hJ3, (hnx.alloc (Nat.le_trans hn₀ hnx.size) _).trans hk3⟩
      case measure => simp [intOf]; omega
    · gi_wp2
      refine bodyPost_ret (results_none rfl _ _ _) rfl ?_
      exact ⟨⟨_, rfl⟩, .inr ⟨_, by rw [← HSn.out]; exact List.take_prefix _ _, hJx3⟩⟩
theorem valuesR_in (F : Fence) (n : Nat) (h5 : F.fn 106) (hro : F.round = none) (a : Option Addr) (len cap : Nat) (w : World) :
    CallsIn F n Tryz.prog 106 #[.slice a len cap] w fun e w' => e = .returned (.func (.func 148) #[] #[.pointer (some ⟨w.heap.size, 0, none⟩)]) ∧ w' = w.alloc (.cells #[.slice a len cap] 44) := by
  refine callsIn_of_wp Tryz.func106 rfl h5 ?_ hro
  simp only [Tryz.ntmps106, List.size_toArray, List.length_cons, List.length_nil, Nat.reduceAdd, Nat.reduceSub, Array.replicate_succ, Array.replicate_zero, List.push_toArray, List.append_toArray, List.nil_append, List.cons_append]
  gi_wp2
  go_ret
  exact ⟨rfl, rfl⟩
/-- slices.Values(l) hands back a value that yields all of l, in order. -/
theorem valuesR_stops (F : Fence) (n : Nat) (h7 : F.fn 148) (hro : F.round = none) (hn : 1 ≤ n) (Bs n₀ : Nat) (v : Value) (zs : List Rw) (w0 w : World) (hBs : Bs < w.heap.size) (hn₀ : n₀ ≤ w.heap.size)
    (hc : w.cell? ⟨Bs, 0, none⟩ = some v) (hl : RowsAt w0 v zs) (hlow : w0.heap.size ≤ n₀) (hb0 : Below w0.heap.size w0 w) :
    SeqStopsK F n Tryz.prog 148 #[.pointer (some ⟨Bs, 0, none⟩)] (fun x : Rw => #[rowV x]) (Below n₀) (fun ys => ys = zs) (fun pre => pre <+: zs) zs.length w := fun l J Jx W hW hJ _ hY h0 => by
  obtain ⟨a, c, b, o, rfl, ha, hcc, hcm, hx⟩ := hl
  have hbn : 0 < zs.length → b < w0.heap.size := fun h => by
    obtain ⟨x, hxk⟩ := get_ex (l := zs) (k := 0) h
    exact World.block_lt_of_cell? w0 ⟨b, o + 0 * 3 + 0, none⟩ (hx 0 x hxk 0 _ rfl)
  have hbW := hb0.trans (hW.mono hb0.size)
  refine values1R_in F n h7 hro hn l Bs n₀ a c b o zs ha (fun h => Nat.lt_of_lt_of_le (hbn h) hlow) J Jx W hJ (Nat.le_trans hn₀ hW.size) (by unfold maxLen at hcm; omega) hY ((hW.cell (p := ⟨Bs, 0, none⟩) hBs).trans hc) (fun k x hk j u hu => ?_) h0
  have h1 := hx k x hk j u hu
  exact (hbW.cell (World.block_lt_of_cell? w0 _ h1)).trans h1
theorem cells_new3 (w : World) (cs : List Value) (t : TypeId) : ∀ j u, cs[j]? = some u → (w.alloc (.cells cs.toArray t)).cell? ((⟨w.heap.size, 0, none⟩ : Addr).add j) = some u := fun j u hu => by
  rw [add_lit, cell_of_row (w.alloc _) w.heap.size _ cs.toArray t (0, 0) (heap_alloc_new w _)]
  simpa using hu
theorem infoRw : (Tryz.prog.info? 106).map (fun i => (i.zero, i.size, i.bytes)) = some (some (.agg #[.string ByteArray.empty, .int .i64 0, .int .i64 0]), 3, 32) := by kernel_rfl
set_option maxRecDepth 100000 in
set_option maxHeartbeats 2000000 in
/-- slices.AppendSeq(nil, seq): all that seq yields. -/
theorem appendSeqR_in (F : Fence) (n : Nat) (h3 : F.fn 177) (hro : F.round = none) (hn : 3 ≤ n) (gf : Nat) (lb : Array Value) (hFg : F.fn gf) (eg : ∀ args w, (callFunc gf args).run Tryz.prog w = .ok (.enter gf args) w) (zs : List Rw) (hz : zs.length ≤ 100000) (n₀ : Nat) (w : World) (hn₀ : n₀ ≤ w.heap.size)
    (hseq : SeqStopsK F (n - 1) Tryz.prog gf lb (fun x : Rw => #[rowV x]) (Below n₀) (fun ys => ys = zs) (fun pre => pre <+: zs) zs.length w) :
    CallsIn F n Tryz.prog 177 #[.slice none 0 0, .func (.func gf) #[] lb] w fun e w' => ∃ v, e = .returned v ∧ Own encR 106 3 w.heap.size w' v zs ∧ Below w.heap.size w w' := by
  have h1 : 1 ≤ n := by omega
  obtain ⟨i0, hi, hz0, hz1, hz2⟩ := info_parts infoRw
  refine callsIn_of_wp_marks Tryz.func177 rfl h3 ?_ hro
  simp only [Tryz.ntmps177, List.size_toArray, List.length_cons, List.length_nil, Nat.reduceAdd, Nat.reduceSub, Array.replicate_succ, Array.replicate_zero, List.push_toArray, List.append_toArray, List.nil_append, List.cons_append]
  gi_wp2
  have bO := Boxed.new w 44 (.slice none 0 0)
  have hB0 : Below w.heap.size w (w.alloc (.cells #[.slice none 0 0] 44)) := (Below.refl _ w).alloc (Nat.le_refl _) _
  have hsz : (w.alloc (.cells #[.slice none 0 0] 44)).heap.size = w.heap.size + 1 := by simp
  have hseq' : SeqStopsK F (n - 1) Tryz.prog gf lb (fun x : Rw => #[rowV x]) (Below n₀) (fun ys => ys = zs) (fun pre => pre <+: zs) zs.length (w.alloc (.cells #[.slice none 0 0] 44)) := fun l J Jx W hW => hseq l J Jx W (hB0.trans (hW.mono hB0.size))
  obtain ⟨W0, hW0⟩ : ∃ W0, w.alloc (.cells #[.slice none 0 0] 44) = W0 := ⟨_, rfl⟩
  rw [hW0] at bO hB0 hsz hseq' ⊢
  clear hW0
  refine wpIn_rangeFunc_ownH hro h1 (gf := gf) (lb := lb) rfl hFg eg hseq' belowK_t (belowK_b (by omega)) (Below.refl _ _) (fun _ => rfl)
    (fun pre W => (∃ v, Boxed W w.heap.size 44 v ∧ W.ownsRow w.heap.size 106 3 v pre.length (pre.flatMap encR) ∧ True) ∧ Below w.heap.size w W)
    (fun _ _ _ => False)
    (OwnFrom.and (Go.Own.from (holdsRow_own w.heap.size w.heap.size 44 106 3 (fun pre : List Rw => pre.length) (fun pre => pre.flatMap encR) (fun _ _ => True)) _) (ownFrom_below (Nat.le_refl _) (by omega)))
    (fun _ _ _ _ _ hs _ _ => hs)
    ⟨⟨_, bO, World.ownsRow_nil _ _ _ _, trivial⟩, hB0⟩
    (fun x a' W => ∃ Bx, w.heap.size < Bx ∧ W.heap[Bx]? = some (.cells #[S x.part, .int .i64 x.key, .int .i64 x.val] 106 (0, 0)) ∧ a' = { tmps := #[.slice none 0 0, .func (.func gf) #[] lb, .pointer (some ⟨w.heap.size, 0, none⟩), undef, .slice none 0 0, .pointer (some ⟨Bx, 0, none⟩), .func (.func gf) #[] lb, rowV x, undef, undef, undef, undef, undef], defers := [] })
    (fun x a' _ X Y row hs hg hr => by
      obtain ⟨Bx, h1, h2, h3⟩ := hs
      refine ⟨Bx, h1, (hg.block Bx (Array.getElem?_eq_some_iff.1 h2).1 (fun e => ?_)).trans h2, h3⟩
      obtain ⟨_, o, ho, hc⟩ := hr _ e.symm
      rw [h2] at ho; cases ho; cases hc)
    ?assign ?body ?done ?stop
  case assign =>
    rintro l pre x W K ⟨⟨v, hv, hrow, -⟩, hB1⟩ hK
    gi_wp2
    exact hK _ _ ((KeepsOthers.alloc _ _).from _) ((Below.refl _ W).alloc (Nat.le_trans hn₀ hB1.size) _) ⟨⟨v, hv.alloc _, hrow.alloc _, trivial⟩, hB1.alloc hB1.size _⟩ ⟨W.heap.size, hv.lt, World.alloc_heap_new W _, rfl⟩
  case body =>
    rintro l pre x a' W hl ⟨r, hr⟩ ⟨⟨v, hv, hrow, -⟩, hB⟩ ⟨Bx, hBx, bX, rfl⟩ hlt
    have hc := hv.cell
    have c0 : W.cell? ⟨Bx, 0, none⟩ = some (S x.part) := by simp [World.cell?, bX]
    have c1 : W.cell? ⟨Bx, 1, none⟩ = some (.int .i64 x.key) := by simp [World.cell?, bX]
    have c2 : W.cell? ⟨Bx, 2, none⟩ = some (.int .i64 x.val) := by simp [World.cell?, bX]
    gi_wp2_with (gi_at_builtin; refine wpListIn_append_own _ rfl _ _ 44 rfl w.heap.size 106 i0 _ 3 32 Tryz.underlying44 hi hz0 hz1 hz2 rfl (by decide) _ _ _ rfl (hrow.alloc _) ⟨W.heap.size, 0, none⟩ 1 1 (encR x) rfl rfl (cells_new3 _ _ _) (by simp [Value.oneCell']) (by unfold maxLen; omega) (by omega) (by have := hB.size; simp; omega) ?_; intro v' w1 hown' hgrow _; obtain ⟨g', cap', rfl⟩ := ownsRow_succ hown'; obtain ⟨hv1, hv2, hr2, hk2, hb2⟩ := hv.appended (by decide) hrow hB.size (Nat.le_refl _) hown' hgrow; have hc1 := hv1.cell; have hf1 := hv1.frozen)
    exact ⟨hk2.from _, hb2.mono hn₀, ⟨_, hv2, by simpa using hr2, trivial⟩, hB.trans hb2⟩
  case done =>
    rintro D ys W hD rfl ⟨⟨v, hv, hrow, -⟩, hB⟩ hK
    have hc := hv.cell
    gi_wp2
    refine ⟨by simp, .inl ⟨_, _, rfl, run_takeDeferred hK, ?_⟩⟩
    exact ⟨_, results_tmp rfl _ _ _, v, rfl, ownsRow_putObj hrow _ hK rfl, hB.trans (belowK_b (w := w) (Nat.le_refl _) W D _ _ (by omega) hK rfl rfl)⟩
  case stop =>
    rintro D c pre W _ _ h _
    exact h.elim
theorem collectR_in (F : Fence) (n : Nat) (h3 : F.fn 177) (h4 : F.fn 146) (hro : F.round = none) (hn : 4 ≤ n) (gf : Nat) (lb : Array Value) (hFg : F.fn gf) (eg : ∀ args w, (callFunc gf args).run Tryz.prog w = .ok (.enter gf args) w) (zs : List Rw) (hz : zs.length ≤ 100000) (n₀ : Nat) (w : World) (hn₀ : n₀ ≤ w.heap.size)
    (hseq : SeqStopsK F (n - 1 - 1) Tryz.prog gf lb (fun x : Rw => #[rowV x]) (Below n₀) (fun ys => ys = zs) (fun pre => pre <+: zs) zs.length w) :
    CallsIn F n Tryz.prog 146 #[.func (.func gf) #[] lb] w fun e w' => ∃ v, e = .returned v ∧ Own encR 106 3 w.heap.size w' v zs ∧ Below w.heap.size w w' := by
  have h1 : 1 ≤ n := by omega
  refine callsIn_of_wp Tryz.func146 rfl h4 ?_ hro
  simp only [Tryz.ntmps146, List.size_toArray, List.length_cons, List.length_nil, Nat.reduceAdd, Nat.reduceSub, Array.replicate_succ, Array.replicate_zero, List.push_toArray, List.append_toArray, List.nil_append, List.cons_append]
  gi_wp2_with (gi_at_call 177; refine (appendSeqR_in F (n - 1) h3 hro (by omega) gf lb hFg eg zs hz n₀ _ hn₀ hseq).mono ?_; rintro e w' ⟨v, rfl, hown, hb⟩)
  go_ret
  exact ⟨_, rfl, hown, hb⟩
end Go.Proofs.YtpfohfihkmjnaaaGreatDoor
namespace Go.Proofs.YtpfohfihkmjnaaaGreatDoor
open Go.RowKit
theorem isNaNI_any (n : Int) (w : World) : Calls Tryz.prog 176 #[.int .i64 n] w fun e w' => e = .returned (.bool false) ∧ w = w' := by
  have g : (n != n) = false := by simp
  go_enter Tryz.func176, Tryz.ntmps176
  go_wp2_with fail
  go_ret
  exact ⟨rfl, rfl⟩
theorem isNaNS_any (s : Str) (w : World) : Calls Tryz.prog 180 #[S s] w fun e w' => e = .returned (.bool false) ∧ w = w' := by
  have g : (s != s) = false := by simp
  go_enter Tryz.func180, Tryz.ntmps180
  go_wp2_with fail
  go_ret
  exact ⟨rfl, rfl⟩
theorem cmpI_ways (a b : Int) : (a < b ∧ cmpI a b = -1) ∨ (decide (a < b) = false ∧ ((b < a ∧ cmpI a b = 1) ∨ (decide (b < a) = false ∧ cmpI a b = 0))) := by
  unfold cmpI
  by_cases h1 : a < b
  · exact .inl ⟨h1, if_pos h1⟩
  · refine .inr ⟨decide_eq_false h1, ?_⟩
    rw [if_neg h1]
    by_cases h2 : b < a
    · exact .inl ⟨h2, if_pos h2⟩
    · exact .inr ⟨decide_eq_false h2, if_neg h2⟩
theorem cmpS_ways (a b : Str) : (Op.bytesLess a b = true ∧ cmpS a b = -1) ∨ (Op.bytesLess a b = false ∧ (((a == b) = false ∧ cmpS a b = 1) ∨ ((a == b) = true ∧ cmpS a b = 0))) := by
  unfold cmpS
  rw [less_befR]
  cases h1 : bef a b with
  | true => exact .inl ⟨rfl, if_pos rfl⟩
  | false =>
    refine .inr ⟨rfl, ?_⟩
    rw [if_neg (by decide)]
    by_cases he : a = b
    · refine .inr ⟨by simpa using he, ?_⟩
      rw [if_neg (by rw [he, bef_irrefl]; decide)]
    · refine .inl ⟨by simpa using he, ?_⟩
      rcases bef_or he with h2 | h2
      · rw [h1] at h2; cases h2
      · exact if_pos h2
theorem cmpInt_any (a b : Int) (w : World) : Calls Tryz.prog 150 #[.int .i64 a, .int .i64 b] w fun e w' => e = .returned (.int .i64 (cmpI a b)) ∧ w = w' := by
  rcases cmpI_ways a b with ⟨h1, hc⟩ | ⟨h1, ⟨h2, hc⟩ | ⟨h2, hc⟩⟩
  all_goals
    rw [hc]
    clear hc
    go_enter Tryz.func150, Tryz.ntmps150
    go_wp2_with (go_at_call 176; refine (isNaNI_any _ _).mono ?_; rintro e w' ⟨rfl, rfl⟩)
    go_ret
    exact ⟨rfl, rfl⟩
theorem cmpStr_any (a b : Str) (w : World) : Calls Tryz.prog 149 #[S a, S b] w fun e w' => e = .returned (.int .i64 (cmpS a b)) ∧ w = w' := by
  rcases cmpS_ways a b with ⟨h1, hc⟩ | ⟨h1, ⟨h2, hc⟩ | ⟨h2, hc⟩⟩
  all_goals
    rw [hc]
    clear hc
    go_enter Tryz.func149, Tryz.ntmps149
    go_wp2_with (go_at_call 180; refine (isNaNS_any _ _).mono ?_; rintro e w' ⟨rfl, rfl⟩)
    go_ret
    exact ⟨rfl, rfl⟩
def orL : List Int → Int
  | [] => 0
  | x :: r => if x ≠ 0 then x else orL r
theorem orL_at : ∀ {l : List Int} {k : Nat} {x : Int}, (∀ j < k, l[j]? = some 0) → l[k]? = some x → x ≠ 0 → orL l = x
  | [], k, x, _, h, _ => by simp at h
  | y :: r, 0, x, _, h, hx => by
    obtain rfl : y = x := by simpa using h
    exact if_pos hx
  | y :: r, k + 1, x, h0, h, hx => by
    obtain rfl : y = 0 := by simpa using h0 0 (by omega)
    show (if (0 : Int) ≠ 0 then 0 else orL r) = x
    rw [if_neg (by simp)]
    exact orL_at (k := k) (fun j hj => by simpa using h0 (j + 1) (by omega)) (by simpa using h) hx
theorem orL_all : ∀ {l : List Int}, (∀ j < l.length, l[j]? = some 0) → orL l = 0
  | [], _ => rfl
  | y :: r, h0 => by
    obtain rfl : y = 0 := by simpa using h0 0 (by simp)
    show (if (0 : Int) ≠ 0 then 0 else orL r) = 0
    rw [if_neg (by simp)]
    exact orL_all (fun j hj => by simpa using h0 (j + 1) (by simpa using hj))
theorem orI_any (v : Value) (l : List Int) (w : World) (hl : IntsAt w v l) :
    Calls Tryz.prog 128 #[v] w fun e w' => e = .returned (.int .i64 (orL l)) ∧ w = w' := by
  obtain ⟨a, c, b, o, rfl, ha, hc, hcm, hx⟩ := hl
  unfold maxLen at hcm
  go_enter Tryz.func128, Tryz.ntmps128
  go_wp2_with fail
  go_loop [8] (fun i => ∃ k : Nat, k ≤ l.length ∧ i = .int .i64 k ∧ Hid (∀ j < k, l[j]? = some 0)) (fun i => l.length - (intOf i).toNat)
  case atStart => exact ⟨0, by omega, rfl, Lib.hid fun j hj => absurd hj (by omega)⟩
  case round =>
    obtain ⟨k, hk, rfl, hj⟩ := hrel
    by_cases hlt : k < l.length
    case neg =>
      obtain rfl : k = l.length := by omega
      have f : decide ((l.length : Int) < (l.length : Int)) = false := by simp
      have HE := Lib.hid (orL_all hj.out)
      go_wp2_with fail
      go_ret
      exact ⟨by rw [HE.out]; rfl, rfl⟩
    obtain ⟨x, hxk⟩ := get_ex hlt
    have q0 := hx k x hxk 0 _ rfl
    have i1 := idx_at (c := c) 1 Tryz.underlying69 szInt ha k hlt
    simp only [Nat.add_zero, Nat.mul_one] at q0 i1
    have hk1 : (k : Int) < (l.length : Int) := by omega
    have HX := Lib.hid hxk
    clear hxk
    by_cases h0 : x = 0
    · have g : (x != 0) = false := by simp [h0]
      have H0 := Lib.hid h0
      clear h0
      go_wp2_with fail
      go_round
      case rel => exact ⟨k + 1, by omega, by go_num, Lib.hid fun j hj' => by
        rcases Nat.lt_or_ge j k with h | h
        · exact hj.out j h
        · obtain rfl : j = k := by omega
          rw [HX.out, H0.out]⟩
      case measure => simp [intOf]; omega
    · have g : (x != 0) = true := by simpa using h0
      have HE := Lib.hid (orL_at hj.out HX.out h0)
      clear h0
      go_wp2_with fail
      go_ret
      exact ⟨by rw [HE.out]; rfl, rfl⟩
theorem cmpR_or (a b : Rw) : cmpR a b = orL [cmpS a.part b.part, cmpI a.key b.key, cmpI a.val b.val] := by
  unfold cmpR
  show _ = (if cmpS a.part b.part ≠ 0 then cmpS a.part b.part else if cmpI a.key b.key ≠ 0 then cmpI a.key b.key else if cmpI a.val b.val ≠ 0 then cmpI a.val b.val else 0)
  split
  · rfl
  · split
    · rfl
    · split
      · rfl
      · rename_i h; simpa using h
set_option maxHeartbeats 1000000 in
set_option maxRecDepth 20000 in
theorem rowCompareG_any (a b : Rw) (w : World) :
    Calls Tryz.prog 107 #[rowV a, rowV b] w fun e w' => e = .returned (.int .i64 (cmpR a b)) ∧ ∃ q os', w' = Go.Sort.grow (w.drewN q) os' := by
  obtain ⟨w0, hw0⟩ : ∃ w0, w0 = w.alloc (.cells #[S a.part, .int .i64 a.key, .int .i64 a.val] 106) := ⟨_, rfl⟩
  obtain ⟨w1, hw1⟩ : ∃ w1, w1 = w0.alloc (.cells #[S b.part, .int .i64 b.key, .int .i64 b.val] 106) := ⟨_, rfl⟩
  have hb1 : Below w0.heap.size w0 w1 := hw1 ▸ (Below.refl _ _).alloc (Nat.le_refl _) _
  have hsz : w0.heap.size = w.heap.size + 1 := by rw [hw0]; simp
  have KS := Lib.hid (fun W (h : Below w1.heap.size w1 W) => (⟨rowCells (r := a) hw0 (hb1.trans (h.mono hb1.size)), rowCells (r := b) hw1 h⟩ : _ ∧ _))
  rw [hsz] at KS
  have HW : Hid (w1 = (w.alloc (.cells #[S a.part, .int .i64 a.key, .int .i64 a.val] 106)).alloc (.cells #[S b.part, .int .i64 b.key, .int .i64 b.val] 106)) := Lib.hid (by rw [hw1, hw0])
  have hG : ∃ os, w1 = Go.Sort.grow w os := ⟨_, by rw [HW.out, Go.Sort.alloc_eq_grow, Go.Sort.alloc_eq_grow, Go.Sort.grow_grow]⟩
  have HG := Lib.hid hG
  have HOr := Lib.hid (cmpR_or a b)
  clear hw0 hw1 hb1 hsz hG
  obtain ⟨⟨c0, c1, c2⟩, ⟨d0, d1, d2⟩⟩ := KS.out _ (Bdn (Below.refl w1.heap.size w1) 1)
  obtain ⟨x, hx⟩ : ∃ x, cmpS a.part b.part = x := ⟨_, rfl⟩
  obtain ⟨y, hy⟩ : ∃ y, cmpI a.key b.key = y := ⟨_, rfl⟩
  obtain ⟨z, hz⟩ : ∃ z, cmpI a.val b.val = z := ⟨_, rfl⟩
  have h1 := fun W => cmpStr_any a.part b.part W
  have h2 := fun W => cmpInt_any a.key b.key W
  have h3 := fun W => cmpInt_any a.val b.val W
  rw [hx] at h1; rw [hy] at h2; rw [hz] at h3
  rw [hx, hy, hz] at HOr
  have H1 := Lib.hid h1; have H2 := Lib.hid h2; have H3 := Lib.hid h3
  clear h1 h2 h3 hx hy hz
  go_enter Tryz.func107, Tryz.ntmps107
  go_upto_region 1 with fail
  rw [← HW.out]
  clear w0 HW
  go_wp2_with fail
  go_region_held3 (fun w' => w'.cell? ⟨w.heap.size, 0, none⟩ = some (S a.part) ∧ w'.cell? ⟨w.heap.size, 1, none⟩ = some (.int .i64 a.key) ∧ w'.cell? ⟨w.heap.size, 2, none⟩ = some (.int .i64 a.val) ∧ w'.cell? ⟨w.heap.size + 1, 0, none⟩ = some (S b.part) ∧ w'.cell? ⟨w.heap.size + 1, 1, none⟩ = some (.int .i64 b.key) ∧ w'.cell? ⟨w.heap.size + 1, 2, none⟩ = some (.int .i64 b.val)) (first | exact ⟨c0, c1, c2, d0, d1, d2⟩ | (obtain ⟨⟨q0, q1, q2⟩, q3, q4, q5⟩ := KS.out _ (((Below.refl _ _).alloc (Nat.le_refl _) _).drew); exact ⟨q0, q1, q2, q3, q4, q5⟩) | (obtain ⟨⟨q0, q1, q2⟩, q3, q4, q5⟩ := KS.out _ ((Below.refl _ _).drew.alloc (Nat.le_refl _) _); exact ⟨q0, q1, q2, q3, q4, q5⟩)) (first
    | (go_at_call 149; (with_reducible refine (H1.out _).mono ?_); rintro e w' ⟨rfl, rfl⟩)
    | (go_at_call 150; (with_reducible refine (H2.out _).mono ?_); rintro e w' ⟨rfl, rfl⟩)
    | (go_at_call 150; (with_reducible refine (H3.out _).mono ?_); rintro e w' ⟨rfl, rfl⟩)
    | (go_at_call 128; (with_reducible refine (orI_any _ [x, y, z] _ (by first | exact ints_new [x, y, z] _ _ _ 3 _ rfl rfl rfl (by decide) | exact (ints_new [x, y, z] _ _ _ 3 _ rfl rfl rfl (by decide)).below (Bdn (Below.refl _ _) 1))).mono ?_); rintro e w' ⟨rfl, rfl⟩))
  all_goals
    go_wp2_with fail
    go_ret
    refine ⟨by rw [HOr.out]; rfl, ?_⟩
    obtain ⟨os, ho⟩ := HG.out
    refine ⟨1, os ++ #[.cells #[.int .i64 x, .int .i64 y, .int .i64 z] 3], ?_⟩
    rw [Go.Sort.alloc_eq_grow, ho, Go.Sort.grow_grow]
    rfl
theorem rowCompare_any (a b : Rw) (w : World) :
    Calls Tryz.prog 107 #[rowV a, rowV b] w fun e w' => e = .returned (.int .i64 (cmpR a b)) ∧ Below w.heap.size w w' :=
  (rowCompareG_any a b w).mono fun _ _ ⟨h, q, os, hw⟩ => ⟨h, hw ▸ Bgrow w q os⟩
set_option maxRecDepth 20000 in
theorem rowLess_any (a b : Rw) (w : World) :
    Calls Tryz.prog 142 #[rowV a, rowV b] w fun e w' => e = .returned (.bool (lessR a b)) ∧ Below w.heap.size w w' := by
  obtain ⟨w0, hw0⟩ : ∃ w0, w0 = w.alloc (.cells #[S a.part, .int .i64 a.key, .int .i64 a.val] 106) := ⟨_, rfl⟩
  have hb0 : Below w.heap.size w w0 := hw0 ▸ (Below.refl _ _).alloc (Nat.le_refl _) _
  have hb1 : Below w0.heap.size w0 (w0.alloc (.cells #[S b.part, .int .i64 b.key, .int .i64 b.val] 106)) := (Below.refl _ _).alloc (Nat.le_refl _) _
  obtain ⟨c0, c1, c2⟩ := rowCells (r := a) hw0 hb1
  obtain ⟨d0, d1, d2⟩ := rowCells (r := b) (w := w0) rfl (Below.refl _ _)
  have hsz : w0.heap.size = w.heap.size + 1 := by rw [hw0]; simp
  have hb2 := hb0.trans (hb1.mono hb0.size)
  rw [hsz] at d0 d1 d2
  rw [hw0] at c0 c1 c2 d0 d1 d2 hb2
  have HB2 := Lib.hid hb2
  have HL := Lib.hid (cmpR_less a b)
  have hC := fun W => rowCompare_any a b W
  generalize cmpR a b = k at *
  have HC := Lib.hid hC
  clear hb0 hb1 hb2 hsz hw0 w0 hC
  go_enter Tryz.func142, Tryz.ntmps142
  go_wp2_with fail
  refine (HC.out _).mono ?_
  rintro e w3 ⟨rfl, hb3⟩
  go_wp2_with fail
  go_ret
  exact ⟨ret_bool HL.out, HB2.out.trans (hb3.mono HB2.out.size)⟩
end Go.Proofs.YtpfohfihkmjnaaaGreatDoor
namespace Go.Proofs
open Go.Shelf
def Tryz.sortR_ren : Go.Shelf.Ren := ⟨fun | 6 => 147 | 15 => 179 | 14 => 178 | 28 => 203 | 29 => 204 | 20 => 195 | 21 => 196 | 22 => 197 | 23 => 198 | 24 => 199 | 25 => 200 | 26 => 201 | 27 => 202 | 46 => 218 | 47 => 219 | 48 => 220 | 49 => 221 | 50 => 222 | 57 => 238 | n => n, fun | 22 => 44 | 24 => 106 | 25 => 173 | 3 => 3 | 39 => 208 | 0 => 0 | 53 => 241 | 55 => 282 | 4 => 4 | 46 => 275 | 45 => 274 | 50 => 167 | 5 => 5 | 9 => 9 | 66 => 292 | 70 => 296 | 76 => 314 | 77 => 121 | n => n, fun | n => n⟩
theorem Tryz.sortR : Go.Proofs.SlLaysF0.n6 Tryz.prog Tryz.sortR_ren := {
  mixed := by kernel_rfl
  f6 := ⟨Tryz.f147.name, by decide, Tryz.func147.trans (congrArg some (by kernel_rfl))⟩
  f14 := ⟨Tryz.f178.name, by decide, Tryz.func178.trans (congrArg some (by kernel_rfl))⟩
  f15 := Tryz.func179.trans (congrArg some (by kernel_rfl))
  f20 := ⟨Tryz.f195.name, by decide, Tryz.func195.trans (congrArg some (by kernel_rfl))⟩
  f21 := ⟨Tryz.f196.name, by decide, Tryz.func196.trans (congrArg some (by kernel_rfl))⟩
  f22 := ⟨Tryz.f197.name, by decide, Tryz.func197.trans (congrArg some (by kernel_rfl))⟩
  f23 := ⟨Tryz.f198.name, by decide, Tryz.func198.trans (congrArg some (by kernel_rfl))⟩
  f24 := ⟨Tryz.f199.name, by decide, Tryz.func199.trans (congrArg some (by kernel_rfl))⟩
  f25 := ⟨Tryz.f200.name, by decide, Tryz.func200.trans (congrArg some (by kernel_rfl))⟩
  f26 := ⟨Tryz.f201.name, by decide, Tryz.func201.trans (congrArg some (by kernel_rfl))⟩
  f27 := ⟨Tryz.f202.name, by decide, Tryz.func202.trans (congrArg some (by kernel_rfl))⟩
  f28 := Tryz.func203.trans (congrArg some (by kernel_rfl))
  f29 := Tryz.func204.trans (congrArg some (by kernel_rfl))
  f46 := ⟨Tryz.f218.name, by decide, Tryz.func218.trans (congrArg some (by kernel_rfl))⟩
  f47 := Tryz.func219.trans (congrArg some (by kernel_rfl))
  f48 := Tryz.func220.trans (congrArg some (by kernel_rfl))
  f49 := ⟨Tryz.f221.name, by decide, Tryz.func221.trans (congrArg some (by kernel_rfl))⟩
  f50 := ⟨Tryz.f222.name, by decide, Tryz.func222.trans (congrArg some (by kernel_rfl))⟩
  f57 := ⟨Tryz.f238.name, by decide, Tryz.func238.trans (congrArg some (by kernel_rfl))⟩
  t0 := Tryz.underlying0
  a0 := Tryz.isAgg0
  z0 := Tryz.sizeOf0
  v0 := Tryz.zeroValue0
  t3 := Tryz.underlying3
  a3 := Tryz.isAgg3
  z3 := Tryz.sizeOf3
  v3 := Tryz.zeroValue3
  t4 := Tryz.underlying4
  a4 := Tryz.isAgg4
  z4 := Tryz.sizeOf4
  v4 := Tryz.zeroValue4
  t5 := Tryz.underlying5
  a5 := Tryz.isAgg5
  z5 := Tryz.sizeOf5
  v5 := Tryz.zeroValue5
  t9 := Tryz.underlying9
  a9 := Tryz.isAgg9
  z9 := Tryz.sizeOf9
  v9 := Tryz.zeroValue9
  t22 := Tryz.underlying44
  a22 := Tryz.isAgg44
  z22 := Tryz.sizeOf44
  v22 := Tryz.zeroValue44
  t25 := Tryz.underlying173
  a25 := Tryz.isAgg173
  z25 := Tryz.sizeOf173
  v25 := Tryz.zeroValue173
  t39 := Tryz.underlying208
  a39 := Tryz.isAgg208
  z39 := Tryz.sizeOf208
  v39 := Tryz.zeroValue208
  t45 := Tryz.underlying274
  a45 := Tryz.isAgg274
  z45 := Tryz.sizeOf274
  v45 := Tryz.zeroValue274
  t46 := Tryz.underlying275
  a46 := Tryz.isAgg275
  z46 := Tryz.sizeOf275
  v46 := Tryz.zeroValue275
  t50 := Tryz.underlying167
  a50 := Tryz.isAgg167
  z50 := Tryz.sizeOf167
  v50 := Tryz.zeroValue167
  t53 := Tryz.underlying241
  a53 := Tryz.isAgg241
  z53 := Tryz.sizeOf241
  v53 := Tryz.zeroValue241
  t55 := Tryz.underlying282
  a55 := Tryz.isAgg282
  z55 := Tryz.sizeOf282
  v55 := Tryz.zeroValue282
  t66 := Tryz.underlying292
  a66 := Tryz.isAgg292
  z66 := Tryz.sizeOf292
  v66 := Tryz.zeroValue292
  t70 := Tryz.underlying296
  a70 := Tryz.isAgg296
  z70 := Tryz.sizeOf296
  v70 := Tryz.zeroValue296
  t76 := Tryz.underlying314
  a76 := Tryz.isAgg314
  z76 := Tryz.sizeOf314
  v76 := Tryz.zeroValue314
  t77 := Tryz.underlying121
  a77 := Tryz.isAgg121
  z77 := Tryz.sizeOf121
  v77 := Tryz.zeroValue121 }
end Go.Proofs
namespace Go.Proofs.YtpfohfihkmjnaaaGreatDoor
open Go.RowKit
/-- s[:k], s[k:], s[k] of a text. -/
theorem str_to {P : Program} {t : TypeId} (ht : P.underlying t = some .string) (p : Str) (k : Nat) (hk : k ≤ p.length) (_hp : p.length ≤ 100000) : ∀ W, (Instr.slice t (S p) none (some (.int .i64 (k : Int))) none).run P W = .ok (S (p.take k)) W := fun W => by
  have h1 : (k : Int) ≤ (p.length : Int) := by omega
  have h2 : (0 : Int) ≤ (k : Int) := by omega
  simp [Instr.slice, Instr.sliceBounds, run_underlying ht, go_sem, h1, h2, ByteArray.extract_mk]
theorem str_from {P : Program} {t : TypeId} (ht : P.underlying t = some .string) (p : Str) (k : Nat) (hk : k ≤ p.length) (_hp : p.length ≤ 100000) : ∀ W, (Instr.slice t (S p) (some (.int .i64 (k : Int))) none none).run P W = .ok (S (p.drop k)) W := fun W => by
  have h1 : (k : Int) ≤ (p.length : Int) := by omega
  have h2 : (0 : Int) ≤ (k : Int) := by omega
  simp [Instr.slice, Instr.sliceBounds, run_underlying ht, go_sem, h1, h2, extract_from]
theorem str_at {P : Program} {t : TypeId} (ht : P.underlying t = some .string) (p : Str) (k : Nat) (c : UInt8) (hk : p[k]? = some c) : ∀ W, (Instr.index t (S p) (.int .i64 (k : Int))).run P W = .ok (.int .u8 c.toNat) W := fun W => by
  obtain ⟨h1, h2⟩ := List.getElem?_eq_some_iff.1 hk
  have h4 : (ByteArray.mk p.toArray)[k]? = some c := by
    rw [getElem?_pos _ _ (by simpa [ByteArray.size] using h1)]; exact congrArg some h2
  simp [Instr.index, run_underlying ht, asIntOf, h4]
theorem isFar_any (n : Int) (w : World) :
    Calls Tryz.prog 77 #[.int .i64 n] w fun e w' => e = .returned (.bool (decide (farN n))) ∧ w = w' := by
  by_cases h1 : n < -1073741824
  · have g : decide (farN n) = true := decide_eq_true (.inl h1)
    rw [g]
    clear g
    go_enter Tryz.func77, Tryz.ntmps77
    go_wp2_with fail
    go_ret
    exact ⟨rfl, rfl⟩
  · have g1 : decide (n < -1073741824) = false := by simpa using h1
    by_cases h2 : 1073741824 < n
    · have g : decide (farN n) = true := decide_eq_true (.inr h2)
      rw [g]
      clear g h1
      go_enter Tryz.func77, Tryz.ntmps77
      go_wp2_with fail
      go_ret
      exact ⟨rfl, rfl⟩
    · have g : decide (farN n) = false := decide_eq_false (fun h => h.elim h1 h2)
      have g2 : decide (1073741824 < n) = false := by simpa using h2
      rw [g]
      clear g h1 h2
      go_enter Tryz.func77, Tryz.ntmps77
      go_wp2_with fail
      go_ret
      exact ⟨rfl, rfl⟩
def signB (b : UInt8) : Bool := (decide (97 ≤ b.toNat) && decide (b.toNat ≤ 122)) || (decide (48 ≤ b.toNat) && decide (b.toNat ≤ 57))
theorem signB_eq (b : UInt8) : partSigns.contains b = signB b := by
  have h : ∀ k : UInt8, (b == k) = (b.toNat == k.toNat) := fun k => by
    rw [Bool.eq_iff_iff]; simp [← UInt8.toNat_inj]
  rw [Bool.eq_iff_iff]
  simp only [partSigns, List.contains_cons, List.contains_nil, Bool.or_false, h, signB]
  simp
  omega
/-- Is a text a name, of so many signs at most? -/
def nameB (s : Str) (m : Int) : Bool := s.all signB && (decide (1 ≤ s.length) && decide ((s.length : Int) ≤ m))
theorem nameB_part {k s : Str} (hk : k ≠ kGone) : partOk k s = nameB s 12 := by
  unfold partOk nameB
  rw [if_neg hk]
  have e : (s.all fun b => partSigns.contains b) = s.all signB := by congr 1; funext b; exact signB_eq b
  rw [e, Bool.eq_iff_iff]
  have hn : s ≠ [] ↔ 1 ≤ s.length := by cases s <;> simp
  simp only [Bool.and_eq_true, decide_eq_true_eq, hn]
  exact ⟨fun ⟨h1, h2, h3⟩ => ⟨h3, h1, by omega⟩, fun ⟨h1, h2, h3⟩ => ⟨h2, by omega, h1⟩⟩
theorem all_take {s : Str} {k : Nat} {x : UInt8} (h : s[k]? = some x) : (s.take (k + 1)).all signB = ((s.take k).all signB && signB x) := by
  rw [List.take_add_one, h]; simp
theorem sign_ways (b : UInt8) : (signB b = true ∧ (((97 : Int) ≤ b.toNat ∧ (b.toNat : Int) ≤ 122) ∨ (decide ((97 : Int) ≤ b.toNat) = false ∧ (48 : Int) ≤ b.toNat ∧ (b.toNat : Int) ≤ 57))) ∨
    (signB b = false ∧ (((97 : Int) ≤ b.toNat ∧ decide ((b.toNat : Int) ≤ 122) = false ∧ (48 : Int) ≤ b.toNat ∧ decide ((b.toNat : Int) ≤ 57) = false) ∨ (decide ((97 : Int) ≤ b.toNat) = false ∧ (48 : Int) ≤ b.toNat ∧ decide ((b.toNat : Int) ≤ 57) = false) ∨ (decide ((97 : Int) ≤ b.toNat) = false ∧ decide ((48 : Int) ≤ b.toNat) = false))) := by
  unfold signB
  simp
  omega
set_option maxHeartbeats 1000000 in
set_option maxRecDepth 20000 in
theorem isName_any (s : Str) (m : Int) (w : World) (hs : s.length ≤ 100000) :
    Calls Tryz.prog 111 #[S s, .int .i64 m] w fun e w' => e = .returned (.bool (nameB s m)) ∧ w = w' := by
  go_enter Tryz.func111, Tryz.ntmps111
  go_wp2_with fail
  go_loop [5] (fun i => ∃ k : Nat, k ≤ s.length ∧ i = .int .i64 k ∧ Hid ((s.take k).all signB = true)) (fun i => s.length - (intOf i).toNat)
  case atStart => exact ⟨0, by omega, rfl, rfl⟩
  case round =>
    obtain ⟨k, hk, rfl, hj⟩ := hrel
    by_cases hlt : k < s.length
    case neg =>
      obtain rfl : k = s.length := by omega
      have hall := hj.out
      rw [List.take_length] at hall
      have HN : Hid (nameB s m = (decide (1 ≤ s.length) && decide ((s.length : Int) ≤ m))) := Lib.hid (by unfold nameB; rw [hall, Bool.true_and])
      clear hall hj
      by_cases h1 : 1 ≤ s.length
      · have g1 : (1 : Int) ≤ (s.length : Int) := by omega
        by_cases h2 : (s.length : Int) ≤ m
        · go_wp2_with fail
          go_ret
          exact ⟨by rw [HN.out, decide_eq_true h1, decide_eq_true h2]; rfl, rfl⟩
        · have g2 : decide ((s.length : Int) ≤ m) = false := by simpa using h2
          clear h2
          go_wp2_with fail
          go_ret
          exact ⟨by rw [HN.out, decide_eq_true h1, g2]; rfl, rfl⟩
      · have g1 : decide ((1 : Int) ≤ (s.length : Int)) = false := by simp; omega
        have g1' : decide (1 ≤ s.length) = false := decide_eq_false h1
        clear h1
        go_wp2_with fail
        go_ret
        exact ⟨by rw [HN.out, g1']; rfl, rfl⟩
    have hlt' : (k : Int) < s.length := by omega
    obtain ⟨x, hx⟩ := get_ex hlt
    have hat := str_at (P := Tryz.prog) Tryz.underlying9 s k x hx
    have hst := all_take hx
    have hmem := List.mem_of_getElem? hx
    have HSt := Lib.hid hst; have HMem := Lib.hid hmem
    clear hx hst hmem
    rcases sign_ways x with ⟨hb, hw⟩ | ⟨hb, hw⟩
    · have Hb := Lib.hid hb; clear hb
      rcases hw with ⟨g1, g2⟩ | ⟨g1, g2, g3⟩
      · have g3 : (0 : Int) ≤ x.toNat := by omega
        by_cases g4 : (48 : Int) ≤ x.toNat
        · by_cases g5 : (x.toNat : Int) ≤ 57
          · omega
          · have g5' : decide ((x.toNat : Int) ≤ 57) = false := by simpa using g5
            clear g5
            go_wp2_with fail
            refine ⟨⟨k + 1, by omega, by go_num, Lib.hid (by rw [HSt.out, hj.out, Hb.out]; rfl)⟩, ?_⟩
            simp [intOf]; omega
        · omega
      · go_wp2_with fail
        refine ⟨⟨k + 1, by omega, by go_num, Lib.hid (by rw [HSt.out, hj.out, Hb.out]; rfl)⟩, ?_⟩
        simp [intOf]; omega
    · have HN : Hid (nameB s m = false) := Lib.hid (by
        unfold nameB
        rw [show s.all signB = false from ?_, Bool.false_and]
        rw [← Bool.not_eq_true]
        intro h
        rw [List.all_eq_true] at h
        have := h x HMem.out
        rw [hb] at this; cases this)
      clear hb
      rcases hw with ⟨g1, g2, g3, g4⟩ | ⟨g1, g2, g3⟩ | ⟨g1, g2⟩
      all_goals
        go_wp2_with fail
        go_ret
        exact ⟨by rw [HN.out]; rfl, rfl⟩
theorem path_of_parts {k q : Str} (hk : k = kData ∨ k = kGone) : pathF (k ++ 47 :: q) = (numOf q).bind fun n => if n < 1 ∨ 1073741824 < n then none else some (k, n) := by
  have hc : Lib.cut (k ++ 47 :: q) [47] = (k, q, true) := cut_app1 (c := 47) (p := k) (q := q) (by rcases hk with rfl | rfl <;> decide)
  unfold pathF
  rw [hc, if_pos ⟨rfl, hk⟩]
theorem itoa_pos (n : Int) (_h : 0 ≤ n) : 1 ≤ (Lib.itoa n).length := by
  rcases hd : Lib.itoa n with _ | ⟨c, r⟩
  · have h1 := atoi_itoa n
    rw [hd] at h1; cases h1
  · simp
theorem path_long {p : Str} (h : (pathF p).isSome = true) : ∃ k c q, p = k ++ c :: q ∧ (k = kData ∨ k = kGone) ∧ c = 47 ∧ 1 ≤ q.length := by
  obtain ⟨⟨k, n⟩, hp⟩ := Option.isSome_iff_exists.1 h
  obtain ⟨h1, h2, h3, h4⟩ := pathF_form hp
  exact ⟨k, 47, Lib.itoa n, h1, h2, rfl, itoa_pos n (by omega)⟩
theorem path_len4 {k : Str} (h : k = kData ∨ k = kGone) : k.length = 4 := by rcases h with rfl | rfl <;> rfl
/-- Where a path may fail, and what it is. -/
theorem pathOf_ways (p : Str) : (pathF p = none ∧ (p.length < 6 ∨ (6 ≤ p.length ∧ ∃ k c q, p.take 4 = k ∧ p[4]? = some c ∧ p.drop 5 = q ∧
      ((k ≠ kData ∧ k ≠ kGone) ∨ ((k = kData ∨ k = kGone) ∧ (c ≠ 47 ∨ (c = 47 ∧ (numRef q = none ∨ ∃ n, numRef q = some n ∧ (n < 1 ∨ (1 ≤ n ∧ 1073741824 < n))))))))) ) ∨
    (6 ≤ p.length ∧ ∃ k q n, p.take 4 = k ∧ p[4]? = some 47 ∧ p.drop 5 = q ∧ (k = kData ∨ k = kGone) ∧ numRef q = some n ∧ 1 ≤ n ∧ n ≤ 1073741824 ∧ pathF p = some (k, n)) := by
  by_cases h6 : p.length < 6
  · refine .inl ⟨?_, .inl h6⟩
    rw [← Option.not_isSome_iff_eq_none]
    intro h
    obtain ⟨k, c, q, rfl, hk, rfl, hq⟩ := path_long h
    have := path_len4 hk
    simp at h6
    omega
  · have h6' : 6 ≤ p.length := by omega
    obtain ⟨c, hc⟩ : ∃ c, p[4]? = some c := ⟨p[4], List.getElem?_eq_getElem (by omega)⟩
    have hp : p = p.take 4 ++ c :: p.drop 5 := by
      have h1 : p.drop 4 = c :: p.drop 5 := by
        obtain ⟨h2, h3⟩ := List.getElem?_eq_some_iff.1 hc
        rw [← h3]; exact List.drop_eq_getElem_cons h2
      rw [← h1, List.take_append_drop]
    have hk4 : (p.take 4).length = 4 := by rw [List.length_take]; omega
    generalize hk : p.take 4 = k at *
    generalize hq : p.drop 5 = q at *
    have hnone : ∀ (x : Str × Int), pathF p = some x → (k = kData ∨ k = kGone) ∧ c = 47 := fun x hx => by
      obtain ⟨k', c', q', h1, h2, h3, _⟩ := path_long (p := p) (by rw [hx]; rfl)
      rw [h1] at hp
      have h4 := path_len4 h2
      have h5 := List.append_inj hp (by omega)
      obtain ⟨rfl, h6⟩ := h5
      simp at h6
      exact ⟨h2, h6.1 ▸ h3⟩
    have no : ¬ ((k = kData ∨ k = kGone) ∧ c = 47) → pathF p = none := fun h => by
      cases hpf : pathF p with
      | none => rfl
      | some x => exact absurd (hnone x hpf) h
    by_cases h1 : k = kData ∨ k = kGone
    · by_cases h2 : c = 47
      · subst h2
        have hpp := path_of_parts (q := q) h1
        rw [← hp] at hpp
        cases hn : numRef q with
        | none => exact .inl ⟨by rw [hpp, ← numRef_eq, hn]; rfl, .inr ⟨h6', k, 47, q, rfl, hc, rfl, .inr ⟨h1, .inr ⟨rfl, .inl hn⟩⟩⟩⟩
        | some n =>
          rw [← numRef_eq, hn, Option.bind_some] at hpp
          by_cases h3 : n < 1
          · exact .inl ⟨by rw [hpp, if_pos (.inl h3)], .inr ⟨h6', k, 47, q, rfl, hc, rfl, .inr ⟨h1, .inr ⟨rfl, .inr ⟨n, hn, .inl h3⟩⟩⟩⟩⟩
          · by_cases h4 : 1073741824 < n
            · exact .inl ⟨by rw [hpp, if_pos (.inr h4)], .inr ⟨h6', k, 47, q, rfl, hc, rfl, .inr ⟨h1, .inr ⟨rfl, .inr ⟨n, hn, .inr ⟨by omega, h4⟩⟩⟩⟩⟩⟩
            · exact .inr ⟨h6', k, q, n, rfl, hc, rfl, h1, hn, by omega, by omega, by rw [hpp, if_neg (by omega)]⟩
      · exact .inl ⟨no fun h => h2 h.2, .inr ⟨h6', k, c, q, rfl, hc, rfl, .inr ⟨h1, .inl h2⟩⟩⟩
    · exact .inl ⟨no fun h => h1 h.1, .inr ⟨h6', k, c, q, rfl, hc, rfl, .inl ⟨fun h => h1 (.inl h), fun h => h1 (.inr h)⟩⟩⟩
def pathE (p : Str) : Int := if (pathF p).isSome then 0 else 5
set_option maxHeartbeats 1000000 in
set_option maxRecDepth 20000 in
theorem pathOf_any (p : Str) (w : World) (hs : p.length ≤ 100000) :
    Calls Tryz.prog 79 #[S p] w fun e w' => e = .returned (.tuple #[S (kindF p), .int .i64 (numF p), .int .i64 (pathE p)]) ∧ w = w' := by
  have hK : kindF p = ((pathF p).getD ([], 0)).1 := rfl
  have hN : numF p = ((pathF p).getD ([], 0)).2 := rfl
  have hE : pathE p = if (pathF p).isSome then 0 else 5 := rfl
  rcases pathOf_ways p with ⟨hp, hw⟩ | ⟨h6, k, q, n, hk, hc, hq, hk2, hn, h1, h2, hp⟩
  · rw [hp] at hK hN hE
    rw [hK, hN, hE]
    clear hK hN hE hp
    rcases hw with h6 | ⟨h6, k, c, q, hk, hc, hq, hw⟩
    · have g6 : (p.length : Int) < 6 := by omega
      go_enter Tryz.func79, Tryz.ntmps79
      go_wp2_with fail
      go_ret3
      exact ⟨rfl, rfl⟩
    have g6 : decide ((p.length : Int) < 6) = false := by simp; omega
    have s4 := str_to (P := Tryz.prog) Tryz.underlying9 p 4 (by omega) hs
    have s5 := str_from (P := Tryz.prog) Tryz.underlying9 p 5 (by omega) hs
    have a4 := str_at (P := Tryz.prog) Tryz.underlying9 p 4 c hc
    rw [hk] at s4; rw [hq] at s5
    have e4 : ((4 : Nat) : Int) = 4 := rfl
    have e5 : ((5 : Nat) : Int) = 5 := rfl
    rw [e4] at s4 a4; rw [e5] at s5
    have hql : q.length ≤ 100000 := by rw [← hq, List.length_drop]; omega
    have hno := numberOf_any q w hql
    have HNo := Lib.hid hno
    clear hk hc hq e4 e5 hno h6
    rcases hw with ⟨g1, g2⟩ | ⟨hk2, g3 | ⟨rfl, hn | ⟨n, hn, h1 | ⟨h1, h2⟩⟩⟩⟩
    · have g1' : (k == kData) = false := by simpa using g1
      have g2' : (k == kGone) = false := by simpa using g2
      clear g1 g2
      generalize numRef q = nr at *
      go_enter Tryz.func79, Tryz.ntmps79
      go_wp2_with (go_at_call 119; refine HNo.out.mono ?_; rintro e w' ⟨rfl, rfl⟩)
      go_ret3
      exact ⟨rfl, rfl⟩
    · have g3' : ((c.toNat : Int) != 47) = true := by
        simp only [bne_iff_ne, ne_eq]
        intro h
        exact g3 (UInt8.toNat_inj.1 (by have : c.toNat = 47 := by omega
                                        rw [this]; rfl))
      clear g3
      generalize numRef q = nr at *
      rcases hk2 with rfl | rfl
      all_goals
        go_enter Tryz.func79, Tryz.ntmps79
        go_wp2_with (go_at_call 119; refine HNo.out.mono ?_; rintro e w' ⟨rfl, rfl⟩)
        go_ret3
        exact ⟨rfl, rfl⟩
    · rw [hn] at HNo
      have e47 : (((47 : UInt8).toNat : Int)) = 47 := rfl
      rw [e47] at a4
      clear hn e47
      rcases hk2 with rfl | rfl
      all_goals
        go_enter Tryz.func79, Tryz.ntmps79
        go_wp2_with (go_at_call 119; refine HNo.out.mono ?_; rintro e w' ⟨rfl, rfl⟩)
        go_ret3
        exact ⟨rfl, rfl⟩
    · rw [hn] at HNo
      have e47 : (((47 : UInt8).toNat : Int)) = 47 := rfl
      rw [e47] at a4
      clear hn e47
      rcases hk2 with rfl | rfl
      all_goals
        go_enter Tryz.func79, Tryz.ntmps79
        go_wp2_with (go_at_call 119; refine HNo.out.mono ?_; rintro e w' ⟨rfl, rfl⟩; simp only [Option.getD_some, Option.isSome_some])
        go_ret3
        exact ⟨rfl, rfl⟩
    · rw [hn] at HNo
      have e47 : (((47 : UInt8).toNat : Int)) = 47 := rfl
      rw [e47] at a4
      have h1' : decide (n < 1) = false := by simp; omega
      clear hn e47 h1
      rcases hk2 with rfl | rfl
      all_goals
        go_enter Tryz.func79, Tryz.ntmps79
        go_wp2_with (go_at_call 119; refine HNo.out.mono ?_; rintro e w' ⟨rfl, rfl⟩; simp only [Option.getD_some, Option.isSome_some])
        go_ret3
        exact ⟨rfl, rfl⟩
  · rw [hp] at hK hN hE
    rw [hK, hN, hE]
    clear hK hN hE hp
    have g6 : decide ((p.length : Int) < 6) = false := by simp; omega
    have s4 := str_to (P := Tryz.prog) Tryz.underlying9 p 4 (by omega) hs
    have s5 := str_from (P := Tryz.prog) Tryz.underlying9 p 5 (by omega) hs
    have a4 := str_at (P := Tryz.prog) Tryz.underlying9 p 4 47 hc
    rw [hk] at s4; rw [hq] at s5
    have e4 : ((4 : Nat) : Int) = 4 := rfl
    have e5 : ((5 : Nat) : Int) = 5 := rfl
    have e47 : (((47 : UInt8).toNat : Int)) = 47 := rfl
    rw [e4] at s4 a4; rw [e5] at s5; rw [e47] at a4
    have hql : q.length ≤ 100000 := by rw [← hq, List.length_drop]; omega
    have hno := numberOf_any q w hql
    rw [hn] at hno
    have HNo := Lib.hid hno
    have h1' : decide (n < 1) = false := by simp; omega
    have h2' : decide (1073741824 < n) = false := by simp; omega
    clear hk hc hq e4 e5 e47 hno h6 hn h1 h2
    rcases hk2 with rfl | rfl
    all_goals
      go_enter Tryz.func79, Tryz.ntmps79
      go_wp2_with (go_at_call 119; refine HNo.out.mono ?_; rintro e w' ⟨rfl, rfl⟩; simp only [Option.getD_some, Option.isSome_some])
      go_ret3
      exact ⟨rfl, rfl⟩
end Go.Proofs.YtpfohfihkmjnaaaGreatDoor
namespace Go.Proofs.YtpfohfihkmjnaaaGreatDoor
open Go.RowKit
/-- An error as the document's answer holds it. -/
def faultV (c p : Int) : Value := .agg #[.int .i64 c, .int .i64 p]
theorem refBare_any (c : Int) (w : World) : Calls Tryz.prog 64 #[.int .i64 c] w fun e w' => e = .returned (faultV c (-1)) ∧ Below w.heap.size w w' := by
  go_enter Tryz.func64, Tryz.ntmps64
  go_wp2
  refine bodyPost_ret (results_cell_row rfl _ _ w.heap.size 58 #[.int .i64 c, .int .i64 (-1)] (0, 0) _ rfl (heap_alloc_new _ _) Tryz.underlying58 rfl (by kernel_rfl)) rfl ?_
  exact ⟨rfl, (Below.refl _ _).alloc (Nat.le_refl _) _⟩
theorem refFine_any (w : World) : Calls Tryz.prog 65 #[] w fun e w' => e = .returned (faultV 0 (-1)) ∧ Below w.heap.size w w' := by
  go_enter Tryz.func65, Tryz.ntmps65
  go_wp2
  refine bodyPost_ret (results_cell_row rfl _ _ w.heap.size 58 #[.int .i64 0, .int .i64 (-1)] (0, 0) _ rfl (heap_alloc_new _ _) Tryz.underlying58 rfl (by kernel_rfl)) rfl ?_
  exact ⟨rfl, (Below.refl _ _).alloc (Nat.le_refl _) _⟩
end Go.Proofs.YtpfohfihkmjnaaaGreatDoor
namespace Go.Proofs.YtpfohfihkmjnaaaGreatDoor
open Go.RowKit
def faultOf (er : Er) : Value := faultV er.code er.place
theorem results_tmp_cell {P : Program} {fn : Func} {u p : Tmp} {ty : TypeId} (h : fn.results = #[.tmp u, .cell p ty]) (tmps : Array Value) (w : World) (g : Nat) (t : TypeId) (cs : Array Value) (fr : Nat × Nat) (d : TypeDesc)
    (hp : tmps.getD p undef = .pointer (some ⟨g, 0, none⟩)) (hg : w.heap[g]? = some (.cells cs t fr))
    (hu : P.underlying ty = some d) (hd : (match d with | .struct _ | .array _ _ => true | _ => false) = true) (hi : (P.info? ty).map (·.size) = some cs.size) {v : Value} (hv : tmps.getD u undef = v) :
    (results fn tmps).run P w = .ok (.tuple #[v, .agg cs]) w := by
  have hp' : tmps[p]?.getD undef = .pointer (some ⟨g, 0, none⟩) := by simpa using hp
  have hv' : tmps[u]?.getD undef = v := by simpa using hv
  simp [results, h, hp', hv', asAddr, run_loadVar_row w g t ty cs fr d hg hu hd hi]
theorem set_two {w : World} {g : Nat} {a b : Value} {t : TypeId} (hg : w.heap[g]? = some (.cells #[a, b] t (0, 0))) (x y : Value) : ((w.setCell ⟨g, 0, none⟩ x).setCell ⟨g, 1, none⟩ y).heap[g]? = some (.cells #[x, y] t (0, 0)) := by
  have h1 := heap_setCell_same w g 0 #[a, b] t x hg
  have h2 := heap_setCell_same _ g 1 _ t y h1
  simpa using h2
end Go.Proofs.YtpfohfihkmjnaaaGreatDoor
namespace Go.Proofs.YtpfohfihkmjnaaaGreatDoor
open Go.RowKit
/-- A file's fault, by its ways. -/
theorem fileErr_ways (f : Fl) : (pathF f.path = none ∧ checkF f = 5) ∨ (∃ n, pathF f.path = some (kGone, n) ∧ ((f.part ≠ [45] ∧ checkF f = 4) ∨ (f.part = [45] ∧ checkF f = if boundF f then 2 else 0))) ∨
    (∃ n, pathF f.path = some (kData, n) ∧ ((nameB f.part 12 = false ∧ checkF f = 4) ∨ (nameB f.part 12 = true ∧ checkF f = if boundF f then 2 else 0))) := by
  cases hp : pathF f.path with
  | none => exact .inl ⟨rfl, by unfold checkF; rw [if_pos hp]⟩
  | some kn =>
    obtain ⟨k, n⟩ := kn
    have hkf : kindF f.path = k := by unfold kindF; rw [hp]; rfl
    have hc : checkF f = if partOk k f.part = false then 4 else if boundF f then 2 else 0 := by
      unfold checkF; rw [hp, hkf, if_neg (by simp)]
    rcases (pathF_some hp).1 with rfl | rfl
    · refine .inr (.inr ⟨n, rfl, ?_⟩)
      rw [nameB_part (by decide)] at hc
      cases hb : nameB f.part 12 with
      | false => exact .inl ⟨rfl, by rw [hc, hb, if_pos rfl]⟩
      | true => exact .inr ⟨rfl, by rw [hc, hb, if_neg (by simp)]⟩
    · refine .inr (.inl ⟨n, rfl, ?_⟩)
      by_cases h : f.part = [45]
      · exact .inr ⟨h, by rw [hc, if_neg (by unfold partOk; rw [if_pos rfl, h]; decide)]⟩
      · exact .inl ⟨h, by rw [hc, if_pos (by unfold partOk; rw [if_pos rfl]; simpa using h)]⟩
theorem bound_ways (f : Fl) : (boundF f ∧ (f.n < 1 ∨ (decide (f.n < 1) = false ∧ (40 < f.n ∨ (decide (40 < f.n) = false ∧ (decide (farN f.lo) = true ∨ (decide (farN f.lo) = false ∧ (decide (farN f.hi) = true ∨ (decide (farN f.hi) = false ∧ (f.hi < f.lo ∨ (decide (f.hi < f.lo) = false ∧ (f.seq < 1 ∨ (decide (f.seq < 1) = false ∧ 1073741824 < f.seq))))))))))))) ∨
    (¬ boundF f ∧ decide (f.n < 1) = false ∧ decide (40 < f.n) = false ∧ decide (farN f.lo) = false ∧ decide (farN f.hi) = false ∧ decide (f.hi < f.lo) = false ∧ decide (f.seq < 1) = false ∧ decide (1073741824 < f.seq) = false) := by
  simp only [decide_eq_true_eq, decide_eq_false_iff_not]
  unfold boundF
  by_cases h1 : farN f.lo <;> by_cases h2 : farN f.hi <;> simp only [h1, h2, true_or, or_true, false_or, or_false, true_and, and_true, false_and, and_false, not_true_eq_false, not_false_eq_true] <;> omega
set_option maxHeartbeats 4000000 in
set_option maxRecDepth 20000 in
theorem fileError_any (f : Fl) (w : World) (hs : midF f) :
    Calls Tryz.prog 67 #[fileV f] w fun e w' => e = .returned (.int .i64 (checkF f : Nat)) ∧ Below w.heap.size w w' := by
  have hb0 : Below w.heap.size w (w.alloc (.cells #[S f.path, S f.part, .int .i64 f.n, .int .i64 f.lo, .int .i64 f.hi, .int .i64 f.seq] 43)) := (Below.refl _ _).alloc (Nat.le_refl _) _
  obtain ⟨c0, c1, c2, c3, c4, c5⟩ := fileCells (f := f) (w := w) rfl (Below.refl _ (w.alloc (.cells #[S f.path, S f.part, .int .i64 f.n, .int .i64 f.lo, .int .i64 f.hi, .int .i64 f.seq] 43)))
  have hP := fun W => pathOf_any f.path W hs.1
  have hNm := fun W => isName_any f.part 12 W hs.2
  have HNm := Lib.hid hNm
  clear hNm
  rcases fileErr_ways f with ⟨hp, hc⟩ | ⟨n, hp, hw⟩ | ⟨n, hp, hw⟩
  · rw [show pathE f.path = 5 by unfold pathE; rw [hp]; rfl, show kindF f.path = [] by unfold kindF; rw [hp]; rfl, show numF f.path = 0 by unfold numF; rw [hp]; rfl] at hP
    rw [hc]
    have HP := Lib.hid hP
    clear hP hc hp
    go_enter Tryz.func67, Tryz.ntmps67
    go_wp2_with (go_at_call 79; refine (HP.out _).mono ?_; rintro e w' ⟨rfl, rfl⟩)
    go_ret
    exact ⟨rfl, hb0⟩
  · rw [show pathE f.path = 0 by unfold pathE; rw [hp]; rfl, show kindF f.path = kGone by unfold kindF; rw [hp]; rfl] at hP
    generalize numF f.path = nf at *
    have HP := Lib.hid hP
    clear hP hp
    rcases hw with ⟨h1, hc⟩ | ⟨h1, hc⟩
    · have g1 : (f.part == [45]) = false := by simpa using h1
      rw [hc]
      clear h1 hc
      go_enter Tryz.func67, Tryz.ntmps67
      go_wp2_with (first | (go_at_call 79; refine (HP.out _).mono ?_; rintro e w' ⟨rfl, rfl⟩) | (go_at_call 111; refine (HNm.out _).mono ?_; rintro e w' ⟨rfl, rfl⟩))
      go_ret
      exact ⟨rfl, hb0⟩
    · have g1 : (f.part == [45]) = true := by simpa using h1
      clear h1
      generalize nameB f.part 12 = nb at *
      rcases bound_ways f with ⟨hb, hw⟩ | ⟨hb, b1, b2, b3, b4, b5, b6, b7⟩
      · rw [hc, if_pos hb]
        clear hc hb
        rcases hw with b1 | ⟨b1, b2 | ⟨b2, b3 | ⟨b3, b4 | ⟨b4, b5 | ⟨b5, b6 | ⟨b6, b7⟩⟩⟩⟩⟩⟩
        all_goals
          go_enter Tryz.func67, Tryz.ntmps67
          go_wp2_with (first | (go_at_call 79; refine (HP.out _).mono ?_; rintro e w' ⟨rfl, rfl⟩) | (go_at_call 111; refine (HNm.out _).mono ?_; rintro e w' ⟨rfl, rfl⟩) | (go_at_call 77; refine (isFar_any _ _).mono ?_; rintro e w' ⟨rfl, rfl⟩))
          all_goals
            go_ret
            exact ⟨rfl, hb0⟩
      · rw [hc, if_neg hb]
        clear hc hb
        go_enter Tryz.func67, Tryz.ntmps67
        go_wp2_with (first | (go_at_call 79; refine (HP.out _).mono ?_; rintro e w' ⟨rfl, rfl⟩) | (go_at_call 111; refine (HNm.out _).mono ?_; rintro e w' ⟨rfl, rfl⟩) | (go_at_call 77; refine (isFar_any _ _).mono ?_; rintro e w' ⟨rfl, rfl⟩))
        go_ret
        exact ⟨rfl, hb0⟩
  · rw [show pathE f.path = 0 by unfold pathE; rw [hp]; rfl, show kindF f.path = kData by unfold kindF; rw [hp]; rfl] at hP
    generalize numF f.path = nf at *
    have HP := Lib.hid hP
    clear hP hp
    rcases hw with ⟨h1, hc⟩ | ⟨h1, hc⟩
    · rw [h1] at HNm
      rw [hc]
      clear h1 hc
      go_enter Tryz.func67, Tryz.ntmps67
      go_wp2_with (first | (go_at_call 79; refine (HP.out _).mono ?_; rintro e w' ⟨rfl, rfl⟩) | (go_at_call 111; refine (HNm.out _).mono ?_; rintro e w' ⟨rfl, rfl⟩))
      go_ret
      exact ⟨rfl, hb0⟩
    · rw [h1] at HNm
      clear h1
      rcases bound_ways f with ⟨hb, hw⟩ | ⟨hb, b1, b2, b3, b4, b5, b6, b7⟩
      · rw [hc, if_pos hb]
        clear hc hb
        rcases hw with b1 | ⟨b1, b2 | ⟨b2, b3 | ⟨b3, b4 | ⟨b4, b5 | ⟨b5, b6 | ⟨b6, b7⟩⟩⟩⟩⟩⟩
        all_goals
          go_enter Tryz.func67, Tryz.ntmps67
          go_wp2_with (first | (go_at_call 79; refine (HP.out _).mono ?_; rintro e w' ⟨rfl, rfl⟩) | (go_at_call 111; refine (HNm.out _).mono ?_; rintro e w' ⟨rfl, rfl⟩) | (go_at_call 77; refine (isFar_any _ _).mono ?_; rintro e w' ⟨rfl, rfl⟩))
          all_goals
            go_ret
            exact ⟨rfl, hb0⟩
      · rw [hc, if_neg hb]
        clear hc hb
        go_enter Tryz.func67, Tryz.ntmps67
        go_wp2_with (first | (go_at_call 79; refine (HP.out _).mono ?_; rintro e w' ⟨rfl, rfl⟩) | (go_at_call 111; refine (HNm.out _).mono ?_; rintro e w' ⟨rfl, rfl⟩) | (go_at_call 77; refine (isFar_any _ _).mono ?_; rintro e w' ⟨rfl, rfl⟩))
        go_ret
        exact ⟨rfl, hb0⟩
set_option maxHeartbeats 1000000 in
set_option maxRecDepth 20000 in
theorem isBehind_any (a b : Str) (w : World) (ha : a.length ≤ 100000) (hb : b.length ≤ 100000) :
    Calls Tryz.prog 68 #[S a, S b] w fun e w' => e = .returned (.bool (decide (0 < cmpP a b))) ∧ w = w' := by
  have hA := fun W => pathOf_any a W ha
  have hB := fun W => pathOf_any b W hb
  have hc : decide (0 < cmpP a b) = decide (keyP b < keyP a) := by
    have := @cmpP_le a b
    rw [Bool.eq_iff_iff]; simp; omega
  rw [hc]
  clear hc
  generalize pathE a = ea at *
  generalize pathE b = eb at *
  rcases path_ways a with ⟨-, a1, a2, a3⟩ | ⟨n, an1, an2, a1, a2, a3⟩ | ⟨n, an1, an2, a1, a2, a3⟩ <;> rcases path_ways b with ⟨-, b1, b2, b3⟩ | ⟨m, bn1, bn2, b1, b2, b3⟩ | ⟨m, bn1, bn2, b1, b2, b3⟩
  all_goals
    rw [a1, a2] at hA
    rw [b1, b2] at hB
    rw [a3, b3]
    have HA := Lib.hid hA; have HB := Lib.hid hB
    clear a1 a2 a3 b1 b2 b3 hA hB
    go_enter Tryz.func68, Tryz.ntmps68
    go_wp2_with fail
    refine (HA.out _).mono ?_
    rintro e w' ⟨rfl, rfl⟩
    go_wp2_with fail
    refine (HB.out _).mono ?_
    rintro e w' ⟨rfl, rfl⟩
    go_wp2_with fail
    go_ret
    refine ⟨ret_bool ?_, rfl⟩
    first
      | (exact (decide_eq_false (by omega)).symm)
      | (exact (decide_eq_true (by omega)).symm)
      | (rw [Bool.eq_iff_iff, decide_eq_true_eq, decide_eq_true_eq]; omega)
end Go.Proofs.YtpfohfihkmjnaaaGreatDoor
namespace Go.Proofs.YtpfohfihkmjnaaaGreatDoor
open Go.RowKit
end Go.Proofs.YtpfohfihkmjnaaaGreatDoor
namespace Go.Proofs.YtpfohfihkmjnaaaGreatDoor
open Go.RowKit
def findV (l : List Fl) (p : Str) : Int := idxVal (fun f => f.path == p) l
theorem find1_any (x : Fl) (p : Str) (ad : Addr) (w : World) (h1 : w.cell? ad = some (S p)) :
    Calls Tryz.prog 100 #[fileV x, .pointer (some ad)] w fun e w' => e = .returned (.bool (x.path == p)) ∧ Below w.heap.size w w' := by
  have h1' : (w.alloc (fileO x)).cell? ad = some (S p) := (((Below.refl w.heap.size w).alloc (Nat.le_refl _) (fileO x)).cell (World.block_lt_of_cell? w _ h1)).trans h1
  have hb : Below w.heap.size w (w.alloc (fileO x)) := (Below.refl _ _).alloc (Nat.le_refl _) _
  go_enter Tryz.func100, Tryz.ntmps100
  go_wp2_with fail
  go_ret
  exact ⟨rfl, hb⟩
theorem clo_find1 : Clo Tryz.prog 100 := fun _ _ => by kernel_rfl
theorem listFind_any (v : Value) (l : List Fl) (p : Str) (w : World) (hl : FilesAt w v l) :
    Calls Tryz.prog 47 #[v, S p] w fun e w' => e = .returned (.int .i64 (findV l p)) ∧ Below w.heap.size w w' := by
  obtain ⟨a, c, rfl, -, -⟩ := hl.form'
  have hba : Below w.heap.size w (w.alloc (.cells #[S p] 9)) := (Below.refl _ _).alloc (Nat.le_refl _) _
  have c0 : (w.alloc (.cells #[S p] 9)).cell? ⟨w.heap.size, 0, none⟩ = some (S p) := by simp
  have Hl := Lib.hid (hl.below hba)
  go_enter Tryz.func47, Tryz.ntmps47
  go_wp2_with fail
  refine (indexFuncF_any _ _ (fun f => f.path == p) _ _ _ l _ clo_find1 ?_ Hl.out (Below.refl _ _) (Nat.le_refl _)).mono ?_
  · intro W x hx hbW hle
    exact find1_any x p _ W ((hbW.cell (World.block_lt_of_cell? _ _ c0)).trans c0)
  · rintro e w1 ⟨rfl, hb1⟩
    go_wp2_with fail
    go_ret
    exact ⟨rfl, hba.trans (hb1.mono hba.size)⟩
end Go.Proofs.YtpfohfihkmjnaaaGreatDoor
namespace Go.Proofs.YtpfohfihkmjnaaaGreatDoor
open Go.RowKit
end Go.Proofs.YtpfohfihkmjnaaaGreatDoor
namespace Go.Proofs.YtpfohfihkmjnaaaGreatDoor
/-- How far the list is, and what it holds by then. -/
def DelRel {α : Type} (p : α → Bool) (l : List α) (i j : Nat) (ys : List α) : Prop :=
  i < j ∧ j ≤ l.length ∧ ys.length = l.length ∧ ys.take i = (l.take j).filter (fun x => !p x) ∧ ys.drop j = l.drop j
theorem filter_take_none {α : Type} {p : α → Bool} {l : List α} {k : Nat} (h : ∀ (j : Nat) (y : α), j < k → l[j]? = some y → p y = false) : (l.take k).filter (fun x => !p x) = l.take k := by
  refine List.filter_eq_self.2 fun x hx => ?_
  obtain ⟨j, hj, he⟩ := List.getElem_of_mem hx
  rw [List.length_take] at hj
  have : l[j]? = some x := by rw [List.getElem_take] at he; simp [he, show j < l.length by omega]
  simp [h j x (by omega) this]
theorem DelRel.start {α : Type} {p : α → Bool} {l : List α} {k : Nat} {x : α} (hk : l[k]? = some x) (hp : p x = true) (h : ∀ (j : Nat) (y : α), j < k → l[j]? = some y → p y = false) : DelRel p l k (k + 1) l := by
  have hlt : k < l.length := by
    rcases Nat.lt_or_ge k l.length with h' | h'
    · exact h'
    · rw [List.getElem?_eq_none h'] at hk; cases hk
  refine ⟨by omega, by omega, rfl, ?_, rfl⟩
  rw [List.take_add_one, hk, List.filter_append, filter_take_none h]
  simp [hp]
theorem DelRel.skip {α : Type} {p : α → Bool} {l ys : List α} {i j : Nat} {x : α} (h : DelRel p l i j ys) (hx : l[j]? = some x) (hp : p x = true) : DelRel p l i (j + 1) ys := by
  obtain ⟨h1, h2, h3, h4, h5⟩ := h
  have hlt : j < l.length := by
    rcases Nat.lt_or_ge j l.length with h' | h'
    · exact h'
    · rw [List.getElem?_eq_none h'] at hx; cases hx
  refine ⟨by omega, by omega, h3, ?_, ?_⟩
  · rw [h4, List.take_add_one, hx, List.filter_append]; simp [hp]
  · rw [← List.drop_drop, h5, List.drop_drop]
theorem DelRel.keep {α : Type} {p : α → Bool} {l ys : List α} {i j : Nat} {x : α} (h : DelRel p l i j ys) (hx : l[j]? = some x) (hp : p x = false) : DelRel p l (i + 1) (j + 1) (ys.set i x) := by
  obtain ⟨h1, h2, h3, h4, h5⟩ := h
  have hlt : j < l.length := by
    rcases Nat.lt_or_ge j l.length with h' | h'
    · exact h'
    · rw [List.getElem?_eq_none h'] at hx; cases hx
  refine ⟨by omega, by omega, by simpa using h3, ?_, ?_⟩
  · rw [List.take_add_one (l := l), hx, List.filter_append, ← h4, List.take_add_one, List.take_set_of_le (Nat.le_refl _), List.getElem?_set_self (by omega)]
    simp [hp]
  · rw [List.drop_set_of_lt (by omega), ← List.drop_drop, h5, List.drop_drop]
theorem DelRel.next {α : Type} {p : α → Bool} {l ys : List α} {i j : Nat} {x : α} (h : DelRel p l i j ys) (hx : l[j]? = some x) : ys[j]? = some x := by
  have : (ys.drop j)[0]? = (l.drop j)[0]? := by rw [h.2.2.2.2]
  simpa [hx] using this
theorem DelRel.done {α : Type} {p : α → Bool} {l ys : List α} {i : Nat} (h : DelRel p l i l.length ys) : ys.take i = l.filter (fun x => !p x) := by
  have := h.2.2.2.1; rwa [List.take_length] at this
end Go.Proofs.YtpfohfihkmjnaaaGreatDoor
