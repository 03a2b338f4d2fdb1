/- slices.Values, AppendSeq, Collect at []api.Row: a range over a function. row.Compare, row.Less: the walks; what they call of package cmp. DERIVED: THE SHELF's CONTRACTS AT THIS DUMP, IN PLAIN WORDS (tools/lay-plain.mjs out of 'TryzSortF.lean', which tools/lay-shelf.mjs wrote): THE SAME DECLARATIONS UNDER THE SAME NAMES: 'import', 'namespace', 'open', 'def', 'theorem' AND NOTHING ELSE: no command of the shelf's: FOR A HAND-IN. Each laying: the table of numbers ('.._ren') and one theorem, a field a fact of the dump's own or the kernel's comparison; each contract: ONE APPLICATION. list.Read: the walk. -/
import Derived.Test.YtcdcfolhnjgigaaGreatDoorBx6
import Derived.RangeFuncBox
import Derived.RangeFuncNested
import Derived.RangeFuncLeaves
import Derived.Shelf.Abstract
import Derived.WalkKit
import Derived.OwnWalkIn
import Derived.TacticsInMore
import Derived.LoopNIn
import Derived.LoopIn
import Derived.Maps.AppendAt
import Derived.Deep.RegionHeld3
import Derived.Shelf.SlSortCmp.WholeK
import Derived.Test.YtcdcfolhnjgigaaGreatDoorProg
namespace Go.Proofs.YtcdcfolhnjgigaaGreatDoor
open Go.RowKit Go.Shelf
attribute [local go_sem] Oper.semAt_some

set_option maxRecDepth 100000 in
set_option maxHeartbeats 2000000 in
/-- slices.Values's closure, for every loop body that keeps what lay below n₀. -/
theorem values1R_in (F : Fence) (n : Nat) (h7 : F.fn 137) (hro : F.round = none) (hn : 1 ≤ n) (l Bs n₀ : Nat) (a : Option Addr) (c b o : Nat) (zs : List Rw) (ha : 0 < zs.length → a = some ⟨b, o, none⟩) (hb : 0 < zs.length → b < n₀) (J Jx : List Rw → World → Prop)
    (W : World) (hJ : AbidesFrom W.heap.size J) (hn₀ : n₀ ≤ W.heap.size) (hcm : zs.length ≤ 9223372036854775807)
    (hY : ∀ pre x W1, J pre W1 → pre.length < zs.length → YieldAt F (n - 1) Tryz.prog l #[rowV x] W1 fun e W' =>
      (e = .returned (.bool true) ∧ J (pre ++ [x]) W' ∧ Below n₀ W1 W') ∨ (e = .returned (.bool false) ∧ Jx (pre ++ [x]) W'))
    (hBs : W.cell? ⟨Bs, 0, none⟩ = some (.slice a zs.length c)) (hx : ∀ (k : Nat) (x : Rw), zs[k]? = some x → ∀ (j : Nat) (u : Value), (encR x)[j]? = some u → W.cell? ⟨b, o + k * 3 + j, none⟩ = some u) (h0 : J [] W) :
    CallsIn F n Tryz.prog 137 #[.func (.yield l) #[] #[], .pointer (some ⟨Bs, 0, none⟩)] W fun e W' => (∃ v, e = .returned v) ∧ ((∃ ys, ys = zs ∧ J ys W') ∨ (∃ pre, pre <+: zs ∧ Jx pre W')) := by
  refine callsIn_of_wp Tryz.func137 rfl h7 ?_ hro
  simp only [Tryz.ntmps137, List.size_toArray, List.length_cons, List.length_nil, Nat.reduceAdd, Nat.reduceSub, Array.replicate_succ, Array.replicate_zero, List.push_toArray, List.append_toArray, List.nil_append, List.cons_append]
  gi_wp2
  gi_loopw [7] (fun i wr => ∃ k : Nat, k ≤ zs.length ∧ i = .int .i64 k ∧ J (zs.take k) wr ∧ Below n₀ W wr) (fun i _ => zs.length - (intOf i).toNat)
  case atStart => exact ⟨0, Nat.zero_le _, rfl, h0, Below.refl _ _⟩
  case round =>
    obtain ⟨k, hk, rfl, hJs, hnx⟩ := hrel
    by_cases hlt : k < zs.length
    case neg =>
      obtain rfl : k = zs.length := by omega
      rw [List.take_length] at hJs
      gi_wp2
      go_end0
      exact ⟨⟨_, rfl⟩, .inl ⟨_, rfl, hJs⟩⟩
    obtain ⟨x, hxk⟩ := get_ex hlt
    have hbn := hb (by omega)
    have hcl := fun j u hu => (hnx.cell (p := ⟨b, o + k * 3 + j, none⟩) hbn).trans (hx k x hxk j u hu)
    have c0 := hcl 0 _ rfl
    have c1 := hcl 1 _ rfl
    have c2 := hcl 2 _ rfl
    have i1 := idx_at (c := c) 3 Tryz.underlying22 szRw ha k hlt
    have hk1 : (k : Int) < (zs.length : Int) := by omega
    simp only [Nat.add_zero] at c0 c1 c2
    obtain ⟨e0, e1, e2⟩ := rowCells (r := x) (w := wr) rfl (Below.refl _ _)
    have hJa : J (zs.take k) (wr.alloc (.cells #[S x.part, .int .i64 x.key, .int .i64 x.val] 36)) := hJ _ _ _ none hJs (World.grownBy_alloc wr _ none) (fun r e => by cases e)
    obtain ⟨fn, tmps, assign, body, hy, hR⟩ := hY _ x _ hJa (by rw [List.length_take]; omega)
    have hsn := take_snoc' hxk
    have HSn := Lib.hid hsn
    clear hsn hxk hcl
    gi_wp2
    refine hR.mono ?_
    rintro e W3 (⟨rfl, hJ3, hk3⟩ | ⟨rfl, hJx3⟩)
    · gi_wp2
      go_roundw
      case rel => exact ⟨k + 1, by omega, by simp, by rw [HSn.out]; exact hJ3, (hnx.alloc (Nat.le_trans hn₀ hnx.size) _).trans hk3⟩
      case measure => simp [intOf]; omega
    · gi_wp2
      refine bodyPost_ret (results_none rfl _ _ _) rfl ?_
      exact ⟨⟨_, rfl⟩, .inr ⟨_, by rw [← HSn.out]; exact List.take_prefix _ _, hJx3⟩⟩
theorem valuesR_in (F : Fence) (n : Nat) (h5 : F.fn 81) (hro : F.round = none) (a : Option Addr) (len cap : Nat) (w : World) :
    CallsIn F n Tryz.prog 81 #[.slice a len cap] w fun e w' => e = .returned (.func (.func 137) #[] #[.pointer (some ⟨w.heap.size, 0, none⟩)]) ∧ w' = w.alloc (.cells #[.slice a len cap] 22) := by
  refine callsIn_of_wp Tryz.func81 rfl h5 ?_ hro
  simp only [Tryz.ntmps81, List.size_toArray, List.length_cons, List.length_nil, Nat.reduceAdd, Nat.reduceSub, Array.replicate_succ, Array.replicate_zero, List.push_toArray, List.append_toArray, List.nil_append, List.cons_append]
  gi_wp2
  go_ret
  exact ⟨rfl, rfl⟩
/-- slices.Values(l) hands back a value that yields all of l, in order. -/
theorem valuesR_stops (F : Fence) (n : Nat) (h7 : F.fn 137) (hro : F.round = none) (hn : 1 ≤ n) (Bs n₀ : Nat) (v : Value) (zs : List Rw) (w0 w : World) (hBs : Bs < w.heap.size) (hn₀ : n₀ ≤ w.heap.size)
    (hc : w.cell? ⟨Bs, 0, none⟩ = some v) (hl : RowsAt w0 v zs) (hlow : w0.heap.size ≤ n₀) (hb0 : Below w0.heap.size w0 w) :
    SeqStopsK F n Tryz.prog 137 #[.pointer (some ⟨Bs, 0, none⟩)] (fun x : Rw => #[rowV x]) (Below n₀) (fun ys => ys = zs) (fun pre => pre <+: zs) zs.length w := fun l J Jx W hW hJ _ hY h0 => by
  obtain ⟨a, c, b, o, rfl, ha, hcc, hcm, hx⟩ := hl
  have hbn : 0 < zs.length → b < w0.heap.size := fun h => by
    obtain ⟨x, hxk⟩ := get_ex (l := zs) (k := 0) h
    exact World.block_lt_of_cell? w0 ⟨b, o + 0 * 3 + 0, none⟩ (hx 0 x hxk 0 _ rfl)
  have hbW := hb0.trans (hW.mono hb0.size)
  refine values1R_in F n h7 hro hn l Bs n₀ a c b o zs ha (fun h => Nat.lt_of_lt_of_le (hbn h) hlow) J Jx W hJ (Nat.le_trans hn₀ hW.size) (by unfold maxLen at hcm; omega) hY ((hW.cell (p := ⟨Bs, 0, none⟩) hBs).trans hc) (fun k x hk j u hu => ?_) h0
  have h1 := hx k x hk j u hu
  exact (hbW.cell (World.block_lt_of_cell? w0 _ h1)).trans h1

theorem cells_new3 (w : World) (cs : List Value) (t : TypeId) : ∀ j u, cs[j]? = some u → (w.alloc (.cells cs.toArray t)).cell? ((⟨w.heap.size, 0, none⟩ : Addr).add j) = some u := fun j u hu => by
  rw [add_lit, cell_of_row (w.alloc _) w.heap.size _ cs.toArray t (0, 0) (heap_alloc_new w _)]
  simpa using hu
theorem infoRw : (Tryz.prog.info? 36).map (fun i => (i.zero, i.size, i.bytes)) = some (some (.agg #[.string ByteArray.empty, .int .i64 0, .int .i64 0]), 3, 32) := by kernel_rfl
set_option maxRecDepth 100000 in
set_option maxHeartbeats 2000000 in
/-- slices.AppendSeq(nil, seq): all that seq yields. -/
theorem appendSeqR_in (F : Fence) (n : Nat) (h3 : F.fn 190) (hro : F.round = none) (hn : 3 ≤ n) (gf : Nat) (lb : Array Value) (hFg : F.fn gf) (eg : ∀ args w, (callFunc gf args).run Tryz.prog w = .ok (.enter gf args) w) (zs : List Rw) (hz : zs.length ≤ 100000) (n₀ : Nat) (w : World) (hn₀ : n₀ ≤ w.heap.size)
    (hseq : SeqStopsK F (n - 1) Tryz.prog gf lb (fun x : Rw => #[rowV x]) (Below n₀) (fun ys => ys = zs) (fun pre => pre <+: zs) zs.length w) :
    CallsIn F n Tryz.prog 190 #[.slice none 0 0, .func (.func gf) #[] lb] w fun e w' => ∃ v, e = .returned v ∧ Own encR 36 3 w.heap.size w' v zs ∧ Below w.heap.size w w' := by
  have h1 : 1 ≤ n := by omega
  obtain ⟨i0, hi, hz0, hz1, hz2⟩ := info_parts infoRw
  refine callsIn_of_wp_marks Tryz.func190 rfl h3 ?_ hro
  simp only [Tryz.ntmps190, List.size_toArray, List.length_cons, List.length_nil, Nat.reduceAdd, Nat.reduceSub, Array.replicate_succ, Array.replicate_zero, List.push_toArray, List.append_toArray, List.nil_append, List.cons_append]
  gi_wp2
  have bO := Boxed.new w 22 (.slice none 0 0)
  have hB0 : Below w.heap.size w (w.alloc (.cells #[.slice none 0 0] 22)) := (Below.refl _ w).alloc (Nat.le_refl _) _
  have hsz : (w.alloc (.cells #[.slice none 0 0] 22)).heap.size = w.heap.size + 1 := by simp
  have hseq' : SeqStopsK F (n - 1) Tryz.prog gf lb (fun x : Rw => #[rowV x]) (Below n₀) (fun ys => ys = zs) (fun pre => pre <+: zs) zs.length (w.alloc (.cells #[.slice none 0 0] 22)) := fun l J Jx W hW => hseq l J Jx W (hB0.trans (hW.mono hB0.size))
  obtain ⟨W0, hW0⟩ : ∃ W0, w.alloc (.cells #[.slice none 0 0] 22) = W0 := ⟨_, rfl⟩
  rw [hW0] at bO hB0 hsz hseq' ⊢
  clear hW0
  refine wpIn_rangeFunc_ownH hro h1 (gf := gf) (lb := lb) rfl hFg eg hseq' belowK_t (belowK_b (by omega)) (Below.refl _ _) (fun _ => rfl)
    (fun pre W => (∃ v, Boxed W w.heap.size 22 v ∧ W.ownsRow w.heap.size 36 3 v pre.length (pre.flatMap encR) ∧ True) ∧ Below w.heap.size w W)
    (fun _ _ _ => False)
    (OwnFrom.and (Go.Own.from (holdsRow_own w.heap.size w.heap.size 22 36 3 (fun pre : List Rw => pre.length) (fun pre => pre.flatMap encR) (fun _ _ => True)) _) (ownFrom_below (Nat.le_refl _) (by omega)))
    (fun _ _ _ _ _ hs _ _ => hs)
    ⟨⟨_, bO, World.ownsRow_nil _ _ _ _, trivial⟩, hB0⟩
    (fun x a' W => ∃ Bx, w.heap.size < Bx ∧ W.heap[Bx]? = some (.cells #[S x.part, .int .i64 x.key, .int .i64 x.val] 36 (0, 0)) ∧ a' = { tmps := #[.slice none 0 0, .func (.func gf) #[] lb, .pointer (some ⟨w.heap.size, 0, none⟩), undef, .slice none 0 0, .pointer (some ⟨Bx, 0, none⟩), .func (.func gf) #[] lb, rowV x, undef, undef, undef, undef, undef], defers := [] })
    (fun x a' _ X Y row hs hg hr => by
      obtain ⟨Bx, h1, h2, h3⟩ := hs
      refine ⟨Bx, h1, (hg.block Bx (Array.getElem?_eq_some_iff.1 h2).1 (fun e => ?_)).trans h2, h3⟩
      obtain ⟨_, o, ho, hc⟩ := hr _ e.symm
      rw [h2] at ho; cases ho; cases hc)
    ?assign ?body ?done ?stop
  case assign =>
    rintro l pre x W K ⟨⟨v, hv, hrow, -⟩, hB1⟩ hK
    gi_wp2
    exact hK _ _ ((KeepsOthers.alloc _ _).from _) ((Below.refl _ W).alloc (Nat.le_trans hn₀ hB1.size) _) ⟨⟨v, hv.alloc _, hrow.alloc _, trivial⟩, hB1.alloc hB1.size _⟩ ⟨W.heap.size, hv.lt, World.alloc_heap_new W _, rfl⟩
  case body =>
    rintro l pre x a' W hl ⟨r, hr⟩ ⟨⟨v, hv, hrow, -⟩, hB⟩ ⟨Bx, hBx, bX, rfl⟩ hlt
    have hc := hv.cell
    have c0 : W.cell? ⟨Bx, 0, none⟩ = some (S x.part) := by simp [World.cell?, bX]
    have c1 : W.cell? ⟨Bx, 1, none⟩ = some (.int .i64 x.key) := by simp [World.cell?, bX]
    have c2 : W.cell? ⟨Bx, 2, none⟩ = some (.int .i64 x.val) := by simp [World.cell?, bX]
    gi_wp2_with (gi_at_builtin; refine wpListIn_append_own _ rfl _ _ 22 rfl w.heap.size 36 i0 _ 3 32 Tryz.underlying22 hi hz0 hz1 hz2 rfl (by decide) _ _ _ rfl (hrow.alloc _) ⟨W.heap.size, 0, none⟩ 1 1 (encR x) rfl rfl (cells_new3 _ _ _) (by simp [Value.oneCell']) (by unfold maxLen; omega) (by omega) (by have := hB.size; simp; omega) ?_; intro v' w1 hown' hgrow _; obtain ⟨g', cap', rfl⟩ := ownsRow_succ hown'; obtain ⟨hv1, hv2, hr2, hk2, hb2⟩ := hv.appended (by decide) hrow hB.size (Nat.le_refl _) hown' hgrow; have hc1 := hv1.cell; have hf1 := hv1.frozen)
    exact ⟨hk2.from _, hb2.mono hn₀, ⟨_, hv2, by simpa using hr2, trivial⟩, hB.trans hb2⟩
  case done =>
    rintro D ys W hD rfl ⟨⟨v, hv, hrow, -⟩, hB⟩ hK
    have hc := hv.cell
    gi_wp2
    refine ⟨by simp, .inl ⟨_, _, rfl, run_takeDeferred hK, ?_⟩⟩
    exact ⟨_, results_tmp rfl _ _ _, v, rfl, ownsRow_putObj hrow _ hK rfl, hB.trans (belowK_b (w := w) (Nat.le_refl _) W D _ _ (by omega) hK rfl rfl)⟩
  case stop =>
    rintro D c pre W _ _ h _
    exact h.elim
theorem collectR_in (F : Fence) (n : Nat) (h3 : F.fn 190) (h4 : F.fn 135) (hro : F.round = none) (hn : 4 ≤ n) (gf : Nat) (lb : Array Value) (hFg : F.fn gf) (eg : ∀ args w, (callFunc gf args).run Tryz.prog w = .ok (.enter gf args) w) (zs : List Rw) (hz : zs.length ≤ 100000) (n₀ : Nat) (w : World) (hn₀ : n₀ ≤ w.heap.size)
    (hseq : SeqStopsK F (n - 1 - 1) Tryz.prog gf lb (fun x : Rw => #[rowV x]) (Below n₀) (fun ys => ys = zs) (fun pre => pre <+: zs) zs.length w) :
    CallsIn F n Tryz.prog 135 #[.func (.func gf) #[] lb] w fun e w' => ∃ v, e = .returned v ∧ Own encR 36 3 w.heap.size w' v zs ∧ Below w.heap.size w w' := by
  have h1 : 1 ≤ n := by omega
  refine callsIn_of_wp Tryz.func135 rfl h4 ?_ hro
  simp only [Tryz.ntmps135, List.size_toArray, List.length_cons, List.length_nil, Nat.reduceAdd, Nat.reduceSub, Array.replicate_succ, Array.replicate_zero, List.push_toArray, List.append_toArray, List.nil_append, List.cons_append]
  gi_wp2_with (gi_at_call 190; refine (appendSeqR_in F (n - 1) h3 hro (by omega) gf lb hFg eg zs hz n₀ _ hn₀ hseq).mono ?_; rintro e w' ⟨v, rfl, hown, hb⟩)
  go_ret
  exact ⟨_, rfl, hown, hb⟩
end Go.Proofs.YtcdcfolhnjgigaaGreatDoor
namespace Go.Proofs.YtcdcfolhnjgigaaGreatDoor
open Go.RowKit

theorem isNaNI_any (n : Int) (w : World) : Calls Tryz.prog 189 #[.int .i64 n] w fun e w' => e = .returned (.bool false) ∧ w = w' := by
  have g : (n != n) = false := by simp
  go_enter Tryz.func189, Tryz.ntmps189
  go_wp2_with fail
  go_ret
  exact ⟨rfl, rfl⟩
theorem isNaNS_any (s : Str) (w : World) : Calls Tryz.prog 192 #[S s] w fun e w' => e = .returned (.bool false) ∧ w = w' := by
  have g : (s != s) = false := by simp
  go_enter Tryz.func192, Tryz.ntmps192
  go_wp2_with fail
  go_ret
  exact ⟨rfl, rfl⟩
theorem cmpI_ways (a b : Int) : (a < b ∧ cmpI a b = -1) ∨ (decide (a < b) = false ∧ ((b < a ∧ cmpI a b = 1) ∨ (decide (b < a) = false ∧ cmpI a b = 0))) := by
  unfold cmpI
  by_cases h1 : a < b
  · exact .inl ⟨h1, if_pos h1⟩
  · refine .inr ⟨decide_eq_false h1, ?_⟩
    rw [if_neg h1]
    by_cases h2 : b < a
    · exact .inl ⟨h2, if_pos h2⟩
    · exact .inr ⟨decide_eq_false h2, if_neg h2⟩
theorem cmpS_ways (a b : Str) : (Op.bytesLess a b = true ∧ cmpS a b = -1) ∨ (Op.bytesLess a b = false ∧ (((a == b) = false ∧ cmpS a b = 1) ∨ ((a == b) = true ∧ cmpS a b = 0))) := by
  unfold cmpS
  rw [less_befR]
  cases h1 : bef a b with
  | true => exact .inl ⟨rfl, if_pos rfl⟩
  | false =>
    refine .inr ⟨rfl, ?_⟩
    rw [if_neg (by decide)]
    by_cases he : a = b
    · refine .inr ⟨by simpa using he, ?_⟩
      rw [if_neg (by rw [he, bef_irrefl]; decide)]
    · refine .inl ⟨by simpa using he, ?_⟩
      rcases bef_or he with h2 | h2
      · rw [h1] at h2; cases h2
      · exact if_pos h2
theorem cmpInt_any (a b : Int) (w : World) : Calls Tryz.prog 140 #[.int .i64 a, .int .i64 b] w fun e w' => e = .returned (.int .i64 (cmpI a b)) ∧ w = w' := by
  rcases cmpI_ways a b with ⟨h1, hc⟩ | ⟨h1, ⟨h2, hc⟩ | ⟨h2, hc⟩⟩
  all_goals
    rw [hc]
    clear hc
    go_enter Tryz.func140, Tryz.ntmps140
    go_wp2_with (go_at_call 189; refine (isNaNI_any _ _).mono ?_; rintro e w' ⟨rfl, rfl⟩)
    go_ret
    exact ⟨rfl, rfl⟩
theorem cmpStr_any (a b : Str) (w : World) : Calls Tryz.prog 139 #[S a, S b] w fun e w' => e = .returned (.int .i64 (cmpS a b)) ∧ w = w' := by
  rcases cmpS_ways a b with ⟨h1, hc⟩ | ⟨h1, ⟨h2, hc⟩ | ⟨h2, hc⟩⟩
  all_goals
    rw [hc]
    clear hc
    go_enter Tryz.func139, Tryz.ntmps139
    go_wp2_with (go_at_call 192; refine (isNaNS_any _ _).mono ?_; rintro e w' ⟨rfl, rfl⟩)
    go_ret
    exact ⟨rfl, rfl⟩
def orL : List Int → Int
  | [] => 0
  | x :: r => if x ≠ 0 then x else orL r
theorem orL_at : ∀ {l : List Int} {k : Nat} {x : Int}, (∀ j < k, l[j]? = some 0) → l[k]? = some x → x ≠ 0 → orL l = x
  | [], k, x, _, h, _ => by simp at h
  | y :: r, 0, x, _, h, hx => by
    obtain rfl : y = x := by simpa using h
    exact if_pos hx
  | y :: r, k + 1, x, h0, h, hx => by
    obtain rfl : y = 0 := by simpa using h0 0 (by omega)
    show (if (0 : Int) ≠ 0 then 0 else orL r) = x
    rw [if_neg (by simp)]
    exact orL_at (k := k) (fun j hj => by simpa using h0 (j + 1) (by omega)) (by simpa using h) hx
theorem orL_all : ∀ {l : List Int}, (∀ j < l.length, l[j]? = some 0) → orL l = 0
  | [], _ => rfl
  | y :: r, h0 => by
    obtain rfl : y = 0 := by simpa using h0 0 (by simp)
    show (if (0 : Int) ≠ 0 then 0 else orL r) = 0
    rw [if_neg (by simp)]
    exact orL_all (fun j hj => by simpa using h0 (j + 1) (by simpa using hj))
theorem orI_any (v : Value) (l : List Int) (w : World) (hl : IntsAt w v l) :
    Calls Tryz.prog 138 #[v] w fun e w' => e = .returned (.int .i64 (orL l)) ∧ w = w' := by
  obtain ⟨a, c, b, o, rfl, ha, hc, hcm, hx⟩ := hl
  unfold maxLen at hcm
  go_enter Tryz.func138, Tryz.ntmps138
  go_wp2_with fail
  go_loop [8] (fun i => ∃ k : Nat, k ≤ l.length ∧ i = .int .i64 k ∧ Hid (∀ j < k, l[j]? = some 0)) (fun i => l.length - (intOf i).toNat)
  case atStart => exact ⟨0, by omega, rfl, Lib.hid fun j hj => absurd hj (by omega)⟩
  case round =>
    obtain ⟨k, hk, rfl, hj⟩ := hrel
    by_cases hlt : k < l.length
    case neg =>
      obtain rfl : k = l.length := by omega
      have f : decide ((l.length : Int) < (l.length : Int)) = false := by simp
      have HE := Lib.hid (orL_all hj.out)
      go_wp2_with fail
      go_ret
      exact ⟨by rw [HE.out]; rfl, rfl⟩
    obtain ⟨x, hxk⟩ := get_ex hlt
    have q0 := hx k x hxk 0 _ rfl
    have i1 := idx_at (c := c) 1 Tryz.underlying39 szInt ha k hlt
    simp only [Nat.add_zero, Nat.mul_one] at q0 i1
    have hk1 : (k : Int) < (l.length : Int) := by omega
    have HX := Lib.hid hxk
    clear hxk
    by_cases h0 : x = 0
    · have g : (x != 0) = false := by simp [h0]
      have H0 := Lib.hid h0
      clear h0
      go_wp2_with fail
      go_round
      case rel => exact ⟨k + 1, by omega, by go_num, Lib.hid fun j hj' => by
        rcases Nat.lt_or_ge j k with h | h
        · exact hj.out j h
        · obtain rfl : j = k := by omega
          rw [HX.out, H0.out]⟩
      case measure => simp [intOf]; omega
    · have g : (x != 0) = true := by simpa using h0
      have HE := Lib.hid (orL_at hj.out HX.out h0)
      clear h0
      go_wp2_with fail
      go_ret
      exact ⟨by rw [HE.out]; rfl, rfl⟩
theorem cmpR_or (a b : Rw) : cmpR a b = orL [cmpS a.part b.part, cmpI a.key b.key, cmpI a.val b.val] := by
  unfold cmpR
  show _ = (if cmpS a.part b.part ≠ 0 then cmpS a.part b.part else if cmpI a.key b.key ≠ 0 then cmpI a.key b.key else if cmpI a.val b.val ≠ 0 then cmpI a.val b.val else 0)
  split
  · rfl
  · split
    · rfl
    · split
      · rfl
      · rename_i h; simpa using h
theorem drewN_grow (w : World) (n : Nat) (os : Array Obj) : (Go.Sort.grow w os).drewN n = Go.Sort.grow (w.drewN n) os := rfl
theorem drew_drewN (w : World) : w.drew = w.drewN 1 := rfl
set_option maxHeartbeats 1000000 in
set_option maxRecDepth 20000 in
theorem rowCompareG_any (a b : Rw) (w : World) :
    Calls Tryz.prog 82 #[rowV a, rowV b] w fun e w' => e = .returned (.int .i64 (cmpR a b)) ∧ ∃ q os', w' = Go.Sort.grow (w.drewN q) os' := by
  obtain ⟨w0, hw0⟩ : ∃ w0, w0 = w.alloc (.cells #[S a.part, .int .i64 a.key, .int .i64 a.val] 36) := ⟨_, rfl⟩
  obtain ⟨w1, hw1⟩ : ∃ w1, w1 = w0.alloc (.cells #[S b.part, .int .i64 b.key, .int .i64 b.val] 36) := ⟨_, rfl⟩
  have hb1 : Below w0.heap.size w0 w1 := hw1 ▸ (Below.refl _ _).alloc (Nat.le_refl _) _
  have hsz : w0.heap.size = w.heap.size + 1 := by rw [hw0]; simp
  have KS := Lib.hid (fun W (h : Below w1.heap.size w1 W) => (⟨rowCells (r := a) hw0 (hb1.trans (h.mono hb1.size)), rowCells (r := b) hw1 h⟩ : _ ∧ _))
  rw [hsz] at KS
  have HW : Hid (w1 = (w.alloc (.cells #[S a.part, .int .i64 a.key, .int .i64 a.val] 36)).alloc (.cells #[S b.part, .int .i64 b.key, .int .i64 b.val] 36)) := Lib.hid (by rw [hw1, hw0])
  have hG : ∃ os, w1 = Go.Sort.grow w os := ⟨_, by rw [HW.out, Go.Sort.alloc_eq_grow, Go.Sort.alloc_eq_grow, Go.Sort.grow_grow]⟩
  have HG := Lib.hid hG
  have HOr := Lib.hid (cmpR_or a b)
  clear hw0 hw1 hb1 hsz hG
  obtain ⟨⟨c0, c1, c2⟩, ⟨d0, d1, d2⟩⟩ := KS.out _ (Bdn (Below.refl w1.heap.size w1) 1)
  obtain ⟨x, hx⟩ : ∃ x, cmpS a.part b.part = x := ⟨_, rfl⟩
  obtain ⟨y, hy⟩ : ∃ y, cmpI a.key b.key = y := ⟨_, rfl⟩
  obtain ⟨z, hz⟩ : ∃ z, cmpI a.val b.val = z := ⟨_, rfl⟩
  have h1 := fun W => cmpStr_any a.part b.part W
  have h2 := fun W => cmpInt_any a.key b.key W
  have h3 := fun W => cmpInt_any a.val b.val W
  rw [hx] at h1; rw [hy] at h2; rw [hz] at h3
  rw [hx, hy, hz] at HOr
  have H1 := Lib.hid h1; have H2 := Lib.hid h2; have H3 := Lib.hid h3
  clear h1 h2 h3 hx hy hz
  go_enter Tryz.func82, Tryz.ntmps82
  go_upto_region 1 with fail
  rw [← HW.out]
  clear w0 HW
  go_wp2_with fail
  go_region_held3 (fun w' => w'.cell? ⟨w.heap.size, 0, none⟩ = some (S a.part) ∧ w'.cell? ⟨w.heap.size, 1, none⟩ = some (.int .i64 a.key) ∧ w'.cell? ⟨w.heap.size, 2, none⟩ = some (.int .i64 a.val) ∧ w'.cell? ⟨w.heap.size + 1, 0, none⟩ = some (S b.part) ∧ w'.cell? ⟨w.heap.size + 1, 1, none⟩ = some (.int .i64 b.key) ∧ w'.cell? ⟨w.heap.size + 1, 2, none⟩ = some (.int .i64 b.val)) (first | exact ⟨c0, c1, c2, d0, d1, d2⟩ | (obtain ⟨⟨q0, q1, q2⟩, q3, q4, q5⟩ := KS.out _ (((Below.refl _ _).alloc (Nat.le_refl _) _).drew); exact ⟨q0, q1, q2, q3, q4, q5⟩) | (obtain ⟨⟨q0, q1, q2⟩, q3, q4, q5⟩ := KS.out _ ((Below.refl _ _).drew.alloc (Nat.le_refl _) _); exact ⟨q0, q1, q2, q3, q4, q5⟩)) (first
    | (go_at_call 139; (with_reducible refine (H1.out _).mono ?_); rintro e w' ⟨rfl, rfl⟩)
    | (go_at_call 140; (with_reducible refine (H2.out _).mono ?_); rintro e w' ⟨rfl, rfl⟩)
    | (go_at_call 140; (with_reducible refine (H3.out _).mono ?_); rintro e w' ⟨rfl, rfl⟩)
    | (go_at_call 138; (with_reducible refine (orI_any _ [x, y, z] _ (by first | exact ints_new [x, y, z] _ _ _ 3 _ rfl rfl rfl (by decide) | exact (ints_new [x, y, z] _ _ _ 3 _ rfl rfl rfl (by decide)).below (Bdn (Below.refl _ _) 1))).mono ?_); rintro e w' ⟨rfl, rfl⟩))
  all_goals
    go_wp2_with fail
    go_ret
    refine ⟨by rw [HOr.out]; rfl, ?_⟩
    obtain ⟨os, ho⟩ := HG.out
    refine ⟨1, os ++ #[.cells #[.int .i64 x, .int .i64 y, .int .i64 z] 3], ?_⟩
    rw [Go.Sort.alloc_eq_grow, ho, Go.Sort.grow_grow]
    rfl
theorem rowCompare_any (a b : Rw) (w : World) :
    Calls Tryz.prog 82 #[rowV a, rowV b] w fun e w' => e = .returned (.int .i64 (cmpR a b)) ∧ Below w.heap.size w w' :=
  (rowCompareG_any a b w).mono fun _ _ ⟨h, q, os, hw⟩ => ⟨h, hw ▸ Bgrow w q os⟩
set_option maxRecDepth 20000 in
theorem rowLess_any (a b : Rw) (w : World) :
    Calls Tryz.prog 25 #[rowV a, rowV b] w fun e w' => e = .returned (.bool (lessR a b)) ∧ Below w.heap.size w w' := by
  obtain ⟨w0, hw0⟩ : ∃ w0, w0 = w.alloc (.cells #[S a.part, .int .i64 a.key, .int .i64 a.val] 36) := ⟨_, rfl⟩
  have hb0 : Below w.heap.size w w0 := hw0 ▸ (Below.refl _ _).alloc (Nat.le_refl _) _
  have hb1 : Below w0.heap.size w0 (w0.alloc (.cells #[S b.part, .int .i64 b.key, .int .i64 b.val] 36)) := (Below.refl _ _).alloc (Nat.le_refl _) _
  obtain ⟨c0, c1, c2⟩ := rowCells (r := a) hw0 hb1
  obtain ⟨d0, d1, d2⟩ := rowCells (r := b) (w := w0) rfl (Below.refl _ _)
  have hsz : w0.heap.size = w.heap.size + 1 := by rw [hw0]; simp
  have hb2 := hb0.trans (hb1.mono hb0.size)
  rw [hsz] at d0 d1 d2
  rw [hw0] at c0 c1 c2 d0 d1 d2 hb2
  have HB2 := Lib.hid hb2
  have HL := Lib.hid (cmpR_less a b)
  have hC := fun W => rowCompare_any a b W
  generalize cmpR a b = k at *
  have HC := Lib.hid hC
  clear hb0 hb1 hb2 hsz hw0 w0 hC
  go_enter Tryz.func25, Tryz.ntmps25
  go_wp2_with fail
  refine (HC.out _).mono ?_
  rintro e w3 ⟨rfl, hb3⟩
  go_wp2_with fail
  go_ret
  exact ⟨ret_bool HL.out, HB2.out.trans (hb3.mono HB2.out.size)⟩
end Go.Proofs.YtcdcfolhnjgigaaGreatDoor
namespace Go.Proofs
open Go.Shelf
def Tryz.sortR_ren : Go.Shelf.Ren := ⟨fun | 6 => 136 | 15 => 122 | 14 => 191 | 28 => 179 | 29 => 180 | 20 => 229 | 21 => 230 | 22 => 231 | 23 => 232 | 24 => 233 | 25 => 234 | 26 => 235 | 27 => 236 | 46 => 266 | 47 => 217 | 48 => 218 | 49 => 267 | 50 => 268 | 57 => 280 | n => n, fun | 22 => 22 | 24 => 36 | 25 => 129 | 3 => 3 | 39 => 169 | 0 => 0 | 53 => 144 | 55 => 143 | 4 => 4 | 46 => 217 | 45 => 216 | 50 => 121 | 5 => 5 | 9 => 9 | 66 => 254 | 70 => 258 | 76 => 295 | 77 => 70 | n => n, fun | n => n⟩
theorem Tryz.sortR : Go.Proofs.SlLaysF0.n6 Tryz.prog Tryz.sortR_ren := {
  mixed := by kernel_rfl
  f6 := ⟨Tryz.f136.name, by decide, Tryz.func136.trans (congrArg some (by kernel_rfl))⟩
  f14 := ⟨Tryz.f191.name, by decide, Tryz.func191.trans (congrArg some (by kernel_rfl))⟩
  f15 := Tryz.func122.trans (congrArg some (by kernel_rfl))
  f20 := ⟨Tryz.f229.name, by decide, Tryz.func229.trans (congrArg some (by kernel_rfl))⟩
  f21 := ⟨Tryz.f230.name, by decide, Tryz.func230.trans (congrArg some (by kernel_rfl))⟩
  f22 := ⟨Tryz.f231.name, by decide, Tryz.func231.trans (congrArg some (by kernel_rfl))⟩
  f23 := ⟨Tryz.f232.name, by decide, Tryz.func232.trans (congrArg some (by kernel_rfl))⟩
  f24 := ⟨Tryz.f233.name, by decide, Tryz.func233.trans (congrArg some (by kernel_rfl))⟩
  f25 := ⟨Tryz.f234.name, by decide, Tryz.func234.trans (congrArg some (by kernel_rfl))⟩
  f26 := ⟨Tryz.f235.name, by decide, Tryz.func235.trans (congrArg some (by kernel_rfl))⟩
  f27 := ⟨Tryz.f236.name, by decide, Tryz.func236.trans (congrArg some (by kernel_rfl))⟩
  f28 := Tryz.func179.trans (congrArg some (by kernel_rfl))
  f29 := Tryz.func180.trans (congrArg some (by kernel_rfl))
  f46 := ⟨Tryz.f266.name, by decide, Tryz.func266.trans (congrArg some (by kernel_rfl))⟩
  f47 := Tryz.func217.trans (congrArg some (by kernel_rfl))
  f48 := Tryz.func218.trans (congrArg some (by kernel_rfl))
  f49 := ⟨Tryz.f267.name, by decide, Tryz.func267.trans (congrArg some (by kernel_rfl))⟩
  f50 := ⟨Tryz.f268.name, by decide, Tryz.func268.trans (congrArg some (by kernel_rfl))⟩
  f57 := ⟨Tryz.f280.name, by decide, Tryz.func280.trans (congrArg some (by kernel_rfl))⟩
  t0 := Tryz.underlying0
  a0 := Tryz.isAgg0
  z0 := Tryz.sizeOf0
  v0 := Tryz.zeroValue0
  t3 := Tryz.underlying3
  a3 := Tryz.isAgg3
  z3 := Tryz.sizeOf3
  v3 := Tryz.zeroValue3
  t4 := Tryz.underlying4
  a4 := Tryz.isAgg4
  z4 := Tryz.sizeOf4
  v4 := Tryz.zeroValue4
  t5 := Tryz.underlying5
  a5 := Tryz.isAgg5
  z5 := Tryz.sizeOf5
  v5 := Tryz.zeroValue5
  t9 := Tryz.underlying9
  a9 := Tryz.isAgg9
  z9 := Tryz.sizeOf9
  v9 := Tryz.zeroValue9
  t22 := Tryz.underlying22
  a22 := Tryz.isAgg22
  z22 := Tryz.sizeOf22
  v22 := Tryz.zeroValue22
  t25 := Tryz.underlying129
  a25 := Tryz.isAgg129
  z25 := Tryz.sizeOf129
  v25 := Tryz.zeroValue129
  t39 := Tryz.underlying169
  a39 := Tryz.isAgg169
  z39 := Tryz.sizeOf169
  v39 := Tryz.zeroValue169
  t45 := Tryz.underlying216
  a45 := Tryz.isAgg216
  z45 := Tryz.sizeOf216
  v45 := Tryz.zeroValue216
  t46 := Tryz.underlying217
  a46 := Tryz.isAgg217
  z46 := Tryz.sizeOf217
  v46 := Tryz.zeroValue217
  t50 := Tryz.underlying121
  a50 := Tryz.isAgg121
  z50 := Tryz.sizeOf121
  v50 := Tryz.zeroValue121
  t53 := Tryz.underlying144
  a53 := Tryz.isAgg144
  z53 := Tryz.sizeOf144
  v53 := Tryz.zeroValue144
  t55 := Tryz.underlying143
  a55 := Tryz.isAgg143
  z55 := Tryz.sizeOf143
  v55 := Tryz.zeroValue143
  t66 := Tryz.underlying254
  a66 := Tryz.isAgg254
  z66 := Tryz.sizeOf254
  v66 := Tryz.zeroValue254
  t70 := Tryz.underlying258
  a70 := Tryz.isAgg258
  z70 := Tryz.sizeOf258
  v70 := Tryz.zeroValue258
  t76 := Tryz.underlying295
  a76 := Tryz.isAgg295
  z76 := Tryz.sizeOf295
  v76 := Tryz.zeroValue295
  t77 := Tryz.underlying70
  a77 := Tryz.isAgg70
  z77 := Tryz.sizeOf70
  v77 := Tryz.zeroValue70 }
def Tryz.sortG_ren : Go.Shelf.Ren := ⟨fun | 6 => 65 | 15 => 122 | 14 => 121 | 28 => 179 | 29 => 180 | 20 => 171 | 21 => 172 | 22 => 173 | 23 => 174 | 24 => 175 | 25 => 176 | 26 => 177 | 27 => 178 | 46 => 216 | 47 => 217 | 48 => 218 | 49 => 219 | 50 => 220 | 57 => 253 | n => n, fun | 22 => 25 | 24 => 32 | 25 => 112 | 3 => 3 | 39 => 169 | 0 => 0 | 53 => 144 | 55 => 143 | 4 => 4 | 46 => 217 | 45 => 216 | 50 => 121 | 5 => 5 | 9 => 9 | 66 => 254 | 70 => 258 | 76 => 295 | 77 => 70 | n => n, fun | n => n⟩
theorem Tryz.sortG : Go.Proofs.SlLaysF0.n6 Tryz.prog Tryz.sortG_ren := {
  mixed := by kernel_rfl
  f6 := ⟨Tryz.f65.name, by decide, Tryz.func65.trans (congrArg some (by kernel_rfl))⟩
  f14 := ⟨Tryz.f121.name, by decide, Tryz.func121.trans (congrArg some (by kernel_rfl))⟩
  f15 := Tryz.func122.trans (congrArg some (by kernel_rfl))
  f20 := ⟨Tryz.f171.name, by decide, Tryz.func171.trans (congrArg some (by kernel_rfl))⟩
  f21 := ⟨Tryz.f172.name, by decide, Tryz.func172.trans (congrArg some (by kernel_rfl))⟩
  f22 := ⟨Tryz.f173.name, by decide, Tryz.func173.trans (congrArg some (by kernel_rfl))⟩
  f23 := ⟨Tryz.f174.name, by decide, Tryz.func174.trans (congrArg some (by kernel_rfl))⟩
  f24 := ⟨Tryz.f175.name, by decide, Tryz.func175.trans (congrArg some (by kernel_rfl))⟩
  f25 := ⟨Tryz.f176.name, by decide, Tryz.func176.trans (congrArg some (by kernel_rfl))⟩
  f26 := ⟨Tryz.f177.name, by decide, Tryz.func177.trans (congrArg some (by kernel_rfl))⟩
  f27 := ⟨Tryz.f178.name, by decide, Tryz.func178.trans (congrArg some (by kernel_rfl))⟩
  f28 := Tryz.func179.trans (congrArg some (by kernel_rfl))
  f29 := Tryz.func180.trans (congrArg some (by kernel_rfl))
  f46 := ⟨Tryz.f216.name, by decide, Tryz.func216.trans (congrArg some (by kernel_rfl))⟩
  f47 := Tryz.func217.trans (congrArg some (by kernel_rfl))
  f48 := Tryz.func218.trans (congrArg some (by kernel_rfl))
  f49 := ⟨Tryz.f219.name, by decide, Tryz.func219.trans (congrArg some (by kernel_rfl))⟩
  f50 := ⟨Tryz.f220.name, by decide, Tryz.func220.trans (congrArg some (by kernel_rfl))⟩
  f57 := ⟨Tryz.f253.name, by decide, Tryz.func253.trans (congrArg some (by kernel_rfl))⟩
  t0 := Tryz.underlying0
  a0 := Tryz.isAgg0
  z0 := Tryz.sizeOf0
  v0 := Tryz.zeroValue0
  t3 := Tryz.underlying3
  a3 := Tryz.isAgg3
  z3 := Tryz.sizeOf3
  v3 := Tryz.zeroValue3
  t4 := Tryz.underlying4
  a4 := Tryz.isAgg4
  z4 := Tryz.sizeOf4
  v4 := Tryz.zeroValue4
  t5 := Tryz.underlying5
  a5 := Tryz.isAgg5
  z5 := Tryz.sizeOf5
  v5 := Tryz.zeroValue5
  t9 := Tryz.underlying9
  a9 := Tryz.isAgg9
  z9 := Tryz.sizeOf9
  v9 := Tryz.zeroValue9
  t22 := Tryz.underlying25
  a22 := Tryz.isAgg25
  z22 := Tryz.sizeOf25
  v22 := Tryz.zeroValue25
  t25 := Tryz.underlying112
  a25 := Tryz.isAgg112
  z25 := Tryz.sizeOf112
  v25 := Tryz.zeroValue112
  t39 := Tryz.underlying169
  a39 := Tryz.isAgg169
  z39 := Tryz.sizeOf169
  v39 := Tryz.zeroValue169
  t45 := Tryz.underlying216
  a45 := Tryz.isAgg216
  z45 := Tryz.sizeOf216
  v45 := Tryz.zeroValue216
  t46 := Tryz.underlying217
  a46 := Tryz.isAgg217
  z46 := Tryz.sizeOf217
  v46 := Tryz.zeroValue217
  t50 := Tryz.underlying121
  a50 := Tryz.isAgg121
  z50 := Tryz.sizeOf121
  v50 := Tryz.zeroValue121
  t53 := Tryz.underlying144
  a53 := Tryz.isAgg144
  z53 := Tryz.sizeOf144
  v53 := Tryz.zeroValue144
  t55 := Tryz.underlying143
  a55 := Tryz.isAgg143
  z55 := Tryz.sizeOf143
  v55 := Tryz.zeroValue143
  t66 := Tryz.underlying254
  a66 := Tryz.isAgg254
  z66 := Tryz.sizeOf254
  v66 := Tryz.zeroValue254
  t70 := Tryz.underlying258
  a70 := Tryz.isAgg258
  z70 := Tryz.sizeOf258
  v70 := Tryz.zeroValue258
  t76 := Tryz.underlying295
  a76 := Tryz.isAgg295
  z76 := Tryz.sizeOf295
  v76 := Tryz.zeroValue295
  t77 := Tryz.underlying70
  a77 := Tryz.isAgg70
  z77 := Tryz.sizeOf70
  v77 := Tryz.zeroValue70 }
end Go.Proofs
namespace Go.Proofs.YtcdcfolhnjgigaaGreatDoor
open Go.RowKit

/-- The lines that were read. -/
def readOf (ls : List Str) : List Fl := ls.map fun x => (fileRead x).1
theorem linesE_full {ls : List Str} (h : 60 < manyL ls) : linesE ls = .bare 8 := by unfold linesE; rw [if_pos h]
theorem linesE_few {ls : List Str} (h : ¬ 60 < manyL ls) : linesE ls = firstErr (lineFault ls) (manyL ls) := by unfold linesE; rw [if_neg h]
theorem manyL_ge (ls : List Str) : ls.length - 1 ≤ manyL ls ∧ manyL ls ≤ ls.length := by unfold manyL; split <;> omega
theorem last_at {ls : List Str} {x : Str} (h : ls[ls.length - 1]? = some x) : ls.getLast?.getD [] = x := by
  rw [List.getLast?_eq_getElem?, h]; rfl
theorem manyL_nil {ls : List Str} (h : ls[ls.length - 1]? = some []) : manyL ls = ls.length - 1 := by
  unfold manyL; rw [last_at h, if_pos rfl]
theorem manyL_ne {ls : List Str} {x : Str} (h : ls[ls.length - 1]? = some x) (hx : x ≠ []) : manyL ls = ls.length := by
  unfold manyL; rw [last_at h, if_neg hx]
theorem lineFault_last {ls : List Str} {x : Str} {k : Nat} (h : ls[k]? = some x) (hk : k + 1 = ls.length) : lineFault ls k = 1 := by
  unfold lineFault; rw [h]; simp only; rw [if_pos hk]
theorem lineFault_bad {ls : List Str} {x : Str} {k : Nat} (h : ls[k]? = some x) (hk : ¬ k + 1 = ls.length) (hx : (fileRead x).2 ≠ 0) : lineFault ls k = (fileRead x).2 := by
  unfold lineFault; rw [h]; simp only; rw [if_neg hk, if_pos hx]
theorem lineFault_zero {ls : List Str} {x : Str} (h : ls[0]? = some x) (hk : ¬ 1 = ls.length) (hx : (fileRead x).2 = 0) : lineFault ls 0 = 0 := by
  unfold lineFault; rw [h]; simp only; rw [if_neg (by simpa using hk), if_neg (by simpa using hx), if_neg (by simp)]
theorem lineFault_ord {ls : List Str} {x y : Str} {k : Nat} (h : ls[k]? = some x) (hk : ¬ k + 1 = ls.length) (hx : (fileRead x).2 = 0) (h0 : 0 < k) (hy : ls[k - 1]? = some y) (hc : cmpP (fileRead x).1.path (fileRead y).1.path ≤ 0) : lineFault ls k = 9 := by
  unfold lineFault; rw [h]; simp only; rw [if_neg hk, if_neg (by simpa using hx), if_pos ⟨h0, y, hy, hc⟩]
theorem lineFault_fine {ls : List Str} {x y : Str} {k : Nat} (h : ls[k]? = some x) (hk : ¬ k + 1 = ls.length) (hx : (fileRead x).2 = 0) (hy : ls[k - 1]? = some y) (hc : ¬ cmpP (fileRead x).1.path (fileRead y).1.path ≤ 0) : lineFault ls k = 0 := by
  unfold lineFault; rw [h]; simp only; rw [if_neg hk, if_neg (by simpa using hx), if_neg]
  rintro ⟨_, g, hg, hle⟩
  rw [hy] at hg
  cases hg
  exact hc hle
theorem erOf_bad {c : Nat} (h : c ≠ 0) : erOf c = .bare c := if_neg h
theorem erOf_nil {c : Nat} (h : c = 0) : erOf c = .nil := if_pos h
theorem readOf_at {ls : List Str} {k j : Nat} {y : Str} (h : ls[j]? = some y) (hj : j < k) : (readOf (ls.take k))[j]? = some (fileRead y).1 := by
  unfold readOf; rw [List.getElem?_map, List.getElem?_take_of_lt hj, h]; rfl
theorem readOf_snoc {ls : List Str} {k : Nat} {x : Str} (h : ls[k]? = some x) : readOf (ls.take (k + 1)) = readOf (ls.take k) ++ [(fileRead x).1] := by
  unfold readOf; rw [take_snoc' h, List.map_append]; rfl

theorem Own.cells {α : Type} {enc : α → List Value} {e : TypeId} {sz B : Nat} {w : World} {l : List α} {g n c : Nat} (hen : Enc enc sz) (h : Own enc e sz B w (.slice (some ⟨g, 0, none⟩) n c) l) : ∀ (k : Nat) (x : α), l[k]? = some x → ∀ (j : Nat) (u : Value), (enc x)[j]? = some u → w.cell? ⟨g, k * sz + j, none⟩ = some u := by
  obtain ⟨_, _, b', o', hv', hga, _, _, hx'⟩ := h.at hen
  intro k x hk j u hu
  simp only [Value.slice.injEq] at hv'
  have hga' := hv'.1.trans (hga (by have := (List.getElem?_eq_some_iff.1 hk).1; omega))
  simp only [Option.some.injEq, Addr.mk.injEq, and_true] at hga'
  obtain ⟨rfl, rfl⟩ := hga'
  have := hx' k x hk j u hu
  simpa using this
theorem Own.base {α : Type} {enc : α → List Value} {e : TypeId} {sz B B' : Nat} {w : World} {v : Value} {l : List α} (h : Own enc e sz B w v l) (hB : B' ≤ B) : Own enc e sz B' w v l := by
  unfold Own World.ownsRow at h ⊢
  refine ⟨h.1, h.2.imp id ?_⟩
  rintro ⟨g, c, cs, h1, h2, h3⟩
  exact ⟨g, c, cs, h1, Nat.le_trans hB h2, h3⟩
theorem Own.cells1 {α : Type} {enc : α → List Value} {e : TypeId} {B : Nat} {w : World} {l : List α} {g n c : Nat} {f : α → Value} (hen : Enc enc 1) (hf : ∀ x, enc x = [f x]) (h : Own enc e 1 B w (.slice (some ⟨g, 0, none⟩) n c) l) : ∀ (k : Nat) (x : α), l[k]? = some x → w.cell? ⟨g, k, none⟩ = some (f x) := by
  intro k x hk
  have := h.cells hen k x hk 0 (f x) (by rw [hf]; rfl)
  simpa using this

theorem fileRead_len {s : Str} {m : Nat} (h : s.length ≤ m) : (fileRead s).1.path.length ≤ m ∧ (fileRead s).1.part.length ≤ m := by
  have hm := fun p hp => Nat.le_trans (cutAt_mem_len (c := 32) (s := s) (p := p) hp) h
  unfold fileRead
  cases hf : fileOf (cutAt 32 s) with
  | none => exact ⟨Nat.zero_le _, Nat.zero_le _⟩
  | some f =>
    simp only
    split
    · generalize cutAt 32 s = L at *
      unfold fileOf at hf
      split at hf
      · split at hf
        · cases hf; exact ⟨hm _ (by simp), hm _ (by simp)⟩
        · cases hf
      · cases hf
    · exact ⟨Nat.zero_le _, Nat.zero_le _⟩
set_option maxHeartbeats 1600000 in
set_option maxRecDepth 20000 in
theorem listRead_any (E : Nat → Addr) (B : Nat) (s : Str) (w : World) (hE : Errs [1, 2, 4, 5, 8, 9] E B w) (hT : LNum B w) (hM : LMax B w) (hs : s.length ≤ 10000) :
    Calls Tryz.prog 108 #[S s] w fun e w' => ∃ u ev, e = .returned (.tuple #[u, ev]) ∧ Own encF 69 6 w.heap.size w' u (listReadL s) ∧ ErV E w' ev (listReadE s) ∧ Below w.heap.size w w' := by
  have hBw := hE.le
  have hif := isIfaceE
  have hR : listReadE s = linesE (cutAt 10 s) := rfl
  have hL : listReadL s = if listReadE s = .nil then readOf ((cutAt 10 s).take (manyL (cutAt 10 s))) else [] := rfl
  have hsp := split1_any B s 10 w hM (by omega)
  have hpos : 0 < (cutAt 10 s).length := by rw [cutAt_length]; omega
  have hcnt : (cutAt 10 s).length ≤ 10001 := by
    rw [cutAt_length]
    have h2 : s.count 10 ≤ s.length := List.count_le_length
    omega
  have hln : ∀ x ∈ cutAt 10 s, x.length ≤ 10000 := fun p hp => by
    have := cutAt_mem_len (c := 10) hp; omega
  have V1 := fun w6 (h : Below w.heap.size w w6) => (hE.below' h hBw).var 1 (by decide)
  have V8 := fun w6 (h : Below w.heap.size w w6) => (hE.below' h hBw).var 8 (by decide)
  have V9 := fun w6 (h : Below w.heap.size w w6) => (hE.below' h hBw).var 9 (by decide)
  simp only [errG] at V1 V8 V9
  have U1 := Lib.hid V1; have U8 := Lib.hid V8; have U9 := Lib.hid V9
  clear V1 V8 V9
  generalize cutAt 10 s = ls at *
  obtain ⟨n, hn⟩ : ∃ n, ls.length = n := ⟨_, rfl⟩
  rw [hn] at hsp hpos hcnt
  obtain ⟨lst, hlst⟩ := get_ex (l := ls) (k := n - 1) (by omega)
  have hmg := manyL_ge ls
  have hmn := fun (h : lst = []) => manyL_nil (ls := ls) (by rw [hn, hlst, h])
  have hme := fun (h : lst ≠ []) => manyL_ne (ls := ls) (by rw [hn]; exact hlst) h
  rw [hn] at hmg hmn hme
  have HR := Lib.hid hR; have HL := Lib.hid hL; have HLn := Lib.hid hln
  have HN := Lib.hid hn; have HLst := Lib.hid hlst; have HMn := Lib.hid hmn; have HMe := Lib.hid hme
  clear hR hL hln hn hlst hmn hme
  have ix := fun (k : Nat) (hk : k < n) => idx_at (P := Tryz.prog) (c := n) (o := 0) (b := w.heap.size) 1 Tryz.underlying115 szStr (fun _ => rfl) k hk
  simp only [Nat.mul_one, Nat.zero_add] at ix
  have IX := Lib.hid ix; clear ix
  have iL := IX.out (n - 1) (by omega)
  have hcast : ((n - 1 : Nat) : Int) = (n : Int) - 1 := by omega
  simp only [hcast] at iL
  clear hcast
  have hj0 : (0 : Int) ≤ (n : Int) - 1 := by omega
  have hj1 : (n : Int) - 1 < (n : Int) := by omega
  obtain ⟨ml, hml⟩ : ∃ ml, manyL ls = ml := ⟨_, rfl⟩
  rw [hml] at hmg
  have HML := Lib.hid hml; clear hml
  go_enter Tryz.func108, Tryz.ntmps108
  go_wp2_with fail
  refine hsp.mono ?_
  rintro e w1 ⟨rfl, hown, hb1⟩
  clear hsp
  have hx := hown.cells1 (f := S) encS_enc (fun _ => rfl)
  have HX := Lib.hid hx; clear hx hown
  have cL := HX.out _ _ HLst.out
  have v8 := U8.out _ hb1
  by_cases h1 : 60 < n - 1
  · have g1 : (60 : Int) < (n : Int) - 1 := by omega
    have HF : Hid (listReadE s = .bare 8) := Lib.hid (by rw [HR.out]; exact linesE_full (by rw [HML.out]; omega))
    clear h1
    go_wp2_with fail
    go_quiet (fail)
    go_wp2_with fail
    go_ret2
    exact ⟨_, _, rfl, by rw [HL.out, HF.out]; exact Own.nil _ _ _ _ _, by rw [HF.out]; exact ⟨by decide, rfl⟩, Bdn hb1 _⟩
  have g1 : decide ((60 : Int) < (n : Int) - 1) = false := by simp; omega
  by_cases hB : 60 < n ∧ lst ≠ []
  · obtain ⟨h2, h3⟩ := hB
    have g2 : (60 : Int) < (n : Int) := by omega
    have g3 : (!lst.isEmpty) = true := by simpa using h3
    have HF : Hid (listReadE s = .bare 8) := Lib.hid (by rw [HR.out]; exact linesE_full (by rw [HMe.out h3]; omega))
    clear h1 h2 h3
    go_wp2_with fail
    go_quiet (fail)
    go_wp2_with fail
    go_ret2
    exact ⟨_, _, rfl, by rw [HL.out, HF.out]; exact Own.nil _ _ _ _ _, by rw [HF.out]; exact ⟨by decide, rfl⟩, Bdn hb1 _⟩
  have hg : (decide ((60 : Int) < (n : Int)) = false) ∨ ((60 : Int) < (n : Int) ∧ lst = []) := by
    by_cases h2 : 60 < n
    · exact .inr ⟨by omega, Decidable.not_not.1 fun h => hB ⟨h2, h⟩⟩
    · exact .inl (by simp; omega)
  have hm60 : ¬ 60 < ml := by
    rcases hg with h | ⟨h, h3⟩
    · simp at h; omega
    · have := HMn.out h3; rw [HML.out] at this; omega
  have HF : Hid (listReadE s = firstErr (lineFault ls) ml) := Lib.hid (by rw [HR.out, linesE_few (by rw [HML.out]; exact hm60), HML.out])
  clear hB h1 v8
  rcases hg with g2 | ⟨g2, g3'⟩
  case' inr =>
    have g3 : (!lst.isEmpty) = false := by rw [g3']; rfl
    clear g3'
  all_goals
    go_wp2_with fail
    go_loopw [2, 3, 6, 35] (fun r1 r2 out i wr => r1 = .slice none 0 0 ∧ r2 = .nilIface ∧ ∃ k : Nat, k < n ∧ i = .int .i64 k ∧ Hid (∀ j < k, lineFault ls j = 0) ∧ Own encF 69 6 w1.heap.size wr out (readOf (ls.take k)) ∧ Below w1.heap.size w1 wr) (fun _ _ _ i _ => n - (intOf i).toNat)
    case atStart => exact ⟨rfl, rfl, 0, hpos, rfl, Lib.hid fun j hj => absurd hj (by omega), Own.nil _ _ _ _ _, Below.refl _ _⟩
    case round =>
      obtain ⟨rfl, rfl, k, hk, rfl, hj, ho, hb⟩ := hrel
      have hbw := hb1.trans (hb.mono hb1.size)
      clear cL iL
      obtain ⟨x, hxk⟩ := get_ex (l := ls) (k := k) (by rw [HN.out]; exact hk)
      have c1 := HX.out k x hxk
      have c1 := (hb.cell (World.block_lt_of_cell? w1 _ c1)).trans c1
      have i1 := IX.out k hk
      have hk1 : (k : Int) < (n : Int) := by omega
      have hxl := HLn.out x (List.mem_of_getElem? hxk)
      have Hxk := Lib.hid hxk; clear hxk
      have hb' : Below w.heap.size w wr := hbw
      have hRd := fileRead_any E B x wr ((hE.sub (by decide)).below' hbw hBw) (hT.below' hbw hBw) (hM.below' hbw hBw) hxl
      have HRd := Lib.hid hRd; clear hRd
      by_cases hlast : k = n - 1
      · have gk : ((k : Int) == (n : Int) - 1) = true := by simp; omega
        have hxl' : x = lst := by have h1 := Hxk.out; rw [hlast, HLst.out] at h1; exact (Option.some.inj h1).symm
        by_cases hx0 : x = []
        · subst hx0
          have hmk := HMn.out hxl'.symm
          have hE0 : listReadE s = .nil := by rw [HF.out]; exact firstErr_all fun j hj' => hj.out j (by rw [HML.out] at hmk; omega)
          have hL0 : listReadL s = readOf (ls.take k) := by rw [HL.out, if_pos hE0, hmk, hlast]
          have HE0 := Lib.hid hE0; have HL0 := Lib.hid hL0
          clear hE0 hL0 hmk hxl' hlast
          go_wp2_with fail
          go_ret2
          exact ⟨_, _, rfl, by rw [HL0.out]; exact Own.base ho hb1.size, by rw [HE0.out]; rfl, hbw⟩
        · have gx : x.isEmpty = false := by simpa using hx0
          have hmk := HMe.out (hxl' ▸ hx0)
          have hf := lineFault_last Hxk.out (by rw [HN.out]; omega)
          have hE0 : listReadE s = .loc 1 k := by
            rw [HF.out, ← hf]; refine firstErr_hit (by rw [HML.out] at hmk; omega) hj.out (by rw [hf]; decide)
          have hL0 : listReadL s = [] := by rw [HL.out, hE0]; rfl
          have HE0 := Lib.hid hE0; have HL0 := Lib.hid hL0
          clear hE0 hL0 hmk hxl' hlast hx0 hf
          go_wp2_with fail
          refine HRd.out.mono ?_
          rintro e w2 ⟨ev, rfl, hev, hb2⟩
          have hb2' := hbw.trans (hb2.mono hbw.size)
          clear hev
          generalize fileRead x = fx at *
          have hb3 : Below w.heap.size w (w2.alloc (.cells #[S fx.1.path, S fx.1.part, .int .i64 fx.1.n, .int .i64 fx.1.lo, .int .i64 fx.1.hi, .int .i64 fx.1.seq] 69)) := hb2'.alloc hb2'.size _
          have v1 := U1.out _ hb3
          go_wp2_with fail
          go_ret2
          exact ⟨_, _, rfl, by rw [HL0.out]; exact Own.nil _ _ _ _ _, by rw [HE0.out]; exact ErV.fresh (by decide) _ _ _ _ (by simp), hb3.alloc hb3.size _⟩
      have gk : ((k : Int) == (n : Int) - 1) = false := by simp; omega
      have hkn : ¬ k + 1 = ls.length := by rw [HN.out]; omega
      have hkl : k < ml := by omega
      have hkn1 : k + 1 < n := by omega
      have HKN := Lib.hid hkn
      clear hkn hlast hxl
      by_cases hck : (fileRead x).2 = 0
      case neg =>
        have hf := lineFault_bad Hxk.out HKN.out hck
        have hE0 : listReadE s = .loc (fileRead x).2 k := by
          rw [HF.out, ← hf]; exact firstErr_hit hkl hj.out (by rw [hf]; exact hck)
        have hL0 : listReadL s = [] := by rw [HL.out, hE0]; rfl
        have hfe := erOf_bad hck
        have HE0 := Lib.hid hE0; have HL0 := Lib.hid hL0; have HFE := Lib.hid hfe
        clear hE0 hL0 hf hfe hck
        go_wp2_with fail
        refine HRd.out.mono ?_
        rintro e w2 ⟨ev, rfl, hev, hb2⟩
        have hb2' := hbw.trans (hb2.mono hbw.size)
        rw [HFE.out] at hev
        obtain ⟨hcr, rfl⟩ := hev
        clear HRd
        generalize fileRead x = fx at *
        have hb3 : Below w.heap.size w (w2.alloc (.cells #[S fx.1.path, S fx.1.part, .int .i64 fx.1.n, .int .i64 fx.1.lo, .int .i64 fx.1.hi, .int .i64 fx.1.seq] 69)) := hb2'.alloc hb2'.size _
        obtain ⟨ce, hce⟩ : ∃ ce, fx.2 = ce := ⟨_, rfl⟩
        rw [hce] at hcr HE0 ⊢
        clear hce
        go_wp2_with fail
        go_quiet (fail)
        go_wp2_with fail
        go_ret2
        exact ⟨_, _, rfl, by rw [HL0.out]; exact Own.nil _ _ _ _ _, by rw [HE0.out]; exact ErV.fresh hcr _ _ _ _ (by simp), (Bdn hb3 _).alloc hb3.size _⟩
      have HK := Lib.hid hck; clear hck
      have hsn := readOf_snoc Hxk.out
      have hql : (readOf (ls.take k)).length = k := by unfold readOf; rw [List.length_map, List.length_take, HN.out]; omega
      have hfk : (k = 0 ∧ lineFault ls k = 0) ∨ (0 < k) := by
        rcases Nat.eq_zero_or_pos k with h | h
        · left; refine ⟨h, ?_⟩; subst h; exact lineFault_zero Hxk.out (by have := HKN.out; omega) HK.out
        · exact .inr h
      have hy : 0 < k → ∃ y, ls[k - 1]? = some y ∧ (readOf (ls.take k))[k - 1]? = some (fileRead y).1 := fun h => by
        obtain ⟨y, hy⟩ := get_ex (l := ls) (k := k - 1) (by rw [HN.out]; omega)
        exact ⟨y, hy, readOf_at hy (by omega)⟩
      have hyl := fun y (hy : ls[k - 1]? = some y) => HLn.out y (List.mem_of_getElem? hy)
      have HYL := Lib.hid hyl; clear hyl
      generalize readOf (ls.take k) = q at *
      have HQl := Lib.hid hql; have HSn := Lib.hid hsn
      clear hql hsn
      rcases hfk with ⟨h0, hf⟩ | hk0
      · have gk0 : decide (0 < k) = false := by simp [h0]
        have Hf := Lib.hid hf; have H0 := Lib.hid h0
        clear hf h0 hy HYL
        go_wp2_with fail
        refine HRd.out.mono ?_
        rintro e w2 ⟨ev, rfl, hev, hb2⟩
        rw [erOf_nil HK.out] at hev
        obtain rfl : ev = .nilIface := hev
        have hb2' := hb.trans (hb2.mono hb.size)
        have ho2 := ho.below hb2
        clear HRd HK
        generalize fileRead x = fx at *
        have hb3 : Below w1.heap.size w1 (w2.alloc (.cells #[S fx.1.path, S fx.1.part, .int .i64 fx.1.n, .int .i64 fx.1.lo, .int .i64 fx.1.hi, .int .i64 fx.1.seq] 69)) := hb2'.alloc hb2'.size _
        have ho3 := ho2.alloc (.cells #[S fx.1.path, S fx.1.part, .int .i64 fx.1.n, .int .i64 fx.1.lo, .int .i64 fx.1.hi, .int .i64 fx.1.seq] 69)
        have CF := Lib.hid (fun w6 (h : Below (w2.alloc (.cells #[S fx.1.path, S fx.1.part, .int .i64 fx.1.n, .int .i64 fx.1.lo, .int .i64 fx.1.hi, .int .i64 fx.1.seq] 69)).heap.size (w2.alloc (.cells #[S fx.1.path, S fx.1.part, .int .i64 fx.1.n, .int .i64 fx.1.lo, .int .i64 fx.1.hi, .int .i64 fx.1.seq] 69)) w6) => fileCells (f := fx.1) rfl h)
        go_wp2_with fail
        go_quiet (fail)
        obtain ⟨c0, c1, c2, c3, c4, c5⟩ := CF.out _ (Bdn (Below.refl _ _) nq)
        have hb3 := Bdn hb3 nq
        have ho3 := ho3.below (Bdn (Below.refl _ _) nq)
        clear CF
        generalize (w2.alloc (.cells #[S fx.1.path, S fx.1.part, .int .i64 fx.1.n, .int .i64 fx.1.lo, .int .i64 fx.1.hi, .int .i64 fx.1.seq] 69)).drewN nq = w3 at *
        go_wp2_with (at_builtin; refine wpList_app rfl _ _ _ rfl w1.heap.size elFl _ q.length _ rfl (ho3.alloc _) (.slice (some ⟨w3.heap.size, 0, none⟩) 1 1) 1 (encF fx.1) rfl (src_one rfl rfl (by simp [Value.oneCell'])) (by rw [HQl.out]; unfold maxLen; omega) (by rw [HQl.out]; omega) (by have := hb3.size; simp; omega) ?_; intro v' w4 hown hg _)
        go_roundw
        case rel => exact ⟨rfl, rfl, k + 1, by omega, by go_num, (Lib.hid fun j hj' => by
          obtain rfl : j = k := by have := H0.out; omega
          exact Hf.out), by rw [HSn.out]; exact Own.snoc hown, Bapp (hb3.alloc hb3.size _) (ho3.alloc _) hg (Nat.le_refl _) (by have := hb3.size; simp; omega)⟩
        case measure => simp [intOf]; omega
      obtain ⟨y, hyk, hqk⟩ := hy hk0
      have hyl := fileRead_len (HYL.out y hyk)
      have hxl' := fileRead_len (HLn.out x (List.mem_of_getElem? Hxk.out))
      clear hy HYL
      have gk0 : decide (0 < k) = true := decide_eq_true hk0
      have hk01 : (1 : Int) ≤ k := by omega
      have hk02 : (0 : Int) ≤ (k : Int) - 1 := by omega
      have hk03 : (k : Int) - 1 < (k : Int) := by omega
      have hwk : IntKind.i64.wrap ((k : Int) - 1) = (k : Int) - 1 := by rw [IntKind.wrap_i64]; omega
      obtain ⟨g2', cap, cur, rfl, hBg, _, hcap, hmx, _, _⟩ := ho.open (by rw [HQl.out]; omega)
      rw [HQl.out] at ho hcap ⊢
      have i2 := idx_at (c := cap) (o := 0) (b := g2') (n := k) 6 Tryz.underlying56 szFl (fun _ => rfl) (k - 1) (by omega)
      have hcast : ((k - 1 : Nat) : Int) = (k : Int) - 1 := by omega
      simp only [hcast, Nat.zero_add] at i2
      have d0 := ho.cells encF_enc (k - 1) _ hqk 0 _ rfl
      have hfo := fun h => lineFault_ord Hxk.out HKN.out HK.out hk0 hyk h
      have hff := fun h => lineFault_fine Hxk.out HKN.out HK.out hyk h
      have HOrd := Lib.hid hfo; have HFF := Lib.hid hff
      clear hfo hff hcast hyk hqk
      go_wp2_with fail
      refine HRd.out.mono ?_
      rintro e w2 ⟨ev, rfl, hev, hb2⟩
      rw [erOf_nil HK.out] at hev
      obtain rfl : ev = .nilIface := hev
      have hb2' := hb.trans (hb2.mono hb.size)
      have ho2 := ho.below hb2
      have d0 := (hb2.cell (World.block_lt_of_cell? wr _ d0)).trans d0
      clear HRd HK c1 ho hbw hb'
      generalize fileRead x = fx at *
      generalize fileRead y = fy at *
      have hb3 : Below w1.heap.size w1 (w2.alloc (.cells #[S fx.1.path, S fx.1.part, .int .i64 fx.1.n, .int .i64 fx.1.lo, .int .i64 fx.1.hi, .int .i64 fx.1.seq] 69)) := hb2'.alloc hb2'.size _
      have hb2a : Below w2.heap.size w2 (w2.alloc (.cells #[S fx.1.path, S fx.1.part, .int .i64 fx.1.n, .int .i64 fx.1.lo, .int .i64 fx.1.hi, .int .i64 fx.1.seq] 69)) := (Below.refl _ _).alloc (Nat.le_refl _) _
      have d0 := (hb2a.cell (World.block_lt_of_cell? w2 _ d0)).trans d0
      have ho3 := ho2.alloc (.cells #[S fx.1.path, S fx.1.part, .int .i64 fx.1.n, .int .i64 fx.1.lo, .int .i64 fx.1.hi, .int .i64 fx.1.seq] 69)
      have CF := Lib.hid (fun w6 (h : Below (w2.alloc (.cells #[S fx.1.path, S fx.1.part, .int .i64 fx.1.n, .int .i64 fx.1.lo, .int .i64 fx.1.hi, .int .i64 fx.1.seq] 69)).heap.size (w2.alloc (.cells #[S fx.1.path, S fx.1.part, .int .i64 fx.1.n, .int .i64 fx.1.lo, .int .i64 fx.1.hi, .int .i64 fx.1.seq] 69)) w6) => fileCells (f := fx.1) rfl h)
      have p0 := (CF.out _ (Below.refl _ _)).1
      go_wp2_with fail
      generalize (w2.alloc (.cells #[S fx.1.path, S fx.1.part, .int .i64 fx.1.n, .int .i64 fx.1.lo, .int .i64 fx.1.hi, .int .i64 fx.1.seq] 69)) = w2b at *
      have hb3d := hb3.drew
      have hbw3 := hb1.trans (hb3d.mono hb1.size)
      have hC := listCompare_any E B fx.1.path fy.1.path w2b.drew ((hE.sub (by decide)).below' hbw3 hBw) (hT.below' hbw3 hBw) (hM.below' hbw3 hBw) (by have := hxl'.1; omega) (by have := hyl.1; omega)
      obtain ⟨cv, hcv⟩ : ∃ cv, cmpP fx.1.path fy.1.path = cv := ⟨_, rfl⟩
      rw [hcv] at hC HOrd HFF
      have HC := Lib.hid hC
      clear hC hcv
      by_cases hle : cv ≤ 0
      · have hf := HOrd.out hle
        have hE0 : listReadE s = .loc 9 k := by
          rw [HF.out, ← hf]; exact firstErr_hit hkl hj.out (by rw [hf]; decide)
        have hL0 : listReadL s = [] := by rw [HL.out, hE0]; rfl
        have HE0 := Lib.hid hE0; have HL0 := Lib.hid hL0
        clear hE0 hL0 hf
        go_region_held3 (fun w' => w'.cell? ⟨w2.heap.size, 0, none⟩ = some (S fx.1.path) ∧ w'.cell? ⟨g2', (k - 1) * 6, none⟩ = some (S fy.1.path)) (exact ⟨p0, d0⟩) (first | (go_at_call 156; refine HC.out.mono ?_; rintro e w3 ⟨rfl, hb4⟩; have p0' := (hb4.cell (World.block_lt_of_cell? w2b _ p0)).trans p0; have d0' := (hb4.cell (World.block_lt_of_cell? w2b _ d0)).trans d0; clear p0 d0; have p0 := p0'; have d0 := d0'; clear p0' d0'))
        have hb4' := hb3d.trans (hb4.mono hb3d.size)
        have hbw4 := hb1.trans (hb4'.mono hb1.size)
        have v9 := U9.out _ hbw4
        go_wp2_with fail
        go_ret2
        exact ⟨_, _, rfl, by rw [HL0.out]; exact Own.nil _ _ _ _ _, by rw [HE0.out]; exact ErV.fresh (by decide) _ _ _ _ (by simp), hbw4.alloc hbw4.size _⟩
      · have hf := HFF.out (by omega)
        have Hf := Lib.hid hf; clear hf
        have hgt : 0 < cv := by omega
        clear hle
        go_region_held3 (fun w' => w'.cell? ⟨w2.heap.size, 0, none⟩ = some (S fx.1.path) ∧ w'.cell? ⟨g2', (k - 1) * 6, none⟩ = some (S fy.1.path)) (exact ⟨p0, d0⟩) (first | (go_at_call 156; refine HC.out.mono ?_; rintro e w3 ⟨rfl, hb4⟩; have p0' := (hb4.cell (World.block_lt_of_cell? w2b _ p0)).trans p0; have d0' := (hb4.cell (World.block_lt_of_cell? w2b _ d0)).trans d0; clear p0 d0; have p0 := p0'; have d0 := d0'; clear p0' d0'))
        have hb4' := hb3d.trans (hb4.mono hb3d.size)
        obtain ⟨c0, c1, c2, c3, c4, c5⟩ := CF.out _ ((Below.refl _ _).drew.trans hb4)
        have ho3 := (ho3.below ((Below.refl _ _).drew.trans hb4))
        have hb3 := hb4'
        clear CF p0 d0 hb4'
        go_wp2_with (at_builtin; refine wpList_app rfl _ _ _ rfl w1.heap.size elFl _ q.length _ rfl (ho3.alloc _) (.slice (some ⟨w3.heap.size, 0, none⟩) 1 1) 1 (encF fx.1) rfl (src_one rfl rfl (by simp [Value.oneCell'])) (by rw [HQl.out]; unfold maxLen; omega) (by rw [HQl.out]; omega) (by have := hb3.size; simp; omega) ?_; intro v' w4 hown hg _)
        go_roundw
        case rel => exact ⟨rfl, rfl, k + 1, by omega, by go_num, (Lib.hid fun j hj' => by
          rcases Nat.lt_or_ge j k with h | h
          · exact hj.out j h
          · obtain rfl : j = k := by omega
            exact Hf.out), by rw [HSn.out]; exact Own.snoc hown, Bapp (hb3.alloc hb3.size _) (ho3.alloc _) hg (Nat.le_refl _) (by have := hb3.size; simp; omega)⟩
        case measure => simp [intOf]; omega
end Go.Proofs.YtcdcfolhnjgigaaGreatDoor
