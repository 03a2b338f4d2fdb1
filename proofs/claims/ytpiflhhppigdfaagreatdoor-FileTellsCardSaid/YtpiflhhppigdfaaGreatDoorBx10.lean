/- slices.Values, AppendSeq, Collect at []api.Row: a range over a function. row.Compare, row.Less: the walks; what they call of package cmp. DERIVED: THE SHELF's CONTRACTS AT THIS DUMP, IN PLAIN WORDS (tools/lay-plain.mjs out of 'TryzSortF.lean', which tools/lay-shelf.mjs wrote): THE SAME DECLARATIONS UNDER THE SAME NAMES: 'import', 'namespace', 'open', 'def', 'theorem' AND NOTHING ELSE: no command of the shelf's: FOR A HAND-IN. Each laying: the table of numbers ('.._ren') and one theorem, a field a fact of the dump's own or the kernel's comparison; each contract: ONE APPLICATION. deedboxref1: Byte, below, Decimal: the numeral. deedboxref1: NumberOf, NumbersOf: the walks. -/
import Derived.Test.YtpiflhhppigdfaaGreatDoorBx9
import Derived.RangeFuncBox
import Derived.RangeFuncNested
import Derived.RangeFuncLeaves
import Derived.Shelf.Abstract
import Derived.WalkKit
import Derived.OwnWalkIn
import Derived.TacticsInMore
import Derived.LoopNIn
import Derived.LoopIn
import Derived.Maps.AppendAt
import Derived.Deep.RegionHeld3
import Derived.Deep.CutBlock
import Derived.Deep.DeepCutAuto
import Derived.Shelf.SlSortCmp.WholeK
import Derived.Test.YtpiflhhppigdfaaGreatDoorProg
import Derived.Test.YtpiflhhppigdfaaGreatDoorBx2
import Derived.Laws.BytesArg
import Derived.Lib.ItoaLen
import Derived.Outline
import Derived.Test.YtpiflhhppigdfaaGreatDoorBx5
import Derived.Test.YtpiflhhppigdfaaGreatDoorBx4
namespace Go.Proofs.YtpiflhhppigdfaaGreatDoor
open Go.RowKit Go.Shelf
attribute [local go_sem] Oper.semAt_some

set_option maxRecDepth 100000 in
set_option maxHeartbeats 2000000 in
/-- slices.Values's closure, for every loop body that keeps what lay below n₀. -/
theorem values1R_in (F : Fence) (n : Nat) (h7 : F.fn 236) (hro : F.round = none) (hn : 1 ≤ n) (l Bs n₀ : Nat) (a : Option Addr) (c b o : Nat) (zs : List Rw) (ha : 0 < zs.length → a = some ⟨b, o, none⟩) (hb : 0 < zs.length → b < n₀) (J Jx : List Rw → World → Prop)
    (W : World) (hJ : AbidesFrom W.heap.size J) (hn₀ : n₀ ≤ W.heap.size) (hcm : zs.length ≤ 9223372036854775807)
    (hY : ∀ pre x W1, J pre W1 → pre.length < zs.length → YieldAt F (n - 1) Tryz.prog l #[rowV x] W1 fun e W' =>
      (e = .returned (.bool true) ∧ J (pre ++ [x]) W' ∧ Below n₀ W1 W') ∨ (e = .returned (.bool false) ∧ Jx (pre ++ [x]) W'))
    (hBs : W.cell? ⟨Bs, 0, none⟩ = some (.slice a zs.length c)) (hx : ∀ (k : Nat) (x : Rw), zs[k]? = some x → ∀ (j : Nat) (u : Value), (encR x)[j]? = some u → W.cell? ⟨b, o + k * 3 + j, none⟩ = some u) (h0 : J [] W) :
    CallsIn F n Tryz.prog 236 #[.func (.yield l) #[] #[], .pointer (some ⟨Bs, 0, none⟩)] W fun e W' => (∃ v, e = .returned v) ∧ ((∃ ys, ys = zs ∧ J ys W') ∨ (∃ pre, pre <+: zs ∧ Jx pre W')) := by
  refine callsIn_of_wp Tryz.func236 rfl h7 ?_ hro
  simp only [Tryz.ntmps236, List.size_toArray, List.length_cons, List.length_nil, Nat.reduceAdd, Nat.reduceSub, Array.replicate_succ, Array.replicate_zero, List.push_toArray, List.append_toArray, List.nil_append, List.cons_append]
  gi_wp2
  gi_loopw [7] (fun i wr => ∃ k : Nat, k ≤ zs.length ∧ i = .int .i64 k ∧ J (zs.take k) wr ∧ Below n₀ W wr) (fun i _ => zs.length - (intOf i).toNat)
  case atStart => exact ⟨0, Nat.zero_le _, rfl, h0, Below.refl _ _⟩
  case round =>
    obtain ⟨k, hk, rfl, hJs, hnx⟩ := hrel
    by_cases hlt : k < zs.length
    case neg =>
      obtain rfl : k = zs.length := by omega
      rw [List.take_length] at hJs
      gi_wp2
      go_end0
      exact ⟨⟨_, rfl⟩, .inl ⟨_, rfl, hJs⟩⟩
    obtain ⟨x, hxk⟩ := get_ex hlt
    have hbn := hb (by omega)
    have hcl := fun j u hu => (hnx.cell (p := ⟨b, o + k * 3 + j, none⟩) hbn).trans (hx k x hxk j u hu)
    have c0 := hcl 0 _ rfl
    have c1 := hcl 1 _ rfl
    have c2 := hcl 2 _ rfl
    have i1 := idx_at (c := c) 3 Tryz.underlying42 szRw ha k hlt
    have hk1 : (k : Int) < (zs.length : Int) := by omega
    simp only [Nat.add_zero] at c0 c1 c2
    obtain ⟨e0, e1, e2⟩ := rowCells (r := x) (w := wr) rfl (Below.refl _ _)
    have hJa : J (zs.take k) (wr.alloc (.cells #[S x.part, .int .i64 x.key, .int .i64 x.val] 48)) := hJ _ _ _ none hJs (World.grownBy_alloc wr _ none) (fun r e => by cases e)
    obtain ⟨fn, tmps, assign, body, hy, hR⟩ := hY _ x _ hJa (by rw [List.length_take]; omega)
    have hsn := take_snoc' hxk
    have HSn := Lib.hid hsn
    clear hsn hxk hcl
    gi_wp2
    refine hR.mono ?_
    rintro e W3 (⟨rfl, hJ3, hk3⟩ | ⟨rfl, hJx3⟩)
    · gi_wp2
      go_roundw
      case rel => exact ⟨k + 1, by omega, by simp, by rw [HSn.out]; exact hJ3, (hnx.alloc (Nat.le_trans hn₀ hnx.size) _).trans hk3⟩
      case measure => simp [intOf]; omega
    · gi_wp2
      refine bodyPost_ret (results_none rfl _ _ _) rfl ?_
      exact ⟨⟨_, rfl⟩, .inr ⟨_, by rw [← HSn.out]; exact List.take_prefix _ _, hJx3⟩⟩
theorem valuesR_in (F : Fence) (n : Nat) (h5 : F.fn 172) (hro : F.round = none) (a : Option Addr) (len cap : Nat) (w : World) :
    CallsIn F n Tryz.prog 172 #[.slice a len cap] w fun e w' => e = .returned (.func (.func 236) #[] #[.pointer (some ⟨w.heap.size, 0, none⟩)]) ∧ w' = w.alloc (.cells #[.slice a len cap] 42) := by
  refine callsIn_of_wp Tryz.func172 rfl h5 ?_ hro
  simp only [Tryz.ntmps172, List.size_toArray, List.length_cons, List.length_nil, Nat.reduceAdd, Nat.reduceSub, Array.replicate_succ, Array.replicate_zero, List.push_toArray, List.append_toArray, List.nil_append, List.cons_append]
  gi_wp2
  go_ret
  exact ⟨rfl, rfl⟩
/-- slices.Values(l) hands back a value that yields all of l, in order. -/
theorem valuesR_stops (F : Fence) (n : Nat) (h7 : F.fn 236) (hro : F.round = none) (hn : 1 ≤ n) (Bs n₀ : Nat) (v : Value) (zs : List Rw) (w0 w : World) (hBs : Bs < w.heap.size) (hn₀ : n₀ ≤ w.heap.size)
    (hc : w.cell? ⟨Bs, 0, none⟩ = some v) (hl : RowsAt w0 v zs) (hlow : w0.heap.size ≤ n₀) (hb0 : Below w0.heap.size w0 w) :
    SeqStopsK F n Tryz.prog 236 #[.pointer (some ⟨Bs, 0, none⟩)] (fun x : Rw => #[rowV x]) (Below n₀) (fun ys => ys = zs) (fun pre => pre <+: zs) zs.length w := fun l J Jx W hW hJ _ hY h0 => by
  obtain ⟨a, c, b, o, rfl, ha, hcc, hcm, hx⟩ := hl
  have hbn : 0 < zs.length → b < w0.heap.size := fun h => by
    obtain ⟨x, hxk⟩ := get_ex (l := zs) (k := 0) h
    exact World.block_lt_of_cell? w0 ⟨b, o + 0 * 3 + 0, none⟩ (hx 0 x hxk 0 _ rfl)
  have hbW := hb0.trans (hW.mono hb0.size)
  refine values1R_in F n h7 hro hn l Bs n₀ a c b o zs ha (fun h => Nat.lt_of_lt_of_le (hbn h) hlow) J Jx W hJ (Nat.le_trans hn₀ hW.size) (by unfold maxLen at hcm; omega) hY ((hW.cell (p := ⟨Bs, 0, none⟩) hBs).trans hc) (fun k x hk j u hu => ?_) h0
  have h1 := hx k x hk j u hu
  exact (hbW.cell (World.block_lt_of_cell? w0 _ h1)).trans h1

theorem cells_new3 (w : World) (cs : List Value) (t : TypeId) : ∀ j u, cs[j]? = some u → (w.alloc (.cells cs.toArray t)).cell? ((⟨w.heap.size, 0, none⟩ : Addr).add j) = some u := fun j u hu => by
  rw [add_lit, cell_of_row (w.alloc _) w.heap.size _ cs.toArray t (0, 0) (heap_alloc_new w _)]
  simpa using hu
theorem infoRw : (Tryz.prog.info? 48).map (fun i => (i.zero, i.size, i.bytes)) = some (some (.agg #[.string ByteArray.empty, .int .i64 0, .int .i64 0]), 3, 32) := by kernel_rfl
set_option maxRecDepth 100000 in
set_option maxHeartbeats 2000000 in
/-- slices.AppendSeq(nil, seq): all that seq yields. -/
theorem appendSeqR_in (F : Fence) (n : Nat) (h3 : F.fn 285) (hro : F.round = none) (hn : 3 ≤ n) (gf : Nat) (lb : Array Value) (hFg : F.fn gf) (eg : ∀ args w, (callFunc gf args).run Tryz.prog w = .ok (.enter gf args) w) (zs : List Rw) (hz : zs.length ≤ 100000) (n₀ : Nat) (w : World) (hn₀ : n₀ ≤ w.heap.size)
    (hseq : SeqStopsK F (n - 1) Tryz.prog gf lb (fun x : Rw => #[rowV x]) (Below n₀) (fun ys => ys = zs) (fun pre => pre <+: zs) zs.length w) :
    CallsIn F n Tryz.prog 285 #[.slice none 0 0, .func (.func gf) #[] lb] w fun e w' => ∃ v, e = .returned v ∧ Own encR 48 3 w.heap.size w' v zs ∧ Below w.heap.size w w' := by
  have h1 : 1 ≤ n := by omega
  obtain ⟨i0, hi, hz0, hz1, hz2⟩ := info_parts infoRw
  refine callsIn_of_wp_marks Tryz.func285 rfl h3 ?_ hro
  simp only [Tryz.ntmps285, List.size_toArray, List.length_cons, List.length_nil, Nat.reduceAdd, Nat.reduceSub, Array.replicate_succ, Array.replicate_zero, List.push_toArray, List.append_toArray, List.nil_append, List.cons_append]
  gi_wp2
  have bO := Boxed.new w 42 (.slice none 0 0)
  have hB0 : Below w.heap.size w (w.alloc (.cells #[.slice none 0 0] 42)) := (Below.refl _ w).alloc (Nat.le_refl _) _
  have hsz : (w.alloc (.cells #[.slice none 0 0] 42)).heap.size = w.heap.size + 1 := by simp
  have hseq' : SeqStopsK F (n - 1) Tryz.prog gf lb (fun x : Rw => #[rowV x]) (Below n₀) (fun ys => ys = zs) (fun pre => pre <+: zs) zs.length (w.alloc (.cells #[.slice none 0 0] 42)) := fun l J Jx W hW => hseq l J Jx W (hB0.trans (hW.mono hB0.size))
  obtain ⟨W0, hW0⟩ : ∃ W0, w.alloc (.cells #[.slice none 0 0] 42) = W0 := ⟨_, rfl⟩
  rw [hW0] at bO hB0 hsz hseq' ⊢
  clear hW0
  refine wpIn_rangeFunc_ownH hro h1 (gf := gf) (lb := lb) rfl hFg eg hseq' belowK_t (belowK_b (by omega)) (Below.refl _ _) (fun _ => rfl)
    (fun pre W => (∃ v, Boxed W w.heap.size 42 v ∧ W.ownsRow w.heap.size 48 3 v pre.length (pre.flatMap encR) ∧ True) ∧ Below w.heap.size w W)
    (fun _ _ _ => False)
    (OwnFrom.and (Go.Own.from (holdsRow_own w.heap.size w.heap.size 42 48 3 (fun pre : List Rw => pre.length) (fun pre => pre.flatMap encR) (fun _ _ => True)) _) (ownFrom_below (Nat.le_refl _) (by omega)))
    (fun _ _ _ _ _ hs _ _ => hs)
    ⟨⟨_, bO, World.ownsRow_nil _ _ _ _, trivial⟩, hB0⟩
    (fun x a' W => ∃ Bx, w.heap.size < Bx ∧ W.heap[Bx]? = some (.cells #[S x.part, .int .i64 x.key, .int .i64 x.val] 48 (0, 0)) ∧ a' = { tmps := #[.slice none 0 0, .func (.func gf) #[] lb, .pointer (some ⟨w.heap.size, 0, none⟩), undef, .slice none 0 0, .pointer (some ⟨Bx, 0, none⟩), .func (.func gf) #[] lb, rowV x, undef, undef, undef, undef, undef], defers := [] })
    (fun x a' _ X Y row hs hg hr => by
      obtain ⟨Bx, h1, h2, h3⟩ := hs
      refine ⟨Bx, h1, (hg.block Bx (Array.getElem?_eq_some_iff.1 h2).1 (fun e => ?_)).trans h2, h3⟩
      obtain ⟨_, o, ho, hc⟩ := hr _ e.symm
      rw [h2] at ho; cases ho; cases hc)
    ?assign ?body ?done ?stop
  case assign =>
    rintro l pre x W K ⟨⟨v, hv, hrow, -⟩, hB1⟩ hK
    gi_wp2
    exact hK _ _ ((KeepsOthers.alloc _ _).from _) ((Below.refl _ W).alloc (Nat.le_trans hn₀ hB1.size) _) ⟨⟨v, hv.alloc _, hrow.alloc _, trivial⟩, hB1.alloc hB1.size _⟩ ⟨W.heap.size, hv.lt, World.alloc_heap_new W _, rfl⟩
  case body =>
    rintro l pre x a' W hl ⟨r, hr⟩ ⟨⟨v, hv, hrow, -⟩, hB⟩ ⟨Bx, hBx, bX, rfl⟩ hlt
    have hc := hv.cell
    have c0 : W.cell? ⟨Bx, 0, none⟩ = some (S x.part) := by simp [World.cell?, bX]
    have c1 : W.cell? ⟨Bx, 1, none⟩ = some (.int .i64 x.key) := by simp [World.cell?, bX]
    have c2 : W.cell? ⟨Bx, 2, none⟩ = some (.int .i64 x.val) := by simp [World.cell?, bX]
    gi_wp2_with (gi_at_builtin; refine wpListIn_append_own _ rfl _ _ 42 rfl w.heap.size 48 i0 _ 3 32 Tryz.underlying42 hi hz0 hz1 hz2 rfl (by decide) _ _ _ rfl (hrow.alloc _) ⟨W.heap.size, 0, none⟩ 1 1 (encR x) rfl rfl (cells_new3 _ _ _) (by simp [Value.oneCell']) (by unfold maxLen; omega) (by omega) (by have := hB.size; simp; omega) ?_; intro v' w1 hown' hgrow _; obtain ⟨g', cap', rfl⟩ := ownsRow_succ hown'; obtain ⟨hv1, hv2, hr2, hk2, hb2⟩ := hv.appended (by decide) hrow hB.size (Nat.le_refl _) hown' hgrow; have hc1 := hv1.cell; have hf1 := hv1.frozen)
    exact ⟨hk2.from _, hb2.mono hn₀, ⟨_, hv2, by simpa using hr2, trivial⟩, hB.trans hb2⟩
  case done =>
    rintro D ys W hD rfl ⟨⟨v, hv, hrow, -⟩, hB⟩ hK
    have hc := hv.cell
    gi_wp2
    refine ⟨by simp, .inl ⟨_, _, rfl, run_takeDeferred hK, ?_⟩⟩
    exact ⟨_, results_tmp rfl _ _ _, v, rfl, ownsRow_putObj hrow _ hK rfl, hB.trans (belowK_b (w := w) (Nat.le_refl _) W D _ _ (by omega) hK rfl rfl)⟩
  case stop =>
    rintro D c pre W _ _ h _
    exact h.elim
theorem collectR_in (F : Fence) (n : Nat) (h3 : F.fn 285) (h4 : F.fn 234) (hro : F.round = none) (hn : 4 ≤ n) (gf : Nat) (lb : Array Value) (hFg : F.fn gf) (eg : ∀ args w, (callFunc gf args).run Tryz.prog w = .ok (.enter gf args) w) (zs : List Rw) (hz : zs.length ≤ 100000) (n₀ : Nat) (w : World) (hn₀ : n₀ ≤ w.heap.size)
    (hseq : SeqStopsK F (n - 1 - 1) Tryz.prog gf lb (fun x : Rw => #[rowV x]) (Below n₀) (fun ys => ys = zs) (fun pre => pre <+: zs) zs.length w) :
    CallsIn F n Tryz.prog 234 #[.func (.func gf) #[] lb] w fun e w' => ∃ v, e = .returned v ∧ Own encR 48 3 w.heap.size w' v zs ∧ Below w.heap.size w w' := by
  have h1 : 1 ≤ n := by omega
  refine callsIn_of_wp Tryz.func234 rfl h4 ?_ hro
  simp only [Tryz.ntmps234, List.size_toArray, List.length_cons, List.length_nil, Nat.reduceAdd, Nat.reduceSub, Array.replicate_succ, Array.replicate_zero, List.push_toArray, List.append_toArray, List.nil_append, List.cons_append]
  gi_wp2_with (gi_at_call 285; refine (appendSeqR_in F (n - 1) h3 hro (by omega) gf lb hFg eg zs hz n₀ _ hn₀ hseq).mono ?_; rintro e w' ⟨v, rfl, hown, hb⟩)
  go_ret
  exact ⟨_, rfl, hown, hb⟩
end Go.Proofs.YtpiflhhppigdfaaGreatDoor
namespace Go.Proofs.YtpiflhhppigdfaaGreatDoor
open Go.RowKit

theorem isNaNI_any (n : Int) (w : World) : Calls Tryz.prog 288 #[.int .i64 n] w fun e w' => e = .returned (.bool false) ∧ w = w' := by
  have g : (n != n) = false := by simp
  go_enter Tryz.func288, Tryz.ntmps288
  go_wp2_with fail
  go_ret
  exact ⟨rfl, rfl⟩
theorem isNaNS_any (s : Str) (w : World) : Calls Tryz.prog 287 #[S s] w fun e w' => e = .returned (.bool false) ∧ w = w' := by
  have g : (s != s) = false := by simp
  go_enter Tryz.func287, Tryz.ntmps287
  go_wp2_with fail
  go_ret
  exact ⟨rfl, rfl⟩
theorem cmpI_ways (a b : Int) : (a < b ∧ cmpI a b = -1) ∨ (decide (a < b) = false ∧ ((b < a ∧ cmpI a b = 1) ∨ (decide (b < a) = false ∧ cmpI a b = 0))) := by
  unfold cmpI
  by_cases h1 : a < b
  · exact .inl ⟨h1, if_pos h1⟩
  · refine .inr ⟨decide_eq_false h1, ?_⟩
    rw [if_neg h1]
    by_cases h2 : b < a
    · exact .inl ⟨h2, if_pos h2⟩
    · exact .inr ⟨decide_eq_false h2, if_neg h2⟩
theorem cmpS_ways (a b : Str) : (Op.bytesLess a b = true ∧ cmpS a b = -1) ∨ (Op.bytesLess a b = false ∧ (((a == b) = false ∧ cmpS a b = 1) ∨ ((a == b) = true ∧ cmpS a b = 0))) := by
  unfold cmpS
  rw [less_befR]
  cases h1 : bef a b with
  | true => exact .inl ⟨rfl, if_pos rfl⟩
  | false =>
    refine .inr ⟨rfl, ?_⟩
    rw [if_neg (by decide)]
    by_cases he : a = b
    · refine .inr ⟨by simpa using he, ?_⟩
      rw [if_neg (by rw [he, bef_irrefl]; decide)]
    · refine .inl ⟨by simpa using he, ?_⟩
      rcases bef_or he with h2 | h2
      · rw [h1] at h2; cases h2
      · exact if_pos h2
theorem cmpInt_any (a b : Int) (w : World) : Calls Tryz.prog 239 #[.int .i64 a, .int .i64 b] w fun e w' => e = .returned (.int .i64 (cmpI a b)) ∧ w = w' := by
  rcases cmpI_ways a b with ⟨h1, hc⟩ | ⟨h1, ⟨h2, hc⟩ | ⟨h2, hc⟩⟩
  all_goals
    rw [hc]
    clear hc
    go_enter Tryz.func239, Tryz.ntmps239
    go_wp2_with (go_at_call 288; refine (isNaNI_any _ _).mono ?_; rintro e w' ⟨rfl, rfl⟩)
    go_ret
    exact ⟨rfl, rfl⟩
theorem cmpStr_any (a b : Str) (w : World) : Calls Tryz.prog 238 #[S a, S b] w fun e w' => e = .returned (.int .i64 (cmpS a b)) ∧ w = w' := by
  rcases cmpS_ways a b with ⟨h1, hc⟩ | ⟨h1, ⟨h2, hc⟩ | ⟨h2, hc⟩⟩
  all_goals
    rw [hc]
    clear hc
    go_enter Tryz.func238, Tryz.ntmps238
    go_wp2_with (go_at_call 287; refine (isNaNS_any _ _).mono ?_; rintro e w' ⟨rfl, rfl⟩)
    go_ret
    exact ⟨rfl, rfl⟩
def orL : List Int → Int
  | [] => 0
  | x :: r => if x ≠ 0 then x else orL r
theorem orL_at : ∀ {l : List Int} {k : Nat} {x : Int}, (∀ j < k, l[j]? = some 0) → l[k]? = some x → x ≠ 0 → orL l = x
  | [], k, x, _, h, _ => by simp at h
  | y :: r, 0, x, _, h, hx => by
    obtain rfl : y = x := by simpa using h
    exact if_pos hx
  | y :: r, k + 1, x, h0, h, hx => by
    obtain rfl : y = 0 := by simpa using h0 0 (by omega)
    show (if (0 : Int) ≠ 0 then 0 else orL r) = x
    rw [if_neg (by simp)]
    exact orL_at (k := k) (fun j hj => by simpa using h0 (j + 1) (by omega)) (by simpa using h) hx
theorem orL_all : ∀ {l : List Int}, (∀ j < l.length, l[j]? = some 0) → orL l = 0
  | [], _ => rfl
  | y :: r, h0 => by
    obtain rfl : y = 0 := by simpa using h0 0 (by simp)
    show (if (0 : Int) ≠ 0 then 0 else orL r) = 0
    rw [if_neg (by simp)]
    exact orL_all (fun j hj => by simpa using h0 (j + 1) (by simpa using hj))
theorem orI_any (v : Value) (l : List Int) (w : World) (hl : IntsAt w v l) :
    Calls Tryz.prog 237 #[v] w fun e w' => e = .returned (.int .i64 (orL l)) ∧ w = w' := by
  obtain ⟨a, c, b, o, rfl, ha, hc, hcm, hx⟩ := hl
  unfold maxLen at hcm
  go_enter Tryz.func237, Tryz.ntmps237
  go_wp2_with fail
  go_loop [8] (fun i => ∃ k : Nat, k ≤ l.length ∧ i = .int .i64 k ∧ Hid (∀ j < k, l[j]? = some 0)) (fun i => l.length - (intOf i).toNat)
  case atStart => exact ⟨0, by omega, rfl, Lib.hid fun j hj => absurd hj (by omega)⟩
  case round =>
    obtain ⟨k, hk, rfl, hj⟩ := hrel
    by_cases hlt : k < l.length
    case neg =>
      obtain rfl : k = l.length := by omega
      have f : decide ((l.length : Int) < (l.length : Int)) = false := by simp
      have HE := Lib.hid (orL_all hj.out)
      go_wp2_with fail
      go_ret
      exact ⟨by rw [HE.out]; rfl, rfl⟩
    obtain ⟨x, hxk⟩ := get_ex hlt
    have q0 := hx k x hxk 0 _ rfl
    have i1 := idx_at (c := c) 1 Tryz.underlying111 szInt ha k hlt
    simp only [Nat.add_zero, Nat.mul_one] at q0 i1
    have hk1 : (k : Int) < (l.length : Int) := by omega
    have HX := Lib.hid hxk
    clear hxk
    by_cases h0 : x = 0
    · have g : (x != 0) = false := by simp [h0]
      have H0 := Lib.hid h0
      clear h0
      go_wp2_with fail
      go_round
      case rel => exact ⟨k + 1, by omega, by go_num, Lib.hid fun j hj' => by
        rcases Nat.lt_or_ge j k with h | h
        · exact hj.out j h
        · obtain rfl : j = k := by omega
          rw [HX.out, H0.out]⟩
      case measure => simp [intOf]; omega
    · have g : (x != 0) = true := by simpa using h0
      have HE := Lib.hid (orL_at hj.out HX.out h0)
      clear h0
      go_wp2_with fail
      go_ret
      exact ⟨by rw [HE.out]; rfl, rfl⟩
theorem cmpR_or (a b : Rw) : cmpR a b = orL [cmpS a.part b.part, cmpI a.key b.key, cmpI a.val b.val] := by
  unfold cmpR
  show _ = (if cmpS a.part b.part ≠ 0 then cmpS a.part b.part else if cmpI a.key b.key ≠ 0 then cmpI a.key b.key else if cmpI a.val b.val ≠ 0 then cmpI a.val b.val else 0)
  split
  · rfl
  · split
    · rfl
    · split
      · rfl
      · rename_i h; simpa using h
theorem drewN_grow (w : World) (n : Nat) (os : Array Obj) : (Go.Sort.grow w os).drewN n = Go.Sort.grow (w.drewN n) os := rfl
theorem drew_drewN (w : World) : w.drew = w.drewN 1 := rfl
set_option maxHeartbeats 1000000 in
set_option maxRecDepth 20000 in
theorem rowCompareG_any (a b : Rw) (w : World) :
    Calls Tryz.prog 173 #[rowV a, rowV b] w fun e w' => e = .returned (.int .i64 (cmpR a b)) ∧ ∃ q os', w' = Go.Sort.grow (w.drewN q) os' := by
  obtain ⟨w0, hw0⟩ : ∃ w0, w0 = w.alloc (.cells #[S a.part, .int .i64 a.key, .int .i64 a.val] 48) := ⟨_, rfl⟩
  obtain ⟨w1, hw1⟩ : ∃ w1, w1 = w0.alloc (.cells #[S b.part, .int .i64 b.key, .int .i64 b.val] 48) := ⟨_, rfl⟩
  have hb1 : Below w0.heap.size w0 w1 := hw1 ▸ (Below.refl _ _).alloc (Nat.le_refl _) _
  have hsz : w0.heap.size = w.heap.size + 1 := by rw [hw0]; simp
  have KS := Lib.hid (fun W (h : Below w1.heap.size w1 W) => (⟨rowCells (r := a) hw0 (hb1.trans (h.mono hb1.size)), rowCells (r := b) hw1 h⟩ : _ ∧ _))
  rw [hsz] at KS
  have HW : Hid (w1 = (w.alloc (.cells #[S a.part, .int .i64 a.key, .int .i64 a.val] 48)).alloc (.cells #[S b.part, .int .i64 b.key, .int .i64 b.val] 48)) := Lib.hid (by rw [hw1, hw0])
  have hG : ∃ os, w1 = Go.Sort.grow w os := ⟨_, by rw [HW.out, Go.Sort.alloc_eq_grow, Go.Sort.alloc_eq_grow, Go.Sort.grow_grow]⟩
  have HG := Lib.hid hG
  have HOr := Lib.hid (cmpR_or a b)
  clear hw0 hw1 hb1 hsz hG
  obtain ⟨⟨c0, c1, c2⟩, ⟨d0, d1, d2⟩⟩ := KS.out _ (Bdn (Below.refl w1.heap.size w1) 1)
  obtain ⟨x, hx⟩ : ∃ x, cmpS a.part b.part = x := ⟨_, rfl⟩
  obtain ⟨y, hy⟩ : ∃ y, cmpI a.key b.key = y := ⟨_, rfl⟩
  obtain ⟨z, hz⟩ : ∃ z, cmpI a.val b.val = z := ⟨_, rfl⟩
  have h1 := fun W => cmpStr_any a.part b.part W
  have h2 := fun W => cmpInt_any a.key b.key W
  have h3 := fun W => cmpInt_any a.val b.val W
  rw [hx] at h1; rw [hy] at h2; rw [hz] at h3
  rw [hx, hy, hz] at HOr
  have H1 := Lib.hid h1; have H2 := Lib.hid h2; have H3 := Lib.hid h3
  clear h1 h2 h3 hx hy hz
  go_enter Tryz.func173, Tryz.ntmps173
  go_upto_region 1 with fail
  rw [← HW.out]
  clear w0 HW
  go_wp2_with fail
  go_region_held3 (fun w' => w'.cell? ⟨w.heap.size, 0, none⟩ = some (S a.part) ∧ w'.cell? ⟨w.heap.size, 1, none⟩ = some (.int .i64 a.key) ∧ w'.cell? ⟨w.heap.size, 2, none⟩ = some (.int .i64 a.val) ∧ w'.cell? ⟨w.heap.size + 1, 0, none⟩ = some (S b.part) ∧ w'.cell? ⟨w.heap.size + 1, 1, none⟩ = some (.int .i64 b.key) ∧ w'.cell? ⟨w.heap.size + 1, 2, none⟩ = some (.int .i64 b.val)) (first | exact ⟨c0, c1, c2, d0, d1, d2⟩ | (obtain ⟨⟨q0, q1, q2⟩, q3, q4, q5⟩ := KS.out _ (((Below.refl _ _).alloc (Nat.le_refl _) _).drew); exact ⟨q0, q1, q2, q3, q4, q5⟩) | (obtain ⟨⟨q0, q1, q2⟩, q3, q4, q5⟩ := KS.out _ ((Below.refl _ _).drew.alloc (Nat.le_refl _) _); exact ⟨q0, q1, q2, q3, q4, q5⟩)) (first
    | (go_at_call 238; (with_reducible refine (H1.out _).mono ?_); rintro e w' ⟨rfl, rfl⟩)
    | (go_at_call 239; (with_reducible refine (H2.out _).mono ?_); rintro e w' ⟨rfl, rfl⟩)
    | (go_at_call 239; (with_reducible refine (H3.out _).mono ?_); rintro e w' ⟨rfl, rfl⟩)
    | (go_at_call 237; (with_reducible refine (orI_any _ [x, y, z] _ (by first | exact ints_new [x, y, z] _ _ _ 3 _ rfl rfl rfl (by decide) | exact (ints_new [x, y, z] _ _ _ 3 _ rfl rfl rfl (by decide)).below (Bdn (Below.refl _ _) 1))).mono ?_); rintro e w' ⟨rfl, rfl⟩))
  all_goals
    go_wp2_with fail
    go_ret
    refine ⟨by rw [HOr.out]; rfl, ?_⟩
    obtain ⟨os, ho⟩ := HG.out
    refine ⟨1, os ++ #[.cells #[.int .i64 x, .int .i64 y, .int .i64 z] 3], ?_⟩
    rw [Go.Sort.alloc_eq_grow, ho, Go.Sort.grow_grow]
    rfl
theorem rowCompare_any (a b : Rw) (w : World) :
    Calls Tryz.prog 173 #[rowV a, rowV b] w fun e w' => e = .returned (.int .i64 (cmpR a b)) ∧ Below w.heap.size w w' :=
  (rowCompareG_any a b w).mono fun _ _ ⟨h, q, os, hw⟩ => ⟨h, hw ▸ Bgrow w q os⟩
set_option maxRecDepth 20000 in
theorem rowLess_any (a b : Rw) (w : World) :
    Calls Tryz.prog 232 #[rowV a, rowV b] w fun e w' => e = .returned (.bool (lessR a b)) ∧ Below w.heap.size w w' := by
  obtain ⟨w0, hw0⟩ : ∃ w0, w0 = w.alloc (.cells #[S a.part, .int .i64 a.key, .int .i64 a.val] 48) := ⟨_, rfl⟩
  have hb0 : Below w.heap.size w w0 := hw0 ▸ (Below.refl _ _).alloc (Nat.le_refl _) _
  have hb1 : Below w0.heap.size w0 (w0.alloc (.cells #[S b.part, .int .i64 b.key, .int .i64 b.val] 48)) := (Below.refl _ _).alloc (Nat.le_refl _) _
  obtain ⟨c0, c1, c2⟩ := rowCells (r := a) hw0 hb1
  obtain ⟨d0, d1, d2⟩ := rowCells (r := b) (w := w0) rfl (Below.refl _ _)
  have hsz : w0.heap.size = w.heap.size + 1 := by rw [hw0]; simp
  have hb2 := hb0.trans (hb1.mono hb0.size)
  rw [hsz] at d0 d1 d2
  rw [hw0] at c0 c1 c2 d0 d1 d2 hb2
  have HB2 := Lib.hid hb2
  have HL := Lib.hid (cmpR_less a b)
  have hC := fun W => rowCompare_any a b W
  generalize cmpR a b = k at *
  have HC := Lib.hid hC
  clear hb0 hb1 hb2 hsz hw0 w0 hC
  go_enter Tryz.func232, Tryz.ntmps232
  go_wp2_with fail
  refine (HC.out _).mono ?_
  rintro e w3 ⟨rfl, hb3⟩
  go_wp2_with fail
  go_ret
  exact ⟨ret_bool HL.out, HB2.out.trans (hb3.mono HB2.out.size)⟩
end Go.Proofs.YtpiflhhppigdfaaGreatDoor
namespace Go.Proofs
open Go.Shelf
def Tryz.sortR_ren : Go.Shelf.Ren := ⟨fun | 6 => 235 | 15 => 204 | 14 => 286 | 28 => 262 | 29 => 263 | 20 => 321 | 21 => 322 | 22 => 323 | 23 => 324 | 24 => 325 | 25 => 326 | 26 => 327 | 27 => 328 | 46 => 342 | 47 => 305 | 48 => 306 | 49 => 343 | 50 => 344 | 57 => 346 | n => n, fun | 22 => 42 | 24 => 48 | 25 => 230 | 3 => 3 | 39 => 264 | 0 => 0 | 53 => 306 | 55 => 305 | 4 => 4 | 46 => 317 | 45 => 316 | 50 => 130 | 5 => 5 | 9 => 9 | 66 => 366 | 70 => 370 | 76 => 392 | 77 => 132 | n => n, fun | n => n⟩
theorem Tryz.sortR : Go.Proofs.SlLaysF0.n6 Tryz.prog Tryz.sortR_ren := {
  mixed := by kernel_rfl
  f6 := ⟨Tryz.f235.name, by decide, Tryz.func235.trans (congrArg some (by kernel_rfl))⟩
  f14 := ⟨Tryz.f286.name, by decide, Tryz.func286.trans (congrArg some (by kernel_rfl))⟩
  f15 := Tryz.func204.trans (congrArg some (by kernel_rfl))
  f20 := ⟨Tryz.f321.name, by decide, Tryz.func321.trans (congrArg some (by kernel_rfl))⟩
  f21 := ⟨Tryz.f322.name, by decide, Tryz.func322.trans (congrArg some (by kernel_rfl))⟩
  f22 := ⟨Tryz.f323.name, by decide, Tryz.func323.trans (congrArg some (by kernel_rfl))⟩
  f23 := ⟨Tryz.f324.name, by decide, Tryz.func324.trans (congrArg some (by kernel_rfl))⟩
  f24 := ⟨Tryz.f325.name, by decide, Tryz.func325.trans (congrArg some (by kernel_rfl))⟩
  f25 := ⟨Tryz.f326.name, by decide, Tryz.func326.trans (congrArg some (by kernel_rfl))⟩
  f26 := ⟨Tryz.f327.name, by decide, Tryz.func327.trans (congrArg some (by kernel_rfl))⟩
  f27 := ⟨Tryz.f328.name, by decide, Tryz.func328.trans (congrArg some (by kernel_rfl))⟩
  f28 := Tryz.func262.trans (congrArg some (by kernel_rfl))
  f29 := Tryz.func263.trans (congrArg some (by kernel_rfl))
  f46 := ⟨Tryz.f342.name, by decide, Tryz.func342.trans (congrArg some (by kernel_rfl))⟩
  f47 := Tryz.func305.trans (congrArg some (by kernel_rfl))
  f48 := Tryz.func306.trans (congrArg some (by kernel_rfl))
  f49 := ⟨Tryz.f343.name, by decide, Tryz.func343.trans (congrArg some (by kernel_rfl))⟩
  f50 := ⟨Tryz.f344.name, by decide, Tryz.func344.trans (congrArg some (by kernel_rfl))⟩
  f57 := ⟨Tryz.f346.name, by decide, Tryz.func346.trans (congrArg some (by kernel_rfl))⟩
  t0 := Tryz.underlying0
  a0 := Tryz.isAgg0
  z0 := Tryz.sizeOf0
  v0 := Tryz.zeroValue0
  t3 := Tryz.underlying3
  a3 := Tryz.isAgg3
  z3 := Tryz.sizeOf3
  v3 := Tryz.zeroValue3
  t4 := Tryz.underlying4
  a4 := Tryz.isAgg4
  z4 := Tryz.sizeOf4
  v4 := Tryz.zeroValue4
  t5 := Tryz.underlying5
  a5 := Tryz.isAgg5
  z5 := Tryz.sizeOf5
  v5 := Tryz.zeroValue5
  t9 := Tryz.underlying9
  a9 := Tryz.isAgg9
  z9 := Tryz.sizeOf9
  v9 := Tryz.zeroValue9
  t22 := Tryz.underlying42
  a22 := Tryz.isAgg42
  z22 := Tryz.sizeOf42
  v22 := Tryz.zeroValue42
  t25 := Tryz.underlying230
  a25 := Tryz.isAgg230
  z25 := Tryz.sizeOf230
  v25 := Tryz.zeroValue230
  t39 := Tryz.underlying264
  a39 := Tryz.isAgg264
  z39 := Tryz.sizeOf264
  v39 := Tryz.zeroValue264
  t45 := Tryz.underlying316
  a45 := Tryz.isAgg316
  z45 := Tryz.sizeOf316
  v45 := Tryz.zeroValue316
  t46 := Tryz.underlying317
  a46 := Tryz.isAgg317
  z46 := Tryz.sizeOf317
  v46 := Tryz.zeroValue317
  t50 := Tryz.underlying130
  a50 := Tryz.isAgg130
  z50 := Tryz.sizeOf130
  v50 := Tryz.zeroValue130
  t53 := Tryz.underlying306
  a53 := Tryz.isAgg306
  z53 := Tryz.sizeOf306
  v53 := Tryz.zeroValue306
  t55 := Tryz.underlying305
  a55 := Tryz.isAgg305
  z55 := Tryz.sizeOf305
  v55 := Tryz.zeroValue305
  t66 := Tryz.underlying366
  a66 := Tryz.isAgg366
  z66 := Tryz.sizeOf366
  v66 := Tryz.zeroValue366
  t70 := Tryz.underlying370
  a70 := Tryz.isAgg370
  z70 := Tryz.sizeOf370
  v70 := Tryz.zeroValue370
  t76 := Tryz.underlying392
  a76 := Tryz.isAgg392
  z76 := Tryz.sizeOf392
  v76 := Tryz.zeroValue392
  t77 := Tryz.underlying132
  a77 := Tryz.isAgg132
  z77 := Tryz.sizeOf132
  v77 := Tryz.zeroValue132 }
def Tryz.sortF_ren : Go.Shelf.Ren := ⟨fun | 6 => 180 | 15 => 204 | 14 => 245 | 28 => 262 | 29 => 263 | 20 => 293 | 21 => 294 | 22 => 295 | 23 => 296 | 24 => 297 | 25 => 298 | 26 => 299 | 27 => 300 | 46 => 331 | 47 => 305 | 48 => 306 | 49 => 332 | 50 => 333 | 57 => 345 | n => n, fun | 22 => 50 | 24 => 23 | 25 => 236 | 3 => 3 | 39 => 264 | 0 => 0 | 53 => 306 | 55 => 305 | 4 => 4 | 46 => 317 | 45 => 316 | 50 => 130 | 5 => 5 | 9 => 9 | 66 => 366 | 70 => 370 | 76 => 392 | 77 => 132 | n => n, fun | n => n⟩
theorem Tryz.sortF : Go.Proofs.SlLaysF0.n6 Tryz.prog Tryz.sortF_ren := {
  mixed := by kernel_rfl
  f6 := ⟨Tryz.f180.name, by decide, Tryz.func180.trans (congrArg some (by kernel_rfl))⟩
  f14 := ⟨Tryz.f245.name, by decide, Tryz.func245.trans (congrArg some (by kernel_rfl))⟩
  f15 := Tryz.func204.trans (congrArg some (by kernel_rfl))
  f20 := ⟨Tryz.f293.name, by decide, Tryz.func293.trans (congrArg some (by kernel_rfl))⟩
  f21 := ⟨Tryz.f294.name, by decide, Tryz.func294.trans (congrArg some (by kernel_rfl))⟩
  f22 := ⟨Tryz.f295.name, by decide, Tryz.func295.trans (congrArg some (by kernel_rfl))⟩
  f23 := ⟨Tryz.f296.name, by decide, Tryz.func296.trans (congrArg some (by kernel_rfl))⟩
  f24 := ⟨Tryz.f297.name, by decide, Tryz.func297.trans (congrArg some (by kernel_rfl))⟩
  f25 := ⟨Tryz.f298.name, by decide, Tryz.func298.trans (congrArg some (by kernel_rfl))⟩
  f26 := ⟨Tryz.f299.name, by decide, Tryz.func299.trans (congrArg some (by kernel_rfl))⟩
  f27 := ⟨Tryz.f300.name, by decide, Tryz.func300.trans (congrArg some (by kernel_rfl))⟩
  f28 := Tryz.func262.trans (congrArg some (by kernel_rfl))
  f29 := Tryz.func263.trans (congrArg some (by kernel_rfl))
  f46 := ⟨Tryz.f331.name, by decide, Tryz.func331.trans (congrArg some (by kernel_rfl))⟩
  f47 := Tryz.func305.trans (congrArg some (by kernel_rfl))
  f48 := Tryz.func306.trans (congrArg some (by kernel_rfl))
  f49 := ⟨Tryz.f332.name, by decide, Tryz.func332.trans (congrArg some (by kernel_rfl))⟩
  f50 := ⟨Tryz.f333.name, by decide, Tryz.func333.trans (congrArg some (by kernel_rfl))⟩
  f57 := ⟨Tryz.f345.name, by decide, Tryz.func345.trans (congrArg some (by kernel_rfl))⟩
  t0 := Tryz.underlying0
  a0 := Tryz.isAgg0
  z0 := Tryz.sizeOf0
  v0 := Tryz.zeroValue0
  t3 := Tryz.underlying3
  a3 := Tryz.isAgg3
  z3 := Tryz.sizeOf3
  v3 := Tryz.zeroValue3
  t4 := Tryz.underlying4
  a4 := Tryz.isAgg4
  z4 := Tryz.sizeOf4
  v4 := Tryz.zeroValue4
  t5 := Tryz.underlying5
  a5 := Tryz.isAgg5
  z5 := Tryz.sizeOf5
  v5 := Tryz.zeroValue5
  t9 := Tryz.underlying9
  a9 := Tryz.isAgg9
  z9 := Tryz.sizeOf9
  v9 := Tryz.zeroValue9
  t22 := Tryz.underlying50
  a22 := Tryz.isAgg50
  z22 := Tryz.sizeOf50
  v22 := Tryz.zeroValue50
  t25 := Tryz.underlying236
  a25 := Tryz.isAgg236
  z25 := Tryz.sizeOf236
  v25 := Tryz.zeroValue236
  t39 := Tryz.underlying264
  a39 := Tryz.isAgg264
  z39 := Tryz.sizeOf264
  v39 := Tryz.zeroValue264
  t45 := Tryz.underlying316
  a45 := Tryz.isAgg316
  z45 := Tryz.sizeOf316
  v45 := Tryz.zeroValue316
  t46 := Tryz.underlying317
  a46 := Tryz.isAgg317
  z46 := Tryz.sizeOf317
  v46 := Tryz.zeroValue317
  t50 := Tryz.underlying130
  a50 := Tryz.isAgg130
  z50 := Tryz.sizeOf130
  v50 := Tryz.zeroValue130
  t53 := Tryz.underlying306
  a53 := Tryz.isAgg306
  z53 := Tryz.sizeOf306
  v53 := Tryz.zeroValue306
  t55 := Tryz.underlying305
  a55 := Tryz.isAgg305
  z55 := Tryz.sizeOf305
  v55 := Tryz.zeroValue305
  t66 := Tryz.underlying366
  a66 := Tryz.isAgg366
  z66 := Tryz.sizeOf366
  v66 := Tryz.zeroValue366
  t70 := Tryz.underlying370
  a70 := Tryz.isAgg370
  z70 := Tryz.sizeOf370
  v70 := Tryz.zeroValue370
  t76 := Tryz.underlying392
  a76 := Tryz.isAgg392
  z76 := Tryz.sizeOf392
  v76 := Tryz.zeroValue392
  t77 := Tryz.underlying132
  a77 := Tryz.isAgg132
  z77 := Tryz.sizeOf132
  v77 := Tryz.zeroValue132 }
end Go.Proofs
namespace Go.Proofs.YtpiflhhppigdfaaGreatDoor
open Go.RowKit
attribute [local go_sem] bapp

theorem bytes_conv (w : World) (t : TypeId) (n : Int) : (convert 300 9 (.slice (some ⟨w.heap.size, 0, none⟩) 1 1)).run Tryz.prog (w.alloc (.cells #[.int .u8 n] t)) = .ok (.string ⟨#[UInt8.ofNat n.toNat]⟩) (w.alloc (.cells #[.int .u8 n] t)) := by
  rw [run_convert_bytes_arg _ 300 5 Tryz.underlying300 Tryz.underlying5 w.heap.size 0 1 1 [n] rfl ?_ 9 Tryz.underlying9]
  · rfl
  · intro i hi
    obtain rfl : i = 0 := by omega
    simp

set_option maxRecDepth 100000 in
theorem byte_any (n : Int) (h0 : 0 ≤ n) (h1 : n ≤ 255) (w : World) :
    Calls Tryz.prog 222 #[.int .i64 n] w fun e w' => e = .returned (S [UInt8.ofNat n.toNat]) ∧ Below w.heap.size w w' := by
  have hcv := bytes_conv w 5 n
  have hw : IntKind.u8.wrap n = n := by
    show n % 256 = n
    omega
  go_enter Tryz.func222, Tryz.ntmps222
  go_wp2_with fail
  go_ret
  exact ⟨rfl, (Below.refl _ _).alloc (Nat.le_refl _) _⟩

theorem decDigits_big {u : Nat} (h : ¬ u < 10) : Lib.decDigits u = Lib.decDigits (u / 10) ++ [UInt8.ofNat (48 + u % 10)] := by
  rw [Lib.decDigits, dif_neg h]
theorem digits_len (u : Nat) (h : u ≤ 9223372036854775808) : (Lib.decDigits u).length ≤ 20 := by
  have := Lib.itoa_length_le (-(u : Int)) (by omega) (by omega)
  rcases Nat.eq_zero_or_pos u with rfl | hp
  · rw [Lib.decDigits_one (by omega)]; simp
  · rw [Lib.itoa_neg u hp] at this; simp at this; omega

theorem below_any (k : Nat) : ∀ (n : Int) (w : World), n.natAbs ≤ k → n ≤ 0 → -9223372036854775808 ≤ n →
    Calls Tryz.prog 162 #[.int .i64 n] w fun e w' => e = .returned (S (Lib.decDigits n.natAbs)) ∧ Below w.heap.size w w' := by
  induction k with
  | zero =>
    intro n w hk h0 hlo
    obtain rfl : n = 0 := by omega
    go_enter Tryz.func162, Tryz.ntmps162
    go_wp2_with fail
    refine (byte_any _ (by decide) (by decide) _).mono ?_
    rintro e w1 ⟨rfl, hb⟩
    go_wp2_with fail
    go_ret
    exact ⟨by simp [Lib.decDigits_one], hb⟩
  | succ k ih =>
    intro n w hk h0 hlo
    by_cases hn : -10 < n
    · have hd : Lib.decDigits n.natAbs = [UInt8.ofNat (48 - n).toNat] := by
        rw [Lib.decDigits_one (by omega)]
        congr 2; omega
      have Hd := Lib.hid hd; clear hd
      have Ih := Lib.hid ih; clear ih
      go_enter Tryz.func162, Tryz.ntmps162
      go_wp2_with fail
      refine (byte_any _ (by omega) (by omega) _).mono ?_
      rintro e w1 ⟨rfl, hb⟩
      go_wp2_with fail
      go_ret
      exact ⟨by rw [Hd.out]; rfl, hb⟩
    · have hq : (n.tdiv 10).natAbs = n.natAbs / 10 := by rw [Int.natAbs_tdiv]; rfl
      have hr : (n.tmod 10).natAbs = n.natAbs % 10 := by rw [Int.natAbs_tmod]; rfl
      have hq0 : n.tdiv 10 ≤ 0 := by
        have := Int.tdiv_nonneg (a := -n) (b := 10) (by omega) (by omega)
        rw [Int.neg_tdiv] at this; omega
      have hr0 : n.tmod 10 ≤ 0 := by
        have := Int.tmod_nonneg (a := -n) 10 (by omega)
        rw [Int.neg_tmod] at this; omega
      have hd : Lib.decDigits n.natAbs = Lib.decDigits (n.tdiv 10).natAbs ++ [UInt8.ofNat (48 - n.tmod 10).toNat] := by
        rw [decDigits_big (by omega), hq]
        congr 3; omega
      have hl := digits_len (n.tdiv 10).natAbs (by omega)
      have hrl : -9 ≤ n.tmod 10 := by omega
      have hql : -9223372036854775808 ≤ n.tdiv 10 := by omega
      have hqk : (n.tdiv 10).natAbs ≤ k := by omega
      have Hd := Lib.hid hd; clear hd hq hr
      have Ih := Lib.hid ih; clear ih
      go_enter Tryz.func162, Tryz.ntmps162
      go_wp2_with fail
      refine (Ih.out _ _ hqk hq0 hql).mono ?_
      rintro e w1 ⟨rfl, hb⟩
      generalize Lib.decDigits (n.tdiv 10).natAbs = q at hl Hd ⊢
      go_wp2_with fail
      refine (byte_any _ (by omega) (by omega) _).mono ?_
      rintro e w2 ⟨rfl, hb2⟩
      go_wp2_with fail
      go_ret
      exact ⟨by rw [Hd.out]; rfl, hb.trans (hb2.mono hb.size)⟩

theorem decimalE_any (n : Int) (w : World) (h0 : -9223372036854775808 ≤ n) (h1 : n ≤ 9223372036854775807) :
    Calls Tryz.prog 85 #[.int .i64 n] w fun e w' => e = .returned (S (Lib.itoa n)) ∧ Below w.heap.size w w' := by
  by_cases hn : n < 0
  · have hd : Lib.itoa n = 45 :: Lib.decDigits n.natAbs := if_pos hn
    have hl := digits_len n.natAbs (by omega)
    have Hd := Lib.hid hd; clear hd
    go_enter Tryz.func85, Tryz.ntmps85
    go_wp2_with fail
    refine (below_any _ n _ (Nat.le_refl _) (by omega) (by omega)).mono ?_
    rintro e w1 ⟨rfl, hb⟩
    go_wp2_with fail
    go_ret
    exact ⟨by rw [Hd.out]; rfl, hb⟩
  · have hd : Lib.itoa n = Lib.decDigits (-n).natAbs := by
      unfold Lib.itoa; rw [if_neg hn]; congr 1; omega
    have hn' : 0 ≤ n := by omega
    have Hd := Lib.hid hd; clear hd hn
    go_enter Tryz.func85, Tryz.ntmps85
    go_wp2_with fail
    refine (below_any _ (-n) _ (Nat.le_refl _) (by omega) (by omega)).mono ?_
    rintro e w1 ⟨rfl, hb⟩
    rw [← Hd.out]
    go_wp2_with fail
    go_ret
    exact ⟨rfl, hb⟩
theorem decimal_any (n : Int) (w : World) (h0 : -9223372036854775808 < n) (h1 : n ≤ 9223372036854775807) :
    Calls Tryz.prog 85 #[.int .i64 n] w fun e w' => e = .returned (S (Lib.itoa n)) ∧ Below w.heap.size w w' :=
  decimalE_any n w (Int.le_of_lt h0) h1
end Go.Proofs.YtpiflhhppigdfaaGreatDoor
namespace Go.Proofs.YtpiflhhppigdfaaGreatDoor
open Go.RowKit

theorem bget (l : List UInt8) (i : Nat) (h : i < (ByteArray.mk l.toArray).size) : (ByteArray.mk l.toArray)[i] = l[i]'(by simpa [ByteArray.size] using h) := rfl
attribute [local go_sem] bget

theorem num_none {s : Str} (h : numRef s = none) : Ending.returned (.tuple #[.int .i64 0, .bool false]) = Ending.returned (.tuple #[.int .i64 ((numRef s).getD 0), .bool (numRef s).isSome]) := by rw [h]; rfl
theorem num_some {s : Str} {n : Int} (h : numRef s = some n) : Ending.returned (.tuple #[.int .i64 n, .bool true]) = Ending.returned (.tuple #[.int .i64 ((numRef s).getD 0), .bool (numRef s).isSome]) := by rw [h]; rfl
theorem digOf_len (s : Str) : (digOf s).length ≤ s.length ∧ s.length ≤ (digOf s).length + 1 := by
  unfold digOf; split
  · simp; omega
  · omega
theorem digitVal_bad {x : UInt8} (h : (x.toNat : Int) < 48 ∨ 57 < (x.toNat : Int)) : Lib.digitVal x = none := by
  unfold Lib.digitVal; rw [if_neg (by omega)]
theorem digitVal_ok {x : UInt8} (h : 48 ≤ (x.toNat : Int)) (h2 : (x.toNat : Int) ≤ 57) : Lib.digitVal x = some (x.toNat - 48) := by
  unfold Lib.digitVal; rw [if_pos (by omega)]
theorem decFrom_bad {x : UInt8} : ∀ {l : Str} {k acc : Nat}, l[k]? = some x → Lib.digitVal x = none → Lib.decFrom acc l = none
  | [], k, acc, h, _ => by simp at h
  | c :: r, 0, acc, h, hd => by
    obtain rfl : c = x := by simpa using h
    simp [Lib.decFrom, hd]
  | c :: r, k + 1, acc, h, hd => by
    unfold Lib.decFrom
    split
    · exact decFrom_bad (k := k) (by simpa using h) hd
    · rfl
theorem decFrom_snoc {x : UInt8} {l : Str} {k u v : Nat} (h : l[k]? = some x) (hu : Lib.decFrom 0 (l.take k) = some u) (hv : Lib.digitVal x = some v) : Lib.decFrom 0 (l.take (k + 1)) = some (u * 10 + v) :=
  Lib.decFrom_take l k 0 u x v hu h hv
theorem head0 {s : Str} (h : 0 < s.length) : s.head? = some s[0] := by
  cases s with
  | nil => simp at h
  | cons c r => rfl

theorem extract_from (s : Str) (k : Nat) : (ByteArray.mk s.toArray).extract k s.length = ByteArray.mk (s.drop k).toArray := by
  rw [ByteArray.extract_mk, List.take_of_length_le (by simp)]

set_option maxRecDepth 20000 in
theorem numberOf_any (s : Str) (w : World) (hs : s.length ≤ 100000) :
    Calls Tryz.prog 78 #[S s] w fun e w' => e = .returned (.tuple #[.int .i64 ((numRef s).getD 0), .bool (numRef s).isSome]) ∧ w = w' := by
  have hdl := digOf_len s
  go_enter Tryz.func78, Tryz.ntmps78
  go_upto_if 10 with (fail)
  go_cut [4] (fun d wx => d = S (digOf s) ∧ w = wx)
  case first =>
    by_cases hn : s.length = 0
    · obtain rfl := List.eq_nil_of_length_eq_zero hn
      clear hdl
      go_wp2_with fail
      go_meet
      exact ⟨rfl, rfl⟩
    have hp : 1 ≤ (s.length : Int) := by omega
    have hp0 : 0 < s.length := by omega
    by_cases h45 : s[0] = 45
    · have g45 : ((s[0].toNat : Int) == 45) = true := by rw [h45]; rfl
      have hd : digOf s = s.drop 1 := by unfold digOf; rw [if_pos (by rw [head0 hp0, h45]), List.drop_one]
      have Hd := Lib.hid hd
      clear hn hd hdl h45
      go_wp2_with fail
      go_meet
      exact ⟨by rw [Hd.out, extract_from], rfl⟩
    · have g45 : ((s[0].toNat : Int) == 45) = false := by
        simp; intro h; apply h45; apply UInt8.toNat_inj.1; exact Int.ofNat.inj h
      have hd : digOf s = s := if_neg (by rw [head0 hp0]; simpa using h45)
      have Hd := Lib.hid hd
      clear hn hd hdl h45
      go_wp2_with fail
      go_meet
      exact ⟨by rw [Hd.out], rfl⟩
  case rest =>
    obtain ⟨rfl, rfl⟩ := hcut
    have hspec : numRef s = if (digOf s).length < 1 ∨ 11 < s.length then none
      else if (digOf s).head? = some 48 ∧ 1 < s.length then none
      else (Lib.decFrom 0 (digOf s)).map fun (u : Nat) => if (digOf s).length < s.length then -(u : Int) else (u : Int) := rfl
    generalize hdd : digOf s = d at hspec hdl ⊢
    clear hdd
    have Hs := Lib.hid hspec; clear hspec
    by_cases h1 : d.length < 1
    · have hr : numRef s = none := by rw [Hs.out, if_pos (.inl h1)]
      have g1 : (d.length : Int) < 1 := by omega
      have Hr := Lib.hid hr; clear hr
      go_wp2_with fail
      go_ret2
      exact ⟨num_none Hr.out, rfl⟩
    by_cases h2 : 11 < s.length
    · have hr : numRef s = none := by rw [Hs.out, if_pos (.inr h2)]
      have g1 : decide ((d.length : Int) < 1) = false := by simp; omega
      have g2 : (11 : Int) < s.length := by omega
      have Hr := Lib.hid hr; clear hr
      go_wp2_with fail
      go_ret2
      exact ⟨num_none Hr.out, rfl⟩
    have hp : 1 ≤ (d.length : Int) := by omega
    have hp0 : 0 < d.length := by omega
    have g1 : decide ((d.length : Int) < 1) = false := by simp; omega
    have g2 : decide ((11 : Int) < s.length) = false := by simp; omega
    by_cases h3 : d[0] = 48 ∧ 1 < s.length
    · have hr : numRef s = none := by rw [Hs.out, if_neg (by omega), if_pos ⟨by rw [head0 hp0, h3.1], h3.2⟩]
      have g3 : ((d[0].toNat : Int) == 48) = true := by rw [h3.1]; rfl
      have g4 : (1 : Int) < s.length := by omega
      have Hr := Lib.hid hr; clear hr h3
      go_wp2_with fail
      go_ret2
      exact ⟨num_none Hr.out, rfl⟩
    have hB : s.length ≤ 11 := by omega
    have hB2 : (d.length : Int) ≤ 11 := by omega
    have hr : numRef s = (Lib.decFrom 0 d).map fun (u : Nat) => if d.length < s.length then -(u : Int) else (u : Int) := by
      rw [Hs.out, if_neg (by omega), if_neg (by rw [head0 hp0]; simpa using h3)]
    have Hr := Lib.hid hr; clear hr Hs
    have g3 : ((d[0].toNat : Int) == 48) = false ∨ ((d[0].toNat : Int) == 48) = true ∧ decide ((1 : Int) < s.length) = false := by
      by_cases e : d[0] = 48
      · exact .inr ⟨by rw [e]; rfl, by simp; have : ¬ 1 < s.length := fun h => h3 ⟨e, h⟩
                                       omega⟩
      · refine .inl ?_
        simp; intro h; apply e; apply UInt8.toNat_inj.1; exact Int.ofNat.inj h
    clear h3 h1 h2
    rcases g3 with g3 | ⟨g3, g4⟩
    all_goals
      go_wp2_with fail
      go_loop [5, 6] (fun n i => ∃ k u : Nat, k ≤ d.length ∧ i = .int .i64 k ∧ n = .int .i64 u ∧ Hid (Lib.decFrom 0 (d.take k) = some u) ∧ (u : Int) ≤ 99999999999) (fun _ i => d.length - (intOf i).toNat)
      case atStart => exact ⟨0, 0, by omega, rfl, rfl, rfl, by omega⟩
      case round =>
        obtain ⟨k, u, hk, rfl, rfl, hu, hub⟩ := hrel
        by_cases hkd : k < d.length
        · have hx : d[k]? = some d[k] := by simp [hkd]
          have hk1 : (k : Int) < d.length := by omega
          have h255 : (d[k].toNat : Int) ≤ 255 := by have := d[k].toNat_lt; omega
          by_cases ha : (d[k].toNat : Int) < 48
          · have hn : numRef s = none := by rw [Hr.out, decFrom_bad hx (digitVal_bad (.inl ha))]; rfl
            have Hn := Lib.hid hn; clear hn hx
            go_wp2_with fail
            go_ret2
            exact ⟨num_none Hn.out, rfl⟩
          by_cases hb : 57 < (d[k].toNat : Int)
          · have hn : numRef s = none := by rw [Hr.out, decFrom_bad hx (digitVal_bad (.inr hb))]; rfl
            have ha' : decide ((d[k].toNat : Int) < 48) = false := by simpa using ha
            have Hn := Lib.hid hn; clear hn hx ha
            go_wp2_with fail
            go_ret2
            exact ⟨num_none Hn.out, rfl⟩
          have ha0 : 48 ≤ (d[k].toNat : Int) := by omega
          have hb0 : (d[k].toNat : Int) ≤ 57 := by omega
          have ha' : decide ((d[k].toNat : Int) < 48) = false := by simpa using ha
          have hb' : decide (57 < (d[k].toNat : Int)) = false := by simpa using hb
          have hsn := decFrom_snoc hx hu.out (digitVal_ok ha0 hb0)
          have hlt := decFrom_lt _ _ _ hsn
          have hlt2 : u * 10 + (d[k].toNat - 48) ≤ 99999999999 := by
            have h1 : (d.take (k + 1)).length ≤ 11 := by rw [List.length_take]; omega
            have h2 : 10 ^ (d.take (k + 1)).length ≤ 10 ^ 11 := Nat.pow_le_pow_right (by decide) h1
            have h3 : (10 : Nat) ^ 11 = 100000000000 := by decide
            omega
          have Hsn := Lib.hid hsn
          clear hlt hsn hx ha hb
          go_wp2_with fail
          go_round
          case rel => exact ⟨k + 1, u * 10 + (d[k].toNat - 48), by omega, by go_num, by go_num, Hsn.out, by omega⟩
          case measure => simp [intOf]; omega
        · obtain rfl : k = d.length := by omega
          have hu' : Lib.decFrom 0 d = some u := by have := hu.out; rwa [List.take_length] at this
          by_cases hlt' : d.length < s.length
          · have hn : numRef s = some (-(u : Int)) := by rw [Hr.out, hu', Option.map_some, if_pos hlt']
            have hl' : (d.length : Int) < s.length := by omega
            have Hn := Lib.hid hn; clear hn hu' hu
            go_wp2_with fail
            go_ret2
            exact ⟨num_some Hn.out, rfl⟩
          · have hn : numRef s = some (u : Int) := by rw [Hr.out, hu', Option.map_some, if_neg hlt']
            have hl' : (s.length : Int) ≤ d.length := by omega
            have Hn := Lib.hid hn; clear hn hu' hu
            go_wp2_with fail
            go_ret2
            exact ⟨num_some Hn.out, rfl⟩

theorem numbersOf_any (v : Value) (l : List Str) (w : World) (hl : StrsAt w v l) (hn : l.length ≤ 100000) (hs : ∀ s ∈ l, s.length ≤ 100000) :
    Calls Tryz.prog 89 #[v] w fun e w' => ∃ v', e = .returned (.tuple #[v', .bool (numsOf l).isSome]) ∧ (∀ ns, numsOf l = some ns → Own encI 3 1 w.heap.size w' v' ns) ∧ (numsOf l = none → v' = .slice none 0 0) ∧ Below w.heap.size w w' := by
  obtain ⟨a, c, b, o, rfl, ha, hc, hcm, hx⟩ := hl
  unfold maxLen at hcm
  go_enter Tryz.func89, Tryz.ntmps89
  go_wp2_with fail
  go_loopw [2, 3, 4, 5] (fun r1 r2 out i wr => r1 = .slice none 0 0 ∧ r2 = .bool false ∧ ∃ (k : Nat) (ns : List Int), k ≤ l.length ∧ i = .int .i64 k ∧ Hid ((l.take k).mapM numOf = some ns) ∧ Own encI 3 1 w.heap.size wr out ns ∧ Below w.heap.size w wr) (fun _ _ _ i _ => l.length - (intOf i).toNat)
  case atStart => exact ⟨rfl, rfl, 0, [], by omega, rfl, rfl, Own.nil _ _ _ _ _, Below.refl _ _⟩
  case round =>
    obtain ⟨rfl, rfl, k, ns, hk, rfl, hm, ho, hb⟩ := hrel
    by_cases hlt : k < l.length
    · obtain ⟨x, hxk⟩ := get_ex hlt
      have c1 := hx k x hxk 0 _ rfl
      have c1 := (hb.cell (World.block_lt_of_cell? w _ c1)).trans c1
      have i1 := idx_at (c := c) 1 Tryz.underlying60 szStr ha k hlt
      have hk1 : (k : Int) < (l.length : Int) := by omega
      simp only [Nat.mul_one, Nat.add_zero] at c1 i1
      have hxs : x.length ≤ 100000 := hs x (List.mem_of_getElem? hxk)
      have hsn := take_snoc' hxk
      have hlen : ns.length = k := by have := mapM_len _ hm.out; simp at this; omega
      have Hx := Lib.hid hsn; clear hsn hxk
      have Hlen := Lib.hid hlen; clear hlen
      cases hx0 : numOf x with
      | none =>
        have hN : numsOf l = none := by
          refine mapM_take_none _ _ (k + 1) ?_
          rw [Hx.out, mapM_snoc, hm.out]; simp [hx0]
        have h2 : (numRef x).isSome = false := by rw [numRef_eq, hx0]; rfl
        have HN := Lib.hid hN; clear hN
        have H0 := Lib.hid hx0; clear hx0
        go_wp2_with fail
        refine (numberOf_any x _ hxs).mono ?_
        rintro e w1 ⟨rfl, rfl⟩
        go_wp2_with fail
        go_ret2
        exact ⟨_, by rw [HN.out]; rfl, (fun ns h => by rw [HN.out] at h; cases h), (fun _ => rfl), hb⟩
      | some n =>
        have h2 : (numRef x).isSome = true := by rw [numRef_eq, hx0]; rfl
        have h3 : (numRef x).getD 0 = n := by rw [numRef_eq, hx0]; rfl
        have hm2 : (l.take (k + 1)).mapM numOf = some (ns ++ [n]) := by rw [Hx.out, mapM_snoc, hm.out]; simp [hx0]
        have HM := Lib.hid hm2; clear hm2
        have H0 := Lib.hid hx0; clear hx0
        have H3 := Lib.hid h3; clear h3
        go_wp2_with fail
        refine (numberOf_any x _ hxs).mono ?_
        rintro e w1 ⟨rfl, rfl⟩
        rw [H3.out]
        have ho1 := ho
        have hb2 := hb
        go_wp2_with (at_builtin; refine wpList_app rfl _ _ _ rfl w.heap.size elInt _ ns.length _ rfl (ho1.alloc _) (.slice (some ⟨wr.heap.size, 0, none⟩) 1 1) 1 (encI n) rfl (src_one rfl rfl (by simp [Value.oneCell'])) (by rw [Hlen.out]; unfold maxLen; omega) (by rw [Hlen.out]; omega) (by have := hb2.size; simp; omega) ?_; intro v' w2 hown hg _)
        go_roundw
        case rel => exact ⟨rfl, rfl, k + 1, ns ++ [n], by omega, by go_num, HM.out, Own.snoc hown, Bapp (hb2.alloc hb2.size _) (ho1.alloc _) hg (Nat.le_refl _) (by have := hb2.size; simp; omega)⟩
        case measure => simp [intOf]; omega
    · obtain rfl : k = l.length := by omega
      have hN : numsOf l = some ns := by have := hm.out; rwa [List.take_length] at this
      have HN := Lib.hid hN; clear hN
      go_wp2_with fail
      go_ret2
      exact ⟨_, by rw [HN.out]; rfl, (fun ms h => by rw [HN.out] at h; cases h; exact ho), (fun h => by rw [HN.out] at h; cases h), hb⟩
end Go.Proofs.YtpiflhhppigdfaaGreatDoor
