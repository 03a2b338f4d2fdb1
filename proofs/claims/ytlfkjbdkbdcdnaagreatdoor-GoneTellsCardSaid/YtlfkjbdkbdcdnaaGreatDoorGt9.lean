/- slices.Values, AppendSeq, Collect, Sorted, Sort, Compact at []int; gone.Keys. slices.IndexFunc and DeleteFunc at []int, at whatever function value that answers by a plain predicate. gone.Has, gone.Read, gone.Make: the walks. gone.Make: the walk. deedboxref1: Byte, below, Decimal: the numeral. -/
import Derived.Test.YtlfkjbdkbdcdnaaGreatDoorGt8
import Derived.Test.YtlfkjbdkbdcdnaaGreatDoorGt4
import Derived.Test.YtlfkjbdkbdcdnaaGreatDoorGt2
import Derived.Test.YtlfkjbdkbdcdnaaGreatDoorGt5
import Derived.Test.YtlfkjbdkbdcdnaaGreatDoorGt6
import Derived.Test.YtlfkjbdkbdcdnaaGreatDoorGt7
import Derived.Lib.OwnBridge
import Derived.Outline
import Derived.Laws.BytesArg
import Derived.Lib.ItoaLen
namespace Go.Proofs.YtlfkjbdkbdcdnaaGreatDoor
open Go.RowKit Go.Shelf Go.Sort

attribute [local go_sem] Oper.semAt_some in
set_option maxRecDepth 100000 in
set_option maxHeartbeats 2000000 in
/-- slices.Values's closure, for every loop body that keeps what lay below n₀. -/
theorem values1I_in (F : Fence) (n : Nat) (h7 : F.fn 148) (hro : F.round = none) (hn : 1 ≤ n) (l Bs n₀ : Nat) (a : Option Addr) (c b o : Nat) (zs : List Int) (ha : 0 < zs.length → a = some ⟨b, o, none⟩) (hb : 0 < zs.length → b < n₀) (J Jx : List Int → World → Prop)
    (W : World) (hcm : zs.length ≤ 9223372036854775807)
    (hY : ∀ pre x W1, J pre W1 → pre.length < zs.length → YieldAt F (n - 1) Tryz.prog l #[.int .i64 x] W1 fun e W' =>
      (e = .returned (.bool true) ∧ J (pre ++ [x]) W' ∧ Below n₀ W1 W') ∨ (e = .returned (.bool false) ∧ Jx (pre ++ [x]) W'))
    (hBs : W.cell? ⟨Bs, 0, none⟩ = some (.slice a zs.length c)) (hx : ∀ (k : Nat) (x : Int), zs[k]? = some x → ∀ (j : Nat) (u : Value), (encI x)[j]? = some u → W.cell? ⟨b, o + k * 1 + j, none⟩ = some u) (h0 : J [] W) :
    CallsIn F n Tryz.prog 148 #[.func (.yield l) #[] #[], .pointer (some ⟨Bs, 0, none⟩)] W fun e W' => (∃ v, e = .returned v) ∧ ((∃ ys, ys = zs ∧ J ys W') ∨ (∃ pre, pre <+: zs ∧ Jx pre W')) := by
  refine callsIn_of_wp Tryz.func148 rfl h7 ?_ hro
  simp only [Tryz.ntmps148, List.size_toArray, List.length_cons, List.length_nil, Nat.reduceAdd, Nat.reduceSub, Array.replicate_succ, Array.replicate_zero, List.push_toArray, List.append_toArray, List.nil_append, List.cons_append]
  gi_wp2
  gi_loopw [7] (fun i wr => ∃ k : Nat, k ≤ zs.length ∧ i = .int .i64 k ∧ J (zs.take k) wr ∧ Below n₀ W wr) (fun i _ => zs.length - (intOf i).toNat)
  case atStart => exact ⟨0, Nat.zero_le _, rfl, h0, Below.refl _ _⟩
  case round =>
    obtain ⟨k, hk, rfl, hJs, hnx⟩ := hrel
    by_cases hlt : k < zs.length
    case neg =>
      obtain rfl : k = zs.length := by omega
      rw [List.take_length] at hJs
      gi_wp2
      go_end0
      exact ⟨⟨_, rfl⟩, .inl ⟨_, rfl, hJs⟩⟩
    obtain ⟨x, hxk⟩ := get_ex hlt
    have hbn := hb (by omega)
    have c0 := (hnx.cell (p := ⟨b, o + k * 1 + 0, none⟩) hbn).trans (hx k x hxk 0 _ rfl)
    have i1 := idx_at (c := c) 1 Tryz.underlying39 szInt ha k hlt
    have hk1 : (k : Int) < (zs.length : Int) := by omega
    simp only [Nat.add_zero, Nat.mul_one] at c0 i1
    obtain ⟨fn, tmps, assign, body, hy, hR⟩ := hY _ x wr hJs (by rw [List.length_take]; omega)
    have HSn := Lib.hid (take_snoc' hxk)
    clear hxk
    gi_wp2
    refine hR.mono ?_
    rintro e W3 (⟨rfl, hJ3, hk3⟩ | ⟨rfl, hJx3⟩)
    · gi_wp2
      go_roundw
      case rel => exact ⟨k + 1, by omega, by simp, by rw [HSn.out]; exact hJ3, hnx.trans hk3⟩
      case measure => simp [intOf]; omega
    · gi_wp2
      refine bodyPost_ret (results_none rfl _ _ _) rfl ?_
      exact ⟨⟨_, rfl⟩, .inr ⟨_, by rw [← HSn.out]; exact List.take_prefix _ _, hJx3⟩⟩
theorem valuesI_any (a : Option Addr) (len cap : Nat) (w : World) :
    Calls Tryz.prog 114 #[.slice a len cap] w fun e w' => e = .returned (.func (.func 148) #[] #[.pointer (some ⟨w.heap.size, 0, none⟩)]) ∧ w' = w.alloc (.cells #[.slice a len cap] 39) := by
  go_enter Tryz.func114, Tryz.ntmps114
  go_wp2_with fail
  go_ret
  exact ⟨rfl, rfl⟩
/-- slices.Values(l) hands back a value that yields all of l, in order. -/
theorem valuesI_stops (F : Fence) (n : Nat) (h7 : F.fn 148) (hro : F.round = none) (hn : 1 ≤ n) (Bs n₀ : Nat) (v : Value) (zs : List Int) (w0 w : World) (hBs : Bs < w.heap.size) (_hn₀ : n₀ ≤ w.heap.size)
    (hc : w.cell? ⟨Bs, 0, none⟩ = some v) (hl : IntsAt w0 v zs) (hlow : w0.heap.size ≤ n₀) (hb0 : Below w0.heap.size w0 w) :
    SeqStopsK F n Tryz.prog 148 #[.pointer (some ⟨Bs, 0, none⟩)] (fun x : Int => #[.int .i64 x]) (Below n₀) (fun ys => ys = zs) (fun pre => pre <+: zs) zs.length w := fun l J Jx W hW hJ _ hY h0 => by
  obtain ⟨a, c, b, o, rfl, ha, hcc, hcm, hx⟩ := hl
  have hbn : 0 < zs.length → b < w0.heap.size := fun h => by
    obtain ⟨x, hxk⟩ := get_ex (l := zs) (k := 0) h
    exact World.block_lt_of_cell? w0 ⟨b, o + 0 * 1 + 0, none⟩ (hx 0 x hxk 0 _ rfl)
  have hbW := hb0.trans (hW.mono hb0.size)
  refine values1I_in F n h7 hro hn l Bs n₀ a c b o zs ha (fun h => Nat.lt_of_lt_of_le (hbn h) hlow) J Jx W (by unfold maxLen at hcm; omega) hY ((hW.cell (p := ⟨Bs, 0, none⟩) hBs).trans hc) (fun k x hk j u hu => ?_) h0
  have h1 := hx k x hk j u hu
  exact (hbW.cell (World.block_lt_of_cell? w0 _ h1)).trans h1
theorem infoInt : (Tryz.prog.info? 3).map (fun i => (i.zero, i.size, i.bytes)) = some (some (.int .i64 0), 1, 8) := by kernel_rfl
attribute [local go_sem] Oper.semAt_some in
set_option maxRecDepth 100000 in
set_option maxHeartbeats 2000000 in
/-- slices.AppendSeq(nil, seq): all that seq yields. -/
theorem appendSeqI_in (F : Fence) (n : Nat) (h3 : F.fn 183) (hro : F.round = none) (hn : 3 ≤ n) (gf : Nat) (lb : Array Value) (hFg : F.fn gf) (eg : ∀ args w, (callFunc gf args).run Tryz.prog w = .ok (.enter gf args) w) (zs : List Int) (hz : zs.length ≤ 100000) (n₀ : Nat) (w : World) (hn₀ : n₀ ≤ w.heap.size)
    (hseq : SeqStopsK F (n - 1) Tryz.prog gf lb (fun x : Int => #[.int .i64 x]) (Below n₀) (fun ys => ys = zs) (fun pre => pre <+: zs) zs.length w) :
    CallsIn F n Tryz.prog 183 #[.slice none 0 0, .func (.func gf) #[] lb] w fun e w' => ∃ v, e = .returned v ∧ Own encI 3 1 w.heap.size w' v zs ∧ Below w.heap.size w w' := by
  have h1 : 1 ≤ n := by omega
  obtain ⟨i0, hi, hz0, hz1, hz2⟩ := info_parts infoInt
  refine callsIn_of_wp_marks Tryz.func183 rfl h3 ?_ hro
  simp only [Tryz.ntmps183, List.size_toArray, List.length_cons, List.length_nil, Nat.reduceAdd, Nat.reduceSub, Array.replicate_succ, Array.replicate_zero, List.push_toArray, List.append_toArray, List.nil_append, List.cons_append]
  gi_wp2
  have bO := Boxed.new w 39 (.slice none 0 0)
  have hB0 : Below w.heap.size w (w.alloc (.cells #[.slice none 0 0] 39)) := (Below.refl _ w).alloc (Nat.le_refl _) _
  have hsz : (w.alloc (.cells #[.slice none 0 0] 39)).heap.size = w.heap.size + 1 := by simp
  have hseq' : SeqStopsK F (n - 1) Tryz.prog gf lb (fun x : Int => #[.int .i64 x]) (Below n₀) (fun ys => ys = zs) (fun pre => pre <+: zs) zs.length (w.alloc (.cells #[.slice none 0 0] 39)) := fun l J Jx W hW => hseq l J Jx W (hB0.trans (hW.mono hB0.size))
  obtain ⟨W0, hW0⟩ : ∃ W0, w.alloc (.cells #[.slice none 0 0] 39) = W0 := ⟨_, rfl⟩
  rw [hW0] at bO hB0 hsz hseq' ⊢
  clear hW0
  refine wpIn_rangeFunc_ownF hro h1 (gf := gf) (lb := lb) rfl hFg eg hseq' belowK_t (belowK_b (by omega)) (Below.refl _ _) (fun _ => rfl)
    (fun pre W => (∃ v, Boxed W w.heap.size 39 v ∧ W.ownsRow w.heap.size 3 1 v pre.length (pre.flatMap encI) ∧ True) ∧ Below w.heap.size w W)
    (fun _ _ _ => False)
    (OwnFrom.and (Go.Own.from (holdsRow_own w.heap.size w.heap.size 39 3 1 (fun pre : List Int => pre.length) (fun pre => pre.flatMap encI) (fun _ _ => True)) _) (ownFrom_below (Nat.le_refl _) (by omega)))
    (fun _ _ _ _ _ hs _ _ => hs)
    ⟨⟨_, bO, World.ownsRow_nil _ _ _ _, trivial⟩, hB0⟩ ?a1 ?assign ?body ?done ?stop
  case assign =>
    intro l x W K hK
    gi_wp2
    exact hK
  case body =>
    rintro l pre x W ⟨⟨v, hv, hrow, -⟩, hB⟩ hlt
    have hc := hv.cell
    gi_wp2_with (gi_at_builtin; refine wpListIn_append_own _ rfl _ _ 39 rfl w.heap.size 3 i0 _ 1 8 Tryz.underlying39 hi hz0 hz1 hz2 rfl (by decide) _ _ _ rfl (hrow.alloc _) ⟨W.heap.size, 0, none⟩ 1 1 (encI x) rfl rfl (cells_new3 _ _ _) (by simp [Value.oneCell']) (by unfold maxLen; omega) (by omega) (by have := hB.size; simp; omega) ?_; intro v' w1 hown' hgrow _; obtain ⟨g', cap', rfl⟩ := ownsRow_succ hown'; obtain ⟨hv1, hv2, hr2, hk2, hb2⟩ := hv.appended (by decide) hrow hB.size (Nat.le_refl _) hown' hgrow; have hc1 := hv1.cell; have hf1 := hv1.frozen)
    exact ⟨hk2, hb2.mono hn₀, ⟨_, hv2, by simpa using hr2, trivial⟩, hB.trans hb2⟩
  case done =>
    rintro D ys W hD rfl ⟨⟨v, hv, hrow, -⟩, hB⟩ hK
    have hc := hv.cell
    gi_wp2
    refine ⟨by simp, .inl ⟨_, _, rfl, run_takeDeferred hK, ?_⟩⟩
    exact ⟨_, results_tmp rfl _ _ _, v, rfl, ownsRow_putObj hrow _ hK rfl, hB.trans (belowK_b (w := w) (Nat.le_refl _) W D _ _ (by omega) hK rfl rfl)⟩
  case stop =>
    rintro D c pre W _ _ h _
    exact h.elim
theorem collectI_any (Bs : Nat) (v : Value) (l : List Int) (w0 w : World) (hBs : Bs < w.heap.size) (hc : w.cell? ⟨Bs, 0, none⟩ = some v) (hl : IntsAt w0 v l) (hb0 : Below w0.heap.size w0 w) (hn : l.length ≤ 100000) :
    Calls Tryz.prog 146 #[.func (.func 148) #[] #[.pointer (some ⟨Bs, 0, none⟩)]] w fun e w' => ∃ u, e = .returned u ∧ Own encI 3 1 w.heap.size w' u l ∧ Below w.heap.size w w' := by
  have HA := Lib.hid ((callsIn_wide (n := 5)).1 (appendSeqI_in Fence.wide 5 trivial rfl (by omega) 148 #[.pointer (some ⟨Bs, 0, none⟩)] trivial (enters_of Tryz.func148 (by kernel_rfl) rfl) l hn w.heap.size w (Nat.le_refl _)
    (valuesI_stops Fence.wide 4 trivial rfl (by omega) Bs w.heap.size v l w0 w hBs (Nat.le_refl _) hc hl hb0.size hb0)))
  clear hc
  go_enter Tryz.func146, Tryz.ntmps146
  go_wp2_with fail
  refine HA.out.mono ?_
  rintro e w1 ⟨u, rfl, hown, hb1⟩
  go_wp2_with fail
  go_ret
  exact ⟨_, rfl, hown, hb1⟩
theorem flat_encI (l : List Int) : l.flatMap encI = l.map (.int .i64) := flat_one _ _
theorem grownBy_grow (w : World) (os : Array Obj) : w.grownBy (grow w os) none := ⟨rfl, rfl, rfl, by simp, fun k hk _ => heap_grow_old _ _ hk⟩
theorem sortI_any (B : Nat) (v : Value) (l : List Int) (w : World) (ho : Own encI 3 1 B w v l) (hB : B ≤ w.heap.size) (hn : l.length ≤ 100000) :
    Calls Tryz.prog 147 #[v] w fun e w' => e = .returned (.tuple #[]) ∧ Own encI 3 1 B w' v (sortI l) ∧ Below B w w' := by
  have ho' : w.ownsRow B 3 1 v l.length (l.map (.int .i64)) := by rw [← flat_encI]; exact ho
  by_cases hv : v = .slice none 0 0
  · subst hv
    have h0 : l = [] := by
      rcases ho'.2 with ⟨_, h0⟩ | ⟨g, cap, cur, e, _⟩
      · exact List.eq_nil_of_length_eq_zero h0
      · cases e
    subst h0
    refine (Tryz.slices_Sort_int_none none 0 w).mono ?_
    rintro e w' ⟨rfl, rfl⟩
    exact ⟨rfl, by simpa [sortI] using ho, Below.refl _ _⟩
  · obtain ⟨g, cap, rfl, hBg, hgl, hc, hcm, -, hH⟩ := Lib.holds_of_ownsRow ho' hv
    refine (Tryz.slices_Sort_int g 0 cap l w hH hgl (by omega)).mono ?_
    rintro e w' ⟨rfl, q, os, rfl⟩
    have h1 := Lib.ownsRow_putRow (q := q) (k := l.length) (ys := sortI l) ho' (by simp) (Nat.le_refl _)
    rw [List.take_of_length_le (by simp)] at h1
    refine ⟨rfl, ?_, (Lib.below_putRow (Below.refl _ _) hBg).grown (grownBy_grow _ os) (by simpa using hB) (fun j e => by cases e)⟩
    unfold Own
    rw [flat_encI, List.length_mergeSort]
    exact World.ownsRow.kept h1 (grownBy_grow _ os) (.inr (by simp [Value.ownBlock]))
theorem compactI_any (B : Nat) (v : Value) (l : List Int) (w : World) (ho : Own encI 3 1 B w v l) (hn : l.length ≤ 100000) :
    Calls Tryz.prog 115 #[v] w fun e w' => ∃ v', e = .returned v' ∧ Own encI 3 1 B w' v' (Lib.compact l) ∧ Below B w w' := by
  have ho' : w.ownsRow B 3 1 v l.length (l.map (.int .i64)) := by rw [← flat_encI]; exact ho
  by_cases hv : v = .slice none 0 0
  · subst hv
    have h0 : l = [] := by
      rcases ho'.2 with ⟨_, h0⟩ | ⟨g, cap, cur, e, _⟩
      · exact List.eq_nil_of_length_eq_zero h0
      · cases e
    subst h0
    refine (Tryz.slices_Compact_int_empty none 0 w).mono ?_
    rintro e w' ⟨rfl, rfl⟩
    exact ⟨_, rfl, by simpa [Lib.compact, Lib.compactUpTo] using ho, Below.refl _ _⟩
  · obtain ⟨g, cap, rfl, hBg, hgl, hc, hcm, -, hH⟩ := Lib.holds_of_ownsRow ho' hv
    have hle := Lib.compact_length_le l
    refine (Tryz.slices_Compact_int g 0 cap l w hH (by omega) hc).mono ?_
    rintro e w' ⟨rfl, q, rfl⟩
    refine ⟨_, rfl, ?_, Lib.below_putRow (Below.refl _ _) hBg⟩
    have hc := Lib.ownsRow_putRow (q := q) (k := (Lib.compact l).length) (ys := Lib.compact l ++ List.replicate (l.length - (Lib.compact l).length) 0) ho' (by simp; omega) (by omega)
    rw [List.take_left] at hc
    unfold Own
    rw [flat_encI]
    exact hc
theorem sortedI_any (Bs : Nat) (v : Value) (l : List Int) (w0 w : World) (hBs : Bs < w.heap.size) (hc : w.cell? ⟨Bs, 0, none⟩ = some v) (hl : IntsAt w0 v l) (hb0 : Below w0.heap.size w0 w) (hn : l.length ≤ 100000) :
    Calls Tryz.prog 113 #[.func (.func 148) #[] #[.pointer (some ⟨Bs, 0, none⟩)]] w fun e w' => ∃ u, e = .returned u ∧ Own encI 3 1 w.heap.size w' u (sortI l) ∧ Below w.heap.size w w' := by
  have HC := Lib.hid (collectI_any Bs v l w0 w hBs hc hl hb0 hn)
  clear hc
  go_enter Tryz.func113, Tryz.ntmps113
  go_wp2_with fail
  refine HC.out.mono ?_
  rintro e w1 ⟨u, rfl, hown, hb1⟩
  have HS := Lib.hid (sortI_any w.heap.size u l w1 hown hb1.size hn)
  go_wp2_with fail
  refine HS.out.mono ?_
  rintro e w2 ⟨rfl, hown2, hb2⟩
  go_wp2_with fail
  go_ret
  exact ⟨_, rfl, hown2, hb1.trans hb2⟩
theorem goneKeys_any (v : Value) (l : List Int) (w : World) (hl : IntsAt w v l) (hn : l.length ≤ 100000) :
    Calls Tryz.prog 62 #[v] w fun e w' => ∃ u, e = .returned u ∧ Own encI 3 1 w.heap.size w' u (risOf l) ∧ Below w.heap.size w w' := by
  obtain ⟨a, c, rfl, -, -⟩ := hl.form'
  have hba : Below w.heap.size w (w.alloc (.cells #[.slice a l.length c] 39)) := (Below.refl _ _).alloc (Nat.le_refl _) _
  have c0 : (w.alloc (.cells #[.slice a l.length c] 39)).cell? ⟨w.heap.size, 0, none⟩ = some (.slice a l.length c) := by simp
  have HS := Lib.hid (sortedI_any w.heap.size _ l w _ (by simp) c0 hl hba hn)
  clear c0
  go_enter Tryz.func62, Tryz.ntmps62
  go_wp2_with fail
  refine (valuesI_any a l.length c w).mono ?_
  rintro e w1 ⟨rfl, rfl⟩
  go_wp2_with fail
  refine HS.out.mono ?_
  rintro e w2 ⟨u, rfl, hown, hb2⟩
  have HC := Lib.hid (compactI_any w.heap.size u (sortI l) w2 (hown.base (by simp)) (by simpa using hn))
  rw [compact_sort] at HC
  go_wp2_with fail
  refine HC.out.mono ?_
  rintro e w3 ⟨u3, rfl, hown3, hb3⟩
  go_wp2_with fail
  go_ret
  exact ⟨_, rfl, hown3, (hba.trans (hb2.mono hba.size)).trans hb3⟩
end Go.Proofs.YtlfkjbdkbdcdnaaGreatDoor
namespace Go.Proofs.YtlfkjbdkbdcdnaaGreatDoor
open Go.RowKit

theorem indexFuncI_any (f : FuncId) (caps : Array Value) (p : Int → Bool) (base : Nat) (w0 : World) (v : Value) (l : List Int) (w : World) (hf : Clo Tryz.prog f) (hp : PredOn Tryz.prog f caps (.int .i64) l p base w0)
    (hl : IntsAt w v l) (hw : Below base w0 w) (hB : base ≤ w.heap.size) :
    Calls Tryz.prog 63 #[v, .func (.func f) #[] caps] w fun e w' => e = .returned (.int .i64 (idxVal p l)) ∧ Below w.heap.size w w' := by
  obtain ⟨a, c, b, o, rfl, ha, hc, hcm, hx⟩ := hl
  unfold maxLen at hcm
  have hf' := hf
  unfold Clo at hf'
  go_enter Tryz.func63, Tryz.ntmps63
  go_wp2_with fail
  go_loopw [8] (fun i wr => ∃ k : Nat, k ≤ l.length ∧ i = .int .i64 k ∧ Hid (∀ j y, j < k → l[j]? = some y → p y = false) ∧ Below w.heap.size w wr) (fun i _ => l.length - (intOf i).toNat)
  case atStart => exact ⟨0, by omega, rfl, fun j y hj => absurd hj (by omega), Below.refl _ _⟩
  case round =>
    obtain ⟨k, hk, rfl, hj, hb⟩ := hrel
    by_cases hlt : k < l.length
    · obtain ⟨x, hxk⟩ := get_ex hlt
      have c1 := hx k x hxk 0 _ rfl
      have c1 := (hb.cell (World.block_lt_of_cell? w _ c1)).trans c1
      have i1 := idx_at (c := c) 1 Tryz.underlying39 szInt ha k hlt
      have hk1 : (k : Int) < (l.length : Int) := by omega
      simp only [Nat.mul_one, Nat.add_zero] at c1 i1
      have hpx := hp wr x (List.mem_of_getElem? hxk) (hw.trans (hb.mono hB)) (Nat.le_trans hB hb.size)
      have Hp := Lib.hid hpx; clear hpx
      have Hx := Lib.hid hxk; clear hxk
      go_wp2_with fail
      refine Hp.out.mono ?_
      rintro e w1 ⟨rfl, hb1⟩
      have hb2 := hb.trans (hb1.mono hb.size)
      cases hpv : p x with
      | true =>
        have Hpv := Lib.hid hpv; clear hpv
        go_wp2_with fail
        go_ret
        refine ⟨?_, hb2⟩
        rw [idxVal_some Hx.out Hpv.out hj.out]; rfl
      | false =>
        have Hpv := Lib.hid hpv; clear hpv
        go_wp2_with fail
        go_roundw
        case rel => exact ⟨k + 1, by omega, by go_num, (fun j y hj' hy => by
          rcases Nat.lt_or_ge j k with h | h
          · exact hj.out j y h hy
          · obtain rfl : j = k := by omega
            rw [Hx.out] at hy
            obtain rfl := Option.some.inj hy
            exact Hpv.out), hb2⟩
        case measure => simp [intOf]; omega
    · obtain rfl : k = l.length := by omega
      go_wp2_with fail
      go_ret
      refine ⟨?_, hb⟩
      rw [idxVal_none fun j x hj' => hj.out j x (by
        rcases Nat.lt_or_ge j l.length with h | h
        · exact h
        · rw [List.getElem?_eq_none h] at hj'; cases hj') hj']
      rfl
end Go.Proofs.YtlfkjbdkbdcdnaaGreatDoor
namespace Go.Proofs.YtlfkjbdkbdcdnaaGreatDoor
open Go.RowKit

theorem Own.stays3 {α : Type} {enc : α → List Value} {sz : Nat} {w w' : World} {v : Value} {l : List α} {e : TypeId} {B : Nat} (hen : Enc enc sz) (h : Own enc e sz B w v l) (hw : ∀ p : Addr, B ≤ p.block → p.block < w.heap.size → w'.cell? p = w.cell? p) : At enc sz w' v l := by
  rcases Nat.eq_zero_or_pos l.length with h0 | h0
  · obtain ⟨a, c, b, o, hv, ha, hc, hm, hx⟩ := h.at hen
    exact ⟨a, c, b, o, hv, ha, hc, hm, fun k x hk => absurd (List.getElem?_eq_some_iff.1 hk).1 (by omega)⟩
  · obtain ⟨g', cap, cur, rfl, hB, _, hc, hm, _, _⟩ := h.open h0
    refine ⟨_, cap, g', 0, rfl, fun _ => rfl, hc, hm, fun k x hk j u hu => ?_⟩
    have h1 := h.cells hen k x hk j u hu
    rw [Nat.zero_add]
    exact (hw ⟨g', k * sz + j, none⟩ hB (World.block_lt_of_cell? w _ h1)).trans h1
/-- Integers that lie where nothing lay before: whatever turns what lay there leaves them. -/
def FarI (B : Nat) (w : World) (v : Value) (l : List Int) : Prop := ∀ W : World, (∀ p : Addr, B ≤ p.block → p.block < w.heap.size → W.cell? p = w.cell? p) → IntsAt W v l
theorem FarI.here {B : Nat} {w : World} {v : Value} {l : List Int} (h : FarI B w v l) : IntsAt w v l := h w fun _ _ _ => rfl
theorem goneHas_any (v : Value) (l : List Int) (x : Int) (w : World) (hl : IntsAt w v l) (hn : l.length ≤ 100000) (hup : upI l) :
    Calls Tryz.prog 22 #[v, .int .i64 x] w fun e w' => e = .returned (.bool (decide (x ∈ l))) ∧ Below w.heap.size w w' := by
  obtain ⟨a, c, b, o, rfl, ha, hc, hcm, hx⟩ := hl
  rcases Nat.eq_zero_or_pos l.length with h0 | hpos
  · obtain rfl := List.eq_nil_of_length_eq_zero h0
    go_enter Tryz.func22, Tryz.ntmps22
    go_wp2_with fail
    refine (Tryz.slices_BinarySearch_int_empty a c x w).mono ?_
    rintro e w1 ⟨rfl, rfl⟩
    go_wp2_with fail
    go_ret
    exact ⟨ret_bool (by simp), Below.refl _ _⟩
  · obtain rfl := ha hpos
    have HS := Lib.hid (Tryz.slices_BinarySearch_int b o l.length c l x w (Nat.le_refl _) (by omega) (fun j hj => by
      have := hx j _ (getD_of hj) 0 _ rfl
      simpa using this) (by rw [List.take_length]; exact hup.imp fun {a b} h => Int.le_of_lt h))
    rw [List.take_length] at HS
    clear hx
    go_enter Tryz.func22, Tryz.ntmps22
    go_wp2_with fail
    refine HS.out.mono ?_
    rintro e w1 ⟨rfl, q, rfl⟩
    go_wp2_with fail
    go_ret
    exact ⟨ret_bool (by simp), Bdn (Below.refl _ _) _⟩
theorem goneBad_none {ls : List Str} {i : Nat} {s : Str} (h : ls[i]? = some s) (hn : numOf s = none) : goneBad ls i = 1 := by
  unfold goneBad; rw [h]; simp only; rw [hn]; rfl
theorem goneBad_far {ls : List Str} {i : Nat} {s : Str} {k : Int} (h : ls[i]? = some s) (hn : numOf s = some k) (hf : farN k) : goneBad ls i = 2 := by
  have e : numD s = k := by unfold numD; rw [hn]; rfl
  unfold goneBad; rw [h]; simp only; rw [hn, e]; simp only [Option.isNone_some, Bool.false_eq_true, if_false]; rw [if_pos hf]
theorem goneBad_near {ls : List Str} {i : Nat} {s : Str} {k : Int} (h : ls[i]? = some s) (hn : numOf s = some k) (hf : ¬ farN k) : goneBad ls i = if 0 < i ∧ ∃ t, ls[i - 1]? = some t ∧ k ≤ numD t then 9 else 0 := by
  have e : numD s = k := by unfold numD; rw [hn]; rfl
  unfold goneBad; rw [h]; simp only; rw [hn, e]; simp only [Option.isNone_some, Bool.false_eq_true, if_false]; rw [if_neg hf]
/-- Where the reading stands: the box holds the numbers of the lines read. -/
def GJ (ls : List Str) (O : Nat) (i : Nat) (W : World) : Prop := ∃ v, Boxed W O 39 v ∧ Own encI 3 1 O W v ((ls.take i).map numD)
set_option maxHeartbeats 2000000 in
set_option maxRecDepth 20000 in
theorem goneRead1_any (E : Nat → Addr) (B : Nat) (ls : List Str) (O i : Nat) (s : Str) (w : World) (hE : Errs [1, 2, 9] E B w) (hT : LNum B w) (hs : ls[i]? = some s) (hJ : GJ ls O i w) (hn : ls.length ≤ 100000) (hsl : s.length ≤ 100000) :
    Calls Tryz.prog 69 #[.int .i64 i, S s, .pointer (some ⟨O, 0, none⟩)] w fun e w' => ∃ ev, e = .returned ev ∧ ErV E w' ev (erOf (goneBad ls i)) ∧ (goneBad ls i = 0 → GJ ls O (i + 1) w') ∧ Below O w w' := by
  have hBw := hE.le
  obtain ⟨v, hv, hown⟩ := hJ
  have hO : O < w.heap.size := hv.lt
  have hE1 := fun w1 (hb : Below w.heap.size w w1) => (⟨(hE.below' hb hBw).var 1 (by decide), (hE.below' hb hBw).var 2 (by decide), (hE.below' hb hBw).var 9 (by decide)⟩ : _ ∧ _ ∧ _)
  simp only [errG] at hE1
  have HE1 := Lib.hid hE1
  have hlen : ((ls.take i).map numD).length = i := by rw [List.length_map, List.length_take]; have := (List.getElem?_eq_some_iff.1 hs).1; omega
  have hi1 := (List.getElem?_eq_some_iff.1 hs).1
  have HN := Lib.hid (number_any B s w hT hsl)
  have hsn : (ls.take (i + 1)).map numD = (ls.take i).map numD ++ [numD s] := by rw [take_snoc' hs, List.map_append]; rfl
  have HB1 := Lib.hid (goneBad_none hs)
  have HB2 := Lib.hid (fun k => @goneBad_far ls i s k hs)
  have HB3 := Lib.hid (fun k => @goneBad_near ls i s k hs)
  have hprev : ∀ y, 0 < i → ((ls.take i).map numD)[i - 1]? = some y → ((∃ t, ls[i - 1]? = some t ∧ numD s ≤ numD t) ↔ numD s ≤ y) := fun y h0 hy => by
    rw [List.getElem?_map, List.getElem?_take_of_lt (by omega)] at hy
    cases ht : ls[i - 1]? with
    | none => rw [ht] at hy; cases hy
    | some t =>
      rw [ht] at hy
      cases hy
      exact ⟨fun ⟨t', e, h⟩ => by cases e; exact h, fun h => ⟨t, rfl, h⟩⟩
  obtain ⟨q, hq⟩ : ∃ q, (ls.take i).map numD = q := ⟨_, rfl⟩
  rw [hq] at hown hlen hsn hprev
  have HSn := Lib.hid hsn
  have HPrev := Lib.hid hprev
  have HLen := Lib.hid hlen
  obtain ⟨atn, hat⟩ : ∃ m, atoiN s = m := ⟨_, rfl⟩
  obtain ⟨o, ho⟩ : ∃ o, numOf s = o := ⟨_, rfl⟩
  have hom : ∀ n, o = some n → atn = n := fun n h => by rw [← hat, ← numOf_atoiN (ho.trans h)]
  have hnd : ∀ n, o = some n → numD s = n := fun n h => by unfold numD; rw [ho, h]; rfl
  rw [hat, ho] at HN
  rw [ho] at HB1
  simp only [ho] at HB2 HB3
  have HHnd := Lib.hid hnd
  clear hE1 hs hsn hprev hat ho hnd hq hlen
  go_enter Tryz.func69, Tryz.ntmps69
  go_wp2_with fail
  refine HN.out.mono ?_
  rintro e w1 ⟨rfl, hb1⟩
  obtain ⟨v1, v2, v3⟩ := HE1.out _ hb1
  cases o with
  | none =>
    have hbad : goneBad ls i = 1 := HB1.out rfl
    have HBad := Lib.hid hbad
    clear hbad hom
    simp only [Option.isSome_none]
    go_wp2_with fail
    go_ret
    exact ⟨_, rfl, by rw [HBad.out]; exact ⟨by decide, rfl⟩, fun h => (by rw [HBad.out] at h; cases h), hb1.mono (by omega)⟩
  | some k =>
    obtain rfl := hom k rfl
    have hnk := HHnd.out atn rfl
    simp only [Option.isSome_some]
    clear hom HHnd
    rw [hnk] at HSn HPrev
    clear hnk
    by_cases hf : farN atn
    case pos =>
      have hbad : goneBad ls i = 2 := HB2.out atn rfl hf
      have hd : decide (farN atn) = true := decide_eq_true hf
      have HBad := Lib.hid hbad
      clear hbad hf
      go_wp2_with (first | (go_at_call 64; refine (far_any _ _).mono ?_; rintro e w' ⟨rfl, rfl⟩; rw [hd]))
      go_ret
      exact ⟨_, rfl, by rw [HBad.out]; exact ⟨by decide, rfl⟩, fun h => (by rw [HBad.out] at h; cases h), hb1.mono (by omega)⟩
    have hd : decide (farN atn) = false := decide_eq_false hf
    have hbad := HB3.out atn rfl hf
    have HBad := Lib.hid hbad
    have hown1 := hown.below hb1
    have hv1 : Boxed w1 O 39 v := (hb1.block O hO).trans hv
    have hb1' : Below O w w1 := hb1.mono (by omega)
    have hO1 : O ≤ w1.heap.size := Nat.le_trans (by omega) hb1.size
    clear hbad hf HB1 HB2 HB3 hown hv
    have hbx := hv1.cell
    by_cases h0 : 0 < i
    case' pos =>
      obtain ⟨g, cap, cur, rfl, -⟩ := hown1.open (by rw [HLen.out]; exact h0)
      obtain ⟨y, hy⟩ := get_ex (l := q) (k := i - 1) (by rw [HLen.out]; omega)
      have hyc := hown1.cells1 (f := Value.int .i64) encI_enc (fun _ => rfl) (i - 1) y hy
      have hpv := HPrev.out y h0 hy
      have i2 := idx_at (n := q.length) (c := cap) (b := g) (o := 0) 1 Tryz.underlying39 szInt (fun _ => rfl) (i - 1) (by rw [HLen.out]; omega)
      have hcast : ((i - 1 : Nat) : Int) = (i : Int) - 1 := by omega
      simp only [hcast, Nat.mul_one, Nat.zero_add] at i2
      have hp1 : (0 : Int) < (i : Int) := by omega
      have hs0 : (0 : Int) ≤ (i : Int) - 1 := by omega
      have hs1 : (i : Int) - 1 < (q.length : Int) := by rw [HLen.out]; omega
      clear hy hcast
      by_cases hle : atn ≤ y
      case pos =>
        have HBad9 : Hid (goneBad ls i = 9) := Lib.hid (by rw [HBad.out, if_pos ⟨h0, hpv.2 hle⟩])
        clear hpv
        go_wp2_with (first | (go_at_call 64; refine (far_any _ _).mono ?_; rintro e w' ⟨rfl, rfl⟩; rw [hd]))
        go_ret
        exact ⟨_, rfl, by rw [HBad9.out]; exact ⟨by decide, rfl⟩, fun h => (by rw [HBad9.out] at h; cases h), hb1'⟩
      have hle2 : decide (atn ≤ y) = false := by simpa using hle
      have HBad0 : Hid (goneBad ls i = 0) := Lib.hid (by rw [HBad.out, if_neg (fun h => hle (hpv.1 h.2))])
      clear hpv hle
    case' neg =>
      have hp0 : decide ((0 : Int) < (i : Int)) = false := by simp; omega
      have HBad0 : Hid (goneBad ls i = 0) := Lib.hid (by rw [HBad.out, if_neg (fun h => h0 h.1)])
    all_goals
      go_wp2_with (first
        | (go_at_call 64; refine (far_any _ _).mono ?_; rintro e w' ⟨rfl, rfl⟩; rw [hd])
        | (at_builtin; refine wpList_app rfl _ _ _ rfl O elInt _ q.length _ rfl (hown1.alloc _) (.slice (some ⟨w1.heap.size, 0, none⟩) 1 1) 1 (encI atn) rfl (src_one rfl rfl (by simp [Value.oneCell'])) (by rw [HLen.out]; unfold maxLen; omega) (by rw [HLen.out]; omega) (by simp; omega) ?_; intro v' w2 hown2 hg2 _; obtain ⟨g', cap', rfl⟩ := ownsRow_succ hown2; obtain ⟨hq1, hq2, hq3, hq4, hq5⟩ := hv1.appended (by decide) hown1 hO1 (Nat.le_refl _) hown2 hg2; have hc1 := hq1.cell; have hf1 := hq1.frozen))
      go_ret
      exact ⟨_, rfl, by rw [HBad0.out]; rfl, fun _ => ⟨_, hq2, by rw [HSn.out]; exact Own.snoc hq3⟩, hb1'.trans hq5⟩
theorem readEr_split {word s : Str} {bad : List Str → Nat → Nat} {keys : List Str → List Int} (h : splitE word s ≠ .nil) : readEr word s bad keys = splitE word s := if_pos h
theorem readEr_each {word s : Str} {bad : List Str → Nat → Nat} {keys : List Str → List Int} (h : splitE word s = .nil) (h2 : eachEr (bad (splitL s)) (splitL s) ≠ .nil) : readEr word s bad keys = eachEr (bad (splitL s)) (splitL s) := by
  unfold readEr; rw [if_neg (by simpa using h), if_pos h2]
theorem readEr_full {word s : Str} {bad : List Str → Nat → Nat} {keys : List Str → List Int} (h : splitE word s = .nil) (h2 : eachEr (bad (splitL s)) (splitL s) = .nil) (h3 : 40 < (keys (splitL s).dropLast).length) : readEr word s bad keys = .bare 8 := by
  unfold readEr; rw [if_neg (by simpa using h), if_neg (by simpa using h2), if_pos h3]
theorem readEr_last {word s : Str} {bad : List Str → Nat → Nat} {keys : List Str → List Int} (h : splitE word s = .nil) (h2 : eachEr (bad (splitL s)) (splitL s) = .nil) (h3 : ¬ 40 < (keys (splitL s).dropLast).length) : readEr word s bad keys = if fitsI (splitN word s) (keys (splitL s).dropLast) then .nil else .bare 3 := by
  unfold readEr; rw [if_neg (by simpa using h), if_neg (by simpa using h2), if_neg h3]
theorem splitN_four {word s : Str} (h : splitE word s = .nil) : ∃ n0 n1 n2 n3, splitN word s = [n0, n1, n2, n3] := by
  unfold splitE at h
  split at h
  · cases h
  cases hn : headN word s with
  | none => rw [hn] at h; cases h
  | some n =>
    obtain ⟨n0, n1, n2, n3, rfl, -⟩ := headN_some hn
    exact ⟨n0, n1, n2, n3, by unfold splitN; rw [hn]; rfl⟩
theorem splitL_len {s : Str} {m : Nat} (h : s.length ≤ m) : (splitL s).length ≤ m + 1 ∧ ∀ x ∈ splitL s, x.length ≤ m := by
  have hc := (cut_len s [10]).2
  unfold splitL
  constructor
  · rw [cutAt_length]
    have h2 : (Lib.cut s [10]).2.1.count 10 ≤ (Lib.cut s [10]).2.1.length := List.count_le_length
    omega
  · intro x hx
    have := cutAt_mem_len (c := 10) hx
    omega
set_option maxHeartbeats 2000000 in
set_option maxRecDepth 20000 in
theorem goneReadFar_any (E : Nat → Addr) (B : Nat) (s : Str) (w : World) (hE : Errs [1, 2, 3, 8, 9, 10] E B w) (hT : LNum B w) (hM : LMax B w) (hs : s.length ≤ 50000) :
    Calls Tryz.prog 19 #[S s] w fun e w' => ∃ u ev, e = .returned (.tuple #[u, ev]) ∧ ErV E w' ev (goneE s) ∧ FarI w.heap.size w' u (goneL s) ∧ Below w.heap.size w w' := by
  have hBw := hE.le
  have hif := isIfaceE
  have hE1 := fun w1 (hb : Below w.heap.size w w1) => (⟨(hE.below' hb hBw).var 3 (by decide), (hE.below' hb hBw).var 8 (by decide)⟩ : _ ∧ _)
  simp only [errG] at hE1
  have HE1 := Lib.hid hE1
  have X := Lib.hid (fun W (h : Below w.heap.size w W) => (⟨hE.below' h hBw, hT.below' h hBw, hM.below' h hBw⟩ : Errs [1, 2, 3, 8, 9, 10] E B W ∧ LNum B W ∧ LMax B W))
  obtain ⟨hll, hlm⟩ := splitL_len hs
  have HS := Lib.hid (dataSplit_any E B kGone s w (hE.sub (by decide)) hT hM (by omega))
  have hG : goneE s = readEr kGone s goneBad (fun l => l.map numD) := rfl
  have hL : goneL s = if goneE s = .nil then (splitL s).dropLast.map numD else [] := rfl
  have HL := Lib.hid hL
  have HG := Lib.hid hG
  have HLm := Lib.hid hlm
  have HF4 := Lib.hid (@splitN_four kGone s)
  have H1 := Lib.hid (@readEr_split kGone s goneBad (fun l => l.map numD))
  have H2 := Lib.hid (@readEr_each kGone s goneBad (fun l => l.map numD))
  have H3 := Lib.hid (@readEr_full kGone s goneBad (fun l => l.map numD))
  have H4 := Lib.hid (@readEr_last kGone s goneBad (fun l => l.map numD))
  clear hG hL hE1 hlm
  generalize splitN kGone s = ns at *
  generalize splitL s = ls at *
  go_enter Tryz.func19, Tryz.ntmps19
  go_wp2_with fail
  refine HS.out.mono ?_
  rintro e w1 ⟨vn, vl, ev, rfl, hev, hgood, hb1⟩
  by_cases h0 : splitE kGone s = .nil
  case neg =>
    obtain ⟨t1, x1, rfl⟩ := hev.iface h0
    have hGe : goneE s = splitE kGone s := HG.out.trans (H1.out h0)
    have HGe := Lib.hid hGe
    have HLe : Hid (goneL s = []) := Lib.hid (by rw [HL.out, hGe, if_neg h0])
    clear h0 hgood hGe
    go_wp2_with fail
    go_ret2
    exact ⟨_, _, rfl, by rw [HGe.out]; exact hev, fun _ _ => (by rw [HLe.out]; exact At.nil _ _ _), hb1⟩
  rw [h0] at hev
  obtain rfl : ev = .nilIface := hev
  obtain ⟨hon, hol⟩ := hgood h0
  obtain ⟨n0, n1, n2, n3, hns⟩ := HF4.out h0
  have H0 := Lib.hid h0
  have HNs := Lib.hid hns
  have hat := hol.at encS_enc
  have hba : Below w1.heap.size w1 (w1.alloc (.cells #[.slice none 0 0] 39)) := (Below.refl _ _).alloc (Nat.le_refl _) _
  have hbA := hb1.trans (hba.mono hb1.size)
  have hEa := dataEach_any E B vl ls 69 #[.pointer (some ⟨w1.heap.size, 0, none⟩)] (goneBad ls) (GJ ls w1.heap.size) w1.heap.size _ ((X.out _ hbA).1.sub (by decide)) (Nat.le_trans hBw hb1.size) (by simp) (enters_of Tryz.func69 (by kernel_rfl) rfl) w1 hat (Nat.le_refl _) hba (by omega)
    ⟨_, Boxed.new w1 39 (.slice none 0 0), Own.nil _ _ _ _ _⟩
    (fun i x W hx hJ hbW => by
      have hbW' := hbA.trans (hbW.mono hb1.size)
      have := goneRead1_any E B ls w1.heap.size i x W ((X.out _ hbW').1.sub (by decide)) (X.out _ hbW').2.1 hx hJ (by omega) (by have := HLm.out x (List.mem_of_getElem? hx); omega)
      exact this)
  have HEa := Lib.hid hEa
  have HOn := Lib.hid hon
  clear hEa hgood hol hat h0 hns hon
  go_wp2_with fail
  refine HEa.out.mono ?_
  rintro e w2 ⟨ev, rfl, hev, hJ, hb2⟩
  have hb12 := hba.trans hb2
  have hb2' := hb1.trans (hb12.mono hb1.size)
  by_cases he : eachEr (goneBad ls) ls = .nil
  case neg =>
    obtain ⟨t1, x1, rfl⟩ := hev.iface he
    have hGe : goneE s = eachEr (goneBad ls) ls := HG.out.trans (H2.out H0.out he)
    have HGe := Lib.hid hGe
    have HLe : Hid (goneL s = []) := Lib.hid (by rw [HL.out, hGe, if_neg he])
    clear he hJ hGe
    go_wp2_with fail
    go_ret2
    exact ⟨_, _, rfl, by rw [HGe.out]; exact hev, fun _ _ => (by rw [HLe.out]; exact At.nil _ _ _), hb2'⟩
  rw [he] at hev
  obtain rfl : ev = .nilIface := hev
  obtain ⟨v, hv, hown⟩ := hJ he
  rw [← List.dropLast_eq_take] at hown
  have H3' := Lib.hid (H3.out H0.out he)
  have H4' := Lib.hid (H4.out H0.out he)
  obtain ⟨keys, hkeys⟩ : ∃ keys, ls.dropLast.map numD = keys := ⟨_, rfl⟩
  rw [hkeys] at hown HL H3' H4'
  obtain ⟨a, c, rfl, -, -⟩ := (hown.at encI_enc).form'
  have hbx := hv.cell
  have HOwn := Lib.hid hown
  have hkl : keys.length ≤ 60000 := by rw [← hkeys, List.length_map, List.length_dropLast]; omega
  obtain ⟨v3, v8⟩ := HE1.out _ hb2'
  clear he hkeys hown HEa
  by_cases h40 : 40 < keys.length
  case pos =>
    have g : (40 : Int) < (keys.length : Int) := by omega
    have hGe : goneE s = .bare 8 := HG.out.trans (H3'.out h40)
    have HGe := Lib.hid hGe
    have HLe : Hid (goneL s = []) := Lib.hid (by rw [HL.out, hGe]; rfl)
    clear h40 hGe
    go_wp2_with fail
    go_quiet (fail)
    go_wp2_with fail
    go_ret2
    exact ⟨_, _, rfl, by rw [HGe.out]; exact ⟨by decide, rfl⟩, fun _ _ => (by rw [HLe.out]; exact At.nil _ _ _), Bdn hb2' _⟩
  have g : decide ((40 : Int) < (keys.length : Int)) = false := by simp; omega
  have hGe := HG.out.trans (H4'.out h40)
  have hFi := dataFits_any vn n0 n1 n2 n3 _ keys w2 (by have := (HOn.out.below hb12).at encI_enc; rwa [HNs.out] at this) (HOwn.out.at encI_enc) (by omega)
  rw [← HNs.out] at hFi
  have HGe := Lib.hid hGe
  have HFi := Lib.hid hFi
  clear h40 hGe hFi
  by_cases hf : fitsI ns keys
  case neg =>
    have hGe : goneE s = .bare 3 := by rw [HGe.out, if_neg hf]
    have HGe3 := Lib.hid hGe
    have HLe : Hid (goneL s = []) := Lib.hid (by rw [HL.out, hGe]; rfl)
    rw [decide_eq_false hf] at HFi
    clear hf hGe
    go_wp2_with fail
    refine HFi.out.mono ?_
    rintro e w3 ⟨rfl, hb3⟩
    have hb3' := hb2'.trans (hb3.mono hb2'.size)
    clear v3 v8
    obtain ⟨v3, v8⟩ := HE1.out _ hb3'
    go_wp2_with fail
    go_quiet (fail)
    go_wp2_with fail
    go_ret2
    exact ⟨_, _, rfl, by rw [HGe3.out]; exact ⟨by decide, rfl⟩, fun _ _ => (by rw [HLe.out]; exact At.nil _ _ _), Bdn hb3' _⟩
  have hGe : goneE s = .nil := by rw [HGe.out, if_pos hf]
  have HGe3 := Lib.hid hGe
  have HLe : Hid (goneL s = keys) := Lib.hid (by rw [HL.out, hGe, if_pos rfl])
  rw [decide_eq_true hf] at HFi
  clear hf hGe
  go_wp2_with fail
  refine HFi.out.mono ?_
  rintro e w3 ⟨rfl, hb3⟩
  have hb3' := hb2'.trans (hb3.mono hb2'.size)
  have hbx3 := (hb3.cell hv.lt).trans hbx
  clear hbx
  go_wp2_with fail
  go_ret2
  exact ⟨_, _, rfl, by rw [HGe3.out]; rfl, fun W hW => (by rw [HLe.out]; exact Own.stays3 encI_enc (HOwn.out.below hb3) (fun p hp hp2 => hW p (Nat.le_trans hb1.size hp) hp2)), hb3'⟩
theorem goneRead_any (E : Nat → Addr) (B : Nat) (s : Str) (w : World) (hE : Errs [1, 2, 3, 8, 9, 10] E B w) (hT : LNum B w) (hM : LMax B w) (hs : s.length ≤ 50000) :
    Calls Tryz.prog 19 #[S s] w fun e w' => ∃ u ev, e = .returned (.tuple #[u, ev]) ∧ ErV E w' ev (goneE s) ∧ IntsAt w' u (goneL s) ∧ Below w.heap.size w w' :=
  (goneReadFar_any E B s w hE hT hM hs).mono fun _ _ ⟨u, ev, h1, h2, h3, h4⟩ => ⟨u, ev, h1, h2, h3.here, h4⟩
end Go.Proofs.YtlfkjbdkbdcdnaaGreatDoor
namespace Go.Proofs.YtlfkjbdkbdcdnaaGreatDoor
open Go.RowKit

theorem idx_far (l : List Int) : (idxVal (fun n => decide (farN n)) l = -1 ∧ firstErr (farF l) l.length = .nil) ∨ (∃ k : Nat, idxVal (fun n => decide (farN n)) l = k ∧ firstErr (farF l) l.length = .loc 2 k) := by
  unfold idxVal
  cases h : l.findIdx? (fun n => decide (farN n)) with
  | none =>
    refine .inl ⟨rfl, firstErr_all fun j hj => ?_⟩
    have := List.findIdx?_eq_none_iff.1 h l[j] (List.getElem_mem hj)
    unfold farF
    rw [List.getElem?_eq_getElem hj]
    simp only
    rw [if_neg (by simpa using this)]
  | some k =>
    obtain ⟨hk, hp, hlt⟩ := List.findIdx?_eq_some_iff_getElem.1 h
    refine .inr ⟨k, rfl, ?_⟩
    have e : farF l k = 2 := by
      unfold farF
      rw [List.getElem?_eq_getElem hk]
      simp only
      rw [if_pos (by simpa using hp)]
    rw [firstErr_hit hk (fun j hj => ?_) (by rw [e]; decide), e]
    have := hlt j hj
    unfold farF
    rw [List.getElem?_eq_getElem (by omega)]
    simp only
    rw [if_neg (by simpa using this)]
theorem near_all {l : List Int} (h : firstErr (farF l) l.length = .nil) : ∀ n ∈ l, ¬ farN n := fun n hn hf => by
  obtain ⟨j, hj, he⟩ := List.getElem_of_mem hn
  have := firstErr_nil h j hj
  unfold farF at this
  rw [List.getElem?_eq_getElem hj, he] at this
  simp only at this
  rw [if_pos hf] at this
  cases this
set_option maxHeartbeats 2000000 in
set_option maxRecDepth 20000 in
theorem goneMake_any (E : Nat → Addr) (B : Nat) (v : Value) (l : List Int) (w : World) (hE : Errs [2, 8] E B w) (hT : LNum B w) (hl : IntsAt w v l) (hn : l.length ≤ 1000) :
    Calls Tryz.prog 18 #[v] w fun e w' => ∃ ev, e = .returned (.tuple #[S (madeT l), ev]) ∧ ErV E w' ev (madeE l) ∧ Below w.heap.size w w' := by
  have hBw := hE.le
  have hif := isIfaceE
  have hE1 := fun w1 (hb : Below w.heap.size w w1) => (⟨(hE.below' hb hBw).var 2 (by decide), (hE.below' hb hBw).var 8 (by decide)⟩ : _ ∧ _)
  simp only [errG] at hE1
  have HE1 := Lib.hid hE1
  have X := Lib.hid (fun W (h : Below w.heap.size w W) => (⟨hT.below' h hBw, hl.below h⟩ : LNum B W ∧ IntsAt W v l))
  have HK := Lib.hid (goneKeys_any v l w hl (by omega))
  have hql := risOf_len l
  obtain ⟨a, c, rfl, -, -⟩ := hl.form'
  have hI := fun W (h : Below w.heap.size w W) => indexFuncI_any 64 #[] (fun n => decide (farN n)) W.heap.size W (.slice a l.length c) l W (enters_of Tryz.func64 (by kernel_rfl) rfl) (fun W' x _ _ _ => (far_any x W').mono fun e w' h => ⟨h.1, h.2 ▸ Below.refl _ _⟩) (X.out W h).2 (Below.refl _ _) (Nat.le_refl _)
  have HI := Lib.hid hI
  have hway := idx_far l
  obtain ⟨iv, hiv⟩ : ∃ iv, idxVal (fun n => decide (farN n)) l = iv := ⟨_, rfl⟩
  rw [hiv] at hway
  simp only [hiv] at HI
  have HM : Hid (madeE l = if 40 < (risOf l).length then .bare 8 else firstErr (farF l) l.length) := Lib.hid rfl
  have HMt : Hid (madeT l = if madeE l = .nil then goneText (risOf l) else []) := Lib.hid rfl
  have hnear : firstErr (farF l) l.length = .nil → ∀ n ∈ risOf l, ¬ farN n := fun h n hn => near_all h n (mem_risOf.1 hn)
  have HNear := Lib.hid hnear
  have HWay := Lib.hid hway
  clear hE1 hl hI hiv hnear hway
  generalize risOf l = q at *
  go_enter Tryz.func18, Tryz.ntmps18
  go_wp2_with fail
  refine HK.out.mono ?_
  rintro e w1 ⟨u, rfl, hown, hb1⟩
  have hat := hown.at encI_enc
  obtain ⟨aq, cq, bq, oq, rfl, haq, hcq, hcmq, hxq⟩ := hat
  unfold maxLen at hcmq
  have HXq := Lib.hid hxq
  have HOwn := Lib.hid hown
  clear hown hxq HK
  by_cases h40 : 40 < q.length
  case pos =>
    have g : (40 : Int) < (q.length : Int) := by omega
    have hm : madeE l = .bare 8 := by rw [HM.out, if_pos h40]
    have HMe := Lib.hid hm
    have HMT : Hid (madeT l = []) := Lib.hid (by rw [HMt.out, hm]; rfl)
    obtain ⟨v2, v8⟩ := HE1.out _ hb1
    clear h40 hm
    go_wp2_with fail
    go_quiet (fail)
    go_wp2_with fail
    go_ret2
    exact ⟨_, by rw [HMT.out]; rfl, by rw [HMe.out]; exact ⟨by decide, rfl⟩, Bdn hb1 _⟩
  have g : decide ((40 : Int) < (q.length : Int)) = false := by simp; omega
  have HM2 : Hid (madeE l = firstErr (farF l) l.length) := Lib.hid (by rw [HM.out, if_neg h40])
  have hq40 : q.length ≤ 40 := by omega
  clear h40
  go_wp2_with fail
  refine (HI.out _ hb1).mono ?_
  rintro e w2 ⟨rfl, hb2⟩
  have hb2' := hb1.trans (hb2.mono hb1.size)
  obtain ⟨v2, v8⟩ := HE1.out _ hb2'
  rcases HWay.out with ⟨rfl, hfe⟩ | ⟨k, rfl, hfe⟩
  case inr =>
    have hm : madeE l = .loc 2 k := HM2.out.trans hfe
    have HMe := Lib.hid hm
    have HMT : Hid (madeT l = []) := Lib.hid (by rw [HMt.out, hm]; rfl)
    have g2 : (0 : Int) ≤ (k : Int) := by omega
    clear hm hfe
    go_wp2_with fail
    go_region
    all_goals
      go_wp2_with fail
      go_ret2
      exact ⟨_, by rw [HMT.out]; rfl, by rw [HMe.out]; exact (ErV.fresh (by decide) k w2 97 _ rfl).below (Below.refl _ _).drew, (hb2'.alloc hb2'.size _).drew⟩
  have hm : madeE l = .nil := HM2.out.trans hfe
  have HMe := Lib.hid hm
  have HMT : Hid (madeT l = wholeT kGone q (bodyT (q.map Lib.itoa))) := Lib.hid (by rw [HMt.out, if_pos hm]; rfl)
  have HNr := Lib.hid (HNear.out hfe)
  clear hm hfe v2 v8
  go_wp2_with fail
  go_loopw [6, 26] (fun u i wr => ∃ (k : Nat) (vl : Value), k ≤ q.length ∧ i = .int .i64 k ∧ vl = u ∧ Own encS 9 1 w2.heap.size wr vl ((q.take k).map Lib.itoa) ∧ Below w2.heap.size w2 wr) (fun _ i _ => q.length - (intOf i).toNat)
  case atStart => exact ⟨0, _, by omega, rfl, rfl, Own.nil _ _ _ _ _, Below.refl _ _⟩
  case round =>
    obtain ⟨k, vl, hk, rfl, rfl, hvl, hb⟩ := hrel
    obtain ⟨wo, rfl⟩ : ∃ wo, wo = wr := ⟨wr, rfl⟩
    have hbw := hb2'.trans (hb.mono hb2'.size)
    have hb1o := hb2.trans (hb.mono hb2.size)
    by_cases hlt : k < q.length
    case neg =>
      obtain rfl : k = q.length := by omega
      rw [List.take_length] at hvl
      have f : decide ((q.length : Int) < (q.length : Int)) = false := by simp
      obtain ⟨e1, e2⟩ := ends_within (B := 1073741824) (by omega) fun x hx => near (HNr.out x hx)
      have hbl := body_len (m := 21) (ls := q.map Lib.itoa) fun s hs => by
        obtain ⟨n, hn', rfl⟩ := List.mem_map.1 hs
        have := near (HNr.out n hn')
        exact itoa_len n (by omega) (by omega)
      rw [List.length_map] at hbl
      have HWh := Lib.hid (dataWhole_any B kGone _ q _ (q.map Lib.itoa) wo (X.out _ hbw).1 (by decide) ((HOwn.out.below hb1o).at encI_enc) (hvl.at encS_enc) (by omega) (by rw [List.length_map]; omega) (by omega) (by omega))
      clear e1 e2 hbl hvl
      go_wp2_with fail
      refine HWh.out.mono ?_
      rintro e w4 ⟨rfl, hb4⟩
      go_wp2_with fail
      go_ret2
      exact ⟨_, by rw [HMT.out]; rfl, by rw [HMe.out]; rfl, hbw.trans (hb4.mono hbw.size)⟩
    obtain ⟨x, hxk⟩ := get_ex hlt
    have c1 := HXq.out k x hxk 0 _ rfl
    have c1 := (hb1o.cell (World.block_lt_of_cell? w1 _ c1)).trans c1
    have i1 := idx_at (c := cq) 1 Tryz.underlying39 szInt haq k hlt
    have hk1 : (k : Int) < (q.length : Int) := by omega
    simp only [Nat.mul_one, Nat.add_zero] at c1 i1
    have hnx := near (HNr.out x (List.mem_of_getElem? hxk))
    have HIt := Lib.hid (itoa_any B x (by omega) (by omega) wo (X.out _ hbw).1)
    have HSn : Hid ((q.take (k + 1)).map Lib.itoa = (q.take k).map Lib.itoa ++ [Lib.itoa x]) := Lib.hid (by rw [take_snoc' hxk, List.map_append]; rfl)
    obtain ⟨ls, hls⟩ : ∃ ls, (q.take k).map Lib.itoa = ls := ⟨_, rfl⟩
    have hlsl : ls.length ≤ 40 := by rw [← hls, List.length_map, List.length_take]; omega
    rw [hls] at hvl HSn
    clear hxk hnx hls
    generalize Lib.itoa x = tx at *
    go_wp2_with fail
    refine HIt.out.mono ?_
    rintro e w3 ⟨rfl, hb3⟩
    have hb3' := hb.trans (hb3.mono hb.size)
    have hvl3 := hvl.below hb3
    go_wp2_with (at_builtin; refine wpList_app rfl _ _ _ rfl w2.heap.size elStr vl ls.length _ rfl (hvl3.alloc _) (.slice (some ⟨w3.heap.size, 0, none⟩) 1 1) 1 (encS tx) rfl (src_one rfl rfl (by simp [Value.oneCell'])) (by unfold maxLen; omega) (by omega) (by have := hb3'.size; simp; omega) ?_; intro v5 w5 hown5 hg5 _)
    go_roundw
    case rel => exact ⟨k + 1, _, by omega, by go_num, rfl, by rw [HSn.out]; exact Own.snoc hown5, Bapp (hb3'.alloc hb3'.size _) (hvl3.alloc _) hg5 (Nat.le_refl _) (by have := hb3'.size; simp; omega)⟩
    case measure => simp [intOf]; omega
end Go.Proofs.YtlfkjbdkbdcdnaaGreatDoor
namespace Go.Proofs.YtlfkjbdkbdcdnaaGreatDoor
open Go.RowKit
attribute [local go_sem] bapp

theorem bytes_conv (w : World) (t : TypeId) (n : Int) : (convert 46 9 (.slice (some ⟨w.heap.size, 0, none⟩) 1 1)).run Tryz.prog (w.alloc (.cells #[.int .u8 n] t)) = .ok (.string ⟨#[UInt8.ofNat n.toNat]⟩) (w.alloc (.cells #[.int .u8 n] t)) := by
  rw [run_convert_bytes_arg _ 46 5 Tryz.underlying46 Tryz.underlying5 w.heap.size 0 1 1 [n] rfl ?_ 9 Tryz.underlying9]
  · rfl
  · intro i hi
    obtain rfl : i = 0 := by omega
    simp

set_option maxRecDepth 100000 in
theorem byte_any (n : Int) (h0 : 0 ≤ n) (h1 : n ≤ 255) (w : World) :
    Calls Tryz.prog 163 #[.int .i64 n] w fun e w' => e = .returned (S [UInt8.ofNat n.toNat]) ∧ Below w.heap.size w w' := by
  have hcv := bytes_conv w 5 n
  have hw : IntKind.u8.wrap n = n := by
    show n % 256 = n
    omega
  go_enter Tryz.func163, Tryz.ntmps163
  go_wp2_with fail
  go_ret
  exact ⟨rfl, (Below.refl _ _).alloc (Nat.le_refl _) _⟩

theorem decDigits_big {u : Nat} (h : ¬ u < 10) : Lib.decDigits u = Lib.decDigits (u / 10) ++ [UInt8.ofNat (48 + u % 10)] := by
  rw [Lib.decDigits, dif_neg h]
theorem digits_len (u : Nat) (h : u ≤ 9223372036854775808) : (Lib.decDigits u).length ≤ 20 := by
  have := Lib.itoa_length_le (-(u : Int)) (by omega) (by omega)
  rcases Nat.eq_zero_or_pos u with rfl | hp
  · rw [Lib.decDigits_one (by omega)]; simp
  · rw [Lib.itoa_neg u hp] at this; simp at this; omega

theorem below_any (k : Nat) : ∀ (n : Int) (w : World), n.natAbs ≤ k → n ≤ 0 → -9223372036854775808 ≤ n →
    Calls Tryz.prog 124 #[.int .i64 n] w fun e w' => e = .returned (S (Lib.decDigits n.natAbs)) ∧ Below w.heap.size w w' := by
  induction k with
  | zero =>
    intro n w hk h0 hlo
    obtain rfl : n = 0 := by omega
    go_enter Tryz.func124, Tryz.ntmps124
    go_wp2_with fail
    refine (byte_any _ (by decide) (by decide) _).mono ?_
    rintro e w1 ⟨rfl, hb⟩
    go_wp2_with fail
    go_ret
    exact ⟨by simp [Lib.decDigits_one], hb⟩
  | succ k ih =>
    intro n w hk h0 hlo
    by_cases hn : -10 < n
    · have hd : Lib.decDigits n.natAbs = [UInt8.ofNat (48 - n).toNat] := by
        rw [Lib.decDigits_one (by omega)]
        congr 2; omega
      have Hd := Lib.hid hd; clear hd
      have Ih := Lib.hid ih; clear ih
      go_enter Tryz.func124, Tryz.ntmps124
      go_wp2_with fail
      refine (byte_any _ (by omega) (by omega) _).mono ?_
      rintro e w1 ⟨rfl, hb⟩
      go_wp2_with fail
      go_ret
      exact ⟨by rw [Hd.out]; rfl, hb⟩
    · have hq : (n.tdiv 10).natAbs = n.natAbs / 10 := by rw [Int.natAbs_tdiv]; rfl
      have hr : (n.tmod 10).natAbs = n.natAbs % 10 := by rw [Int.natAbs_tmod]; rfl
      have hq0 : n.tdiv 10 ≤ 0 := by
        have := Int.tdiv_nonneg (a := -n) (b := 10) (by omega) (by omega)
        rw [Int.neg_tdiv] at this; omega
      have hr0 : n.tmod 10 ≤ 0 := by
        have := Int.tmod_nonneg (a := -n) 10 (by omega)
        rw [Int.neg_tmod] at this; omega
      have hd : Lib.decDigits n.natAbs = Lib.decDigits (n.tdiv 10).natAbs ++ [UInt8.ofNat (48 - n.tmod 10).toNat] := by
        rw [decDigits_big (by omega), hq]
        congr 3; omega
      have hl := digits_len (n.tdiv 10).natAbs (by omega)
      have hrl : -9 ≤ n.tmod 10 := by omega
      have hql : -9223372036854775808 ≤ n.tdiv 10 := by omega
      have hqk : (n.tdiv 10).natAbs ≤ k := by omega
      have Hd := Lib.hid hd; clear hd hq hr
      have Ih := Lib.hid ih; clear ih
      go_enter Tryz.func124, Tryz.ntmps124
      go_wp2_with fail
      refine (Ih.out _ _ hqk hq0 hql).mono ?_
      rintro e w1 ⟨rfl, hb⟩
      generalize Lib.decDigits (n.tdiv 10).natAbs = q at hl Hd ⊢
      go_wp2_with fail
      refine (byte_any _ (by omega) (by omega) _).mono ?_
      rintro e w2 ⟨rfl, hb2⟩
      go_wp2_with fail
      go_ret
      exact ⟨by rw [Hd.out]; rfl, hb.trans (hb2.mono hb.size)⟩

theorem decimalE_any (n : Int) (w : World) (h0 : -9223372036854775808 ≤ n) (h1 : n ≤ 9223372036854775807) :
    Calls Tryz.prog 78 #[.int .i64 n] w fun e w' => e = .returned (S (Lib.itoa n)) ∧ Below w.heap.size w w' := by
  by_cases hn : n < 0
  · have hd : Lib.itoa n = 45 :: Lib.decDigits n.natAbs := if_pos hn
    have hl := digits_len n.natAbs (by omega)
    have Hd := Lib.hid hd; clear hd
    go_enter Tryz.func78, Tryz.ntmps78
    go_wp2_with fail
    refine (below_any _ n _ (Nat.le_refl _) (by omega) (by omega)).mono ?_
    rintro e w1 ⟨rfl, hb⟩
    go_wp2_with fail
    go_ret
    exact ⟨by rw [Hd.out]; rfl, hb⟩
  · have hd : Lib.itoa n = Lib.decDigits (-n).natAbs := by
      unfold Lib.itoa; rw [if_neg hn]; congr 1; omega
    have hn' : 0 ≤ n := by omega
    have Hd := Lib.hid hd; clear hd hn
    go_enter Tryz.func78, Tryz.ntmps78
    go_wp2_with fail
    refine (below_any _ (-n) _ (Nat.le_refl _) (by omega) (by omega)).mono ?_
    rintro e w1 ⟨rfl, hb⟩
    rw [← Hd.out]
    go_wp2_with fail
    go_ret
    exact ⟨rfl, hb⟩
theorem decimal_any (n : Int) (w : World) (h0 : -9223372036854775808 < n) (h1 : n ≤ 9223372036854775807) :
    Calls Tryz.prog 78 #[.int .i64 n] w fun e w' => e = .returned (S (Lib.itoa n)) ∧ Below w.heap.size w w' :=
  decimalE_any n w (Int.le_of_lt h0) h1
end Go.Proofs.YtlfkjbdkbdcdnaaGreatDoor
